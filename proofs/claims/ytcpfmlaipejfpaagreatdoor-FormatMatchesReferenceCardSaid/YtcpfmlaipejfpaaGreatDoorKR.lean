/-
  Formats of chapter 4: the reference's Same, Least, Find.
-/
import Derived.Test.YtcpfmlaipejfpaaGreatDoorK4
import Derived.Test.YtcpfmlaipejfpaaGreatDoorKB
namespace Go.Proofs.YtcpfmlaipejfpaaGreatDoor
open Go.RowKit Go.Shelf Go.Maps

attribute [local go_sem] Oper.semAt_some

theorem ne_of_get {l m : List Fmt} {i : Nat} (h : l[i]! ≠ m[i]!) : l ≠ m := fun e => h (by rw [e])
theorem eq_of_get {l m : List Fmt} (hl : l.length = m.length) (h : ∀ j, j < l.length → l[j]! = m[j]!) : l = m := by
  refine List.ext_getElem hl (fun j h1 h2 => ?_)
  have := h j h1
  rwa [getElem!_pos l j h1, getElem!_pos m j h2] at this
theorem feq_of_get {l m : List Fld} (hl : l.length = m.length) (h : ∀ j, j < l.length → l[j]! = m[j]!) : l = m := by
  refine List.ext_getElem hl (fun j h1 h2 => ?_)
  have := h j h1
  rwa [getElem!_pos l j h1, getElem!_pos m j h2] at this
set_option maxRecDepth 100000 in
set_option maxHeartbeats 8000000 in
theorem sameR_any (u v : Value) (l m : List Fmt) (w : World) (hu : Fmts w u l) (hv : Fmts w v m) :
    Calls Tryz.prog 17 #[u, v] w fun e w' => e = .returned (.bool (decide (l = m))) ∧ Below w.heap.size w w' := by
  obtain ⟨ua, uc, rfl, _, _⟩ := hu.val
  obtain ⟨va, vc, rfl, _, _⟩ := hv.val
  have hll := hu.in_.len
  have hml := hv.in_.len
  by_cases hlen : l.length = m.length
  · have hd : ((l.length : Int) != (m.length : Int)) = false := by simp [hlen]
    have hAu := Lib.hid fun (W : World) (hb : Below w.heap.size w W) i (hi : i < l.length) => (hu.later hb).at hi
    have hAv := Lib.hid fun (W : World) (hb : Below w.heap.size w W) i (hi : i < m.length) => (hv.later hb).at hi
    clear hu hv
    have hns := Lib.hid run_ne_fld
    have hlenh := Lib.hid hlen
    clear hlen
    go_enter Tryz.func17, Tryz.ntmps17
    go_wp2_with fail
    go_loopw [5] (fun iv wr => ∃ i : Nat, i ≤ l.length ∧ iv = .int .i64 (i : Int) ∧ Hid (Below w.heap.size w wr ∧ ∀ j, j < i → l[j]! = m[j]!)) (fun iv _ => l.length - (intOf iv).toNat)
    case atStart => exact ⟨0, Nat.zero_le _, rfl, (show Hid _ from ⟨Below.refl _ _, fun j hj => absurd hj (Nat.not_lt_zero _)⟩)⟩
    case round =>
      obtain ⟨i, hi, rfl, hI⟩ := hrel
      obtain ⟨wo, hwo⟩ : ∃ wo, wo = wr := ⟨_, rfl⟩
      subst hwo
      by_cases hlt : i < l.length
      · have hdl : decide ((i : Int) < (l.length : Int)) = true := decide_eq_true (by omega)
        have i0 : (0 : Int) ≤ (i : Int) := by omega
        have i1 : (i : Int) < (l.length : Int) := by omega
        have i2 : (i : Int) < (m.length : Int) := by have := hlenh.out; omega
        have hltm : i < m.length := by omega
        have hwi : IntKind.i64.wrap ((i : Int) + 1) = ((i + 1 : Nat) : Int) := by rw [Int.natCast_succ]; exact IntWalk.i64_in _ (by omega)
        obtain ⟨fb, fo, cap, fa, fcap, e, x0, x1, _, hfl, _⟩ := hAu.out wo hI.out.1 i hlt
        injection e with e1 _ e3
        subst e1 e3
        obtain ⟨gb, go, cap', ga, gcap, e, y0, y1, _, hgl, _⟩ := hAv.out wo hI.out.1 i hltm
        injection e with e1 _ e3
        subst e1 e3
        have hne := Lib.hid (ne_of_get (l := l) (m := m) (i := i))
        have hAui := Lib.hid fun (W : World) (hb : Below w.heap.size w W) => hAu.out W hb i hlt
        have hAvi := Lib.hid fun (W : World) (hb : Below w.heap.size w W) => hAv.out W hb i hltm
        obtain ⟨f, hf⟩ : ∃ f, f = l[i]! := ⟨_, rfl⟩
        obtain ⟨g, hg⟩ : ∃ g, g = m[i]! := ⟨_, rfl⟩
        rw [← hf] at x0 x1 hfl hne hAui
        rw [← hg] at y0 y1 hgl hne hAvi
        obtain ⟨fid, fs⟩ := f
        obtain ⟨gid, gs⟩ := g
        dsimp only at x0 x1 y0 y1 hfl hgl
        replace hf := Lib.hid hf
        replace hg := Lib.hid hg
        by_cases hid : fid = gid
        · subst hid
          have hq : (fid != fid) = false := by simp
          by_cases hfg : fs.length = gs.length
          · have hq2 : ((fs.length : Int) != (gs.length : Int)) = false := by simp [hfg]
            replace hfg := Lib.hid hfg
            go_wp2_with fail
            go_quiet (fail)
            go_wp2_with fail
            refine name_wp ?_
            intro wB hwB
            have hBB : Hid (Below w.heap.size w wB) := by show Below _ _ _; rw [hwB]; exact below_drewN hI.out.1 _
            clear hwB
            go_loopw [6] (fun kv wx => ∃ k : Nat, k ≤ fs.length ∧ kv = .int .i64 (k : Int) ∧ Hid (Below w.heap.size w wx ∧ ∀ j, j < k → fs[j]! = gs[j]!)) (fun kv _ => fs.length - (intOf kv).toNat)
            case atStart => exact ⟨0, Nat.zero_le _, rfl, (show Hid _ from ⟨hBB.out, fun j hj => absurd hj (Nat.not_lt_zero _)⟩)⟩
            case round =>
              obtain ⟨k, hk, rfl, hK⟩ := hrel
              obtain ⟨fb2, fo2, cap2, fa2, fcap2, e, _, u1, _, _, hx⟩ := hAui.out wr hK.out.1
              injection e with e1 _ e3
              injection e1 with e1
              injection e1 with e4 e5
              subst e4 e5 e3
              obtain ⟨gb2, go2, cap2', ga2, gcap2, e, _, v1, _, _, hy⟩ := hAvi.out wr hK.out.1
              injection e with e1 _ e3
              injection e1 with e1
              injection e1 with e4 e5
              subst e4 e5 e3
              by_cases hlk : k < fs.length
              · have hdk : decide ((k : Int) < (fs.length : Int)) = true := decide_eq_true (by omega)
                have hltg : k < gs.length := by have := hfg.out; omega
                have k0 : (0 : Int) ≤ (k : Int) := by omega
                have k1 : (k : Int) < (fs.length : Int) := by omega
                have k2 : (k : Int) < (gs.length : Int) := by omega
                have hwk : IntKind.i64.wrap ((k : Int) + 1) = ((k + 1 : Nat) : Int) := by rw [Int.natCast_succ]; exact IntWalk.i64_in _ (by omega)
                obtain ⟨pb, po, rfl, z0, z1, z2, z3, _⟩ := hx k hlk
                obtain ⟨qb, qo, rfl, t0, t1, t2, t3, _⟩ := hy k hltg
                have hnk := hns.out fs[k]! gs[k]!
                have hfe : Hid (fs[k]! ≠ gs[k]! → l ≠ m) := fun h => hne.out fun e => h (by injection e with _ e; rw [e])
                obtain ⟨x, hxe⟩ : ∃ x, x = fs[k]! := ⟨_, rfl⟩
                obtain ⟨y, hye⟩ : ∃ y, y = gs[k]! := ⟨_, rfl⟩
                rw [← hxe] at z0 z1 z2 z3 hnk hfe
                rw [← hye] at t0 t1 t2 t3 hnk hfe
                replace hxe := Lib.hid hxe
                replace hye := Lib.hid hye
                unfold fldC at hnk
                cases hxy : fldB x y with
                | true =>
                  rw [hxy] at hnk
                  have hstep : Hid (fs[k]! = gs[k]!) := by show _ = _; rw [← hxe.out, ← hye.out]; exact (fldB_iff _ _).1 hxy
                  replace hxy := Lib.hid hxy
                  go_wp2_with fail
                  go_quiet (fail)
                  go_wp2_with fail
                  refine ⟨⟨k + 1, by omega, by first | rfl | go_num, (show Hid _ from ⟨below_drewN hK.out.1 _, fun j hj => ?_⟩)⟩, by simp [intOf]; omega⟩
                  by_cases e : j = k
                  · rw [e]; exact hstep.out
                  · exact hK.out.2 j (by omega)
                | false =>
                  rw [hxy] at hnk
                  have hres : Hid (decide (l = m) = false) := decide_eq_false (hfe.out fun e => by
                    rw [(fldB_iff x y).2 e] at hxy
                    cases hxy)
                  replace hxy := Lib.hid hxy
                  go_wp2_with fail
                  go_quiet (fail)
                  go_wp2_with fail
                  go_ret
                  exact ⟨by rw [hres.out]; rfl, below_drewN hK.out.1 _⟩
              · have hdk : decide ((k : Int) < (fs.length : Int)) = false := decide_eq_false (by omega)
                have hnx : Hid (l[i]! = m[i]!) := by
                  show _ = _
                  rw [← hf.out, ← hg.out, feq_of_get hfg.out fun j hj => hK.out.2 j (by omega)]
                go_wp2_with fail
                refine ⟨⟨i + 1, by omega, by first | rfl | go_num, (show Hid _ from ⟨hK.out.1, fun j hj => ?_⟩)⟩, by simp [intOf]; omega⟩
                by_cases e : j = i
                · rw [e]; exact hnx.out
                · exact hI.out.2 j (by omega)
          · have hq2 : ((fs.length : Int) != (gs.length : Int)) = true := by simp; omega
            have hres : Hid (decide (l = m) = false) := decide_eq_false (hne.out fun e => hfg (by injection e with _ e; rw [e]))
            replace hfg := Lib.hid hfg
            go_wp2_with fail
            go_quiet (fail)
            go_wp2_with fail
            go_ret
            exact ⟨by rw [hres.out]; rfl, below_drewN hI.out.1 _⟩
        · have hq : (fid != gid) = true := by simpa using hid
          have hres : Hid (decide (l = m) = false) := decide_eq_false (hne.out fun e => hid (by injection e))
          replace hid := Lib.hid hid
          go_wp2_with fail
          go_quiet (fail)
          go_wp2_with fail
          go_ret
          exact ⟨by rw [hres.out]; rfl, below_drewN hI.out.1 _⟩
      · have hdl : decide ((i : Int) < (l.length : Int)) = false := decide_eq_false (by omega)
        have hres : Hid (decide (l = m) = true) := decide_eq_true (eq_of_get hlenh.out fun j hj => hI.out.2 j (by omega))
        go_wp2_with fail
        go_ret
        exact ⟨by rw [hres.out]; rfl, hI.out.1⟩
  · have hd : ((l.length : Int) != (m.length : Int)) = true := by simp; omega
    have hres : Hid (decide (l = m) = false) := decide_eq_false fun e => hlen (by rw [e])
    clear hu hv
    go_enter Tryz.func17, Tryz.ntmps17
    go_wp2_with fail
    go_ret
    exact ⟨by rw [hres.out]; rfl, Below.refl _ _⟩
end Go.Proofs.YtcpfmlaipejfpaaGreatDoor
