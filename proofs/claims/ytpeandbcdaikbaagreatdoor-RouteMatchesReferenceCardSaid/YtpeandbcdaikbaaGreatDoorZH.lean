/-
 Routes of chapter 11: the law RouteMatchesReference's numbers and cut.
 Routes of chapter 11: made, whose edges lie in a row of its own.
 Routes of chapter 11: edges with one replaced, in a row of the call's own.
 Routes of chapter 11: both Bests' rows, and Of, as the law RouteMatchesReference reads them.
-/
import Derived.Test.YtpeandbcdaikbaaGreatDoorZG
import Derived.Test.YtpeandbcdaikbaaGreatDoorYW
open List (setIfInBounds_toArray set_cons_zero set_cons_succ)
namespace Go.Proofs.YtpeandbcdaikbaaGreatDoor
open Go.RowKit Go.Shelf Go.Maps

attribute [local go_sem] Oper.semAt_some

theorem numbers_any (a : Option Addr) (c : Nat) (l : List Int) (w : World) (hv : NumsAt w w.heap.size (.slice a l.length c) l) :
  Calls Tryz.prog 12 #[.slice a l.length c] w fun e w' => e = .returned (.slice a (l.take 8).length c) ∧ NumsAt w w.heap.size (.slice a (l.take 8).length c) (l.take 8) ∧ w' = w := by
 have htk : NumsAt w w.heap.size (.slice a (l.take 8).length c) (l.take 8) := by
  have h := SliceAt.takeS (s := 1) hv (q := min l.length 8) (by omega)
  unfold NumsAt
  rw [List.length_take, Nat.min_comm, List.map_take]
  rw [Nat.mul_one] at h
  have e : (l.map (Value.int .i64)).take (min l.length 8) = (l.map (Value.int .i64)).take 8 := by
   by_cases q : l.length ≤ 8
   ·
    rw [Nat.min_eq_left q, List.take_of_length_le (by simp), List.take_of_length_le (by simp; exact q)]
   ·
    rw [Nat.min_eq_right (by omega)]
  rw [e] at h
  exact h
 obtain ⟨a', cap, e, h1, h2, _⟩ := hv
 injection e with e1 _ e3
 subst e1 e3
 obtain ⟨m, hm⟩ : ∃ m : Nat, min (l.length : Int) 8 = (m : Int) := ⟨min l.length 8, by omega⟩
 have hml : (l.take 8).length = m := by rw [List.length_take]; omega
 have q0 : (0 : Int) ≤ (m : Int) := by omega
 have q1 : m ≤ l.length := by omega
 have q2 : (m : Int) ≤ (l.length : Int) := by omega
 have q3 : (m : Int) ≤ (c : Int) := by omega
 have q4 : m ≤ c := by omega
 rw [hml] at htk ⊢
 replace hml := Lib.hid hml
 replace htk := Lib.hid htk
 go_enter Tryz.func12, Tryz.ntmps12
 go_wp2_with fail
 go_ret
 exact ⟨rfl, htk.out, rfl⟩
/-- Claims cut to few, each to few steps. -/
def cutC (l : Clms) : Clms := (l.take 10).map fun c => (c.1, c.2.take 10)
def cutTo (l : Clms) (i : Nat) : Clms := (l.take i).map fun c => (c.1, c.2.take 10)
theorem cutTo_succ {l : Clms} {i : Nat} (hi : i < l.length) : cutTo l (i + 1) = cutTo l i ++ [(l[i]!.1, l[i]!.2.take 10)] := by
 unfold cutTo
 rw [List.take_succ_eq_append_getElem hi, List.map_append, getElem!_pos l i hi]
 rfl
theorem cutC_props {l : Clms} {P : Int → Prop} (h : ∀ c ∈ l, P c.1) : ∀ c ∈ cutC l, P c.1 := fun c hc => by
 obtain ⟨x, hx, rfl⟩ := List.mem_map.1 hc
 exact h x (List.mem_of_mem_take hx)
/-- Claims in a row of the call's own, whose steps lie in what was there. -/
structure CutI (B : Nat) (w wr : World) (v : Value) (l : Clms) (us : List Value) : Prop where
 len : us.length = l.length
 own : wr.ownsRow w.heap.size 59 2 v l.length (clC l us)
 steps : ∀ i, i < l.length → StepsAt w B us[i]! l[i]!.2
 below : Below w.heap.size w wr
theorem CutI.later {B : Nat} {w wr wn : World} {v : Value} {l : Clms} {us : List Value} (h : CutI B w wr v l us) (hb : Below wr.heap.size wr wn) : CutI B w wn v l us :=
 ⟨h.len, own_below h.own hb, h.steps, h.below.trans (hb.mono h.below.size)⟩
theorem CutI.at {B : Nat} {w wr : World} {v : Value} {l : Clms} {us : List Value} (h : CutI B w wr v l us) (hB : B ≤ w.heap.size) : ClaimsAt wr wr.heap.size v l :=
 ⟨us, h.len, sliceAt_of_own h.own, fun i hi => SliceAt.more (SliceAt.below (h.steps i hi) h.below hB) (Nat.le_trans hB h.below.size)⟩
theorem CutI.snoc {B : Nat} {w wr wn : World} {v v' : Value} {l : Clms} {us : List Value} (h : CutI B w wr v l us) (p : Int) (s : List Stp) (u : Value) (hu : StepsAt w B u s)
  (hown : wn.ownsRow w.heap.size 59 2 v' (l.length + 1) (clC l us ++ [.int .i64 p, u])) (hg : wr.grownBy wn v.ownBlock) : CutI B w wn v' (l ++ [(p, s)]) (us ++ [u]) := by
 refine ⟨by simp [h.len], by rw [List.length_append, List.length_singleton, clC_snoc l us (p, s) u h.len]; exact hown, fun i hi => ?_, h.below.grown hg h.below.size (fun g hq => (own_block h.own hq).2.1)⟩
 rw [List.length_append, List.length_singleton] at hi
 by_cases q : i < l.length
 ·
  rw [snoc_lt us u (by rw [h.len]; exact q), snoc_lt l _ q]
  exact h.steps i q
 ·
  obtain rfl : i = l.length := by omega
  rw [snoc_at l (p, s)]
  have := snoc_at us u
  rw [h.len] at this
  rw [this]
  exact hu
set_option maxRecDepth 100000 in
set_option maxHeartbeats 4000000 in
theorem cut_any (v : Value) (l : Clms) (B : Nat) (w : World) (hBw : B ≤ w.heap.size) (hv : ClaimsAt w B v l) :
  Calls Tryz.prog 13 #[v] w fun e w' => ∃ v' us, e = .returned v' ∧ CutI B w w' v' (cutC l) us := by
 obtain ⟨c0, hc_, hy0, hy1, hy2⟩ := info_parts Tryz.info_claim
 replace hc_ := Lib.hid hc_
 have hcell := Lib.hid fun i (hi : i < l.length) => ClaimsAt.cells hv hi
 obtain ⟨_, _, ⟨va, vc, rfl, _, hvm, _⟩, _⟩ := hv
 have hst : Hid (∃ us, CutI B w w (.slice none 0 0) (cutTo l 0) us) := ⟨[], rfl, World.ownsRow_nil _ _ _ _, fun i hi => absurd hi (by simp [cutTo]), Below.refl _ _⟩
 go_enter Tryz.func13, Tryz.ntmps13
 go_wp2_with fail
 go_loopw [3, 4] (fun ov iv wr => ∃ i : Nat, i ≤ l.length ∧ i ≤ 10 ∧ iv = .int .i64 (i : Int) ∧ Hid (∃ us, CutI B w wr ov (cutTo l i) us)) (fun _ iv _ => 10 - (intOf iv).toNat)
 case atStart => exact ⟨0, Nat.zero_le _, by omega, rfl, hst⟩
 case round =>
  obtain ⟨i, hi, hi10, rfl, hall⟩ := hrel
  clear hst
  obtain ⟨us, hI⟩ := hall.out
  clear hall
  by_cases hlt : i < l.length
  ·
   have d1 : decide ((i : Int) < (l.length : Int)) = true := decide_eq_true (by omega)
   by_cases h10 : i < 10
   ·
    have d2 : decide ((i : Int) < 10) = true := decide_eq_true (by omega)
    have hw1 : IntKind.i64.wrap ((i : Int) + 1) = (i : Int) + 1 := IntWalk.i64_in _ (by omega)
    have k0 : (0 : Int) ≤ (i : Int) := by omega
    have k1 : (i : Int) < (l.length : Int) := by omega
    obtain ⟨b1, o1, cp, u, hv1, hbl, x0, x1, hs⟩ := hcell.out i hlt
    cases hv1
    replace hbl := Nat.lt_of_lt_of_le hbl hBw
    replace x0 := (hI.below.cell (p := ⟨b1, o1 + i * 2, none⟩) hbl).trans x0
    replace x1 := (hI.below.cell (p := ⟨b1, o1 + i * 2 + 1, none⟩) hbl).trans x1
    have hsuc := cutTo_succ hlt
    have hcl : (cutTo l i).length = i := by unfold cutTo; rw [List.length_map, List.length_take]; omega
    have hss := hs
    obtain ⟨ua, uc, rfl, hul, hum, _⟩ := hs
    generalize hx : l[i]! = x at *
    obtain ⟨p, s⟩ := x
    dsimp only at x0 x1 hss hsuc hul
    obtain ⟨m, hm⟩ : ∃ m : Nat, min (s.length : Int) 10 = (m : Int) := ⟨min s.length 10, by omega⟩
    have hml : (s.take 10).length = m := by rw [List.length_take]; omega
    have q0 : (0 : Int) ≤ (m : Int) := by omega
    have q1 : m ≤ s.length := by omega
    have q2 : (m : Int) ≤ (s.length : Int) := by omega
    have q3 : (m : Int) ≤ (uc : Int) := by omega
    have q4 : m ≤ uc := by omega
    have hst : StepsAt w B (.slice ua m uc) (s.take 10) := by
     have h := SliceAt.takeS (s := 2) hss (q := m) q1
     unfold StepsAt
     rw [hml]
     have e : (stL s).take (m * 2) = stL (s.take 10) := by
      have h1 : stL s = stL (s.take 10) ++ stL (s.drop 10) := by rw [← stL_app, List.take_append_drop]
      rw [h1, List.take_append_of_le_length (by rw [stL_len, hml]; exact Nat.le_refl _), List.take_of_length_le (by rw [stL_len, hml]; exact Nat.le_refl _)]
     rw [e] at h
     exact h
    obtain ⟨ox, on, oc, rfl⟩ : ∃ x n c, u3 = .slice x n c := by
     obtain ⟨x, c, e⟩ := own_val hI.own
     exact ⟨x, _, c, e⟩
    obtain ⟨wb, hwb⟩ : ∃ wb, wb = wr.alloc (.cells #[.int .i64 p, .slice ua s.length uc] 59) := ⟨_, rfl⟩
    have hbb : Below wr.heap.size wr wb := by rw [hwb]; exact lit_below _ _
    have hB : Arr wb wr.heap.size 59 [.int .i64 p, .slice ua s.length uc] := by rw [hwb]; exact Arr.new rfl rfl
    have hne : (Value.slice ox on oc).ownBlock ≠ some wr.heap.size := fun e => by have := (own_block hI.own e).1; omega
    have hIb := hI.later hbb
    have b0 := hB.cell (j := 0) rfl
    have b1' := hB.cell (j := 1) rfl
    have fb1 := hB.free 1
    have hB2 : Arr (wb.setCell ⟨wr.heap.size, 1, none⟩ (.slice ua m uc)) wr.heap.size 59 [.int .i64 p, .slice ua m uc] := hB.set 1 _
    have hI2 : CutI B w (wb.setCell ⟨wr.heap.size, 1, none⟩ (.slice ua m uc)) (.slice ox on oc) (cutTo l i) us := ⟨hIb.len, ownsRow_setCell_other hIb.own hne _, hIb.steps, hIb.below.setCell (p := ⟨wr.heap.size, 1, none⟩) hI.below.size _⟩
    replace hx := Lib.hid hx
    replace hss := Lib.hid hss
    replace hst := Lib.hid hst
    replace hsuc := Lib.hid hsuc
    replace hcl := Lib.hid hcl
    replace hml := Lib.hid hml
    replace hB := Lib.hid hB
    replace hI2 := Lib.hid hI2
    replace hB2 := Lib.hid hB2
    clear hI hIb hne hbb
    go_upto_region 6 with fail
    rw [← hwb]
    clear hwb
    go_upto_region 7 with fail
    clear b0 b1' fb1 x0 x1
    replace hm := Lib.hid hm
    obtain ⟨wc2, hwc2⟩ : ∃ wc2, wc2 = wb.setCell ⟨wr.heap.size, 1, none⟩ (.slice ua m uc) := ⟨_, rfl⟩
    rw [← hwc2] at hI2 hB2 ⊢
    clear hwc2
    have b0 := hB2.out.cell (j := 0) rfl
    have b1' := hB2.out.cell (j := 1) rfl
    have hba := lit_below wc2 (.cells #[.int .i64 p, .slice ua m uc] 59)
    have hI3 := Lib.hid (hI2.out.later hba)
    have hown := hI3.out.own
    rw [hcl.out] at hown
    replace hown := Lib.hid hown
    have hnews : ∀ j y, [Value.int .i64 p, .slice ua m uc][j]? = some y → (wc2.alloc (.cells #[.int .i64 p, .slice ua m uc] 59)).cell? ((⟨wc2.heap.size, 0, none⟩ : Addr).add j) = some y := fun j y hy => cells_new wc2 [Value.int .i64 p, .slice ua m uc] 59 j y hy
    have hsz : Hid (w.heap.size ≤ wc2.heap.size) := hI2.out.below.size
    clear hI2 hba
    go_wp2_with (at_builtin; refine wpList_append_own _ rfl _ _ 31 rfl w.heap.size 59 c0 (.agg #[.int .i64 0, .slice none 0 0]) 2 32 Tryz.underlying31 hc_.out hy0 hy1 hy2 rfl (by decide) _ i _ rfl hown.out ⟨wc2.heap.size, 0, none⟩ 1 1 [.int .i64 p, .slice ua m uc] rfl rfl hnews (by simp [Value.oneCell']) ?qa ?qb ?qc ?_)
    case qa => unfold maxLen; omega
    case qb => omega
    case qc => have := hsz.out; (try simp only [World.size_alloc]); omega
    intro v2 wn hown4 hgrow hnil
    have hI4 : Hid (∃ us, CutI B w wn v2 (cutTo l (i + 1)) us) := ⟨_, by rw [hsuc.out]; exact hI3.out.snoc p (s.take 10) _ hst.out (by rw [hcl.out]; exact hown4) hgrow⟩
    clear hown4 hgrow hnil hnews hown hI3 hsz b0 b1'
    go_wp2_with fail
    exact ⟨⟨i + 1, by omega, by omega, rfl, hI4⟩, by simp [intOf]; omega⟩
   ·
    have d2 : decide ((i : Int) < 10) = false := decide_eq_false (by omega)
    obtain rfl : i = 10 := by omega
    have hI4 : Hid (CutI B w wr u3 (cutC l) us) := hI
    clear hI
    go_wp2_with fail
    go_ret
    exact ⟨_, us, rfl, hI4.out⟩
  ·
   have d1 : decide ((i : Int) < (l.length : Int)) = false := decide_eq_false (by omega)
   have he : cutTo l i = cutC l := by
    unfold cutTo cutC
    rw [List.take_of_length_le (show l.length ≤ i by omega), List.take_of_length_le (show l.length ≤ 10 by omega)]
   rw [he] at hI
   replace hI := Lib.hid hI
   clear he
   go_wp2_with fail
   go_ret
   exact ⟨_, us, rfl, hI.out⟩
/-- Claims in a row of some call's own, whose steps lie below B. -/
structure CutO (B : Nat) (w : World) (v : Value) (l : Clms) (us : List Value) : Prop where
 len : us.length = l.length
 own : ∃ c, B ≤ c ∧ w.ownsRow c 59 2 v l.length (clC l us)
 steps : ∀ i, i < l.length → StepsAt w B us[i]! l[i]!.2
 size : B ≤ w.heap.size
theorem CutI.o {B : Nat} {w wr : World} {v : Value} {l : Clms} {us : List Value} (h : CutI B w wr v l us) (hB : B ≤ w.heap.size) : CutO B wr v l us :=
 ⟨h.len, ⟨_, hB, h.own⟩, fun i hi => SliceAt.below (h.steps i hi) h.below hB, Nat.le_trans hB h.below.size⟩
theorem CutO.later {B : Nat} {w wn : World} {v : Value} {l : Clms} {us : List Value} (h : CutO B w v l us) (hb : Below w.heap.size w wn) : CutO B wn v l us := by
 obtain ⟨c, hc, ho⟩ := h.own
 exact ⟨h.len, ⟨c, hc, own_below ho hb⟩, fun i hi => SliceAt.below (h.steps i hi) hb h.size, Nat.le_trans h.size hb.size⟩
theorem CutO.at {B : Nat} {w : World} {v : Value} {l : Clms} {us : List Value} (h : CutO B w v l us) : ClaimsAt w w.heap.size v l := by
 obtain ⟨c, hc, ho⟩ := h.own
 exact ⟨us, h.len, sliceAt_of_own ho, fun i hi => SliceAt.more (h.steps i hi) h.size⟩
theorem own_setTy {w : World} {n k s : Nat} {e t : TypeId} {v u : Value} {xs L : List Value} {b j : Nat} (h : w.ownsRow n e s v k xs) (hA : Arr w b t L) (hb : b < n ∨ t ≠ e) : (w.setCell ⟨b, j, none⟩ u).ownsRow n e s v k xs := by
 refine ownsRow_setCell_other h (fun q => ?_) u
 obtain ⟨q1, q2, q3⟩ := own_block h q
 rcases hb with hb | hb
 ·
  have q4 : n ≤ b := q2
  omega
 ·
  rcases h.2 with ⟨rfl, _⟩ | ⟨g, cap, c, rfl, _, hg, _⟩
  ·
   simp [Value.ownBlock] at q
  ·
   simp only [Value.ownBlock, Option.some.injEq] at q
   subst q
   unfold Arr at hA
   rw [hA] at hg
   injection hg with hg
   injection hg with _ hg _
   exact hb hg
theorem CutO.put {B : Nat} {w : World} {v u : Value} {l : Clms} {us L : List Value} {b j : Nat} {t : TypeId} (h : CutO B w v l us) (hA : Arr w b t L) (hb : B ≤ b) (ht : t ≠ 59) : CutO B (w.setCell ⟨b, j, none⟩ u) v l us := by
 obtain ⟨c, hc, ho⟩ := h.own
 have hbl : Below B w (w.setCell ⟨b, j, none⟩ u) := ((Below.refl B w).setCell (p := ⟨b, j, none⟩) hb u)
 exact ⟨h.len, ⟨c, hc, own_setTy ho hA (Or.inr ht)⟩, fun i hi => SliceAt.below (h.steps i hi) hbl (Nat.le_refl _), Nat.le_trans h.size (by rw [World.size_setCell]; exact Nat.le_refl _)⟩
theorem nums_take {w : World} {B : Nat} {a : Option Addr} {c : Nat} {l : List Int} (hv : NumsAt w B (.slice a l.length c) l) : NumsAt w B (.slice a (l.take 8).length c) (l.take 8) := by
 have h := SliceAt.takeS (s := 1) hv (q := min l.length 8) (by omega)
 unfold NumsAt
 rw [List.length_take, Nat.min_comm, List.map_take]
 rw [Nat.mul_one] at h
 have e : (l.map (Value.int .i64)).take (min l.length 8) = (l.map (Value.int .i64)).take 8 := by
  by_cases q : l.length ≤ 8
  ·
   rw [Nat.min_eq_left q, List.take_of_length_le (by simp), List.take_of_length_le (by simp; exact q)]
  ·
   rw [Nat.min_eq_right (by omega)]
 rw [e] at h
 exact h
end Go.Proofs.YtpeandbcdaikbaaGreatDoor
namespace Go.Proofs.YtpeandbcdaikbaaGreatDoor
open Go.RowKit Go.Shelf Go.Maps

attribute [local go_sem] Oper.semAt_some

theorem edC_ones : ∀ (l : List Edg) (vs : List Value), vs.length = l.length → (∀ i, i < l.length → (vs[i]!).oneCell' = true) → ∀ u ∈ edC l vs, u.oneCell' = true
 | [], [], _, _, u, hu => by cases hu
 | d :: l, v :: vs, h, hv, u, hu => by
  have ih := edC_ones l vs (by simpa using h) (fun i hi => by have := hv (i + 1) (by simpa using hi); simpa using this) u
  have h0 : v.oneCell' = true := hv 0 (by simp)
  rw [edC] at hu
  simp only [List.mem_cons] at hu
  rcases hu with rfl | rfl | rfl | rfl | rfl | rfl | rfl | hu
  all_goals first | rfl | exact h0 | exact ih hu
 | [], _ :: _, h, _, _, _ => by simp at h
 | _ :: _, [], h, _, _, _ => by simp at h
/-- Edges as the source of an append. -/
theorem EdgesT.srcs {w : World} {v : Value} {l : List Edg} (h : EdgesT w v l) : ∃ us : List Value, us.length = l.length ∧ SliceAt w w.heap.size v l.length (edC l us) ∧ (edC l us).length = l.length * 7 ∧ (∀ u ∈ edC l us, u.oneCell' = true) ∧ ∀ i, i < l.length → ClaimsT 104 w us[i]! l[i]!.does.keep := by
 obtain ⟨us, h1, h2, h3⟩ := h
 refine ⟨us, h1, h2.at, edC_len l us h1, edC_ones l us h1 fun i hi => ?_, h3⟩
 obtain ⟨_, _, hr, _⟩ := h3 i hi
 obtain ⟨a, c, e, _⟩ := hr.len
 rw [e]
 rfl
theorem EdOwn.put {B : Nat} {w : World} {v u : Value} {l : List Edg} {vs L : List Value} {b j : Nat} {t : TypeId} (h : EdOwn B w v l vs) (hA : Arr w b t L) (hb : b < B ∨ t ≠ 30) (hk : t ≠ 104) (hs : t ≠ 73) : EdOwn B (w.setCell ⟨b, j, none⟩ u) v l vs :=
 ⟨h.len, own_setTy h.own hA hb, fun i hi => (h.keeps i hi).keepTy (X := [t]) (by simp; exact fun e => hk e.symm) (by simp; exact fun e => hs e.symm) (KeepTy.setArr hA (by simp))⟩
set_option maxRecDepth 100000 in
set_option maxHeartbeats 4000000 in
theorem made_own (v : Value) (n : Nat) (zs ls : List Int) (fr dy hp : Int) (ev lv : Value) (w : World) (h : CaseIn w v n zs ls fr dy hp ev lv) :
  Calls Tryz.prog 11 #[v] w fun e w' => ∃ ev' lv' us c, e = .returned (.tuple #[ev', lv', .int .i64 (frmC fr), .int .i64 (dayC dy), .int .i64 (hopsC hp)]) ∧ w.heap.size ≤ c ∧ EdOwn c w' ev' (madeE n zs) us ∧ NumsT w' lv' (lifeR ls) ∧ Below w.heap.size w w' := by
 obtain ⟨rfl, hfi, hli, hz, hl, hf, hdy, hh⟩ := h
 obtain ⟨fa, fc, rfl, _, _, _⟩ := id hfi.2
 obtain ⟨la, lc, rfl, _, _, _⟩ := id hli
 obtain ⟨W, hW⟩ : ∃ W, W = w.alloc (.cells #[.slice fa n fc, .slice la ls.length lc, .int .i64 fr, .int .i64 dy, .int .i64 hp] 25) := ⟨_, rfl⟩
 have hA : Arr W w.heap.size 25 [.slice fa n fc, .slice la ls.length lc, .int .i64 fr, .int .i64 dy, .int .i64 hp] := by rw [hW]; exact Arr.new rfl rfl
 have hbW : Below w.heap.size w W := by rw [hW]; exact (Below.refl _ _).alloc (Nat.le_refl _) _
 have hbd : Below W.heap.size W W.drew := (Below.refl _ _).drew
 have hA2 : Hid (Arr W.drew w.heap.size 25 _) := hA
 have hma := Lib.hid (Made_any _ n zs W.drew (hfi.below (hbW.trans (hbd.mono hbW.size))) hz)
 have hli2 := Lib.hid (hli.later (hbW.trans (hbd.mono hbW.size)))
 have hbw := Lib.hid (hbW.trans (hbd.mono hbW.size))
 have hsz0 := Lib.hid hbw.out.size
 have a0 := hA.cell (j := 0) rfl
 have a1 := hA.cell (j := 1) rfl
 have a2 := hA.cell (j := 2) rfl
 have a3 := hA.cell (j := 3) rfl
 have a4 := hA.cell (j := 4) rfl
 have hp1 := fun W => Lib.hid (pick_any fr 5 W hf (by omega) (by omega))
 have hp2 := fun W => Lib.hid (pick_any dy 40 W hdy (by omega) (by omega))
 have hp3 := fun W => Lib.hid (pick_any hp 7 W hh (by omega) (by omega))
 have b1 := pickv_lt fr 5 (by omega)
 have hw1 : IntKind.i64.wrap (1 + ((pickv fr 5 : Nat) : Int)) = 1 + ((pickv fr 5 : Nat) : Int) := IntWalk.i64_in _ (by omega)
 unfold frmC dayC hopsC
 generalize pickv fr 5 = k1 at *
 generalize pickv dy 40 = k2 at *
 generalize pickv hp 7 = k3 at *
 replace hp1 := Lib.hid hp1
 replace hp2 := Lib.hid hp2
 replace hp3 := Lib.hid hp3
 clear hA hfi hli hbW
 go_enter Tryz.func11, Tryz.ntmps11
 go_upto_region 1 with fail
 rw [← hW]
 clear hW
 refine wp_region_held_drew (S := fun w' => w'.cell? ⟨w.heap.size, 0, none⟩ = some (.slice fa n fc) ∧ w'.cell? ⟨w.heap.size, 1, none⟩ = some (.slice la ls.length lc) ∧ w'.cell? ⟨w.heap.size, 2, none⟩ = some (.int .i64 fr) ∧ w'.cell? ⟨w.heap.size, 3, none⟩ = some (.int .i64 dy) ∧ w'.cell? ⟨w.heap.size, 4, none⟩ = some (.int .i64 hp)) (by kernel_rfl) (by exact ⟨a0, a1, a2, a3, a4⟩) (fun hHeld => ?_)
 refine tk 0 ?_ rfl ?_ ?_
 rotate_left
 ·
  intro w hSw; (try dsimp only at hSw); go_simp; (try with_reducible rfl)
 (try simp only [Act.put, setIfInBounds_toArray, set_cons_zero, set_cons_succ])
 refine tk 1 ?_ rfl ?_ ?_
 rotate_left
 ·
  intro w hSw; (try dsimp only at hSw); go_simp; (try with_reducible rfl)
 (try simp only [Act.put, setIfInBounds_toArray, set_cons_zero, set_cons_succ])
 refine tk 3 ?_ rfl ?_ ?_
 rotate_left
 ·
  intro w hSw; (try dsimp only at hSw); go_simp; (try with_reducible rfl)
 (try simp only [Act.put, setIfInBounds_toArray, set_cons_zero, set_cons_succ])
 refine tk 4 ?_ rfl ?_ ?_
 rotate_left
 ·
  intro w hSw; (try dsimp only at hSw); go_simp; (try with_reducible rfl)
 (try simp only [Act.put, setIfInBounds_toArray, set_cons_zero, set_cons_succ])
 refine tk 6 ?_ rfl ?_ ?_
 rotate_left
 ·
  intro w hSw; (try dsimp only at hSw); go_simp; (try with_reducible rfl)
 (try simp only [Act.put, setIfInBounds_toArray, set_cons_zero, set_cons_succ])
 refine tk 7 ?_ rfl ?_ ?_
 rotate_left
 ·
  intro w hSw; (try dsimp only at hSw); go_simp; (try with_reducible rfl)
 (try simp only [Act.put, setIfInBounds_toArray, set_cons_zero, set_cons_succ])
 refine tk 10 ?_ rfl ?_ ?_
 rotate_left
 ·
  intro w hSw; (try dsimp only at hSw); go_simp; (try with_reducible rfl)
 (try simp only [Act.put, setIfInBounds_toArray, set_cons_zero, set_cons_succ])
 refine tk 11 ?_ rfl ?_ ?_
 rotate_left
 ·
  intro w hSw; (try dsimp only at hSw); go_simp; (try with_reducible rfl)
 (try simp only [Act.put, setIfInBounds_toArray, set_cons_zero, set_cons_succ])
 refine tk 13 ?_ rfl ?_ ?_
 rotate_left
 ·
  intro w hSw; (try dsimp only at hSw); go_simp; (try with_reducible rfl)
 (try simp only [Act.put, setIfInBounds_toArray, set_cons_zero, set_cons_succ])
 refine tk 14 ?_ rfl ?_ ?_
 rotate_left
 ·
  intro w hSw; (try dsimp only at hSw); go_simp; (try with_reducible rfl)
 (try simp only [Act.put, setIfInBounds_toArray, set_cons_zero, set_cons_succ])
 generalize W.drew = q0 at *
 clear a0 a1 a2 a3 a4 hbd
 refine wpAnyH_ready (rs := [2]) (by kernel_rfl) (by simp) ?_
 refine ready_l rfl (fun K hK => ?_) AllReadyH.nil
 go_simp
 go_at_call 34
 refine hma.out.mono ?_
 rintro e q1 ⟨v1, vs1, rfl, hE1, hb1⟩
 have hA3 := Lib.hid (hA2.out.below hb1)
 have hli3 := hli2.out.later hb1
 have hE2 := Lib.hid hE1
 replace hbw := Lib.hid (hbw.out.trans (hb1.mono hbw.out.size))
 refine hK.out _ _ (by exact ⟨hA3.out.cell rfl, hA3.out.cell rfl, hA3.out.cell rfl, hA3.out.cell rfl, hA3.out.cell rfl⟩) (fun hHeld2 => ?_)
 clear hK K hHeld hma hb1 hA2 hli2 hE1
 (try simp only [Act.put, setIfInBounds_toArray, set_cons_zero, set_cons_succ])
 have hla := Lib.hid (Life_any _ ls q1 hli3 hl)
 refine wpAnyH_ready (rs := [5]) (by kernel_rfl) (by simp) ?_
 refine ready_l rfl (fun K hK => ?_) AllReadyH.nil
 go_simp
 go_at_call 35
 refine hla.out.mono ?_
 rintro e q2 ⟨v2, rfl, hN, hb2⟩
 have hA4 := Lib.hid (hA3.out.below hb2)
 have hE3 := Lib.hid (hE2.out.below hb2)
 have hN2 : Hid (NumsT q2 v2 (lifeR ls)) := RowT.of_own hN
 replace hbw := Lib.hid (hbw.out.trans (hb2.mono hbw.out.size))
 refine hK.out _ _ (by exact ⟨hA4.out.cell rfl, hA4.out.cell rfl, hA4.out.cell rfl, hA4.out.cell rfl, hA4.out.cell rfl⟩) (fun hHeld3 => ?_)
 clear hK K hHeld2 hla hb2 hA3 hli3 hE2 hN
 (try simp only [Act.put, setIfInBounds_toArray, set_cons_zero, set_cons_succ])
 have hq1 := hp1.out q2
 refine wpAnyH_ready (rs := [8]) (by kernel_rfl) (by simp) ?_
 refine ready_l rfl (fun K hK => ?_) AllReadyH.nil
 go_simp
 go_at_call 14
 refine hq1.out.mono ?_
 rintro e q3 ⟨rfl, rfl⟩
 refine hK.out _ _ (by exact ⟨hA4.out.cell rfl, hA4.out.cell rfl, hA4.out.cell rfl, hA4.out.cell rfl, hA4.out.cell rfl⟩) (fun hHeld4 => ?_)
 clear hK K hHeld3 hq1
 (try simp only [Act.put, setIfInBounds_toArray, set_cons_zero, set_cons_succ])
 have hq2 := hp2.out q3
 refine tk 9 ?_ rfl ?_ ?_
 rotate_left
 ·
  intro w hSw; (try dsimp only at hSw); go_simp; (try with_reducible rfl)
 (try simp only [Act.put, setIfInBounds_toArray, set_cons_zero, set_cons_succ])
 refine wpAnyH_ready (rs := [12]) (by kernel_rfl) (by simp) ?_
 refine ready_l rfl (fun K hK => ?_) AllReadyH.nil
 go_simp
 go_at_call 14
 refine hq2.out.mono ?_
 rintro e q4 ⟨rfl, rfl⟩
 refine hK.out _ _ (by exact ⟨hA4.out.cell rfl, hA4.out.cell rfl, hA4.out.cell rfl, hA4.out.cell rfl, hA4.out.cell rfl⟩) (fun hHeld5 => ?_)
 clear hK K hHeld4 hq2
 (try simp only [Act.put, setIfInBounds_toArray, set_cons_zero, set_cons_succ])
 have hq3 := hp3.out q4
 refine wpAnyH_ready (rs := [15]) (by kernel_rfl) (by simp) ?_
 refine ready_l rfl (fun K hK => ?_) AllReadyH.nil
 go_simp
 go_at_call 14
 refine hq3.out.mono ?_
 rintro e q5 ⟨rfl, rfl⟩
 refine hK.out _ _ (by exact ⟨hA4.out.cell rfl, hA4.out.cell rfl, hA4.out.cell rfl, hA4.out.cell rfl, hA4.out.cell rfl⟩) (fun hHeld6 => ?_)
 clear hK K hHeld5 hq3
 (try simp only [Act.put, setIfInBounds_toArray, set_cons_zero, set_cons_succ])
 refine tk 16 ?_ rfl ?_ ?_
 rotate_left
 ·
  intro w hSw; (try dsimp only at hSw); go_simp; (try with_reducible rfl)
 (try simp only [Act.put, setIfInBounds_toArray, set_cons_zero, set_cons_succ])
 refine tk 17 ?_ rfl ?_ ?_
 rotate_left
 ·
  intro w hSw; (try dsimp only at hSw); go_simp; (try with_reducible rfl)
 (try simp only [Act.put, setIfInBounds_toArray, set_cons_zero, set_cons_succ])
 refine tk 18 ?_ rfl ?_ ?_
 rotate_left
 ·
  intro w hSw; (try dsimp only at hSw); go_simp; (try with_reducible rfl)
 (try simp only [Act.put, setIfInBounds_toArray, set_cons_zero, set_cons_succ])
 refine tk 19 ?_ rfl ?_ ?_
 rotate_left
 ·
  intro w hSw; (try dsimp only at hSw); go_simp; (try with_reducible rfl)
 (try simp only [Act.put, setIfInBounds_toArray, set_cons_zero, set_cons_succ])
 refine tk 20 ?_ rfl ?_ ?_
 rotate_left
 ·
  intro w hSw; (try dsimp only at hSw); go_simp; (try with_reducible rfl)
 (try simp only [Act.put, setIfInBounds_toArray, set_cons_zero, set_cons_succ])
 refine wpAnyH_done (by kernel_rfl) ?_ _
 go_wp2_with fail
 (try simp only [Exit.inBlock, Exit.then])
 refine bodyPost_ret (results_tmp5 rfl _ _ _) rfl ?_
 exact ⟨v1, v2, vs1, _, rfl, hsz0.out, hE3.out, hN2.out, hbw.out⟩
end Go.Proofs.YtpeandbcdaikbaaGreatDoor
namespace Go.Proofs.YtpeandbcdaikbaaGreatDoor
open Go.RowKit Go.Shelf Go.Maps

def setL (xs : List Value) (o : Nat) : List Value → List Value
 | [] => xs
 | v :: vs => setL (xs.set o v) (o + 1) vs
theorem setL_cons (x : Value) : ∀ (vs xs : List Value) (o : Nat), setL (x :: xs) (o + 1) vs = x :: setL xs o vs
 | [], _, _ => rfl
 | v :: vs, xs, o => by
  show setL ((x :: xs).set (o + 1) v) (o + 1 + 1) vs = x :: setL (xs.set o v) (o + 1) vs
  rw [set_cons_succ]
  exact setL_cons x vs _ _
theorem own_arr {w : World} {B n s g cap : Nat} {e : TypeId} {xs : List Value} (h : w.ownsRow B e s (.slice (some ⟨g, 0, none⟩) n cap) n xs) : ∃ L, Arr w g e L ∧ n * s ≤ L.length := by
 rcases h.2 with ⟨h', _⟩ | ⟨g', cap', cur, h', _, hg, hnc, _, hcs, _⟩
 ·
  simp at h'
 ·
  simp only [Value.slice.injEq, Option.some.injEq, Addr.mk.injEq, and_true, true_and] at h'
  obtain ⟨rfl, rfl⟩ := h'
  refine ⟨cur.toList, by unfold Arr; simpa using hg, ?_⟩
  rw [Array.length_toList, hcs]
  exact Nat.mul_le_mul_right _ hnc
theorem own_storeCells {B n s g cap : Nat} {e : TypeId} : ∀ (vs : List Value) (o : Nat) (w : World) (xs : List Value), w.ownsRow B e s (.slice (some ⟨g, 0, none⟩) n cap) n xs → (w.setCells g o vs).ownsRow B e s (.slice (some ⟨g, 0, none⟩) n cap) n (setL xs o vs) ∧ Below g w (w.setCells g o vs)
 | [], o, w, xs, h => ⟨h, Below.refl _ _⟩
 | v :: vs, o, w, xs, h => by
  obtain ⟨h1, _⟩ := h.stored o v
  obtain ⟨h3, h4⟩ := own_storeCells vs (o + 1) _ _ h1
  exact ⟨h3, (((Below.refl g w).setCell (p := ⟨g, o, none⟩) (Nat.le_refl _) v)).trans h4⟩
theorem edC_put : ∀ (l : List Edg) (us : List Value), us.length = l.length → ∀ k, k < l.length → ∀ (e : Edg) (u : Value), setL (edC l us) (k * 7) (edgC e u) = edC (l.set k e) (us.set k u)
 | d :: l, v :: us, h, 0, _, e, u => by
  rw [edC, Nat.zero_mul, set_cons_zero, set_cons_zero, edC]
  rfl
 | d :: l, v :: us, h, k + 1, hk, e, u => by
  have ih := edC_put l us (by simpa using h) k (by simpa using hk) e u
  rw [edC, show (k + 1) * 7 = k * 7 + 1 + 1 + 1 + 1 + 1 + 1 + 1 from by omega]
  simp only [setL_cons, set_cons_succ]
  rw [ih, edC]
 | _ :: _, [], h, _, _, _, _ => by simp at h
 | [], _, _, _, h, _, _ => by simp at h
/-- Edges in a row of the call's own, whose elements of Keep lie in what was there. -/
structure EdX (w wr : World) (v : Value) (l : List Edg) (us : List Value) : Prop where
 len : us.length = l.length
 own : wr.ownsRow w.heap.size 30 7 v l.length (edC l us)
 keeps : ∀ i, i < l.length → ClaimsAt w w.heap.size us[i]! l[i]!.does.keep
 below : Below w.heap.size w wr
theorem EdX.later {w wr wn : World} {v : Value} {l : List Edg} {us : List Value} (h : EdX w wr v l us) (hb : Below wr.heap.size wr wn) : EdX w wn v l us :=
 ⟨h.len, own_below h.own hb, h.keeps, h.below.trans (hb.mono h.below.size)⟩
theorem EdX.at {w wr : World} {v : Value} {l : List Edg} {us : List Value} (h : EdX w wr v l us) : EdgesAt wr wr.heap.size v l :=
 ⟨us, h.len, sliceAt_of_own h.own, fun i hi => (h.keeps i hi).later h.below⟩
theorem EdX.put {w wr : World} {g cap : Nat} {l : List Edg} {us : List Value} (h : EdX w wr (.slice (some ⟨g, 0, none⟩) l.length cap) l us) {k : Nat} (hk : k < l.length) (e : Edg) (u : Value) (hu : ClaimsAt w w.heap.size u e.does.keep) :
  EdX w (wr.setCells g (k * 7) (edgC e u)) (.slice (some ⟨g, 0, none⟩) l.length cap) (l.set k e) (us.set k u) := by
 obtain ⟨h1, h2⟩ := own_storeCells (edgC e u) (k * 7) wr _ h.own
 rw [edC_put l us h.len k hk e u] at h1
 have hg := (own_block h.own (g := g) (by simp [Value.ownBlock])).2.1
 refine ⟨by rw [List.length_set, List.length_set]; exact h.len, by rw [List.length_set]; exact h1, fun i hi => ?_, h.below.trans (h2.mono hg)⟩
 rw [List.length_set] at hi
 rw [set_at us k u (by rw [h.len]; exact hi), set_at l k e hi]
 by_cases q : k = i
 ·
  rw [if_pos q, if_pos q]; exact hu
 ·
  rw [if_neg q, if_neg q]; exact h.keeps i hi
theorem mig_set {l : List Edg} (h : ∀ e ∈ l, MigIn e.does) (k : Nat) {x : Edg} (hx : MigIn x.does) : ∀ e ∈ l.set k x, MigIn e.does := fun e he => by
 rcases List.mem_or_eq_of_mem_set he with q | q
 ·
  exact h e q
 ·
  rw [q]; exact hx
/-- An element of Keep cut to six. -/
theorem keep_take {w : World} {B : Nat} {a : Option Addr} {c m : Nat} {l : Clms} (h : ClaimsAt w B (.slice a l.length c) l) (hm : m ≤ l.length) : ClaimsAt w B (.slice a m c) (l.take m) := by
 obtain ⟨vs, hl, hs, hst⟩ := h
 have ht := SliceAt.takeS (s := 2) hs hm
 have hlen : (l.take m).length = m := by rw [List.length_take]; omega
 have hc : clC (l.take m) (vs.take m) = (clC l vs).take (m * 2) := by
  clear ht hlen hst hs
  induction m generalizing l vs with
  | zero => cases l <;> cases vs <;> simp [clC]
  | succ m ih =>
   cases l with
   | nil => simp at hm
   | cons x l =>
    cases vs with
    | nil => simp at hl
    | cons v vs =>
     rw [List.take_succ_cons, List.take_succ_cons, clC, clC, show (m + 1) * 2 = m * 2 + 1 + 1 by omega, List.take_succ_cons, List.take_succ_cons, ih (by simpa using hm) vs (by simpa using hl)]
 refine ⟨vs.take m, by rw [List.length_take, List.length_take, hl], by rw [hlen, hc]; exact ht, fun i hi => ?_⟩
 rw [hlen] at hi
 have e1 : (vs.take m)[i]! = vs[i]! := by
  rw [getElem!_pos (vs.take m) i (by rw [List.length_take]; omega), getElem!_pos vs i (by omega), List.getElem_take]
 have e2 : (l.take m)[i]! = l[i]! := by
  rw [getElem!_pos (l.take m) i (by omega), getElem!_pos l i (by omega), List.getElem_take]
 rw [e1, e2]
 exact hst i (by omega)
end Go.Proofs.YtpeandbcdaikbaaGreatDoor
namespace Go.Proofs.YtpeandbcdaikbaaGreatDoor
open Go.RowKit Go.Shelf Go.Maps

/-- Routes in a row. -/
def RowsAt (w : World) (a : Option Addr) (Rs : List Rou) : Prop := ∀ k, k < Rs.length → ∃ b o ea ec ca cc, a = some ⟨b, o, none⟩ ∧ b < w.heap.size ∧ w.cell? ⟨b, o + k * 4, none⟩ = some (.slice ea (Rs[k]!).edges.length ec) ∧ w.cell? ⟨b, o + k * 4 + 1, none⟩ = some (.int .i64 (Rs[k]!).cost) ∧ w.cell? ⟨b, o + k * 4 + 2, none⟩ = some (.int .i64 (Rs[k]!).life) ∧ w.cell? ⟨b, o + k * 4 + 3, none⟩ = some (.slice ca (Rs[k]!).claims.length cc) ∧ OkR ⟨Rs[k]!, .slice ea (Rs[k]!).edges.length ec, .slice ca (Rs[k]!).claims.length cc⟩ w
theorem RowsAt.below {w w' : World} {a : Option Addr} {Rs : List Rou} (h : RowsAt w a Rs) (hb : Below w.heap.size w w') : RowsAt w' a Rs := fun k hk => by
 obtain ⟨b, o, ea, ec, ca, cc, h1, h2, x0, x1, x2, x3, hok⟩ := h k hk
 exact ⟨b, o, ea, ec, ca, cc, h1, Nat.lt_of_lt_of_le h2 hb.size, (hb.cell (p := ⟨b, _, none⟩) h2).trans x0, (hb.cell (p := ⟨b, _, none⟩) h2).trans x1, (hb.cell (p := ⟨b, _, none⟩) h2).trans x2, (hb.cell (p := ⟨b, _, none⟩) h2).trans x3, hok.below hb⟩
theorem map_at (zs : List RouM) (k : Nat) (hk : k < zs.length) : (zs.map RouM.r)[k]! = (zs[k]!).r := by
 rw [getElem!_pos zs k hk, getElem!_pos _ k (by simpa using hk)]
 simp
theorem best_at (l : List Edg) (life : List Int) (f d hops : Int) (Rs : List Rou) (hRs : bestP l life f d hops = Rs) (ev lv : Value) (w : World) (hm : ∀ e ∈ l, MigIn e.does) (hE : EdgesAt w w.heap.size ev l) (hL : NumsAt w w.heap.size lv life) :
  Calls Tryz.prog 19 #[ev, lv, .int .i64 f, .int .i64 d, .int .i64 hops] w fun e w' => ∃ a c, e = .returned (.slice a Rs.length c) ∧ Rs.length ≤ maxLen ∧ RowsAt w' a Rs ∧ Below w.heap.size w w' := by
 refine (Best_any l life f d hops ev lv w hm hE hL).mono ?_
 rintro e w' ⟨v, zs, rfl, hz, hR, hb⟩
 obtain ⟨a, c, rfl, hlen⟩ := hR.len
 rw [hRs] at hz
 subst hz
 refine ⟨a, c, by rw [List.length_map], by rw [List.length_map]; exact hlen, fun k hk => ?_, hb⟩
 rw [List.length_map] at hk
 rw [map_at zs k hk]
 exact hR.row hk
theorem best11_at (l : List Edg) (life : List Int) (f d hops : Int) (Rs : List Rou) (hRs : bestP l life f d hops = Rs) (ev lv : Value) (w : World) (hE : EdgesAt w w.heap.size ev l) (hL : NumsAt w w.heap.size lv life) :
  Calls Tryz.prog 20 #[ev, lv, .int .i64 f, .int .i64 d, .int .i64 hops] w fun e w' => ∃ a c, e = .returned (.slice a Rs.length c) ∧ RowsAt w' a Rs ∧ Below w.heap.size w w' := by
 refine (Best11_any l life f d hops ev lv w hE hL).mono ?_
 rintro e w' ⟨v, zs, rfl, h⟩
 obtain ⟨a, c, rfl⟩ := own_val h.own
 rw [hRs] at h
 have hl : zs.length = Rs.length := by rw [← h.eq, List.length_map]
 refine ⟨a, c, by rw [hl], fun k hk => ?_, h.below⟩
 obtain ⟨b, ea, ec, ca, cc, h1, h2, hz, x0, x1, x2, x3, hok⟩ := h.row (i := k) (by omega)
 exact ⟨b, 0, ea, ec, ca, cc, h1, h2, by rw [Nat.zero_add]; exact x0, by rw [Nat.zero_add]; exact x1, by rw [Nat.zero_add]; exact x2, by rw [Nat.zero_add]; exact x3, hok⟩
theorem of_at (l : List Edg) (life : List Int) (f day : Int) (es : List Int) (o : Option Rou) (ho : ofP l life f day es = o) (ev lv xv : Value) (w : World) (hm : ∀ e ∈ l, MigIn e.does) (hE : EdgesAt w w.heap.size ev l) (hL : NumsAt w w.heap.size lv life) (hx : NumsAt w w.heap.size xv es) :
  Calls Tryz.prog 17 #[ev, lv, .int .i64 f, .int .i64 day, xv] w fun e w' => ∃ ea ec ca cc r, e = .returned (.tuple #[.agg #[.slice ea r.edges.length ec, .int .i64 r.cost, .int .i64 r.life, .slice ca r.claims.length cc], .int .i64 (ofE o)]) ∧ r = o.getD zeroRou ∧ OkR ⟨r, .slice ea r.edges.length ec, .slice ca r.claims.length cc⟩ w' ∧ Below w.heap.size w w' := by
 refine (Of_any l life f day es ev lv xv w hm hE hL hx).mono ?_
 rintro e w' ⟨⟨r, v, u⟩, he, hr, hok, hb⟩
 dsimp only at hr
 rw [ho] at he hr
 obtain ⟨ea, ec, ca, cc, h1, h2⟩ := hok.shape
 dsimp only at h1 h2
 subst h1 h2
 exact ⟨ea, ec, ca, cc, r, he, hr, hok, hb⟩
end Go.Proofs.YtpeandbcdaikbaaGreatDoor
