/-
 Routes of chapter 11: the law's walk.
 Routes of chapter 11: a route's claims by properties.
-/
import Derived.Test.YtpeandbcdaikbaaGreatDoorYS
namespace Go.Proofs.YtpeandbcdaikbaaGreatDoor
open Go.RowKit Go.Shelf Go.Maps

attribute [local go_sem] Oper.semAt_some

def canTo (l : List Edg) (f : Int) (j : Nat) : List Int := ((List.range j).filter fun k => l[k]!.does.frm == f).map fun k : Nat => (k : Int)
def canP (l : List Edg) (f : Int) : List Int := canTo l f l.length
theorem canTo_succ (l : List Edg) (f : Int) (j : Nat) : canTo l f (j + 1) = canTo l f j ++ if l[j]!.does.frm = f then [(j : Int)] else [] := by
 unfold canTo
 rw [List.range_succ, List.filter_append, List.map_append]
 congr 1
 by_cases h : l[j]!.does.frm = f
 ·
  rw [if_pos h, List.filter_cons, if_pos (beq_iff_eq.2 h)]
  rfl
 ·
  rw [if_neg h, List.filter_cons, if_neg (by rw [beq_iff_eq]; exact h)]
  rfl
theorem canTo_len (l : List Edg) (f : Int) (j : Nat) : (canTo l f j).length ≤ j := by
 unfold canTo
 rw [List.length_map]
 exact Nat.le_trans (List.length_filter_le _ _) (by simp)
theorem can_mem {l : List Edg} {f e : Int} (h : e ∈ canP l f) : ∃ k : Nat, k < l.length ∧ e = (k : Int) := by
 obtain ⟨k, hk, rfl⟩ := List.mem_map.1 h
 exact ⟨k, List.mem_range.1 (List.mem_filter.1 hk).1, rfl⟩
/-- The edge that a choice takes. -/
def choP (l : List Edg) (f c : Int) : Int := (canP l f)[pickv c (canP l f).length]!
theorem cho_mem {l : List Edg} {f : Int} (c : Int) (h : canP l f ≠ []) : ∃ k : Nat, k < l.length ∧ choP l f c = (k : Int) := by
 have hp := pickv_lt c (canP l f).length (List.length_pos_iff.2 h)
 unfold choP
 rw [getElem!_pos (canP l f) _ hp]
 exact can_mem (List.getElem_mem hp)
def walkP (l : List Edg) : Int → List Int → List Int
 | _, [] => []
 | f, c :: cs => if canP l f = [] then [] else choP l f c :: walkP l l[(choP l f c).toNat]!.does.to cs
theorem walk_in (l : List Edg) : ∀ (cs : List Int) (f : Int), ∀ e ∈ walkP l f cs, ∃ k : Nat, k < l.length ∧ e = (k : Int)
 | [], _, e, h => by cases h
 | c :: cs, f, e, h => by
  rw [walkP] at h
  split at h
  ·
   cases h
  ·
   rename_i hn
   rcases List.mem_cons.1 h with rfl | h
   ·
    exact cho_mem c hn
   ·
    exact walk_in l cs _ e h
theorem walk_len (l : List Edg) : ∀ (cs : List Int) (f : Int), (walkP l f cs).length ≤ cs.length
 | [], _ => Nat.le_refl _
 | c :: cs, f => by
  rw [walkP]
  split
  ·
   exact Nat.zero_le _
  ·
   have := walk_len l cs l[(choP l f c).toNat]!.does.to
   simp only [List.length_cons]
   omega
def walkL (l : List Edg) (f : Int) (cs : List Int) : List Int := walkP l f (cs.take 6)
theorem walkL_len (l : List Edg) (f : Int) (cs : List Int) : (walkL l f cs).length ≤ 6 := by
 have := walk_len l (cs.take 6) f
 rw [List.length_take] at this
 unfold walkL
 omega
theorem walkL_in {l : List Edg} {f : Int} {cs : List Int} : ∀ e ∈ walkL l f cs, ∃ k : Nat, k < l.length ∧ e = (k : Int) := walk_in l _ _
/-- What the walk's outer loop knows. -/
def WalkI (l : List Edg) (frm : Int) (cs : List Int) (B : Nat) (w : World) (ov : Value) (f : Int) (i : Nat) (wr : World) : Prop :=
 ∃ out : List Int, out.length ≤ i ∧ out ++ walkP l f ((cs.take 6).drop i) = walkL l frm cs ∧ wr.ownsRow B 3 1 ov out.length (ints out) ∧ Below B w wr
set_option maxRecDepth 100000 in
set_option maxHeartbeats 8000000 in
theorem walk_any (l : List Edg) (frm : Int) (cs : List Int) (ev cv : Value) (w : World) (hl : l.length ≤ 40) (hE : EdgesAt w w.heap.size ev l) (hv : NumsAt w w.heap.size cv cs) (hc : ∀ c ∈ cs, I64 c) :
  Calls Tryz.prog 26 #[ev, .int .i64 frm, cv] w fun e w' => ∃ v', e = .returned v' ∧ NumsT w' v' (walkL l frm cs) ∧ Below w.heap.size w w' := by
 have hcell := Lib.hid fun i (hi : i < cs.length) => NumsAt.cells hv hi
 have hedge := Lib.hid fun k (hk : k < l.length) => EdgesAt.cells hE hk
 obtain ⟨ca, cc, rfl, _, hcm, _⟩ := hv
 obtain ⟨_, _, ⟨ea, ec, rfl, _, _, _⟩, _⟩ := id hE
 obtain ⟨i0, hi, hz0, hz1, hz2⟩ := info_parts Tryz.info_int
 have hstart : Hid (WalkI l frm cs w.heap.size w (.slice none 0 0) frm 0 w) := ⟨[], Nat.le_refl _, rfl, World.ownsRow_nil _ _ _ _, Below.refl _ _⟩
 clear hE
 go_enter Tryz.func26, Tryz.ntmps26
 go_wp2_with fail
 go_loopw [1, 7, 8] (fun fv ov iv wr => ∃ (i : Nat) (f : Int), i ≤ cs.length ∧ i ≤ 6 ∧ fv = .int .i64 f ∧ iv = .int .i64 (i : Int) ∧ Hid (WalkI l frm cs w.heap.size w ov f i wr)) (fun _ _ iv _ => 6 - (intOf iv).toNat)
 case atStart => exact ⟨0, frm, Nat.zero_le _, Nat.zero_le _, rfl, rfl, hstart⟩
 case round =>
  obtain ⟨wo, hwo⟩ : ∃ wo, wo = wr := ⟨_, rfl⟩
  subst hwo
  obtain ⟨i, f, hi1, hi6, rfl, rfl, hall⟩ := hrel
  clear hstart
  obtain ⟨out, hol, hout, hown, hb⟩ := hall.out
  clear hall
  by_cases hlt : i < cs.length
  ·
   have hyes : decide ((i : Int) < (cs.length : Int)) = true := decide_eq_true (by omega)
   by_cases h6 : i < 6
   ·
    have hyes6 : decide ((i : Int) < 6) = true := decide_eq_true (by omega)
    have hw1 : IntKind.i64.wrap ((i : Int) + 1) = (i : Int) + 1 := IntWalk.i64_in _ (by omega)
    have hdr : (cs.take 6).drop i = cs[i]! :: (cs.take 6).drop (i + 1) := by
     have h1 : i < (cs.take 6).length := by rw [List.length_take]; omega
     rw [List.drop_eq_getElem_cons h1, List.getElem_take, getElem!_pos cs i hlt]
    rw [hdr, walkP] at hout
    have hci : I64 cs[i]! := hc _ (by rw [getElem!_pos cs i hlt]; exact List.getElem_mem hlt)
    obtain ⟨b, o, cap, hq, hbl, xe⟩ := hcell.out i hlt
    cases hq
    generalize cs[i]! = c at xe hci hout
    replace hout := Lib.hid hout
    replace hown := Lib.hid hown
    replace hb := Lib.hid hb
    have hst : Hid (wo.ownsRow wo.heap.size 3 1 (.slice none 0 0) (canTo l f 0).length (ints (canTo l f 0)) ∧ Below wo.heap.size wo wo) := ⟨World.ownsRow_nil _ _ _ _, Below.refl _ _⟩
    go_wp2_with fail
    go_loopw [9, 10] (fun kv jv wq => ∃ j : Nat, j ≤ l.length ∧ jv = .int .i64 (j : Int) ∧ Hid (wq.ownsRow wo.heap.size 3 1 kv (canTo l f j).length (ints (canTo l f j)) ∧ Below wo.heap.size wo wq)) (fun _ jv _ => l.length - (intOf jv).toNat)
    case atStart => exact ⟨0, Nat.zero_le _, rfl, hst⟩
    case round =>
     obtain ⟨j, hj, rfl, hall⟩ := hrel
     clear hst
     obtain ⟨hcan, hbq⟩ := hall.out
     clear hall
     by_cases hjl : j < l.length
     ·
      have hy2 : decide ((j : Int) < (l.length : Int)) = true := decide_eq_true (by omega)
      have hw2 : IntKind.i64.wrap ((j : Int) + 1) = (j : Int) + 1 := IntWalk.i64_in _ (by omega)
      have k0 : (0 : Int) ≤ (j : Int) := by omega
      have k1 : (j : Int) < (l.length : Int) := by omega
      obtain ⟨b2, o2, cap2, u2, hq, hbl2, _, _, _, z3, _, _, _, _⟩ := hedge.out j hjl
      cases hq
      have hb2 := hb.out.trans (hbq.mono hb.out.size)
      replace z3 : wr.cell? ⟨b2, o2 + j * 7 + 2 + 1, none⟩ = some (.int .i64 l[j]!.does.frm) := (hb2.cell (p := ⟨b2, o2 + j * 7 + 3, none⟩) hbl2).trans z3
      have hcs := canTo_succ l f j
      have hcl := canTo_len l f j
      by_cases hfe : l[j]!.does.frm = f
      ·
       rw [if_pos hfe] at hcs
       have e1 : (l[j]!.does.frm == f) = true := by simpa using hfe
       have e2 : decide (l[j]!.does.frm = f) = true := by simpa using hfe
       generalize l[j]!.does.frm = g at z3 e1 e2 hfe
       subst hfe
       clear e1 e2
       have hba : Below wr.heap.size wr (wr.alloc (.cells #[.int .i64 (j : Int)] 3)) := (Below.refl _ _).alloc (Nat.le_refl _) _
       have hcan3 := Lib.hid (own_below hcan hba)
       have hb3 := Lib.hid (hbq.trans (hba.mono hbq.size))
       have hsz := hbq.size
       have hnews : ∀ q u, [Value.int .i64 (j : Int)][q]? = some u → (wr.alloc (.cells #[.int .i64 (j : Int)] 3)).cell? ((⟨wr.heap.size, 0, none⟩ : Addr).add q) = some u := fun q u hu => cells_new wr [.int .i64 (j : Int)] 3 q u hu
       clear hcan hbq hba hb2
       go_wp2_with (at_builtin; refine wpList_append_own _ rfl _ _ 23 rfl wo.heap.size 3 i0 (.int .i64 0) 1 8 Tryz.underlying23 hi hz0 hz1 hz2 rfl (by decide) _ _ _ rfl hcan3.out ⟨wr.heap.size, 0, none⟩ 1 1 [.int .i64 (j : Int)] rfl rfl hnews (by simp [Value.oneCell']) ?qa ?qb ?qc ?_)
       case qa => unfold maxLen; omega
       case qb => omega
       case qc => simp only [World.size_alloc]; omega
       intro v' wn hown4 hgrow hnil
       have hend : Hid (wn.ownsRow wo.heap.size 3 1 v' (canTo l g (j + 1)).length (ints (canTo l g (j + 1))) ∧ Below wo.heap.size wo wn) := by
        rw [hcs, List.length_append, ints_snoc]
        exact ⟨hown4, hb3.out.grown hgrow (by simp only [World.size_alloc]; omega) (fun q hq => (own_block hcan3.out hq).2.1)⟩
       clear hcan3 hown4 hgrow hnil hnews hb3
       go_wp2_with fail
       exact ⟨⟨j + 1, by omega, rfl, hend⟩, by simp [intOf]; omega⟩
      ·
       rw [if_neg hfe, List.append_nil] at hcs
       have e1 : (l[j]!.does.frm == f) = false := beq_false_of_ne hfe
       have e2 : decide (l[j]!.does.frm = f) = false := decide_eq_false hfe
       rw [← hcs] at hcan
       have hend := Lib.hid (And.intro hcan hbq)
       generalize l[j]!.does.frm = g at z3 e1 e2
       clear hcs hcan hbq hfe hb2
       go_wp2_with fail
       exact ⟨⟨j + 1, by omega, rfl, hend⟩, by simp [intOf]; omega⟩
     ·
      have hn2 : decide ((j : Int) < (l.length : Int)) = false := decide_eq_false (by omega)
      obtain rfl : j = l.length := by omega
      change wr.ownsRow wo.heap.size 3 1 u9 (canP l f).length (ints (canP l f)) at hcan
      have hb2 := hb.out.trans (hbq.mono hb.out.size)
      by_cases hne : canP l f = []
      ·
       have hfin : out = walkL l frm cs := by
        have := hout.out
        rw [if_pos hne, List.append_nil] at this
        exact this
       rw [hne] at hcan
       obtain ⟨_, hq⟩ := hcan
       have hu9 : ∃ a c, u9 = .slice a 0 c := by
        rcases hq with ⟨rfl, _⟩ | ⟨g, cap, cur, rfl, _⟩
        ·
         exact ⟨_, _, rfl⟩
        ·
         exact ⟨_, _, rfl⟩
       obtain ⟨a9, c9, rfl⟩ := hu9
       have hres : Hid (NumsT wr u7 (walkL l frm cs)) := by
        rw [← hfin]
        exact (show NumsT wo u7 out from RowT.of_own hown.out).below hbq
       clear hq hfin hown hout
       replace hb2 := Lib.hid hb2
       go_wp2_with fail
       go_ret
       exact ⟨_, rfl, hres.out, hb2.out⟩
      ·
       obtain ⟨k, hkl, hkc⟩ := cho_mem c hne
       have hcl := canTo_len l f l.length
       change (canP l f).length ≤ l.length at hcl
       have hcp : 0 < (canP l f).length := List.length_pos_iff.2 hne
       have hpl := pickv_lt c (canP l f).length hcp
       have hout2 := hout.out
       rw [if_neg hne, hkc, Int.toNat_natCast] at hout2
       have hnc := NumsAt.cells (show NumsAt wr wr.heap.size u9 (canP l f) from RowT.at (RowT.of_own hcan)) hpl
       obtain ⟨b9, o9, c9, rfl, hbl9, x9⟩ := hnc
       change wr.cell? _ = some (.int .i64 (choP l f c)) at x9
       rw [hkc] at x9
       have hpk := Lib.hid (pick_any c (canP l f).length wr hci (by omega) (by omega))
       obtain ⟨b2, o2, cap2, u2, hq, hbl2, _, _, _, _, z4, _, _, _⟩ := hedge.out k hkl
       cases hq
       have z4w : w.cell? ⟨b2, o2 + k * 7 + 2 + 2, none⟩ = some (.int .i64 l[k]!.does.to) := z4
       replace z4 : wr.cell? ⟨b2, o2 + k * 7 + 2 + 2, none⟩ = some (.int .i64 l[k]!.does.to) := (hb2.cell (p := ⟨b2, o2 + k * 7 + 4, none⟩) hbl2).trans z4
       have xe' := (hb2.cell (p := ⟨b, o + i, none⟩) hbl).trans xe
       generalize pickv c (canP l f).length = pc at *
       generalize (canP l f).length = cn at *
       generalize l[k]!.does.to = gt at *
       have k0 : (0 : Int) ≤ (pc : Int) := by omega
       have k1 : (pc : Int) < (cn : Int) := by omega
       have k2 : (0 : Int) ≤ (k : Int) := by omega
       have k3 : (k : Int) < (l.length : Int) := by omega
       have e1 : ((cn : Int) == 0) = false := beq_false_of_ne (by omega)
       have e2 : decide (cn = 0) = false := decide_eq_false (by omega)
       have hba : Below wr.heap.size wr (wr.alloc (.cells #[.int .i64 (k : Int)] 3)) := (Below.refl _ _).alloc (Nat.le_refl _) _
       have hown3 := Lib.hid (own_below (own_below hown.out hbq) hba)
       have hb3 := Lib.hid (hb2.trans (hba.mono hb2.size))
       have hsz := hb2.size
       have hnews : ∀ q u, [Value.int .i64 (k : Int)][q]? = some u → (wr.alloc (.cells #[.int .i64 (k : Int)] 3)).cell? ((⟨wr.heap.size, 0, none⟩ : Addr).add q) = some u := fun q u hu => cells_new wr [.int .i64 (k : Int)] 3 q u hu
       replace hout2 := Lib.hid hout2
       replace hne := Lib.hid hne
       replace hkc := Lib.hid hkc
       clear hcan hba hb2 hout hpl hcp
       go_upto_region 13 with (refine hpk.out.mono ?_; clear hpk; rintro e wz ⟨rfl, rfl⟩)
       go_upto_region 14 with (at_builtin; refine wpList_append_own _ rfl _ _ 23 rfl w.heap.size 3 i0 (.int .i64 0) 1 8 Tryz.underlying23 hi hz0 hz1 hz2 rfl (by decide) _ _ _ rfl hown3.out ⟨wz.heap.size, 0, none⟩ 1 1 [.int .i64 (k : Int)] rfl rfl hnews (by simp [Value.oneCell']) ?qa ?qb ?qc ?_)
       case qa => unfold maxLen; omega
       case qb => omega
       case qc => simp only [World.size_alloc]; omega
       intro v' wn hown4 hgrow hnil
       have hbn := hb3.out.grown hgrow (by simp only [World.size_alloc]; omega) (fun q hq => (own_block hown3.out hq).2.1)
       have z4n := (hbn.cell (p := ⟨b2, o2 + k * 7 + 2 + 2, none⟩) hbl2).trans z4w
       have hend : Hid (WalkI l frm cs w.heap.size w v' gt (i + 1) wn) := ⟨out ++ [(k : Int)], by rw [List.length_append]; simp; omega, by rw [List.append_assoc]; exact hout2.out, by rw [List.length_append, ints_snoc]; exact hown4, hbn⟩
       clear hown3 hown4 hgrow hnil hnews hb3 hbn z4 z4w hown
       go_wp2_with fail
       exact ⟨⟨i + 1, gt, by omega, by omega, rfl, rfl, hend⟩, by simp [intOf]; omega⟩
   ·
    have hno6 : decide ((i : Int) < 6) = false := decide_eq_false (by omega)
    have hfin : out = walkL l frm cs := by
     have h1 : (cs.take 6).drop i = [] := List.drop_eq_nil_of_le (by rw [List.length_take]; omega)
     rw [h1, walkP, List.append_nil] at hout
     exact hout
    rw [hfin] at hown
    have hres : Hid (NumsT wo u7 (walkL l frm cs)) := RowT.of_own hown
    replace hb := Lib.hid hb
    clear hown hfin hout hol
    go_wp2_with fail
    go_ret
    exact ⟨_, rfl, hres.out, hb.out⟩
  ·
   have hno : decide ((i : Int) < (cs.length : Int)) = false := decide_eq_false (by omega)
   have hfin : out = walkL l frm cs := by
    have h1 : (cs.take 6).drop i = [] := List.drop_eq_nil_of_le (by rw [List.length_take]; omega)
    rw [h1, walkP, List.append_nil] at hout
    exact hout
   rw [hfin] at hown
   have hres : Hid (NumsT wo u7 (walkL l frm cs)) := RowT.of_own hown
   replace hb := Lib.hid hb
   clear hown hfin hout hol
   go_wp2_with fail
   go_ret
   exact ⟨_, rfl, hres.out, hb.out⟩
end Go.Proofs.YtpeandbcdaikbaaGreatDoor
namespace Go.Proofs.YtpeandbcdaikbaaGreatDoor
open Go.RowKit Go.Shelf Go.Maps
theorem NumsT.take {w : World} {a : Option Addr} {c k : Nat} {l : List Int} (h : NumsT w (.slice a l.length c) l) (hk : k ≤ l.length) : NumsT w (.slice a k c) (l.take k) := by
 obtain ⟨a', cap, hq, h1, h2, hc⟩ := h
 injection hq with e1 _ e3
 subst e1 e3
 have hl : (l.take k).length = k := by rw [List.length_take]; omega
 unfold NumsT
 rw [hl]
 refine ⟨_, _, rfl, by omega, h2, fun hp => ?_⟩
 obtain ⟨b, o, cur, fz, ha, hb, hx⟩ := hc (by omega)
 refine ⟨b, o, cur, fz, ha, hb, fun j u hu => hx j u ?_⟩
 rw [List.map_take, List.getElem?_take] at hu
 split at hu
 ·
  exact hu
 ·
  cases hu
theorem NumsT.drop {w : World} {a : Option Addr} {c k : Nat} {l : List Int} (h : NumsT w (.slice a l.length c) l) (hk : k ≤ l.length) : NumsT w (.slice (if c = k then a else a.map fun x => x.add k) (l.length - k) (c - k)) (l.drop k) := by
 obtain ⟨a', cap, hq, h1, h2, hc⟩ := h
 injection hq with e1 _ e3
 subst e1 e3
 have hl : (l.drop k).length = l.length - k := List.length_drop
 unfold NumsT
 rw [hl]
 refine ⟨_, _, rfl, by omega, by omega, fun hp => ?_⟩
 obtain ⟨b, o, cur, fz, rfl, hb, hx⟩ := hc (by omega)
 refine ⟨b, o + k, cur, fz, by rw [if_neg (by omega)]; show some (Addr.add ⟨b, o, none⟩ k) = _; rw [Addr.add_mid], hb, fun j u hu => ?_⟩
 rw [List.map_drop, List.getElem?_drop] at hu
 rw [Nat.add_assoc]
 exact hx (k + j) u hu
theorem StepsAt.shaped {w : World} {B : Nat} {v : Value} {l : List Stp} (h : StepsAt w B v l) : ∃ a c, v = .slice a l.length c := by
 obtain ⟨a, c, h, _⟩ := h
 exact ⟨a, c, h⟩
theorem stepsT_at2 {w : World} {v : Value} {l : List Stp} (h : StepsT w v l) : StepsAt w w.heap.size v l := by
 first | exact h | exact h.at
/-- A route's claims. -/
theorem claims_shape {l : List Edg} {life : List Int} {frm day : Int} {es : List Int} {r : Rou} (h : ofP l life frm day es = some r) : ∃ g : Int → List Stp, r.claims = (props8.map fun p => (p, g p)) ∧ (∀ p, 1 ≤ p → p ≤ 8 → validA p (g p) = true) ∧ r.claims.length = 8 ∧ (∀ p, 1 ≤ p → p ≤ 8 → stepsC r.claims p = g p) := by
 obtain ⟨_, _, h1, h2, _⟩ := of_facts h
 refine ⟨_, h1, fun p p1 p8 => h2 p (mem_props.2 ⟨p1, p8⟩), by rw [h1]; rfl, fun p p1 p8 => ?_⟩
 rw [h1, stepsC_map _ (mem_props.2 ⟨p1, p8⟩)]
/-- The cells of a route's claims. -/
theorem OkR.claim {z : RouM} {w : World} (h : OkR z w) {i : Nat} (hi : i < z.r.claims.length) : ∃ b o cap u, z.cv = .slice (some ⟨b, o, none⟩) z.r.claims.length cap ∧ b < w.heap.size ∧ w.cell? ⟨b, o + i * 2, none⟩ = some (.int .i64 (z.r.claims[i]!).1) ∧ w.cell? ⟨b, o + i * 2 + 1, none⟩ = some u ∧ StepsAt w w.heap.size u (z.r.claims[i]!).2 :=
 h.2.at.cells hi
theorem sum_bound (f : Int → Int) : ∀ (es : List Int), (∀ e ∈ es, 0 ≤ f e ∧ f e ≤ 1000000) → 0 ≤ (es.map f).sum ∧ (es.map f).sum ≤ 1000000 * (es.length : Int)
 | [], _ => by simp
 | e :: es, h => by
  have h1 := sum_bound f es fun e he => h e (List.mem_cons_of_mem _ he)
  have h2 := h e (List.mem_cons_self ..)
  rw [List.map_cons, List.sum_cons, List.length_cons]
  omega
/-- A route's cost is small. -/
theorem ofP_cost {l : List Edg} {life : List Int} {frm day : Int} {es : List Int} {r : Rou} (h : ofP l life frm day es = some r) : 0 ≤ r.cost ∧ r.cost ≤ 6000000 := by
 obtain ⟨hv, _, _, _, hc, he, h6, _⟩ := of_facts h
 rw [hc]
 have := sum_bound (fun e => l[e.toNat]!.cost) es fun e hx => by
  have hx := he e hx
  exact (ok_parts ((validE_parts hv).2 l[e.toNat]! (by rw [getElem!_pos l e.toNat (by omega)]; exact List.getElem_mem _))).1
 omega
end Go.Proofs.YtpeandbcdaikbaaGreatDoor
