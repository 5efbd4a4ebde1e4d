/-
 Routes of chapter 11: rows of edges and of elements of Keep that a call makes; the reference's Life.
 Routes of chapter 11: the reference's Made.
-/
import Derived.Test.YtpeandbcdaikbaaGreatDoorYP
open List (setIfInBounds_toArray set_cons_zero set_cons_succ)
namespace Go.Proofs.YtpeandbcdaikbaaGreatDoor
open Go.RowKit Go.Shelf Go.Maps

attribute [local go_sem] Oper.semAt_some

theorem own_keepTy {w w' : World} {X : List TypeId} {B n s : Nat} {e : TypeId} {v : Value} {xs : List Value} (h : w.ownsRow B e s v n xs) (he : e ∉ X) (hk : KeepTy X w w') : w'.ownsRow B e s v n xs :=
 own_stay h fun g hg => by
  obtain ⟨_, _, cur, hc⟩ := own_block h hg
  exact (hk g _ _ _ he hc).trans hc.symm
theorem arr_row {w w' : World} {b : Nat} {T : TypeId} {L : List Value} {B n s : Nat} {e : TypeId} {v : Value} {xs : List Value} (hA : Arr w b T L) (h : w.ownsRow B e s v n xs) (hne : T ≠ e) (hg : w.grownBy w' v.ownBlock) : Arr w' b T L :=
 arr_keepTy hA (X := [e]) (by simpa using hne) (KeepTy.grown h hg (by simp))
/-- Claims (or elements of Keep) in a row of the call's own, of type T. -/
structure TOwn (T : TypeId) (B : Nat) (w : World) (v : Value) (l : Clms) (vs : List Value) : Prop where
 len : vs.length = l.length
 own : w.ownsRow B T 2 v l.length (clC l vs)
 steps : ∀ i, i < l.length → StepsT w vs[i]! l[i]!.2
theorem TOwn.nil (T : TypeId) (B : Nat) (w : World) : TOwn T B w (.slice none 0 0) [] [] := ⟨rfl, World.ownsRow_nil _ _ _ _, fun i hi => absurd hi (Nat.not_lt_zero i)⟩
theorem TOwn.claims {T : TypeId} {B : Nat} {w : World} {v : Value} {l : Clms} {vs : List Value} (h : TOwn T B w v l vs) : ClaimsT T w v l := ⟨vs, h.len, RowT.of_own h.own, h.steps⟩
theorem TOwn.below {T : TypeId} {B : Nat} {w w' : World} {v : Value} {l : Clms} {vs : List Value} (h : TOwn T B w v l vs) (hb : Below w.heap.size w w') : TOwn T B w' v l vs :=
 ⟨h.len, own_below h.own hb, fun i hi => (h.steps i hi).below hb⟩
theorem TOwn.keepTy {T : TypeId} {X : List TypeId} {B : Nat} {w w' : World} {v : Value} {l : Clms} {vs : List Value} (h : TOwn T B w v l vs) (hT : T ∉ X) (hS : 73 ∉ X) (hk : KeepTy X w w') : TOwn T B w' v l vs :=
 ⟨h.len, own_keepTy h.own hT hk, fun i hi => (h.steps i hi).keepTy hS hk⟩
theorem snoc_at {α : Type} [Inhabited α] (l : List α) (x : α) : (l ++ [x])[l.length]! = x := by
 rw [getElem!_pos _ _ (by simp), List.getElem_append_right (Nat.le_refl _)]
 simp
theorem snoc_lt {α : Type} [Inhabited α] (l : List α) (x : α) {i : Nat} (hi : i < l.length) : (l ++ [x])[i]! = l[i]! := by
 rw [getElem!_pos _ i (by simp; omega), getElem!_pos l i hi, List.getElem_append_left]
theorem TOwn.snoc {T : TypeId} {B : Nat} {w w' : World} {v v' : Value} {l : Clms} {vs : List Value} (h : TOwn T B w v l vs) (hT : 73 ≠ T) (p : Int) (s : List Stp) (u : Value) (hu : StepsT w u s)
  (hown : w'.ownsRow B T 2 v' (l.length + 1) (clC l vs ++ [.int .i64 p, u])) (hg : w.grownBy w' v.ownBlock) : TOwn T B w' v' (l ++ [(p, s)]) (vs ++ [u]) := by
 have hk : KeepTy [T] w w' := KeepTy.grown h.own hg (by simp)
 have hS : 73 ∉ [T] := by simpa using hT
 refine ⟨by simp [h.len], by rw [List.length_append, List.length_singleton, clC_snoc l vs (p, s) u h.len]; exact hown, fun i hi => ?_⟩
 rw [List.length_append, List.length_singleton] at hi
 by_cases e : i < l.length
 ·
  rw [snoc_lt vs u (by rw [h.len]; exact e), snoc_lt l (p, s) e]
  exact (h.steps i e).keepTy hS hk
 ·
  obtain rfl : i = l.length := by omega
  rw [snoc_at l (p, s)]
  have := snoc_at vs u
  rw [h.len] at this
  rw [this]
  exact hu.keepTy hS hk
/-- Edges in a typed row. -/
def EdgesT (w : World) (v : Value) (l : List Edg) : Prop := ∃ vs : List Value, vs.length = l.length ∧ RowT w 30 v l.length (edC l vs) ∧ ∀ i, i < l.length → ClaimsT 104 w vs[i]! l[i]!.does.keep
theorem EdgesT.at {w : World} {v : Value} {l : List Edg} (h : EdgesT w v l) : EdgesAt w w.heap.size v l := by
 obtain ⟨vs, h1, h2, h3⟩ := h
 exact ⟨vs, h1, h2.at, fun i hi => (h3 i hi).at⟩
theorem EdgesT.below {w w' : World} {v : Value} {l : List Edg} (h : EdgesT w v l) (hb : Below w.heap.size w w') : EdgesT w' v l := by
 obtain ⟨vs, h1, h2, h3⟩ := h
 exact ⟨vs, h1, h2.below hb, fun i hi => (h3 i hi).below hb⟩
theorem EdgesT.keepTy {X : List TypeId} {w w' : World} {v : Value} {l : List Edg} (h : EdgesT w v l) (h1 : 30 ∉ X) (h2 : 104 ∉ X) (h3 : 73 ∉ X) (hk : KeepTy X w w') : EdgesT w' v l := by
 obtain ⟨vs, q1, q2, q3⟩ := h
 exact ⟨vs, q1, q2.keepTy h1 hk, fun i hi => (q3 i hi).keepTy h2 h3 hk⟩
theorem EdgesT.len {w : World} {v : Value} {l : List Edg} (h : EdgesT w v l) : ∃ a c, v = .slice a l.length c ∧ l.length ≤ maxLen := by
 obtain ⟨_, _, h, _⟩ := h
 exact h.len
theorem edC_snoc : ∀ (l : List Edg) (vs : List Value) (e : Edg) (v : Value), vs.length = l.length → edC (l ++ [e]) (vs ++ [v]) = edC l vs ++ edgC e v
 | [], [], _, _, _ => rfl
 | d :: l, u :: vs, e, v, h => by
  rw [List.cons_append, List.cons_append, edC, edC, edC_snoc l vs e v (by simpa using h)]
  rfl
 | [], _ :: _, _, _, h => by simp at h
 | _ :: _, [], _, _, h => by simp at h
theorem edC_len : ∀ (l : List Edg) (vs : List Value), vs.length = l.length → (edC l vs).length = l.length * 7
 | [], [], _ => rfl
 | d :: l, u :: vs, h => by
  rw [edC]
  have := edC_len l vs (by simpa using h)
  simp only [List.length_cons, this]
  omega
 | [], _ :: _, h => by simp at h
 | _ :: _, [], h => by simp at h
/-- Edges in a row of the call's own. -/
structure EdOwn (B : Nat) (w : World) (v : Value) (l : List Edg) (vs : List Value) : Prop where
 len : vs.length = l.length
 own : w.ownsRow B 30 7 v l.length (edC l vs)
 keeps : ∀ i, i < l.length → ClaimsT 104 w vs[i]! l[i]!.does.keep
theorem EdOwn.nil (B : Nat) (w : World) : EdOwn B w (.slice none 0 0) [] [] := ⟨rfl, World.ownsRow_nil _ _ _ _, fun i hi => absurd hi (Nat.not_lt_zero i)⟩
theorem EdOwn.edges {B : Nat} {w : World} {v : Value} {l : List Edg} {vs : List Value} (h : EdOwn B w v l vs) : EdgesT w v l := ⟨vs, h.len, RowT.of_own h.own, h.keeps⟩
theorem EdOwn.below {B : Nat} {w w' : World} {v : Value} {l : List Edg} {vs : List Value} (h : EdOwn B w v l vs) (hb : Below w.heap.size w w') : EdOwn B w' v l vs :=
 ⟨h.len, own_below h.own hb, fun i hi => (h.keeps i hi).below hb⟩
theorem EdOwn.snoc {B : Nat} {w w' : World} {v v' : Value} {l : List Edg} {vs : List Value} (h : EdOwn B w v l vs) (e : Edg) (u : Value) (hu : ClaimsT 104 w u e.does.keep)
  (hown : w'.ownsRow B 30 7 v' (l.length + 1) (edC l vs ++ edgC e u)) (hg : w.grownBy w' v.ownBlock) : EdOwn B w' v' (l ++ [e]) (vs ++ [u]) := by
 have hk : KeepTy [30] w w' := KeepTy.grown h.own hg (by decide)
 refine ⟨by simp [h.len], by rw [List.length_append, List.length_singleton, edC_snoc l vs e u h.len]; exact hown, fun i hi => ?_⟩
 rw [List.length_append, List.length_singleton] at hi
 by_cases q : i < l.length
 ·
  rw [snoc_lt vs u (by rw [h.len]; exact q), snoc_lt l e q]
  exact (h.keeps i q).keepTy (by decide) (by decide) hk
 ·
  obtain rfl : i = l.length := by omega
  rw [snoc_at l e]
  have := snoc_at vs u
  rw [h.len] at this
  rw [this]
  exact hu.keepTy (by decide) (by decide) hk
def lifeTo (xs : List Int) (i : Nat) : List Int := -1 :: (List.range i).map (lifeAt xs)
theorem lifeTo_succ (xs : List Int) (i : Nat) : lifeTo xs (i + 1) = lifeTo xs i ++ [lifeAt xs i] := by simp [lifeTo, List.range_succ]
theorem lifeTo_len (xs : List Int) (i : Nat) : (lifeTo xs i).length = i + 1 := by simp [lifeTo]
set_option maxRecDepth 100000 in
set_option maxHeartbeats 4000000 in
theorem Life_any (v : Value) (xs : List Int) (w : World) (hv : NumsAt w w.heap.size v xs) (hx : ∀ x ∈ xs, I64 x) :
  Calls Tryz.prog 35 #[v] w fun e w' => ∃ v', e = .returned v' ∧ w'.ownsRow w.heap.size 3 1 v' (lifeR xs).length (ints (lifeR xs)) ∧ Below w.heap.size w w' := by
 have hcell := Lib.hid fun i (hi : i < xs.length) => NumsAt.cells hv hi
 obtain ⟨va, vc, rfl, _, hxm, _⟩ := hv
 obtain ⟨i0, hi, hz0, hz1, hz2⟩ := info_parts Tryz.info_int
 have hstart : Hid ((w.alloc (.cells #[.int .i64 (-1)] 3)).ownsRow w.heap.size 3 1 (.slice (some ⟨w.heap.size, 0, none⟩) 1 1) (lifeTo xs 0).length (ints (lifeTo xs 0)) ∧ Below w.heap.size w (w.alloc (.cells #[.int .i64 (-1)] 3))) :=
  ⟨⟨rfl, .inr ⟨w.heap.size, 1, #[.int .i64 (-1)], rfl, Nat.le_refl _, World.alloc_heap_new w _, Nat.le_refl _, by unfold maxLen; omega, rfl, rfl⟩⟩, (Below.refl _ _).alloc (Nat.le_refl _) _⟩
 go_enter Tryz.func35, Tryz.ntmps35
 go_wp2_with fail
 go_loopw [3, 4] (fun ov iv wr => ∃ i : Nat, i ≤ 5 ∧ iv = .int .i64 (i : Int) ∧ Hid (wr.ownsRow w.heap.size 3 1 ov (lifeTo xs i).length (ints (lifeTo xs i)) ∧ Below w.heap.size w wr)) (fun _ iv _ => 5 - (intOf iv).toNat)
 case atStart => exact ⟨0, Nat.zero_le _, rfl, hstart⟩
 case round =>
  obtain ⟨i, hi5, rfl, hall⟩ := hrel
  clear hstart
  obtain ⟨hown, hb⟩ := hall.out
  clear hall
  by_cases h5 : i < 5
  ·
   have hyes : decide ((i : Int) < 5) = true := decide_eq_true (by omega)
   have hw1 : IntKind.i64.wrap ((i : Int) + 1) = (i : Int) + 1 := IntWalk.i64_in _ (by omega)
   have hll := lifeTo_len xs i
   rw [hll] at hown
   have hsz := hb.size
   have hsu : Hid (∀ r, lifeAt xs i = r → lifeTo xs (i + 1) = lifeTo xs i ++ [r]) := Lib.hid fun r hr => by rw [lifeTo_succ, hr]
   by_cases hlt : i < xs.length
   ·
    have hy2 : decide ((i : Int) < (xs.length : Int)) = true := decide_eq_true (by omega)
    have hxi : I64 xs[i]! := hx _ (by rw [getElem!_pos xs i hlt]; exact List.getElem_mem hlt)
    obtain ⟨b, o, cap, hq, hbl, xe⟩ := hcell.out i hlt
    cases hq
    have xe' := (hb.cell (p := ⟨b, o + i, none⟩) hbl).trans xe
    have hr : lifeAt xs i = (pickv xs[i]! 50 : Nat) - 1 := by unfold lifeAt; rw [if_pos hlt]
    generalize xs[i]! = x at xe xe' hxi hr
    have hpk := Lib.hid (pick11_any x 50 wr hxi (by omega) (by omega))
    have hp50 := pickv_lt x 50 (by omega)
    generalize pickv x 50 = k at hpk hr hp50
    have hw2 : IntKind.i64.wrap ((k : Int) - 1) = (k : Int) - 1 := IntWalk.i64_in _ (by omega)
    replace hown := Lib.hid hown
    replace hb := Lib.hid hb
    clear hcell xe
    go_upto_region 8 with (refine hpk.out.mono ?_; clear hpk; rintro e wz ⟨rfl, hwz⟩)
    subst hwz
    have hba : Below wz.heap.size wz (wz.alloc (.cells #[.int .i64 ((k : Int) - 1)] 3)) := (Below.refl _ _).alloc (Nat.le_refl _) _
    have hown3 := Lib.hid (own_below hown.out hba)
    have hb3 := Lib.hid (hb.out.trans (hba.mono hb.out.size))
    have hnews : ∀ j u, [Value.int .i64 ((k : Int) - 1)][j]? = some u → (wz.alloc (.cells #[.int .i64 ((k : Int) - 1)] 3)).cell? ((⟨wz.heap.size, 0, none⟩ : Addr).add j) = some u := fun j u hu => cells_new wz [.int .i64 ((k : Int) - 1)] 3 j u hu
    have hs2 := hsu.out _ hr
    replace hs2 := Lib.hid hs2
    clear hr hsu
    go_wp2_with (at_builtin; refine wpList_append_own _ rfl _ _ 23 rfl w.heap.size 3 i0 (.int .i64 0) 1 8 Tryz.underlying23 hi hz0 hz1 hz2 rfl (by decide) _ _ _ rfl hown3.out ⟨wz.heap.size, 0, none⟩ 1 1 [.int .i64 ((k : Int) - 1)] rfl rfl hnews (by simp [Value.oneCell']) ?qa ?qb ?qc ?_)
    case qa => unfold maxLen; omega
    case qb => omega
    case qc => have := hb.out.size; simp only [World.size_alloc]; omega
    intro v' wn hown4 hgrow hnil
    have hend : Hid (wn.ownsRow w.heap.size 3 1 v' (lifeTo xs (i + 1)).length (ints (lifeTo xs (i + 1))) ∧ Below w.heap.size w wn) := by
     rw [hs2.out, List.length_append, ints_snoc, lifeTo_len]
     exact ⟨hown4, hb3.out.grown hgrow (by have := hb.out.size; simp only [World.size_alloc]; omega) (fun g hg => (own_block hown3.out hg).2.1)⟩
    clear hown3 hown4 hgrow hnil hnews hown hb hb3
    go_wp2_with fail
    exact ⟨⟨i + 1, by omega, rfl, hend⟩, by simp [intOf]; omega⟩
   ·
    have hno2 : decide ((i : Int) < (xs.length : Int)) = false := decide_eq_false (by omega)
    have hr : lifeAt xs i = 30 := by unfold lifeAt; rw [if_neg hlt]
    replace hown := Lib.hid hown
    replace hb := Lib.hid hb
    have hba : Below wr.heap.size wr (wr.alloc (.cells #[.int .i64 30] 3)) := (Below.refl _ _).alloc (Nat.le_refl _) _
    have hown3 := Lib.hid (own_below hown.out hba)
    have hb3 := Lib.hid (hb.out.trans (hba.mono hb.out.size))
    have hnews : ∀ j u, [Value.int .i64 30][j]? = some u → (wr.alloc (.cells #[.int .i64 30] 3)).cell? ((⟨wr.heap.size, 0, none⟩ : Addr).add j) = some u := fun j u hu => cells_new wr [.int .i64 30] 3 j u hu
    have hs2 := hsu.out _ hr
    replace hs2 := Lib.hid hs2
    clear hr hsu
    go_wp2_with (at_builtin; refine wpList_append_own _ rfl _ _ 23 rfl w.heap.size 3 i0 (.int .i64 0) 1 8 Tryz.underlying23 hi hz0 hz1 hz2 rfl (by decide) _ _ _ rfl hown3.out ⟨wr.heap.size, 0, none⟩ 1 1 [.int .i64 30] rfl rfl hnews (by simp [Value.oneCell']) ?qa ?qb ?qc ?_)
    case qa => unfold maxLen; omega
    case qb => omega
    case qc => have := hb.out.size; simp only [World.size_alloc]; omega
    intro v' wn hown4 hgrow hnil
    have hend : Hid (wn.ownsRow w.heap.size 3 1 v' (lifeTo xs (i + 1)).length (ints (lifeTo xs (i + 1))) ∧ Below w.heap.size w wn) := by
     rw [hs2.out, List.length_append, ints_snoc, lifeTo_len]
     exact ⟨hown4, hb3.out.grown hgrow (by have := hb.out.size; simp only [World.size_alloc]; omega) (fun g hg => (own_block hown3.out hg).2.1)⟩
    clear hown3 hown4 hgrow hnil hnews hown hb hb3
    go_wp2_with fail
    exact ⟨⟨i + 1, by omega, rfl, hend⟩, by simp [intOf]; omega⟩
  ·
   have hno : decide ((i : Int) < 5) = false := decide_eq_false (by omega)
   obtain rfl : i = 5 := by omega
   have e : lifeTo xs 5 = lifeR xs := rfl
   rw [e] at hown
   replace hown := Lib.hid hown
   replace hb := Lib.hid hb
   go_wp2_with fail
   go_ret
   exact ⟨_, rfl, hown.out, hb.out⟩
end Go.Proofs.YtpeandbcdaikbaaGreatDoor
namespace Go.Proofs.YtpeandbcdaikbaaGreatDoor
open Go.RowKit Go.Shelf Go.Maps

attribute [local go_sem] Oper.semAt_some

theorem Tryz.info_keep : (Tryz.prog.info? 104).map (fun i => (i.zero, i.size, i.bytes)) = some (some (.agg #[.int .i64 0, .slice none 0 0]), 2, 32) := by kernel_rfl
theorem Tryz.info_edge : (Tryz.prog.info? 30).map (fun i => (i.zero, i.size, i.bytes)) = some (some (.agg #[.int .i64 0, .int .i64 0, .int .i64 0, .int .i64 0, .int .i64 0, .bool false, .slice none 0 0]), 7, 72) := by kernel_rfl
def madeTo (zs : List Int) (i : Nat) : List Edg := (List.range i).map fun i => edgR i (rowY zs i)
theorem madeTo_succ (zs : List Int) (i : Nat) : madeTo zs (i + 1) = madeTo zs i ++ [edgR i (rowY zs i)] := by simp [madeTo, List.range_succ]
theorem madeTo_len (zs : List Int) (i : Nat) : (madeTo zs i).length = i := by simp [madeTo]
/-- A row of rows of five integers. -/
def FivesAt (w : World) (B : Nat) (v : Value) (n : Nat) (zs : List Int) : Prop := zs.length = n * 5 ∧ SliceAt w B v n (ints zs)
theorem FivesAt.cells {w : World} {B : Nat} {v : Value} {n : Nat} {zs : List Int} (h : FivesAt w B v n zs) {i : Nat} (hi : i < n) : ∃ b o cap, v = .slice (some ⟨b, o, none⟩) n cap ∧ b < B ∧ ∀ j, j < 5 → w.cell? ⟨b, o + i * 5 + j, none⟩ = some (.int .i64 (rowY zs i j)) := by
 obtain ⟨hl, a, cap, rfl, _, _, hc⟩ := h
 obtain ⟨b, o, rfl, hb, hx⟩ := hc (by omega)
 refine ⟨b, o, cap, rfl, hb, fun j hj => ?_⟩
 have hlt : i * 5 + j < zs.length := by omega
 rw [Nat.add_assoc]
 refine hx _ _ ?_
 rw [ints, List.getElem?_map, List.getElem?_eq_getElem hlt, rowY, getElem!_pos zs _ hlt]
 rfl
theorem rowY_in {zs : List Int} {n i j : Nat} (h : zs.length = n * 5) (hz : ∀ z ∈ zs, I64 z) (hi : i < n) (hj : j < 5) : I64 (rowY zs i j) := by
 have hlt : i * 5 + j < zs.length := by omega
 exact hz _ (by rw [rowY, getElem!_pos zs _ hlt]; exact List.getElem_mem hlt)
theorem shr_in {y : Int} (h : I64 y) (j : Nat) : I64 (y / 2 ^ j) := by
 obtain ⟨h1, h2⟩ := h
 have hd : (1 : Int) ≤ 2 ^ j := by
  have : (1 : Nat) ≤ 2 ^ j := Nat.one_le_two_pow
  exact_mod_cast this
 generalize (2 : Int) ^ j = d at *
 rcases Int.lt_or_le y 0 with h0 | h0
 ·
  have e1 : y ≤ y / d := Int.le_ediv_of_mul_le (by omega) (by
   have := Int.mul_le_mul_of_nonpos_left (show y ≤ 0 by omega) hd
   omega)
  have e2 : y / d < 0 := Int.ediv_neg_of_neg_of_pos h0 (by omega)
  exact ⟨by omega, by omega⟩
 ·
  have e1 : y / d ≤ y := Int.ediv_le_self d h0
  have e2 : 0 ≤ y / d := Int.ediv_nonneg h0 (by omega)
  exact ⟨by omega, by omega⟩
theorem propK_in {k : Nat} : 1 ≤ propK k ∧ propK k ≤ 8 := by
 unfold propK
 repeat' split
 all_goals omega
set_option maxRecDepth 100000 in
set_option maxHeartbeats 8000000 in
theorem Made_any (v : Value) (n : Nat) (zs : List Int) (w : World) (hv : FivesAt w w.heap.size v n zs) (hz : ∀ z ∈ zs, I64 z) :
  Calls Tryz.prog 34 #[v] w fun e w' => ∃ v' vs, e = .returned v' ∧ EdOwn w.heap.size w' v' (madeE n zs) vs ∧ Below w.heap.size w w' := by
 have hcell := Lib.hid fun i (hi : i < n) => FivesAt.cells hv hi
 have hzI := Lib.hid fun i j (hi : i < n) (hj : j < 5) => rowY_in hv.1 hz hi hj
 obtain ⟨hzl, va, vc, rfl, _, hxm, _⟩ := hv
 obtain ⟨i0, hi, hz0, hz1, hz2⟩ := info_parts Tryz.info_keep
 obtain ⟨e0, he, he0, he1, he2⟩ := info_parts Tryz.info_edge
 have hstart : Hid (∃ us, EdOwn w.heap.size w (.slice none 0 0) (madeTo zs 0) us ∧ Below w.heap.size w w) := ⟨[], EdOwn.nil _ _, Below.refl _ _⟩
 go_enter Tryz.func34, Tryz.ntmps34
 go_wp2_with fail
 go_loopw [3, 4] (fun ov iv wr => ∃ i : Nat, i ≤ n ∧ i ≤ 8 ∧ iv = .int .i64 (i : Int) ∧ Hid (∃ us, EdOwn w.heap.size wr ov (madeTo zs i) us ∧ Below w.heap.size w wr)) (fun _ iv _ => 8 - (intOf iv).toNat)
 case atStart => exact ⟨0, Nat.zero_le _, Nat.zero_le _, rfl, hstart⟩
 case round =>
  obtain ⟨wo, hwo⟩ : ∃ wo, wo = wr := ⟨_, rfl⟩
  subst hwo
  obtain ⟨i, hi1, hi8, rfl, hall⟩ := hrel
  clear hstart
  obtain ⟨us, hown, hb⟩ := hall.out
  clear hall
  by_cases hlt : i < n
  ·
   have hyes : decide ((i : Int) < (n : Int)) = true := decide_eq_true (by omega)
   by_cases h8 : i < 8
   ·
    have hyes8 : decide ((i : Int) < 8) = true := decide_eq_true (by omega)
    have hw1 : IntKind.i64.wrap ((i : Int) + 1) = (i : Int) + 1 := IntWalk.i64_in _ (by omega)
    have hw1' : IntKind.i64.wrap (1 + (i : Int)) = 1 + (i : Int) := IntWalk.i64_in _ (by omega)
    obtain ⟨b, o, cap, hq, hbl, xc⟩ := hcell.out i hlt
    cases hq
    have x0 := (hb.cell (p := ⟨b, o + i * 5 + 0, none⟩) hbl).trans (xc 0 (by omega))
    have x1 := (hb.cell (p := ⟨b, o + i * 5 + 1, none⟩) hbl).trans (xc 1 (by omega))
    have x2 := (hb.cell (p := ⟨b, o + i * 5 + 2, none⟩) hbl).trans (xc 2 (by omega))
    have x3 := (hb.cell (p := ⟨b, o + i * 5 + 3, none⟩) hbl).trans (xc 3 (by omega))
    have x4 := (hb.cell (p := ⟨b, o + i * 5 + 4, none⟩) hbl).trans (xc 4 (by omega))
    rw [Nat.add_zero] at x0
    have I0 := hzI.out i 0 hlt (by omega)
    have I1 := hzI.out i 1 hlt (by omega)
    have I2 := hzI.out i 2 hlt (by omega)
    have I3 := hzI.out i 3 hlt (by omega)
    have I4 := hzI.out i 4 hlt (by omega)
    have hE : Hid (madeTo zs (i + 1) = madeTo zs i ++ [⟨(pickv (rowY zs i 3) 9 : Nat), (pickv (rowY zs i 4) 40 : Nat), ⟨1 + (i : Int), 1 + (pickv (rowY zs i 0) 5 : Nat), 1 + (1 + (pickv (rowY zs i 0) 5 : Nat) + (pickv (rowY zs i 1) 4 : Nat)) % 5, false, keepsR (rowY zs i 2) 4⟩⟩]) := Lib.hid (madeTo_succ zs i)
    clear xc hcell
    generalize rowY zs i 0 = y0 at *
    generalize rowY zs i 1 = y1 at *
    generalize rowY zs i 2 = y2 at *
    generalize rowY zs i 3 = y3 at *
    generalize rowY zs i 4 = y4 at *
    have hp0 := fun W => Lib.hid (pick11_any y0 5 W I0 (by omega) (by omega))
    have hp1 := fun W => Lib.hid (pick11_any y1 4 W I1 (by omega) (by omega))
    have hp3 := fun W => Lib.hid (pick11_any y3 9 W I3 (by omega) (by omega))
    have hp4 := fun W => Lib.hid (pick11_any y4 40 W I4 (by omega) (by omega))
    have b0 := pickv_lt y0 5 (by omega)
    have b1 := pickv_lt y1 4 (by omega)
    have b3 := pickv_lt y3 9 (by omega)
    have b4 := pickv_lt y4 40 (by omega)
    generalize pickv y0 5 = k0 at *
    generalize pickv y1 4 = k1 at *
    generalize pickv y3 9 = k3 at *
    generalize pickv y4 40 = k4 at *
    have hw2 : IntKind.i64.wrap (1 + (k0 : Int)) = 1 + (k0 : Int) := IntWalk.i64_in _ (by omega)
    have hp0' := hp0 (wo.alloc (.cells #[.int .i64 y0, .int .i64 y1, .int .i64 y2, .int .i64 y3, .int .i64 y4] 105))
    replace hown := Lib.hid hown
    replace hb := Lib.hid hb
    replace hp0 := Lib.hid hp0
    replace hp1 := Lib.hid hp1
    replace hp3 := Lib.hid hp3
    replace hp4 := Lib.hid hp4
    go_upto_region 7 with (refine hp0'.out.mono ?_; clear hp0'; rintro e wz ⟨rfl, rfl⟩)
    have hA5 : Arr ((wo.alloc (.cells #[.int .i64 y0, .int .i64 y1, .int .i64 y2, .int .i64 y3, .int .i64 y4] 105)).alloc (.cells #[.int .i64 (1 + (i : Int)), .int .i64 (1 + (k0 : Int)), .int .i64 0, .bool false, .slice none 0 0] 28)) wo.heap.size 105 [.int .i64 y0, .int .i64 y1, .int .i64 y2, .int .i64 y3, .int .i64 y4] := (Arr.new rfl rfl).alloc _
    have hM5 : Arr ((wo.alloc (.cells #[.int .i64 y0, .int .i64 y1, .int .i64 y2, .int .i64 y3, .int .i64 y4] 105)).alloc (.cells #[.int .i64 (1 + (i : Int)), .int .i64 (1 + (k0 : Int)), .int .i64 0, .bool false, .slice none 0 0] 28)) (wo.heap.size + 1) 28 [.int .i64 (1 + (i : Int)), .int .i64 (1 + (k0 : Int)), .int .i64 0, .bool false, .slice none 0 0] := Arr.new rfl (by simp)
    have hb5 : Below wo.heap.size wo ((wo.alloc (.cells #[.int .i64 y0, .int .i64 y1, .int .i64 y2, .int .i64 y3, .int .i64 y4] 105)).alloc (.cells #[.int .i64 (1 + (i : Int)), .int .i64 (1 + (k0 : Int)), .int .i64 0, .bool false, .slice none 0 0] 28)) := ((Below.refl _ _).alloc (Nat.le_refl _) _).alloc (by simp) _
    generalize (wo.alloc (.cells #[.int .i64 y0, .int .i64 y1, .int .i64 y2, .int .i64 y3, .int .i64 y4] 105)).alloc (.cells #[.int .i64 (1 + (i : Int)), .int .i64 (1 + (k0 : Int)), .int .i64 0, .bool false, .slice none 0 0] 28) = w5 at hA5 hM5 hb5 ⊢
    have hd5 : Below wo.heap.size wo w5.drew := hb5.drew
    replace hA5 : Arr w5.drew wo.heap.size 105 _ := hA5
    replace hM5 : Arr w5.drew (wo.heap.size + 1) 28 _ := hM5
    have g1 : w5.cell? ⟨wo.heap.size, 1, none⟩ = some (.int .i64 y1) := hA5.cell (j := 1) rfl
    have g2 : w5.cell? ⟨wo.heap.size + 1, 1, none⟩ = some (.int .i64 (1 + (k0 : Int))) := hM5.cell (j := 1) rfl
    have hq1 := hp1.out w5.drew
    have hwa : IntKind.i64.wrap (1 + (k0 : Int) + (k1 : Int)) = 1 + (k0 : Int) + (k1 : Int) := IntWalk.i64_in _ (by omega)
    have hrem : (1 + (k0 : Int) + (k1 : Int)).tmod 5 = (1 + (k0 : Int) + (k1 : Int)) % 5 := Int.tmod_eq_emod_of_nonneg (by omega)
    have hT := Int.emod_nonneg (1 + (k0 : Int) + (k1 : Int)) (show (5 : Int) ≠ 0 by omega)
    have hT2 := Int.emod_lt_of_pos (1 + (k0 : Int) + (k1 : Int)) (show (0 : Int) < 5 by omega)
    have hwb : IntKind.i64.wrap (1 + (1 + (k0 : Int) + (k1 : Int)) % 5) = 1 + (1 + (k0 : Int) + (k1 : Int)) % 5 := IntWalk.i64_in _ (by omega)
    refine wp_region_held_drew (S := fun w' => w'.cell? ⟨wo.heap.size, 1, none⟩ = some (.int .i64 y1) ∧ w'.cell? ⟨wo.heap.size + 1, 1, none⟩ = some (.int .i64 (1 + (k0 : Int)))) (by kernel_rfl) (by exact ⟨g1, g2⟩) (fun hHeld => ?_)
    refine tk 0 ?_ rfl ?_ ?_
    rotate_left
    ·
     intro w hSw; (try dsimp only at hSw); go_simp; (try with_reducible rfl)
    (try simp only [Act.put, setIfInBounds_toArray, set_cons_zero, set_cons_succ])
    refine tk 1 ?_ rfl ?_ ?_
    rotate_left
    ·
     intro w hSw; (try dsimp only at hSw); go_simp; (try with_reducible rfl)
    (try simp only [Act.put, setIfInBounds_toArray, set_cons_zero, set_cons_succ])
    refine tk 2 ?_ rfl ?_ ?_
    rotate_left
    ·
     intro w hSw; (try dsimp only at hSw); go_simp; (try with_reducible rfl)
    (try simp only [Act.put, setIfInBounds_toArray, set_cons_zero, set_cons_succ])
    refine tk 3 ?_ rfl ?_ ?_
    rotate_left
    ·
     intro w hSw; (try dsimp only at hSw); go_simp; (try with_reducible rfl)
    (try simp only [Act.put, setIfInBounds_toArray, set_cons_zero, set_cons_succ])
    have f2 := hM5.free 2
    have c2 := hM5.cell (j := 2) rfl
    have hM6 := hM5.set 2 (.int .i64 (1 + (1 + (k0 : Int) + (k1 : Int)) % 5))
    have hA6 := hA5.other (b := wo.heap.size + 1) (o := 2) (.int .i64 (1 + (1 + (k0 : Int) + (k1 : Int)) % 5)) (by omega)
    have hb6 := hd5.setCell (p := ⟨wo.heap.size + 1, 2, none⟩) (by simp) (.int .i64 (1 + (1 + (k0 : Int) + (k1 : Int)) % 5))
    generalize w5.drew = q0 at *
    refine wpAnyH_ready (rs := [4]) (by kernel_rfl) (by simp) ?_
    refine ready_l rfl (fun K hK => ?_) AllReadyH.nil
    go_simp
    go_at_call 62
    refine hq1.out.mono ?_
    rintro e q1 ⟨rfl, rfl⟩
    refine hK.out _ _ (by exact ⟨hA5.cell (j := 1) rfl, hM5.cell (j := 1) rfl⟩) (fun hHeld2 => ?_)
    clear hK K hHeld
    (try simp only [Act.put, setIfInBounds_toArray, set_cons_zero, set_cons_succ])
    refine tk 5 ?_ rfl ?_ ?_
    rotate_left
    ·
     intro w hSw; (try dsimp only at hSw); go_simp; (try with_reducible rfl)
    (try simp only [Act.put, setIfInBounds_toArray, set_cons_zero, set_cons_succ])
    refine tk 6 ?_ rfl ?_ ?_
    rotate_left
    ·
     intro w hSw; (try dsimp only at hSw); go_simp; (try with_reducible rfl)
    (try simp only [Act.put, setIfInBounds_toArray, set_cons_zero, set_cons_succ])
    refine tk 7 ?_ rfl ?_ ?_
    rotate_left
    ·
     intro w hSw; (try dsimp only at hSw); go_simp; (try with_reducible rfl)
    (try simp only [Act.put, setIfInBounds_toArray, set_cons_zero, set_cons_succ])
    refine tk 8 ?_ rfl ?_ ?_
    rotate_left
    ·
     intro w hSw; (try dsimp only at hSw); go_simp; (try with_reducible rfl)
    (try simp only [Act.put, setIfInBounds_toArray, set_cons_zero, set_cons_succ])
    refine wpAnyH_ready (rs := [9]) (by kernel_rfl) (by simp) ?_
    refine ready_l rfl (fun K hK => ?_) AllReadyH.nil
    go_simp
    refine hK.out _ _ (by exact ⟨hA6.cell (j := 1) rfl, hM6.cell (j := 1) rfl⟩) (fun hHeld3 => ?_)
    clear hK K hHeld2
    (try simp only [Act.put, setIfInBounds_toArray, set_cons_zero, set_cons_succ])
    refine wpAnyH_done (by kernel_rfl) ?_ _
    clear hHeld3 g1 g2 hA5 hM5 hd5 hwa hrem hT hT2 hwb f2 c2 hq1
    simp only [set_cons_zero, set_cons_succ] at hM6
    generalize q1.setCell ⟨wo.heap.size + 1, 2, none⟩ (.int .i64 (1 + (1 + (k0 : Int) + (k1 : Int)) % 5)) = w6 at hM6 hA6 hb6 ⊢
    generalize 1 + (1 + (k0 : Int) + (k1 : Int)) % 5 = T at *
    have hst6 : Hid (∃ kval kus, Arr w6 wo.heap.size 105 [.int .i64 y0, .int .i64 y1, .int .i64 y2, .int .i64 y3, .int .i64 y4] ∧ Arr w6 (wo.heap.size + 1) 28 [.int .i64 (1 + (i : Int)), .int .i64 (1 + (k0 : Int)), .int .i64 T, .bool false, kval] ∧ TOwn 104 wo.heap.size w6 kval (keepsR y2 0) kus ∧ Below wo.heap.size wo w6) := ⟨_, [], hA6, hM6, TOwn.nil _ _ _, hb6⟩
    clear hA6 hM6 hb6
    go_wp2_with fail
    go_loopw [7] (fun kv wq => ∃ k : Nat, k ≤ 4 ∧ kv = .int .i64 (k : Int) ∧ Hid (∃ kval kus, Arr wq wo.heap.size 105 [.int .i64 y0, .int .i64 y1, .int .i64 y2, .int .i64 y3, .int .i64 y4] ∧ Arr wq (wo.heap.size + 1) 28 [.int .i64 (1 + (i : Int)), .int .i64 (1 + (k0 : Int)), .int .i64 T, .bool false, kval] ∧ TOwn 104 wo.heap.size wq kval (keepsR y2 k) kus ∧ Below wo.heap.size wo wq)) (fun kv _ => 4 - (intOf kv).toNat)
    case atStart => exact ⟨0, Nat.zero_le _, rfl, hst6⟩
    case round =>
     obtain ⟨k, hk4, rfl, hall⟩ := hrel
     clear hst6
     obtain ⟨kval, kus, hA, hM, hK0, hbq⟩ := hall.out
     clear hall
     by_cases hk : k < 4
     ·
      have hyk : decide ((k : Int) < 4) = true := decide_eq_true (by omega)
      have hw7 : IntKind.i64.wrap ((k : Int) + 1) = (k : Int) + 1 := IntWalk.i64_in _ (by omega)
      have hw8 : IntKind.i64.wrap (2 * (k : Int)) = 2 * (k : Int) := IntWalk.i64_in _ (by omega)
      have hlit : (wr.alloc (.cells #[.int .i64 1, .int .i64 2, .int .i64 3, .int .i64 7] 3)).cell? ⟨wr.heap.size, k, none⟩ = some (.int .i64 (propK k)) := by
       have hl : Arr (wr.alloc (.cells #[.int .i64 1, .int .i64 2, .int .i64 3, .int .i64 7] 3)) wr.heap.size 3 [.int .i64 1, .int .i64 2, .int .i64 3, .int .i64 7] := Arr.new rfl rfl
       obtain rfl | rfl | rfl | rfl : k = 0 ∨ k = 1 ∨ k = 2 ∨ k = 3 := by omega
       all_goals exact hl.cell rfl
      have hba : Below wr.heap.size wr (wr.alloc (.cells #[.int .i64 1, .int .i64 2, .int .i64 3, .int .i64 7] 3)) := (Below.refl _ _).alloc (Nat.le_refl _) _
      have hA7 := hA.below hba
      have hM7 := hM.below hba
      have hK7 := hK0.below hba
      have hb7 := hbq.trans (hba.mono hbq.size)
      have a2 := hA7.cell (j := 2) rfl
      replace hA7 := Lib.hid hA7
      replace hM7 := Lib.hid hM7
      replace hK7 := Lib.hid hK7
      replace hb7 := Lib.hid hb7
      clear hA hM hK0 hbq hba
      have hkr : keepsR y2 (k + 1) = keepsR y2 k ++ if pickv (y2 / 2 ^ (2 * k)) 4 = 0 then [(propK k, stepsR (propK k) [y2 / 2 ^ k])] else [] := keepsR_succ y2 k
      have hpp := Lib.hid (pick11_any (y2 / 2 ^ (2 * k)) 4 (wr.alloc (.cells #[.int .i64 1, .int .i64 2, .int .i64 3, .int .i64 7] 3)) (shr_in I2 _) (by omega) (by omega))
      have hkl := keepsR_len y2 k
      have hpk := propK_in (k := k)
      have I2k := shr_in I2 k
      have b5 := pickv_lt (y2 / 2 ^ (2 * k)) 4 (by omega)
      generalize pickv (y2 / 2 ^ (2 * k)) 4 = kq at *
      generalize propK k = pk at *
      replace hkr := Lib.hid hkr
      obtain ⟨w7, hw7'⟩ : ∃ w7, w7 = wr.alloc (.cells #[.int .i64 1, .int .i64 2, .int .i64 3, .int .i64 7] 3) := ⟨_, rfl⟩
      rw [← hw7'] at hpp hA7 hM7 hK7 hb7 a2
      go_upto_region 12 with fail
      rw [← hw7']
      clear hw7' hlit
      by_cases hq0 : kq = 0
      ·
       subst hq0
       have hkr2 := hkr.out
       rw [if_pos rfl] at hkr2
       replace hkr := Lib.hid hkr2
       clear hkr2
       go_wp2_with fail
       refine hpp.out.mono ?_
       rintro e w8 ⟨rfl, rfl⟩
       have m4 := hM7.out.cell (j := 4) rfl
       go_wp2_with fail
       generalize hxx : y2 / 2 ^ k = xx at *
       have hA := Lib.hid (hA7.out.drew)
       have hM := Lib.hid (hM7.out.drew)
       have hKo := Lib.hid (hK7.out.below (Below.refl w8.heap.size w8).drew)
       have hb := Lib.hid hb7.out.drew
       refine wp_region_held_drew (S := fun w' => w'.cell? ⟨wo.heap.size, 2, none⟩ = some (.int .i64 y2)) (by kernel_rfl) (by exact a2) (fun hHeld => ?_)
       refine tk 0 ?_ rfl ?_ ?_
       rotate_left
       ·
        intro w hSw; (try dsimp only at hSw); go_simp; (try with_reducible rfl)
       (try simp only [Act.put, setIfInBounds_toArray, set_cons_zero, set_cons_succ])
       refine tk 2 ?_ rfl ?_ ?_
       rotate_left
       ·
        intro w hSw; (try dsimp only at hSw); go_simp; (try with_reducible rfl)
       (try simp only [Act.put, setIfInBounds_toArray, set_cons_zero, set_cons_succ])
       refine tk 3 ?_ rfl ?_ ?_
       rotate_left
       ·
        intro w hSw; (try dsimp only at hSw); go_simp; (try with_reducible rfl)
       (try simp only [Act.put, setIfInBounds_toArray, set_cons_zero, set_cons_succ])
       refine tk 4 ?_ rfl ?_ ?_
       rotate_left
       ·
        intro w hSw; (try dsimp only at hSw); go_simp; (try with_reducible rfl)
       (try simp only [Act.put, setIfInBounds_toArray, set_cons_zero, set_cons_succ])
       refine tk 5 ?_ rfl ?_ ?_
       rotate_left
       ·
        intro w hSw; (try dsimp only at hSw); go_simp; (try with_reducible rfl)
       (try simp only [Act.put, setIfInBounds_toArray, set_cons_zero, set_cons_succ])
       refine tk 6 ?_ rfl ?_ ?_
       rotate_left
       ·
        intro w hSw; (try dsimp only at hSw); go_simp; (try with_reducible rfl)
       (try simp only [Act.put, setIfInBounds_toArray, set_cons_zero, set_cons_succ])
       refine tk 7 ?_ rfl ?_ ?_
       rotate_left
       ·
        intro w hSw; (try dsimp only at hSw); go_simp; (try with_reducible rfl)
       (try simp only [Act.put, setIfInBounds_toArray, set_cons_zero, set_cons_succ])
       generalize w8.drew = q0 at *
       clear hA7 hM7 hK7 hb7 m4 a2
       refine wpAnyH_ready (rs := [1, 8]) (by kernel_rfl) (by simp) ?_
       refine ready_l rfl (fun K hK => ?_) (ready_l rfl (fun K hK => ?_) AllReadyH.nil)
       ·
        have m4 := hM.out.cell (j := 4) rfl
        go_simp
        clear m4
        refine hK.out _ _ (by exact hA.out.cell (j := 2) rfl) (fun hHeld1 => ?_)
        clear hK K
        (try simp only [Act.put, setIfInBounds_toArray, set_cons_zero, set_cons_succ])
        refine wpAnyH_ready (rs := [8]) (by kernel_rfl) (by simp) ?_
        refine ready_l rfl (fun K hK => ?_) AllReadyH.nil
        have hba : Below q0.heap.size q0 (q0.alloc (.cells #[.int .i64 xx] 3)) := (Below.refl _ _).alloc (Nat.le_refl _) _
        have hX : NumsAt (q0.alloc (.cells #[.int .i64 xx] 3)) (q0.alloc (.cells #[.int .i64 xx] 3)).heap.size (.slice (some ⟨q0.heap.size, 0, none⟩) 1 1) [xx] := RowT.at (T := 3) ⟨_, _, rfl, Nat.le_refl _, by unfold maxLen; omega, fun _ => ⟨q0.heap.size, 0, #[.int .i64 xx], (0, 0), rfl, World.alloc_heap_new q0 _, fun j u hu => by rw [Nat.zero_add]; simpa using hu⟩⟩
        replace hA := Lib.hid (hA.out.below hba)
        replace hM := Lib.hid (hM.out.below hba)
        replace hKo := Lib.hid (hKo.out.below hba)
        replace hb := Lib.hid (hb.out.trans (hba.mono hb.out.size))
        replace hX := Lib.hid hX
        clear hba
        go_simp
        generalize q0.alloc (.cells #[.int .i64 xx] 3) = q2 at *
        generalize q0.heap.size = s2 at *
        refine hK.out _ _ (by exact hA.out.cell (j := 2) rfl) (fun hHeld2 => ?_)
        clear hK K
        (try simp only [Act.put, setIfInBounds_toArray, set_cons_zero, set_cons_succ])
        refine wpAnyH_ready (rs := [9]) (by kernel_rfl) (by simp) ?_
        refine ready_l rfl (fun K hK => ?_) AllReadyH.nil
        have hst := Lib.hid (Steps_any pk (.slice (some ⟨s2, 0, none⟩) 1 1) [xx] _ ⟨by omega, by omega⟩ hX.out (fun x hx => by obtain rfl := List.mem_singleton.1 hx; exact I2k))
        clear hX
        go_simp
        go_at_call 29
        refine hst.out.mono ?_
        rintro e q3 ⟨sv, rfl, hso, hba⟩
        have hSt := RowT.of_own hso
        replace hA := Lib.hid (hA.out.below hba)
        replace hM := Lib.hid (hM.out.below hba)
        replace hKo := Lib.hid (hKo.out.below hba)
        replace hb := Lib.hid (hb.out.trans (hba.mono hb.out.size))
        obtain ⟨sa, sc, rfl, _⟩ := hSt.len
        clear hso hba hst
        refine hK.out _ _ (by exact hA.out.cell (j := 2) rfl) (fun hHeld3 => ?_)
        clear hK K
        (try simp only [Act.put, setIfInBounds_toArray, set_cons_zero, set_cons_succ])
        replace hSt := Lib.hid hSt
        refine tk 10 ?_ rfl ?_ ?_
        rotate_left
        ·
         intro w hSw; (try dsimp only at hSw); go_simp; (try with_reducible rfl)
        (try simp only [Act.put, setIfInBounds_toArray, set_cons_zero, set_cons_succ])
        refine wpAnyH_ready (rs := [11]) (by kernel_rfl) (by simp) ?_
        refine ready_l rfl (fun K hK => ?_) AllReadyH.nil
        have hba : Below q3.heap.size q3 (q3.alloc (.cells #[.int .i64 pk, .slice sa (stepsR pk [xx]).length sc] 104)) := (Below.refl _ _).alloc (Nat.le_refl _) _
        replace hA := Lib.hid (hA.out.below hba)
        replace hM := Lib.hid (hM.out.below hba)
        replace hKo := Lib.hid (hKo.out.below hba)
        replace hb := Lib.hid (hb.out.trans (hba.mono hb.out.size))
        replace hSt := Lib.hid (hSt.out.below hba)
        have hnews : ∀ j u, ([.int .i64 pk, .slice sa (stepsR pk [xx]).length sc] : List Value)[j]? = some u → (q3.alloc (.cells #[.int .i64 pk, .slice sa (stepsR pk [xx]).length sc] 104)).cell? ((⟨q3.heap.size, 0, none⟩ : Addr).add j) = some u := fun j u hu => cells_new q3 [.int .i64 pk, .slice sa (stepsR pk [xx]).length sc] 104 j u hu
        replace hnews := Lib.hid hnews
        clear hba
        go_simp
        generalize q3.alloc (.cells #[.int .i64 pk, .slice sa (stepsR pk [xx]).length sc] 104) = q4 at *
        generalize q3.heap.size = t4 at *
        refine hK.out _ _ (by exact hA.out.cell (j := 2) rfl) (fun hHeld4 => ?_)
        clear hK K
        (try simp only [Act.put, setIfInBounds_toArray, set_cons_zero, set_cons_succ])
        refine wpAnyH_ready (rs := [12]) (by kernel_rfl) (by simp) ?_
        refine ready_l rfl (fun K hK => ?_) AllReadyH.nil
        obtain ⟨v', q5, hr4, hown4, hgrow4, _⟩ := run_append_own (P := Tryz.prog) q4 wo.heap.size 26 26 104 i0 (.agg #[.int .i64 0, .slice none 0 0]) 2 32 Tryz.underlying26 hi hz0 hz1 hz2 rfl (by decide) kval _ _ hKo.out.own ⟨t4, 0, none⟩ 1 1 [.int .i64 pk, .slice sa (stepsR pk [xx]).length sc] rfl hnews.out (by simp [Value.oneCell']) (by unfold maxLen; omega) (by omega) (by have := hb.out.size; omega)
        refine step_append_known rfl _ _ _ _ rfl kval (.slice (some ⟨t4, 0, none⟩) 1 1) (by kernel_rfl) (by kernel_rfl) hr4 ?_
        have hkk := KeepTy.grown (X := [104]) hKo.out.own hgrow4 (by decide)
        replace hA := Lib.hid (arr_keepTy hA.out (by decide) hkk)
        replace hM := Lib.hid (arr_keepTy hM.out (by decide) hkk)
        replace hb := Lib.hid (hb.out.grown hgrow4 hb.out.size (fun g hg => (own_block hKo.out.own hg).2.1))
        replace hKo := Lib.hid (hKo.out.snoc (by decide) pk (stepsR pk [xx]) (.slice sa (stepsR pk [xx]).length sc) hSt.out hown4 hgrow4)
        obtain ⟨g', cap', rfl⟩ := ownsRow_succ hown4
        refine hK.out _ _ (by exact hA.out.cell (j := 2) rfl) (fun hHeld5 => ?_)
        clear hK K hSt hr4 hown4 hgrow4 hnews hkk
        (try simp only [Act.put, setIfInBounds_toArray, set_cons_zero, set_cons_succ])
        refine tk 13 ?_ rfl ?_ ?_
        rotate_left
        ·
         intro w hSw; (try dsimp only at hSw); go_simp; (try with_reducible rfl)
        (try simp only [Act.put, setIfInBounds_toArray, set_cons_zero, set_cons_succ])
        have hks := KeepTy.setArr (X := [28]) (o := 4) (u := (.slice (some ⟨g', 0, none⟩) ((keepsR y2 k).length + 1) cap')) hM.out (by decide)
        have hK13 := hKo.out.keepTy (by decide) (by decide) hks
        have hA13 := arr_keepTy hA.out (by decide) hks
        have hM13 := hM.out.set 4 (.slice (some ⟨g', 0, none⟩) ((keepsR y2 k).length + 1) cap')
        have hb13 := hb.out.setCell (p := ⟨wo.heap.size + 1, 4, none⟩) (by simp) (.slice (some ⟨g', 0, none⟩) ((keepsR y2 k).length + 1) cap')
        simp only [set_cons_zero, set_cons_succ] at hM13
        have f4 := hM.out.free 4
        have c4 := hM.out.cell (j := 4) rfl
        refine wpAnyH_ready (rs := [14]) (by kernel_rfl) (by simp) ?_
        refine ready_l rfl (fun K hK => ?_) AllReadyH.nil
        go_simp
        clear f4 c4 hks hA hKo hb
        generalize q5.setCell ⟨wo.heap.size + 1, 4, none⟩ (.slice (some ⟨g', 0, none⟩) ((keepsR y2 k).length + 1) cap') = qz at *
        have hend : Hid (∃ kval kus, Arr qz wo.heap.size 105 [.int .i64 y0, .int .i64 y1, .int .i64 y2, .int .i64 y3, .int .i64 y4] ∧ Arr qz (wo.heap.size + 1) 28 [.int .i64 (1 + (i : Int)), .int .i64 (1 + (k0 : Int)), .int .i64 T, .bool false, kval] ∧ TOwn 104 wo.heap.size qz kval (keepsR y2 (k + 1)) kus ∧ Below wo.heap.size wo qz) := ⟨_, _, hA13, hM13, by rw [hkr.out]; exact hK13, hb13⟩
        refine hK.out _ _ (by exact hA13.cell (j := 2) rfl) (fun hHeldz => ?_)
        clear hK K hM hA13 hM13 hK13 hb13
        (try simp only [Act.put, setIfInBounds_toArray, set_cons_zero, set_cons_succ])
        refine wpAnyH_done (by kernel_rfl) ?_ _
        go_wp2_with fail
        exact ⟨⟨k + 1, by omega, rfl, hend⟩, by simp [intOf]; omega⟩
       ·
        have hba : Below q0.heap.size q0 (q0.alloc (.cells #[.int .i64 xx] 3)) := (Below.refl _ _).alloc (Nat.le_refl _) _
        have hX : NumsAt (q0.alloc (.cells #[.int .i64 xx] 3)) (q0.alloc (.cells #[.int .i64 xx] 3)).heap.size (.slice (some ⟨q0.heap.size, 0, none⟩) 1 1) [xx] := RowT.at (T := 3) ⟨_, _, rfl, Nat.le_refl _, by unfold maxLen; omega, fun _ => ⟨q0.heap.size, 0, #[.int .i64 xx], (0, 0), rfl, World.alloc_heap_new q0 _, fun j u hu => by rw [Nat.zero_add]; simpa using hu⟩⟩
        replace hA := Lib.hid (hA.out.below hba)
        replace hM := Lib.hid (hM.out.below hba)
        replace hKo := Lib.hid (hKo.out.below hba)
        replace hb := Lib.hid (hb.out.trans (hba.mono hb.out.size))
        replace hX := Lib.hid hX
        clear hba
        go_simp
        generalize q0.alloc (.cells #[.int .i64 xx] 3) = q1 at *
        generalize q0.heap.size = s1 at *
        refine hK.out _ _ (by exact hA.out.cell (j := 2) rfl) (fun hHeld1 => ?_)
        clear hK K
        (try simp only [Act.put, setIfInBounds_toArray, set_cons_zero, set_cons_succ])
        refine wpAnyH_ready (rs := [1, 9]) (by kernel_rfl) (by simp) ?_
        refine ready_l rfl (fun K hK => ?_) (ready_l rfl (fun K hK => ?_) AllReadyH.nil)
        ·
         have m4 := hM.out.cell (j := 4) rfl
         go_simp
         clear m4
         refine hK.out _ _ (by exact hA.out.cell (j := 2) rfl) (fun hHeld2 => ?_)
         clear hK K
         (try simp only [Act.put, setIfInBounds_toArray, set_cons_zero, set_cons_succ])
         refine wpAnyH_ready (rs := [9]) (by kernel_rfl) (by simp) ?_
         refine ready_l rfl (fun K hK => ?_) AllReadyH.nil
         have hst := Lib.hid (Steps_any pk (.slice (some ⟨s1, 0, none⟩) 1 1) [xx] _ ⟨by omega, by omega⟩ hX.out (fun x hx => by obtain rfl := List.mem_singleton.1 hx; exact I2k))
         clear hX
         go_simp
         go_at_call 29
         refine hst.out.mono ?_
         rintro e q3 ⟨sv, rfl, hso, hba⟩
         have hSt := RowT.of_own hso
         replace hA := Lib.hid (hA.out.below hba)
         replace hM := Lib.hid (hM.out.below hba)
         replace hKo := Lib.hid (hKo.out.below hba)
         replace hb := Lib.hid (hb.out.trans (hba.mono hb.out.size))
         obtain ⟨sa, sc, rfl, _⟩ := hSt.len
         clear hso hba hst
         refine hK.out _ _ (by exact hA.out.cell (j := 2) rfl) (fun hHeld3 => ?_)
         clear hK K
         (try simp only [Act.put, setIfInBounds_toArray, set_cons_zero, set_cons_succ])
         replace hSt := Lib.hid hSt
         refine tk 10 ?_ rfl ?_ ?_
         rotate_left
         ·
          intro w hSw; (try dsimp only at hSw); go_simp; (try with_reducible rfl)
         (try simp only [Act.put, setIfInBounds_toArray, set_cons_zero, set_cons_succ])
         refine wpAnyH_ready (rs := [11]) (by kernel_rfl) (by simp) ?_
         refine ready_l rfl (fun K hK => ?_) AllReadyH.nil
         have hba : Below q3.heap.size q3 (q3.alloc (.cells #[.int .i64 pk, .slice sa (stepsR pk [xx]).length sc] 104)) := (Below.refl _ _).alloc (Nat.le_refl _) _
         replace hA := Lib.hid (hA.out.below hba)
         replace hM := Lib.hid (hM.out.below hba)
         replace hKo := Lib.hid (hKo.out.below hba)
         replace hb := Lib.hid (hb.out.trans (hba.mono hb.out.size))
         replace hSt := Lib.hid (hSt.out.below hba)
         have hnews : ∀ j u, ([.int .i64 pk, .slice sa (stepsR pk [xx]).length sc] : List Value)[j]? = some u → (q3.alloc (.cells #[.int .i64 pk, .slice sa (stepsR pk [xx]).length sc] 104)).cell? ((⟨q3.heap.size, 0, none⟩ : Addr).add j) = some u := fun j u hu => cells_new q3 [.int .i64 pk, .slice sa (stepsR pk [xx]).length sc] 104 j u hu
         replace hnews := Lib.hid hnews
         clear hba
         go_simp
         generalize q3.alloc (.cells #[.int .i64 pk, .slice sa (stepsR pk [xx]).length sc] 104) = q4 at *
         generalize q3.heap.size = t4 at *
         refine hK.out _ _ (by exact hA.out.cell (j := 2) rfl) (fun hHeld4 => ?_)
         clear hK K
         (try simp only [Act.put, setIfInBounds_toArray, set_cons_zero, set_cons_succ])
         refine wpAnyH_ready (rs := [12]) (by kernel_rfl) (by simp) ?_
         refine ready_l rfl (fun K hK => ?_) AllReadyH.nil
         obtain ⟨v', q5, hr4, hown4, hgrow4, _⟩ := run_append_own (P := Tryz.prog) q4 wo.heap.size 26 26 104 i0 (.agg #[.int .i64 0, .slice none 0 0]) 2 32 Tryz.underlying26 hi hz0 hz1 hz2 rfl (by decide) kval _ _ hKo.out.own ⟨t4, 0, none⟩ 1 1 [.int .i64 pk, .slice sa (stepsR pk [xx]).length sc] rfl hnews.out (by simp [Value.oneCell']) (by unfold maxLen; omega) (by omega) (by have := hb.out.size; omega)
         refine step_append_known rfl _ _ _ _ rfl kval (.slice (some ⟨t4, 0, none⟩) 1 1) (by kernel_rfl) (by kernel_rfl) hr4 ?_
         have hkk := KeepTy.grown (X := [104]) hKo.out.own hgrow4 (by decide)
         replace hA := Lib.hid (arr_keepTy hA.out (by decide) hkk)
         replace hM := Lib.hid (arr_keepTy hM.out (by decide) hkk)
         replace hb := Lib.hid (hb.out.grown hgrow4 hb.out.size (fun g hg => (own_block hKo.out.own hg).2.1))
         replace hKo := Lib.hid (hKo.out.snoc (by decide) pk (stepsR pk [xx]) (.slice sa (stepsR pk [xx]).length sc) hSt.out hown4 hgrow4)
         obtain ⟨g', cap', rfl⟩ := ownsRow_succ hown4
         refine hK.out _ _ (by exact hA.out.cell (j := 2) rfl) (fun hHeld5 => ?_)
         clear hK K hSt hr4 hown4 hgrow4 hnews hkk
         (try simp only [Act.put, setIfInBounds_toArray, set_cons_zero, set_cons_succ])
         refine tk 13 ?_ rfl ?_ ?_
         rotate_left
         ·
          intro w hSw; (try dsimp only at hSw); go_simp; (try with_reducible rfl)
         (try simp only [Act.put, setIfInBounds_toArray, set_cons_zero, set_cons_succ])
         have hks := KeepTy.setArr (X := [28]) (o := 4) (u := (.slice (some ⟨g', 0, none⟩) ((keepsR y2 k).length + 1) cap')) hM.out (by decide)
         have hK13 := hKo.out.keepTy (by decide) (by decide) hks
         have hA13 := arr_keepTy hA.out (by decide) hks
         have hM13 := hM.out.set 4 (.slice (some ⟨g', 0, none⟩) ((keepsR y2 k).length + 1) cap')
         have hb13 := hb.out.setCell (p := ⟨wo.heap.size + 1, 4, none⟩) (by simp) (.slice (some ⟨g', 0, none⟩) ((keepsR y2 k).length + 1) cap')
         simp only [set_cons_zero, set_cons_succ] at hM13
         have f4 := hM.out.free 4
         have c4 := hM.out.cell (j := 4) rfl
         refine wpAnyH_ready (rs := [14]) (by kernel_rfl) (by simp) ?_
         refine ready_l rfl (fun K hK => ?_) AllReadyH.nil
         go_simp
         clear f4 c4 hks hA hKo hb
         generalize q5.setCell ⟨wo.heap.size + 1, 4, none⟩ (.slice (some ⟨g', 0, none⟩) ((keepsR y2 k).length + 1) cap') = qz at *
         have hend : Hid (∃ kval kus, Arr qz wo.heap.size 105 [.int .i64 y0, .int .i64 y1, .int .i64 y2, .int .i64 y3, .int .i64 y4] ∧ Arr qz (wo.heap.size + 1) 28 [.int .i64 (1 + (i : Int)), .int .i64 (1 + (k0 : Int)), .int .i64 T, .bool false, kval] ∧ TOwn 104 wo.heap.size qz kval (keepsR y2 (k + 1)) kus ∧ Below wo.heap.size wo qz) := ⟨_, _, hA13, hM13, by rw [hkr.out]; exact hK13, hb13⟩
         refine hK.out _ _ (by exact hA13.cell (j := 2) rfl) (fun hHeldz => ?_)
         clear hK K hM hA13 hM13 hK13 hb13
         (try simp only [Act.put, setIfInBounds_toArray, set_cons_zero, set_cons_succ])
         refine wpAnyH_done (by kernel_rfl) ?_ _
         go_wp2_with fail
         exact ⟨⟨k + 1, by omega, rfl, hend⟩, by simp [intOf]; omega⟩
        ·
         have hst := Lib.hid (Steps_any pk (.slice (some ⟨s1, 0, none⟩) 1 1) [xx] _ ⟨by omega, by omega⟩ hX.out (fun x hx => by obtain rfl := List.mem_singleton.1 hx; exact I2k))
         clear hX
         go_simp
         go_at_call 29
         refine hst.out.mono ?_
         rintro e q2 ⟨sv, rfl, hso, hba⟩
         have hSt := RowT.of_own hso
         replace hA := Lib.hid (hA.out.below hba)
         replace hM := Lib.hid (hM.out.below hba)
         replace hKo := Lib.hid (hKo.out.below hba)
         replace hb := Lib.hid (hb.out.trans (hba.mono hb.out.size))
         obtain ⟨sa, sc, rfl, _⟩ := hSt.len
         clear hso hba hst
         refine hK.out _ _ (by exact hA.out.cell (j := 2) rfl) (fun hHeld2 => ?_)
         clear hK K
         (try simp only [Act.put, setIfInBounds_toArray, set_cons_zero, set_cons_succ])
         replace hSt := Lib.hid hSt
         refine tk 10 ?_ rfl ?_ ?_
         rotate_left
         ·
          intro w hSw; (try dsimp only at hSw); go_simp; (try with_reducible rfl)
         (try simp only [Act.put, setIfInBounds_toArray, set_cons_zero, set_cons_succ])
         refine wpAnyH_ready (rs := [1, 11]) (by kernel_rfl) (by simp) ?_
         refine ready_l rfl (fun K hK => ?_) (ready_l rfl (fun K hK => ?_) AllReadyH.nil)
         ·
          have m4 := hM.out.cell (j := 4) rfl
          go_simp
          clear m4
          refine hK.out _ _ (by exact hA.out.cell (j := 2) rfl) (fun hHeld3 => ?_)
          clear hK K
          (try simp only [Act.put, setIfInBounds_toArray, set_cons_zero, set_cons_succ])
          refine wpAnyH_ready (rs := [11]) (by kernel_rfl) (by simp) ?_
          refine ready_l rfl (fun K hK => ?_) AllReadyH.nil
          have hba : Below q2.heap.size q2 (q2.alloc (.cells #[.int .i64 pk, .slice sa (stepsR pk [xx]).length sc] 104)) := (Below.refl _ _).alloc (Nat.le_refl _) _
          replace hA := Lib.hid (hA.out.below hba)
          replace hM := Lib.hid (hM.out.below hba)
          replace hKo := Lib.hid (hKo.out.below hba)
          replace hb := Lib.hid (hb.out.trans (hba.mono hb.out.size))
          replace hSt := Lib.hid (hSt.out.below hba)
          have hnews : ∀ j u, ([.int .i64 pk, .slice sa (stepsR pk [xx]).length sc] : List Value)[j]? = some u → (q2.alloc (.cells #[.int .i64 pk, .slice sa (stepsR pk [xx]).length sc] 104)).cell? ((⟨q2.heap.size, 0, none⟩ : Addr).add j) = some u := fun j u hu => cells_new q2 [.int .i64 pk, .slice sa (stepsR pk [xx]).length sc] 104 j u hu
          replace hnews := Lib.hid hnews
          clear hba
          go_simp
          generalize q2.alloc (.cells #[.int .i64 pk, .slice sa (stepsR pk [xx]).length sc] 104) = q4 at *
          generalize q2.heap.size = t4 at *
          refine hK.out _ _ (by exact hA.out.cell (j := 2) rfl) (fun hHeld4 => ?_)
          clear hK K
          (try simp only [Act.put, setIfInBounds_toArray, set_cons_zero, set_cons_succ])
          refine wpAnyH_ready (rs := [12]) (by kernel_rfl) (by simp) ?_
          refine ready_l rfl (fun K hK => ?_) AllReadyH.nil
          obtain ⟨v', q5, hr4, hown4, hgrow4, _⟩ := run_append_own (P := Tryz.prog) q4 wo.heap.size 26 26 104 i0 (.agg #[.int .i64 0, .slice none 0 0]) 2 32 Tryz.underlying26 hi hz0 hz1 hz2 rfl (by decide) kval _ _ hKo.out.own ⟨t4, 0, none⟩ 1 1 [.int .i64 pk, .slice sa (stepsR pk [xx]).length sc] rfl hnews.out (by simp [Value.oneCell']) (by unfold maxLen; omega) (by omega) (by have := hb.out.size; omega)
          refine step_append_known rfl _ _ _ _ rfl kval (.slice (some ⟨t4, 0, none⟩) 1 1) (by kernel_rfl) (by kernel_rfl) hr4 ?_
          have hkk := KeepTy.grown (X := [104]) hKo.out.own hgrow4 (by decide)
          replace hA := Lib.hid (arr_keepTy hA.out (by decide) hkk)
          replace hM := Lib.hid (arr_keepTy hM.out (by decide) hkk)
          replace hb := Lib.hid (hb.out.grown hgrow4 hb.out.size (fun g hg => (own_block hKo.out.own hg).2.1))
          replace hKo := Lib.hid (hKo.out.snoc (by decide) pk (stepsR pk [xx]) (.slice sa (stepsR pk [xx]).length sc) hSt.out hown4 hgrow4)
          obtain ⟨g', cap', rfl⟩ := ownsRow_succ hown4
          refine hK.out _ _ (by exact hA.out.cell (j := 2) rfl) (fun hHeld5 => ?_)
          clear hK K hSt hr4 hown4 hgrow4 hnews hkk
          (try simp only [Act.put, setIfInBounds_toArray, set_cons_zero, set_cons_succ])
          refine tk 13 ?_ rfl ?_ ?_
          rotate_left
          ·
           intro w hSw; (try dsimp only at hSw); go_simp; (try with_reducible rfl)
          (try simp only [Act.put, setIfInBounds_toArray, set_cons_zero, set_cons_succ])
          have hks := KeepTy.setArr (X := [28]) (o := 4) (u := (.slice (some ⟨g', 0, none⟩) ((keepsR y2 k).length + 1) cap')) hM.out (by decide)
          have hK13 := hKo.out.keepTy (by decide) (by decide) hks
          have hA13 := arr_keepTy hA.out (by decide) hks
          have hM13 := hM.out.set 4 (.slice (some ⟨g', 0, none⟩) ((keepsR y2 k).length + 1) cap')
          have hb13 := hb.out.setCell (p := ⟨wo.heap.size + 1, 4, none⟩) (by simp) (.slice (some ⟨g', 0, none⟩) ((keepsR y2 k).length + 1) cap')
          simp only [set_cons_zero, set_cons_succ] at hM13
          have f4 := hM.out.free 4
          have c4 := hM.out.cell (j := 4) rfl
          refine wpAnyH_ready (rs := [14]) (by kernel_rfl) (by simp) ?_
          refine ready_l rfl (fun K hK => ?_) AllReadyH.nil
          go_simp
          clear f4 c4 hks hA hKo hb
          generalize q5.setCell ⟨wo.heap.size + 1, 4, none⟩ (.slice (some ⟨g', 0, none⟩) ((keepsR y2 k).length + 1) cap') = qz at *
          have hend : Hid (∃ kval kus, Arr qz wo.heap.size 105 [.int .i64 y0, .int .i64 y1, .int .i64 y2, .int .i64 y3, .int .i64 y4] ∧ Arr qz (wo.heap.size + 1) 28 [.int .i64 (1 + (i : Int)), .int .i64 (1 + (k0 : Int)), .int .i64 T, .bool false, kval] ∧ TOwn 104 wo.heap.size qz kval (keepsR y2 (k + 1)) kus ∧ Below wo.heap.size wo qz) := ⟨_, _, hA13, hM13, by rw [hkr.out]; exact hK13, hb13⟩
          refine hK.out _ _ (by exact hA13.cell (j := 2) rfl) (fun hHeldz => ?_)
          clear hK K hM hA13 hM13 hK13 hb13
          (try simp only [Act.put, setIfInBounds_toArray, set_cons_zero, set_cons_succ])
          refine wpAnyH_done (by kernel_rfl) ?_ _
          go_wp2_with fail
          exact ⟨⟨k + 1, by omega, rfl, hend⟩, by simp [intOf]; omega⟩
         ·
          have hba : Below q2.heap.size q2 (q2.alloc (.cells #[.int .i64 pk, .slice sa (stepsR pk [xx]).length sc] 104)) := (Below.refl _ _).alloc (Nat.le_refl _) _
          replace hA := Lib.hid (hA.out.below hba)
          replace hM := Lib.hid (hM.out.below hba)
          replace hKo := Lib.hid (hKo.out.below hba)
          replace hb := Lib.hid (hb.out.trans (hba.mono hb.out.size))
          replace hSt := Lib.hid (hSt.out.below hba)
          have hnews : ∀ j u, ([.int .i64 pk, .slice sa (stepsR pk [xx]).length sc] : List Value)[j]? = some u → (q2.alloc (.cells #[.int .i64 pk, .slice sa (stepsR pk [xx]).length sc] 104)).cell? ((⟨q2.heap.size, 0, none⟩ : Addr).add j) = some u := fun j u hu => cells_new q2 [.int .i64 pk, .slice sa (stepsR pk [xx]).length sc] 104 j u hu
          replace hnews := Lib.hid hnews
          clear hba
          go_simp
          generalize q2.alloc (.cells #[.int .i64 pk, .slice sa (stepsR pk [xx]).length sc] 104) = q3 at *
          generalize q2.heap.size = t3 at *
          refine hK.out _ _ (by exact hA.out.cell (j := 2) rfl) (fun hHeld3 => ?_)
          clear hK K
          (try simp only [Act.put, setIfInBounds_toArray, set_cons_zero, set_cons_succ])
          refine wpAnyH_ready (rs := [1]) (by kernel_rfl) (by simp) ?_
          refine ready_l rfl (fun K hK => ?_) AllReadyH.nil
          have m4 := hM.out.cell (j := 4) rfl
          go_simp
          clear m4
          refine hK.out _ _ (by exact hA.out.cell (j := 2) rfl) (fun hHeld4 => ?_)
          clear hK K
          (try simp only [Act.put, setIfInBounds_toArray, set_cons_zero, set_cons_succ])
          refine wpAnyH_ready (rs := [12]) (by kernel_rfl) (by simp) ?_
          refine ready_l rfl (fun K hK => ?_) AllReadyH.nil
          obtain ⟨v', q5, hr4, hown4, hgrow4, _⟩ := run_append_own (P := Tryz.prog) q3 wo.heap.size 26 26 104 i0 (.agg #[.int .i64 0, .slice none 0 0]) 2 32 Tryz.underlying26 hi hz0 hz1 hz2 rfl (by decide) kval _ _ hKo.out.own ⟨t3, 0, none⟩ 1 1 [.int .i64 pk, .slice sa (stepsR pk [xx]).length sc] rfl hnews.out (by simp [Value.oneCell']) (by unfold maxLen; omega) (by omega) (by have := hb.out.size; omega)
          refine step_append_known rfl _ _ _ _ rfl kval (.slice (some ⟨t3, 0, none⟩) 1 1) (by kernel_rfl) (by kernel_rfl) hr4 ?_
          have hkk := KeepTy.grown (X := [104]) hKo.out.own hgrow4 (by decide)
          replace hA := Lib.hid (arr_keepTy hA.out (by decide) hkk)
          replace hM := Lib.hid (arr_keepTy hM.out (by decide) hkk)
          replace hb := Lib.hid (hb.out.grown hgrow4 hb.out.size (fun g hg => (own_block hKo.out.own hg).2.1))
          replace hKo := Lib.hid (hKo.out.snoc (by decide) pk (stepsR pk [xx]) (.slice sa (stepsR pk [xx]).length sc) hSt.out hown4 hgrow4)
          obtain ⟨g', cap', rfl⟩ := ownsRow_succ hown4
          refine hK.out _ _ (by exact hA.out.cell (j := 2) rfl) (fun hHeld5 => ?_)
          clear hK K hSt hr4 hown4 hgrow4 hnews hkk
          (try simp only [Act.put, setIfInBounds_toArray, set_cons_zero, set_cons_succ])
          refine tk 13 ?_ rfl ?_ ?_
          rotate_left
          ·
           intro w hSw; (try dsimp only at hSw); go_simp; (try with_reducible rfl)
          (try simp only [Act.put, setIfInBounds_toArray, set_cons_zero, set_cons_succ])
          have hks := KeepTy.setArr (X := [28]) (o := 4) (u := (.slice (some ⟨g', 0, none⟩) ((keepsR y2 k).length + 1) cap')) hM.out (by decide)
          have hK13 := hKo.out.keepTy (by decide) (by decide) hks
          have hA13 := arr_keepTy hA.out (by decide) hks
          have hM13 := hM.out.set 4 (.slice (some ⟨g', 0, none⟩) ((keepsR y2 k).length + 1) cap')
          have hb13 := hb.out.setCell (p := ⟨wo.heap.size + 1, 4, none⟩) (by simp) (.slice (some ⟨g', 0, none⟩) ((keepsR y2 k).length + 1) cap')
          simp only [set_cons_zero, set_cons_succ] at hM13
          have f4 := hM.out.free 4
          have c4 := hM.out.cell (j := 4) rfl
          refine wpAnyH_ready (rs := [14]) (by kernel_rfl) (by simp) ?_
          refine ready_l rfl (fun K hK => ?_) AllReadyH.nil
          go_simp
          clear f4 c4 hks hA hKo hb
          generalize q5.setCell ⟨wo.heap.size + 1, 4, none⟩ (.slice (some ⟨g', 0, none⟩) ((keepsR y2 k).length + 1) cap') = qz at *
          have hend : Hid (∃ kval kus, Arr qz wo.heap.size 105 [.int .i64 y0, .int .i64 y1, .int .i64 y2, .int .i64 y3, .int .i64 y4] ∧ Arr qz (wo.heap.size + 1) 28 [.int .i64 (1 + (i : Int)), .int .i64 (1 + (k0 : Int)), .int .i64 T, .bool false, kval] ∧ TOwn 104 wo.heap.size qz kval (keepsR y2 (k + 1)) kus ∧ Below wo.heap.size wo qz) := ⟨_, _, hA13, hM13, by rw [hkr.out]; exact hK13, hb13⟩
          refine hK.out _ _ (by exact hA13.cell (j := 2) rfl) (fun hHeldz => ?_)
          clear hK K hM hA13 hM13 hK13 hb13
          (try simp only [Act.put, setIfInBounds_toArray, set_cons_zero, set_cons_succ])
          refine wpAnyH_done (by kernel_rfl) ?_ _
          go_wp2_with fail
          exact ⟨⟨k + 1, by omega, rfl, hend⟩, by simp [intOf]; omega⟩
      ·
       have h0 : decide ((kq : Int) = 0) = false := decide_eq_false (by omega)
       have h0' : ((kq : Int) == 0) = false := beq_false_of_ne (by omega)
       have h0'' : decide (kq = 0) = false := decide_eq_false hq0
       have hkr2 := hkr.out
       rw [if_neg hq0, List.append_nil] at hkr2
       have hend : Hid (∃ kval kus, Arr w7 wo.heap.size 105 [.int .i64 y0, .int .i64 y1, .int .i64 y2, .int .i64 y3, .int .i64 y4] ∧ Arr w7 (wo.heap.size + 1) 28 [.int .i64 (1 + (i : Int)), .int .i64 (1 + (k0 : Int)), .int .i64 T, .bool false, kval] ∧ TOwn 104 wo.heap.size w7 kval (keepsR y2 (k + 1)) kus ∧ Below wo.heap.size wo w7) := ⟨_, kus, hA7.out, hM7.out, by rw [hkr2]; exact hK7.out, hb7.out⟩
       clear hkr hkr2
       replace hq0 := Lib.hid hq0
       go_wp2_with fail
       refine hpp.out.mono ?_
       rintro e w8 ⟨rfl, rfl⟩
       go_wp2_with fail
       exact ⟨⟨k + 1, by omega, rfl, hend⟩, by simp [intOf]; omega⟩
     ·
      have hyk : decide ((k : Int) < 4) = false := decide_eq_false (by omega)
      obtain rfl : k = 4 := by omega
      obtain ⟨ka, kc, rfl, _⟩ := (RowT.of_own hK0.own).len
      have hcl := hK0.claims
      have hown7 := hown.out.below hbq
      have hb7 := hb.out.trans (hbq.mono hb.out.size)
      have a3 := hA.cell (j := 3) rfl
      have a4 := hA.cell (j := 4) rfl
      have m0 := hM.cell (j := 0) rfl
      have m1 := hM.cell (j := 1) rfl
      have m2 := hM.cell (j := 2) rfl
      have m3 := hM.cell (j := 3) rfl
      have m4 := hM.cell (j := 4) rfl
      have hbd : Below wr.heap.size wr wr.drew := (Below.refl _ _).drew
      replace hown7 := Lib.hid (hown7.below hbd)
      replace hcl := Lib.hid (hcl.below hbd)
      replace hb7 := Lib.hid (hb7.trans (hbd.mono hb7.size))
      have hq3 := hp3.out wr.drew
      have hq4 := hp4.out wr.drew
      have hml := madeTo_len zs i
      have hAd : Hid (Arr wr.drew wo.heap.size 105 _) := hA
      have hMd : Hid (Arr wr.drew (wo.heap.size + 1) 28 _) := hM
      clear hA hM hK0 hbq hbd hown hb
      go_wp2_with fail
      refine wp_region_held_drew (S := fun w' => w'.cell? ⟨wo.heap.size, 3, none⟩ = some (.int .i64 y3) ∧ w'.cell? ⟨wo.heap.size, 4, none⟩ = some (.int .i64 y4) ∧ w'.cell? ⟨wo.heap.size + 1, 0, none⟩ = some (.int .i64 (1 + (i : Int))) ∧ w'.cell? ⟨wo.heap.size + 1, 1, none⟩ = some (.int .i64 (1 + (k0 : Int))) ∧ w'.cell? ⟨wo.heap.size + 1, 2, none⟩ = some (.int .i64 T) ∧ w'.cell? ⟨wo.heap.size + 1, 3, none⟩ = some (.bool false) ∧ w'.cell? ⟨wo.heap.size + 1, 4, none⟩ = some (.slice ka (keepsR y2 4).length kc)) (by kernel_rfl) (by exact ⟨a3, a4, m0, m1, m2, m3, m4⟩) (fun hHeld => ?_)
      refine tk 0 ?_ rfl ?_ ?_
      rotate_left
      ·
       intro w hSw; (try dsimp only at hSw); go_simp; (try with_reducible rfl)
      (try simp only [Act.put, setIfInBounds_toArray, set_cons_zero, set_cons_succ])
      refine tk 1 ?_ rfl ?_ ?_
      rotate_left
      ·
       intro w hSw; (try dsimp only at hSw); go_simp; (try with_reducible rfl)
      (try simp only [Act.put, setIfInBounds_toArray, set_cons_zero, set_cons_succ])
      refine tk 2 ?_ rfl ?_ ?_
      rotate_left
      ·
       intro w hSw; (try dsimp only at hSw); go_simp; (try with_reducible rfl)
      (try simp only [Act.put, setIfInBounds_toArray, set_cons_zero, set_cons_succ])
      refine tk 4 ?_ rfl ?_ ?_
      rotate_left
      ·
       intro w hSw; (try dsimp only at hSw); go_simp; (try with_reducible rfl)
      (try simp only [Act.put, setIfInBounds_toArray, set_cons_zero, set_cons_succ])
      refine tk 5 ?_ rfl ?_ ?_
      rotate_left
      ·
       intro w hSw; (try dsimp only at hSw); go_simp; (try with_reducible rfl)
      (try simp only [Act.put, setIfInBounds_toArray, set_cons_zero, set_cons_succ])
      refine tk 7 ?_ rfl ?_ ?_
      rotate_left
      ·
       intro w hSw; (try dsimp only at hSw); go_simp; (try with_reducible rfl)
      (try simp only [Act.put, setIfInBounds_toArray, set_cons_zero, set_cons_succ])
      have hhold : Hid (wr.drew.cell? ⟨wo.heap.size, 3, none⟩ = some (.int .i64 y3) ∧ wr.drew.cell? ⟨wo.heap.size, 4, none⟩ = some (.int .i64 y4) ∧ wr.drew.cell? ⟨wo.heap.size + 1, 0, none⟩ = some (.int .i64 (1 + (i : Int))) ∧ wr.drew.cell? ⟨wo.heap.size + 1, 1, none⟩ = some (.int .i64 (1 + (k0 : Int))) ∧ wr.drew.cell? ⟨wo.heap.size + 1, 2, none⟩ = some (.int .i64 T) ∧ wr.drew.cell? ⟨wo.heap.size + 1, 3, none⟩ = some (.bool false) ∧ wr.drew.cell? ⟨wo.heap.size + 1, 4, none⟩ = some (.slice ka (keepsR y2 4).length kc)) := ⟨a3, a4, m0, m1, m2, m3, m4⟩
      generalize wr.drew = q0 at *
      clear a3 a4 m0 m1 m2 m3 m4
      refine wpAnyH_ready (rs := [3]) (by kernel_rfl) (by simp) ?_
      refine ready_l rfl (fun K hK => ?_) AllReadyH.nil
      go_simp
      go_at_call 62
      refine hq3.out.mono ?_
      rintro e q1 ⟨rfl, hq1⟩
      subst hq1
      refine hK.out _ _ (by exact hhold.out) (fun hHeld2 => ?_)
      clear hK K hHeld
      (try simp only [Act.put, setIfInBounds_toArray, set_cons_zero, set_cons_succ])
      refine wpAnyH_ready (rs := [6]) (by kernel_rfl) (by simp) ?_
      refine ready_l rfl (fun K hK => ?_) AllReadyH.nil
      go_simp
      go_at_call 62
      refine hq4.out.mono ?_
      rintro e q2 ⟨rfl, hq2⟩
      subst hq2
      refine hK.out _ _ (by exact hhold.out) (fun hHeld3 => ?_)
      clear hK K hHeld2
      (try simp only [Act.put, setIfInBounds_toArray, set_cons_zero, set_cons_succ])
      refine tk 8 ?_ rfl ?_ ?_
      rotate_left
      ·
       intro w hSw; (try dsimp only at hSw); go_simp; (try with_reducible rfl)
      (try simp only [Act.put, setIfInBounds_toArray, set_cons_zero, set_cons_succ])
      have hba : Below q2.heap.size q2 (q2.alloc (.cells #[.int .i64 (k3 : Int), .int .i64 (k4 : Int), .int .i64 (1 + (i : Int)), .int .i64 (1 + (k0 : Int)), .int .i64 T, .bool false, .slice ka (keepsR y2 4).length kc] 30)) := (Below.refl _ _).alloc (Nat.le_refl _) _
      have hnews : Hid (∀ j u, ([.int .i64 (k3 : Int), .int .i64 (k4 : Int), .int .i64 (1 + (i : Int)), .int .i64 (1 + (k0 : Int)), .int .i64 T, .bool false, .slice ka (keepsR y2 4).length kc] : List Value)[j]? = some u → (q2.alloc (.cells #[.int .i64 (k3 : Int), .int .i64 (k4 : Int), .int .i64 (1 + (i : Int)), .int .i64 (1 + (k0 : Int)), .int .i64 T, .bool false, .slice ka (keepsR y2 4).length kc] 30)).cell? ((⟨q2.heap.size, 0, none⟩ : Addr).add j) = some u) := fun j u hu => cells_new q2 [.int .i64 (k3 : Int), .int .i64 (k4 : Int), .int .i64 (1 + (i : Int)), .int .i64 (1 + (k0 : Int)), .int .i64 T, .bool false, .slice ka (keepsR y2 4).length kc] 30 j u hu
      replace hAd := Lib.hid (hAd.out.below hba)
      replace hMd := Lib.hid (hMd.out.below hba)
      replace hown7 := Lib.hid (hown7.out.below hba)
      replace hcl := Lib.hid (hcl.out.below hba)
      replace hb7 := Lib.hid (hb7.out.trans (hba.mono hb7.out.size))
      clear hba hhold
      refine wpAnyH_ready (rs := [9]) (by kernel_rfl) (by simp) ?_
      refine ready_l rfl (fun K hK => ?_) AllReadyH.nil
      go_simp
      generalize q2.alloc (.cells #[.int .i64 (k3 : Int), .int .i64 (k4 : Int), .int .i64 (1 + (i : Int)), .int .i64 (1 + (k0 : Int)), .int .i64 T, .bool false, .slice ka (keepsR y2 4).length kc] 30) = q3 at *
      generalize q2.heap.size = t3 at *
      refine hK.out _ _ (by exact ⟨hAd.out.cell rfl, hAd.out.cell rfl, hMd.out.cell rfl, hMd.out.cell rfl, hMd.out.cell rfl, hMd.out.cell rfl, hMd.out.cell rfl⟩) (fun hHeld4 => ?_)
      clear hK K hHeld3
      (try simp only [Act.put, setIfInBounds_toArray, set_cons_zero, set_cons_succ])
      refine wpAnyH_ready (rs := [10]) (by kernel_rfl) (by simp) ?_
      refine ready_l rfl (fun K hK => ?_) AllReadyH.nil
      obtain ⟨v', q4, hr4, hown4, hgrow4, _⟩ := run_append_own (P := Tryz.prog) q3 w.heap.size 35 35 30 e0 (.agg #[.int .i64 0, .int .i64 0, .int .i64 0, .int .i64 0, .int .i64 0, .bool false, .slice none 0 0]) 7 72 Tryz.underlying35 he he0 he1 he2 rfl (by decide) u3 _ _ hown7.out.own ⟨t3, 0, none⟩ 1 1 [.int .i64 (k3 : Int), .int .i64 (k4 : Int), .int .i64 (1 + (i : Int)), .int .i64 (1 + (k0 : Int)), .int .i64 T, .bool false, .slice ka (keepsR y2 4).length kc] rfl hnews.out (by simp [Value.oneCell']) (by rw [hml]; unfold maxLen; omega) (by rw [hml]; omega) hb7.out.size
      refine step_append_known rfl _ _ _ _ rfl u3 (.slice (some ⟨t3, 0, none⟩) 1 1) (by kernel_rfl) (by kernel_rfl) hr4 ?_
      replace hAd := Lib.hid (arr_row hAd.out hown7.out.own (by decide) hgrow4)
      replace hMd := Lib.hid (arr_row hMd.out hown7.out.own (by decide) hgrow4)
      have hown8 := hown7.out.snoc ⟨(k3 : Int), (k4 : Int), ⟨1 + (i : Int), 1 + (k0 : Int), T, false, keepsR y2 4⟩⟩ (.slice ka (keepsR y2 4).length kc) hcl.out hown4 hgrow4
      rw [← hE.out] at hown8
      have hend : Hid (∃ us, EdOwn w.heap.size q4 v' (madeTo zs (i + 1)) us ∧ Below w.heap.size w q4) := ⟨_, hown8, hb7.out.grown hgrow4 hb7.out.size (fun g hg => (own_block hown7.out.own hg).2.1)⟩
      obtain ⟨g', cap', rfl⟩ := ownsRow_succ hown4
      refine hK.out _ _ (by exact ⟨hAd.out.cell rfl, hAd.out.cell rfl, hMd.out.cell rfl, hMd.out.cell rfl, hMd.out.cell rfl, hMd.out.cell rfl, hMd.out.cell rfl⟩) (fun hHeld5 => ?_)
      clear hK K hHeld4 hr4 hown4 hgrow4 hown8 hown7 hcl hb7 hnews
      (try simp only [Act.put, setIfInBounds_toArray, set_cons_zero, set_cons_succ])
      refine tk 11 ?_ rfl ?_ ?_
      rotate_left
      ·
       intro w hSw; (try dsimp only at hSw); go_simp; (try with_reducible rfl)
      (try simp only [Act.put, setIfInBounds_toArray, set_cons_zero, set_cons_succ])
      refine wpAnyH_done (by kernel_rfl) ?_ _
      go_wp2_with fail
      rw [hml] at hend
      exact ⟨⟨i + 1, by omega, by omega, rfl, hend⟩, by simp [intOf]; omega⟩
   ·
    have hno8 : decide ((i : Int) < 8) = false := decide_eq_false (by omega)
    have e : madeE n zs = madeTo zs i := by
     unfold madeE madeTo
     rw [show min n 8 = i by omega]
    rw [← e] at hown
    replace hown := Lib.hid hown
    replace hb := Lib.hid hb
    go_wp2_with fail
    go_ret
    exact ⟨_, _, rfl, hown.out, hb.out⟩
  ·
   have hno : decide ((i : Int) < (n : Int)) = false := decide_eq_false (by omega)
   have e : madeE n zs = madeTo zs i := by
    unfold madeE madeTo
    rw [show min n 8 = i by omega]
   rw [← e] at hown
   replace hown := Lib.hid hown
   replace hb := Lib.hid hb
   go_wp2_with fail
   go_ret
   exact ⟨_, _, rfl, hown.out, hb.out⟩
end Go.Proofs.YtpeandbcdaikbaaGreatDoor
