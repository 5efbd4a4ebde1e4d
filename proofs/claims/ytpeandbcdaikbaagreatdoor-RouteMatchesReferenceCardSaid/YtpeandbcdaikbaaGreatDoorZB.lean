/-
 Routes of chapter 11: the reference's Compose (abstractions).
 Routes of chapter 11: the reference's Same (once more, below the law's texts) and Coarser (abstractions).
 Routes of chapter 11: the reference's Coarser (abstractions).
 Routes of chapter 11: the reference's SameSteps, id, lost and keep (migrations).
-/
import Derived.Test.YtpeandbcdaikbaaGreatDoorZA
import Derived.Test.YtpeandbcdaikbaaGreatDoorYQ
import Derived.Test.YtpeandbcdaikbaaGreatDoorYS
namespace Go.Proofs.YtpeandbcdaikbaaGreatDoor
open Go.RowKit Go.Shelf Go.Maps

attribute [local go_sem] Oper.semAt_some

theorem stepsT_at3 {w : World} {v : Value} {l : List Stp} (h : StepsT w v l) : StepsAt w w.heap.size v l := RowT.at h
theorem StepsT.lenR {w : World} {v : Value} {l : List Stp} (h : StepsT w v l) : ∃ a c, v = .slice a l.length c ∧ l.length ≤ maxLen := RowT.len h
theorem StepsT.belowR {w w' : World} {v : Value} {l : List Stp} (h : StepsT w v l) (hb : Below w.heap.size w w') : StepsT w' v l := RowT.below h hb
theorem compose_valid {p : Int} {a b : List Stp} (ha : validA p a = true) (hb : validA p b = true) : validA p (normalA a ++ normalA b) = true := by
 have hpa := valid_parts ha
 have h1 := valid_parts (valid_normal hpa.1 hpa.2.2)
 have h2 := valid_parts (valid_normal hpa.1 (valid_parts hb).2.2)
 have l1 := normal_len a
 have l2 := normal_len b
 refine valid_mk hpa.1 (by rw [List.length_append]; omega) fun s hs => ?_
 rcases List.mem_append.1 hs with h | h
 ·
  exact h1.2.2 s h
 ·
  exact h2.2.2 s h
theorem compose_eq {p : Int} {a b : List Stp} (ha : validA p a = true) (hb : validA p b = true) : normR p (normalA a ++ normalA b) = composeA p a b := by
 unfold normR composeA
 rw [if_pos (compose_valid ha hb), ha, hb, normal_left, normal_right]
 rfl
set_option maxRecDepth 100000 in
set_option maxHeartbeats 4000000 in
theorem Compose7_any (p : Int) (v u : Value) (a b : List Stp) (w : World) (hv : StepsAt w w.heap.size v a) (hu : StepsAt w w.heap.size u b) :
  Calls Tryz.prog 45 #[.int .i64 p, v, u] w fun e w' => ∃ v', e = .returned (.tuple #[v', .int .i64 (if validA p a && validA p b then 0 else 70)]) ∧ StepsT w' v' (composeA p a b) ∧ Below w.heap.size w w' := by
 have hc1 := Lib.hid (Valid7_any p v a w hv)
 have hc2 := Lib.hid fun W (hW : Below w.heap.size w W) => Valid7_any p u b W (hu.later hW)
 have hn1 := Lib.hid fun W (hW : Below w.heap.size w W) => Normal7_any p v a W (hv.later hW)
 have hn2 := Lib.hid fun W (hW : Below w.heap.size w W) => Normal7_any p u b W (hu.later hW)
 obtain ⟨va, vc, rfl, _, hvm, _⟩ := hv
 obtain ⟨ua, uc, rfl, _, hum, _⟩ := hu
 obtain ⟨i0, hi_, hz0, hz1, hz2⟩ := info_parts Tryz.info_step
 replace hi_ := Lib.hid hi_
 have hce := @compose_eq p a b
 have hcv := @compose_valid p a b
 have hcf : ¬(validA p a = true ∧ validA p b = true) → composeA p a b = [] := fun h => by
  unfold composeA
  rw [if_neg (by rw [Bool.and_eq_true]; exact h)]
 replace hce := Lib.hid hce
 replace hcv := Lib.hid hcv
 generalize hA : validA p a = A at *
 generalize hB : validA p b = B at *
 replace hA := Lib.hid hA
 replace hB := Lib.hid hB
 replace hcf := Lib.hid hcf
 go_enter Tryz.func45, Tryz.ntmps45
 go_wp2_with fail
 refine hc1.out.mono ?_
 clear hc1
 rintro e w1 ⟨rfl, hb1⟩
 have hv2 := Lib.hid (hc2.out w1 hb1)
 clear hc2
 replace hb1 := Lib.hid hb1
 go_wp2_with fail
 refine hv2.out.mono ?_
 clear hv2
 rintro e w2 ⟨rfl, hb2⟩
 have hbw2 := Lib.hid (hb1.out.trans (hb2.mono hb1.out.size))
 clear hb1 hb2
 cases A with
 | false =>
  have hc0 := hcf.out (by simp)
  replace hc0 := Lib.hid hc0
  go_wp2_with fail
  go_ret2
  exact ⟨_, rfl, by rw [hc0.out]; exact RowT.of_own (World.ownsRow_nil w2 w2.heap.size _ 2), hbw2.out⟩
 | true =>
  cases B with
  | false =>
   have hc0 := hcf.out (by simp)
   replace hc0 := Lib.hid hc0
   go_wp2_with fail
   go_ret2
   exact ⟨_, rfl, by rw [hc0.out]; exact RowT.of_own (World.ownsRow_nil w2 w2.heap.size _ 2), hbw2.out⟩
  | true =>
   have hm1 := Lib.hid (hn1.out w2 hbw2.out)
   clear hn1
   go_wp2_with fail
   refine hm1.out.mono ?_
   clear hm1
   rintro e w3 ⟨xv, rfl, hx, hb3⟩
   have hbw3 := hbw2.out.trans (hb3.mono hbw2.out.size)
   have hm2 := Lib.hid (hn2.out w3 hbw3)
   replace hbw3 := Lib.hid hbw3
   clear hn2 hbw2 hb3
   rw [show normR p a = normalA a by unfold normR; rw [hA.out]; rfl] at hx
   replace hx := Lib.hid hx
   go_wp2_with fail
   refine hm2.out.mono ?_
   clear hm2
   rintro e w4 ⟨yv, rfl, hy, hb4⟩
   rw [show normR p b = normalA b by unfold normR; rw [hB.out]; rfl] at hy
   have hbw4 := Lib.hid (hbw3.out.trans (hb4.mono hbw3.out.size))
   replace hx := Lib.hid (hx.out.below hb4)
   clear hbw3 hb4
   have l1 := normal_len a
   have l2 := normal_len b
   have hba : Below w4.heap.size w4 (w4.alloc (.cells #[] 73)) := (Below.refl _ _).alloc (Nat.le_refl _) _
   have hxs := Lib.hid (stepsT_at3 (hx.out.below hba))
   have hys := Lib.hid (hy.below hba)
   have hsz0 : Hid (w.heap.size ≤ w4.heap.size) := hbw4.out.size
   have hone1 : Hid (∀ q ∈ stL (normalA a), q.oneCell' = true) := stL_one _
   have hone2 : Hid (∀ q ∈ stL (normalA b), q.oneCell' = true) := stL_one _
   have hsl1 : Hid ((stL (normalA a)).length = (normalA a).length * 2) := stL_len _
   have hsl2 : Hid ((stL (normalA b)).length = (normalA b).length * 2) := stL_len _
   have happ : Hid (stL (normalA a ++ normalA b) = stL (normalA a) ++ stL (normalA b)) := stL_app _ _
   have hlen : Hid ((normalA a ++ normalA b).length = (normalA a).length + (normalA b).length) := List.length_append
   generalize normalA a = na at *
   generalize normalA b = nb at *
   generalize hN1 : na.length = n1 at *
   generalize hN2 : nb.length = n2 at *
   obtain ⟨xa, xc, rfl⟩ : ∃ a c, xv = .slice a n1 c := by
    obtain ⟨a, c, h, _⟩ := hxs.out
    rw [hN1] at h
    exact ⟨a, c, h⟩
   obtain ⟨ya, yc, rfl⟩ : ∃ a c, yv = .slice a n2 c := by
    obtain ⟨a, c, h, _⟩ := hys.out.len
    (try rw [hN2] at h)
    exact ⟨a, c, h⟩
   have hxs2 : Hid (SliceAt (w4.alloc (.cells #[] 73)) (w4.alloc (.cells #[] 73)).heap.size (.slice xa n1 xc) n1 (stL na)) := by rw [← hN1]; rw [← hN1] at hxs; exact hxs.out
   replace hN1 := Lib.hid hN1
   replace hN2 := Lib.hid hN2
   clear hx hxs
   go_upto_region 7 with fail
   go_wp2_with (at_builtin; refine wpList_append_src rfl _ _ 55 rfl w4.heap.size 73 i0 (.agg #[.int .i64 0, .int .i64 0]) 2 16 Tryz.underlying55 hi_.out hz0 hz1 hz2 rfl (by decide) _ _ _ rfl (World.ownsRow_made w4 #[] 0 (Nat.le_refl _) (Nat.zero_le _) (by simp)) _ n1 _ (stL na) rfl hxs2.out hsl1.out hone1.out ?qa ?qb ?qc ?_)
   case qa => unfold maxLen; omega
   case qb => omega
   case qc => simp
   intro mv w5 hown hgrow
   replace hown : w5.ownsRow w4.heap.size 73 2 mv n1 (stL na) := by simpa using hown
   have hb5 : Below w4.heap.size w4 w5 := ((Below.refl _ w4).alloc (Nat.le_refl _) _).grown hgrow (by simp) (by intro k hk; simp [Value.ownBlock] at hk; omega)
   have hys2 := stepsT_at3 ((show StepsT w4 (.slice ya n2 yc) nb from hy).below hb5)
   rw [show StepsAt w5 w5.heap.size (.slice ya n2 yc) nb = SliceAt w5 w5.heap.size (.slice ya n2 yc) nb.length (stL nb) from rfl, hN2.out] at hys2
   replace hys2 := Lib.hid hys2
   have hsz5 : Hid (w4.heap.size ≤ w5.heap.size) := hb5.size
   replace hown := Lib.hid hown
   replace hbw4 := Lib.hid (hbw4.out.trans (hb5.mono hbw4.out.size))
   clear hgrow hxs2 hys hba hb5
   go_wp2_with (at_builtin; refine wpList_append_src rfl _ _ 55 rfl w4.heap.size 73 i0 (.agg #[.int .i64 0, .int .i64 0]) 2 16 Tryz.underlying55 hi_.out hz0 hz1 hz2 rfl (by decide) _ _ _ rfl hown.out _ n2 _ (stL nb) rfl hys2.out hsl2.out hone2.out ?qa ?qb ?qc ?_)
   case qa => unfold maxLen; omega
   case qb => omega
   case qc => exact hsz5.out
   intro mv2 w6 hown2 hgrow
   have hS : StepsT w6 mv2 (na ++ nb) := by
    have := RowT.of_own hown2
    unfold StepsT
    rw [happ.out, hlen.out]
    exact this
   have hbw6 : Below w.heap.size w w6 := hbw4.out.grown hgrow hbw4.out.size (fun g hg => by have := (own_block hown.out hg).2.1; have := hsz0.out; omega)
   have hfin := Lib.hid (Normal7_any p mv2 (na ++ nb) w6 (stepsT_at3 hS))
   obtain ⟨ma, mn, mc, rfl⟩ : ∃ a n c, mv2 = .slice a n c := by
    obtain ⟨a, c, h, _⟩ := hS.len
    exact ⟨a, _, c, h⟩
   replace hbw6 := Lib.hid hbw6
   clear hS hown hown2 hgrow hys2
   go_wp2_with fail
   refine hfin.out.mono ?_
   clear hfin
   rintro e w7 ⟨rv, rfl, hr, hb7⟩
   rw [if_pos (hcv.out (by trivial) (by trivial))]
   rw [hce.out (by trivial) (by trivial)] at hr
   replace hr := Lib.hid hr
   have hbw7 := Lib.hid (hbw6.out.trans (hb7.mono hbw6.out.size))
   clear hb7 hbw6
   go_wp2_with fail
   go_ret2
   exact ⟨_, rfl, hr.out, hbw7.out⟩
end Go.Proofs.YtpeandbcdaikbaaGreatDoor
namespace Go.Proofs.YtpeandbcdaikbaaGreatDoor
open Go.RowKit Go.Shelf Go.Maps

attribute [local go_sem] Oper.semAt_some

theorem Tryz.info_steps : (Tryz.prog.info? 55).map (fun i => (i.zero, i.size, i.bytes)) = some (some (.slice none 0 0), 1, 24) := by kernel_rfl
def behindTo (a : List Stp) (j : Nat) : List Stp := if j = 0 then a else if j = 1 then [⟨6, 0⟩] else halves (j - 2)
theorem behindR_any (a : List Stp) (f : List Stp → Bool) : (behindR a).any f = true ↔ ∃ j, j < 8 ∧ f (behindTo a j) = true := by
 unfold behindR
 simp only [List.any_cons, List.any_nil, Bool.or_false, Bool.or_eq_true]
 constructor
 ·
  rintro (h | h | h | h | h | h | h | h)
  ·
   exact ⟨0, by omega, h⟩
  ·
   exact ⟨1, by omega, h⟩
  ·
   exact ⟨2, by omega, h⟩
  ·
   exact ⟨3, by omega, h⟩
  ·
   exact ⟨4, by omega, h⟩
  ·
   exact ⟨5, by omega, h⟩
  ·
   exact ⟨6, by omega, h⟩
  ·
   exact ⟨7, by omega, h⟩
 ·
  rintro ⟨j, hj, h⟩
  obtain rfl | rfl | rfl | rfl | rfl | rfl | rfl | rfl : j = 0 ∨ j = 1 ∨ j = 2 ∨ j = 3 ∨ j = 4 ∨ j = 5 ∨ j = 6 ∨ j = 7 := by omega
  ·
   exact .inl h
  ·
   exact .inr (.inl h)
  ·
   exact .inr (.inr (.inl h))
  ·
   exact .inr (.inr (.inr (.inl h)))
  ·
   exact .inr (.inr (.inr (.inr (.inl h))))
  ·
   exact .inr (.inr (.inr (.inr (.inr (.inl h)))))
  ·
   exact .inr (.inr (.inr (.inr (.inr (.inr (.inl h))))))
  ·
   exact .inr (.inr (.inr (.inr (.inr (.inr (.inr h))))))
theorem halves_succ (i : Nat) : stL (halves (i + 1)) = stL (halves i) ++ [.int .i64 5, .int .i64 0] := by
 rw [show halves (i + 1) = halves i ++ [⟨5, 0⟩] from List.replicate_succ', stL_snoc]
 rfl
/-- A slice's block is not another one's. -/
def ApartB (hv u : Value) : Prop := ∀ b o n c, u = .slice (some ⟨b, o, none⟩) n c → hv.ownBlock ≠ some b
theorem StepsT.stay {w w' : World} {v : Value} {l : List Stp} (h : StepsT w v l) (hk : ∀ b o n c, v = .slice (some ⟨b, o, none⟩) n c → b < w.heap.size → w'.heap[b]? = w.heap[b]?) : StepsT w' v l := by
 obtain ⟨a, cap, rfl, h1, h2, hc⟩ := h
 refine ⟨a, cap, rfl, h1, h2, fun hp => ?_⟩
 obtain ⟨b, o, cur, fz, rfl, hb, hx⟩ := hc hp
 exact ⟨b, o, cur, fz, rfl, (hk b o _ _ rfl (Array.getElem?_eq_some_iff.1 hb).1).trans hb, hx⟩
/-- A slice's block lies below. -/
def BlockLt (w : World) (u : Value) : Prop := ∀ b o n c, u = .slice (some ⟨b, o, none⟩) n c → b < w.heap.size
theorem own_apart {w w' : World} {B s n m : Nat} {e e' : TypeId} {s' : Nat} {hv cv : Value} {xs ys : List Value} (h : w.ownsRow B e s hv n xs) (hc : w'.ownsRow w.heap.size e' s' cv m ys) : ApartB hv cv := fun b o k c q e2 => by
 have h1 := (own_block h e2).1
 have h2 := (own_block hc (g := b) (by rw [q]; rfl)).2.1
 omega
theorem own_lt {w : World} {B s n : Nat} {e : TypeId} {v : Value} {xs : List Value} (h : w.ownsRow B e s v n xs) : BlockLt w v := fun b o k c q => (own_block h (g := b) (by rw [q]; rfl)).1
/-- What Coarser's first loop has made. -/
structure Beh (w wr : World) (av bv hv : Value) (a : List Stp) (i : Nat) (us : List Value) : Prop where
 own : wr.ownsRow w.heap.size 55 1 bv (2 + i) us
 zero : us[0]! = av
 els : ∀ j, 0 < j → j < 2 + i → StepsT wr us[j]! (behindTo a j) ∧ ApartB hv us[j]! ∧ BlockLt wr us[j]!
 hal : wr.ownsRow w.heap.size 73 2 hv i (stL (halves i))
 below : Below w.heap.size w wr
theorem Beh.len {w wr : World} {av bv hv : Value} {a : List Stp} {i : Nat} {us : List Value} (h : Beh w wr av bv hv a i us) : us.length = 2 + i := by have := h.own.1; omega
theorem Beh.later {w wr wn : World} {av bv hv : Value} {a : List Stp} {i : Nat} {us : List Value} (h : Beh w wr av bv hv a i us) (hb : Below wr.heap.size wr wn) : Beh w wn av bv hv a i us :=
 ⟨own_below h.own hb, h.zero, fun j h0 hj => ⟨StepsT.belowR (h.els j h0 hj).1 hb, (h.els j h0 hj).2.1, fun b o n c e => Nat.lt_of_lt_of_le ((h.els j h0 hj).2.2 b o n c e) hb.size⟩, own_below h.hal hb, h.below.trans (hb.mono h.below.size)⟩
/-- One element more. -/
theorem Beh.push {w wr wn : World} {av bv hv u : Value} {a : List Stp} {i : Nat} {us : List Value} (h : Beh w wr av bv hv a i us) (hu : StepsT wr u (halves i)) (hap : ApartB hv u) (hul : BlockLt wr u)
  (hg : wr.grownBy wn bv.ownBlock) :
  (us ++ [u])[0]! = av ∧ (∀ j, 0 < j → j < 2 + (i + 1) → StepsT wn (us ++ [u])[j]! (behindTo a j) ∧ ApartB hv (us ++ [u])[j]! ∧ BlockLt wn (us ++ [u])[j]!) ∧ wn.ownsRow w.heap.size 73 2 hv i (stL (halves i)) ∧ Below w.heap.size w wn := by
 have hk : KeepTy [55] wr wn := KeepTy.grown h.own hg (by decide)
 have hl := h.len
 refine ⟨by rw [snoc_lt us u (by omega)]; exact h.zero, fun j h0 hj => ?_, own_keepTy h.hal (by decide) hk, h.below.grown hg h.below.size (fun g hq => (own_block h.own hq).2.1)⟩
 by_cases q : j = 2 + i
 ·
  subst q
  rw [← hl, snoc_at us u, hl]
  have : behindTo a (2 + i) = halves i := by unfold behindTo; rw [if_neg (by omega), if_neg (by omega), Nat.add_sub_cancel_left]
  rw [this]
  exact ⟨RowT.keepTy hu (by decide) hk, hap, fun b o n c e => Nat.lt_of_lt_of_le (hul b o n c e) hg.size⟩
 ·
  rw [snoc_lt us u (by omega)]
  exact ⟨RowT.keepTy (h.els j h0 (by omega)).1 (by decide) hk, (h.els j h0 (by omega)).2.1, fun b o n c e => Nat.lt_of_lt_of_le ((h.els j h0 (by omega)).2.2 b o n c e) hg.size⟩
/-- One halving more. -/
theorem Beh.halve {w wr wn : World} {av bv hv hv' : Value} {a : List Stp} {i : Nat} {us : List Value}
  (hO : wr.ownsRow w.heap.size 55 1 bv (2 + (i + 1)) us) (h0 : us[0]! = av) (hE : ∀ j, 0 < j → j < 2 + (i + 1) → StepsT wr us[j]! (behindTo a j) ∧ ApartB hv us[j]! ∧ BlockLt wr us[j]!) (hH : wr.ownsRow w.heap.size 73 2 hv i (stL (halves i))) (hB : Below w.heap.size w wr)
  (hown : wn.ownsRow w.heap.size 73 2 hv' (i + 1) (stL (halves i) ++ [.int .i64 5, .int .i64 0])) (hg : (wr.alloc (.cells #[.int .i64 5, .int .i64 0] 73)).grownBy wn hv.ownBlock)
  (hbk : hv'.ownBlock = hv.ownBlock ∨ hv'.ownBlock = some (wr.heap.size + 1)) : Beh w wn av bv hv' a (i + 1) us := by
 have hba : Below wr.heap.size wr (wr.alloc (.cells #[.int .i64 5, .int .i64 0] 73)) := (Below.refl _ _).alloc (Nat.le_refl _) _
 have hsz := hba.size
 refine ⟨?_, h0, fun j j0 hj => ⟨StepsT.stay (hE j j0 hj).1 fun b o n c e hb => ?_, fun b o n c e => ?_, fun b o n c e => Nat.lt_of_lt_of_le ((hE j j0 hj).2.2 b o n c e) (Nat.le_trans hsz hg.size)⟩, by rw [halves_succ]; exact hown, (hB.trans (hba.mono hB.size)).grown hg (by have := hB.size; omega) (fun g hq => (own_block hH hq).2.1)⟩
 ·
  have h1 := own_below hO hba
  have hk : KeepTy [73] (wr.alloc (.cells #[.int .i64 5, .int .i64 0] 73)) wn := KeepTy.grown (own_below hH hba) hg (by decide)
  exact own_keepTy h1 (by decide) hk
 ·
  exact (hg.block b (by omega) (fun e2 => (hE j j0 hj).2.1 b o n c e e2.symm)).trans (hba.block b hb)
 ·
  rcases hbk with hbk | hbk
  ·
   rw [hbk]; exact (hE j j0 hj).2.1 b o n c e
  ·
   rw [hbk]
   intro e2
   injection e2 with e2
   have := (hE j j0 hj).2.2 b o n c e
   omega
end Go.Proofs.YtpeandbcdaikbaaGreatDoor
namespace Go.Proofs.YtpeandbcdaikbaaGreatDoor
open Go.RowKit Go.Shelf Go.Maps

attribute [local go_sem] Oper.semAt_some

/-- One of the lists that can stand behind. -/
def testC (p : Int) (a b : List Stp) (j : Nat) : Bool := validA p b && validA p (behindTo a j) && decide (normalA (b ++ behindTo a j) = normalA a)
theorem testC_eq (p : Int) (a b : List Stp) (j : Nat) : testC p a b j = (validA p b && validA p (behindTo a j) && decide (composeA p b (behindTo a j) = normalA a)) := by
 unfold testC composeA
 cases h : (validA p b && validA p (behindTo a j)) with
 | true => rfl
 | false => rfl
theorem coarserR_test {p : Int} {a b : List Stp} (ha : validA p a = true) : coarserA p a b = true ↔ ∃ j, j < 8 ∧ testC p a b j = true := by
 rw [← coarserR_eq]
 unfold coarserR
 rw [ha, Bool.true_and, behindR_any]
 rfl
set_option maxRecDepth 100000 in
set_option maxHeartbeats 8000000 in
theorem Coarser7_any (p : Int) (v u : Value) (a b : List Stp) (w : World) (hv : StepsAt w w.heap.size v a) (hu : StepsAt w w.heap.size u b) :
  Calls Tryz.prog 57 #[.int .i64 p, v, u] w fun e w' => e = .returned (.bool (coarserA p a b)) ∧ Below w.heap.size w w' := by
 have hn1 := Lib.hid (Normal7_any p v a w hv)
 have hvw := Lib.hid fun W (hW : Below w.heap.size w W) => hv.later hW
 have huw := Lib.hid fun W (hW : Below w.heap.size w W) => hu.later hW
 obtain ⟨va, vc, rfl, _, hvm, _⟩ := hv
 obtain ⟨ua, uc, rfl, _, hum, _⟩ := hu
 obtain ⟨i0, hi_, hz0, hz1, hz2⟩ := info_parts Tryz.info_step
 obtain ⟨s0, hs_, hy0, hy1, hy2⟩ := info_parts Tryz.info_steps
 replace hi_ := Lib.hid hi_
 replace hs_ := Lib.hid hs_
 obtain ⟨R, hR⟩ : ∃ R, coarserA p a b = R := ⟨_, rfl⟩
 rw [hR]
 replace hR := Lib.hid hR
 have hnr : normR p a = if validA p a then normalA a else [] := rfl
 replace hnr := Lib.hid hnr
 cases hva : validA p a with
 | false =>
  rw [hva, if_neg Bool.false_ne_true] at hn1
  obtain rfl : R = false := by
   rw [← hR.out]
   unfold coarserA
   rw [hva, Bool.false_and, Bool.false_and]
  replace hva := Lib.hid hva
  go_enter Tryz.func57, Tryz.ntmps57
  go_wp2_with fail
  refine hn1.out.mono ?_
  rintro e w1 ⟨v', rfl, hS, hb1⟩
  replace hb1 := Lib.hid hb1
  replace hS := Lib.hid hS
  go_wp2_with fail
  go_ret
  exact ⟨rfl, hb1.out⟩
 | true =>
  rw [hva, if_pos rfl] at hn1 hnr
  have htest := coarserR_test (a := a) (b := b) hva
  rw [hR.out] at htest
  replace htest := Lib.hid htest
  replace hva := Lib.hid hva
  go_enter Tryz.func57, Tryz.ntmps57
  go_wp2_with fail
  refine hn1.out.mono ?_
  clear hn1
  rintro e w1 ⟨dv, rfl, hS, hb1⟩
  have hnr2 : normR p a = normalA a := hnr.out
  rw [hnr2] at hS
  obtain ⟨da, dc, rfl, hdl⟩ := StepsT.lenR hS
  clear hnr hnr2
  obtain ⟨w2, hw2⟩ : ∃ w2, w2 = w1.alloc (.cells #[.int .i64 6, .int .i64 0] 73) := ⟨_, rfl⟩
  have hb2 : Below w1.heap.size w1 w2 := by rw [hw2]; exact (Below.refl _ _).alloc (Nat.le_refl _) _
  have hs2 : w2.heap.size = w1.heap.size + 1 := by rw [hw2]; simp
  have hL : w2.ownsRow w.heap.size 73 2 (.slice (some ⟨w1.heap.size, 0, none⟩) 1 1) 1 (stL [⟨6, 0⟩]) := by
   rw [hw2]
   exact World.ownsRow_lit w1 #[.int .i64 6, .int .i64 0] 1 hb1.size (by unfold maxLen; omega) rfl
  obtain ⟨w3, hw3⟩ : ∃ w3, w3 = w2.alloc (.cells #[.slice va a.length vc, .slice (some ⟨w1.heap.size, 0, none⟩) 1 1] 55) := ⟨_, rfl⟩
  have hb3 : Below w2.heap.size w2 w3 := by rw [hw3]; exact (Below.refl _ _).alloc (Nat.le_refl _) _
  have hbB : w3.ownsRow w2.heap.size 55 1 (.slice (some ⟨w2.heap.size, 0, none⟩) 2 2) 2 [.slice va a.length vc, .slice (some ⟨w1.heap.size, 0, none⟩) 1 1] := by
   rw [hw3]
   exact World.ownsRow_lit w2 #[.slice va a.length vc, .slice (some ⟨w1.heap.size, 0, none⟩) 1 1] 2 (Nat.le_refl _) (by unfold maxLen; omega) rfl
  have hL3 := own_below hL hb3
  have hD : Hid (StepsT w2 (.slice da (normalA a).length dc) (normalA a)) := StepsT.belowR hS hb2
  have hb12 := hb1.trans (hb2.mono hb1.size)
  have hst : Hid (∃ us, Beh w2 w3 (.slice va a.length vc) (.slice (some ⟨w2.heap.size, 0, none⟩) 2 2) (.slice none 0 0) a 0 us) := ⟨_, hbB, rfl, fun j h0 hj => by
   obtain rfl : j = 1 := by omega
   exact ⟨RowT.of_own hL3, fun b o n c e => (by simp [Value.ownBlock]), own_lt hL3⟩, World.ownsRow_nil _ _ _ _, hb3⟩
  rw [hs2] at hst
  clear hL hbB hL3 hb2 hb3 hS hs2 hb1
  replace hb12 := Lib.hid hb12
  go_upto_region 5 with fail
  rw [← hw2]
  rw [← hw3]
  clear hw2 hw3
  go_wp2_with fail
  go_loopw [9, 10, 11] (fun bv hv iv wr => ∃ i : Nat, i ≤ 6 ∧ iv = .int .i64 (i : Int) ∧ Hid (∃ us, Beh w2 wr (.slice va a.length vc) bv hv a i us)) (fun _ _ iv _ => 6 - (intOf iv).toNat)
  case atStart => exact ⟨0, by omega, rfl, hst⟩
  case round =>
   obtain ⟨i, hi, rfl, hall⟩ := hrel
   clear hst
   obtain ⟨us, hBe⟩ := hall.out
   clear hall
   obtain ⟨xb, nb, kb, rfl⟩ : ∃ x n c, u9 = .slice x n c := by
    obtain ⟨x, c, h⟩ := own_val hBe.own
    exact ⟨x, _, c, h⟩
   obtain ⟨xh, nh, kh, rfl⟩ : ∃ x n c, u10 = .slice x n c := by
    obtain ⟨x, c, h⟩ := own_val hBe.hal
    exact ⟨x, _, c, h⟩
   by_cases hlt : i < 6
   ·
    have hyes : decide ((i : Int) ≤ 5) = true := decide_eq_true (by omega)
    have hw1 : IntKind.i64.wrap ((i : Int) + 1) = (i : Int) + 1 := IntWalk.i64_in _ (by omega)
    have hbe : Below wr.heap.size wr (wr.alloc (.cells #[] 73)) := (Below.refl _ _).alloc (Nat.le_refl _) _
    have hsrc : Hid (SliceAt (wr.alloc (.cells #[] 73)) (wr.alloc (.cells #[] 73)).heap.size (.slice xh nh kh) i (stL (halves i))) := SliceAt.later (sliceAt_of_own hBe.hal) hbe
    have hone : Hid (∀ q ∈ stL (halves i), q.oneCell' = true) := stL_one _
    have hsl : Hid ((stL (halves i)).length = i * 2) := (show (stL (halves i)).length = i * 2 by rw [stL_len, halves_len])
    replace hBe := Lib.hid hBe
    replace hbe := Lib.hid hbe
    go_wp2_with (at_builtin; refine wpList_append_src rfl _ _ 55 rfl wr.heap.size 73 i0 (.agg #[.int .i64 0, .int .i64 0]) 2 16 Tryz.underlying55 hi_.out hz0 hz1 hz2 rfl (by decide) _ _ _ rfl (World.ownsRow_made wr #[] 0 (Nat.le_refl _) (Nat.zero_le _) (by simp)) _ i _ (stL (halves i)) rfl hsrc.out hsl.out hone.out ?qa ?qb ?qc ?_)
    case qa => unfold maxLen; omega
    case qb => omega
    case qc => simp
    intro cv w4 hown hgrow
    replace hown : w4.ownsRow wr.heap.size 73 2 cv i (stL (halves i)) := by simpa using hown
    have hb4 : Below wr.heap.size wr w4 := hbe.out.grown hgrow (by simp) (by intro k hk; simp [Value.ownBlock] at hk; omega)
    have hB4 := hBe.out.later hb4
    have hcS : StepsT w4 cv (halves i) := by
     have := RowT.of_own hown
     unfold StepsT
     rw [halves_len]
     exact this
    have hap := Lib.hid (own_apart hBe.out.hal hown)
    have hul := own_lt hown
    obtain ⟨xc, kc, rfl⟩ := own_val hown
    obtain ⟨w5, hw5⟩ : ∃ w5, w5 = w4.alloc (.cells #[.slice xc i kc] 55) := ⟨_, rfl⟩
    have hb5 : Below w4.heap.size w4 w5 := by rw [hw5]; exact (Below.refl _ _).alloc (Nat.le_refl _) _
    have hnews : ∀ q y, [Value.slice xc i kc][q]? = some y → w5.cell? ((⟨w4.heap.size, 0, none⟩ : Addr).add q) = some y := fun q y hy => by rw [hw5]; exact cells_new w4 [.slice xc i kc] 55 q y hy
    have hB5 := Lib.hid (hB4.later hb5)
    have hcS5 := Lib.hid (StepsT.belowR hcS hb5)
    have hul5 : Hid (BlockLt w5 (.slice xc i kc)) := fun b o n c e => Nat.lt_of_lt_of_le (hul b o n c e) hb5.size
    have hown5 := Lib.hid hB5.out.own
    have hsz5 : Hid (w2.heap.size ≤ w5.heap.size) := hB5.out.below.size
    clear hsrc hone hsl hown hgrow hb4 hB4 hcS hul hb5 hBe hbe
    generalize hn2 : 2 + i = n2 at *
    have hn8 : n2 ≤ 8 := by omega
    replace hn2 := Lib.hid hn2
    go_upto_region 10 with (rw [← hw5]; clear hw5; at_builtin; refine wpList_append_own _ rfl _ _ 121 rfl w2.heap.size 55 s0 (.slice none 0 0) 1 24 Tryz.underlying121 hs_.out hy0 hy1 hy2 rfl (by decide) _ n2 _ rfl hown5.out ⟨w4.heap.size, 0, none⟩ 1 1 [.slice xc i kc] rfl rfl hnews (by simp [Value.oneCell']) ?qa ?qb ?qc ?_)
    case qa => unfold maxLen; omega
    case qb => omega
    case qc => exact hsz5.out
    intro bv2 w6 hown6 hgrow6 hnil
    obtain ⟨p0, pE, pH, pB⟩ := hB5.out.push hcS5.out hap.out hul5.out hgrow6
    have hO6 : Hid (w6.ownsRow w2.heap.size 55 1 bv2 (2 + (i + 1)) (us ++ [.slice xc i kc])) := by
     rw [show 2 + (i + 1) = n2 + 1 by have := hn2.out; omega]
     exact hown6
    have hba : Below w6.heap.size w6 (w6.alloc (.cells #[.int .i64 5, .int .i64 0] 73)) := (Below.refl _ _).alloc (Nat.le_refl _) _
    have hH6 := Lib.hid (own_below pH hba)
    have hnews : ∀ q y, [Value.int .i64 5, .int .i64 0][q]? = some y → (w6.alloc (.cells #[.int .i64 5, .int .i64 0] 73)).cell? ((⟨w6.heap.size, 0, none⟩ : Addr).add q) = some y := fun q y hy => cells_new w6 [.int .i64 5, .int .i64 0] 73 q y hy
    have hsz6 : Hid (w2.heap.size ≤ w6.heap.size) := pB.size
    replace p0 := Lib.hid p0
    replace pE := Lib.hid pE
    replace pH := Lib.hid pH
    replace pB := Lib.hid pB
    clear hown5 hsz5 hB5 hcS5 hap hul5 hgrow6 hnil hown6 hba
    go_wp2_with (at_builtin; refine wpList_append_blk rfl _ _ 55 rfl w2.heap.size 73 i0 (.agg #[.int .i64 0, .int .i64 0]) 2 16 Tryz.underlying55 hi_.out hz0 hz1 hz2 rfl (by decide) _ i _ rfl hH6.out ⟨w6.heap.size, 0, none⟩ 1 1 [.int .i64 5, .int .i64 0] rfl rfl hnews (by simp [Value.oneCell']) ?qa ?qb ?qc ?_)
    case qa => unfold maxLen; omega
    case qb => omega
    case qc => have := hsz6.out; (try simp only [World.size_alloc]); omega
    intro hv2 w7 hown7 hgrow7 hblk
    have hB7 : Hid (∃ us, Beh w2 w7 (.slice va a.length vc) bv2 hv2 a (i + 1) us) := ⟨_, Beh.halve hO6.out p0.out pE.out pH.out pB.out hown7 hgrow7 hblk⟩
    clear hO6 p0 pE pH pB hown7 hgrow7 hblk hH6 hnews hsz6
    go_wp2_with fail
    exact ⟨⟨i + 1, by omega, rfl, hB7⟩, by simp [intOf]; omega⟩
   ·
    have hno : decide ((i : Int) ≤ 5) = false := decide_eq_false (by omega)
    obtain rfl : i = 6 := by omega
    obtain ⟨g, cap, hq, _⟩ := own_cell hBe.own (j := 0) (u := us[0]!) (by have := hBe.len; rw [getElem!_pos us 0 (by omega)]; simp)
    cases hq
    obtain ⟨w4, hw4⟩ : ∃ w4, w4 = wr := ⟨_, rfl⟩
    subst hw4
    have hel : Hid (∀ j, j < 8 → ∃ (c : Option Addr) (n : Nat × Nat), us[j]! = .slice c n.1 n.2 ∧ w4.cell? ⟨g, j, none⟩ = some us[j]! ∧ StepsAt w4 w4.heap.size us[j]! (behindTo a j)) := fun j hj => by
     have hlen := hBe.len
     obtain ⟨g2, cap2, hq, _, hc⟩ := own_cell hBe.own (j := j) (u := us[j]!) (by rw [getElem!_pos us j (by omega)]; simp)
     cases hq
     by_cases h0 : j = 0
     ·
      subst h0
      rw [hBe.zero] at hc ⊢
      exact ⟨va, (a.length, vc), rfl, hc, hvw.out w4 (hb12.out.trans (hBe.below.mono hb12.out.size))⟩
     ·
      have hS := (hBe.els j (by omega) hj).1
      obtain ⟨x, c, e, _⟩ := StepsT.lenR hS
      exact ⟨x, (_, c), e, hc, stepsT_at3 hS⟩
    have hD4 : Hid (StepsT w4 (.slice da (normalA a).length dc) (normalA a)) := StepsT.belowR hD.out hBe.below
    have hb14 : Hid (Below w.heap.size w w4) := hb12.out.trans (hBe.below.mono hb12.out.size)
    have hst : Hid (∀ j, j < 0 → testC p a b j = false) := fun j hj => absurd hj (Nat.not_lt_zero j)
    have hgl : Hid (g < w4.heap.size) := (own_block hBe.own (g := g) (by simp [Value.ownBlock])).1
    have hbw := Lib.hid (Below.refl w4.heap.size w4)
    replace hBe := Lib.hid hBe
    go_wp2_with fail
    (try simp only [Nat.reduceAdd])
    (try rw [show ((6 : Nat) : Int) = 6 from rfl])
    go_loopw [12] (fun iv wr => ∃ i : Nat, i ≤ 8 ∧ iv = .int .i64 (i : Int) ∧ Hid (∀ j, j < i → testC p a b j = false) ∧ Hid (Below w4.heap.size w4 wr)) (fun iv _ => 8 - (intOf iv).toNat)
    case atStart => exact ⟨0, by omega, rfl, hst, hbw⟩
    case round =>
     obtain ⟨i, hi, rfl, heq, hb⟩ := hrel
     clear hst hbw
     by_cases hlt : i < 8
     ·
      have hyes : decide ((i : Int) < 8) = true := decide_eq_true (by omega)
      have hw1 : IntKind.i64.wrap ((i : Int) + 1) = (i : Int) + 1 := IntWalk.i64_in _ (by omega)
      have k0 : (0 : Int) ≤ (i : Int) := by omega
      have k1 : (i : Int) < 8 := by omega
      obtain ⟨c, ⟨n, m⟩, he, hc, hS⟩ := hel.out i hlt
      replace hc := (hb.out.cell (p := ⟨g, i, none⟩) hgl.out).trans hc
      have hbw4 := hb14.out.trans (hb.out.mono hb14.out.size)
      have hcm := Compose7_any p (.slice ua b.length uc) us[i]! b (behindTo a i) wr (huw.out wr hbw4) (hS.later hb.out)
      dsimp only at he
      rw [he] at hc hcm
      have htq := testC_eq p a b i
      have hxt := fun h => htest.out.2 ⟨i, hlt, h⟩
      have hxn : testC p a b i = false → ∀ j, j < i + 1 → testC p a b j = false := fun h j hj => by
       by_cases q : j = i
       ·
        rw [q]; exact h
       ·
        exact heq.out j (by omega)
      generalize testC p a b i = tb at *
      generalize composeA p b (behindTo a i) = C at *
      generalize (validA p b && validA p (behindTo a i)) = V at *
      replace hcm := Lib.hid hcm
      replace hbw4 := Lib.hid hbw4
      replace hxt := Lib.hid hxt
      replace hxn := Lib.hid hxn
      replace he := Lib.hid he
      cases V with
      | true =>
       rw [Bool.true_and] at htq
       have hcm2 := hcm.out
       rw [if_pos rfl] at hcm2
       replace hcm := Lib.hid hcm2
       clear hcm2
       replace htq := Lib.hid htq
       go_wp2_with fail
       refine hcm.out.mono ?_
       clear hcm
       rintro e w5 ⟨cv, rfl, hC, hb5⟩
       obtain ⟨xc, kc, rfl, _⟩ := StepsT.lenR hC
       have hsm := Same7_any (.slice xc C.length kc) (.slice da (normalA a).length dc) C (normalA a) w5 (stepsT_at3 hC) (stepsT_at3 (StepsT.belowR (StepsT.belowR hD4.out hb.out) hb5))
       rw [← htq.out] at hsm
       replace hsm := Lib.hid hsm
       replace hb5 := Lib.hid (hb.out.trans (hb5.mono hb.out.size))
       clear hC
       cases tb with
       | true =>
        obtain rfl : R = true := hxt.out rfl
        go_wp2_with fail
        refine hsm.out.mono ?_
        clear hsm
        rintro e w6 ⟨rfl, hb6⟩
        replace hb6 := Lib.hid (hb14.out.trans ((hb5.out.trans (hb6.mono hb5.out.size)).mono hb14.out.size))
        go_wp2_with fail
        go_ret
        exact ⟨rfl, hb6.out⟩
       | false =>
        have hn := Lib.hid (hxn.out rfl)
        go_wp2_with fail
        refine hsm.out.mono ?_
        clear hsm
        rintro e w6 ⟨rfl, hb6⟩
        replace hb6 := Lib.hid (hb5.out.trans (hb6.mono hb5.out.size))
        go_wp2_with fail
        exact ⟨⟨i + 1, by omega, rfl, hn, hb6⟩, by simp [intOf]; omega⟩
      | false =>
       rw [Bool.false_and] at htq
       have hcm2 := hcm.out
       rw [if_neg Bool.false_ne_true] at hcm2
       replace hcm := Lib.hid hcm2
       clear hcm2
       have hn := Lib.hid (hxn.out htq)
       replace htq := Lib.hid htq
       go_wp2_with fail
       refine hcm.out.mono ?_
       clear hcm
       rintro e w5 ⟨cv, rfl, hC, hb5⟩
       obtain ⟨xc, kc, rfl, _⟩ := StepsT.lenR hC
       have hsm := Same7_any (.slice xc C.length kc) (.slice da (normalA a).length dc) C (normalA a) w5 (stepsT_at3 hC) (stepsT_at3 (StepsT.belowR (StepsT.belowR hD4.out hb.out) hb5))
       replace hsm := Lib.hid hsm
       replace hb5 := Lib.hid (hb.out.trans (hb5.mono hb.out.size))
       clear hC
       go_wp2_with fail
       refine hsm.out.mono ?_
       clear hsm
       rintro e w6 ⟨rfl, hb6⟩
       replace hb6 := Lib.hid (hb5.out.trans (hb6.mono hb5.out.size))
       go_wp2_with fail
       exact ⟨⟨i + 1, by omega, rfl, hn, hb6⟩, by simp [intOf]; omega⟩
     ·
      have hno : decide ((i : Int) < 8) = false := decide_eq_false (by omega)
      obtain rfl : i = 8 := by omega
      obtain rfl : R = false := by
       rw [Bool.eq_false_iff]
       intro h
       obtain ⟨j, hj, hjt⟩ := htest.out.1 h
       rw [heq.out j hj] at hjt
       cases hjt
      have hbf := Lib.hid (hb14.out.trans (hb.out.mono hb14.out.size))
      go_wp2_with fail
      go_ret
      exact ⟨rfl, hbf.out⟩
end Go.Proofs.YtpeandbcdaikbaaGreatDoor
namespace Go.Proofs.YtpeandbcdaikbaaGreatDoor
open Go.RowKit Go.Shelf Go.Maps

attribute [local go_sem] Oper.semAt_some

set_option maxRecDepth 100000 in
set_option maxHeartbeats 4000000 in
theorem SameSteps9_any (v u : Value) (l m : List Stp) (w : World) (hv : StepsAt w w.heap.size v l) (hu : StepsAt w w.heap.size u m) :
  Calls Tryz.prog 100 #[v, u] w fun e w' => e = .returned (.bool (decide (l = m))) ∧ Below w.heap.size w w' := by
 have hc1 := Lib.hid fun i (hi : i < l.length) => StepsAt.cells hv hi
 have hc2 := Lib.hid fun i (hi : i < m.length) => StepsAt.cells hu hi
 have hne := run_ne_st
 obtain ⟨va, vc, rfl, _, hvm, _⟩ := hv
 obtain ⟨ua, uc, rfl, _, hum, _⟩ := hu
 obtain ⟨R, hR⟩ : ∃ R, decide (l = m) = R := ⟨_, rfl⟩
 rw [hR]
 replace hR := Lib.hid hR
 by_cases hl : l.length = m.length
 ·
  have hd : ((l.length : Int) == (m.length : Int)) = true := by rw [hl]; simp
  go_enter Tryz.func100, Tryz.ntmps100
  rw [← hl]
  rw [← hl] at hc2
  have hbw := Lib.hid (Below.refl w.heap.size w)
  have hst : Hid (∀ j, j < 0 → l[j]! = m[j]!) := fun j hj => absurd hj (Nat.not_lt_zero j)
  go_wp2_with fail
  go_loopw [5] (fun iv wr => ∃ i : Nat, i ≤ l.length ∧ iv = .int .i64 (i : Int) ∧ Hid (∀ j, j < i → l[j]! = m[j]!) ∧ Hid (Below w.heap.size w wr)) (fun iv _ => l.length - (intOf iv).toNat)
  case atStart => exact ⟨0, Nat.zero_le _, rfl, hst, hbw⟩
  case round =>
   obtain ⟨i, hi, rfl, heq, hb⟩ := hrel
   clear hst hbw
   by_cases hlt : i < l.length
   ·
    have hyes : decide ((i : Int) < (l.length : Int)) = true := decide_eq_true (by omega)
    have hw1 : IntKind.i64.wrap ((i : Int) + 1) = (i : Int) + 1 := IntWalk.i64_in _ (by unfold maxLen at hvm; omega)
    have k0 : (0 : Int) ≤ (i : Int) := by omega
    have k1 : (i : Int) < (l.length : Int) := by omega
    obtain ⟨b1, o1, c1, q1, l1, x1, x2⟩ := hc1.out i hlt
    obtain ⟨b2, o2, c2, q2, l2, y1, y2⟩ := hc2.out i (by omega)
    cases q1
    cases q2
    have X1 := (hb.out.cell (p := ⟨b1, o1 + i * 2, none⟩) l1).trans x1
    have X2 := (hb.out.cell (p := ⟨b1, o1 + i * 2 + 1, none⟩) l1).trans x2
    have Y1 := (hb.out.cell (p := ⟨b2, o2 + i * 2, none⟩) l2).trans y1
    have Y2 := (hb.out.cell (p := ⟨b2, o2 + i * 2 + 1, none⟩) l2).trans y2
    have hnn := fun W => hne l[i]! m[i]! W
    have hsb := stB_iff l[i]! m[i]!
    generalize hx : l[i]! = x at *
    generalize hy : m[i]! = y at *
    obtain ⟨xk, xn⟩ := x
    obtain ⟨yk, yn⟩ := y
    dsimp only [stC] at hnn X1 X2 Y1 Y2
    clear x1 x2 y1 y2 hne hc1 hc2
    replace hx := Lib.hid hx
    replace hy := Lib.hid hy
    generalize stB ⟨xk, xn⟩ ⟨yk, yn⟩ = sb at *
    replace hsb := Lib.hid hsb
    go_wp2_with fail
    go_quiet (fail)
    have hbq := Lib.hid (hb.out.trans ((below_drewN (Below.refl wr.heap.size wr) nq).mono hb.out.size))
    cases sb with
    | true =>
     have hn : Hid (∀ j, j < i + 1 → l[j]! = m[j]!) := fun j hj => by
      by_cases e : j = i
      ·
       subst e
       rw [hx.out, hy.out]
       exact hsb.out.1 rfl
      ·
       exact heq.out j (by omega)
     go_wp2_with fail
     exact ⟨⟨i + 1, by omega, rfl, hn, hbq⟩, by simp [intOf]; omega⟩
    | false =>
     obtain rfl : R = false := by
      rw [← hR.out]
      refine decide_eq_false fun e => ?_
      have : (⟨xk, xn⟩ : Stp) = ⟨yk, yn⟩ := by rw [← hx.out, ← hy.out, e]
      exact Bool.false_ne_true (hsb.out.2 this)
     go_wp2_with fail
     go_ret
     exact ⟨rfl, hbq.out⟩
   ·
    have hno : decide ((i : Int) < (l.length : Int)) = false := decide_eq_false (by omega)
    obtain rfl : i = l.length := by omega
    obtain rfl : R = true := by
     rw [← hR.out]
     refine decide_eq_true (List.ext_getElem hl fun j h1 h2 => ?_)
     have := heq.out j h1
     rwa [getElem!_pos l j h1, getElem!_pos m j h2] at this
    go_wp2_with fail
    go_ret
    exact ⟨rfl, hb.out⟩
 ·
  have hd : ((l.length : Int) == (m.length : Int)) = false := beq_false_of_ne (by omega)
  have hd2 : decide ((l.length : Int) = (m.length : Int)) = false := decide_eq_false (by omega)
  have hd3 : decide (l.length = m.length) = false := decide_eq_false hl
  obtain rfl : R = false := by
   rw [← hR.out]
   exact decide_eq_false fun e => hl (by rw [e])
  replace hl := Lib.hid hl
  go_enter Tryz.func100, Tryz.ntmps100
  go_wp2_with fail
  go_ret
  exact ⟨rfl, Below.refl _ _⟩
theorem id9_any (n : Int) (r : Bool) (hr : isIdM n = r) (w : World) :
  Calls Tryz.prog 68 #[.int .i64 n] w fun e w' => e = .returned (.bool r) ∧ w' = w := by
 subst hr
 unfold isIdM
 by_cases h1 : 1 ≤ n
 ·
  have e1 : decide (n ≥ 1) = true := decide_eq_true h1
  have e2 : decide (1 ≤ n) = true := decide_eq_true h1
  rw [Bool.decide_and, e2, Bool.true_and]
  replace h1 := Lib.hid h1
  generalize hd : decide (n ≤ 1000000) = d at *
  go_enter Tryz.func68, Tryz.ntmps68
  go_wp2_with fail
  go_ret
  first | exact ⟨by rw [hd], rfl⟩ | exact ⟨rfl, rfl⟩
 ·
  have e1 : decide (n ≥ 1) = false := decide_eq_false h1
  have e2 : decide (1 ≤ n) = false := decide_eq_false h1
  rw [Bool.decide_and, e2, Bool.false_and]
  replace h1 := Lib.hid h1
  go_enter Tryz.func68, Tryz.ntmps68
  go_wp2_with fail
  go_ret
  exact ⟨rfl, rfl⟩
theorem lost9_any (v : Value) (l : List Stp) (w : World) (hv : StepsAt w w.heap.size v l) :
  Calls Tryz.prog 101 #[v] w fun e w' => e = .returned (.bool (decide (l = [⟨6, 0⟩]))) ∧ w' = w := by
 have hc1 := Lib.hid fun i (hi : i < l.length) => StepsAt.cells hv hi
 obtain ⟨va, vc, rfl, _, hvm, _⟩ := hv
 obtain ⟨R, hR⟩ : ∃ R, decide (l = [⟨6, 0⟩]) = R := ⟨_, rfl⟩
 rw [hR]
 replace hR := Lib.hid hR
 by_cases h1 : l.length = 1
 ·
  obtain ⟨⟨k, n⟩, rfl⟩ := List.length_eq_one_iff.1 h1
  obtain ⟨b1, o1, c1, q1, l1, x1, x2⟩ := hc1.out 0 (by simp)
  cases q1
  change w.cell? _ = some (.int .i64 k) at x1
  change w.cell? _ = some (.int .i64 n) at x2
  rw [Nat.zero_mul, Nat.add_zero] at x1 x2
  clear hc1 h1
  by_cases hk : k = 6
  ·
   subst hk
   by_cases hn : n = 0
   ·
    subst hn
    obtain rfl : R = true := by rw [← hR.out]; exact decide_eq_true rfl
    go_enter Tryz.func101, Tryz.ntmps101
    go_wp2_with fail
    go_ret
    exact ⟨rfl, rfl⟩
   ·
    have e1 : (n == 0) = false := beq_false_of_ne hn
    have e2 : decide (n = 0) = false := decide_eq_false hn
    obtain rfl : R = false := by rw [← hR.out]; exact decide_eq_false (by simpa using hn)
    replace hn := Lib.hid hn
    go_enter Tryz.func101, Tryz.ntmps101
    go_wp2_with fail
    go_ret
    exact ⟨rfl, rfl⟩
  ·
   have e1 : (k == 6) = false := beq_false_of_ne hk
   have e2 : decide (k = 6) = false := decide_eq_false hk
   obtain rfl : R = false := by rw [← hR.out]; exact decide_eq_false (fun h => hk (by injection h with h _; injection h))
   replace hk := Lib.hid hk
   go_enter Tryz.func101, Tryz.ntmps101
   go_wp2_with fail
   go_ret
   exact ⟨rfl, rfl⟩
 ·
  have e1 : ((l.length : Int) == 1) = false := beq_false_of_ne (by omega)
  have e2 : decide ((l.length : Int) = 1) = false := decide_eq_false (by omega)
  have e3 : decide (l.length = 1) = false := decide_eq_false h1
  obtain rfl : R = false := by rw [← hR.out]; exact decide_eq_false (fun h => h1 (by rw [h]; rfl))
  replace h1 := Lib.hid h1
  go_enter Tryz.func101, Tryz.ntmps101
  go_wp2_with fail
  go_ret
  exact ⟨rfl, rfl⟩
set_option maxRecDepth 100000 in
set_option maxHeartbeats 4000000 in
theorem keep9_any (p : Int) (l : List Stp) (v : Value) (w : World) (hv : StepsAt w w.heap.size v l) :
  Calls Tryz.prog 69 #[.agg #[.int .i64 p, v]] w fun e w' => e = .returned (.bool (isKeepM (p, l))) ∧ Below w.heap.size w w' := by
 have hnr := Lib.hid fun W (hW : Below w.heap.size w W) => Normal7_any p v l W (hv.later hW)
 have hvw := Lib.hid fun W (hW : Below w.heap.size w W) => hv.later hW
 obtain ⟨va, vc, rfl, _, hvm, _⟩ := hv
 obtain ⟨R, hR⟩ : ∃ R, isKeepM (p, l) = R := ⟨_, rfl⟩
 rw [hR]
 unfold isKeepM at hR
 (try dsimp only [Kp.prop, Kp.steps] at hR)
 obtain ⟨W, hW⟩ : ∃ W, W = w.alloc (.cells #[.int .i64 p, .slice va l.length vc] 104) := ⟨_, rfl⟩
 have hA : Arr W w.heap.size 104 [.int .i64 p, .slice va l.length vc] := by rw [hW]; exact Arr.new rfl rfl
 have hbW : Below w.heap.size w W := by rw [hW]; exact (Below.refl _ _).alloc (Nat.le_refl _) _
 have c0 := hA.cell (j := 0) rfl
 have c1 := hA.cell (j := 1) rfl
 have hnm := Lib.hid (hnr.out W hbW)
 replace hA := Lib.hid hA
 replace hbW := Lib.hid hbW
 by_cases hk : p = 1 ∨ p = 2 ∨ p = 3 ∨ p = 4 ∨ p = 7
 ·
  by_cases hl : l = []
  ·
   have h0 : l.length = 0 := by rw [hl]; rfl
   have e1 : ((l.length : Int) == 0) = true := by rw [h0]; rfl
   have e2 : decide ((l.length : Int) = 0) = true := decide_eq_true (by omega)
   have e3 : decide (l.length = 0) = true := decide_eq_true h0
   obtain rfl : R = false := by rw [← hR]; simp [hl]
   replace h0 := Lib.hid h0
   replace hl := Lib.hid hl
   replace hR := Lib.hid hR
   obtain rfl | rfl | rfl | rfl | rfl := hk
   ·
    go_enter Tryz.func69, Tryz.ntmps69
    go_upto_region 1 with fail
    rw [← hW]
    clear hW
    go_wp2_with fail
    go_ret
    exact ⟨rfl, hbW.out⟩
   ·
    go_enter Tryz.func69, Tryz.ntmps69
    go_upto_region 1 with fail
    rw [← hW]
    clear hW
    go_wp2_with fail
    go_ret
    exact ⟨rfl, hbW.out⟩
   ·
    go_enter Tryz.func69, Tryz.ntmps69
    go_upto_region 1 with fail
    rw [← hW]
    clear hW
    go_wp2_with fail
    go_ret
    exact ⟨rfl, hbW.out⟩
   ·
    go_enter Tryz.func69, Tryz.ntmps69
    go_upto_region 1 with fail
    rw [← hW]
    clear hW
    go_wp2_with fail
    go_ret
    exact ⟨rfl, hbW.out⟩
   ·
    go_enter Tryz.func69, Tryz.ntmps69
    go_upto_region 1 with fail
    rw [← hW]
    clear hW
    go_wp2_with fail
    go_ret
    exact ⟨rfl, hbW.out⟩
  ·
   have h0 : l.length ≠ 0 := fun e => hl (List.eq_nil_of_length_eq_zero e)
   have e1 : ((l.length : Int) == 0) = false := beq_false_of_ne (by omega)
   have e2 : decide ((l.length : Int) = 0) = false := decide_eq_false (by omega)
   have e3 : decide (l.length = 0) = false := decide_eq_false h0
   rw [decide_eq_true hl, Bool.and_true] at hR
   have hss := Lib.hid fun W nv (hN : StepsT W nv (normR p l)) (hW : Below w.heap.size w W) => SameSteps9_any nv (.slice va l.length vc) (normR p l) l W (stepsT_at3 hN) (hvw.out W hW)
   have hls := Lib.hid fun W (hW : Below w.heap.size w W) => lost9_any (.slice va l.length vc) l W (hvw.out W hW)
   have hnd : normR p l = if validA p l then normalA l else [] := rfl
   generalize validA p l = V at *
   have hV : Hid (V = true → normR p l = normalA l) := fun h => by rw [hnd, if_pos h]
   generalize normR p l = NR at *
   generalize decide (l = [⟨6, 0⟩]) = Lo at *
   replace hnd := Lib.hid hnd
   replace h0 := Lib.hid h0
   replace hl := Lib.hid hl
   replace hR := Lib.hid hR
   obtain rfl | rfl | rfl | rfl | rfl := hk
   ·
    go_enter Tryz.func69, Tryz.ntmps69
    go_upto_region 1 with fail
    rw [← hW]
    clear hW
    cases V with
    | false =>
     obtain rfl : R = false := by rw [← hR.out]; simp
     have hnm2 := hnm.out
     rw [if_neg Bool.false_ne_true] at hnm2
     replace hnm := Lib.hid hnm2
     clear hnm2
     go_wp2_with fail
     refine hnm.out.mono ?_
     clear hnm
     rintro e w1 ⟨nv, rfl, hN, hb1⟩
     have c0' := (hA.out.below hb1).cell (j := 0) rfl
     have c1' := (hA.out.below hb1).cell (j := 1) rfl
     replace hb1 := hbW.out.trans (hb1.mono hbW.out.size)
     have hsm := Lib.hid (hss.out w1 nv hN hb1)
     obtain ⟨na, nc, rfl, _⟩ := StepsT.lenR hN
     generalize decide (NR = l) = sm at *
     clear hN c0 c1
     replace hb1 := Lib.hid hb1
     go_wp2_with fail
     refine hsm.out.mono ?_
     clear hsm
     rintro e w2 ⟨rfl, hb2⟩
     have hbf := Lib.hid (hb1.out.trans (hb2.mono hb1.out.size))
     clear c0' c1'
     go_wp2_with fail
     go_ret
     exact ⟨rfl, hbf.out⟩
    | true =>
     have hnm2 := hnm.out
     rw [if_pos rfl] at hnm2
     replace hnm := Lib.hid hnm2
     clear hnm2
     have hRq := hR.out
     rw [← hV.out rfl] at hRq
     go_wp2_with fail
     refine hnm.out.mono ?_
     clear hnm
     rintro e w1 ⟨nv, rfl, hN, hb1⟩
     have c0' := (hA.out.below hb1).cell (j := 0) rfl
     have c1' := (hA.out.below hb1).cell (j := 1) rfl
     have hA1 := Lib.hid (hA.out.below hb1)
     replace hb1 := hbW.out.trans (hb1.mono hbW.out.size)
     have hsm := Lib.hid (hss.out w1 nv hN hb1)
     obtain ⟨na, nc, rfl, _⟩ := StepsT.lenR hN
     generalize decide (NR = l) = sm at *
     clear hN c0 c1
     replace hRq := Lib.hid hRq
     replace hb1 := Lib.hid hb1
     go_wp2_with fail
     refine hsm.out.mono ?_
     clear hsm
     rintro e w2 ⟨rfl, hb2⟩
     have c1q := (hA1.out.below hb2).cell (j := 1) rfl
     have hbf := Lib.hid (hb1.out.trans (hb2.mono hb1.out.size))
     clear c0' c1'
     cases sm with
     | false =>
      obtain rfl : R = false := by rw [← hRq.out]; simp
      go_wp2_with fail
      go_ret
      exact ⟨rfl, hbf.out⟩
     | true =>
      obtain rfl : R = true := by rw [← hRq.out]; simp
      go_wp2_with fail
      go_ret
      exact ⟨rfl, hbf.out⟩
   ·
    go_enter Tryz.func69, Tryz.ntmps69
    go_upto_region 1 with fail
    rw [← hW]
    clear hW
    cases V with
    | false =>
     obtain rfl : R = false := by rw [← hR.out]; simp
     have hnm2 := hnm.out
     rw [if_neg Bool.false_ne_true] at hnm2
     replace hnm := Lib.hid hnm2
     clear hnm2
     go_wp2_with fail
     refine hnm.out.mono ?_
     clear hnm
     rintro e w1 ⟨nv, rfl, hN, hb1⟩
     have c0' := (hA.out.below hb1).cell (j := 0) rfl
     have c1' := (hA.out.below hb1).cell (j := 1) rfl
     replace hb1 := hbW.out.trans (hb1.mono hbW.out.size)
     have hsm := Lib.hid (hss.out w1 nv hN hb1)
     obtain ⟨na, nc, rfl, _⟩ := StepsT.lenR hN
     generalize decide (NR = l) = sm at *
     clear hN c0 c1
     replace hb1 := Lib.hid hb1
     go_wp2_with fail
     refine hsm.out.mono ?_
     clear hsm
     rintro e w2 ⟨rfl, hb2⟩
     have hbf := Lib.hid (hb1.out.trans (hb2.mono hb1.out.size))
     clear c0' c1'
     go_wp2_with fail
     go_ret
     exact ⟨rfl, hbf.out⟩
    | true =>
     have hnm2 := hnm.out
     rw [if_pos rfl] at hnm2
     replace hnm := Lib.hid hnm2
     clear hnm2
     have hRq := hR.out
     rw [← hV.out rfl] at hRq
     go_wp2_with fail
     refine hnm.out.mono ?_
     clear hnm
     rintro e w1 ⟨nv, rfl, hN, hb1⟩
     have c0' := (hA.out.below hb1).cell (j := 0) rfl
     have c1' := (hA.out.below hb1).cell (j := 1) rfl
     have hA1 := Lib.hid (hA.out.below hb1)
     replace hb1 := hbW.out.trans (hb1.mono hbW.out.size)
     have hsm := Lib.hid (hss.out w1 nv hN hb1)
     obtain ⟨na, nc, rfl, _⟩ := StepsT.lenR hN
     generalize decide (NR = l) = sm at *
     clear hN c0 c1
     replace hRq := Lib.hid hRq
     replace hb1 := Lib.hid hb1
     go_wp2_with fail
     refine hsm.out.mono ?_
     clear hsm
     rintro e w2 ⟨rfl, hb2⟩
     have c1q := (hA1.out.below hb2).cell (j := 1) rfl
     have hbf := Lib.hid (hb1.out.trans (hb2.mono hb1.out.size))
     clear c0' c1'
     cases sm with
     | false =>
      obtain rfl : R = false := by rw [← hRq.out]; simp
      go_wp2_with fail
      go_ret
      exact ⟨rfl, hbf.out⟩
     | true =>
      obtain rfl : R = true := by rw [← hRq.out]; simp
      go_wp2_with fail
      go_ret
      exact ⟨rfl, hbf.out⟩
   ·
    go_enter Tryz.func69, Tryz.ntmps69
    go_upto_region 1 with fail
    rw [← hW]
    clear hW
    cases V with
    | false =>
     obtain rfl : R = false := by rw [← hR.out]; simp
     have hnm2 := hnm.out
     rw [if_neg Bool.false_ne_true] at hnm2
     replace hnm := Lib.hid hnm2
     clear hnm2
     go_wp2_with fail
     refine hnm.out.mono ?_
     clear hnm
     rintro e w1 ⟨nv, rfl, hN, hb1⟩
     have c0' := (hA.out.below hb1).cell (j := 0) rfl
     have c1' := (hA.out.below hb1).cell (j := 1) rfl
     replace hb1 := hbW.out.trans (hb1.mono hbW.out.size)
     have hsm := Lib.hid (hss.out w1 nv hN hb1)
     obtain ⟨na, nc, rfl, _⟩ := StepsT.lenR hN
     generalize decide (NR = l) = sm at *
     clear hN c0 c1
     replace hb1 := Lib.hid hb1
     go_wp2_with fail
     refine hsm.out.mono ?_
     clear hsm
     rintro e w2 ⟨rfl, hb2⟩
     have hbf := Lib.hid (hb1.out.trans (hb2.mono hb1.out.size))
     clear c0' c1'
     go_wp2_with fail
     go_ret
     exact ⟨rfl, hbf.out⟩
    | true =>
     have hnm2 := hnm.out
     rw [if_pos rfl] at hnm2
     replace hnm := Lib.hid hnm2
     clear hnm2
     have hRq := hR.out
     rw [← hV.out rfl] at hRq
     go_wp2_with fail
     refine hnm.out.mono ?_
     clear hnm
     rintro e w1 ⟨nv, rfl, hN, hb1⟩
     have c0' := (hA.out.below hb1).cell (j := 0) rfl
     have c1' := (hA.out.below hb1).cell (j := 1) rfl
     have hA1 := Lib.hid (hA.out.below hb1)
     replace hb1 := hbW.out.trans (hb1.mono hbW.out.size)
     have hsm := Lib.hid (hss.out w1 nv hN hb1)
     obtain ⟨na, nc, rfl, _⟩ := StepsT.lenR hN
     generalize decide (NR = l) = sm at *
     clear hN c0 c1
     replace hRq := Lib.hid hRq
     replace hb1 := Lib.hid hb1
     go_wp2_with fail
     refine hsm.out.mono ?_
     clear hsm
     rintro e w2 ⟨rfl, hb2⟩
     have c1q := (hA1.out.below hb2).cell (j := 1) rfl
     have hbf := Lib.hid (hb1.out.trans (hb2.mono hb1.out.size))
     clear c0' c1'
     cases sm with
     | false =>
      obtain rfl : R = false := by rw [← hRq.out]; simp
      go_wp2_with fail
      go_ret
      exact ⟨rfl, hbf.out⟩
     | true =>
      obtain rfl : R = true := by rw [← hRq.out]; simp
      go_wp2_with fail
      go_ret
      exact ⟨rfl, hbf.out⟩
   ·
    go_enter Tryz.func69, Tryz.ntmps69
    go_upto_region 1 with fail
    rw [← hW]
    clear hW
    cases V with
    | false =>
     obtain rfl : R = false := by rw [← hR.out]; simp
     have hnm2 := hnm.out
     rw [if_neg Bool.false_ne_true] at hnm2
     replace hnm := Lib.hid hnm2
     clear hnm2
     go_wp2_with fail
     refine hnm.out.mono ?_
     clear hnm
     rintro e w1 ⟨nv, rfl, hN, hb1⟩
     have c0' := (hA.out.below hb1).cell (j := 0) rfl
     have c1' := (hA.out.below hb1).cell (j := 1) rfl
     replace hb1 := hbW.out.trans (hb1.mono hbW.out.size)
     have hsm := Lib.hid (hss.out w1 nv hN hb1)
     obtain ⟨na, nc, rfl, _⟩ := StepsT.lenR hN
     generalize decide (NR = l) = sm at *
     clear hN c0 c1
     replace hb1 := Lib.hid hb1
     go_wp2_with fail
     refine hsm.out.mono ?_
     clear hsm
     rintro e w2 ⟨rfl, hb2⟩
     have hbf := Lib.hid (hb1.out.trans (hb2.mono hb1.out.size))
     clear c0' c1'
     go_wp2_with fail
     go_ret
     exact ⟨rfl, hbf.out⟩
    | true =>
     have hnm2 := hnm.out
     rw [if_pos rfl] at hnm2
     replace hnm := Lib.hid hnm2
     clear hnm2
     have hRq := hR.out
     rw [← hV.out rfl] at hRq
     go_wp2_with fail
     refine hnm.out.mono ?_
     clear hnm
     rintro e w1 ⟨nv, rfl, hN, hb1⟩
     have c0' := (hA.out.below hb1).cell (j := 0) rfl
     have c1' := (hA.out.below hb1).cell (j := 1) rfl
     have hA1 := Lib.hid (hA.out.below hb1)
     replace hb1 := hbW.out.trans (hb1.mono hbW.out.size)
     have hsm := Lib.hid (hss.out w1 nv hN hb1)
     obtain ⟨na, nc, rfl, _⟩ := StepsT.lenR hN
     generalize decide (NR = l) = sm at *
     clear hN c0 c1
     replace hRq := Lib.hid hRq
     replace hb1 := Lib.hid hb1
     go_wp2_with fail
     refine hsm.out.mono ?_
     clear hsm
     rintro e w2 ⟨rfl, hb2⟩
     have c1q := (hA1.out.below hb2).cell (j := 1) rfl
     have hbf := Lib.hid (hb1.out.trans (hb2.mono hb1.out.size))
     clear c0' c1'
     cases sm with
     | false =>
      obtain rfl : R = false := by rw [← hRq.out]; simp
      go_wp2_with fail
      go_ret
      exact ⟨rfl, hbf.out⟩
     | true =>
      obtain rfl : R = Lo := by rw [← hRq.out]; simp
      have hlo := Lib.hid (hls.out w2 hbf.out)
      go_wp2_with fail
      refine hlo.out.mono ?_
      clear hlo
      rintro e w3 ⟨rfl, rfl⟩
      go_wp2_with fail
      go_ret
      exact ⟨rfl, hbf.out⟩
   ·
    go_enter Tryz.func69, Tryz.ntmps69
    go_upto_region 1 with fail
    rw [← hW]
    clear hW
    cases V with
    | false =>
     obtain rfl : R = false := by rw [← hR.out]; simp
     have hnm2 := hnm.out
     rw [if_neg Bool.false_ne_true] at hnm2
     replace hnm := Lib.hid hnm2
     clear hnm2
     go_wp2_with fail
     refine hnm.out.mono ?_
     clear hnm
     rintro e w1 ⟨nv, rfl, hN, hb1⟩
     have c0' := (hA.out.below hb1).cell (j := 0) rfl
     have c1' := (hA.out.below hb1).cell (j := 1) rfl
     replace hb1 := hbW.out.trans (hb1.mono hbW.out.size)
     have hsm := Lib.hid (hss.out w1 nv hN hb1)
     obtain ⟨na, nc, rfl, _⟩ := StepsT.lenR hN
     generalize decide (NR = l) = sm at *
     clear hN c0 c1
     replace hb1 := Lib.hid hb1
     go_wp2_with fail
     refine hsm.out.mono ?_
     clear hsm
     rintro e w2 ⟨rfl, hb2⟩
     have hbf := Lib.hid (hb1.out.trans (hb2.mono hb1.out.size))
     clear c0' c1'
     go_wp2_with fail
     go_ret
     exact ⟨rfl, hbf.out⟩
    | true =>
     have hnm2 := hnm.out
     rw [if_pos rfl] at hnm2
     replace hnm := Lib.hid hnm2
     clear hnm2
     have hRq := hR.out
     rw [← hV.out rfl] at hRq
     go_wp2_with fail
     refine hnm.out.mono ?_
     clear hnm
     rintro e w1 ⟨nv, rfl, hN, hb1⟩
     have c0' := (hA.out.below hb1).cell (j := 0) rfl
     have c1' := (hA.out.below hb1).cell (j := 1) rfl
     have hA1 := Lib.hid (hA.out.below hb1)
     replace hb1 := hbW.out.trans (hb1.mono hbW.out.size)
     have hsm := Lib.hid (hss.out w1 nv hN hb1)
     obtain ⟨na, nc, rfl, _⟩ := StepsT.lenR hN
     generalize decide (NR = l) = sm at *
     clear hN c0 c1
     replace hRq := Lib.hid hRq
     replace hb1 := Lib.hid hb1
     go_wp2_with fail
     refine hsm.out.mono ?_
     clear hsm
     rintro e w2 ⟨rfl, hb2⟩
     have c1q := (hA1.out.below hb2).cell (j := 1) rfl
     have hbf := Lib.hid (hb1.out.trans (hb2.mono hb1.out.size))
     clear c0' c1'
     cases sm with
     | false =>
      obtain rfl : R = false := by rw [← hRq.out]; simp
      go_wp2_with fail
      go_ret
      exact ⟨rfl, hbf.out⟩
     | true =>
      obtain rfl : R = true := by rw [← hRq.out]; simp
      go_wp2_with fail
      go_ret
      exact ⟨rfl, hbf.out⟩
 ·
  have n1 : p ≠ 1 ∧ p ≠ 2 ∧ p ≠ 3 ∧ p ≠ 4 ∧ p ≠ 7 := by omega
  obtain ⟨n1, n2, n3, n4, n7⟩ := n1
  have f1 : (p != 1) = true := bne_iff_ne.2 n1
  have g1 : (p == 1) = false := beq_false_of_ne n1
  have d1 : decide (p = 1) = false := decide_eq_false n1
  have f2 : (p != 2) = true := bne_iff_ne.2 n2
  have g2 : (p == 2) = false := beq_false_of_ne n2
  have d2 : decide (p = 2) = false := decide_eq_false n2
  have f3 : (p != 3) = true := bne_iff_ne.2 n3
  have g3 : (p == 3) = false := beq_false_of_ne n3
  have d3 : decide (p = 3) = false := decide_eq_false n3
  have f4 : (p != 4) = true := bne_iff_ne.2 n4
  have g4 : (p == 4) = false := beq_false_of_ne n4
  have d4 : decide (p = 4) = false := decide_eq_false n4
  have f7 : (p != 7) = true := bne_iff_ne.2 n7
  have g7 : (p == 7) = false := beq_false_of_ne n7
  have d7 : decide (p = 7) = false := decide_eq_false n7
  obtain rfl : R = false := by rw [← hR]; simp [n1, n2, n3, n4, n7]
  replace hR := Lib.hid hR
  replace hk := Lib.hid hk
  replace n1 := Lib.hid n1
  replace n2 := Lib.hid n2
  replace n3 := Lib.hid n3
  replace n4 := Lib.hid n4
  replace n7 := Lib.hid n7
  go_enter Tryz.func69, Tryz.ntmps69
  go_upto_region 1 with fail
  rw [← hW]
  clear hW
  go_wp2_with fail
  go_ret
  exact ⟨rfl, hbW.out⟩
end Go.Proofs.YtpeandbcdaikbaaGreatDoor
