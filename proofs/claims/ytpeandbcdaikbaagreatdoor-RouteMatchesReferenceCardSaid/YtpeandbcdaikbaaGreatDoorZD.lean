/-
 Routes of chapter 11: the reference's within, Valid, Steps and lives (routes).
 Routes of chapter 11: what the reference's Of has made so far.
-/
import Derived.Test.YtpeandbcdaikbaaGreatDoorZC
namespace Go.Proofs.YtpeandbcdaikbaaGreatDoor
open Go.RowKit Go.Shelf Go.Maps

attribute [local go_sem] Oper.semAt_some

theorem within11_any (n a b : Int) (r : Bool) (hr : r = (decide (a ≤ n) && decide (n ≤ b))) (w : World) :
  Calls Tryz.prog 40 #[.int .i64 n, .int .i64 a, .int .i64 b] w fun e w' => e = .returned (.bool r) ∧ w' = w := by
 subst hr
 by_cases h1 : a ≤ n
 ·
  have e1 : decide (n ≥ a) = true := decide_eq_true h1
  have e2 : decide (a ≤ n) = true := decide_eq_true h1
  rw [e2, Bool.true_and]
  replace h1 := Lib.hid h1
  generalize hd : decide (n ≤ b) = d at *
  go_enter Tryz.func40, Tryz.ntmps40
  go_wp2_with fail
  go_ret
  first | exact ⟨by rw [hd], rfl⟩ | exact ⟨rfl, rfl⟩
 ·
  have e1 : decide (n ≥ a) = false := decide_eq_false h1
  have e2 : decide (a ≤ n) = false := decide_eq_false h1
  rw [e2, Bool.false_and]
  replace h1 := Lib.hid h1
  go_enter Tryz.func40, Tryz.ntmps40
  go_wp2_with fail
  go_ret
  exact ⟨rfl, rfl⟩
theorem edges_ok_false {l : List Edg} {i : Nat} (hi : i < l.length) (h : okE l[i]! = false) : validE l = false := by
 rw [Bool.eq_false_iff]
 intro hv
 have := (validE_parts hv).2 l[i]! (by rw [getElem!_pos l i hi]; exact List.getElem_mem hi)
 rw [h] at this
 cases this
theorem validE_len {l : List Edg} (h : ∀ j, j < l.length → okE l[j]! = true) : validE l = decide (l.length ≤ 40) := by
 have ha : l.all okE = true := by
  rw [List.all_eq_true]
  intro e he
  obtain ⟨i, hi, rfl⟩ := List.mem_iff_getElem.1 he
  have := h i hi
  rwa [getElem!_pos l i hi] at this
 show (decide (l.length ≤ 40) && l.all okE) = _
 rw [ha, Bool.and_true]
set_option maxRecDepth 100000 in
set_option maxHeartbeats 8000000 in
theorem Valid11_any (v : Value) (l : List Edg) (w : World) (hv : EdgesAt w w.heap.size v l) :
  Calls Tryz.prog 16 #[v] w fun e w' => e = .returned (.bool (validE l)) ∧ Below w.heap.size w w' := by
 have hcell := Lib.hid fun i (hi : i < l.length) => EdgesAt.cells hv hi
 obtain ⟨vs, _, ⟨a, c, rfl, _, hn2, _⟩, _⟩ := hv
 obtain ⟨R, hR⟩ : ∃ R, validE l = R := ⟨_, rfl⟩
 rw [hR]
 replace hR := Lib.hid hR
 have hst : Hid (∀ j, j < 0 → okE l[j]! = true) := fun j hj => absurd hj (Nat.not_lt_zero j)
 have hbw := Lib.hid (Below.refl w.heap.size w)
 go_enter Tryz.func16, Tryz.ntmps16
 go_wp2_with fail
 go_loopw [3] (fun iv wr => ∃ i : Nat, i ≤ l.length ∧ iv = .int .i64 (i : Int) ∧ Hid (∀ j, j < i → okE l[j]! = true) ∧ Hid (Below w.heap.size w wr)) (fun iv _ => l.length - (intOf iv).toNat)
 case atStart => exact ⟨0, Nat.zero_le _, rfl, hst, hbw⟩
 case round =>
  obtain ⟨i, hi, rfl, heq, hb⟩ := hrel
  clear hst hbw
  by_cases hlt : i < l.length
  ·
   have hyes : decide ((i : Int) < (l.length : Int)) = true := decide_eq_true (by omega)
   have hw1 : IntKind.i64.wrap ((i : Int) + 1) = (i : Int) + 1 := IntWalk.i64_in _ (by unfold maxLen at hn2; omega)
   have k0 : (0 : Int) ≤ (i : Int) := by omega
   have k1 : (i : Int) < (l.length : Int) := by omega
   obtain ⟨b1, o1, cp, u, hv1, hbl, z0, z1, z2, z3, z4, z5, z6, hk⟩ := hcell.out i hlt
   cases hv1
   have hkw := hk.later hb.out
   obtain ⟨ku, kn, kc, rfl⟩ : ∃ a n c, u = .slice a n c := by
    obtain ⟨_, _, ⟨a, c, e, _⟩, _⟩ := hk
    exact ⟨a, _, c, e⟩
   replace z0 := (hb.out.cell (p := ⟨b1, o1 + i * 7, none⟩) hbl).trans z0
   replace z1 := (hb.out.cell (p := ⟨b1, o1 + i * 7 + 1, none⟩) hbl).trans z1
   replace z2 : wr.cell? ⟨b1, o1 + i * 7 + 2, none⟩ = some (.int .i64 l[i]!.does.id) := (hb.out.cell (p := ⟨b1, o1 + i * 7 + 2, none⟩) hbl).trans z2
   replace z3 : wr.cell? ⟨b1, o1 + i * 7 + 2 + 1, none⟩ = some (.int .i64 l[i]!.does.frm) := (hb.out.cell (p := ⟨b1, o1 + i * 7 + 3, none⟩) hbl).trans z3
   replace z4 : wr.cell? ⟨b1, o1 + i * 7 + 2 + 2, none⟩ = some (.int .i64 l[i]!.does.to) := (hb.out.cell (p := ⟨b1, o1 + i * 7 + 4, none⟩) hbl).trans z4
   replace z5 : wr.cell? ⟨b1, o1 + i * 7 + 2 + 3, none⟩ = some (.bool l[i]!.does.back) := (hb.out.cell (p := ⟨b1, o1 + i * 7 + 5, none⟩) hbl).trans z5
   replace z6 : wr.cell? ⟨b1, o1 + i * 7 + 2 + 4, none⟩ = some (.slice ku kn kc) := (hb.out.cell (p := ⟨b1, o1 + i * 7 + 6, none⟩) hbl).trans z6
   have hva := mValid9_any l[i]!.does _ wr hkw
   have hxn : okE l[i]! = true → ∀ j, j < i + 1 → okE l[j]! = true := fun h j hj => by
    by_cases q : j = i
    ·
     rw [q]; exact h
    ·
     exact heq.out j (by omega)
   have hxf : okE l[i]! = false → R = false := fun h => by rw [← hR.out]; exact edges_ok_false hlt h
   have hok : okE l[i]! = (decide (0 ≤ l[i]!.cost ∧ l[i]!.cost ≤ 1000000) && decide (0 ≤ l[i]!.until_ ∧ l[i]!.until_ ≤ 100000) && validM l[i]!.does) := rfl
   generalize okE l[i]! = OK at *
   generalize validM l[i]!.does = VM at *
   generalize hx : l[i]! = x at *
   obtain ⟨cost, until_, ⟨id, frm, tg, back, keep⟩⟩ := x
   dsimp only at z0 z1 z2 z3 z4 z5 hva hok
   have hwc := Lib.hid fun W => within11_any cost 0 1000000 _ rfl W
   have hwu := Lib.hid fun W => within11_any until_ 0 100000 _ rfl W
   rw [Bool.decide_and, Bool.decide_and] at hok
   generalize (decide (0 ≤ cost) && decide (cost ≤ 1000000)) = C1 at *
   generalize (decide (0 ≤ until_) && decide (until_ ≤ 100000)) = C2 at *
   replace hx := Lib.hid hx
   replace hva := Lib.hid hva
   replace hxn := Lib.hid hxn
   replace hxf := Lib.hid hxf
   replace hkw := Lib.hid hkw
   clear hcell hk
   go_wp2_with fail
   refine hva.out.mono ?_
   clear hva
   rintro e w1 ⟨rfl, hb1⟩
   have hbr := Lib.hid (hb.out.trans (hb1.mono hb.out.size))
   have hbl1 : b1 < wr.heap.size := Nat.lt_of_lt_of_le hbl hb.out.size
   replace z0 := (hb1.cell (p := ⟨b1, o1 + i * 7, none⟩) hbl1).trans z0
   replace z1 := (hb1.cell (p := ⟨b1, o1 + i * 7 + 1, none⟩) hbl1).trans z1
   clear z2 z3 z4 z5 z6 hb1 hbl1
   cases VM with
   | false =>
    obtain rfl : OK = false := by rw [hok, Bool.and_false]
    obtain rfl : R = false := hxf.out rfl
    replace hok := Lib.hid hok
    go_wp2_with fail
    go_ret
    exact ⟨rfl, hbr.out⟩
   | true =>
    rw [Bool.and_true] at hok
    replace hok := Lib.hid hok
    go_wp2_with fail
    refine (hwc.out _).mono ?_
    rintro e w2 ⟨rfl, rfl⟩
    cases C1 with
    | false =>
     obtain rfl : OK = false := by rw [hok.out, Bool.false_and]
     obtain rfl : R = false := hxf.out rfl
     go_wp2_with fail
     go_ret
     exact ⟨rfl, hbr.out⟩
    | true =>
     go_wp2_with fail
     refine (hwu.out _).mono ?_
     rintro e w3 ⟨rfl, rfl⟩
     cases C2 with
     | false =>
      obtain rfl : OK = false := by rw [hok.out, Bool.and_false]
      obtain rfl : R = false := hxf.out rfl
      go_wp2_with fail
      go_ret
      exact ⟨rfl, hbr.out⟩
     | true =>
      have hn := Lib.hid (hxn.out (by rw [hok.out]; rfl))
      go_wp2_with fail
      exact ⟨⟨i + 1, by omega, rfl, hn, hbr⟩, by simp [intOf]; omega⟩
  ·
   have hno : decide ((i : Int) < (l.length : Int)) = false := decide_eq_false (by omega)
   obtain rfl : i = l.length := by omega
   have hvl := validE_len heq.out
   rw [hR.out] at hvl
   by_cases h40 : l.length ≤ 40
   ·
    have d1 : decide ((l.length : Int) ≤ 40) = true := decide_eq_true (by omega)
    have d2 : decide (l.length ≤ 40) = true := decide_eq_true h40
    obtain rfl : R = true := by rw [hvl, d2]
    replace hvl := Lib.hid hvl
    go_wp2_with fail
    go_ret
    exact ⟨rfl, hb.out⟩
   ·
    have d1 : decide ((l.length : Int) ≤ 40) = false := decide_eq_false (by omega)
    have d2 : decide (l.length ≤ 40) = false := decide_eq_false h40
    obtain rfl : R = false := by rw [hvl, d2]
    replace hvl := Lib.hid hvl
    go_wp2_with fail
    go_ret
    exact ⟨rfl, hb.out⟩
theorem stepsC_at {l : Clms} {p : Int} {i : Nat} (hi : i < l.length) (hp : l[i]!.1 = p) (hb : ∀ j, j < i → l[j]!.1 ≠ p) : stepsC l p = l[i]!.2 :=
 stepsM_at (m := ⟨0, 0, 0, false, l⟩) hi hp hb
theorem stepsC_none {l : Clms} {p : Int} (hb : ∀ j, j < l.length → l[j]!.1 ≠ p) : stepsC l p = [] :=
 stepsM_none (m := ⟨0, 0, 0, false, l⟩) hb
set_option maxRecDepth 100000 in
set_option maxHeartbeats 4000000 in
theorem Steps11_any (v : Value) (l : Clms) (p : Int) (w : World) (hv : ClaimsAt w w.heap.size v l) :
  Calls Tryz.prog 46 #[v, .int .i64 p] w fun e w' => ∃ v', e = .returned v' ∧ StepsAt w' w'.heap.size v' (stepsC l p) ∧ Below w.heap.size w w' := by
 have hcell := Lib.hid fun i (hi : i < l.length) => ClaimsAt.cells hv hi
 have hat := Lib.hid fun i (hi : i < l.length) h1 h2 => stepsC_at (l := l) (p := p) (i := i) hi h1 h2
 have hnone := Lib.hid (stepsC_none (l := l) (p := p))
 obtain ⟨vs, _, ⟨a, c, rfl, _, hn2, _⟩, _⟩ := hv
 generalize stepsC l p = X at *
 have hst : Hid ((∀ j, j < 0 → l[j]!.1 ≠ p) ∧ Below w.heap.size w w) := ⟨fun j hj => absurd hj (Nat.not_lt_zero j), Below.refl _ _⟩
 go_enter Tryz.func46, Tryz.ntmps46
 go_wp2_with fail
 go_loopw [5] (fun iv wr => ∃ i : Nat, i ≤ l.length ∧ iv = .int .i64 (i : Int) ∧ Hid ((∀ j, j < i → l[j]!.1 ≠ p) ∧ Below w.heap.size w wr)) (fun iv _ => l.length - (intOf iv).toNat)
 case atStart => exact ⟨0, Nat.zero_le _, rfl, hst⟩
 case round =>
  obtain ⟨i, hi, rfl, hall⟩ := hrel
  clear hst
  obtain ⟨hno, hb⟩ := hall.out
  clear hall
  by_cases hlt : i < l.length
  ·
   have hyes : decide ((i : Int) < (l.length : Int)) = true := decide_eq_true (by omega)
   have hw1 : IntKind.i64.wrap ((i : Int) + 1) = (i : Int) + 1 := IntWalk.i64_in _ (by unfold maxLen at hn2; omega)
   have k0 : (0 : Int) ≤ (i : Int) := by omega
   have k1 : (i : Int) < (l.length : Int) := by omega
   obtain ⟨b1, o1, cp, u, hv1, hbl, x0, x1, hs⟩ := hcell.out i hlt
   cases hv1
   replace x0 := (hb.cell (p := ⟨b1, o1 + i * 2, none⟩) hbl).trans x0
   replace x1 := (hb.cell (p := ⟨b1, o1 + i * 2 + 1, none⟩) hbl).trans x1
   replace hs := hs.later hb
   obtain ⟨ua, uc, rfl, _, _, _⟩ := _root_.id hs
   have hat1 := hat.out i hlt
   have hnx : l[i]!.1 ≠ p → ∀ j, j < i + 1 → l[j]!.1 ≠ p := fun e j hj => by
    by_cases h : j = i
    ·
     rw [h]; exact e
    ·
     exact hno j (by omega)
   clear hcell hat hnone
   generalize hx : l[i]! = x at *
   obtain ⟨px, pl⟩ := x
   dsimp only at x0 x1 hs hat1 hnx
   replace hx := Lib.hid hx
   replace hs := Lib.hid hs
   by_cases hp : px = p
   ·
    have hd : (px == p) = true := by rw [hp]; exact beq_self_eq_true _
    have hd2 : decide (px = p) = true := decide_eq_true hp
    have hres := Lib.hid (hat1 hp hno)
    replace hp := Lib.hid hp
    replace hno := Lib.hid hno
    replace hb := Lib.hid hb
    clear hat1 hnx
    go_wp2_with fail
    go_ret
    exact ⟨_, rfl, by rw [hres.out]; exact hs.out, hb.out⟩
   ·
    have hd : (px == p) = false := beq_false_of_ne hp
    have hd2 : decide (px = p) = false := decide_eq_false hp
    have hkk : Hid ((∀ j, j < i + 1 → l[j]!.1 ≠ p) ∧ Below w.heap.size w wr) := ⟨hnx hp, hb⟩
    replace hb := Lib.hid hb
    replace hp := Lib.hid hp
    replace hno := Lib.hid hno
    clear hat1 hnx
    go_wp2_with fail
    exact ⟨⟨i + 1, by omega, rfl, hkk⟩, by simp [intOf]; omega⟩
  ·
   have hno2 : decide ((i : Int) < (l.length : Int)) = false := decide_eq_false (by omega)
   have hres := Lib.hid (hnone.out fun j hj => hno j (by omega))
   replace hno := Lib.hid hno
   replace hb := Lib.hid hb
   clear hcell hat hnone
   go_wp2_with fail
   go_ret
   exact ⟨_, rfl, by rw [hres.out]; exact StepsAt.nil _ _ _ _ (Nat.zero_le _), hb.out⟩
def livesR (life : List Int) (f day : Int) : Int × Bool := if f < 0 ∨ (life.length : Int) ≤ f then (0, false) else (life[f.toNat]!, decide (day ≤ life[f.toNat]!))
theorem lives11_any (v : Value) (life : List Int) (f day : Int) (w : World) (hv : NumsAt w w.heap.size v life) :
  Calls Tryz.prog 47 #[v, .int .i64 f, .int .i64 day] w fun e w' => e = .returned (.tuple #[.int .i64 (livesR life f day).1, .bool (livesR life f day).2]) ∧ Below w.heap.size w w' := by
 have hc := Lib.hid fun i (hi : i < life.length) => NumsAt.cells hv hi
 obtain ⟨va, vc, rfl, _, hvm, _⟩ := hv
 unfold livesR
 by_cases h0 : f < 0
 ·
  have e1 : decide (f < 0) = true := decide_eq_true h0
  rw [if_pos (.inl h0)]
  replace h0 := Lib.hid h0
  go_enter Tryz.func47, Tryz.ntmps47
  go_wp2_with fail
  go_ret2
  exact ⟨rfl, Below.refl _ _⟩
 ·
  have e1 : decide (f < 0) = false := decide_eq_false h0
  by_cases h1 : (life.length : Int) ≤ f
  ·
   have e2 : decide (f ≥ (life.length : Int)) = true := decide_eq_true h1
   have e3 : decide ((life.length : Int) ≤ f) = true := decide_eq_true h1
   rw [if_pos (.inr h1)]
   replace h0 := Lib.hid h0
   replace h1 := Lib.hid h1
   go_enter Tryz.func47, Tryz.ntmps47
   go_wp2_with fail
   go_ret2
   exact ⟨rfl, Below.refl _ _⟩
  ·
   have e2 : decide (f ≥ (life.length : Int)) = false := decide_eq_false h1
   have e3 : decide ((life.length : Int) ≤ f) = false := decide_eq_false h1
   rw [if_neg (by omega)]
   obtain ⟨n, rfl⟩ : ∃ n : Nat, f = (n : Int) := ⟨f.toNat, by omega⟩
   rw [Int.toNat_natCast]
   obtain ⟨b, o, c2, hq, hb, x⟩ := hc.out n (by omega)
   cases hq
   have k0 : (0 : Int) ≤ (n : Int) := by omega
   have k1 : (n : Int) < (life.length : Int) := by omega
   generalize life[n]! = y at *
   replace h0 := Lib.hid h0
   replace h1 := Lib.hid h1
   clear hc
   by_cases hd : day ≤ y
   ·
    have d1 : decide (y ≥ day) = true := decide_eq_true hd
    have d2 : decide (day ≤ y) = true := decide_eq_true hd
    rw [d2]
    replace hd := Lib.hid hd
    go_enter Tryz.func47, Tryz.ntmps47
    go_wp2_with fail
    go_quiet (fail)
    go_wp2_with fail
    go_ret2
    exact ⟨rfl, below_drewN (Below.refl _ _) _⟩
   ·
    have d1 : decide (y ≥ day) = false := decide_eq_false hd
    have d2 : decide (day ≤ y) = false := decide_eq_false hd
    rw [d2]
    replace hd := Lib.hid hd
    go_enter Tryz.func47, Tryz.ntmps47
    go_wp2_with fail
    go_quiet (fail)
    go_wp2_with fail
    go_ret2
    exact ⟨rfl, below_drewN (Below.refl _ _) _⟩
end Go.Proofs.YtpeandbcdaikbaaGreatDoor
namespace Go.Proofs.YtpeandbcdaikbaaGreatDoor
open Go.RowKit Go.Shelf Go.Maps

/-- The route's box, the formats, the claims. -/
structure OfI (wE wr : World) (ea : Option Addr) (n ec : Nat) (cost : Int) (fv cv : Value) (F : List Int) (C : Clms) (us : List Value) : Prop where
 below : Below wE.heap.size wE wr
 box : Arr wr wE.heap.size 33 [.slice ea n ec, .int .i64 cost, .int .i64 0, cv]
 fmt : wr.ownsRow (wE.heap.size + 1) 3 1 fv F.length (ints F)
 cl : ClOwn (wE.heap.size + 1) wr cv C us
section
variable {wE wr wn : World} {ea : Option Addr} {n ec : Nat} {cost : Int} {fv cv : Value} {F : List Int} {C : Clms} {us : List Value}
theorem OfI.later (h : OfI wE wr ea n ec cost fv cv F C us) (hb : Below wr.heap.size wr wn) : OfI wE wn ea n ec cost fv cv F C us :=
 ⟨h.below.trans (hb.mono h.below.size), h.box.below hb, own_below h.fmt hb, h.cl.below hb⟩
theorem ClOwn.keepTy {X : List TypeId} {B : Nat} {w w' : World} {v : Value} {l : Clms} {vs : List Value} (h : ClOwn B w v l vs) (h1 : 59 ∉ X) (h2 : 73 ∉ X) (hk : KeepTy X w w') : ClOwn B w' v l vs :=
 ⟨h.len, own_keepTy h.own h1 hk, fun i hi => (h.steps i hi).keepTy h2 hk⟩
theorem OfI.addF (h : OfI wE wr ea n ec cost fv cv F C us) {fv' : Value} (y : Int) (hown : wn.ownsRow (wE.heap.size + 1) 3 1 fv' (F.length + 1) (ints F ++ [.int .i64 y])) (hg : wr.grownBy wn fv.ownBlock) : OfI wE wn ea n ec cost fv' cv (F ++ [y]) C us := by
 have hk : KeepTy [3] wr wn := KeepTy.grown h.fmt hg (by decide)
 exact ⟨h.below.grown hg h.below.size (fun g hq => by have := (own_block h.fmt hq).2.1; omega), arr_keepTy h.box (by decide) hk, by rw [List.length_append, ints_snoc]; exact hown, h.cl.keepTy (by decide) (by decide) hk⟩
theorem OfI.setCost (h : OfI wE wr ea n ec cost fv cv F C us) (c : Int) : OfI wE (wr.setCell ⟨wE.heap.size, 1, none⟩ (.int .i64 c)) ea n ec c fv cv F C us := by
 have hk : KeepTy [33] wr (wr.setCell ⟨wE.heap.size, 1, none⟩ (.int .i64 c)) := KeepTy.setArr h.box (by decide)
 exact ⟨h.below.setCell (p := ⟨wE.heap.size, 1, none⟩) (Nat.le_refl _) _, h.box.set 1 _, own_keepTy h.fmt (by decide) hk, h.cl.keepTy (by decide) (by decide) hk⟩
theorem OfI.addC (h : OfI wE wr ea n ec cost fv cv F C us) {cv' : Value} (p : Int) (s : List Stp) (u : Value) (hu : StepsT wr u s) (hown : wn.ownsRow (wE.heap.size + 1) 59 2 cv' (C.length + 1) (clC C us ++ [.int .i64 p, u])) (hg : wr.grownBy wn cv.ownBlock) :
  Arr wn wE.heap.size 33 [.slice ea n ec, .int .i64 cost, .int .i64 0, cv] ∧ OfI wE (wn.setCell ⟨wE.heap.size, 3, none⟩ cv') ea n ec cost fv cv' F (C ++ [(p, s)]) (us ++ [u]) := by
 have hk : KeepTy [59] wr wn := KeepTy.grown h.cl.own hg (by decide)
 have hbx := arr_keepTy h.box (by decide) hk
 have hk2 : KeepTy [33] wn (wn.setCell ⟨wE.heap.size, 3, none⟩ cv') := KeepTy.setArr hbx (by decide)
 exact ⟨hbx, (h.below.grown hg h.below.size (fun g hq => by have := (own_block h.cl.own hq).2.1; omega)).setCell (p := ⟨wE.heap.size, 3, none⟩) (Nat.le_refl _) _, hbx.set 3 _, own_keepTy (own_keepTy h.fmt (by decide) hk) (by decide) hk2, (h.cl.snoc p s u hu hown hg).keepTy (by decide) (by decide) hk2⟩
theorem clC_set : ∀ (l : Clms) (vs : List Value), vs.length = l.length → ∀ k, k < l.length → ∀ (s : List Stp) (u : Value), (clC l vs).set (k * 2 + 1) u = clC (l.set k (l[k]!.1, s)) (vs.set k u)
 | d :: l, v :: vs, h, 0, _, s, u => by
  rw [clC, Nat.zero_mul, Nat.zero_add, List.set_cons_succ, List.set_cons_zero, List.set_cons_zero, List.set_cons_zero, clC]
  rfl
 | d :: l, v :: vs, h, k + 1, hk, s, u => by
  have ih := clC_set l vs (by simpa using h) k (by simpa using hk) s u
  rw [clC, show (k + 1) * 2 + 1 = k * 2 + 1 + 1 + 1 from by omega]
  simp only [List.set_cons_succ]
  rw [ih, clC]
  rfl
 | _ :: _, [], h, _, _, _, _ => by simp at h
 | [], _, _, _, h, _, _ => by simp at h
theorem set_at {α : Type} [Inhabited α] (l : List α) (k : Nat) (x : α) {i : Nat} (hi : i < l.length) : (l.set k x)[i]! = if k = i then x else l[i]! := by
 rw [getElem!_pos (l.set k x) i (by rw [List.length_set]; exact hi), List.getElem_set, getElem!_pos l i hi]
theorem ClOwn.setSteps {B g cap : Nat} {w : World} {l : Clms} {vs : List Value} (h : ClOwn B w (.slice (some ⟨g, 0, none⟩) l.length cap) l vs) {k : Nat} (hk : k < l.length) (s : List Stp) (u : Value) (hu : StepsT w u s) :
  ClOwn B (w.setCell ⟨g, k * 2 + 1, none⟩ u) (.slice (some ⟨g, 0, none⟩) l.length cap) (l.set k (l[k]!.1, s)) (vs.set k u) ∧ w.grownBy (w.setCell ⟨g, k * 2 + 1, none⟩ u) (some g) := by
 obtain ⟨h1, h2⟩ := h.own.stored (k * 2 + 1) u
 rw [clC_set l vs h.len k hk s u] at h1
 have hkt : KeepTy [59] w (w.setCell ⟨g, k * 2 + 1, none⟩ u) := KeepTy.grown h.own h2 (by decide)
 refine ⟨⟨by rw [List.length_set, List.length_set]; exact h.len, by rw [List.length_set]; exact h1, fun i hi => ?_⟩, h2⟩
 rw [List.length_set] at hi
 rw [set_at vs k u (by rw [h.len]; exact hi), set_at l k _ hi]
 by_cases q : k = i
 ·
  rw [if_pos q, if_pos q]
  exact hu.keepTy (by decide) hkt
 ·
  rw [if_neg q, if_neg q]
  exact (h.steps i hi).keepTy (by decide) hkt
theorem OfI.setSteps {g cap : Nat} (h : OfI wE wr ea n ec cost fv (.slice (some ⟨g, 0, none⟩) C.length cap) F C us) {k : Nat} (hk : k < C.length) (s : List Stp) (u : Value) (hu : StepsT wr u s) :
  OfI wE (wr.setCell ⟨g, k * 2 + 1, none⟩ u) ea n ec cost fv (.slice (some ⟨g, 0, none⟩) C.length cap) F (C.set k (C[k]!.1, s)) (us.set k u) := by
 obtain ⟨h1, h2⟩ := h.cl.setSteps hk s u hu
 have hkt : KeepTy [59] wr (wr.setCell ⟨g, k * 2 + 1, none⟩ u) := KeepTy.grown h.cl.own h2 (by decide)
 exact ⟨h.below.grown h2 h.below.size (fun q hq => by injection hq with hq; have := (own_block h.cl.own (g := g) (by simp [Value.ownBlock])).2.1; omega), arr_keepTy h.box (by decide) hkt, own_keepTy h.fmt (by decide) hkt, h1⟩
end
/-! The claims of a step further, plain. -/
def mapTo (C : Clms) (m : Mig) (i : Nat) : Clms := (C.take i).map (onC m) ++ C.drop i
theorem mapTo_zero (C : Clms) (m : Mig) : mapTo C m 0 = C := by simp [mapTo]
theorem mapTo_all (C : Clms) (m : Mig) : mapTo C m C.length = C.map (onC m) := by simp [mapTo]
theorem mapTo_len (C : Clms) (m : Mig) (i : Nat) : (mapTo C m i).length = C.length := by
 unfold mapTo
 rw [List.length_append, List.length_map, List.length_take, List.length_drop]
 omega
theorem mapTo_at (C : Clms) (m : Mig) {i : Nat} (hi : i < C.length) : (mapTo C m i)[i]! = C[i]! := by
 rw [getElem!_pos (mapTo C m i) i (by rw [mapTo_len]; exact hi), getElem!_pos C i hi]
 unfold mapTo
 rw [List.getElem_append_right (by simp; omega)]
 simp only [List.length_map, List.length_take, List.getElem_drop]
 congr 1
 omega
theorem mapTo_set (C : Clms) (m : Mig) {i : Nat} (hi : i < C.length) : (mapTo C m i).set i ((mapTo C m i)[i]!.1, composeA (C[i]!).1 (C[i]!).2 (stepsC (claimsM m) (C[i]!).1)) = mapTo C m (i + 1) := by
 rw [mapTo_at C m hi]
 unfold mapTo
 rw [List.set_append_right _ _ (by simp; omega), show i - ((C.take i).map (onC m)).length = 0 by simp; omega, List.drop_eq_getElem_cons hi, List.set_cons_zero, List.take_succ_eq_append_getElem hi, List.map_append, List.append_assoc, getElem!_pos C i hi]
 rfl
theorem ons_keys {l : List Edg} {day : Int} : ∀ (es : List Int) {w n : Way}, onsP l day w es = some n → n.rou.claims.map (·.1) = w.rou.claims.map (·.1)
 | [], w, n, h => by
  rw [onsP, Option.some.injEq] at h
  subst h
  rfl
 | e :: es, w, n, h => by
  rw [onsP] at h
  cases ho : onP l day w e with
  | none => rw [ho] at h; cases h
  | some m =>
   rw [ho] at h
   rw [ons_keys es h, (on_some.1 ho).2]
   simp
theorem begin_keys {l : List Edg} {day frm : Int} {es : List Int} {x : Way} (h : onsP l day (beginP frm) es = some x) : x.rou.claims.length = 8 ∧ ∀ i : Nat, i < 8 → (x.rou.claims[i]!).1 = (i : Int) + 1 := by
 have hk := ons_keys es h
 have hl : x.rou.claims.length = 8 := by
  have := congrArg List.length hk
  simpa [beginP, zeroC, props8] using this
 refine ⟨hl, fun i hi => ?_⟩
 have h1 : (x.rou.claims.map (·.1))[i]? = (zeroC.map (·.1))[i]? := congrArg (·[i]?) hk
 rw [List.getElem?_map, List.getElem?_eq_getElem (by omega)] at h1
 rw [getElem!_pos x.rou.claims i (by omega)]
 obtain rfl | rfl | rfl | rfl | rfl | rfl | rfl | rfl : i = 0 ∨ i = 1 ∨ i = 2 ∨ i = 3 ∨ i = 4 ∨ i = 5 ∨ i = 6 ∨ i = 7 := by omega
 all_goals
  simp [zeroC, props8] at h1
  rw [h1]
  rfl
theorem ons_last {l : List Edg} {day frm : Int} {es : List Int} {x : Way} (h : onsP l day (beginP frm) es = some x) : x.formats.length = es.length + 1 ∧ x.last = x.formats[es.length]! := by
 obtain ⟨h1, h2, _⟩ := ons_facts es h
 have hl : x.formats.length = es.length + 1 := by rw [h2]; simp [beginP]; try omega
 refine ⟨hl, ?_⟩
 rw [last_at (x := x) (by intro e; rw [e] at hl; simp at hl), hl, Nat.add_sub_cancel]
end Go.Proofs.YtpeandbcdaikbaaGreatDoor
