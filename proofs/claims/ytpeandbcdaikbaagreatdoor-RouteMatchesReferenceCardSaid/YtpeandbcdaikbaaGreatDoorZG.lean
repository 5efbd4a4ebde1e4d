/-
 Routes of chapter 11: the reference's All and Best.
 Routes of chapter 11: the reference's Best.
-/
import Derived.Test.YtpeandbcdaikbaaGreatDoorZF
open List (setIfInBounds_toArray set_cons_zero set_cons_succ)
namespace Go.Proofs.YtpeandbcdaikbaaGreatDoor
open Go.RowKit Go.Shelf Go.Maps

attribute [local go_sem] Oper.semAt_some

def allR (l : List Edg) (life : List Int) (f d hops : Int) : List Rou := if validE l = true ∧ 0 ≤ hops then allP l life f d hops else []
set_option maxRecDepth 100000 in
set_option maxHeartbeats 4000000 in
theorem All11_any (l : List Edg) (life : List Int) (f d hops : Int) (ev lv : Value) (w : World) (hE : EdgesAt w w.heap.size ev l) (hL : NumsAt w w.heap.size lv life) :
  Calls Tryz.prog 51 #[ev, lv, .int .i64 f, .int .i64 d, .int .i64 hops] w fun e w' => ∃ ov zs, e = .returned ov ∧ RouI w w' ov zs (allR l life f d hops) := by
 have hva := Lib.hid (Valid11_any ev l w hE)
 have hEw := Lib.hid fun W (hW : Below w.heap.size w W) => hE.later hW
 have hLw := Lib.hid fun W (hW : Below w.heap.size w W) => NumsAt.later hL hW
 obtain ⟨_, _, ⟨pa, pc, rfl, _, hpm, _⟩, _⟩ := hE
 obtain ⟨la, lc, rfl, _, _, _⟩ := hL
 obtain ⟨R, hR⟩ : ∃ R, allR l life f d hops = R := ⟨_, rfl⟩
 rw [hR]
 unfold allR at hR
 go_enter Tryz.func51, Tryz.ntmps51
 go_wp2_with fail
 refine hva.out.mono ?_
 clear hva
 rintro e w1 ⟨rfl, hb1⟩
 cases hv : validE l with
 | false =>
  obtain rfl : R = [] := by rw [← hR, if_neg (by simp [hv])]
  have hI := Lib.hid (RouI.nil w w1 hb1)
  replace hv := Lib.hid hv
  replace hR := Lib.hid hR
  go_wp2_with fail
  go_ret
  exact ⟨_, [], rfl, hI.out⟩
 | true =>
  by_cases hh : hops < 0
  ·
   have d1 : decide (hops < 0) = true := decide_eq_true hh
   obtain rfl : R = [] := by rw [← hR, if_neg (by omega)]
   have hI := Lib.hid (RouI.nil w w1 hb1)
   replace hv := Lib.hid hv
   replace hR := Lib.hid hR
   replace hh := Lib.hid hh
   go_wp2_with fail
   go_ret
   exact ⟨_, [], rfl, hI.out⟩
  ·
   have d1 : decide (hops < 0) = false := decide_eq_false hh
   rw [if_pos ⟨hv, by omega⟩, all_ways] at hR
   obtain ⟨m, hm⟩ : ∃ m : Nat, min hops 6 = (m : Int) := ⟨(min hops 6).toNat, by omega⟩
   rw [hm, Int.toNat_natCast] at hR
   have hcall := Lib.hid (ways_any l hv life f d m (by omega) m [] _ _ (.slice none 0 0) w1 (by simp) (by simp) (hEw.out w1 hb1) (hLw.out w1 hb1) (show NumsAt w1 w1.heap.size (.slice none 0 0) [] from ⟨_, _, rfl, Nat.le_refl _, Nat.zero_le _, fun h => absurd h (Nat.lt_irrefl 0)⟩))
   rw [hR] at hcall
   replace hv := Lib.hid hv
   replace hR := Lib.hid hR
   replace hh := Lib.hid hh
   replace hb1 := Lib.hid hb1
   go_wp2_with fail
   refine hcall.out.mono ?_
   clear hcall
   rintro e w2 ⟨ov, zs, rfl, hI⟩
   have hI2 : RouI w w2 ov zs R := ⟨hI.eq, own_base hI.own hb1.out.size, hI.ok, hb1.out.trans (hI.below.mono hb1.out.size)⟩
   obtain ⟨x, c, rfl⟩ := own_val hI.own
   replace hI2 := Lib.hid hI2
   clear hI
   go_wp2_with fail
   go_ret
   exact ⟨_, zs, rfl, hI2.out⟩
/-! What Best's inner loop has found. -/
def beatsAt (A : List Rou) (k i : Nat) : Bool := decide (k ≠ i) && (betterP A[k]! A[i]! && (!betterP A[i]! A[k]! || aheadP A[k]! A[i]!))
theorem isBest_at {l : List Edg} {life : List Int} {frm day hops : Int} (hl : validE l = true) {i : Nat} (hi : i < (allP l life frm day hops).length) : isBest (allP l life frm day hops) (allP l life frm day hops)[i]! = true ↔ ∀ k, k < (allP l life frm day hops).length → beatsAt (allP l life frm day hops) k i = false := by
 have hnd : (allP l life frm day hops).Nodup := from_nodup _ _
 generalize allP l life frm day hops = A at *
 unfold isBest
 rw [List.all_eq_true]
 have hne : ∀ k, k < A.length → (A[k]! = A[i]! ↔ k = i) := fun k hk => by
  rw [getElem!_pos A k hk, getElem!_pos A i hi]
  exact List.getElem_inj hnd
 have hone : ∀ k, k < A.length → ((decide (A[k]! = A[i]!) || !beatsP A[k]! A[i]!) = true ↔ beatsAt A k i = false) := fun k hk => by
  unfold beatsAt beatsP
  have := hne k hk
  by_cases e : k = i
  ·
   rw [decide_eq_true (this.2 e), decide_eq_false (by simpa using e)]
   simp
  ·
   rw [decide_eq_false (fun h => e (this.1 h)), decide_eq_true (by simpa using e)]
   cases betterP A[k]! A[i]! <;> cases betterP A[i]! A[k]! <;> cases aheadP A[k]! A[i]! <;> simp
 constructor
 ·
  intro h k hk
  exact (hone k hk).1 (h A[k]! (by rw [getElem!_pos A k hk]; exact List.getElem_mem hk))
 ·
  intro h o ho
  obtain ⟨k, hk, rfl⟩ := List.mem_iff_getElem.1 ho
  have := (hone k hk).2 (h k hk)
  rwa [getElem!_pos A k hk] at this
/-- What Best has gathered: the best of the first ones, in order. -/
structure GathR (A : List Rou) (i : Nat) (R : List Rou) : Prop where
 sorted : SortedR R
 perm : R.Perm ((A.take i).filter (isBest A))
theorem GathR.zero (A : List Rou) : GathR A 0 [] := ⟨List.Pairwise.nil, by simp⟩
theorem GathR.skip {A : List Rou} {i : Nat} {R : List Rou} (h : GathR A i R) (hi : i < A.length) (hn : isBest A A[i]! = false) : GathR A (i + 1) R := ⟨h.sorted, by rw [take_filter (isBest A) hi, hn]; simpa using h.perm⟩
theorem GathR.ins {A : List Rou} {i k : Nat} {R : List Rou} (h : GathR A i R) (hi : i < A.length) (hn : isBest A A[i]! = true) (hk : k ≤ R.length) (hafter : ∀ j, k ≤ j → j < R.length → aheadP A[i]! R[j]! = true) (hbefore : k = 0 ∨ aheadP A[i]! R[k - 1]! = false) : GathR A (i + 1) (R.take k ++ [A[i]!] ++ R.drop k) := by
 rw [List.append_assoc]
 refine ⟨ins_sorted h.sorted hk hafter hbefore, ?_⟩
 rw [take_filter (isBest A) hi, hn]
 exact ins_perm h.perm
theorem GathR.len {A : List Rou} {i : Nat} {R : List Rou} (h : GathR A i R) : R.length ≤ A.length := by
 rw [h.perm.length_eq]
 have h1 := List.length_filter_le (isBest A) (A.take i)
 rw [List.length_take] at h1
 omega
theorem allR_best {l : List Edg} {life : List Int} {f d hops : Int} {R : List Rou} (h : GathR (allR l life f d hops) (allR l life f d hops).length R) : R = bestP l life f d hops := by
 have hp := h.perm
 rw [List.take_length] at hp
 by_cases hv : validE l = true ∧ 0 ≤ hops
 ·
  have e : allR l life f d hops = allP l life f d hops := by unfold allR; rw [if_pos hv]
  rw [e] at hp
  exact best_ins hv.1 hv.2 h.sorted hp
 ·
  have e : allR l life f d hops = [] := by unfold allR; rw [if_neg hv]
  rw [e] at hp
  have : R = [] := by simpa using hp
  rw [this]
  unfold bestP
  rw [if_neg hv]
theorem allR_len (l : List Edg) (life : List Int) (f d hops : Int) : (allR l life f d hops).length ≤ 5000000000 := by
 unfold allR
 split
 ·
  rename_i h
  exact all_len h.1 life f d hops
 ·
  exact Nat.zero_le _
theorem isBest_allR {l : List Edg} {life : List Int} {f d hops : Int} {i : Nat} (hi : i < (allR l life f d hops).length) : isBest (allR l life f d hops) (allR l life f d hops)[i]! = true ↔ ∀ k, k < (allR l life f d hops).length → beatsAt (allR l life f d hops) k i = false := by
 by_cases hv : validE l = true ∧ 0 ≤ hops
 ·
  have e : allR l life f d hops = allP l life f d hops := by unfold allR; rw [if_pos hv]
  rw [e] at hi ⊢
  exact isBest_at hv.1 hi
 ·
  have e : allR l life f d hops = [] := by unfold allR; rw [if_neg hv]
  rw [e] at hi
  simp at hi
/-- A route of a row, with what its rows hold. -/
theorem RouI.row {w wr : World} {a : Option Addr} {n c : Nat} {zs : List RouM} {R : List Rou} (h : RouI w wr (.slice a n c) zs R) {i : Nat} (hi : i < zs.length) : ∃ b ea ec ca cc, a = some ⟨b, 0, none⟩ ∧ b < wr.heap.size ∧ zs[i]! = ⟨R[i]!, .slice ea (R[i]!).edges.length ec, .slice ca (R[i]!).claims.length cc⟩ ∧ wr.cell? ⟨b, i * 4, none⟩ = some (.slice ea (R[i]!).edges.length ec) ∧ wr.cell? ⟨b, i * 4 + 1, none⟩ = some (.int .i64 (R[i]!).cost) ∧ wr.cell? ⟨b, i * 4 + 2, none⟩ = some (.int .i64 (R[i]!).life) ∧ wr.cell? ⟨b, i * 4 + 3, none⟩ = some (.slice ca (R[i]!).claims.length cc) ∧ OkR ⟨R[i]!, .slice ea (R[i]!).edges.length ec, .slice ca (R[i]!).claims.length cc⟩ wr := by
 have hRi : R[i]! = (zs[i]!).r := by
  rw [getElem!_pos zs i hi, getElem!_pos R i (by rw [← h.len]; exact hi)]
  simp [← h.eq]
 obtain ⟨g, cap, hq⟩ := own_slice h.own (by omega)
 injection hq with q1 q2 q3
 subst q1 q2 q3
 have hok := h.ok zs[i]! (by rw [getElem!_pos zs i hi]; exact List.getElem_mem hi)
 obtain ⟨ea, ec, ca, cc, he, hc⟩ := hok.shape
 have hz : zs[i]! = ⟨R[i]!, .slice ea (R[i]!).edges.length ec, .slice ca (R[i]!).claims.length cc⟩ := by
  rw [hRi]
  rw [← he, ← hc]
 have hcell : ∀ j u, j < 4 → ([Value.slice ea (R[i]!).edges.length ec, .int .i64 (R[i]!).cost, .int .i64 (R[i]!).life, .slice ca (R[i]!).claims.length cc] : List Value)[j]? = some u → wr.cell? ⟨g, i * 4 + j, none⟩ = some u := fun j u hj hu => by
  rw [h.own.cellAt (i * 4 + j) (by omega), rouCells_at zs i j hi hj, hz]
  exact hu
 exact ⟨g, ea, ec, ca, cc, rfl, (own_block h.own (g := g) (by simp [Value.ownBlock])).1, hz, hcell 0 _ (by omega) rfl, hcell 1 _ (by omega) rfl, hcell 2 _ (by omega) rfl, hcell 3 _ (by omega) rfl, by rw [← hz]; exact hok⟩
end Go.Proofs.YtpeandbcdaikbaaGreatDoor
namespace Go.Proofs.YtpeandbcdaikbaaGreatDoor
open Go.RowKit Go.Shelf Go.Maps

attribute [local go_sem] Oper.semAt_some

theorem rouCells_take (zs : List RouM) (q : Nat) : rouCells (zs.take q) = (rouCells zs).take (q * 4) := by
 induction zs generalizing q with
 | nil => simp [rouCells]
 | cons z zs ih =>
  cases q with
  | zero => simp [rouCells]
  | succ q =>
   show z.cells ++ rouCells (zs.take q) = (z.cells ++ rouCells zs).take ((q + 1) * 4)
   rw [ih, List.take_append, show z.cells.length = 4 from rfl, List.take_of_length_le (show z.cells.length ≤ (q + 1) * 4 by show 4 ≤ _; omega), show (q + 1) * 4 - 4 = q * 4 by omega]
theorem rouCells_drop (zs : List RouM) (q : Nat) : rouCells (zs.drop q) = (rouCells zs).drop (q * 4) := by
 induction zs generalizing q with
 | nil => simp [rouCells]
 | cons z zs ih =>
  cases q with
  | zero => simp [rouCells]
  | succ q =>
   show rouCells (zs.drop q) = (z.cells ++ rouCells zs).drop ((q + 1) * 4)
   rw [ih, List.drop_append, show z.cells.length = 4 from rfl, List.drop_eq_nil_of_le (show z.cells.length ≤ (q + 1) * 4 by show 4 ≤ _; omega), List.nil_append, show (q + 1) * 4 - 4 = q * 4 by omega]
theorem SliceAt.takeS {w : World} {B n c s q : Nat} {a : Option Addr} {xs : List Value} (h : SliceAt w B (.slice a n c) n xs) (hq : q ≤ n) : SliceAt w B (.slice a q c) q (xs.take (q * s)) := by
 obtain ⟨a', cap, e, h1, h2, hc⟩ := h
 injection e with e1 _ e3
 subst e1 e3
 refine ⟨_, _, rfl, by omega, h2, fun hp => ?_⟩
 obtain ⟨b, o, ha, hb, hx⟩ := hc (by omega)
 refine ⟨b, o, ha, hb, fun j u hu => hx j u ?_⟩
 rw [List.getElem?_take] at hu
 split at hu
 ·
  exact hu
 ·
  cases hu
theorem SliceAt.dropS {w : World} {B n c s q : Nat} {a : Option Addr} {xs : List Value} (h : SliceAt w B (.slice a n c) n xs) (hq : q ≤ n) : SliceAt w B (.slice (if c = q then a else a.map fun x => x.add (q * s)) (n - q) (c - q)) (n - q) (xs.drop (q * s)) := by
 obtain ⟨a', cap, e, h1, h2, hc⟩ := h
 injection e with e1 _ e3
 subst e1 e3
 refine ⟨_, _, rfl, by omega, by omega, fun hp => ?_⟩
 obtain ⟨b, o, rfl, hb, hx⟩ := hc (by omega)
 refine ⟨b, o + q * s, by rw [if_neg (by omega)]; show some (Addr.add ⟨b, o, none⟩ (q * s)) = _; rw [Addr.add_mid], hb, fun j u hu => ?_⟩
 rw [List.getElem?_drop] at hu
 rw [Nat.add_assoc]
 exact hx (q * s + j) u hu
set_option maxRecDepth 100000 in
set_option maxHeartbeats 16000000 in
theorem Best11_any (l : List Edg) (life : List Int) (f d hops : Int) (ev lv : Value) (w : World) (hE : EdgesAt w w.heap.size ev l) (hL : NumsAt w w.heap.size lv life) :
  Calls Tryz.prog 20 #[ev, lv, .int .i64 f, .int .i64 d, .int .i64 hops] w fun e w' => ∃ ov zs, e = .returned ov ∧ RouI w w' ov zs (bestP l life f d hops) := by
 obtain ⟨r0, hr_, hy0, hy1, hy2⟩ := info_parts Tryz.info_route
 replace hr_ := Lib.hid hr_
 have hall := Lib.hid (All11_any l life f d hops ev lv w hE hL)
 obtain ⟨_, _, ⟨pa, pc, rfl, _, hpm, _⟩, _⟩ := hE
 obtain ⟨la, lc, rfl, _, _, _⟩ := hL
 have hfin := Lib.hid fun R => allR_best (l := l) (life := life) (f := f) (d := d) (hops := hops) (R := R)
 have hib := Lib.hid fun i hi => isBest_allR (l := l) (life := life) (f := f) (d := d) (hops := hops) (i := i) hi
 have hlenA := allR_len l life f d hops
 generalize allR l life f d hops = A at *
 generalize bestP l life f d hops = RB at *
 go_enter Tryz.func20, Tryz.ntmps20
 go_wp2_with fail
 refine hall.out.mono ?_
 clear hall
 rintro e w1 ⟨av, as_, rfl, hAll⟩
 obtain ⟨ax, ac, rfl⟩ := own_val hAll.own
 have hnA := hAll.len
 have hbw1 := Lib.hid hAll.below
 generalize hnn : as_.length = n at *
 replace hnn := Lib.hid hnn
 rw [← hnA] at hlenA
 replace hnA := Lib.hid hnA
 replace hAll := Lib.hid hAll
 have hst : Hid (∃ zs R, RouI w1 w1 (.slice none 0 0) zs R ∧ GathR A 0 R) := ⟨[], [], RouI.nil w1 w1 (Below.refl _ _), GathR.zero A⟩
 go_wp2_with fail
 go_loopw [12, 13] (fun ov iv wr => ∃ i : Nat, i ≤ n ∧ iv = .int .i64 (i : Int) ∧ Hid (∃ zs R, RouI w1 wr ov zs R ∧ GathR A i R)) (fun _ iv _ => n - (intOf iv).toNat)
 case atStart => exact ⟨0, Nat.zero_le _, rfl, hst⟩
 case round =>
  obtain ⟨wo, hwo⟩ : ∃ wo, wo = wr := ⟨_, rfl⟩
  subst hwo
  obtain ⟨i, hi, rfl, hall⟩ := hrel
  clear hst
  obtain ⟨zs, R, hI, hG⟩ := hall.out
  clear hall
  by_cases hlt : i < n
  ·
   have hyes : decide ((i : Int) < (n : Int)) = true := decide_eq_true (by omega)
   have hw1 : IntKind.i64.wrap ((i : Int) + 1) = (i : Int) + 1 := IntWalk.i64_in _ (by omega)
   have k0 : (0 : Int) ≤ (i : Int) := by omega
   have k1 : (i : Int) < (n : Int) := by omega
   have hGl := hG.len
   rw [← hnA.out] at hGl
   have hzl := hI.len
   obtain ⟨ox, oc, rfl⟩ := own_val hI.own
   have hbi := Lib.hid (hib.out i (by rw [← hnA.out]; exact hlt))
   have hiA : i < A.length := by rw [← hnA.out]; exact hlt
   replace hiA := Lib.hid hiA
   generalize hzn : zs.length = m at *
   replace hzn := Lib.hid hzn
   have hm5 : m ≤ 5000000000 := by omega
   replace hGl := Lib.hid hGl
   replace hzl := Lib.hid hzl
   replace hI := Lib.hid hI
   replace hG := Lib.hid hG
   have hbk := Lib.hid (Below.refl wo.heap.size wo)
   go_wp2_with fail
   go_loopw [14, 15] (fun bv kv wr => ∃ (k : Nat) (b : Bool), k ≤ n ∧ kv = .int .i64 (k : Int) ∧ bv = .bool b ∧ Hid ((b = true) ↔ ∀ j, j < k → beatsAt A j i = false) ∧ Hid (Below wo.heap.size wo wr)) (fun _ kv _ => n - (intOf kv).toNat)
   case atStart => exact ⟨0, true, Nat.zero_le _, rfl, rfl, ⟨fun _ j hj => absurd hj (Nat.not_lt_zero j), fun _ => rfl⟩, hbk⟩
   case round =>
    obtain ⟨k, bb, hk, rfl, rfl, hbst, hbr⟩ := hrel
    clear hbk
    by_cases hkl : k < n
    ·
     have hkyes : decide ((k : Int) < (n : Int)) = true := decide_eq_true (by omega)
     have hw2 : IntKind.i64.wrap ((k : Int) + 1) = (k : Int) + 1 := IntWalk.i64_in _ (by omega)
     have q0 : (0 : Int) ≤ (k : Int) := by omega
     have q1 : (k : Int) < (n : Int) := by omega
     have hnext : ∀ v b', beatsAt A k i = v → b' = (bb && !v) → Hid ((b' = true) ↔ ∀ j, j < k + 1 → beatsAt A j i = false) := fun v b' h1 h2 => by
      show _ ↔ _
      rw [h2, Bool.and_eq_true, hbst.out, Bool.not_eq_true']
      constructor
      ·
       rintro ⟨h3, h4⟩ j hj
       by_cases e : j = k
       ·
        rw [e, h1, h4]
       ·
        exact h3 j (by omega)
      ·
       intro h3
       exact ⟨fun j hj => h3 j (by omega), by rw [← h1]; exact h3 k (by omega)⟩
     replace hnext := Lib.hid hnext
     by_cases hki : k = i
     ·
      have e1 : ((k : Int) == (i : Int)) = true := by rw [hki]; exact beq_self_eq_true _
      have e2 : ((k : Int) != (i : Int)) = false := by rw [hki]; exact bne_self_eq_false _
      have e3 : decide (k = i) = true := decide_eq_true hki
      have e4 : decide ((k : Int) = (i : Int)) = true := decide_eq_true (by rw [hki])
      have hn := hnext.out false bb (by unfold beatsAt; rw [decide_eq_false (by simpa using hki)]; rfl) (by simp)
      replace hki := Lib.hid hki
      go_upto_region 10 with fail
      go_quiet (fail)
      have hbn := Lib.hid (below_drewN hbr.out nq)
      go_wp2_with fail
      exact ⟨⟨k + 1, bb, by omega, rfl, rfl, hn, hbn⟩, by simp [intOf]; omega⟩
     ·
      have e1 : ((k : Int) == (i : Int)) = false := beq_false_of_ne (by omega)
      have e2 : ((k : Int) != (i : Int)) = true := bne_iff_ne.2 (by omega)
      have e3 : decide (k = i) = false := decide_eq_false hki
      have e4 : decide ((k : Int) = (i : Int)) = false := decide_eq_false (by omega)
      have hbd := hbr.out.drew
      have hAd := hAll.out.later (hI.out.below.trans (hbd.mono hI.out.below.size))
      obtain ⟨b, ea, ec, ca, cc, ha, hbl, _, x0, x1, x2, x3, hok⟩ := hAd.row (i := i) (by rw [hnn.out]; exact hlt)
      obtain ⟨b', ea', ec', ca', cc', ha', hbl', _, y0, y1, y2, y3, hok'⟩ := hAd.row (i := k) (by rw [hnn.out]; exact hkl)
      subst ha
      injection ha' with ha'
      injection ha' with ha' _ _
      subst ha'
      have hba : beatsAt A k i = (betterP A[k]! A[i]! && (!betterP A[i]! A[k]! || aheadP A[k]! A[i]!)) := by
       unfold beatsAt
       rw [decide_eq_true hki, Bool.true_and]
      generalize hri : A[i]! = r at *
      generalize hrk : A[k]! = s at *
      have hB1 := Lib.hid fun W (hb : Below wr.drew.heap.size wr.drew W) => Better11_any s r ea' ea s.edges.length r.edges.length ec' ec (.slice ca' s.claims.length cc') (.slice ca r.claims.length cc) W (hok'.below hb).2.at (hok.below hb).2.at
      have hB2 := Lib.hid fun W (hb : Below wr.drew.heap.size wr.drew W) => Better11_any r s ea ea' r.edges.length s.edges.length ec ec' (.slice ca r.claims.length cc) (.slice ca' s.claims.length cc') W (hok.below hb).2.at (hok'.below hb).2.at
      have hAh := Lib.hid fun W (hb : Below wr.drew.heap.size wr.drew W) => ahead11_any s r ea' ea ca' ca cc' cc ec' ec W (NumsT.at (hok'.below hb).1) (NumsT.at (hok.below hb).1)
      generalize betterP s r = v1 at *
      generalize betterP r s = v2 at *
      generalize aheadP s r = v3 at *
      have hcells : ∀ W, Below wr.drew.heap.size wr.drew W → (W.cell? ⟨b, k * 4, none⟩ = some (.slice ea' s.edges.length ec') ∧ W.cell? ⟨b, k * 4 + 1, none⟩ = some (.int .i64 s.cost) ∧ W.cell? ⟨b, k * 4 + 2, none⟩ = some (.int .i64 s.life) ∧ W.cell? ⟨b, k * 4 + 3, none⟩ = some (.slice ca' s.claims.length cc') ∧ W.cell? ⟨b, i * 4, none⟩ = some (.slice ea r.edges.length ec) ∧ W.cell? ⟨b, i * 4 + 1, none⟩ = some (.int .i64 r.cost) ∧ W.cell? ⟨b, i * 4 + 2, none⟩ = some (.int .i64 r.life) ∧ W.cell? ⟨b, i * 4 + 3, none⟩ = some (.slice ca r.claims.length cc)) := fun W hb =>
       ⟨(hb.cell (p := ⟨b, _, none⟩) hbl).trans y0, (hb.cell (p := ⟨b, _, none⟩) hbl).trans y1, (hb.cell (p := ⟨b, _, none⟩) hbl).trans y2, (hb.cell (p := ⟨b, _, none⟩) hbl).trans y3, (hb.cell (p := ⟨b, _, none⟩) hbl).trans x0, (hb.cell (p := ⟨b, _, none⟩) hbl).trans x1, (hb.cell (p := ⟨b, _, none⟩) hbl).trans x2, (hb.cell (p := ⟨b, _, none⟩) hbl).trans x3⟩
      have hb0 : Hid (Below wr.drew.heap.size wr.drew wr.drew) := Below.refl _ _
      replace hcells := Lib.hid hcells
      replace hbd := Lib.hid hbd
      replace hki := Lib.hid hki
      replace hok := Lib.hid hok
      replace hok' := Lib.hid hok'
      replace hri := Lib.hid hri
      replace hrk := Lib.hid hrk
      clear hAd
      go_upto_region 10 with fail
      refine wp_region_held_drew (S := fun w' => w'.cell? ⟨b, k * 4, none⟩ = some (.slice ea' s.edges.length ec') ∧ w'.cell? ⟨b, k * 4 + 1, none⟩ = some (.int .i64 s.cost) ∧ w'.cell? ⟨b, k * 4 + 2, none⟩ = some (.int .i64 s.life) ∧ w'.cell? ⟨b, k * 4 + 3, none⟩ = some (.slice ca' s.claims.length cc') ∧ w'.cell? ⟨b, i * 4, none⟩ = some (.slice ea r.edges.length ec) ∧ w'.cell? ⟨b, i * 4 + 1, none⟩ = some (.int .i64 r.cost) ∧ w'.cell? ⟨b, i * 4 + 2, none⟩ = some (.int .i64 r.life) ∧ w'.cell? ⟨b, i * 4 + 3, none⟩ = some (.slice ca r.claims.length cc)) (by kernel_rfl) (by exact hcells.out _ hb0.out) (fun hHeld => ?_)
      refine tk 0 ?_ rfl ?_ ?_
      rotate_left
      ·
       intro w hSw; (try dsimp only at hSw); go_simp; (try with_reducible rfl)
      (try simp only [Act.put, setIfInBounds_toArray, set_cons_zero, set_cons_succ])
      refine tk 1 ?_ rfl ?_ ?_
      rotate_left
      ·
       intro w hSw; (try dsimp only at hSw); go_simp; (try with_reducible rfl)
      (try simp only [Act.put, setIfInBounds_toArray, set_cons_zero, set_cons_succ])
      refine tk 2 ?_ rfl ?_ ?_
      rotate_left
      ·
       intro w hSw; (try dsimp only at hSw); go_simp; (try with_reducible rfl)
      (try simp only [Act.put, setIfInBounds_toArray, set_cons_zero, set_cons_succ])
      refine tk 3 ?_ rfl ?_ ?_
      rotate_left
      ·
       intro w hSw; (try dsimp only at hSw); go_simp; (try with_reducible rfl)
      (try simp only [Act.put, setIfInBounds_toArray, set_cons_zero, set_cons_succ])
      refine tk 4 ?_ rfl ?_ ?_
      rotate_left
      ·
       intro w hSw; (try dsimp only at hSw); go_simp; (try with_reducible rfl)
      (try simp only [Act.put, setIfInBounds_toArray, set_cons_zero, set_cons_succ])
      refine tk 5 ?_ rfl ?_ ?_
      rotate_left
      ·
       intro w hSw; (try dsimp only at hSw); go_simp; (try with_reducible rfl)
      (try simp only [Act.put, setIfInBounds_toArray, set_cons_zero, set_cons_succ])
      refine tk 6 ?_ rfl ?_ ?_
      rotate_left
      ·
       intro w hSw; (try dsimp only at hSw); go_simp; (try with_reducible rfl)
      (try simp only [Act.put, setIfInBounds_toArray, set_cons_zero, set_cons_succ])
      refine tk 7 ?_ rfl ?_ ?_
      rotate_left
      ·
       intro w hSw; (try dsimp only at hSw); go_simp; (try with_reducible rfl)
      (try simp only [Act.put, setIfInBounds_toArray, set_cons_zero, set_cons_succ])
      refine tk 8 ?_ rfl ?_ ?_
      rotate_left
      ·
       intro w hSw; (try dsimp only at hSw); go_simp; (try with_reducible rfl)
      (try simp only [Act.put, setIfInBounds_toArray, set_cons_zero, set_cons_succ])
      refine tk 9 ?_ rfl ?_ ?_
      rotate_left
      ·
       intro w hSw; (try dsimp only at hSw); go_simp; (try with_reducible rfl)
      (try simp only [Act.put, setIfInBounds_toArray, set_cons_zero, set_cons_succ])
      refine tk 10 ?_ rfl ?_ ?_
      rotate_left
      ·
       intro w hSw; (try dsimp only at hSw); go_simp; (try with_reducible rfl)
      (try simp only [Act.put, setIfInBounds_toArray, set_cons_zero, set_cons_succ])
      refine tk 11 ?_ rfl ?_ ?_
      rotate_left
      ·
       intro w hSw; (try dsimp only at hSw); go_simp; (try with_reducible rfl)
      (try simp only [Act.put, setIfInBounds_toArray, set_cons_zero, set_cons_succ])
      clear x0 x1 x2 x3 y0 y1 y2 y3
      refine wpAnyH_ready (rs := [12]) (by kernel_rfl) (by simp) ?_
      refine ready_l rfl (fun K hK => ?_) AllReadyH.nil
      go_simp
      go_at_call 25
      refine (hB1.out _ hb0.out).mono ?_
      rintro e qa ⟨rfl, hbx⟩
      have hb1 := Lib.hid (hb0.out.trans (hbx.mono hb0.out.size))
      refine hK.out _ _ (by exact hcells.out _ hb1.out) (fun hHeld12 => ?_)
      clear hK K hbx
      (try simp only [Act.put, setIfInBounds_toArray, set_cons_zero, set_cons_succ])
      cases v1 with
      | false =>
       refine tk 13 ?_ rfl ?_ ?_
       rotate_left
       ·
        intro w hSw; (try dsimp only at hSw); go_simp; (try with_reducible rfl)
       (try simp only [Act.put, setIfInBounds_toArray, set_cons_zero, set_cons_succ])
       refine tk 14 ?_ rfl ?_ ?_
       rotate_left
       ·
        intro w hSw; (try dsimp only at hSw); go_simp; (try with_reducible rfl)
       (try simp only [Act.put, setIfInBounds_toArray, set_cons_zero, set_cons_succ])
       refine take_l (i := 15) (v := undef) rfl (by kernel_rfl) (by kernel_rfl) (by kernel_rfl) (fun _ _ _ h => h) (Or.inr ⟨by kernel_rfl, rfl⟩) (by assumption) ?_
       (try simp only [Act.put, setIfInBounds_toArray, set_cons_zero, set_cons_succ])
       refine take_l (i := 16) (v := undef) rfl (by kernel_rfl) (by kernel_rfl) (by kernel_rfl) (fun _ _ _ h => h) (Or.inr ⟨by kernel_rfl, rfl⟩) (by assumption) ?_
       (try simp only [Act.put, setIfInBounds_toArray, set_cons_zero, set_cons_succ])
       refine take_l (i := 17) (v := undef) rfl (by kernel_rfl) (by kernel_rfl) (by kernel_rfl) (fun _ _ _ h => h) (Or.inr ⟨by kernel_rfl, rfl⟩) (by assumption) ?_
       (try simp only [Act.put, setIfInBounds_toArray, set_cons_zero, set_cons_succ])
       refine take_l (i := 18) (v := undef) rfl (by kernel_rfl) (by kernel_rfl) (by kernel_rfl) (fun _ _ _ h => h) (Or.inr ⟨by kernel_rfl, rfl⟩) (by assumption) ?_
       (try simp only [Act.put, setIfInBounds_toArray, set_cons_zero, set_cons_succ])
       refine take_l (i := 19) (v := undef) rfl (by kernel_rfl) (by kernel_rfl) (by kernel_rfl) (fun _ _ _ h => h) (Or.inr ⟨by kernel_rfl, rfl⟩) (by assumption) ?_
       (try simp only [Act.put, setIfInBounds_toArray, set_cons_zero, set_cons_succ])
       refine take_l (i := 20) (v := undef) rfl (by kernel_rfl) (by kernel_rfl) (by kernel_rfl) (fun _ _ _ h => h) (Or.inr ⟨by kernel_rfl, rfl⟩) (by assumption) ?_
       (try simp only [Act.put, setIfInBounds_toArray, set_cons_zero, set_cons_succ])
       refine take_l (i := 21) (v := undef) rfl (by kernel_rfl) (by kernel_rfl) (by kernel_rfl) (fun _ _ _ h => h) (Or.inr ⟨by kernel_rfl, rfl⟩) (by assumption) ?_
       (try simp only [Act.put, setIfInBounds_toArray, set_cons_zero, set_cons_succ])
       refine take_l (i := 22) (v := undef) rfl (by kernel_rfl) (by kernel_rfl) (by kernel_rfl) (fun _ _ _ h => h) (Or.inr ⟨by kernel_rfl, rfl⟩) (by assumption) ?_
       (try simp only [Act.put, setIfInBounds_toArray, set_cons_zero, set_cons_succ])
       refine take_l (i := 23) (v := undef) rfl (by kernel_rfl) (by kernel_rfl) (by kernel_rfl) (fun _ _ _ h => h) (Or.inr ⟨by kernel_rfl, rfl⟩) (by assumption) ?_
       (try simp only [Act.put, setIfInBounds_toArray, set_cons_zero, set_cons_succ])
       refine take_l (i := 24) (v := undef) rfl (by kernel_rfl) (by kernel_rfl) (by kernel_rfl) (fun _ _ _ h => h) (Or.inr ⟨by kernel_rfl, rfl⟩) (by assumption) ?_
       (try simp only [Act.put, setIfInBounds_toArray, set_cons_zero, set_cons_succ])
       refine take_l (i := 25) (v := undef) rfl (by kernel_rfl) (by kernel_rfl) (by kernel_rfl) (fun _ _ _ h => h) (Or.inr ⟨by kernel_rfl, rfl⟩) (by assumption) ?_
       (try simp only [Act.put, setIfInBounds_toArray, set_cons_zero, set_cons_succ])
       refine take_l (i := 26) (v := undef) rfl (by kernel_rfl) (by kernel_rfl) (by kernel_rfl) (fun _ _ _ h => h) (Or.inr ⟨by kernel_rfl, rfl⟩) (by assumption) ?_
       (try simp only [Act.put, setIfInBounds_toArray, set_cons_zero, set_cons_succ])
       refine take_l (i := 27) (v := undef) rfl (by kernel_rfl) (by kernel_rfl) (by kernel_rfl) (fun _ _ _ h => h) (Or.inr ⟨by kernel_rfl, rfl⟩) (by assumption) ?_
       (try simp only [Act.put, setIfInBounds_toArray, set_cons_zero, set_cons_succ])
       refine take_l (i := 28) (v := undef) rfl (by kernel_rfl) (by kernel_rfl) (by kernel_rfl) (fun _ _ _ h => h) (Or.inr ⟨by kernel_rfl, rfl⟩) (by assumption) ?_
       (try simp only [Act.put, setIfInBounds_toArray, set_cons_zero, set_cons_succ])
       refine take_l (i := 29) (v := undef) rfl (by kernel_rfl) (by kernel_rfl) (by kernel_rfl) (fun _ _ _ h => h) (Or.inr ⟨by kernel_rfl, rfl⟩) (by assumption) ?_
       (try simp only [Act.put, setIfInBounds_toArray, set_cons_zero, set_cons_succ])
       refine take_l (i := 30) (v := undef) rfl (by kernel_rfl) (by kernel_rfl) (by kernel_rfl) (fun _ _ _ h => h) (Or.inr ⟨by kernel_rfl, rfl⟩) (by assumption) ?_
       (try simp only [Act.put, setIfInBounds_toArray, set_cons_zero, set_cons_succ])
       refine take_l (i := 31) (v := undef) rfl (by kernel_rfl) (by kernel_rfl) (by kernel_rfl) (fun _ _ _ h => h) (Or.inr ⟨by kernel_rfl, rfl⟩) (by assumption) ?_
       (try simp only [Act.put, setIfInBounds_toArray, set_cons_zero, set_cons_succ])
       refine take_l (i := 32) (v := undef) rfl (by kernel_rfl) (by kernel_rfl) (by kernel_rfl) (fun _ _ _ h => h) (Or.inr ⟨by kernel_rfl, rfl⟩) (by assumption) ?_
       (try simp only [Act.put, setIfInBounds_toArray, set_cons_zero, set_cons_succ])
       refine take_l (i := 33) (v := undef) rfl (by kernel_rfl) (by kernel_rfl) (by kernel_rfl) (fun _ _ _ h => h) (Or.inr ⟨by kernel_rfl, rfl⟩) (by assumption) ?_
       (try simp only [Act.put, setIfInBounds_toArray, set_cons_zero, set_cons_succ])
       refine take_l (i := 34) (v := undef) rfl (by kernel_rfl) (by kernel_rfl) (by kernel_rfl) (fun _ _ _ h => h) (Or.inr ⟨by kernel_rfl, rfl⟩) (by assumption) ?_
       (try simp only [Act.put, setIfInBounds_toArray, set_cons_zero, set_cons_succ])
       refine take_l (i := 35) (v := undef) rfl (by kernel_rfl) (by kernel_rfl) (by kernel_rfl) (fun _ _ _ h => h) (Or.inr ⟨by kernel_rfl, rfl⟩) (by assumption) ?_
       (try simp only [Act.put, setIfInBounds_toArray, set_cons_zero, set_cons_succ])
       refine tk 36 ?_ rfl ?_ ?_
       rotate_left
       ·
        intro w hSw; (try dsimp only at hSw); go_simp; (try with_reducible rfl)
       (try simp only [Act.put, setIfInBounds_toArray, set_cons_zero, set_cons_succ])
       refine wpAnyH_done (by kernel_rfl) ?_ _
       have hn := hnext.out false bb (by rw [hba]; rfl) (by simp)
       have hbn := Lib.hid (hbd.out.trans (hb1.out.mono hbd.out.size))
       go_wp2_with fail
       exact ⟨⟨k + 1, bb, by omega, rfl, rfl, hn, hbn⟩, by simp [intOf]; omega⟩
      | true =>
       refine tk 13 ?_ rfl ?_ ?_
       rotate_left
       ·
        intro w hSw; (try dsimp only at hSw); go_simp; (try with_reducible rfl)
       (try simp only [Act.put, setIfInBounds_toArray, set_cons_zero, set_cons_succ])
       refine tk 14 ?_ rfl ?_ ?_
       rotate_left
       ·
        intro w hSw; (try dsimp only at hSw); go_simp; (try with_reducible rfl)
       (try simp only [Act.put, setIfInBounds_toArray, set_cons_zero, set_cons_succ])
       refine tk 15 ?_ rfl ?_ ?_
       rotate_left
       ·
        intro w hSw; (try dsimp only at hSw); go_simp; (try with_reducible rfl)
       (try simp only [Act.put, setIfInBounds_toArray, set_cons_zero, set_cons_succ])
       refine tk 16 ?_ rfl ?_ ?_
       rotate_left
       ·
        intro w hSw; (try dsimp only at hSw); go_simp; (try with_reducible rfl)
       (try simp only [Act.put, setIfInBounds_toArray, set_cons_zero, set_cons_succ])
       refine tk 17 ?_ rfl ?_ ?_
       rotate_left
       ·
        intro w hSw; (try dsimp only at hSw); go_simp; (try with_reducible rfl)
       (try simp only [Act.put, setIfInBounds_toArray, set_cons_zero, set_cons_succ])
       refine tk 18 ?_ rfl ?_ ?_
       rotate_left
       ·
        intro w hSw; (try dsimp only at hSw); go_simp; (try with_reducible rfl)
       (try simp only [Act.put, setIfInBounds_toArray, set_cons_zero, set_cons_succ])
       refine tk 19 ?_ rfl ?_ ?_
       rotate_left
       ·
        intro w hSw; (try dsimp only at hSw); go_simp; (try with_reducible rfl)
       (try simp only [Act.put, setIfInBounds_toArray, set_cons_zero, set_cons_succ])
       refine tk 20 ?_ rfl ?_ ?_
       rotate_left
       ·
        intro w hSw; (try dsimp only at hSw); go_simp; (try with_reducible rfl)
       (try simp only [Act.put, setIfInBounds_toArray, set_cons_zero, set_cons_succ])
       refine tk 21 ?_ rfl ?_ ?_
       rotate_left
       ·
        intro w hSw; (try dsimp only at hSw); go_simp; (try with_reducible rfl)
       (try simp only [Act.put, setIfInBounds_toArray, set_cons_zero, set_cons_succ])
       refine tk 22 ?_ rfl ?_ ?_
       rotate_left
       ·
        intro w hSw; (try dsimp only at hSw); go_simp; (try with_reducible rfl)
       (try simp only [Act.put, setIfInBounds_toArray, set_cons_zero, set_cons_succ])
       refine wpAnyH_ready (rs := [23]) (by kernel_rfl) (by simp) ?_
       refine ready_l rfl (fun K hK => ?_) AllReadyH.nil
       go_simp
       go_at_call 25
       refine (hB2.out _ hb1.out).mono ?_
       rintro e qb ⟨rfl, hbx⟩
       have hb2 := Lib.hid (hb1.out.trans (hbx.mono hb1.out.size))
       refine hK.out _ _ (by exact hcells.out _ hb2.out) (fun hHeld23 => ?_)
       clear hK K hbx
       (try simp only [Act.put, setIfInBounds_toArray, set_cons_zero, set_cons_succ])
       cases v2 with
       | false =>
        refine tk 24 ?_ rfl ?_ ?_
        rotate_left
        ·
         intro w hSw; (try dsimp only at hSw); go_simp; (try with_reducible rfl)
        (try simp only [Act.put, setIfInBounds_toArray, set_cons_zero, set_cons_succ])
        refine tk 25 ?_ rfl ?_ ?_
        rotate_left
        ·
         intro w hSw; (try dsimp only at hSw); go_simp; (try with_reducible rfl)
        (try simp only [Act.put, setIfInBounds_toArray, set_cons_zero, set_cons_succ])
        refine take_l (i := 26) (v := undef) rfl (by kernel_rfl) (by kernel_rfl) (by kernel_rfl) (fun _ _ _ h => h) (Or.inr ⟨by kernel_rfl, rfl⟩) (by assumption) ?_
        (try simp only [Act.put, setIfInBounds_toArray, set_cons_zero, set_cons_succ])
        refine take_l (i := 27) (v := undef) rfl (by kernel_rfl) (by kernel_rfl) (by kernel_rfl) (fun _ _ _ h => h) (Or.inr ⟨by kernel_rfl, rfl⟩) (by assumption) ?_
        (try simp only [Act.put, setIfInBounds_toArray, set_cons_zero, set_cons_succ])
        refine take_l (i := 28) (v := undef) rfl (by kernel_rfl) (by kernel_rfl) (by kernel_rfl) (fun _ _ _ h => h) (Or.inr ⟨by kernel_rfl, rfl⟩) (by assumption) ?_
        (try simp only [Act.put, setIfInBounds_toArray, set_cons_zero, set_cons_succ])
        refine take_l (i := 29) (v := undef) rfl (by kernel_rfl) (by kernel_rfl) (by kernel_rfl) (fun _ _ _ h => h) (Or.inr ⟨by kernel_rfl, rfl⟩) (by assumption) ?_
        (try simp only [Act.put, setIfInBounds_toArray, set_cons_zero, set_cons_succ])
        refine take_l (i := 30) (v := undef) rfl (by kernel_rfl) (by kernel_rfl) (by kernel_rfl) (fun _ _ _ h => h) (Or.inr ⟨by kernel_rfl, rfl⟩) (by assumption) ?_
        (try simp only [Act.put, setIfInBounds_toArray, set_cons_zero, set_cons_succ])
        refine take_l (i := 31) (v := undef) rfl (by kernel_rfl) (by kernel_rfl) (by kernel_rfl) (fun _ _ _ h => h) (Or.inr ⟨by kernel_rfl, rfl⟩) (by assumption) ?_
        (try simp only [Act.put, setIfInBounds_toArray, set_cons_zero, set_cons_succ])
        refine take_l (i := 32) (v := undef) rfl (by kernel_rfl) (by kernel_rfl) (by kernel_rfl) (fun _ _ _ h => h) (Or.inr ⟨by kernel_rfl, rfl⟩) (by assumption) ?_
        (try simp only [Act.put, setIfInBounds_toArray, set_cons_zero, set_cons_succ])
        refine take_l (i := 33) (v := undef) rfl (by kernel_rfl) (by kernel_rfl) (by kernel_rfl) (fun _ _ _ h => h) (Or.inr ⟨by kernel_rfl, rfl⟩) (by assumption) ?_
        (try simp only [Act.put, setIfInBounds_toArray, set_cons_zero, set_cons_succ])
        refine take_l (i := 34) (v := undef) rfl (by kernel_rfl) (by kernel_rfl) (by kernel_rfl) (fun _ _ _ h => h) (Or.inr ⟨by kernel_rfl, rfl⟩) (by assumption) ?_
        (try simp only [Act.put, setIfInBounds_toArray, set_cons_zero, set_cons_succ])
        refine tk 35 ?_ rfl ?_ ?_
        rotate_left
        ·
         intro w hSw; (try dsimp only at hSw); go_simp; (try with_reducible rfl)
        (try simp only [Act.put, setIfInBounds_toArray, set_cons_zero, set_cons_succ])
        refine tk 36 ?_ rfl ?_ ?_
        rotate_left
        ·
         intro w hSw; (try dsimp only at hSw); go_simp; (try with_reducible rfl)
        (try simp only [Act.put, setIfInBounds_toArray, set_cons_zero, set_cons_succ])
        refine wpAnyH_done (by kernel_rfl) ?_ _
        have hn := hnext.out true false (by rw [hba]; rfl) (by simp)
        have hbn := Lib.hid (hbd.out.trans (hb2.out.mono hbd.out.size))
        go_wp2_with fail
        exact ⟨⟨k + 1, false, by omega, rfl, rfl, hn, hbn⟩, by simp [intOf]; omega⟩
       | true =>
        refine tk 24 ?_ rfl ?_ ?_
        rotate_left
        ·
         intro w hSw; (try dsimp only at hSw); go_simp; (try with_reducible rfl)
        (try simp only [Act.put, setIfInBounds_toArray, set_cons_zero, set_cons_succ])
        refine tk 25 ?_ rfl ?_ ?_
        rotate_left
        ·
         intro w hSw; (try dsimp only at hSw); go_simp; (try with_reducible rfl)
        (try simp only [Act.put, setIfInBounds_toArray, set_cons_zero, set_cons_succ])
        refine tk 26 ?_ rfl ?_ ?_
        rotate_left
        ·
         intro w hSw; (try dsimp only at hSw); go_simp; (try with_reducible rfl)
        (try simp only [Act.put, setIfInBounds_toArray, set_cons_zero, set_cons_succ])
        refine tk 27 ?_ rfl ?_ ?_
        rotate_left
        ·
         intro w hSw; (try dsimp only at hSw); go_simp; (try with_reducible rfl)
        (try simp only [Act.put, setIfInBounds_toArray, set_cons_zero, set_cons_succ])
        refine tk 28 ?_ rfl ?_ ?_
        rotate_left
        ·
         intro w hSw; (try dsimp only at hSw); go_simp; (try with_reducible rfl)
        (try simp only [Act.put, setIfInBounds_toArray, set_cons_zero, set_cons_succ])
        refine tk 29 ?_ rfl ?_ ?_
        rotate_left
        ·
         intro w hSw; (try dsimp only at hSw); go_simp; (try with_reducible rfl)
        (try simp only [Act.put, setIfInBounds_toArray, set_cons_zero, set_cons_succ])
        refine tk 30 ?_ rfl ?_ ?_
        rotate_left
        ·
         intro w hSw; (try dsimp only at hSw); go_simp; (try with_reducible rfl)
        (try simp only [Act.put, setIfInBounds_toArray, set_cons_zero, set_cons_succ])
        refine tk 31 ?_ rfl ?_ ?_
        rotate_left
        ·
         intro w hSw; (try dsimp only at hSw); go_simp; (try with_reducible rfl)
        (try simp only [Act.put, setIfInBounds_toArray, set_cons_zero, set_cons_succ])
        refine tk 32 ?_ rfl ?_ ?_
        rotate_left
        ·
         intro w hSw; (try dsimp only at hSw); go_simp; (try with_reducible rfl)
        (try simp only [Act.put, setIfInBounds_toArray, set_cons_zero, set_cons_succ])
        refine tk 33 ?_ rfl ?_ ?_
        rotate_left
        ·
         intro w hSw; (try dsimp only at hSw); go_simp; (try with_reducible rfl)
        (try simp only [Act.put, setIfInBounds_toArray, set_cons_zero, set_cons_succ])
        refine wpAnyH_ready (rs := [34]) (by kernel_rfl) (by simp) ?_
        refine ready_l rfl (fun K hK => ?_) AllReadyH.nil
        go_simp
        go_at_call 52
        refine (hAh.out _ hb2.out).mono ?_
        rintro e qc ⟨rfl, hbx⟩
        have hb3 := Lib.hid (hb2.out.trans (hbx.mono hb2.out.size))
        refine hK.out _ _ (by exact hcells.out _ hb3.out) (fun hHeld34 => ?_)
        clear hK K hbx
        (try simp only [Act.put, setIfInBounds_toArray, set_cons_zero, set_cons_succ])
        cases v3 with
        | false =>
         refine tk 35 ?_ rfl ?_ ?_
         rotate_left
         ·
          intro w hSw; (try dsimp only at hSw); go_simp; (try with_reducible rfl)
         (try simp only [Act.put, setIfInBounds_toArray, set_cons_zero, set_cons_succ])
         refine tk 36 ?_ rfl ?_ ?_
         rotate_left
         ·
          intro w hSw; (try dsimp only at hSw); go_simp; (try with_reducible rfl)
         (try simp only [Act.put, setIfInBounds_toArray, set_cons_zero, set_cons_succ])
         refine wpAnyH_done (by kernel_rfl) ?_ _
         have hn := hnext.out false bb (by rw [hba]; rfl) (by simp)
         have hbn := Lib.hid (hbd.out.trans (hb3.out.mono hbd.out.size))
         go_wp2_with fail
         exact ⟨⟨k + 1, bb, by omega, rfl, rfl, hn, hbn⟩, by simp [intOf]; omega⟩
        | true =>
         refine tk 35 ?_ rfl ?_ ?_
         rotate_left
         ·
          intro w hSw; (try dsimp only at hSw); go_simp; (try with_reducible rfl)
         (try simp only [Act.put, setIfInBounds_toArray, set_cons_zero, set_cons_succ])
         refine tk 36 ?_ rfl ?_ ?_
         rotate_left
         ·
          intro w hSw; (try dsimp only at hSw); go_simp; (try with_reducible rfl)
         (try simp only [Act.put, setIfInBounds_toArray, set_cons_zero, set_cons_succ])
         refine wpAnyH_done (by kernel_rfl) ?_ _
         have hn := hnext.out true false (by rw [hba]; rfl) (by simp)
         have hbn := Lib.hid (hbd.out.trans (hb3.out.mono hbd.out.size))
         go_wp2_with fail
         exact ⟨⟨k + 1, false, by omega, rfl, rfl, hn, hbn⟩, by simp [intOf]; omega⟩
    ·
     have hkno : decide ((k : Int) < (n : Int)) = false := decide_eq_false (by omega)
     obtain rfl : k = n := by omega
     obtain ⟨wp, hwp⟩ : ∃ wp, wp = wr := ⟨_, rfl⟩
     subst hwp
     have hbs : bb = true ↔ isBest A A[i]! = true := by rw [hbst.out, hbi.out, ← hnA.out]
     have hIp := Lib.hid (hI.out.later hbr.out)
     have hAp := Lib.hid (hAll.out.later (hI.out.below.trans (hbr.out.mono hI.out.below.size)))
     clear hI hbr hbst hbi
     cases bb with
     | false =>
      have hnb : isBest A A[i]! = false := by rw [Bool.eq_false_iff]; intro h; exact Bool.false_ne_true (hbs.2 h)
      have hn : Hid (∃ zs R, RouI w1 wp (.slice ox m oc) zs R ∧ GathR A (i + 1) R) := ⟨zs, R, hIp.out, hG.out.skip hiA.out hnb⟩
      replace hbs := Lib.hid hbs
      clear hIp hAp hnb
      go_wp2_with fail
      exact ⟨⟨i + 1, by omega, rfl, hn⟩, by simp [intOf]; omega⟩
     | true =>
      have hyb : Hid (isBest A A[i]! = true) := hbs.1 rfl
      replace hbs := Lib.hid hbs
      have hst : Hid (∀ j, m ≤ j → j < m → aheadP A[i]! R[j]! = true) := fun j h1 h2 => absurd h2 (by omega)
      have hbk := Lib.hid (Below.refl wp.heap.size wp)
      go_wp2_with fail
      go_loopw [16] (fun kv wr => ∃ q : Nat, q ≤ m ∧ kv = .int .i64 (q : Int) ∧ Hid (∀ j, q ≤ j → j < m → aheadP A[i]! R[j]! = true) ∧ Hid (Below wp.heap.size wp wr)) (fun kv _ => (intOf kv).toNat)
      case atStart => exact ⟨m, Nat.le_refl _, rfl, hst, hbk⟩
      case round =>
       obtain ⟨q, hq, rfl, haf, hbr⟩ := hrel
       clear hst hbk
       by_cases hq0 : q = 0
       ·
        have e1 : decide ((q : Int) > 0) = false := decide_eq_false (by omega)
        have e2 : decide ((0 : Int) < (q : Int)) = false := decide_eq_false (by omega)
        have e3 : decide (0 < q) = false := decide_eq_false (by omega)
        go_upto_region 14 with fail
        go_quiet (fail)
        obtain ⟨wq, hwq⟩ : ∃ wq, wq = wr.drewN nq := ⟨_, rfl⟩
        have hbq := Lib.hid (below_drewN hbr.out nq)
        rw [← hwq] at hbq ⊢
        clear hwq hbr
        have hbef0 : Hid (q = 0) := hq0
        replace hq0 := Lib.hid hq0
        clear e1 e2 e3
        have hbef : Hid (q = 0 ∨ aheadP A[i]! R[q - 1]! = false) := .inl hbef0.out
        have hIq := hIp.out.later hbq.out
        have hAq := hAp.out.later hbq.out
        obtain ⟨b, ea, ec, ca, cc, ha, hbl, hz, x0, x1, x2, x3, hok⟩ := hAq.row (i := i) (by rw [hnn.out]; exact hlt)
        cases ha
        have hg := Lib.hid (hG.out.ins hiA.out (by exact hyb.out) (by rw [← hzl.out]; exact hq) (fun j h1 h2 => (by exact haf.out j h1 (by rw [hzl.out]; exact h2))) hbef.out)
        have hrow := sliceAt_of_own hIq.own
        rw [hzn.out] at hrow
        have htk := SliceAt.takeS (s := 4) hrow hq
        have hdr := SliceAt.dropS (s := 4) hrow hq
        rw [← rouCells_take] at htk
        rw [← rouCells_drop] at hdr
        have hone1 : Hid (∀ u ∈ rouCells (zs.take q), u.oneCell' = true) := rouCells_one fun z hz => hIq.ok z (List.mem_of_mem_take hz)
        have hone2 : Hid (∀ u ∈ rouCells (zs.drop q), u.oneCell' = true) := rouCells_one fun z hz => hIq.ok z (List.mem_of_mem_drop hz)
        have hl1 : Hid ((rouCells (zs.take q)).length = q * 4) := (show (rouCells (zs.take q)).length = q * 4 by rw [rouCells_len, List.length_take]; have := hzn.out; omega)
        have hl2 : Hid ((rouCells (zs.drop q)).length = (m - q) * 4) := (show (rouCells (zs.drop q)).length = (m - q) * 4 by rw [rouCells_len, List.length_drop, hzn.out])
        have ht1 : Hid ((zs.take q).length = q) := (show (zs.take q).length = q by rw [List.length_take]; have := hzn.out; omega)
        have ht2 : Hid ((zs.drop q).length = m - q) := (show (zs.drop q).length = m - q by rw [List.length_drop, hzn.out])
        have hmt : Hid ((zs.take q).map RouM.r = R.take q) := (show (zs.take q).map RouM.r = R.take q by rw [List.map_take, hIq.eq])
        have hmd : Hid ((zs.drop q).map RouM.r = R.drop q) := (show (zs.drop q).map RouM.r = R.drop q by rw [List.map_drop, hIq.eq])
        have hokt : Hid (∀ z ∈ zs.take q, OkR z wq) := fun z hz => hIq.ok z (List.mem_of_mem_take hz)
        have hokd : Hid (∀ z ∈ zs.drop q, OkR z wq) := fun z hz => hIq.ok z (List.mem_of_mem_drop hz)
        have hoc : m ≤ oc := by
         obtain ⟨_, cap, e, h1, _, _⟩ := hrow
         injection e with _ _ e3
         omega
        have hbIq := Lib.hid hIq.below
        have p1 : (q : Int) ≤ (oc : Int) := by omega
        have p2 : q ≤ oc := by omega
        have p3 : (q : Int) ≤ (m : Int) := by omega
        have p4 : (0 : Int) ≤ (q : Int) := by omega
        replace hrow := Lib.hid hrow
        replace htk := Lib.hid htk
        replace hdr := Lib.hid hdr
        replace hok := Lib.hid hok
        replace hz := Lib.hid hz
        clear hIq hAq hbef
        go_wp2_with (at_builtin; refine wpList_append_src rfl _ _ 48 rfl wq.heap.size 33 r0 (.agg #[.slice none 0 0, .int .i64 0, .int .i64 0, .slice none 0 0]) 4 64 Tryz.underlying48 hr_.out hy0 hy1 hy2 rfl (by decide) _ 0 _ rfl (World.ownsRow_nil wq wq.heap.size _ 4) _ q _ (rouCells (zs.take q)) rfl htk.out hl1.out hone1.out ?qa1 ?qb1 ?qc1 ?_)
        case qa1 => unfold maxLen; omega
        case qb1 => omega
        all_goals (try (case qc1 => exact Nat.le_refl _))
        intro v1 w4 hown hgrow
        have hN1 := (RouI.nil wq wq (Below.refl _ _)).add hmt.out hokt.out (by rw [ht1.out]; first | exact hown | simpa [rouCells] using hown) hgrow
        rw [List.nil_append, List.nil_append] at hN1
        have hb4 := hN1.below
        have y0 := (hb4.cell (p := ⟨b, _, none⟩) hbl).trans x0
        have y1 := (hb4.cell (p := ⟨b, _, none⟩) hbl).trans x1
        have y2 := (hb4.cell (p := ⟨b, _, none⟩) hbl).trans x2
        have y3 := (hb4.cell (p := ⟨b, _, none⟩) hbl).trans x3
        generalize hri2 : A[i]! = r2 at *
        have hba := lit_below w4 (.cells #[.slice ea r2.edges.length ec, .int .i64 r2.cost, .int .i64 r2.life, .slice ca r2.claims.length cc] 33)
        have hN2 := hN1.later hba
        have hok4 := Lib.hid ((hok.out.below hb4).below hba)
        have hnews : ∀ j y, [Value.slice ea r2.edges.length ec, .int .i64 r2.cost, .int .i64 r2.life, .slice ca r2.claims.length cc][j]? = some y → (w4.alloc (.cells #[.slice ea r2.edges.length ec, .int .i64 r2.cost, .int .i64 r2.life, .slice ca r2.claims.length cc] 33)).cell? ((⟨w4.heap.size, 0, none⟩ : Addr).add j) = some y := fun j y hy => cells_new w4 [Value.slice ea r2.edges.length ec, .int .i64 r2.cost, .int .i64 r2.life, .slice ca r2.claims.length cc] 33 j y hy
        have hsz : Hid (wq.heap.size ≤ w4.heap.size) := hb4.size
        have hown2 := hN2.own
        rw [ht1.out] at hown2
        replace hown2 := Lib.hid hown2
        replace hN2 := Lib.hid hN2
        replace hri2 := Lib.hid hri2
        clear hN1 hown hgrow hb4 hba x0 x1 x2 x3
        go_wp2_with (at_builtin; go_loud (refine wpList_append_own _ rfl _ _ 48 rfl wq.heap.size 33 r0 (.agg #[.slice none 0 0, .int .i64 0, .int .i64 0, .slice none 0 0]) 4 64 Tryz.underlying48 hr_.out hy0 hy1 hy2 rfl (by decide) _ q _ rfl hown2.out ⟨w4.heap.size, 0, none⟩ 1 1 [.slice ea r2.edges.length ec, .int .i64 r2.cost, .int .i64 r2.life, .slice ca r2.claims.length cc] rfl rfl hnews (by simp [Value.oneCell']) ?qa2 ?qb2 ?qc2 ?_))
        case qa2 => unfold maxLen; omega
        case qb2 => omega
        case qc2 => have := hsz.out; (try simp only [World.size_alloc]); omega
        intro v2 w5 hown4 hgrow hnil
        have hN3 := hN2.out.add (zs' := [⟨r2, .slice ea r2.edges.length ec, .slice ca r2.claims.length cc⟩]) rfl (fun z hz => by rw [List.mem_singleton.1 hz]; exact hok4.out) (by rw [ht1.out]; exact hown4) hgrow
        have hdr5 := Lib.hid (SliceAt.later hdr.out hN3.below)
        have hlen3 : (zs.take q ++ [(⟨r2, .slice ea r2.edges.length ec, .slice ca r2.claims.length cc⟩ : RouM)]).length = q + 1 := by rw [List.length_append, ht1.out]; rfl
        have hown3 := hN3.own
        rw [hlen3] at hown3
        replace hlen3 := Lib.hid hlen3
        replace hown3 := Lib.hid hown3
        have hok5 : Hid (∀ z ∈ zs.drop q, OkR z w5) := fun z hz => (hokd.out z hz).below hN3.below
        have hsz5 : Hid (wq.heap.size ≤ w5.heap.size) := hN3.below.size
        replace hN3 := Lib.hid hN3
        clear hown2 hown4 hgrow hnil hnews hN2 hsz y0 y1 y2 y3
        by_cases hck : oc = q
        ·
         have hmq : m - q = 0 := by omega
         have hd6 := hdr5.out
         rw [if_pos hck] at hd6
         have hocq : oc - q = 0 := by omega
         rw [hmq, hocq] at hd6
         replace hd6 := Lib.hid hd6
         have hl2b := hl2.out
         rw [hmq] at hl2b
         replace hl2b := Lib.hid hl2b
         have hqm : q = m := by omega
         subst hck
         have e9 : (oc == oc) = true := beq_self_eq_true _
         replace hmq := Lib.hid hmq
         replace hqm := Lib.hid hqm
         replace hocq := Lib.hid hocq
         go_wp2_with (at_builtin; go_loud (refine wpList_append_src rfl _ _ 48 rfl wq.heap.size 33 r0 (.agg #[.slice none 0 0, .int .i64 0, .int .i64 0, .slice none 0 0]) 4 64 Tryz.underlying48 hr_.out hy0 hy1 hy2 rfl (by decide) _ (oc + 1) _ rfl hown3.out _ 0 _ (rouCells (zs.drop oc)) rfl hd6.out hl2b.out hone2.out ?qa3 ?qb3 ?qc3 ?_))
         case qa3 => unfold maxLen; omega
         case qb3 => omega
         case qc3 => exact hsz5.out
         intro v3 w6 hown6 hgrow6
         have hN4 := hN3.out.add hmd.out hok5.out (by rw [hlen3.out, ht2.out, hmq.out]; exact hown6) hgrow6
         have hn : Hid (∃ zs R, RouI w1 w6 v3 zs R ∧ GathR A (i + 1) R) := ⟨_, _, ⟨hN4.eq, own_base hN4.own hbIq.out.size, hN4.ok, hbIq.out.trans (hN4.below.mono hbIq.out.size)⟩, hg.out⟩
         clear hown6 hgrow6 hN4 hN3 hown3 hd6 hl2b
         go_wp2_with fail
         exact ⟨⟨i + 1, by omega, rfl, hn⟩, by simp [intOf]; omega⟩
        ·
         have hd6 := hdr5.out
         rw [if_neg hck] at hd6
         (try simp only [Option.map_some, Addr.add_mid, Nat.zero_add] at hd6)
         replace hd6 := Lib.hid hd6
         have hl2b := hl2
         have e9 : (oc == q) = false := beq_false_of_ne hck
         have e10 : decide (oc = q) = false := decide_eq_false hck
         go_wp2_with (at_builtin; go_loud (refine wpList_append_src rfl _ _ 48 rfl wq.heap.size 33 r0 (.agg #[.slice none 0 0, .int .i64 0, .int .i64 0, .slice none 0 0]) 4 64 Tryz.underlying48 hr_.out hy0 hy1 hy2 rfl (by decide) _ (q + 1) _ rfl hown3.out _ (m - q) _ (rouCells (zs.drop q)) rfl hd6.out hl2b.out hone2.out ?qa4 ?qb4 ?qc4 ?_))
         case qa4 => unfold maxLen; omega
         case qb4 => omega
         case qc4 => exact hsz5.out
         intro v3 w6 hown6 hgrow6
         have hN4 := hN3.out.add hmd.out hok5.out (by rw [hlen3.out, ht2.out]; exact hown6) hgrow6
         have hn : Hid (∃ zs R, RouI w1 w6 v3 zs R ∧ GathR A (i + 1) R) := ⟨_, _, ⟨hN4.eq, own_base hN4.own hbIq.out.size, hN4.ok, hbIq.out.trans (hN4.below.mono hbIq.out.size)⟩, hg.out⟩
         clear hown6 hgrow6 hN4 hN3 hown3 hd6 hl2b
         go_wp2_with fail
         exact ⟨⟨i + 1, by omega, rfl, hn⟩, by simp [intOf]; omega⟩
       ·
        obtain ⟨j, hj⟩ : ∃ j, q = j + 1 := ⟨q - 1, by omega⟩
        have e1 : decide ((q : Int) > 0) = true := decide_eq_true (by omega)
        have e2 : decide ((0 : Int) < (q : Int)) = true := decide_eq_true (by omega)
        have e3 : decide (0 < q) = true := decide_eq_true (by omega)
        have hwj : IntKind.i64.wrap ((q : Int) - 1) = (j : Int) := by rw [show (q : Int) - 1 = (j : Int) by omega]; exact IntWalk.i64_in _ (by omega)
        have q0 : (0 : Int) ≤ (j : Int) := by omega
        have q1 : (j : Int) < (m : Int) := by omega
        have hjm : j < m := by omega
        have hbd := hbr.out.drew
        have hId := hIp.out.later hbd
        have hAd := hAp.out.later hbd
        obtain ⟨b, ea, ec, ca, cc, ha, hbl, _, x0, x1, x2, x3, hok⟩ := hAd.row (i := i) (by rw [hnn.out]; exact hlt)
        subst ha
        obtain ⟨b', ea', ec', ca', cc', ha', hbl', _, y0, y1, y2, y3, hok'⟩ := hId.row (i := j) (by rw [hzn.out]; exact hjm)
        subst ha'
        have hqj : R[q - 1]! = R[j]! := by rw [hj, Nat.add_sub_cancel]
        have hah := ahead11_any A[i]! R[j]! ea ea' ca ca' cc cc' ec ec' wr.drew (NumsT.at hok.1) (NumsT.at hok'.1)
        have haf2 : aheadP A[i]! R[j]! = true → ∀ j2, j ≤ j2 → j2 < m → aheadP A[i]! R[j2]! = true := fun h j2 h1 h2 => by
         by_cases e9 : j2 = j
         ·
          rw [e9]; exact h
         ·
          exact haf.out j2 (by omega) h2
        have hfal : aheadP A[i]! R[j]! = false → aheadP A[i]! R[q - 1]! = false := fun h => by rw [hqj]; exact h
        generalize hav : aheadP A[i]! R[j]! = av at *
        generalize hri : A[i]! = r at *
        generalize hrj : R[j]! = s at *
        replace hah := Lib.hid hah
        replace haf2 := Lib.hid haf2
        replace hfal := Lib.hid hfal
        replace hqj := Lib.hid hqj
        replace hav := Lib.hid hav
        replace hri := Lib.hid hri
        replace hrj := Lib.hid hrj
        replace hok := Lib.hid hok
        replace hok' := Lib.hid hok'
        replace hj := Lib.hid hj
        replace hq0 := Lib.hid hq0
        replace hbd := Lib.hid hbd
        clear hId hAd
        go_upto_region 14 with fail
        refine wp_region_held_drew (S := fun w' => w'.cell? ⟨b, i * 4, none⟩ = some (.slice ea r.edges.length ec) ∧ w'.cell? ⟨b, i * 4 + 1, none⟩ = some (.int .i64 r.cost) ∧ w'.cell? ⟨b, i * 4 + 2, none⟩ = some (.int .i64 r.life) ∧ w'.cell? ⟨b, i * 4 + 3, none⟩ = some (.slice ca r.claims.length cc) ∧ w'.cell? ⟨b', j * 4, none⟩ = some (.slice ea' s.edges.length ec') ∧ w'.cell? ⟨b', j * 4 + 1, none⟩ = some (.int .i64 s.cost) ∧ w'.cell? ⟨b', j * 4 + 2, none⟩ = some (.int .i64 s.life) ∧ w'.cell? ⟨b', j * 4 + 3, none⟩ = some (.slice ca' s.claims.length cc')) (by kernel_rfl) (by exact ⟨x0, x1, x2, x3, y0, y1, y2, y3⟩) (fun hHeld => ?_)
        refine tk 0 ?_ rfl ?_ ?_
        rotate_left
        ·
         intro w hSw; (try dsimp only at hSw); go_simp; (try with_reducible rfl)
        (try simp only [Act.put, setIfInBounds_toArray, set_cons_zero, set_cons_succ])
        refine tk 1 ?_ rfl ?_ ?_
        rotate_left
        ·
         intro w hSw; (try dsimp only at hSw); go_simp; (try with_reducible rfl)
        (try simp only [Act.put, setIfInBounds_toArray, set_cons_zero, set_cons_succ])
        refine tk 2 ?_ rfl ?_ ?_
        rotate_left
        ·
         intro w hSw; (try dsimp only at hSw); go_simp; (try with_reducible rfl)
        (try simp only [Act.put, setIfInBounds_toArray, set_cons_zero, set_cons_succ])
        refine tk 3 ?_ rfl ?_ ?_
        rotate_left
        ·
         intro w hSw; (try dsimp only at hSw); go_simp; (try with_reducible rfl)
        (try simp only [Act.put, setIfInBounds_toArray, set_cons_zero, set_cons_succ])
        refine tk 4 ?_ rfl ?_ ?_
        rotate_left
        ·
         intro w hSw; (try dsimp only at hSw); go_simp; (try with_reducible rfl)
        (try simp only [Act.put, setIfInBounds_toArray, set_cons_zero, set_cons_succ])
        refine tk 5 ?_ rfl ?_ ?_
        rotate_left
        ·
         intro w hSw; (try dsimp only at hSw); go_simp; (try with_reducible rfl)
        (try simp only [Act.put, setIfInBounds_toArray, set_cons_zero, set_cons_succ])
        refine tk 6 ?_ rfl ?_ ?_
        rotate_left
        ·
         intro w hSw; (try dsimp only at hSw); go_simp; (try with_reducible rfl)
        (try simp only [Act.put, setIfInBounds_toArray, set_cons_zero, set_cons_succ])
        refine tk 7 ?_ rfl ?_ ?_
        rotate_left
        ·
         intro w hSw; (try dsimp only at hSw); go_simp; (try with_reducible rfl)
        (try simp only [Act.put, setIfInBounds_toArray, set_cons_zero, set_cons_succ])
        refine tk 8 ?_ rfl ?_ ?_
        rotate_left
        ·
         intro w hSw; (try dsimp only at hSw); go_simp; (try with_reducible rfl)
        (try simp only [Act.put, setIfInBounds_toArray, set_cons_zero, set_cons_succ])
        refine tk 9 ?_ rfl ?_ ?_
        rotate_left
        ·
         intro w hSw; (try dsimp only at hSw); go_simp; (try with_reducible rfl)
        (try simp only [Act.put, setIfInBounds_toArray, set_cons_zero, set_cons_succ])
        refine tk 10 ?_ rfl ?_ ?_
        rotate_left
        ·
         intro w hSw; (try dsimp only at hSw); go_simp; (try with_reducible rfl)
        (try simp only [Act.put, setIfInBounds_toArray, set_cons_zero, set_cons_succ])
        refine tk 11 ?_ rfl ?_ ?_
        rotate_left
        ·
         intro w hSw; (try dsimp only at hSw); go_simp; (try with_reducible rfl)
        (try simp only [Act.put, setIfInBounds_toArray, set_cons_zero, set_cons_succ])
        refine wpAnyH_ready (rs := [12]) (by kernel_rfl) (by simp) ?_
        refine ready_l rfl (fun K hK => ?_) AllReadyH.nil
        go_simp
        go_at_call 52
        refine hah.out.mono ?_
        rintro e wq ⟨rfl, hbx⟩
        refine hK.out _ _ (by exact ⟨(hbx.cell (p := ⟨b, _, none⟩) hbl).trans x0, (hbx.cell (p := ⟨b, _, none⟩) hbl).trans x1, (hbx.cell (p := ⟨b, _, none⟩) hbl).trans x2, (hbx.cell (p := ⟨b, _, none⟩) hbl).trans x3, (hbx.cell (p := ⟨b', _, none⟩) hbl').trans y0, (hbx.cell (p := ⟨b', _, none⟩) hbl').trans y1, (hbx.cell (p := ⟨b', _, none⟩) hbl').trans y2, (hbx.cell (p := ⟨b', _, none⟩) hbl').trans y3⟩) (fun hHeld2 => ?_)
        clear hK K hHeld
        (try simp only [Act.put, setIfInBounds_toArray, set_cons_zero, set_cons_succ])
        have hbq := Lib.hid (hbd.out.trans (hbx.mono hbd.out.size))
        clear hbx x0 x1 x2 x3 y0 y1 y2 y3 hah hok hok' hbd hbr
        refine tk 13 ?_ rfl ?_ ?_
        rotate_left
        ·
         intro w hSw; (try dsimp only at hSw); go_simp; (try with_reducible rfl)
        (try simp only [Act.put, setIfInBounds_toArray, set_cons_zero, set_cons_succ])
        refine wpAnyH_done (by kernel_rfl) ?_ _
        clear hHeld2
        cases av with
        | false =>
         have hbef0 := Lib.hid (hfal.out rfl)
         have hri2 := hri.out
         skip
         have hbef : Hid (q = 0 ∨ aheadP A[i]! R[q - 1]! = false) := .inr (by rw [hri.out]; exact hbef0.out)
         have hIq := hIp.out.later hbq.out
         have hAq := hAp.out.later hbq.out
         obtain ⟨b, ea, ec, ca, cc, ha, hbl, hz, x0, x1, x2, x3, hok⟩ := hAq.row (i := i) (by rw [hnn.out]; exact hlt)
         cases ha
         have hg := Lib.hid (hG.out.ins hiA.out (by rw [hri.out]; exact hyb.out) (by rw [← hzl.out]; exact hq) (fun j h1 h2 => (by rw [hri.out]; exact haf.out j h1 (by rw [hzl.out]; exact h2))) hbef.out)
         have hrow := sliceAt_of_own hIq.own
         rw [hzn.out] at hrow
         have htk := SliceAt.takeS (s := 4) hrow hq
         have hdr := SliceAt.dropS (s := 4) hrow hq
         rw [← rouCells_take] at htk
         rw [← rouCells_drop] at hdr
         have hone1 : Hid (∀ u ∈ rouCells (zs.take q), u.oneCell' = true) := rouCells_one fun z hz => hIq.ok z (List.mem_of_mem_take hz)
         have hone2 : Hid (∀ u ∈ rouCells (zs.drop q), u.oneCell' = true) := rouCells_one fun z hz => hIq.ok z (List.mem_of_mem_drop hz)
         have hl1 : Hid ((rouCells (zs.take q)).length = q * 4) := (show (rouCells (zs.take q)).length = q * 4 by rw [rouCells_len, List.length_take]; have := hzn.out; omega)
         have hl2 : Hid ((rouCells (zs.drop q)).length = (m - q) * 4) := (show (rouCells (zs.drop q)).length = (m - q) * 4 by rw [rouCells_len, List.length_drop, hzn.out])
         have ht1 : Hid ((zs.take q).length = q) := (show (zs.take q).length = q by rw [List.length_take]; have := hzn.out; omega)
         have ht2 : Hid ((zs.drop q).length = m - q) := (show (zs.drop q).length = m - q by rw [List.length_drop, hzn.out])
         have hmt : Hid ((zs.take q).map RouM.r = R.take q) := (show (zs.take q).map RouM.r = R.take q by rw [List.map_take, hIq.eq])
         have hmd : Hid ((zs.drop q).map RouM.r = R.drop q) := (show (zs.drop q).map RouM.r = R.drop q by rw [List.map_drop, hIq.eq])
         have hokt : Hid (∀ z ∈ zs.take q, OkR z wq) := fun z hz => hIq.ok z (List.mem_of_mem_take hz)
         have hokd : Hid (∀ z ∈ zs.drop q, OkR z wq) := fun z hz => hIq.ok z (List.mem_of_mem_drop hz)
         have hoc : m ≤ oc := by
          obtain ⟨_, cap, e, h1, _, _⟩ := hrow
          injection e with _ _ e3
          omega
         have hbIq := Lib.hid hIq.below
         have p1 : (q : Int) ≤ (oc : Int) := by omega
         have p2 : q ≤ oc := by omega
         have p3 : (q : Int) ≤ (m : Int) := by omega
         have p4 : (0 : Int) ≤ (q : Int) := by omega
         replace hrow := Lib.hid hrow
         replace htk := Lib.hid htk
         replace hdr := Lib.hid hdr
         replace hok := Lib.hid hok
         replace hz := Lib.hid hz
         clear hIq hAq hbef
         go_wp2_with (at_builtin; refine wpList_append_src rfl _ _ 48 rfl wq.heap.size 33 r0 (.agg #[.slice none 0 0, .int .i64 0, .int .i64 0, .slice none 0 0]) 4 64 Tryz.underlying48 hr_.out hy0 hy1 hy2 rfl (by decide) _ 0 _ rfl (World.ownsRow_nil wq wq.heap.size _ 4) _ q _ (rouCells (zs.take q)) rfl htk.out hl1.out hone1.out ?qa5 ?qb5 ?qc5 ?_)
         case qa5 => unfold maxLen; omega
         case qb5 => omega
         all_goals (try (case qc5 => exact Nat.le_refl _))
         intro v1 w4 hown hgrow
         have hN1 := (RouI.nil wq wq (Below.refl _ _)).add hmt.out hokt.out (by rw [ht1.out]; first | exact hown | simpa [rouCells] using hown) hgrow
         rw [List.nil_append, List.nil_append] at hN1
         have hb4 := hN1.below
         have y0 := (hb4.cell (p := ⟨b, _, none⟩) hbl).trans x0
         have y1 := (hb4.cell (p := ⟨b, _, none⟩) hbl).trans x1
         have y2 := (hb4.cell (p := ⟨b, _, none⟩) hbl).trans x2
         have y3 := (hb4.cell (p := ⟨b, _, none⟩) hbl).trans x3
         generalize hri2 : A[i]! = r2 at *
         have hba := lit_below w4 (.cells #[.slice ea r2.edges.length ec, .int .i64 r2.cost, .int .i64 r2.life, .slice ca r2.claims.length cc] 33)
         have hN2 := hN1.later hba
         have hok4 := Lib.hid ((hok.out.below hb4).below hba)
         have hnews : ∀ j y, [Value.slice ea r2.edges.length ec, .int .i64 r2.cost, .int .i64 r2.life, .slice ca r2.claims.length cc][j]? = some y → (w4.alloc (.cells #[.slice ea r2.edges.length ec, .int .i64 r2.cost, .int .i64 r2.life, .slice ca r2.claims.length cc] 33)).cell? ((⟨w4.heap.size, 0, none⟩ : Addr).add j) = some y := fun j y hy => cells_new w4 [Value.slice ea r2.edges.length ec, .int .i64 r2.cost, .int .i64 r2.life, .slice ca r2.claims.length cc] 33 j y hy
         have hsz : Hid (wq.heap.size ≤ w4.heap.size) := hb4.size
         have hown2 := hN2.own
         rw [ht1.out] at hown2
         replace hown2 := Lib.hid hown2
         replace hN2 := Lib.hid hN2
         replace hri2 := Lib.hid hri2
         clear hN1 hown hgrow hb4 hba x0 x1 x2 x3
         go_wp2_with (at_builtin; go_loud (refine wpList_append_own _ rfl _ _ 48 rfl wq.heap.size 33 r0 (.agg #[.slice none 0 0, .int .i64 0, .int .i64 0, .slice none 0 0]) 4 64 Tryz.underlying48 hr_.out hy0 hy1 hy2 rfl (by decide) _ q _ rfl hown2.out ⟨w4.heap.size, 0, none⟩ 1 1 [.slice ea r2.edges.length ec, .int .i64 r2.cost, .int .i64 r2.life, .slice ca r2.claims.length cc] rfl rfl hnews (by simp [Value.oneCell']) ?qa6 ?qb6 ?qc6 ?_))
         case qa6 => unfold maxLen; omega
         case qb6 => omega
         case qc6 => have := hsz.out; (try simp only [World.size_alloc]); omega
         intro v2 w5 hown4 hgrow hnil
         have hN3 := hN2.out.add (zs' := [⟨r2, .slice ea r2.edges.length ec, .slice ca r2.claims.length cc⟩]) rfl (fun z hz => by rw [List.mem_singleton.1 hz]; exact hok4.out) (by rw [ht1.out]; exact hown4) hgrow
         have hdr5 := Lib.hid (SliceAt.later hdr.out hN3.below)
         have hlen3 : (zs.take q ++ [(⟨r2, .slice ea r2.edges.length ec, .slice ca r2.claims.length cc⟩ : RouM)]).length = q + 1 := by rw [List.length_append, ht1.out]; rfl
         have hown3 := hN3.own
         rw [hlen3] at hown3
         replace hlen3 := Lib.hid hlen3
         replace hown3 := Lib.hid hown3
         have hok5 : Hid (∀ z ∈ zs.drop q, OkR z w5) := fun z hz => (hokd.out z hz).below hN3.below
         have hsz5 : Hid (wq.heap.size ≤ w5.heap.size) := hN3.below.size
         replace hN3 := Lib.hid hN3
         clear hown2 hown4 hgrow hnil hnews hN2 hsz y0 y1 y2 y3
         by_cases hck : oc = q
         ·
          have hmq : m - q = 0 := by omega
          have hd6 := hdr5.out
          rw [if_pos hck] at hd6
          have hocq : oc - q = 0 := by omega
          rw [hmq, hocq] at hd6
          replace hd6 := Lib.hid hd6
          have hl2b := hl2.out
          rw [hmq] at hl2b
          replace hl2b := Lib.hid hl2b
          have hqm : q = m := by omega
          subst hck
          have e9 : (oc == oc) = true := beq_self_eq_true _
          replace hmq := Lib.hid hmq
          replace hqm := Lib.hid hqm
          replace hocq := Lib.hid hocq
          go_wp2_with (at_builtin; go_loud (refine wpList_append_src rfl _ _ 48 rfl wq.heap.size 33 r0 (.agg #[.slice none 0 0, .int .i64 0, .int .i64 0, .slice none 0 0]) 4 64 Tryz.underlying48 hr_.out hy0 hy1 hy2 rfl (by decide) _ (oc + 1) _ rfl hown3.out _ 0 _ (rouCells (zs.drop oc)) rfl hd6.out hl2b.out hone2.out ?qa7 ?qb7 ?qc7 ?_))
          case qa7 => unfold maxLen; omega
          case qb7 => omega
          case qc7 => exact hsz5.out
          intro v3 w6 hown6 hgrow6
          have hN4 := hN3.out.add hmd.out hok5.out (by rw [hlen3.out, ht2.out, hmq.out]; exact hown6) hgrow6
          have hn : Hid (∃ zs R, RouI w1 w6 v3 zs R ∧ GathR A (i + 1) R) := ⟨_, _, ⟨hN4.eq, own_base hN4.own hbIq.out.size, hN4.ok, hbIq.out.trans (hN4.below.mono hbIq.out.size)⟩, hg.out⟩
          clear hown6 hgrow6 hN4 hN3 hown3 hd6 hl2b
          go_wp2_with fail
          exact ⟨⟨i + 1, by omega, rfl, hn⟩, by simp [intOf]; omega⟩
         ·
          have hd6 := hdr5.out
          rw [if_neg hck] at hd6
          (try simp only [Option.map_some, Addr.add_mid, Nat.zero_add] at hd6)
          replace hd6 := Lib.hid hd6
          have hl2b := hl2
          have e9 : (oc == q) = false := beq_false_of_ne hck
          have e10 : decide (oc = q) = false := decide_eq_false hck
          go_wp2_with (at_builtin; go_loud (refine wpList_append_src rfl _ _ 48 rfl wq.heap.size 33 r0 (.agg #[.slice none 0 0, .int .i64 0, .int .i64 0, .slice none 0 0]) 4 64 Tryz.underlying48 hr_.out hy0 hy1 hy2 rfl (by decide) _ (q + 1) _ rfl hown3.out _ (m - q) _ (rouCells (zs.drop q)) rfl hd6.out hl2b.out hone2.out ?qa8 ?qb8 ?qc8 ?_))
          case qa8 => unfold maxLen; omega
          case qb8 => omega
          case qc8 => exact hsz5.out
          intro v3 w6 hown6 hgrow6
          have hN4 := hN3.out.add hmd.out hok5.out (by rw [hlen3.out, ht2.out]; exact hown6) hgrow6
          have hn : Hid (∃ zs R, RouI w1 w6 v3 zs R ∧ GathR A (i + 1) R) := ⟨_, _, ⟨hN4.eq, own_base hN4.own hbIq.out.size, hN4.ok, hbIq.out.trans (hN4.below.mono hbIq.out.size)⟩, hg.out⟩
          clear hown6 hgrow6 hN4 hN3 hown3 hd6 hl2b
          go_wp2_with fail
          exact ⟨⟨i + 1, by omega, rfl, hn⟩, by simp [intOf]; omega⟩
        | true =>
         have hn : Hid (∀ j2, j ≤ j2 → j2 < m → aheadP r R[j2]! = true) := haf2.out rfl
         go_wp2_with fail
         exact ⟨⟨j, by omega, rfl, hn, hbq⟩, by have := hj.out; simp [intOf]; omega⟩
  ·
   have hno : decide ((i : Int) < (n : Int)) = false := decide_eq_false (by omega)
   obtain rfl : i = n := by omega
   have hG2 : GathR A A.length R := by rw [← hnA.out]; exact hG
   have hRB := hfin.out R hG2
   have hres : Hid (RouI w wo u12 zs RB) := ⟨by rw [← hRB]; exact hI.eq, own_base hI.own hbw1.out.size, hI.ok, hbw1.out.trans (hI.below.mono hbw1.out.size)⟩
   replace hRB := Lib.hid hRB
   clear hI hG hG2
   go_wp2_with fail
   go_ret
   exact ⟨_, zs, rfl, hres.out⟩
end Go.Proofs.YtpeandbcdaikbaaGreatDoor
