/-
  The reference's find: the number of the instruction with an offset.
  The reference's Instructions.
-/
import Derived.Test.YtainohbfcehpoaaDoorMc2
import Derived.Test.YtainohbfcehpoaaDoorMdA
namespace Go.Proofs.YtainohbfcehpoaaDoor
open Go.RowKit

/-- A row of the reference's instructions (three cells each). -/
def RefRow (w : World) (b o : Nat) (l : List Ins) : Prop := ∀ i, i < l.length → w.cell? ⟨b, o + i * 3, none⟩ = some (.int .i64 ((l[i]!).off : Int)) ∧ w.cell? ⟨b, o + i * 3 + 1, none⟩ = some (.int .i64 ((l[i]!).op : Int)) ∧ w.cell? ⟨b, o + i * 3 + 2, none⟩ = some (.int .i64 ((l[i]!).opd : Int))
theorem idxOf_first {l : List Ins} {t x : Nat} (hx : x < l.length) (h : (l[x]!).off = t) (hn : ∀ k, k < x → (l[k]!).off ≠ t) : idxOf l t = some x := by
  unfold idxOf
  rw [List.findIdx?_eq_some_iff_getElem]
  refine ⟨hx, by rw [← getElem!_pos l x hx]; simpa using h, fun k hk => ?_⟩
  have := hn k hk
  rw [← getElem!_pos l k (by omega)]
  simpa using this
/-- What find returns. -/
def findZ (l : List Ins) (t : Nat) : Int := match idxOf l t with | some x => (x : Int) | none => -1
set_option maxRecDepth 100000 in
set_option maxHeartbeats 2000000 in
theorem find8_any (b o c : Nat) (l : List Ins) (t : Nat) (w : World) (hc : l.length ≤ 100000) (hR : RefRow w b o l) :
    Calls Tryd.prog 33 #[.slice (some ⟨b, o, none⟩) l.length c, .int .i64 (t : Int)] w fun e w' => e = .returned (.int .i64 (findZ l t)) ∧ w' = w := by
  go_enter Tryd.func33, Tryd.ntmps33
  go_wp2_with fail
  go_loopw [5] (fun i wr => ∃ x : Nat, x ≤ l.length ∧ i = .int .i64 (x : Int) ∧ Hid (∀ k, k < x → (l[k]!).off ≠ t) ∧ wr = w) (fun i _ => l.length - (intOf i).toNat)
  case atStart => exact ⟨0, Nat.zero_le _, rfl, (show Hid _ from fun k hk => by omega), rfl⟩
  case round =>
    obtain ⟨x, hx, rfl, hno, rfl⟩ := hrel
    by_cases hlt : x < l.length
    · have hd : decide ((x : Int) < (l.length : Int)) = true := by simpa using hlt
      obtain ⟨m0, m1, m2⟩ := hR x hlt
      have hf := fun h => idxOf_first (t := t) hlt h hno.out
      have hno2 : (l[x]!).off ≠ t → ∀ k, k < x + 1 → (l[k]!).off ≠ t := fun h k hk => by
        by_cases e : k = x
        · subst e; exact h
        · exact hno.out k (by omega)
      generalize l[x]! = z at *
      by_cases hz : z.off = t
      · have hq : ((z.off : Int) == (t : Int)) = true := by rw [beq_iff_eq]; omega
        have hv : Hid (findZ l t = (x : Int)) := by show _ = _; rw [findZ, hf hz]
        replace hz := Lib.hid hz
        clear hf hno2
        go_wp2_with fail
        go_ret
        exact ⟨by rw [hv.out]; rfl, rfl⟩
      · have hq : ((z.off : Int) == (t : Int)) = false := by rw [beq_eq_false_iff_ne]; omega
        have hn3 := Lib.hid (hno2 hz)
        clear hf hno2
        go_wp2_with fail
        exact ⟨⟨x + 1, by omega, by go_num, hn3, trivial⟩, by simp [intOf]; omega⟩
    · have hd : decide ((x : Int) < (l.length : Int)) = false := by simpa using hlt
      have hv : Hid (findZ l t = -1) := by
        show _ = _
        rw [findZ, idxOf_none fun k hk => hno.out k (by omega)]
      go_wp2_with fail
      go_ret
      exact ⟨by rw [hv.out]; rfl, rfl⟩
end Go.Proofs.YtainohbfcehpoaaDoor
namespace Go.Proofs.YtainohbfcehpoaaDoor
open Go.RowKit Go.Shelf

theorem dec_bad {code : List UInt8} {a : Nat} (h : a < code.length) (h1 : 12 ≤ (code[a]!).toNat) : dec a (code.drop a) = none := by
  rw [drop_cons code a h]
  cases hr : code.drop (a + 1) with
  | nil => rw [dec, if_pos h1]
  | cons b r => cases r with
    | nil => rw [dec, if_pos h1]
    | cons c r => rw [dec, if_pos h1]
theorem dec_cut {code : List UInt8} {a : Nat} (h : a < code.length) (h1 : (code[a]!).toNat < 12) (h2 : longOp (code[a]!).toNat = true) (h3 : code.length < a + 3) : dec a (code.drop a) = none := by
  have hl : (code.drop (a + 1)).length ≤ 1 := by simp; omega
  rw [drop_cons code a h]
  cases hr : code.drop (a + 1) with
  | nil => rw [dec, if_neg (by omega), if_pos h2]
  | cons b r => cases r with
    | nil => rw [dec, if_neg (by omega), if_pos h2]
    | cons c r => rw [hr] at hl; simp at hl
theorem dec_long {code : List UInt8} {a : Nat} (h : a < code.length) (h1 : (code[a]!).toNat < 12) (h2 : longOp (code[a]!).toNat = true) (h3 : a + 3 ≤ code.length) :
    dec a (code.drop a) = (dec (a + 3) (code.drop (a + 3))).map (⟨a, (code[a]!).toNat, 256 * (code[a + 1]!).toNat + (code[a + 2]!).toNat⟩ :: ·) := by
  rw [drop_cons code a h, drop_cons code (a + 1) (by omega), drop_cons code (a + 2) (by omega), dec, if_neg (by omega), if_pos h2]
theorem dec_short {code : List UInt8} {a : Nat} (h : a < code.length) (h1 : (code[a]!).toNat < 12) (h2 : longOp (code[a]!).toNat = false) :
    dec a (code.drop a) = (dec (a + 1) (code.drop (a + 1))).map (⟨a, (code[a]!).toNat, 0⟩ :: ·) := by
  have h2' : ¬ longOp (code[a]!).toNat = true := by rw [h2]; decide
  rw [drop_cons code a h]
  generalize (code[a]!) = x at *
  cases hr : code.drop (a + 1) with
  | nil => (conv => lhs; rw [dec, if_neg (show ¬ 12 ≤ x.toNat by omega), if_neg h2']); rfl
  | cons b r => cases r with
    | nil => conv => lhs; rw [dec, if_neg (show ¬ 12 ≤ x.toNat by omega), if_neg h2']
    | cons c r => conv => lhs; rw [dec, if_neg (show ¬ 12 ≤ x.toNat by omega), if_neg h2']
theorem info_rin : (Tryd.prog.info? 43).map (fun i => (i.zero, i.size, i.bytes)) = some (some (.agg #[.int .i64 0, .int .i64 0, .int .i64 0]), 3, 24) := by kernel_rfl
def rinC (x : Ins) : List Value := [.int .i64 (x.off : Int), .int .i64 (x.op : Int), .int .i64 (x.opd : Int)]
def rinL (l : List Ins) : List Value := l.flatMap rinC
theorem rinL_snoc (l : List Ins) (x : Ins) : rinL (l ++ [x]) = rinL l ++ rinC x := by simp [rinL]
theorem rinL_at : ∀ (l : List Ins) (i j : Nat), i < l.length → j < 3 → (rinL l)[i * 3 + j]? = (rinC l[i]!)[j]?
  | [], i, _, h, _ => by simp at h
  | x :: l, 0, j, _, h3 => by
    simp only [rinL, List.flatMap_cons, Nat.zero_mul, Nat.zero_add, List.getElem!_cons_zero]
    rw [List.getElem?_append_left (by simp [rinC]; omega)]
  | x :: l, i + 1, j, h, h3 => by
    have ih := rinL_at l i j (by simpa using h) h3
    simp only [rinL, List.flatMap_cons]
    rw [List.getElem?_append_right (by simp [rinC]; omega)]
    rw [show (i + 1) * 3 + j - (rinC x).length = i * 3 + j by simp [rinC]; omega]
    exact ih
theorem append_rin (w : World) (base : Nat) (v : Value) (l : List Ins) (x : Ins) (hown : w.ownsRow base 43 3 v l.length (rinL l)) (b : Nat) (hA : Arr w b 43 (rinC x)) (hl : l.length ≤ 1000000) (hb : base ≤ w.heap.size) :
    ∃ v' w', (Builtin.append_ #[39, 39] 39 #[v, .slice (some ⟨b, 0, none⟩) 1 1]).run Tryd.prog w = .ok v' w' ∧ w'.ownsRow base 43 3 v' (l ++ [x]).length (rinL (l ++ [x])) ∧ w.grownBy w' v.ownBlock := by
  obtain ⟨i0, hi, hz0, hz1, hz2⟩ := info_parts info_rin
  have hcells : ∀ j u, (rinC x)[j]? = some u → w.cell? ((⟨b, 0, none⟩ : Addr).add j) = some u := by
    intro j u hu
    rw [Addr.add_mid, Nat.zero_add]
    exact hA.cell hu
  have hone : ∀ u ∈ rinC x, u.oneCell' = true := by
    intro u hu
    simp only [rinC, List.mem_cons, List.not_mem_nil, or_false] at hu
    rcases hu with rfl | rfl | rfl <;> rfl
  obtain ⟨v', w', hrun, r1, r2, r3, _⟩ := run_append_own_at (P := Tryd.prog) w base 39 39 43 i0 (.agg #[.int .i64 0, .int .i64 0, .int .i64 0]) 3 24 Tryd.underlying39 hi hz0 hz1 hz2 rfl (by decide) v l.length (rinL l) hown ⟨b, 0, none⟩ 1 1 (rinC x) rfl hcells hone (by unfold maxLen; omega) (by omega) hb
  exact ⟨v', w', hrun, by rw [List.length_append, rinL_snoc]; exact r1, r2⟩
theorem own_cells3 {w : World} {B n k : Nat} {e : TypeId} {v : Value} {xs : List Value} (h : w.ownsRow B e k v n xs) (hn : 0 < n) :
    ∃ g cap, v = .slice (some ⟨g, 0, none⟩) n cap ∧ B ≤ g ∧ n ≤ cap ∧ cap ≤ maxLen ∧ g < w.heap.size ∧ ∀ j u, xs[j]? = some u → w.cell? ⟨g, j, none⟩ = some u := by
  obtain ⟨hl, h⟩ := h
  rcases h with ⟨_, h⟩ | ⟨g, cap, cur, hv, hB, hg, h1, h2, h3, h4⟩
  · omega
  · refine ⟨g, cap, hv, hB, h1, h2, (Array.getElem?_eq_some_iff.1 hg).1, fun j u hu => ?_⟩
    rw [cell_of_row w g j cur e (0, 0) hg]
    have hj : j < n * k := by
      have := (List.getElem?_eq_some_iff.1 hu).1
      omega
    rw [← h4, List.getElem?_take, if_pos hj] at hu
    simpa using hu
theorem RefRow.keep {w w' : World} {b o : Nat} {l : List Ins} (h : RefRow w b o l) (hb : w'.heap[b]? = w.heap[b]?) : RefRow w' b o l := fun i hi =>
  ⟨(World.cell?_of_block (a := ⟨b, o + i * 3, none⟩) hb).trans (h i hi).1, (World.cell?_of_block (a := ⟨b, o + i * 3 + 1, none⟩) hb).trans (h i hi).2.1, (World.cell?_of_block (a := ⟨b, o + i * 3 + 2, none⟩) hb).trans (h i hi).2.2⟩
theorem name_exit {Q : Exit → Act → World → Prop} {e : Exit} {a : Act} {W : World} (h : ∀ w2, w2 = W → Q e a w2) : Q e a W := h _ rfl
/-- What Instructions returns. -/
def InsRPost (code : List UInt8) (w : World) (e : Ending) (w' : World) : Prop :=
  (∀ l, formed code = some l → ∃ g cap, e = .returned (.tuple #[.slice (some ⟨g, 0, none⟩) l.length cap, .bool true]) ∧ w.heap.size ≤ g ∧ g < w'.heap.size ∧ l.length ≤ cap ∧ cap ≤ maxLen ∧ RefRow w' g 0 l) ∧
  (formed code = none → e = .returned (.tuple #[.slice none 0 0, .bool false])) ∧ Below w.heap.size w w'
/-- What the first loop keeps. -/
structure InsAt (code : List UInt8) (B : Nat) (W0 : World) (a : Nat) (l : List Ins) (v : Value) (w : World) : Prop where
  own : w.ownsRow B 43 3 v l.length (rinL l)
  below : Below B W0 w
  dec : dec 0 code = (dec a (code.drop a)).map (l ++ ·)
  len : l.length ≤ a
set_option maxRecDepth 100000 in
set_option maxHeartbeats 8000000 in
theorem insR_any (code : List UInt8) (w : World) (hc : code.length ≤ 1000000) :
    Calls Tryd.prog 23 #[.string (str code)] w fun e w' => InsRPost code w e w' := by
  by_cases hlen : code.length < 1 ∨ 1024 < code.length
  · have hno : Hid (formed code = none) := by
      show _ = _
      unfold formed
      rw [if_pos]
      rcases hlen with h | h
      · exact .inl (List.length_eq_zero_iff.1 (by omega))
      · exact .inr h
    have hps := str_size code
    have hpost : InsRPost code w (.returned (.tuple #[.slice none 0 0, .bool false])) w := ⟨fun l h => (by rw [hno.out] at h; cases h), fun _ => rfl, Below.refl _ _⟩
    by_cases h1 : code.length < 1
    · have hd1 : decide ((code.length : Int) < 1) = true := by simp; omega
      go_enter Tryd.func23, Tryd.ntmps23
      go_wp2_with fail
      go_ret2
      exact hpost
    · have hd1 : decide ((code.length : Int) < 1) = false := by simp; omega
      have hd2 : decide (1024 < (code.length : Int)) = true := by simp; omega
      go_enter Tryd.func23, Tryd.ntmps23
      go_wp2_with fail
      go_ret2
      exact hpost
  · have hps := str_size code
    have hd1 : decide ((code.length : Int) < 1) = false := by simp; omega
    have hd2 : decide (1024 < (code.length : Int)) = false := by simp; omega
    have hPG : ∀ j (h : j < (str code).size), (((str code)[j].toNat : Nat) : Int) = (code[j]!.toNat : Nat) := fun j h => by
      rw [getElem!_pos code j (by rw [str_size] at h; exact h)]
      show (((str code).data[j]'_ : UInt8).toNat : Int) = _
      simp [str]
    generalize str code = P at *
    replace hPG := Lib.hid hPG
    go_enter Tryd.func23, Tryd.ntmps23
    go_wp2_with fail
    go_loopw [4, 5] (fun v i wr => ∃ (a : Nat) (l : List Ins), i = .int .i64 (a : Int) ∧ a ≤ code.length ∧ Hid (InsAt code w.heap.size w a l v wr)) (fun _ i _ => code.length - (intOf i).toNat)
    case atStart => exact ⟨0, [], rfl, Nat.zero_le _, (show Hid _ from ⟨World.ownsRow_nil _ _ _ _, Below.refl _ _, by rw [List.drop_zero]; cases h : dec 0 code <;> rfl, Nat.le_refl _⟩)⟩
    case round =>
      obtain ⟨a, l, rfl, ha, hall⟩ := hrel
      have hIA := hall.out
      clear hall
      by_cases hlt : a < code.length
      · have hd : decide ((a : Int) < (code.length : Int)) = true := by simpa using hlt
        have hj0 : a < P.size := by omega
        have hg := hPG.out a hj0
        have i0 : (0 : Int) ≤ (a : Int) := by omega
        have hor := (code[a]!).toNat_lt
        have hdb := fun h => dec_bad (code := code) (a := a) hlt h
        have hdc := fun h1 h2 h3 => dec_cut (code := code) (a := a) hlt h1 h2 h3
        have hdl := fun h1 h2 h3 => dec_long (code := code) (a := a) hlt h1 h2 h3
        have hds := fun h1 h2 => dec_short (code := code) (a := a) hlt h1 h2
        generalize (code[a]!).toNat = o at *
        have hwo : IntKind.i64.wrap (o : Int) = (o : Int) := IntWalk.i64_in _ (by omega)
        have hB1 : Below w.heap.size w (wr.alloc (.cells #[.int .i64 (a : Int), .int .i64 (o : Int), .int .i64 0] 43)) := hIA.below.alloc hIA.below.size _
        have hA1 : Arr (wr.alloc (.cells #[.int .i64 (a : Int), .int .i64 (o : Int), .int .i64 0] 43)) wr.heap.size 43 [.int .i64 (a : Int), .int .i64 (o : Int), .int .i64 0] := Arr.new rfl rfl
        have hR1 : Below wr.heap.size wr (wr.alloc (.cells #[.int .i64 (a : Int), .int .i64 (o : Int), .int .i64 0] 43)) := (Below.refl _ _).alloc (Nat.le_refl _) _
        have hwa : IntKind.i64.wrap ((a : Int) + 1) = ((a + 1 : Nat) : Int) := by rw [Int.natCast_succ]; exact IntWalk.i64_in _ (by omega)
        by_cases ho : 12 ≤ o
        · have hdo : decide (11 < (o : Int)) = true := by simp; omega
          have hno : Hid (formed code = none) := by show _ = _; refine formed_nodec ?_; rw [hIA.dec, hdb ho]; rfl
          replace hIA := Lib.hid hIA
          clear hdb hdc hdl hds
          go_wp2_with fail
          go_ret2
          exact ⟨fun l h => (by rw [hno.out] at h; cases h), fun _ => rfl, hB1⟩
        · have hdo : decide (11 < (o : Int)) = false := by simp; omega
          have hH := fun W => Lib.hid (hasOperand_any o W (by omega))
          cases hl : longOp o with
          | true =>
            rw [hl] at hH
            by_cases hfit : a + 3 ≤ code.length
            · have hdn := hdl (by omega) hl hfit
              have hda : decide (code.length < (a + 1) + 2) = false := by simp; omega
              have hdb2 : decide ((code.length : Int) < ((a + 1 : Nat) : Int) + 2) = false := by simp; omega
              have hj1 : a + 1 < P.size := by omega
              have hj2 : a + 1 + 1 < P.size := by omega
              have g1 := hPG.out (a + 1) hj1
              have g2 := hPG.out (a + 1 + 1) hj2
              rw [show code[a + 2]! = code[a + 1 + 1]! from rfl] at hdn
              have hl1 := (code[a + 1]!).toNat_lt
              have hl2 := (code[a + 1 + 1]!).toNat_lt
              generalize (code[a + 1]!).toNat = b1 at *
              generalize (code[a + 1 + 1]!).toNat = b2 at *
              have hw1 : IntKind.i64.wrap (b1 : Int) = (b1 : Int) := IntWalk.i64_in _ (by omega)
              have hw2 : IntKind.i64.wrap (b2 : Int) = (b2 : Int) := IntWalk.i64_in _ (by omega)
              have hw3 : IntKind.i64.wrap (256 * (b1 : Int)) = 256 * (b1 : Int) := IntWalk.i64_in _ (by omega)
              have hw4 : IntKind.i64.wrap (256 * (b1 : Int) + (b2 : Int)) = ((256 * b1 + b2 : Nat) : Int) := by rw [show ((256 * b1 + b2 : Nat) : Int) = 256 * (b1 : Int) + (b2 : Int) by omega]; exact IntWalk.i64_in _ (by omega)
              have hwa2 : IntKind.i64.wrap (((a + 1 : Nat) : Int) + 2) = ((a + 3 : Nat) : Int) := by rw [show ((a + 3 : Nat) : Int) = ((a + 1 : Nat) : Int) + 2 by omega]; exact IntWalk.i64_in _ (by omega)
              have hwa3 : IntKind.i64.wrap (((a + 1 : Nat) : Int) + 1) = ((a + 1 + 1 : Nat) : Int) := by rw [Int.natCast_succ (a + 1)]; exact IntWalk.i64_in _ (by omega)
              have i1 : (0 : Int) ≤ ((a + 1 : Nat) : Int) := by omega
              have i2 : (0 : Int) ≤ ((a + 1 + 1 : Nat) : Int) := by omega
              have i3 : ((a + 1 : Nat) : Int) < (code.length : Int) := by omega
              have i4 : ((a + 1 + 1 : Nat) : Int) < (code.length : Int) := by omega
              have hdc3 : decide ((code.length : Int) < ((a + 3 : Nat) : Int)) = false := by simp; omega
              have k1 : (0 : Int) ≤ (a : Int) + 1 := by omega
              have k2 : (0 : Int) ≤ (a : Int) + 1 + 1 := by omega
              have k3 : (a : Int) + 1 < (code.length : Int) := by omega
              have k4 : (a : Int) + 1 + 1 < (code.length : Int) := by omega
              have t1 : ((a : Int) + 1 + 1).toNat = a + 1 + 1 := by omega
              have t2 : ((a : Int) + 1).toNat = a + 1 := by omega
              have hwa4 : IntKind.i64.wrap ((a : Int) + 1 + 1) = (a : Int) + 1 + 1 := IntWalk.i64_in _ (by omega)
              replace hdn := Lib.hid hdn
              replace hIA := Lib.hid hIA
              clear hdb hdc hdl hds
              go_wp2_with fail
              refine (hH _).out.mono ?_
              rintro e w2 ⟨rfl, q, rfl⟩
              have hB2 := below_drewN hB1 q
              have hR2 := below_drewN hR1 q
              have hA2 := (show Arr ((wr.alloc (.cells #[.int .i64 (a : Int), .int .i64 (o : Int), .int .i64 0] 43)).drewN q) wr.heap.size 43 [.int .i64 (a : Int), .int .i64 (o : Int), .int .i64 0] from hA1)
              generalize (wr.alloc (.cells #[.int .i64 (a : Int), .int .i64 (o : Int), .int .i64 0] 43)).drewN q = w2 at *
              clear hA1 hB1 hR1
              have fB := hA2.free 2
              have c2 := hA2.cell (j := 2) rfl
              go_wp2_with fail
              go_region
              refine name_exit ?_
              intro w3 hw3
              have hA3 : Arr w3 wr.heap.size 43 [.int .i64 (a : Int), .int .i64 (o : Int), .int .i64 ((256 * b1 + b2 : Nat) : Int)] := by rw [hw3]; exact (hA2.set 2 _).drew
              have hB3 : Below w.heap.size w w3 := by rw [hw3]; exact (hB2.setCell (p := ⟨wr.heap.size, 2, none⟩) hIA.out.below.size _).drew
              have hB3r : Below wr.heap.size wr w3 := by rw [hw3]; exact (hR2.setCell (p := ⟨wr.heap.size, 2, none⟩) (Nat.le_refl _) _).drew
              clear hw3 hA2 hB2 hR2 c2 fB
              replace hIA := hIA.out
              replace hdn := hdn.out
              have hAx := hA3
              have x0 := hAx.cell (j := 0) rfl
              have x1 := hAx.cell (j := 1) rfl
              have x2 := hAx.cell (j := 2) rfl
              have hor := own_below hIA.own hB3r
              obtain ⟨v', w4, hrun, hown4, hgr4⟩ := append_rin (w3.alloc (.cells #[.int .i64 (a : Int), .int .i64 (o : Int), .int .i64 ((256 * b1 + b2 : Nat) : Int)] 43)) w.heap.size _ l ⟨a, o, 256 * b1 + b2⟩ (own_below hor ((Below.refl _ _).alloc (Nat.le_refl _) _)) w3.heap.size (Arr.new rfl rfl) (by have := hIA.len; omega) (by have := hB3.size; simp; omega)
              have hB4 : Below w.heap.size w w4 := grown_below (hB3.alloc hB3.size _) (own_below hor ((Below.refl _ _).alloc (Nat.le_refl _) _)) hgr4 (Nat.le_refl _) (by have := hB3.size; simp; omega)
              have hdec4 : dec 0 code = (dec (a + 3) (code.drop (a + 3))).map ((l ++ [⟨a, o, 256 * b1 + b2⟩]) ++ ·) := by
                rw [hIA.dec, hdn, Option.map_map]
                congr 1
                funext z
                simp
              have hfin : Hid (InsAt code w.heap.size w (a + 3) (l ++ [⟨a, o, 256 * b1 + b2⟩]) v' w4) := ⟨hown4, hB4, hdec4, by rw [List.length_append, List.length_singleton]; have := hIA.len; omega⟩
              replace hrun := Lib.hid hrun
              replace hdn := Lib.hid hdn
              replace hIA := Lib.hid hIA
              clear hgr4 hown4 hor hdec4 hB4 hAx hA3 hB3r hB3
              go_wp2_with (at_builtin; go_loud (refine wpList_append_known rfl _ _ _ _ rfl _ _ rfl rfl hrun.out ?_))
              exact ⟨⟨a + 3, _, by first | rfl | go_num, by omega, hfin⟩, by simp [intOf]; omega⟩
            · have hno : Hid (formed code = none) := by show _ = _; refine formed_nodec ?_; rw [hIA.dec, hdc (by omega) hl (by omega)]; rfl
              have hwa2 : IntKind.i64.wrap (((a + 1 : Nat) : Int) + 2) = ((a + 3 : Nat) : Int) := by rw [show ((a + 3 : Nat) : Int) = ((a + 1 : Nat) : Int) + 2 by omega]; exact IntWalk.i64_in _ (by omega)
              have hdc3 : decide ((code.length : Int) < ((a + 3 : Nat) : Int)) = true := by simp; omega
              replace hIA := Lib.hid hIA
              clear hdb hdc hdl hds
              go_wp2_with fail
              refine (hH _).out.mono ?_
              rintro e w2 ⟨rfl, q, rfl⟩
              have hB2 := below_drewN hB1 q
              go_wp2_with fail
              go_ret2
              exact ⟨fun l h => (by rw [hno.out] at h; cases h), fun _ => rfl, hB2⟩
          | false =>
            rw [hl] at hH
            have hdn := hds (by omega) hl
            have hIA2 := Lib.hid hIA
            replace hdn := Lib.hid hdn
            clear hdb hdc hdl hds hIA
            go_wp2_with fail
            refine (hH _).out.mono ?_
            rintro e w2 ⟨rfl, q, rfl⟩
            have hB3 := below_drewN hB1 q
            have hB3r := below_drewN hR1 q
            have hA3 := (show Arr ((wr.alloc (.cells #[.int .i64 (a : Int), .int .i64 (o : Int), .int .i64 0] 43)).drewN q) wr.heap.size 43 [.int .i64 (a : Int), .int .i64 (o : Int), .int .i64 0] from hA1)
            generalize (wr.alloc (.cells #[.int .i64 (a : Int), .int .i64 (o : Int), .int .i64 0] 43)).drewN q = w3 at *
            clear hA1 hB1 hR1
            have hIA := hIA2.out
            have hdn := hdn.out
            have hAx := hA3
            have x0 := hAx.cell (j := 0) rfl
            have x1 := hAx.cell (j := 1) rfl
            have x2 := hAx.cell (j := 2) rfl
            have hor := own_below hIA.own hB3r
            obtain ⟨v', w4, hrun, hown4, hgr4⟩ := append_rin (w3.alloc (.cells #[.int .i64 (a : Int), .int .i64 (o : Int), .int .i64 0] 43)) w.heap.size _ l ⟨a, o, 0⟩ (own_below hor ((Below.refl _ _).alloc (Nat.le_refl _) _)) w3.heap.size (Arr.new rfl rfl) (by have := hIA.len; omega) (by have := hB3.size; simp; omega)
            have hB4 : Below w.heap.size w w4 := grown_below (hB3.alloc hB3.size _) (own_below hor ((Below.refl _ _).alloc (Nat.le_refl _) _)) hgr4 (Nat.le_refl _) (by have := hB3.size; simp; omega)
            have hdec4 : dec 0 code = (dec (a + 1) (code.drop (a + 1))).map ((l ++ [⟨a, o, 0⟩]) ++ ·) := by
              rw [hIA.dec, hdn, Option.map_map]
              congr 1
              funext z
              simp
            have hfin : Hid (InsAt code w.heap.size w (a + 1) (l ++ [⟨a, o, 0⟩]) v' w4) := ⟨hown4, hB4, hdec4, by rw [List.length_append, List.length_singleton]; have := hIA.len; omega⟩
            replace hrun := Lib.hid hrun
            replace hdn := Lib.hid hdn
            replace hIA := Lib.hid hIA
            clear hgr4 hown4 hor hdec4 hB4 hAx hA3 hB3r hB3
            go_wp2_with (at_builtin; go_loud (refine wpList_append_known rfl _ _ _ _ rfl _ _ rfl rfl hrun.out ?_))
            exact ⟨⟨a + 1, _, by first | rfl | go_num, by omega, hfin⟩, by simp [intOf]; omega⟩
      · have hd : decide ((a : Int) < (code.length : Int)) = false := by simpa using hlt
        obtain rfl : a = code.length := by omega
        have hdec : dec 0 code = some l := by
          rw [hIA.dec, List.drop_length, dec]
          simp
        have hl0 : 0 < l.length := by
          have h1 := (evSeq_dec _ code (Nat.le_refl _) 0).1 l hdec
          have h2 := evSeq_pos code (fun e => by rw [e] at hlen; simp at hlen)
          rw [h1, List.length_map] at h2
          exact h2
        have hl1 : l.length ≤ 1024 := by have := hIA.len; omega
        obtain ⟨g, cap, hv, hgB, hcap, hcm, hgl, hcells⟩ := own_cells3 hIA.own hl0
        subst hv
        have hB := hIA.below
        have hRR : RefRow wr g 0 l := fun i hi => by
          have q0 := hcells (i * 3 + 0) _ (by rw [rinL_at l i 0 hi (by omega)]; rfl)
          have q1 := hcells (i * 3 + 1) _ (by rw [rinL_at l i 1 hi (by omega)]; rfl)
          have q2 := hcells (i * 3 + 2) _ (by rw [rinL_at l i 2 hi (by omega)]; rfl)
          simp only [Nat.zero_add]
          exact ⟨q0, q1, q2⟩
        obtain ⟨W, hW⟩ : ∃ W, W = wr := ⟨_, rfl⟩
        subst hW
        have hOps : ∀ i, i < l.length → l[i]!.op < 12 := fun i hi => (dec_laid _ _ (Nat.le_refl _) _ _ hdec).ops i hi
        replace hdec := Lib.hid hdec
        clear hIA hcells
        go_wp2_with fail
        go_loopw [7] (fun i wr => ∃ k : Nat, k ≤ l.length ∧ i = .int .i64 (k : Int) ∧ Hid (Below W.heap.size W wr ∧ ∀ i, i < k → leadOp l[i]!.op = true → ∃ j, idxOf l l[i]!.opd = some j)) (fun i _ => l.length - (intOf i).toNat)
        case atStart => exact ⟨0, Nat.zero_le _, rfl, (show Hid _ from ⟨Below.refl _ _, fun i hi => by omega⟩)⟩
        case round =>
          obtain ⟨k, hk, rfl, hall⟩ := hrel
          obtain ⟨hBk, hlead⟩ := hall.out
          clear hall
          have hBT := hB.trans (hBk.mono hB.size)
          have hRk := hRR.keep (hBk.block g hgl)
          by_cases hkl : k < l.length
          · have hdk : decide ((k : Int) < (l.length : Int)) = true := by simpa using hkl
            obtain ⟨_, m1, m2⟩ := hRk k hkl
            simp only [Nat.zero_add] at m1 m2
            have j0 : (0 : Int) ≤ (k : Int) := by omega
            have hw1k : IntKind.i64.wrap ((k : Int) + 1) = ((k + 1 : Nat) : Int) := by rw [Int.natCast_succ]; exact IntWalk.i64_in _ (by omega)
            have hLd := Lib.hid (leads_any l[k]!.op wr (hOps k hkl))
            have hnl := fun h1 h2 => formed_nolead hdec.out hkl h1 h2
            have hne := fun (h1 : leadOp l[k]!.op = true → ∃ j, idxOf l l[k]!.opd = some j) i (hi : i < k + 1) => show leadOp l[i]!.op = true → ∃ j, idxOf l l[i]!.opd = some j from (by
              by_cases e : i = k
              · subst e; exact h1
              · exact hlead i (by omega))
            have hF := fun W' (hR' : RefRow W' g 0 l) => Lib.hid (find8_any g 0 cap l l[k]!.opd W' (by omega) hR')
            generalize l[k]! = z at *
            replace hne := Lib.hid hne
            go_wp2_with fail
            refine hLd.out.mono ?_
            rintro e w2 ⟨rfl, q, rfl⟩
            have hR2 : RefRow (wr.drewN q) g 0 l := hRk
            have hB2 := below_drewN hBk q
            have m2' : (wr.drewN q).cell? ⟨g, k * 3 + 2, none⟩ = some (.int .i64 (z.opd : Int)) := m2
            generalize wr.drewN q = w2 at *
            cases hl : leadOp z.op with
            | false =>
              have hfin : Hid (Below W.heap.size W w2 ∧ ∀ i, i < k + 1 → leadOp l[i]!.op = true → ∃ j, idxOf l l[i]!.opd = some j) := ⟨hB2, hne.out fun h => (by rw [hl] at h; cases h)⟩
              go_wp2_with fail
              exact ⟨⟨k + 1, by omega, by first | rfl | go_num, hfin⟩, by simp [intOf]; omega⟩
            | true =>
              go_wp2_with fail
              refine (hF _ hR2).out.mono ?_
              rintro e w2 ⟨rfl, rfl⟩
              cases hix : idxOf l z.opd with
              | none =>
                have hno := Lib.hid (hnl hl hix)
                have hfz : findZ l z.opd = -1 := by rw [findZ, hix]
                have hBB := hB.trans (hB2.mono hB.size)
                replace hix := Lib.hid hix
                go_wp2_with fail
                go_ret2
                exact ⟨fun l h => (by rw [hno.out] at h; cases h), fun _ => rfl, hBB⟩
              | some x =>
                have hfz : findZ l z.opd = (x : Int) := by rw [findZ, hix]
                have hdz : decide ((x : Int) < 0) = false := by simp
                have hfin : Hid (Below W.heap.size W w2 ∧ ∀ i, i < k + 1 → leadOp l[i]!.op = true → ∃ j, idxOf l l[i]!.opd = some j) := ⟨hB2, hne.out fun _ => ⟨x, hix⟩⟩
                replace hix := Lib.hid hix
                go_wp2_with fail
                exact ⟨⟨k + 1, by omega, by first | rfl | go_num, hfin⟩, by simp [intOf]; omega⟩
          · have hdk : decide ((k : Int) < (l.length : Int)) = false := by simpa using hkl
            obtain rfl : k = l.length := by omega
            have hyes : Hid (formed code = some l) := formed_mk (fun e => by rw [e] at hlen; simp at hlen) (by omega) hdec.out (fun i hi hl => hlead i hi hl)
            have hgw : g < wr.heap.size := Nat.lt_of_lt_of_le hgl hBk.size
            go_wp2_with fail
            go_ret2
            refine ⟨fun l' h => ?_, fun h => (by rw [hyes.out] at h; cases h), hBT⟩
            rw [hyes.out] at h
            injection h with h
            subst h
            exact ⟨g, cap, rfl, hgB, hgw, hcap, hcm, hRk⟩
end Go.Proofs.YtainohbfcehpoaaDoor
