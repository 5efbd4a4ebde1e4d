/-
  Package content: within, isCell (of valid cells).
  Package content: all cells, all lines are valid.
  Package content: all lines are valid.
  Package content: the raster of a document that has none.
-/
import Derived.Test.YtocpnlifmeffkaaGreatDoorUN
import Derived.Test.YtocpnlifmeffkaaGreatDoorUB
import Derived.Test.YtocpnlifmeffkaaGreatDoorShelfC
import Derived.Laws.RangeString
import Derived.BigQuiet
import Derived.Shelf.Strings.SlTrimAscii
namespace Go.Proofs.YtocpnlifmeffkaaGreatDoor
open Go.RowKit Go.Shelf

attribute [local go_sem] Oper.semAt_some

theorem cwithin_any (n lo hi : Int) (w : World) :
    Calls Tryz.prog 87 #[.int .i64 n, .int .i64 lo, .int .i64 hi] w fun e w' => e = .returned (.bool (decide (lo ≤ n) && decide (n ≤ hi))) ∧ w' = w := by
  go_enter Tryz.func87, Tryz.ntmps87
  go_wp2
  all_goals (go_ret; exact ⟨by first | (simp_all; done) | (simp_all; omega), rfl⟩)
def encCel (c : Cel) : List Value := [.int .i64 c.row, .int .i64 c.col, .bool c.sum, .int .i64 c.val, .int .i64 c.top, .int .i64 c.left]
def celV (c : Cel) : Value := .agg (encCel c).toArray
theorem in2 {lo n hi : Int} (h : lo ≤ n ∧ n ≤ hi) : (decide (lo ≤ n) && decide (n ≤ hi)) = true := by simp [h.1, h.2]
set_option maxRecDepth 100000 in
set_option maxHeartbeats 2000000 in
theorem isCell_any (c : Cel) (w : World) (h : celOk c = true) :
    Calls Tryz.prog 85 #[celV c] w fun e w' => e = .returned (.bool true) ∧ Below w.heap.size w w' := by
  have hwi := Lib.hid cwithin_any
  obtain ⟨row, col, sum, val, top, left⟩ := c
  unfold celOk at h
  unfold celV encCel
  dsimp only at *
  have hB : Below w.heap.size w (w.alloc (.cells #[.int .i64 row, .int .i64 col, .bool sum, .int .i64 val, .int .i64 top, .int .i64 left] 47)) := (Below.refl _ w).alloc (Nat.le_refl _) _
  rw [Bool.and_eq_true, Bool.and_eq_true, decide_eq_true_eq, decide_eq_true_eq] at h
  obtain ⟨⟨h1, h2⟩, h3⟩ := h
  replace h1 := in2 h1
  replace h2 := in2 h2
  cases sum with
  | true =>
    simp only [if_true, Bool.and_eq_true, decide_eq_true_eq, beq_iff_eq] at h3
    obtain ⟨⟨h4, h5⟩, h6⟩ := h3
    replace h5 := in2 h5
    replace h6 := in2 h6
    subst h4
    go_enter Tryz.func85, Tryz.ntmps85
    go_wp2_with (go_at_call 87; refine (hwi.out _ _ _ _).mono ?_; rintro e w5 ⟨rfl, rfl⟩; simp only [h1, h2, h5, h6])
    go_ret
    exact ⟨rfl, hB⟩
  | false =>
    simp only [Bool.false_eq_true, if_false, Bool.and_eq_true, decide_eq_true_eq, beq_iff_eq] at h3
    obtain ⟨⟨h4, h5⟩, h6⟩ := h3
    replace h4 := in2 h4
    subst h5 h6
    go_enter Tryz.func85, Tryz.ntmps85
    go_wp2_with (go_at_call 87; refine (hwi.out _ _ _ _).mono ?_; rintro e w5 ⟨rfl, rfl⟩; simp only [h1, h2, h4])
    go_ret
    exact ⟨rfl, hB⟩
end Go.Proofs.YtocpnlifmeffkaaGreatDoor
namespace Go.Proofs.YtocpnlifmeffkaaGreatDoor
open Go.RowKit Go.Shelf

attribute [local go_sem] Oper.semAt_some

theorem flat_at {α : Type} [Inhabited α] (enc : α → List Value) (k : Nat) (hk : ∀ x, (enc x).length = k) : ∀ (l : List α) (j i : Nat), j < l.length → i < k → (l.flatMap enc)[j * k + i]? = (enc l[j]!)[i]?
  | [], _, _, h, _ => absurd h (Nat.not_lt_zero _)
  | e :: l, 0, i, _, hi => by
    rw [List.flatMap_cons, Nat.zero_mul, Nat.zero_add, List.getElem?_append_left (by rw [hk]; exact hi)]
    rfl
  | e :: l, j + 1, i, h, hi => by
    have := flat_at enc k hk l j i (by simpa using h) hi
    rw [List.flatMap_cons, List.getElem?_append_right (by rw [hk, Nat.succ_mul]; omega), show (j + 1) * k + i - (enc e).length = j * k + i from by rw [hk, Nat.succ_mul]; omega, this]
    simp
def encCel' (c : Cel) : List Value := encCel (if celOk c then c else default)
def cellCells (l : List Cel) : List Value := l.flatMap encCel
set_option maxHeartbeats 1000000 in
theorem allCel1_any (b : Nat) (c : Cel) (w : World) (h : celOk c = true) (hb : w.cell? ⟨b, 0, none⟩ = some (.func (.func 85) #[] #[])) (hl : b < w.heap.size) :
    Calls Tryz.prog 159 #[celV c, .pointer (some ⟨b, 0, none⟩)] w fun e w' => e = .returned (.bool false) ∧ Below w.heap.size w w' := by
  have hC := Lib.hid fun W => isCell_any c W h
  unfold celV encCel at *
  have hB : Below w.heap.size w (w.alloc (.cells #[.int .i64 c.row, .int .i64 c.col, .bool c.sum, .int .i64 c.val, .int .i64 c.top, .int .i64 c.left] 47)) := (Below.refl _ w).alloc (Nat.le_refl _) _
  have hb' := (hB.cell (p := ⟨b, 0, none⟩) hl).trans hb
  clear hb
  go_enter Tryz.func159, Tryz.ntmps159
  go_wp2_with (go_at_call 85; refine (hC.out _).mono ?_; rintro e w5 ⟨rfl, hb5⟩)
  go_ret
  exact ⟨rfl, hB.trans (hb5.mono hB.size)⟩
theorem encCel'_ok {c : Cel} (h : celOk c = true) : encCel' c = encCel c := by unfold encCel'; rw [if_pos h]
theorem contCel_any (bf b o c : Nat) (l : List Cel) (w : World) (hok : l.all celOk = true) (hl : l.length ≤ 64) (hb : b < w.heap.size) (hbf : w.cell? ⟨bf, 0, none⟩ = some (.func (.func 85) #[] #[])) (hlf : bf < w.heap.size) (hc : ∀ j u, (cellCells l)[j]? = some u → w.cell? ⟨b, o + j, none⟩ = some u) :
    Calls Tryz.prog 158 #[.slice (some ⟨b, o, none⟩) l.length c, .func (.func 159) #[] #[.pointer (some ⟨bf, 0, none⟩)]] w fun e w' => e = .returned (.bool false) ∧ Below w.heap.size w w' := by
  have hp : PredBelow Tryz.prog 159 #[.pointer (some ⟨bf, 0, none⟩)] (fun x => .agg (encCel' x).toArray) (fun _ => false) w := fun W x hW => by
    have h1 := (hW.cell (p := ⟨bf, 0, none⟩) hlf).trans hbf
    have h2 : celOk (if celOk x then x else default) = true := by
      split
      · assumption
      · decide
    exact (allCel1_any bf _ W h2 h1 (Nat.lt_of_lt_of_le hlf hW.size)).mono fun _ _ h => ⟨h.1, hW.trans (h.2.mono hW.size)⟩
  have h := AnyQ.slices_ContainsFunc Tryz.laysF8c 6 Tryz.isAgg47 Tryz.sizeOf47 encCel' (fun _ => rfl) (fun _ => false) 159 #[.pointer (some ⟨bf, 0, none⟩)] (enters_of Tryz.func159 (by kernel_rfl) rfl) b o l.length c l w hp (Nat.le_refl _) (by omega) hb
    (fun j hj i v hv => by
      have hi : i < 6 := (List.getElem?_eq_some_iff.1 hv).1
      have hm : celOk l[j]! = true := List.all_eq_true.1 hok _ (by rw [getElem!_pos l j hj]; exact List.getElem_mem _)
      rw [encCel'_ok hm] at hv
      have := hc (j * 6 + i) v ((flat_at encCel 6 (fun _ => rfl) l j i hj hi).trans hv)
      rwa [← Nat.add_assoc] at this)
  rwa [show (l.take l.length).any (fun _ => false) = false from by simp] at h
set_option maxHeartbeats 1000000 in
theorem contCel_none (a : Option Addr) (c : Nat) (f : Value) (w : World) :
    Calls Tryz.prog 158 #[.slice a 0 c, f] w fun e w' => e = .returned (.bool false) ∧ Below w.heap.size w w' := by
  go_enter Tryz.func158, Tryz.ntmps158
  go_wp2
  go_loop [8] (fun i => i = .int .i64 0) (fun _ => 0)
  case atStart => rfl
  case round =>
    subst hrel
    go_wp2
    go_ret
    exact ⟨rfl, Below.refl _ w⟩
set_option maxHeartbeats 1000000 in
theorem allCel_any (v : Value) (l : List Cel) (w : World) (hok : l.all celOk = true) (hl : l.length ≤ 64) (hv : SliceAt w w.heap.size v l.length (cellCells l)) :
    Calls Tryz.prog 84 #[v, .func (.func 85) #[] #[]] w fun e w' => e = .returned (.bool true) ∧ Below w.heap.size w w' := by
  obtain ⟨a, c, rfl, _, _, hcc⟩ := hv
  have hB : Below w.heap.size w (w.alloc (.cells #[.func (.func 85) #[] #[]] 110)) := (Below.refl _ w).alloc (Nat.le_refl _) _
  have hA : Arr (w.alloc (.cells #[.func (.func 85) #[] #[]] 110)) w.heap.size 110 [.func (.func 85) #[] #[]] := Arr.new rfl rfl
  have hC := Lib.hid fun W (hW : W = w.alloc (.cells #[.func (.func 85) #[] #[]] 110)) => (show Calls Tryz.prog 158 #[.slice a l.length c, .func (.func 159) #[] #[.pointer (some ⟨w.heap.size, 0, none⟩)]] W fun e w' => e = .returned (.bool false) ∧ Below W.heap.size W w' from by
    subst hW
    rcases Nat.eq_zero_or_pos l.length with h0 | h0
    · rw [h0]; exact contCel_none a c _ _
    · obtain ⟨b, o, rfl, hb, hx⟩ := hcc h0
      exact contCel_any w.heap.size b o c l _ hok hl (Nat.lt_of_lt_of_le hb hB.size) (hA.cell rfl) hA.lt fun j u hu => (hB.cell (p := ⟨b, o + j, none⟩) hb).trans (hx j u hu))
  go_enter Tryz.func84, Tryz.ntmps84
  go_wp2_with (go_at_call 158; refine (hC.out _ rfl).mono ?_; rintro e w5 ⟨rfl, hb5⟩)
  go_ret
  exact ⟨rfl, hB.trans (hb5.mono hB.size)⟩
end Go.Proofs.YtocpnlifmeffkaaGreatDoor
namespace Go.Proofs.YtocpnlifmeffkaaGreatDoor
open Go.RowKit Go.Shelf

attribute [local go_sem] Oper.semAt_some

def badR (x : Nat) : Bool := decide (x < 32) || decide (126 < x)
set_option maxHeartbeats 1000000 in
theorem isLine1_any (x : Nat) (w : World) (hx : x ≤ 1114111) :
    Calls Tryz.prog 156 #[.int .i32 (x : Int)] w fun e w' => e = .returned (.bool (badR x)) ∧ w' = w := by
  unfold badR
  have h1 : decide ((x : Int) < 32) = decide (x < 32) := by rw [decide_eq_decide]; omega
  have h2 : decide ((x : Int) > 126) = decide (126 < x) := by rw [decide_eq_decide]; omega
  by_cases h : x < 32
  · have hd : decide ((x : Int) < 32) = true := by simp; omega
    go_enter Tryz.func156, Tryz.ntmps156
    go_wp2
    go_ret
    exact ⟨by simp [h], rfl⟩
  · have hd : decide ((x : Int) < 32) = false := by simp; omega
    go_enter Tryz.func156, Tryz.ntmps156
    go_wp2
    go_ret
    exact ⟨by simp [h], rfl⟩
theorem line_pred (w : World) : PredAtRunes Tryz.prog 156 #[] badR w := fun W x hx _ => (isLine1_any x W hx).mono fun _ _ h => ⟨h.1, 0, h.2⟩
theorem idx_fine {s : List UInt8} (h : s.all (fun c => decide (32 ≤ c ∧ c ≤ 126)) = true) : ∀ f pos, Lib.idxFuncFrom badR true (str s) f pos = -1
  | 0, _ => rfl
  | f + 1, pos => by
    unfold Lib.idxFuncFrom
    split
    · rename_i hp
      have hp' : pos < s.length := by simpa [str, ByteArray.size] using hp
      have hb : (str s)[pos]'hp = s[pos] := rfl
      have hm := List.all_eq_true.1 h s[pos] (List.getElem_mem _)
      rw [decide_eq_true_eq] at hm
      have h1 : 32 ≤ s[pos].toNat := hm.1
      have h2 : s[pos].toNat ≤ 126 := hm.2
      rw [decode_ascii (str s) pos hp (by rw [hb]; omega), hb]
      dsimp only
      rw [if_neg (by unfold badR; simp; omega)]
      exact idx_fine h f _
    · rfl
theorem indexFn_any (s : List UInt8) (w : World) (h : s.all (fun c => decide (32 ≤ c ∧ c ≤ 126)) = true) :
    Calls Tryz.prog 157 #[.string (str s), .func (.func 156) #[] #[]] w fun e w' => e = .returned (.int .i64 (-1)) ∧ Below w.heap.size w w' := by
  have := Any.strings_IndexFunc_runes Tryz.laysGw15 156 #[] (enters_of Tryz.func156 (by kernel_rfl) rfl) badR (str s) w (line_pred w)
  rwa [show Lib.idxFunc badR true (str s) = -1 from idx_fine h _ _] at this
def encLin (l : Lin) : List Value := [.string (str l.text), .int .i64 l.mark]
def linV (l : Lin) : Value := .agg (encLin l).toArray
set_option maxRecDepth 100000 in
set_option maxHeartbeats 2000000 in
theorem isLine_any (l : Lin) (w : World) (h : linOk l = true) :
    Calls Tryz.prog 83 #[linV l] w fun e w' => e = .returned (.bool true) ∧ Below w.heap.size w w' := by
  have hwi := Lib.hid cwithin_any
  obtain ⟨text, mark⟩ := l
  unfold linOk at h
  unfold linV encLin
  dsimp only at *
  rw [Bool.and_eq_true, Bool.and_eq_true, decide_eq_true_eq, decide_eq_true_eq] at h
  obtain ⟨⟨h1, h2⟩, h3⟩ := h
  replace h3 := in2 h3
  have hsz : (str text).size = text.length := by simp [str, ByteArray.size]
  have hd : decide (((str text).size : Int) ≤ 80) = true := by rw [hsz]; simp; omega
  have hI := Lib.hid fun W => indexFn_any text W h2
  have hB : Below w.heap.size w (w.alloc (.cells #[.string (str text), .int .i64 mark] 44)) := (Below.refl _ w).alloc (Nat.le_refl _) _
  have hA : Arr (w.alloc (.cells #[.string (str text), .int .i64 mark] 44)) w.heap.size 44 [.string (str text), .int .i64 mark] := Arr.new rfl rfl
  clear h1 h2 hsz
  go_enter Tryz.func83, Tryz.ntmps83
  go_wp2_with (first
    | (go_at_call 157; refine (hI.out _).mono ?_; rintro e w4 ⟨rfl, hb4⟩; have hm4 : w4.cell? ⟨w.heap.size, 1, none⟩ = some (.int .i64 mark) := (hA.below hb4).cell rfl)
    | (go_at_call 87; refine (hwi.out _ _ _ _).mono ?_; rintro e w5 ⟨rfl, rfl⟩; simp only [h3]))
  go_ret
  exact ⟨rfl, hB.trans (hb4.mono hB.size)⟩
def linCells (l : List Lin) : List Value := l.flatMap encLin
def encLin' (c : Lin) : List Value := encLin (if linOk c then c else default)
theorem encLin'_ok {c : Lin} (h : linOk c = true) : encLin' c = encLin c := by unfold encLin'; rw [if_pos h]
set_option maxHeartbeats 1000000 in
theorem allLin1_any (b : Nat) (c : Lin) (w : World) (h : linOk c = true) (hb : w.cell? ⟨b, 0, none⟩ = some (.func (.func 83) #[] #[])) (hl : b < w.heap.size) :
    Calls Tryz.prog 155 #[linV c, .pointer (some ⟨b, 0, none⟩)] w fun e w' => e = .returned (.bool false) ∧ Below w.heap.size w w' := by
  have hC := Lib.hid fun W => isLine_any c W h
  unfold linV encLin at *
  have hB : Below w.heap.size w (w.alloc (.cells #[.string (str c.text), .int .i64 c.mark] 44)) := (Below.refl _ w).alloc (Nat.le_refl _) _
  have hb' := (hB.cell (p := ⟨b, 0, none⟩) hl).trans hb
  clear hb
  go_enter Tryz.func155, Tryz.ntmps155
  go_wp2_with (go_at_call 83; refine (hC.out _).mono ?_; rintro e w5 ⟨rfl, hb5⟩)
  go_ret
  exact ⟨rfl, hB.trans (hb5.mono hB.size)⟩
theorem contLin_any (bf b o c : Nat) (l : List Lin) (w : World) (hok : l.all linOk = true) (hl : l.length ≤ 64) (hb : b < w.heap.size) (hbf : w.cell? ⟨bf, 0, none⟩ = some (.func (.func 83) #[] #[])) (hlf : bf < w.heap.size) (hc : ∀ j u, (linCells l)[j]? = some u → w.cell? ⟨b, o + j, none⟩ = some u) :
    Calls Tryz.prog 154 #[.slice (some ⟨b, o, none⟩) l.length c, .func (.func 155) #[] #[.pointer (some ⟨bf, 0, none⟩)]] w fun e w' => e = .returned (.bool false) ∧ Below w.heap.size w w' := by
  have hp : PredBelow Tryz.prog 155 #[.pointer (some ⟨bf, 0, none⟩)] (fun x => .agg (encLin' x).toArray) (fun _ => false) w := fun W x hW => by
    have h1 := (hW.cell (p := ⟨bf, 0, none⟩) hlf).trans hbf
    have h2 : linOk (if linOk x then x else default) = true := by
      split
      · assumption
      · decide
    exact (allLin1_any bf _ W h2 h1 (Nat.lt_of_lt_of_le hlf hW.size)).mono fun _ _ h => ⟨h.1, hW.trans (h.2.mono hW.size)⟩
  have h := AnyQ.slices_ContainsFunc Tryz.laysF8l 2 Tryz.isAgg44 Tryz.sizeOf44 encLin' (fun _ => rfl) (fun _ => false) 155 #[.pointer (some ⟨bf, 0, none⟩)] (enters_of Tryz.func155 (by kernel_rfl) rfl) b o l.length c l w hp (Nat.le_refl _) (by omega) hb
    (fun j hj i v hv => by
      have hi : i < 2 := (List.getElem?_eq_some_iff.1 hv).1
      have hm : linOk l[j]! = true := List.all_eq_true.1 hok _ (by rw [getElem!_pos l j hj]; exact List.getElem_mem _)
      rw [encLin'_ok hm] at hv
      have := hc (j * 2 + i) v ((flat_at encLin 2 (fun _ => rfl) l j i hj hi).trans hv)
      rwa [← Nat.add_assoc] at this)
  rwa [show (l.take l.length).any (fun _ => false) = false from by simp] at h
set_option maxHeartbeats 1000000 in
theorem contLin_none (a : Option Addr) (c : Nat) (f : Value) (w : World) :
    Calls Tryz.prog 154 #[.slice a 0 c, f] w fun e w' => e = .returned (.bool false) ∧ Below w.heap.size w w' := by
  go_enter Tryz.func154, Tryz.ntmps154
  go_wp2
  go_loop [8] (fun i => i = .int .i64 0) (fun _ => 0)
  case atStart => rfl
  case round =>
    subst hrel
    go_wp2
    go_ret
    exact ⟨rfl, Below.refl _ w⟩
set_option maxHeartbeats 1000000 in
theorem allLin_any (v : Value) (l : List Lin) (w : World) (hok : l.all linOk = true) (hl : l.length ≤ 64) (hv : SliceAt w w.heap.size v l.length (linCells l)) :
    Calls Tryz.prog 82 #[v, .func (.func 83) #[] #[]] w fun e w' => e = .returned (.bool true) ∧ Below w.heap.size w w' := by
  obtain ⟨a, c, rfl, _, _, hcc⟩ := hv
  have hB : Below w.heap.size w (w.alloc (.cells #[.func (.func 83) #[] #[]] 169)) := (Below.refl _ w).alloc (Nat.le_refl _) _
  have hA : Arr (w.alloc (.cells #[.func (.func 83) #[] #[]] 169)) w.heap.size 169 [.func (.func 83) #[] #[]] := Arr.new rfl rfl
  have hC := Lib.hid fun W (hW : W = w.alloc (.cells #[.func (.func 83) #[] #[]] 169)) => (show Calls Tryz.prog 154 #[.slice a l.length c, .func (.func 155) #[] #[.pointer (some ⟨w.heap.size, 0, none⟩)]] W fun e w' => e = .returned (.bool false) ∧ Below W.heap.size W w' from by
    subst hW
    rcases Nat.eq_zero_or_pos l.length with h0 | h0
    · rw [h0]; exact contLin_none a c _ _
    · obtain ⟨b, o, rfl, hb, hx⟩ := hcc h0
      exact contLin_any w.heap.size b o c l _ hok hl (Nat.lt_of_lt_of_le hb hB.size) (hA.cell rfl) hA.lt fun j u hu => (hB.cell (p := ⟨b, o + j, none⟩) hb).trans (hx j u hu))
  go_enter Tryz.func82, Tryz.ntmps82
  go_wp2_with (go_at_call 154; refine (hC.out _ rfl).mono ?_; rintro e w5 ⟨rfl, hb5⟩)
  go_ret
  exact ⟨rfl, hB.trans (hb5.mono hB.size)⟩
end Go.Proofs.YtocpnlifmeffkaaGreatDoor
namespace Go.Proofs.YtocpnlifmeffkaaGreatDoor
open Go.RowKit Go.Shelf

attribute [local go_sem] Oper.semAt_some

/-- A document in memory. -/
def docV (lv cv : Value) (wd : Int) (bits : List UInt8) : Value := .agg #[lv, cv, .int .i64 wd, .string (str bits)]
theorem trim0_any (w : World) :
    Calls Tryz.prog 106 #[.string (str []), .string ⟨#[48, 49]⟩] w fun e w' => e = .returned (.string (str [])) ∧ w' = w :=
  Any.strings_Trim_empty Tryz.lays160 (str []) ⟨#[48, 49]⟩ w (.inl rfl)
set_option maxRecDepth 100000 in
set_option maxHeartbeats 2000000 in
theorem isRaster0_any (a1 a2 : Option Addr) (n1 n2 c1 c2 : Nat) (w : World) :
    Calls Tryz.prog 86 #[docV (.slice a1 n1 c1) (.slice a2 n2 c2) 0 []] w fun e w' => e = .returned (.bool true) ∧ Below w.heap.size w w' := by
  have hwi := Lib.hid cwithin_any
  have hT := Lib.hid trim0_any
  have h1 : (decide ((0 : Int) ≤ 0) && decide ((0 : Int) ≤ 32)) = true := by decide
  have he : (str []).toList.isEmpty = true := by rw [Lib.toList_data]; rfl
  unfold docV
  have hB : Below w.heap.size w (w.alloc (.cells #[.slice a1 n1 c1, .slice a2 n2 c2, .int .i64 0, .string (str [])] 113)) := (Below.refl _ w).alloc (Nat.le_refl _) _
  go_enter Tryz.func86, Tryz.ntmps86
  go_wp2_with (first
    | (go_at_call 106; refine (hT.out _).mono ?_; rintro e w4 ⟨rfl, rfl⟩)
    | (go_at_call 87; refine (hwi.out _ _ _ _).mono ?_; rintro e w5 ⟨rfl, rfl⟩; simp only [h1]))
  go_quiet (fail)
  go_wp2
  go_ret
  exact ⟨rfl, hB.os, hB.tape, hB.output, hB.size, hB.block⟩
end Go.Proofs.YtocpnlifmeffkaaGreatDoor
