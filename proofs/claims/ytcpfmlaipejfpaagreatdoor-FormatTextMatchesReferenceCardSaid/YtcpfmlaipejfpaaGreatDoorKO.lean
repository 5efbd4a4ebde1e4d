/-
  Formats of chapter 4, plain: the reference's Parse, line by line, is the program's.
  Formats of chapter 4, plain: what the reference's Parse returns is what Parse returns.
-/
import Derived.Test.YtcpfmlaipejfpaaGreatDoorKB
namespace Go.Proofs.YtcpfmlaipejfpaaGreatDoor
open Go.RowKit Go.Lib

/-- Number: at most eight digits. -/
def isDig (c : UInt8) : Bool := decide (48 ≤ c.toNat) && decide (c.toNat ≤ 57)
def decStep (n : Nat) (c : UInt8) : Nat := 10 * n + (c.toNat - 48)
def numR (s : List UInt8) : Nat := if 8 < s.length then 0 else if s.all isDig = true then s.foldl decStep 0 else 0
def digR (c : UInt8) : Nat := if 97 ≤ c.toNat ∧ c.toNat ≤ 102 then c.toNat - 87 else if 48 ≤ c.toNat ∧ c.toNat ≤ 57 then c.toNat - 48 else 0
def unhexR : List UInt8 → List UInt8
  | a :: b :: r => UInt8.ofNat (16 * digR a + digR b) :: unhexR r
  | _ => []
def fromW : List UInt8 := [102, 114, 111, 109]
def fieldR (w : List (List UInt8)) : Fld :=
  if w[0]! = literalT then ⟨1, 0, -1, unhexR (w[1]!.take 34)⟩
  else if w[0]! = numberT then ⟨2, (numR w[1]! : Nat), -1, []⟩
  else if w[0]! = bytesT then (if w[1]! = fromW then ⟨3, 0, (numR w[2]! : Nat), []⟩ else ⟨3, (numR w[1]! : Nat), -1, []⟩)
  else if w[0]! = listT then ⟨4, (numR w[1]! : Nat), (numR w[3]! : Nat), []⟩
  else if w[0]! = insideT then ⟨5, (numR w[1]! : Nat), (numR w[3]! : Nat), []⟩
  else ⟨6, (numR w[1]! : Nat), -1, []⟩
/-- Everything is as it should be, if all but the last field or ID was. -/
def rightR (l : List Fmt) : Bool :=
  if l[l.length - 1]!.flds.length = 0 then decide (l.length ≤ 60) && withinZ l[l.length - 1]!.id 1 1000000 && (decide (l.length = 1) || (decide (l[l.length - 2]!.id < l[l.length - 1]!.id) && decide (0 < l[l.length - 2]!.flds.length)))
  else fitsR l.dropLast l[l.length - 1]!.flds (l[l.length - 1]!.flds.length - 1) && decide (l[l.length - 1]!.flds.length ≤ 16) && decide ((leastsR l)[l.length - 1]! ≤ 65536)
def putF (l : List Fmt) (f : Fld) : List Fmt := l.dropLast ++ [⟨l[l.length - 1]!.id, l[l.length - 1]!.flds ++ [f]⟩]
def lineR (l : List Fmt) (line : List UInt8) : Option (List Fmt) :=
  let w := cutAll 32 line
  if w[0]! = formatT ∧ w.length = 2 then (if namedL formatT (numR w[1]! : Nat) = line then some (l ++ [⟨(numR w[1]! : Nat), []⟩]) else none)
  else (if l ≠ [] ∧ lineF (fieldR w) = line then some (putF l (fieldR w)) else none)
def stepRf (l : List Fmt) (line : List UInt8) : Option (List Fmt) :=
  match lineR l line with
  | none => none
  | some m => if rightR m = true then some m else none
def refGo (l : List Fmt) : List (List UInt8) → Nat → List Fmt × Nat × Int
  | [], k => ([], k, 40)
  | [p], k => if validR l = true ∧ p = [] then (l, 0, 0) else ([], k, 40)
  | p :: q :: r, k => match stepRf l p with
    | none => ([], k, 40)
    | some l => refGo l (q :: r) (k + 1)
def refParse (s : List UInt8) : List Fmt × Nat × Int := refGo [] (cutAll 10 s) 1

theorem dig_range {c : UInt8} (h : isDig c = true) : 48 ≤ c.toNat ∧ c.toNat ≤ 57 := by
  unfold isDig at h
  rw [Bool.and_eq_true, decide_eq_true_eq, decide_eq_true_eq] at h
  exact h
theorem dig_mk {c : UInt8} (h : 48 ≤ c.toNat ∧ c.toNat ≤ 57) : isDig c = true := by
  unfold isDig
  rw [Bool.and_eq_true, decide_eq_true_eq, decide_eq_true_eq]
  exact h
theorem dec_fold (n : Nat) : (decDigits n).foldl decStep 0 = n := by
  induction n using Nat.strongRecOn with
  | ind n ih =>
    have hs : ∀ a d : Nat, d < 10 → decStep a (UInt8.ofNat (48 + d)) = 10 * a + d := fun a d hd => by
      unfold decStep
      rw [UInt8.toNat_ofNat', Nat.mod_eq_of_lt (show 48 + d < 256 by omega)]
      omega
    by_cases h : n < 10
    · rw [Lib.decDigits, dif_pos h, List.foldl_cons, hs 0 n h]
      simp
    · rw [Lib.decDigits, dif_neg h, List.foldl_append, ih (n / 10) (by omega), List.foldl_cons, hs _ _ (by omega), List.foldl_nil]
      omega
theorem fold_lt : ∀ (s : List UInt8) (n : Nat), s.all isDig = true → s.foldl decStep n < (n + 1) * 10 ^ s.length
  | [], n, _ => by simp
  | c :: r, n, h => by
    rw [List.all_cons, Bool.and_eq_true] at h
    have hc := dig_range h.1
    have ih := fold_lt r (decStep n c) h.2
    rw [List.foldl_cons, List.length_cons, Nat.pow_succ]
    refine Nat.lt_of_lt_of_le ih ?_
    have : decStep n c + 1 ≤ (n + 1) * 10 := by unfold decStep; omega
    calc (decStep n c + 1) * 10 ^ r.length ≤ ((n + 1) * 10) * 10 ^ r.length := Nat.mul_le_mul_right _ this
      _ = (n + 1) * (10 ^ r.length * 10) := by rw [Nat.mul_assoc, Nat.mul_comm 10]
theorem numR_lt (s : List UInt8) : numR s < 100000000 := by
  unfold numR
  split
  · omega
  · split
    · rename_i h1 h2
      have := fold_lt s 0 h2
      have hp : 10 ^ s.length ≤ 10 ^ 8 := Nat.pow_le_pow_right (by omega) (by omega)
      omega
    · omega
theorem dec_le8 {u : Nat} (h : u ≤ 1000000) : (decDigits u).length ≤ 8 := by
  rw [decDigits_length]
  rw [nDigits]; split
  · omega
  rw [nDigits]; split
  · omega
  rw [nDigits]; split
  · omega
  rw [nDigits]; split
  · omega
  rw [nDigits]; split
  · omega
  rw [nDigits]; split
  · omega
  rw [nDigits]; split
  · omega
  omega
theorem numR_itoa {n : Int} (h0 : 0 ≤ n) (h : n ≤ 1000000) : (numR (itoa n) : Int) = n := by
  obtain ⟨k, rfl⟩ := Int.eq_ofNat_of_zero_le h0
  have h8 := dec_le8 (u := k) (by omega)
  rw [itoa_nat]
  unfold numR
  rw [if_neg (by omega), if_pos, dec_fold]
  rw [List.all_eq_true]
  exact fun c hc => dig_mk (decDigits_digit k c hc)
theorem digR_hex {k : Nat} (h : k < 16) : digR (hexC k) = k := by
  unfold hexC digR
  by_cases hk : k < 10
  · rw [if_pos hk, UInt8.toNat_ofNat', Nat.mod_eq_of_lt (show 48 + k < 256 by omega), if_neg (by omega), if_pos (by omega)]
    omega
  · rw [if_neg hk, UInt8.toNat_ofNat', Nat.mod_eq_of_lt (show 87 + k < 256 by omega), if_pos (by omega)]
    omega
theorem unhexR_hex : ∀ s : List UInt8, unhexR (hexL s) = s
  | [] => rfl
  | c :: s => by
    have hc := c.toNat_lt
    rw [hexL_cons, unhexR, unhexR_hex s, digR_hex (by omega), digR_hex (by omega), show 16 * (c.toNat / 16) + c.toNat % 16 = c.toNat by omega, UInt8.ofNat_toNat]
theorem no32 {l : List UInt8} (h : ∀ x ∈ l, 48 ≤ x.toNat) : ∀ x ∈ l, x ≠ 32 := no_of h (by decide)
theorem cut_named {word r : List UInt8} (h : ∀ x ∈ word, 48 ≤ x.toNat) : cutAll 32 (word ++ [32] ++ r) = word :: cutAll 32 r := by
  rw [List.append_assoc, List.singleton_append]
  exact cutAll_hit 32 word r (no32 h)
theorem cut_digits {n : Int} (h : 0 ≤ n) : cutAll 32 (itoa n) = [itoa n] := cutAll_miss 32 _ (digits_no32 h)
theorem cut_from {a : List UInt8} {m : Int} (ha : ∀ x ∈ a, x ≠ 32) (h : 0 ≤ m) : cutAll 32 (a ++ fromL m) = [a, fromW, itoa m] := by
  show cutAll 32 (a ++ 32 :: (fromW ++ 32 :: itoa m)) = _
  rw [cutAll_hit 32 a _ ha, cutAll_hit 32 fromW _ (by decide), cut_digits h]
/-- The words of the line of a field that fits are the field's. -/
theorem words_field {m : Int → Option Int} {l : List Fld} {f : Fld} (hm : ∀ k v, m k = some v → 1 ≤ k ∧ k ≤ 1000000) (hl : l.length ≤ 16) (h : fitsF m l f = true) :
    fieldR (cutAll 32 (lineF f)) = f ∧ (cutAll 32 (lineF f))[0]! ≠ formatT := by
  obtain ⟨kind, n, frm, text⟩ := f
  have hcnt : ∀ {x : Fld}, countedF l x = true → 0 ≤ x.frm ∧ x.frm ≤ 1000000 ∧ x.text = [] := fun hc => by
    obtain ⟨h1, h2, h3⟩ := counted_parts hc
    exact ⟨h1, by omega, h3⟩
  unfold fitsF at h
  dsimp only at h
  by_cases h1 : kind = 1
  · subst h1
    rw [if_pos rfl] at h
    simp only [Bool.and_eq_true, beq_iff_eq, withinZ_iff] at h
    obtain ⟨⟨rfl, rfl⟩, h2, h3⟩ := h
    have hlen : (hexL text).length ≤ 34 := by rw [hexL_len]; omega
    have e : cutAll 32 (lineF ⟨1, 0, -1, text⟩) = [literalT, hexL text] := by
      show cutAll 32 (literalT ++ [32] ++ hexL text) = _
      rw [cut_named (by decide), cutAll_miss 32 _ (no32 fun x hx => (hexL_no text x hx).1)]
    rw [e]
    refine ⟨?_, by show literalT ≠ formatT; decide⟩
    show (⟨1, 0, -1, unhexR ((hexL text).take 34)⟩ : Fld) = _
    rw [List.take_of_length_le hlen, unhexR_hex]
  rw [if_neg h1] at h
  by_cases h2 : kind = 2
  · subst h2
    rw [if_pos rfl, Bool.and_eq_true, withinZ_iff] at h
    obtain ⟨ha, hn⟩ := h
    obtain ⟨rfl, rfl⟩ : frm = -1 ∧ text = [] := alone_parts ha
    have e : cutAll 32 (lineF ⟨2, n, -1, []⟩) = [numberT, itoa n] := by
      show cutAll 32 (numberT ++ [32] ++ itoa n) = _
      rw [cut_named (by decide), cut_digits (by omega)]
    rw [e]
    refine ⟨?_, by show numberT ≠ formatT; decide⟩
    show (⟨2, (numR (itoa n) : Nat), -1, []⟩ : Fld) = _
    rw [numR_itoa (by omega) (by omega)]
  rw [if_neg h2] at h
  by_cases h3 : kind = 3
  · subst h3
    rw [if_pos rfl] at h
    by_cases ha : aloneF ⟨3, n, frm, text⟩ = true
    · rw [if_pos ha, withinZ_iff] at h
      obtain ⟨rfl, rfl⟩ : frm = -1 ∧ text = [] := alone_parts ha
      have e : cutAll 32 (lineF ⟨3, n, -1, []⟩) = [bytesT, itoa n] := by
        show cutAll 32 (bytesT ++ [32] ++ itoa n) = _
        rw [cut_named (by decide), cut_digits (by omega)]
      rw [e]
      refine ⟨?_, by show bytesT ≠ formatT; decide⟩
      have hne : itoa n ≠ fromW := fun he => by
        have := itoa_no (n := n) (by omega) 102 (by rw [he]; simp [fromW])
        simp at this
      show (if itoa n = fromW then (⟨3, 0, _, []⟩ : Fld) else ⟨3, (numR (itoa n) : Nat), -1, []⟩) = _
      rw [if_neg hne, numR_itoa (by omega) (by omega)]
    · rw [if_neg ha, Bool.and_eq_true, beq_iff_eq] at h
      obtain ⟨rfl, hc⟩ := h
      obtain ⟨f0, f1, rfl⟩ : 0 ≤ frm ∧ frm ≤ 1000000 ∧ text = [] := hcnt hc
      have e : cutAll 32 (lineF ⟨3, 0, frm, []⟩) = [bytesT, fromW, itoa frm] := by
        have : lineF ⟨3, 0, frm, []⟩ = bytesT ++ fromL frm := by
          unfold lineF
          rw [if_neg (show ¬ (3 : Int) = 1 by decide), if_neg (show ¬ (3 : Int) = 2 by decide), if_pos rfl, if_pos f0]
        rw [this, cut_from (by decide) f0]
      rw [e]
      refine ⟨?_, by show bytesT ≠ formatT; decide⟩
      show (⟨3, 0, (numR (itoa frm) : Nat), []⟩ : Fld) = _
      rw [numR_itoa f0 f1]
  rw [if_neg h3] at h
  by_cases h4 : kind = 4
  · subst h4
    rw [if_pos rfl, Bool.and_eq_true] at h
    obtain ⟨hs, hc⟩ := h
    obtain ⟨x, hx⟩ := Option.isSome_iff_exists.1 hs
    have hk := hm _ _ hx
    obtain ⟨f0, f1, rfl⟩ : 0 ≤ frm ∧ frm ≤ 1000000 ∧ text = [] := hcnt hc
    have e : cutAll 32 (lineF ⟨4, n, frm, []⟩) = [listT, itoa n, fromW, itoa frm] := by
      show cutAll 32 (listT ++ [32] ++ itoa n ++ fromL frm) = _
      rw [List.append_assoc (listT ++ [32]), cut_named (by decide), cut_from (digits_no32 (by omega)) f0]
    rw [e]
    refine ⟨?_, by show listT ≠ formatT; decide⟩
    show (⟨4, (numR (itoa n) : Nat), (numR (itoa frm) : Nat), []⟩ : Fld) = _
    rw [numR_itoa f0 f1, numR_itoa (by omega) (by omega)]
  rw [if_neg h4] at h
  by_cases h5 : kind = 5
  · subst h5
    rw [if_pos rfl] at h
    cases hx : m n with
    | none => rw [hx] at h; cases h
    | some x =>
      rw [hx] at h
      dsimp only at h
      rw [Bool.and_eq_true] at h
      have hk := hm _ _ hx
      obtain ⟨f0, f1, rfl⟩ : 0 ≤ frm ∧ frm ≤ 1000000 ∧ text = [] := hcnt h.1
      have e : cutAll 32 (lineF ⟨5, n, frm, []⟩) = [insideT, itoa n, fromW, itoa frm] := by
        show cutAll 32 (insideT ++ [32] ++ itoa n ++ fromL frm) = _
        rw [List.append_assoc (insideT ++ [32]), cut_named (by decide), cut_from (digits_no32 (by omega)) f0]
      rw [e]
      refine ⟨?_, by show insideT ≠ formatT; decide⟩
      show (⟨5, (numR (itoa n) : Nat), (numR (itoa frm) : Nat), []⟩ : Fld) = _
      rw [numR_itoa f0 f1, numR_itoa (by omega) (by omega)]
  rw [if_neg h5] at h
  by_cases h6 : kind = 6
  · subst h6
    rw [if_pos rfl, Bool.and_eq_true, withinZ_iff] at h
    obtain ⟨ha, hn⟩ := h
    obtain ⟨rfl, rfl⟩ : frm = -1 ∧ text = [] := alone_parts ha
    have e : cutAll 32 (lineF ⟨6, n, -1, []⟩) = [checkT, itoa n] := by
      show cutAll 32 (checkT ++ [32] ++ itoa n) = _
      rw [cut_named (by decide), cut_digits (by omega)]
    rw [e]
    refine ⟨?_, by show checkT ≠ formatT; decide⟩
    show (⟨6, (numR (itoa n) : Nat), -1, []⟩ : Fld) = _
    rw [numR_itoa (by omega) (by omega)]
  · rw [if_neg h6] at h
    cases h
end Go.Proofs.YtcpfmlaipejfpaaGreatDoor
namespace Go.Proofs.YtcpfmlaipejfpaaGreatDoor
open Go.RowKit Go.Lib

def tabL (l : List Fmt) : Tab := ⟨l, mOf l.dropLast⟩
theorem begun_right {l : List Fmt} (h : beginsR l = true) (id : Int) :
    (rightR (l ++ [⟨id, []⟩]) = true → (tabL l).beginT id = some (tabL (l ++ [⟨id, []⟩])) ∧ beginsR (l ++ [⟨id, []⟩]) = true) ∧ (rightR (l ++ [⟨id, []⟩]) ≠ true → (tabL l).beginT id = none) := by
  have tk := took h
  have e1 : rightR (l ++ [⟨id, []⟩]) = (decide (l.length + 1 ≤ 60) && withinZ id 1 1000000 && (decide (l.length = 0) || (decide (l[l.length - 1]!.id < id) && decide (0 < l[l.length - 1]!.flds.length)))) := by
    unfold rightR
    rw [List.length_append, List.length_singleton, Nat.add_sub_cancel, get_last, if_pos (show ([] : List Fld).length = 0 from rfl), show l.length + 1 - 2 = l.length - 1 from by omega]
    by_cases h0 : l.length = 0
    · rw [decide_eq_true h0, decide_eq_true (show l.length + 1 = 1 by omega)]; rfl
    · rw [decide_eq_false h0, decide_eq_false (show ¬ l.length + 1 = 1 by omega), get_app (by omega)]
  have e2 : (tabL l).beginT id = if rightR (l ++ [⟨id, []⟩]) = true then some (tabL (l ++ [⟨id, []⟩])) else none := by
    unfold Tab.beginT tabL
    rw [tk.fin, e1]
    have hl : lastLess l id = (decide (l.length = 0) || decide (l[l.length - 1]!.id < id)) := by
      rw [Bool.eq_iff_iff, last_less, Bool.or_eq_true, decide_eq_true_eq, decide_eq_true_eq]
    by_cases hf : fullL l = true
    · rw [if_pos hf]
      dsimp only
      rw [hl, List.dropLast_concat]
      unfold fullL at hf
      rw [Bool.or_eq_true, decide_eq_true_eq, decide_eq_true_eq] at hf
      have hc : (withinZ id 1 1000000 && decide (l.length < 60) && (decide (l.length = 0) || decide (l[l.length - 1]!.id < id))) = (decide (l.length + 1 ≤ 60) && withinZ id 1 1000000 && (decide (l.length = 0) || (decide (l[l.length - 1]!.id < id) && decide (0 < l[l.length - 1]!.flds.length)))) := by
        rw [show decide (l.length + 1 ≤ 60) = decide (l.length < 60) from by rw [Bool.eq_iff_iff, decide_eq_true_eq, decide_eq_true_eq]; omega, Bool.and_comm (withinZ id 1 1000000)]
        congr 1
        rcases hf with hf | hf
        · rw [decide_eq_true hf]; rfl
        · rw [decide_eq_true hf, Bool.and_true]
      rw [hc]
    · rw [if_neg hf]
      unfold fullL at hf
      rw [Bool.or_eq_true, decide_eq_true_eq, decide_eq_true_eq, not_or] at hf
      rw [decide_eq_false hf.1, decide_eq_false hf.2, Bool.and_false, Bool.or_false, Bool.and_false, if_neg (by simp)]
  refine ⟨fun hr => ⟨by rw [e2, if_pos hr], ?_⟩, fun hr => by rw [e2, if_neg hr]⟩
  rw [e1] at hr
  simp only [Bool.and_eq_true, Bool.or_eq_true, decide_eq_true_eq] at hr
  obtain ⟨⟨h1, h2⟩, h3⟩ := hr
  rw [beginsR_snoc, validR, h, decide_eq_true h1, show (decide (l.length = 0) || decide (0 < l[l.length - 1]!.flds.length)) = true from by
    rw [Bool.or_eq_true, decide_eq_true_eq, decide_eq_true_eq]
    exact h3.imp (fun y => y) fun x => x.2]
  unfold nextR
  rw [h2, show (decide (l.length = 0) || decide (l[l.length - 1]!.id < id)) = true from by
    rw [Bool.or_eq_true, decide_eq_true_eq, decide_eq_true_eq]
    exact h3.imp (fun y => y) fun x => x.1]
  rfl
theorem last_split {l : List Fmt} (h : l ≠ []) : ∃ L id p, l = L ++ [⟨id, p⟩] := by
  refine ⟨l.dropLast, (l.getLast h).id, (l.getLast h).flds, ?_⟩
  exact (List.dropLast_concat_getLast h).symm
theorem fget_snoc (p : List Fld) (f : Fld) : (p ++ [f])[p.length]! = f := by
  rw [getElem!_pos _ _ (by rw [List.length_append, List.length_singleton]; omega)]
  simp
theorem added_right {L : List Fmt} {id : Int} {p : List Fld} (h : beginsR (L ++ [⟨id, p⟩]) = true) (f : Fld) :
    (rightR (L ++ [⟨id, p ++ [f]⟩]) = true → fitsF (mOf L) p f = true ∧ (tabL (L ++ [⟨id, p⟩])).addT f = some (tabL (L ++ [⟨id, p ++ [f]⟩])) ∧ beginsR (L ++ [⟨id, p ++ [f]⟩]) = true) ∧ (rightR (L ++ [⟨id, p ++ [f]⟩]) ≠ true → (tabL (L ++ [⟨id, p⟩])).addT f = none) := by
  rw [beginsR_snoc] at h
  simp only [Bool.and_eq_true, decide_eq_true_eq] at h
  obtain ⟨⟨h60, hv⟩, hn⟩ := h
  have tk := took (l := L) (by rw [validR, Bool.and_eq_true] at hv; exact hv.1)
  obtain ⟨hid, hadd⟩ := (nextR_iff tk.asc tk.mb).1 hn
  obtain ⟨a1, a2, a3⟩ := (addOk_iff tk.mb _).1 hadd
  dsimp only at hid a1 a2 a3 hadd
  have hpo : PrevOk p := by
    have := prevOk_takeF (Nat.le_refl _) a2
    rwa [List.take_length] at this
  have hfits : fitsR L (p ++ [f]) p.length = fitsF (mOf L) p f := by
    rw [fitsR_eq (by rw [List.length_append, List.length_singleton]; omega) (by rw [List.take_left]; exact hpo), List.take_left, fget_snoc]
  have e1 : rightR (L ++ [⟨id, p ++ [f]⟩]) = (fitsF (mOf L) p f && decide (p.length + 1 ≤ 16) && decide (fmtR L (leastsR L) (p ++ [f]) ≤ 65536)) := by
    unfold rightR
    rw [List.length_append, List.length_singleton, Nat.add_sub_cancel, get_last, if_neg (by simp), List.dropLast_concat]
    dsimp only
    rw [List.length_append, List.length_singleton, Nat.add_sub_cancel, hfits, leastsR_snoc]
    have e : (leastsR L ++ [fmtR L (leastsR L) (p ++ [f])])[L.length]! = fmtR L (leastsR L) (p ++ [f]) := by
      have := getD_snoc_last (leastsR L) (fmtR L (leastsR L) (p ++ [f]))
      rwa [leastsR_len] at this
    rw [e]
  have hall : ∀ x : fitsF (mOf L) p f = true, ∀ k, k < (p ++ [f]).length → fitsF (mOf L) ((p ++ [f]).take k) (p ++ [f])[k]! = true := fun x k hk => by
    rw [List.length_append, List.length_singleton] at hk
    by_cases hkp : k = p.length
    · rw [hkp, List.take_left, fget_snoc]; exact x
    · rw [List.take_append_of_le_length (by omega), getD_snoc p f (by omega)]
      exact a2 k (by omega)
  have hlen : fitsF (mOf L) p f = true → fmtR L (leastsR L) (p ++ [f]) = lenF (mOf L) (p ++ [f]) := fun x => fmtR_eq tk.asc _ (kinds_all (hall x))
  have e2 := addT_iff (tabL (L ++ [⟨id, p⟩])) L id p f rfl
  have em : (tabL (L ++ [⟨id, p⟩])).m = mOf L := by unfold tabL; rw [List.dropLast_concat]
  rw [em] at e2
  rw [e1]
  refine ⟨fun hr => ?_, fun hr => ?_⟩
  · simp only [Bool.and_eq_true, decide_eq_true_eq] at hr
    obtain ⟨⟨r1, r2⟩, r3⟩ := hr
    rw [hlen r1] at r3
    refine ⟨r1, ?_, ?_⟩
    · rw [e2, if_pos ⟨by omega, r1, r3⟩]
      unfold tabL
      rw [List.dropLast_concat]
    · rw [beginsR_snoc, hv, decide_eq_true h60, Bool.true_and, Bool.true_and, nextR_iff tk.asc tk.mb]
      refine ⟨hid, (addOk_iff tk.mb _).2 ⟨?_, hall r1, r3⟩⟩
      dsimp only
      rw [List.length_append, List.length_singleton]
      exact r2
  · rw [e2, if_neg]
    rintro ⟨r1, r2, r3⟩
    apply hr
    rw [r2, hlen r2]
    simp only [Bool.true_and, Bool.and_eq_true, decide_eq_true_eq]
    exact ⟨by omega, r3⟩
theorem putF_snoc (L : List Fmt) (id : Int) (p : List Fld) (f : Fld) : putF (L ++ [⟨id, p⟩]) f = L ++ [⟨id, p ++ [f]⟩] := by
  unfold putF
  rw [List.dropLast_concat, List.length_append, List.length_singleton, Nat.add_sub_cancel, get_last]
theorem tabOk_begins {l : List Fmt} (h : beginsR l = true) : TabOk (tabL l) := (takeAll_list l _ _ TabOk.empty (took h).tab).1
theorem step_yes {l m : List Fmt} {line : List UInt8} (h : beginsR l = true) (hs : stepRf l line = some m) : readL (tabL l) line = some (tabL m) ∧ beginsR m = true := by
  unfold stepRf lineR at hs
  dsimp only at hs
  by_cases hw : (cutAll 32 line)[0]! = formatT ∧ (cutAll 32 line).length = 2
  · rw [if_pos hw] at hs
    have hlt := numR_lt (cutAll 32 line)[1]!
    generalize numR (cutAll 32 line)[1]! = id at *
    by_cases he : namedL formatT (id : Int) = line
    · rw [if_pos he] at hs
      dsimp only at hs
      by_cases hr : rightR (l ++ [⟨(id : Int), []⟩]) = true
      · rw [if_pos hr] at hs
        injection hs with hs
        subst hs
        obtain ⟨h1, h2⟩ := (begun_right h (id : Int)).1 hr
        refine ⟨?_, h2⟩
        rw [← he, readL_format _ (by omega) (by omega)]
        exact h1
      · rw [if_neg hr] at hs; cases hs
    · rw [if_neg he] at hs; cases hs
  · rw [if_neg hw] at hs
    generalize fieldR (cutAll 32 line) = f at *
    by_cases he : l ≠ [] ∧ lineF f = line
    · rw [if_pos he] at hs
      dsimp only at hs
      obtain ⟨L, id, p, rfl⟩ := last_split he.1
      rw [putF_snoc] at hs
      by_cases hr : rightR (L ++ [⟨id, p ++ [f]⟩]) = true
      · rw [if_pos hr] at hs
        injection hs with hs
        subst hs
        obtain ⟨_, h1, h2⟩ := (added_right h f).1 hr
        refine ⟨?_, h2⟩
        rw [← he.2]
        exact readL_field (tabOk_begins h) h1
      · rw [if_neg hr] at hs; cases hs
    · rw [if_neg he] at hs; cases hs
theorem step_no {l : List Fmt} {line : List UInt8} {t' : Tab} (h : beginsR l = true) (hr : readL (tabL l) line = some t') : ∃ m, stepRf l line = some m := by
  have hok := tabOk_begins h
  unfold readL at hr
  by_cases hf : (cut line [32]).1 = formatT
  · rw [if_pos hf] at hr
    cases hn : numF (cut line [32]).2.1 with
    | none => rw [hn] at hr; cases hr
    | some id =>
      rw [hn] at hr
      dsimp only at hr
      obtain ⟨n0, n1⟩ := numF_some hn
      obtain ⟨_, _, i1, i2⟩ := hok.begin hr
      have hline : line = formatT ++ 32 :: itoa id := by
        rcases cut_one 32 line with ⟨p, _, h2⟩ | ⟨p, r, _, h2, h3⟩
        · rw [h2] at n1
          obtain ⟨k, rfl⟩ := Int.eq_ofNat_of_zero_le n0
          rw [itoa_nat] at n1
          exact absurd n1 (decDigits_ne k)
        · rw [h2] at n1 hf
          dsimp only at n1 hf
          rw [h3, hf, ← n1]
      have hc : cutAll 32 line = [formatT, itoa id] := by
        rw [hline, cutAll_hit 32 formatT _ (by decide), cut_digits n0]
      have hnum := numR_itoa n0 i2
      refine ⟨l ++ [⟨id, []⟩], ?_⟩
      unfold stepRf lineR
      rw [hc]
      dsimp only
      rw [if_pos (show [formatT, itoa id][0]! = formatT ∧ [formatT, itoa id].length = 2 from ⟨rfl, rfl⟩), show [formatT, itoa id][1]! = itoa id from rfl, hnum, if_pos (show namedL formatT id = line by rw [hline]; unfold namedL; rw [List.append_assoc, List.singleton_append])]
      dsimp only
      rw [if_pos]
      apply Classical.byContradiction
      intro hx
      rw [(begun_right h id).2 hx] at hr
      cases hr
  · rw [if_neg hf] at hr
    cases hg : fieldOf (cut line [32]).1 (cut line [32]).2.1 with
    | none => rw [hg] at hr; cases hr
    | some f =>
      rw [hg] at hr
      dsimp only at hr
      by_cases he : lineF f = line
      · rw [if_pos he] at hr
        obtain ⟨_, g, g1, g2, g3, _⟩ := hok.add hr
        have hne : l ≠ [] := fun e => by subst e; cases g1
        obtain ⟨w1, w2⟩ := words_field hok.keys (by omega) g3
        refine ⟨putF l f, ?_⟩
        unfold stepRf lineR
        rw [← he]
        dsimp only
        rw [if_neg fun x => w2 x.1, w1, if_pos ⟨hne, rfl⟩]
        dsimp only
        rw [if_pos]
        obtain ⟨L, id, p, rfl⟩ := last_split hne
        rw [putF_snoc]
        apply Classical.byContradiction
        intro hx
        rw [(added_right h f).2 hx] at hr
        cases hr
      · rw [if_neg he] at hr; cases hr
def outL (r : Nat ⊕ Tab) : List Fmt × Nat × Int := match r with
  | .inl k => ([], k, 40)
  | .inr t => (t.list, 0, 0)
theorem go_eq : ∀ (lines : List (List UInt8)) (l : List Fmt) (k : Nat), beginsR l = true → refGo l lines k = outL (allL (tabL l) lines k)
  | [], l, k, _ => rfl
  | [p], l, k, h => by
    rw [refGo, allL]
    have hv : validR l = fullL l := by rw [validR, h]; rfl
    by_cases hp : p = []
    · rw [if_pos hp, show (tabL l).fin = _ from (took h).fin, hv]
      by_cases hf : fullL l = true
      · rw [if_pos ⟨hf, hp⟩, if_pos hf]; rfl
      · rw [if_neg fun x => hf x.1, if_neg hf]; rfl
    · rw [if_neg fun x => hp x.2, if_neg hp]; rfl
  | p :: q :: r, l, k, h => by
    rw [refGo, allL]
    cases hs : stepRf l p with
    | some m =>
      obtain ⟨h1, h2⟩ := step_yes h hs
      rw [h1]
      exact go_eq (q :: r) m (k + 1) h2
    | none =>
      cases hr : readL (tabL l) p with
      | none => rfl
      | some t' =>
        obtain ⟨m, hm⟩ := step_no h hr
        rw [hs] at hm
        cases hm
/-- P4.1: Parse. -/
theorem refParse_eq (s : List UInt8) : refParse s = parse4 s := by
  unfold refParse
  rw [go_eq _ [] 1 (by decide)]
  rfl
end Go.Proofs.YtcpfmlaipejfpaaGreatDoor
