/-
  The text of a program (P8.4), plain: what is printed, what is read, and that each undoes the other.
-/
import Derived.Test.YtainohbfcehpoaaDoorMe1
import Derived.Test.YtainohbfcehpoaaDoorMb1
import Derived.Test.YtainohbfcehpoaaDoorMb6
namespace Go.Proofs.YtainohbfcehpoaaDoor
open Go.Lib

def outN (l : List Ins) (x : Ins) : Nat := if leadOp x.op then toOf l x else x.opd
def lineT (o n : Nat) : List UInt8 := opName o ++ if longOp o then 32 :: decDigits n else []
def textT (l : List Ins) : List UInt8 := l.flatMap fun x => lineT x.op (outN l x) ++ [10]
/-- A numeral as it is printed, at most 65535. -/
def numC (s : List UInt8) : Option Nat := match numv s with
  | some v => if 0 ≤ v ∧ v ≤ 65535 ∧ itoa v = s then some v.toNat else none
  | none => none
theorem numC_mk {n : Nat} (h : n ≤ 65535) : numC (decDigits n) = some n := by
  unfold numC
  rw [← itoa_nat, numv_itoa (by omega)]
  dsimp only
  rw [if_pos ⟨by omega, by omega, rfl⟩, Int.toNat_natCast]
theorem numC_some {s : List UInt8} {n : Nat} (h : numC s = some n) : n ≤ 65535 ∧ decDigits n = s := by
  unfold numC at h
  cases hv : numv s with
  | none => rw [hv] at h; cases h
  | some v =>
    rw [hv] at h
    dsimp only at h
    split at h
    · rename_i hh
      injection h with h
      subst h
      obtain ⟨h1, h2, h3⟩ := hh
      refine ⟨by omega, ?_⟩
      rw [← itoa_nat, Int.toNat_of_nonneg h1]
      exact h3
    · cases h
def opOf (name : List UInt8) (long : Bool) : Option Nat := (List.range 12).find? fun o => opName o == name && longOp o == long
theorem opOf_some {name : List UInt8} {long : Bool} {o : Nat} (h : opOf name long = some o) : o < 12 ∧ opName o = name ∧ longOp o = long := by
  have h1 := List.find?_some h
  have h2 := List.mem_of_find?_eq_some h
  simp only [Bool.and_eq_true, beq_iff_eq] at h1
  exact ⟨by simpa using h2, h1.1, h1.2⟩
theorem opOf_mk {o : Nat} (h : o < 12) : opOf (opName o) (longOp o) = some o := by
  have h12 : o = 0 ∨ o = 1 ∨ o = 2 ∨ o = 3 ∨ o = 4 ∨ o = 5 ∨ o = 6 ∨ o = 7 ∨ o = 8 ∨ o = 9 ∨ o = 10 ∨ o = 11 := by omega
  rcases h12 with rfl | rfl | rfl | rfl | rfl | rfl | rfl | rfl | rfl | rfl | rfl | rfl <;> decide
theorem opName_no {c : UInt8} (hc : c.toNat < 97) {o : Nat} (h : o < 12) : ∀ x ∈ opName o, x ≠ c := by
  have h12 : o = 0 ∨ o = 1 ∨ o = 2 ∨ o = 3 ∨ o = 4 ∨ o = 5 ∨ o = 6 ∨ o = 7 ∨ o = 8 ∨ o = 9 ∨ o = 10 ∨ o = 11 := by omega
  have key : ∀ x ∈ opName o, 97 ≤ x.toNat := by
    rcases h12 with rfl | rfl | rfl | rfl | rfl | rfl | rfl | rfl | rfl | rfl | rfl | rfl <;> decide
  intro x hx e
  have := key x hx
  rw [e] at this
  omega
/-- A line; none if it is not as it may be printed. -/
def readT (s : List UInt8) : Option (Nat × Nat) :=
  match opOf (cut s [32]).1 (cut s [32]).2.2 with
  | none => none
  | some o => if longOp o then (numC (cut s [32]).2.1).map fun n => (o, n) else some (o, 0)
theorem readT_line {o n : Nat} (ho : o < 12) (hn : n ≤ 65535) (h0 : longOp o = false → n = 0) : readT (lineT o n) = some (o, n) := by
  have hop := opOf_mk ho
  cases hl : longOp o with
  | true =>
    rw [hl] at hop
    have e : lineT o n = opName o ++ 32 :: decDigits n := by rw [lineT, hl]; rfl
    have hc : cut (lineT o n) [32] = (opName o, decDigits n, true) := by rw [e]; exact cut_hit (opName_no (by decide) ho)
    unfold readT
    rw [hc]
    dsimp only
    rw [hop]
    dsimp only
    rw [hl, if_pos rfl, numC_mk hn]
    rfl
  | false =>
    rw [hl] at hop
    have e : lineT o n = opName o := by rw [lineT, hl]; simp
    have hc : cut (lineT o n) [32] = (opName o, [], false) := by rw [e]; exact cut_miss (opName_no (by decide) ho)
    unfold readT
    rw [hc]
    dsimp only
    rw [hop]
    dsimp only
    rw [hl, h0 hl]
    rfl
theorem readT_some {s : List UInt8} {o n : Nat} (h : readT s = some (o, n)) : s = lineT o n ∧ o < 12 ∧ n ≤ 65535 ∧ (longOp o = false → n = 0) := by
  unfold readT at h
  rcases cut_one 32 s with ⟨p, hp, hc⟩ | ⟨p, r, _, hc, hs⟩
  · have hps : p = s := by
      have := glue_cutAll 32 s
      rw [hp] at this
      exact this
    subst hps
    rw [hc] at h
    dsimp only at h
    cases ho : opOf p false with
    | none => rw [ho] at h; cases h
    | some o' =>
      rw [ho] at h
      dsimp only at h
      obtain ⟨h1, h2, h3⟩ := opOf_some ho
      rw [h3, if_neg (by decide)] at h
      injection h with h
      injection h with e1 e2
      subst e1 e2
      exact ⟨by rw [lineT, h3, ← h2]; simp, h1, by omega, fun _ => rfl⟩
  · rw [hc] at h
    dsimp only at h
    cases ho : opOf p true with
    | none => rw [ho] at h; cases h
    | some o' =>
      rw [ho] at h
      dsimp only at h
      obtain ⟨h1, h2, h3⟩ := opOf_some ho
      rw [h3, if_pos rfl] at h
      obtain ⟨n', hn, he⟩ := Option.map_eq_some_iff.1 h
      injection he with e1 e2
      subst e1 e2
      obtain ⟨q1, q2⟩ := numC_some hn
      exact ⟨by rw [hs, lineT, h3, ← h2, ← q2]; rfl, h1, q1, fun hh => by rw [h3] at hh; cases hh⟩
/-- The lines of a text; left: the number of the line that is wrong. -/
def scan : List (List UInt8) → Nat → List Ins → Nat ⊕ List Ins
  | [], _, acc => .inr acc
  | [p], _, acc => if p = [] then .inr acc else .inl (acc.length + 1)
  | p :: q :: r, size, acc => match readT p with
    | none => .inl (acc.length + 1)
    | some x => if 1024 < size + simLen x.1 then .inl (acc.length + 1) else scan (q :: r) (size + simLen x.1) (acc ++ [⟨size, x.1, x.2⟩])
def codeB (l : List Ins) : List UInt8 := l.flatMap fun x => simB x.op (if leadOp x.op then l[x.opd]!.off else x.opd)
def badLead (l : List Ins) : Option Nat := l.findIdx? fun x => leadOp x.op && decide (l.length ≤ x.opd)
/-- P8.4: what Parse returns. -/
def parse8 (s : List UInt8) : List UInt8 × Nat × Int := match scan (cutAll 10 s) 0 [] with
  | .inl k => ([], k, 80)
  | .inr l => if l = [] then ([], 1, 80) else match badLead l with
    | some i => ([], i + 1, 80)
    | none => (codeB l, 0, 0)
/-- P8.4: what Print returns. -/
def print8 (code : List UInt8) : List UInt8 × Int := match formed code with
  | some l => (textT l, 0)
  | none => ([], 80)

/-- The bytes of instructions. -/
def flatB (l : List Ins) : List UInt8 := l.flatMap fun x => simB x.op x.opd
def sizeL (l : List Ins) : Nat := (l.map fun x => simLen x.op).sum
theorem flatB_cons (x : Ins) (l : List Ins) : flatB (x :: l) = simB x.op x.opd ++ flatB l := rfl
theorem flatB_len (l : List Ins) : (flatB l).length = sizeL l := by
  induction l with
  | nil => rfl
  | cons x l ih => simp only [flatB, sizeL, List.flatMap_cons, List.length_append, simB_len, List.map_cons, List.sum_cons] at ih ⊢; omega
structure Neat (x : Ins) : Prop where
  lt : x.op < 12
  opd : x.opd < 65536
  zero : longOp x.op = false → x.opd = 0
theorem dec_flat : ∀ (l : List Ins) (a : Nat) (r : List UInt8), Laid a l → (∀ x ∈ l, Neat x) → dec a (flatB l ++ r) = (dec (a + sizeL l) r).map (l ++ ·)
  | [], a, r, _, _ => by simp [flatB, sizeL]
  | x :: l, a, r, hL, hN => by
    cases hL with
    | cons hx ho hr =>
      have hn := hN x (by simp)
      have e : simI a x.op x.opd = x := by
        obtain ⟨off, op, opd⟩ := x
        simp only at hx
        subst hx
        unfold simI
        cases hl : longOp op with
        | true => rfl
        | false =>
          have := hn.zero hl
          simp only at this
          subst this
          rfl
      have ih := dec_flat l (a + simLen x.op) r (by unfold simLen; exact hr) (fun y hy => hN y (by simp [hy]))
      rw [show flatB (x :: l) ++ r = simB x.op x.opd ++ (flatB l ++ r) by simp [flatB], dec_sim _ _ _ _ ho hn.opd, ih, Option.map_map, e]
      congr 1
      simp [sizeL, Nat.add_assoc]
theorem dec_neat : ∀ (n : Nat) (bs : List UInt8), bs.length ≤ n → ∀ (a : Nat) (l : List Ins), dec a bs = some l → (∀ x ∈ l, Neat x) ∧ bs = flatB l
  | _, [], _, a, l, h => by
    rw [dec] at h
    injection h with h
    subst h
    exact ⟨by simp, rfl⟩
  | 0, _ :: _, h, _, _, _ => by simp at h
  | n + 1, [o], _, a, l, h => by
    rw [dec] at h
    split at h
    · cases h
    · split at h
      · cases h
      · rename_i h1 h2
        injection h with h
        subst h
        refine ⟨fun x hx => ?_, ?_⟩
        · rw [List.mem_singleton.1 hx]
          exact ⟨by show o.toNat < 12; omega, by show 0 < 65536; omega, fun _ => rfl⟩
        · simp [flatB, simB, h2]
  | n + 1, [o, b], hl, a, l, h => by
    rw [dec] at h
    split at h
    · cases h
    · split at h
      · cases h
      · rename_i h1 h2
        obtain ⟨r, hr, rfl⟩ := Option.map_eq_some_iff.1 h
        obtain ⟨i1, i2⟩ := dec_neat n [b] (by simp at hl ⊢; omega) _ _ hr
        refine ⟨fun x hx => ?_, ?_⟩
        · rcases List.mem_cons.1 hx with rfl | hx
          · exact ⟨by show o.toNat < 12; omega, by show 0 < 65536; omega, fun _ => rfl⟩
          · exact i1 x hx
        · rw [flatB_cons, ← i2, simB]
          simp [h2]
  | n + 1, o :: b :: c :: r, hl, a, l, h => by
    rw [dec] at h
    split at h
    · cases h
    · rename_i h1
      split at h
      · rename_i h2
        obtain ⟨q, hq, rfl⟩ := Option.map_eq_some_iff.1 h
        obtain ⟨i1, i2⟩ := dec_neat n r (by simp at hl ⊢; omega) _ _ hq
        have hb := b.toNat_lt
        have hc := c.toNat_lt
        refine ⟨fun x hx => ?_, ?_⟩
        · rcases List.mem_cons.1 hx with rfl | hx
          · refine ⟨by show o.toNat < 12; omega, by show 256 * b.toNat + c.toNat < 65536; omega, fun hh => ?_⟩
            have hh' : longOp o.toNat = false := hh
            rw [h2] at hh'
            cases hh'
          · exact i1 x hx
        · rw [flatB_cons, ← i2, simB]
          dsimp only
          rw [if_pos h2]
          have e1 : (256 * b.toNat + c.toNat) / 256 = b.toNat := by omega
          have e2 : (256 * b.toNat + c.toNat) % 256 = c.toNat := by omega
          rw [e1, e2]
          simp
      · rename_i h2
        obtain ⟨q, hq, rfl⟩ := Option.map_eq_some_iff.1 h
        obtain ⟨i1, i2⟩ := dec_neat n (b :: c :: r) (by simp at hl ⊢; omega) _ _ hq
        refine ⟨fun x hx => ?_, ?_⟩
        · rcases List.mem_cons.1 hx with rfl | hx
          · exact ⟨by show o.toNat < 12; omega, by show 0 < 65536; omega, fun _ => rfl⟩
          · exact i1 x hx
        · rw [flatB_cons, ← i2, simB]
          simp [h2]
theorem formed_neat {code : List UInt8} {l : List Ins} (h : formed code = some l) : (∀ x ∈ l, Neat x) ∧ code = flatB l := dec_neat _ code (Nat.le_refl _) _ _ (formed_parts h).2.2.1
/-- What follows a program that is well formed, and is no instruction, makes it ill formed. -/
theorem formed_more {code r : List UInt8} {l : List Ins} (h : formed code = some l) (hr : ∀ a, dec a r = none) : formed (code ++ r) = none := by
  obtain ⟨hN, hc⟩ := formed_neat h
  obtain ⟨_, _, _, hL, _⟩ := formed_parts h
  refine formed_nodec ?_
  rw [hc, dec_flat l 0 r hL hN, hr]
  rfl
end Go.Proofs.YtainohbfcehpoaaDoor
