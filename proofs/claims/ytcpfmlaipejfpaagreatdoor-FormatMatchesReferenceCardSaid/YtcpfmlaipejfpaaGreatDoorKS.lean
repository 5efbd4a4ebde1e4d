/-
  Formats of chapter 4: what FormatLines' loop holds; a byte replaced.
-/
import Derived.Test.YtcpfmlaipejfpaaGreatDoorKL
import Derived.Test.YtcpfmlaipejfpaaGreatDoorKK
import Derived.Test.YtcpfmlaipejfpaaGreatDoorKI
import Derived.Test.YtcpfmlaipejfpaaGreatDoorKD
import Derived.Test.YtcpfmlaipejfpaaGreatDoorKE
namespace Go.Proofs.YtcpfmlaipejfpaaGreatDoor
open Go.RowKit Go.Shelf Go.Lib

theorem linesE_glue : ∀ (L : List (List UInt8)), L ≠ [] → (linesE L).length = (glue 10 L).length + 1
  | [], h => absurd rfl h
  | [p], _ => by simp [linesE, glue]
  | p :: q :: r, _ => by
    have ih := linesE_glue (q :: r) (by simp)
    unfold linesE at ih ⊢
    rw [List.flatMap_cons, List.length_append, ih, glue]
    simp only [List.length_append, List.length_cons, List.length_nil]
    omega
theorem linesE_le (s : List UInt8) (i : Nat) : (linesE ((cutAll 10 s).take i)).length ≤ s.length + 1 := by
  have h := linesE_glue (cutAll 10 s) (cutAll_ne 10 s)
  rw [glue_cutAll] at h
  have h2 : linesE (cutAll 10 s) = linesE ((cutAll 10 s).take i) ++ linesE ((cutAll 10 s).drop i) := by
    conv => lhs; rw [← List.take_append_drop i (cutAll 10 s)]
    unfold linesE
    rw [List.flatMap_append]
  rw [h2, List.length_append] at h
  omega
theorem linesE_snoc {L : List (List UInt8)} {i : Nat} (h : i < L.length) : linesE (L.take (i + 1)) = linesE (L.take i) ++ L[i]! ++ [10] := by
  rw [take_app_one h]
  unfold linesE
  rw [List.flatMap_append, List.flatMap_cons, List.flatMap_nil, List.append_nil, List.append_assoc]
theorem wholeTo_le {s : List UInt8} {n : Nat} (m : Nat) : (wholeTo (cutAll 10 s) n m).length ≤ s.length + 1 := by
  rcases wholeTo_is (cutAll 10 s) n m with h | ⟨i, _, _, _, h⟩
  · rw [h]; exact Nat.zero_le _
  · rw [h]; exact linesE_le s i
theorem conv1 (W : World) (c : UInt8) : (convert 44 9 (.slice (some ⟨W.heap.size, 0, none⟩) 1 1)).run Tryz.prog (W.alloc (.cells #[.int .u8 (c.toNat : Int)] 5)).drew = .ok (.string (str [c])) (W.alloc (.cells #[.int .u8 (c.toNat : Int)] 5)).drew := by
  have hA : Arr (W.alloc (.cells #[.int .u8 (c.toNat : Int)] 5)).drew W.heap.size 5 [.int .u8 (c.toNat : Int)] := (Arr.new rfl rfl).drew
  have := run_convert_bytes_arg (P := Tryz.prog) _ _ _ Tryz.underlying44 Tryz.underlying5 W.heap.size 0 1 1 [(c.toNat : Int)] rfl (fun i hi => by
    obtain rfl : i = 0 := by omega
    exact hA.cell (j := 0) rfl) 9 Tryz.underlying9
  rw [this, show strOfNums [(c.toNat : Int)] = str [c] from by
    have := strOfNums_nums [c.toNat]
    rw [show bytesOf [c.toNat] = [c] from bytesOf_toNat [c]] at this
    exact this]
theorem drop_str (t : List UInt8) (n : Nat) : (str t).extract n (str t).size = str (t.drop n) := by
  rw [extract_part, str_size, List.take_of_length_le (by simp)]
theorem take_str4 (t : List UInt8) (n : Nat) : (str t).extract 0 n = str (t.take n) := by
  rw [extract_part, List.drop_zero, Nat.sub_zero]
theorem bytes_str (a : ByteArray) : ∃ t : List UInt8, a = str t := ⟨a.data.toList, rfl⟩
/-- The text of a table that Make makes. -/
theorem made_text {l : List Fmt} (h : MkOk l) : print4 l = (textF l, 0) ∧ (textF l).length ≤ 60600 := by
  have hvt : validT l = true := by rw [validT_eq]; exact h.valid
  have hfit := valid_fit hvt
  have hin := h.in_
  refine ⟨by unfold print4; rw [hvt]; rfl, ?_⟩
  have h1 := textF_len l hfit.ids fun g hg => ⟨hfit.flen g hg, fun f hf => line_len (hin.ok g hg f hf).n (hin.ok g hg f hf).m (hfit.fld g hg f hf).2⟩
  have := hfit.len
  omega
theorem eqq_str4 (a : List UInt8) : (str a).toList = a := by rw [ByteArray.toList_eq, str_list]
theorem parts_le4 {s : List UInt8} {c : UInt8} {i : Nat} : ((cutAll c s)[i]!).length ≤ s.length := by
  by_cases h : i < (cutAll c s).length
  · rw [getElem!_pos _ i h]
    exact cutAll_le c s _ (List.getElem_mem h)
  · rw [getElem!_neg _ i h]
    exact Nat.zero_le _
theorem own_word {w : World} {B c n i : Nat} {a : Option Addr} {l : List (List UInt8)} (h : w.ownsRow B 9 1 (.slice a n c) l.length (wordCells l)) (hi : i < l.length) : ∃ g, a = some ⟨g, 0, none⟩ ∧ w.cell? ⟨g, i, none⟩ = some (.string (str l[i]!)) := by
  obtain ⟨g, c', e, _, _, _, _, hcs, _⟩ := own_cells3 h (by omega)
  injection e with e1 _ _
  exact ⟨g, e1, hcs i _ (by unfold wordCells; rw [List.getElem?_map, List.getElem?_eq_getElem hi, getElem!_pos l i hi]; rfl)⟩
theorem Fmts.nil (w : World) : Fmts w (.slice none 0 0) [] := ⟨⟨[], rfl, ⟨none, 0, rfl, Nat.le_refl _, by unfold maxLen; omega, fun h => absurd h (by simp)⟩, fun i hi => absurd hi (Nat.not_lt_zero _)⟩, ⟨Nat.zero_le _, fun f hf => (List.not_mem_nil hf).elim, fun f hf => (List.not_mem_nil hf).elim, fun f hf => (List.not_mem_nil hf).elim⟩⟩
end Go.Proofs.YtcpfmlaipejfpaaGreatDoor
