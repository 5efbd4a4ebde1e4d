/-
  The contract of (*digest.words).add.
-/
import Derived.Test.YtllofogjojlamaaDoorSha2
namespace Go.Proofs.YtllofogjojlamaaDoor
open Go.RowKit

theorem index64 (L : List Int) (k : Nat) (h : k < 64) (hL : L.length = 64) (w : World) : (Instr.index 79 (.agg (u32s L).toArray) (.int .i64 k)).run Tryd.prog w = .ok (.int .u32 (L.getD k 0)) w := by
  have e1 : ∀ w, (isAgg 59).run Tryd.prog w = .ok false w := fun _ => by kernel_rfl
  have e2 : ∀ w, (sizeOf 59).run Tryd.prog w = .ok 1 w := fun _ => by kernel_rfl
  have h0 : (0 : Int) ≤ k ∧ (k : Int) < 64 := by omega
  have h1 : k < L.length := by omega
  simp [Instr.index, asIntOf, run_underlying Tryd.underlying79, h0, e2, part, e1, u32s, h1, List.getD_eq_getElem?_getD]
  intro hh; omega
theorem index8 (L : List Int) (k : Nat) (h : k < 8) (hL : L.length = 8) (w : World) : (Instr.index 61 (.agg (u32s L).toArray) (.int .i64 k)).run Tryd.prog w = .ok (.int .u32 (L.getD k 0)) w := by
  have e1 : ∀ w, (isAgg 59).run Tryd.prog w = .ok false w := fun _ => by kernel_rfl
  have e2 : ∀ w, (sizeOf 59).run Tryd.prog w = .ok 1 w := fun _ => by kernel_rfl
  have h0 : (0 : Int) ≤ k ∧ (k : Int) < 8 := by omega
  have h1 : k < L.length := by omega
  simp [Instr.index, asIntOf, run_underlying Tryd.underlying61, h0, e2, part, e1, u32s, h1, List.getD_eq_getElem?_getD]
  intro hh; omega

/-- One round: the constant, the word, the eight variables. -/
def rstep (k x : Int) : List Int → List Int
  | [a, b, c, d, e, f, g, h] =>
    [(h + mixd e [6, 11, 25] + bits .xor .u32 (bits .and .u32 e f) (bits .and .u32 (bits .xor .u32 4294967295 e) g) + k + x + (mixd a [2, 13, 22] + bits .xor .u32 (bits .xor .u32 (bits .and .u32 a b) (bits .and .u32 a c)) (bits .and .u32 b c))) % 4294967296,
     a, b, c, (d + (h + mixd e [6, 11, 25] + bits .xor .u32 (bits .and .u32 e f) (bits .and .u32 (bits .xor .u32 4294967295 e) g) + k + x)) % 4294967296, e, f, g]
  | l => l
/-- The constants. -/
def KS : List Int := [1116352408, 1899447441, 3049323471, 3921009573, 961987163, 1508970993, 2453635748, 2870763221, 3624381080, 310598401, 607225278, 1426881987, 1925078388, 2162078206, 2614888103, 3248222580, 3835390401, 4022224774, 264347078, 604807628, 770255983, 1249150122, 1555081692, 1996064986, 2554220882, 2821834349, 2952996808, 3210313671, 3336571891, 3584528711, 113926993, 338241895, 666307205, 773529912, 1294757372, 1396182291, 1695183700, 1986661051, 2177026350, 2456956037, 2730485921, 2820302411, 3259730800, 3345764771, 3516065817, 3600352804, 4094571909, 275423344, 430227734, 506948616, 659060556, 883997877, 958139571, 1322822218, 1537002063, 1747873779, 1955562222, 2024104815, 2227730452, 2361852424, 2428436474, 2756734187, 3204031479, 3329325298]
/-- The variables behind the first k rounds. -/
def rounds (W hs : List Int) : Nat → List Int
  | 0 => hs
  | k + 1 => rstep (KS.getD k 0) (W.getD k 0) (rounds W hs k)
/-- Eight words. -/
def V8 (l : List Int) : Prop := l.length = 8 ∧ ∀ x, x ∈ l → W32 x
theorem V8.cases {l : List Int} (h : V8 l) : ∃ a b c d e f g i, l = [a, b, c, d, e, f, g, i] := by
  obtain ⟨h, _⟩ := h
  match l, h with
  | [a, b, c, d, e, f, g, i], _ => exact ⟨a, b, c, d, e, f, g, i, rfl⟩
theorem mod_w32 (n : Int) : W32 (n % 4294967296) := by unfold W32; omega
theorem rstep_v8 (k x : Int) {l : List Int} (h : V8 l) : V8 (rstep k x l) := by
  obtain ⟨a, b, c, d, e, f, g, i, rfl⟩ := h.cases
  obtain ⟨_, h⟩ := h
  simp only [List.mem_cons, List.not_mem_nil, or_false, forall_eq_or_imp, forall_eq] at h
  obtain ⟨h1, h2, h3, h4, h5, h6, h7, h8⟩ := h
  refine ⟨rfl, ?_⟩
  intro y hy
  simp only [rstep, List.mem_cons, List.not_mem_nil, or_false] at hy
  rcases hy with rfl | rfl | rfl | rfl | rfl | rfl | rfl | rfl <;> first | assumption | exact mod_w32 _
theorem rounds_v8 (W : List Int) {hs : List Int} (h : V8 hs) (k : Nat) : V8 (rounds W hs k) := by
  induction k with
  | zero => exact h
  | succ k ih => exact rstep_v8 _ _ ih
/-- Sums of words. -/
def addTo (hs v : List Int) (k : Nat) : List Int := (List.zipWith (fun x y => IntKind.u32.wrap (x + y)) (hs.take k) (v.take k)) ++ hs.drop k
/-- What a block makes of the eight words. -/
def shaAdd (hs bs : List Int) : List Int := addTo hs (rounds (schTo bs 64) hs 64) 8

/-- Below B nothing has turned but block x. -/
structure BelowBut (B x : Nat) (w w' : World) : Prop where
  os : w'.os = w.os
  tape : w'.tape = w.tape
  output : w'.output = w.output
  size : w.heap.size ≤ w'.heap.size
  block : ∀ k, k < B → k ≠ x → w'.heap[k]? = w.heap[k]?

theorem BelowBut.of {B x : Nat} {w w' : World} (h : Below B w w') : BelowBut B x w w' := ⟨h.os, h.tape, h.output, h.size, fun k hk _ => h.block k hk⟩
theorem BelowBut.setCell {B x : Nat} {w w' : World} (h : BelowBut B x w w') (o : Nat) (u : Value) : BelowBut B x w (w'.setCell ⟨x, o, none⟩ u) :=
  ⟨h.os, h.tape, h.output, by simpa [World.setCell] using h.size, fun k hk hne => (Below.heap_setCell w' ⟨x, o, none⟩ u k (by simpa using hne)).trans (h.block k hk hne)⟩
theorem BelowBut.drew {B x : Nat} {w w' : World} (h : BelowBut B x w w') : BelowBut B x w w'.drew := ⟨h.os, h.tape, h.output, h.size, h.block⟩
theorem addTo_zero (hs v : List Int) : addTo hs v 0 = hs := by simp [addTo]
theorem addTo_at {hs v : List Int} (h : V8 hs) (hv : V8 v) (k : Nat) (hk : k < 8) : (u32s (addTo hs v k))[k]? = some (.int .u32 (hs.getD k 0)) := by
  obtain ⟨a, b, c, d, e, f, g, i, rfl⟩ := h.cases
  obtain ⟨a', b', c', d', e', f', g', i', rfl⟩ := hv.cases
  match k, hk with
  | 0, _ => rfl
  | 1, _ => rfl
  | 2, _ => rfl
  | 3, _ => rfl
  | 4, _ => rfl
  | 5, _ => rfl
  | 6, _ => rfl
  | 7, _ => rfl
theorem addTo_set {hs v : List Int} (h : V8 hs) (hv : V8 v) (k : Nat) (hk : k < 8) : (u32s (addTo hs v k)).set k (.int .u32 (IntKind.u32.wrap (hs.getD k 0 + v.getD k 0))) = u32s (addTo hs v (k + 1)) := by
  obtain ⟨a, b, c, d, e, f, g, i, rfl⟩ := h.cases
  obtain ⟨a', b', c', d', e', f', g', i', rfl⟩ := hv.cases
  match k, hk with
  | 0, _ => rfl
  | 1, _ => rfl
  | 2, _ => rfl
  | 3, _ => rfl
  | 4, _ => rfl
  | 5, _ => rfl
  | 6, _ => rfl
  | 7, _ => rfl
theorem V8.at {l : List Int} (h : V8 l) (k : Nat) (hk : k < 8) : (u32s l)[k]? = some (.int .u32 (l.getD k 0)) := by
  have := h.1
  simp [u32s, List.getD_eq_getElem?_getD, this, hk]
end Go.Proofs.YtllofogjojlamaaDoor
