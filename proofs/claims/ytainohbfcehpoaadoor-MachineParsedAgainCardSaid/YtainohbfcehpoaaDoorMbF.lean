/-
  What chapter 8 asks of the library: Itoa, Atoi, Cut.
-/
import Derived.Test.YtainohbfcehpoaaDoorMe3
import Derived.Test.YtainohbfcehpoaaDoorMbE
import Derived.Test.YtainohbfcehpoaaDoorShelf
import Derived.Lib.AppendIntMem
namespace Go.Proofs.YtainohbfcehpoaaDoor
open Go.RowKit Go.Shelf

/-- The variables that are read. -/
structure Env (w : World) : Prop where
  ops : OpsIs w
  tab : Lib.TabIs Tryd.prog w "internal/strconv.uint64pow10" .u64 Lib.pow10Tab
  max : ∃ m, w.cell? ⟨4, 0, none⟩ = some (.int .i64 m)
  syn : ∃ tp p, w.cell? ⟨6, 0, none⟩ = some (.iface tp p)
  rng : ∃ tp p, w.cell? ⟨7, 0, none⟩ = some (.iface tp p)
theorem tab_below {P : Program} {w w' : World} {name : String} {k : IntKind} {zs : List Int} (h : Lib.TabIs P w name k zs) (hb : Below w.heap.size w w') : Lib.TabIs P w' name k zs := by
  unfold Lib.TabIs World.var? at *
  cases hg : P.globalNamed name with
  | none => simp [hg] at h
  | some g =>
    simp only [hg, Option.bind_some] at h ⊢
    have hlt : g < w.heap.size := by
      rcases Nat.lt_or_ge g w.heap.size with h' | h'
      · exact h'
      · rw [Array.getElem?_eq_none h'] at h; simp at h
    rw [hb.block g hlt]
    exact h
theorem cell_below {w w' : World} {a : Addr} {v : Value} (h : w.cell? a = some v) (hb : Below w.heap.size w w') : w'.cell? a = some v := by
  have hl := World.block_lt_of_cell? w a h
  exact (hb.cell hl).trans h
theorem Env.below {w w' : World} (h : Env w) (hb : Below w.heap.size w w') : Env w' :=
  ⟨h.ops.below hb h.ops.lt, tab_below h.tab hb, by obtain ⟨m, hm⟩ := h.max; exact ⟨m, cell_below hm hb⟩, by obtain ⟨t, p, hm⟩ := h.syn; exact ⟨t, p, cell_below hm hb⟩, by obtain ⟨t, p, hm⟩ := h.rng; exact ⟨t, p, cell_below hm hb⟩⟩
theorem str_append (a b : List UInt8) : str a ++ str b = str (a ++ b) := by
  apply ByteArray.ext
  simp [str, ByteArray.data_append]
theorem str_inj {a b : List UInt8} (h : str a = str b) : a = b := by
  have := congrArg (fun s => s.data.toList) h
  simpa [str] using this
theorem add_str (a b : List UInt8) (h : a.length + b.length ≤ 9223372036854775807) (w : World) : (Op.stringOp .add (str a) (str b)).run Tryd.prog w = .ok (.string (str (a ++ b))) w := by
  rw [run_string_add_sum (P := Tryd.prog) w _ _ (by simpa [str, ByteArray.size] using h), str_append]
theorem itoa_any (n : Int) (w : World) (hn : I64 n) (hE : Env w) :
    Calls Tryd.prog 37 #[.int .i64 n] w fun e w' => e = .returned (.string (str (Lib.itoa n))) ∧ Below w.heap.size w w' :=
  Calls.mono (Any.strconv_Itoa Tryd.laysM171 n hn.lo hn.hi w hE.tab) fun _ _ ⟨he, k, os, hw⟩ => ⟨he, by rw [hw]; exact Lib.below_grow _ _ (Nat.le_refl _) _ _⟩
/-- How Atoi ends. -/
def AtoiPost (l : List UInt8) (e : Ending) : Prop :=
  (∃ v, numv l = some v ∧ I64 v ∧ e = .returned (.tuple #[.int .i64 v, .nilIface])) ∨ (numv l = none ∧ ∃ v a, I64 v ∧ (l = [] → v = 0) ∧ e = .returned (.tuple #[.int .i64 v, .iface 121 (.pointer (some a))]))
theorem atoi_any (l : List UInt8) (w : World) (hs : l.length ≤ 1000000000) (hE : Env w) :
    Calls Tryd.prog 54 #[.string (str l)] w fun e w' => AtoiPost l e ∧ Below w.heap.size w w' := by
  obtain ⟨ts, ps, hsyn⟩ := hE.syn
  obtain ⟨tr, pr, hrng⟩ := hE.rng
  have hsz : (str l).size ≤ 1000000000 := by rw [str_size]; exact hs
  cases h : Lib.atoiAll l
  · rename_i v
    have hv := Lib.atoiAll_bounds h
    refine Calls.mono (Any.strconv_Atoi_ok Tryd.laysC172 (str l) (by omega) v h w) fun _ _ ⟨he, hw⟩ => ⟨.inl ⟨v, by unfold numv; rw [h], ⟨hv.1, hv.2⟩, he⟩, ?_⟩
    rcases hw with rfl | ⟨t, rfl⟩
    · exact Below.refl _ _
    · exact Lib.bytesWorld_below _ _ _
  · refine Calls.mono (Any.strconv_Atoi_syntax Tryd.laysC172 (str l) (by omega) h _ w hsyn (.inr ⟨_, _, rfl⟩)) fun _ _ ⟨N, he, _, _, hb⟩ => ⟨.inr ⟨by unfold numv; rw [h], 0, _, ⟨by omega, by omega⟩, fun _ => rfl, he⟩, hb⟩
  · have hv := Lib.atoiSat_bounds l
    refine Calls.mono (Any.strconv_Atoi_range Tryd.laysC172 (str l) (by omega) h _ w hrng (.inr ⟨_, _, rfl⟩)) fun _ _ ⟨N, he, _, _, hb⟩ => ⟨.inr ⟨by unfold numv; rw [h], _, _, ⟨hv.1, hv.2⟩, fun e => ?_, he⟩, hb⟩
    subst e
    cases h
theorem cut_any (k : UInt8) (l : List UInt8) (w : World) (hs : l.length ≤ 1000000000) (hE : Env w) :
    Calls Tryd.prog 42 #[.string (str l), .string (str [k])] w fun e w' => e = .returned (.tuple #[.string (str (Lib.cut l [k]).1), .string (str (Lib.cut l [k]).2.1), .bool (Lib.cut l [k]).2.2]) ∧ ∃ n, w' = w.drewN n := by
  obtain ⟨m, hm⟩ := hE.max
  exact Calls.mono (Any.strings_Cut Tryd.lays145 (str l) (str [k]) m w (by rw [str_size]; omega) hm) fun _ _ h => h
end Go.Proofs.YtainohbfcehpoaaDoor
