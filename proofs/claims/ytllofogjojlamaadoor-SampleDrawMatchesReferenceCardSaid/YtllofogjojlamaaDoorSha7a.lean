/-
  What digest.Sum computes; how its parts are kept.
-/
import Derived.Test.YtllofogjojlamaaDoorSha4
import Derived.Test.YtllofogjojlamaaDoorSha5
import Derived.Test.YtllofogjojlamaaDoorSha6
import Derived.Test.YtllofogjojlamaaDoorBuf
namespace Go.Proofs.YtllofogjojlamaaDoor
open Go.RowKit Go.Shelf

/-- The bytes of a string, as numbers. -/
def strBytes (s : ByteArray) : List Int := s.data.toList.map fun b => (b.toNat : Int)
theorem strBytes_len (s : ByteArray) : (strBytes s).length = s.size := by simp [strBytes]
/-- How many zeros follow. -/
def zerosTo (n : Nat) : Nat := (119 - n % 64) % 64
/-- The bytes of the length. -/
def lenByte (n j : Nat) : Int := 8 * (n : Int) / 2 ^ (8 * (7 - j)) % 256
/-- P2.1: what is processed. -/
def padTo (s : ByteArray) (z l : Nat) : List Int := strBytes s ++ [128] ++ List.replicate z 0 ++ (List.range l).map (lenByte s.size)
def padded (s : ByteArray) : List Int := padTo s (zerosTo s.size) 8
theorem padTo_len (s : ByteArray) (z l : Nat) : (padTo s z l).length = s.size + 1 + z + l := by simp [padTo, strBytes_len]; omega
theorem padded_len (s : ByteArray) : (padded s).length = 64 * ((s.size + 8) / 64 + 1) := by
  rw [padded, padTo_len]; unfold zerosTo; omega
theorem padTo_zero (s : ByteArray) (z : Nat) : padTo s (z + 1) 0 = padTo s z 0 ++ [0] := by
  simp [padTo, List.replicate_succ']
theorem padTo_succ (s : ByteArray) (z l : Nat) : padTo s z (l + 1) = padTo s z l ++ [lenByte s.size l] := by
  simp [padTo, List.range_succ]
theorem u8s_snoc (l : List Int) (x : Int) : u8s l ++ [.int .u8 x] = u8s (l ++ [x]) := by simp [u8s]
theorem u8s_len (l : List Int) : (u8s l).length = l.length := by simp [u8s]
/-- The k-th block. -/
def blockOf (l : List Int) (k : Nat) : List Int := (l.drop (64 * k)).take 64
theorem blockOf_len {l : List Int} {M k : Nat} (h : l.length = 64 * (M + 1)) (hk : k < M + 1) : (blockOf l k).length = 64 := by
  simp [blockOf, h]; omega
theorem blockOf_at {l : List Int} {M k i : Nat} (h : l.length = 64 * (M + 1)) (hk : k < M + 1) (hi : i < 64) : (u8s l)[64 * k + i]? = some (.int .u8 ((blockOf l k).getD i 0)) := by
  have h1 : 64 * k + i < l.length := by omega
  simp [u8s, blockOf, List.getD_eq_getElem?_getD, hi, h1]
/-- The words at first. -/
def IV : List Int := [1779033703, 3144134277, 1013904242, 2773480762, 1359893119, 2600822924, 528734635, 1541459225]
/-- The words behind some blocks. -/
def hashOf (l : List Int) (ks : List Nat) : List Int := ks.foldl (fun h k => shaAdd h (blockOf l k)) IV
theorem IV_v8 : V8 IV := by refine ⟨rfl, ?_⟩; simp [IV, W32]
theorem addTo_v8 {hs v : List Int} (h : V8 hs) (hv : V8 v) : V8 (addTo hs v 8) := by
  obtain ⟨a, b, c, d, e, f, g, i, rfl⟩ := h.cases
  obtain ⟨a', b', c', d', e', f', g', i', rfl⟩ := hv.cases
  refine ⟨rfl, ?_⟩
  intro y hy
  simp only [addTo, List.take, List.zipWith, List.drop, List.append_nil, List.mem_cons, List.not_mem_nil, or_false] at hy
  rcases hy with rfl | rfl | rfl | rfl | rfl | rfl | rfl | rfl <;> exact wrap_w32 _
theorem shaAdd_v8 {hs : List Int} (bs : List Int) (h : V8 hs) : V8 (shaAdd hs bs) := addTo_v8 h (rounds_v8 _ h 64)
theorem hashOf_v8 (l : List Int) (ks : List Nat) : V8 (hashOf l ks) := by
  have : ∀ (ks : List Nat) (h : List Int), V8 h → V8 (ks.foldl (fun h k => shaAdd h (blockOf l k)) h) := by
    intro ks
    induction ks with
    | nil => intro h hh; exact hh
    | cons k r ih => intro h hh; exact ih _ (shaAdd_v8 _ hh)
  exact this ks IV IV_v8
theorem hashOf_snoc (l : List Int) (ks : List Nat) (k : Nat) : hashOf l (ks ++ [k]) = shaAdd (hashOf l ks) (blockOf l k) := by simp [hashOf]
/-- P2.1: the digest of a string. -/
def shaSum (s : ByteArray) : ByteArray := ⟨(((List.range 32).map (byteAt (hashOf (padded s) (List.range ((s.size + 8) / 64 + 1))))).map fun x => UInt8.ofNat x.toNat).toArray⟩

theorem arr_kept {W W' : World} {row : Option Nat} {B : Nat} {T : TypeId} {L : List Value} (h : Arr W B T L) (hg : W.grownBy W' row) (hr : ∀ r, row = some r → ∃ o : Obj, W.heap[r]? = some o ∧ o.isCells = false) : Arr W' B T L := by
  refine (hg.block B h.lt (fun e => ?_)).trans h
  obtain ⟨o, ho, hc⟩ := hr B e.symm
  rw [h] at ho; injection ho with ho; subst ho; cases hc
theorem buf_kept {W W' : World} {row : Option Nat} {g : Nat} {e : TypeId} {v : Value} {xs : List Value} (h : Buf W g e v xs) (hg : W.grownBy W' row) (hr : ∀ r, row = some r → ∃ o : Obj, W.heap[r]? = some o ∧ o.isCells = false) : Buf W' g e v xs := by
  refine h.of_block (hg.block g h.lt (fun e => ?_))
  obtain ⟨o, ho, hc⟩ := hr g e.symm
  obtain ⟨_, _, _, _, hh, _⟩ := h
  rw [hh] at ho; injection ho with ho; subst ho; cases hc
theorem keepsOthers_of_but {W W' : World} {B : Nat} {T : TypeId} {L : List Value} (hA : Arr W B T L) (h : BelowBut W.heap.size B W W') : KeepsOthers W W' :=
  ⟨h.size, fun k o hk hc => (h.block k (Array.getElem?_eq_some_iff.1 hk).1 (fun e => by subst e; rw [hA] at hk; injection hk with hk; subst hk; cases hc)).trans hk⟩
theorem BelowBut.below {B C x : Nat} {w w' : World} (h : BelowBut B x w w') (hx : C ≤ x) (hC : C ≤ B) : Below C w w' := ⟨h.os, h.tape, h.output, h.size, fun k hk => h.block k (by omega) (by omega)⟩

section
variable {F : Fence} {n : Nat} {P : Program} {ops : Array Oper} {rest : List Oper} {op : Oper} {a : Act} {w : World} {Q : Exit → Act → World → Prop}
theorem wpListIn_load_arr (hgd : op.guard = none) (ty : TypeId) (x : Operand) (ho : op.op = .load ty x)
    (B : Nat) (hx : a.eval x = .pointer (some ⟨B, 0, none⟩)) {T : TypeId} {L : List Value} (hA : Arr w B T L) {d : TypeDesc} {m : Nat}
    (hu : P.underlying ty = some d) (hd : d.isRow = true) (hi : (P.info? ty).map (·.size) = some m) (hn : L.length = m)
    (h : wpListIn F n P ops Q rest (a.put op.dst (.agg L.toArray)) w) : wpListIn F n P ops Q (op :: rest) a w := by
  refine wpListIn_plain hgd fun K hK' => ?_
  have hrun := run_loadAt_mid (P := P) w B 0 ty L d hA.range hu hd (by rw [hn]; exact hi)
  unfold Oper.wpIn
  refine ⟨?_, ?_⟩
  · simp [Oper.about, ho]
  · rw [Oper.semAt_plain F _ _ (by rw [ho]; intro c hc'; cases hc')]
    simp [execOp, ho, hx, hrun, Result.andThen]
    exact hK' _ _ h
end
theorem below_bytesWorld {B : Nat} {a w : World} (h : Below B a w) (hB : B ≤ w.heap.size) (e : TypeId) (s : ByteArray) : Below B a (Lib.bytesWorld w e s) :=
  h.trans ⟨rfl, rfl, rfl, by rw [Lib.bytesWorld_size]; omega, fun k hk => Lib.bytesWorld_at_old w e s k (by omega)⟩
theorem Arr.bytesWorld {w : World} {B : Nat} {T : TypeId} {L : List Value} (h : Arr w B T L) (e : TypeId) (s : ByteArray) : Arr (Lib.bytesWorld w e s) B T L := (Lib.bytesWorld_at_old w e s B h.lt).trans h
theorem Arr.grown {w w' : World} {B : Nat} {T : TypeId} {L : List Value} {row : Option Nat} (h : Arr w B T L) (hg : w.grownBy w' row) (hne : row ≠ some B) : Arr w' B T L := (hg.block B h.lt (fun e => hne e.symm)).trans h
/-- A slice's length. -/
def lenV : Value → Nat | .slice _ n _ => n | _ => 0
theorem buf_last {w : World} {g : Nat} {e : TypeId} {v : Value} {xs : List Value} {a b : Int} (h : Buf w g e v (xs ++ [.int .u8 a])) (hab : a = b) : Buf w g e v (xs ++ [.int .u8 b]) := hab ▸ h
theorem new_ne {g g2 B : Nat} {W : World} {o : Obj} (h : g2 = g ∨ g2 = (W.alloc o).heap.size) (hg : g ≠ B) (hB : B < W.heap.size) : g2 ≠ B := by
  rcases h with rfl | rfl
  · exact hg
  · simp; omega
theorem new_le {g g2 B : Nat} {W : World} {o : Obj} (h : g2 = g ∨ g2 = (W.alloc o).heap.size) (hg : B ≤ g) (hB : B < W.heap.size) : B ≤ g2 := by
  rcases h with rfl | rfl
  · exact hg
  · simp; omega
theorem map_finRange (n : Nat) : (List.finRange n).map (fun x : Fin n => x.1) = List.range n := by
  apply List.ext_getElem <;> simp
theorem new_cell0 (W : World) (u : Value) (t : TypeId) : (W.alloc (.cells #[u] t)).cell? ((⟨W.heap.size, 0, none⟩ : Addr).add 0) = some u := by
  rw [Addr.add_mid]; exact (Mine.new rfl).cell
theorem name_listIn {F : Fence} {n : Nat} {P : Program} {ops : Array Oper} {Q : Exit → Act → World → Prop} {l : List Oper} {a : Act} {W : World} (h : ∀ w', w' = W → wpListIn F n P ops Q l a w') : wpListIn F n P ops Q l a W := h W rfl
end Go.Proofs.YtllofogjojlamaaDoor
