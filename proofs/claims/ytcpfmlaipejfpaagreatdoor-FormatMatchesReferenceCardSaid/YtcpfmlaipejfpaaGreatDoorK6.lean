/-
  Formats of chapter 4: what is asked of the library (Itoa, Atoi, Cut, CutPrefix, Split).
  Formats of chapter 4: bytes in hexadecimal.
  Formats of chapter 4: the lines of fields.
  Formats of chapter 4: the line of a field of any kind.
-/
import Derived.Test.YtcpfmlaipejfpaaGreatDoorK5
import Derived.Test.YtcpfmlaipejfpaaGreatDoorK2
import Derived.Test.YtcpfmlaipejfpaaGreatDoorShelf
import Derived.Lib.AppendIntMem
import Derived.Test.YtcpfmlaipejfpaaGreatDoorK1
import Derived.Test.YtcpfmlaipejfpaaGreatDoorK3
import Derived.Deep.AppendLies
import Derived.Lib.ItoaLen
namespace Go.Proofs.YtcpfmlaipejfpaaGreatDoor
open Go.RowKit Go.Shelf

/-- The variables that are read. -/
structure Env (w : World) : Prop where
  tab : Lib.TabIs Tryz.prog w "internal/strconv.uint64pow10" .u64 Lib.pow10Tab
  max : ∃ m, w.cell? ⟨1, 0, none⟩ = some (.int .i64 m)
  syn : ∃ tp p, w.cell? ⟨6, 0, none⟩ = some (.iface tp p)
  rng : ∃ tp p, w.cell? ⟨7, 0, none⟩ = some (.iface tp p)
theorem tab_below {P : Program} {w w' : World} {name : String} {k : IntKind} {zs : List Int} (h : Lib.TabIs P w name k zs) (hb : Below w.heap.size w w') : Lib.TabIs P w' name k zs := by
  unfold Lib.TabIs World.var? at *
  cases hg : P.globalNamed name with
  | none => simp [hg] at h
  | some g =>
    simp only [hg, Option.bind_some] at h ⊢
    have hlt : g < w.heap.size := by
      rcases Nat.lt_or_ge g w.heap.size with h' | h'
      · exact h'
      · rw [Array.getElem?_eq_none h'] at h; simp at h
    rw [hb.block g hlt]
    exact h
theorem cell_below {w w' : World} {a : Addr} {v : Value} (h : w.cell? a = some v) (hb : Below w.heap.size w w') : w'.cell? a = some v := by
  have hl := World.block_lt_of_cell? w a h
  exact (hb.cell hl).trans h
theorem Env.below {w w' : World} (h : Env w) (hb : Below w.heap.size w w') : Env w' :=
  ⟨tab_below h.tab hb, by obtain ⟨m, hm⟩ := h.max; exact ⟨m, cell_below hm hb⟩, by obtain ⟨t, p, hm⟩ := h.syn; exact ⟨t, p, cell_below hm hb⟩, by obtain ⟨t, p, hm⟩ := h.rng; exact ⟨t, p, cell_below hm hb⟩⟩
theorem str_append (a b : List UInt8) : str a ++ str b = str (a ++ b) := by
  apply ByteArray.ext
  simp [str, ByteArray.data_append]
theorem str_inj {a b : List UInt8} (h : str a = str b) : a = b := by
  have := congrArg (fun s => s.data.toList) h
  simpa [str] using this
theorem add_str (a b : List UInt8) (h : a.length + b.length ≤ 9223372036854775807) (w : World) : (Op.stringOp .add (str a) (str b)).run Tryz.prog w = .ok (.string (str (a ++ b))) w := by
  rw [run_string_add_sum (P := Tryz.prog) w _ _ (by simpa [str, ByteArray.size] using h), str_append]
theorem itoa_any (n : Int) (w : World) (hn : I64 n) (hE : Env w) :
    Calls Tryz.prog 42 #[.int .i64 n] w fun e w' => e = .returned (.string (str (Lib.itoa n))) ∧ Below w.heap.size w w' :=
  Calls.mono (Any.strconv_Itoa Tryz.laysM171 n hn.lo hn.hi w hE.tab) fun _ _ ⟨he, k, os, hw⟩ => ⟨he, by rw [hw]; exact Lib.below_grow _ _ (Nat.le_refl _) _ _⟩
/-- How Atoi ends. -/
def AtoiPost (l : List UInt8) (e : Ending) : Prop :=
  (∃ v, numv l = some v ∧ I64 v ∧ e = .returned (.tuple #[.int .i64 v, .nilIface])) ∨ (numv l = none ∧ ∃ v a, I64 v ∧ (l = [] → v = 0) ∧ e = .returned (.tuple #[.int .i64 v, .iface 152 (.pointer (some a))]))
theorem atoi_any (l : List UInt8) (w : World) (hs : l.length ≤ 1000000000) (hE : Env w) :
    Calls Tryz.prog 105 #[.string (str l)] w fun e w' => AtoiPost l e ∧ Below w.heap.size w w' := by
  obtain ⟨ts, ps, hsyn⟩ := hE.syn
  obtain ⟨tr, pr, hrng⟩ := hE.rng
  have hsz : (str l).size ≤ 1000000000 := by rw [str_size]; exact hs
  have hl : (str l).data.toList = l := str_list l
  cases h : Lib.atoiAll l
  · rename_i v
    have hv := Lib.atoiAll_bounds h
    refine Calls.mono (Any.strconv_Atoi_ok Tryz.laysC172 (str l) (by omega) v (by rw [hl]; exact h) w) fun _ _ ⟨he, hw⟩ => ⟨.inl ⟨v, by unfold numv; rw [h], ⟨hv.1, hv.2⟩, he⟩, ?_⟩
    rcases hw with rfl | ⟨t, rfl⟩
    · exact Below.refl _ _
    · exact Lib.bytesWorld_below _ _ _
  · refine Calls.mono (Any.strconv_Atoi_syntax Tryz.laysC172 (str l) (by omega) (by rw [hl]; exact h) _ w hsyn (.inr ⟨_, _, rfl⟩)) fun _ _ ⟨N, he, _, _, hb⟩ => ⟨.inr ⟨by unfold numv; rw [h], 0, _, ⟨by omega, by omega⟩, fun _ => rfl, he⟩, hb⟩
  · have hv := Lib.atoiSat_bounds l
    have hr := Any.strconv_Atoi_range Tryz.laysC172 (str l) (by omega) (by rw [hl]; exact h) _ w hrng (.inr ⟨_, _, rfl⟩)
    rw [hl] at hr
    refine Calls.mono hr fun _ _ ⟨N, he, _, _, hb⟩ => ⟨.inr ⟨by unfold numv; rw [h], _, _, ⟨hv.1, hv.2⟩, fun e => ?_, he⟩, hb⟩
    subst e
    cases h
theorem cut_any (l sep : List UInt8) (w : World) (hs : l.length ≤ 1000000000) (hE : Env w) :
    Calls Tryz.prog 91 #[.string (str l), .string (str sep)] w fun e w' => e = .returned (.tuple #[.string (str (Lib.cut l sep).1), .string (str (Lib.cut l sep).2.1), .bool (Lib.cut l sep).2.2]) ∧ ∃ n, w' = w.drewN n := by
  obtain ⟨m, hm⟩ := hE.max
  have h := Any.strings_Cut Tryz.lays145 (str l) (str sep) m w (by rw [str_size]; omega) hm
  rw [str_list, str_list] at h
  exact Calls.mono h fun _ _ h => h
theorem prefix_any (l p : List UInt8) (w : World) :
    Calls Tryz.prog 94 #[.string (str l), .string (str p)] w fun e w' => e = .returned (.tuple #[.string (str (Lib.trimPrefix l p)), .bool (Lib.hasPrefix l p)]) ∧ w' = w := by
  have h := Any.strings_CutPrefix Tryz.lays103 (str l) (str p) w
  rw [str_list, str_list] at h
  exact Calls.mono h fun _ _ h => h
end Go.Proofs.YtcpfmlaipejfpaaGreatDoor
namespace Go.Proofs.YtcpfmlaipejfpaaGreatDoor
open Go.RowKit Go.Shelf

attribute [local go_sem] Oper.semAt_some

theorem info_byte4 : (Tryz.prog.info? 5).map (fun i => (i.zero, i.size, i.bytes)) = some (some (.int .u8 0), 1, 1) := by kernel_rfl
def bytesOf (l : List Nat) : List UInt8 := l.map UInt8.ofNat
theorem strOfNums_nums (l : List Nat) : strOfNums (l.map fun n : Nat => (n : Int)) = str (bytesOf l) := by
  simp [strOfNums, str, bytesOf, Function.comp_def]
theorem bytesOf_toNat (l : List UInt8) : bytesOf (l.map (·.toNat)) = l := by
  unfold bytesOf
  rw [List.map_map]
  conv => rhs; rw [← List.map_id l]
  exact List.map_congr_left fun x _ => by simp
theorem conv_own {w : World} {B : Nat} {v : Value} {out : List UInt8} (h : w.ownsRow B 5 1 v out.length (Lib.byteCells out)) :
    (convert 44 9 v).run Tryz.prog w = .ok (.string (str out)) w := by
  cases out with
  | nil =>
    rcases h.2 with ⟨rfl, _⟩ | ⟨g, cap, cur, rfl, _⟩
    · exact run_convert_bytes_nil (P := Tryz.prog) (w := w) 44 5 Tryz.underlying44 Tryz.underlying5 0 0 9 Tryz.underlying9
    · have := run_convert_bytes_arg (P := Tryz.prog) w 44 5 Tryz.underlying44 Tryz.underlying5 g 0 0 cap [] rfl (fun j hj => by omega) 9 Tryz.underlying9
      exact this
  | cons a r =>
    obtain ⟨g, cap, rfl, _, _, _, _, hc⟩ := own_cells h
    have := run_convert_bytes_arg (P := Tryz.prog) w 44 5 Tryz.underlying44 Tryz.underlying5 g 0 (a :: r).length cap (((a :: r).map (·.toNat)).map fun n : Nat => (n : Int)) (by simp) (fun j hj => by
      rw [Nat.zero_add]
      refine (hc j _ ?_).1
      have e : (((a :: r).map (·.toNat)).map fun n : Nat => (n : Int)).getD j 0 = ((a :: r)[j].toNat : Int) := by
        rw [List.getD_eq_getElem?_getD, List.getElem?_map, List.getElem?_map, List.getElem?_eq_getElem hj]
        rfl
      rw [e]
      unfold Lib.byteCells
      rw [List.getElem?_map, List.getElem?_eq_getElem hj]
      rfl) 9 Tryz.underlying9
    rw [strOfNums_nums, bytesOf_toNat] at this
    exact this
/-- Two bytes are appended to a row of the call's own: the run, ahead of the walk. -/
theorem append_hex (ws : World) (base : Nat) (v : Value) (out : List UInt8) (a b : UInt8) (hown : ws.ownsRow base 5 1 v out.length (Lib.byteCells out)) (hl : out.length ≤ 1000000) (hb : base ≤ ws.heap.size) :
    ∃ v' w', (Builtin.append_ #[44, 44] 44 #[v, .slice (some ⟨ws.heap.size, 0, none⟩) 2 2]).run Tryz.prog (ws.alloc (.cells #[.int .u8 (a.toNat : Int), .int .u8 (b.toNat : Int)] 5)) = .ok v' w' ∧
      w'.ownsRow base 5 1 v' (out ++ [a, b]).length (Lib.byteCells (out ++ [a, b])) ∧ ws.heap.size ≤ w'.heap.size ∧ (∀ B u, B ≤ base → Below B u ws → Below B u w') := by
  obtain ⟨i0, hi, hz0, hz1, hz2⟩ := info_parts info_byte4
  have hown2 := own_below hown ((Below.refl ws.heap.size ws).alloc (Nat.le_refl _) (.cells #[.int .u8 (a.toNat : Int), .int .u8 (b.toNat : Int)] 5))
  have hnew : Arr (ws.alloc (.cells #[.int .u8 (a.toNat : Int), .int .u8 (b.toNat : Int)] 5)) ws.heap.size 5 [.int .u8 (a.toNat : Int), .int .u8 (b.toNat : Int)] := Arr.new rfl rfl
  obtain ⟨v', w', hrun, r1, r2, r3, r4⟩ := run_append_own_at (P := Tryz.prog) (ws.alloc (.cells #[.int .u8 (a.toNat : Int), .int .u8 (b.toNat : Int)] 5)) base 44 44 5 i0 (.int .u8 0) 1 1 Tryz.underlying44 hi hz0 hz1 hz2 rfl (by decide) v out.length (Lib.byteCells out) hown2 ⟨ws.heap.size, 0, none⟩ 2 2 [.int .u8 (a.toNat : Int), .int .u8 (b.toNat : Int)] rfl (fun j u hu => by rw [Addr.add_mid, Nat.zero_add]; exact hnew.cell hu)
    (by intro u hu; simp at hu; rcases hu with rfl | rfl <;> rfl) (by unfold maxLen; omega) (by omega) (by simp; omega)
  have e : Lib.byteCells out ++ [Value.int .u8 (a.toNat : Int), .int .u8 (b.toNat : Int)] = Lib.byteCells (out ++ [a, b]) := by simp [Lib.byteCells]
  refine ⟨v', w', hrun, by rw [← e, List.length_append]; exact r1, ?_, fun B u hB hu => ?_⟩
  · have := r2.size
    simp at this
    omega
  · exact (hu.alloc (by omega) _).grown r2 (by simp; omega) (fun j ej => Nat.le_trans hB (hown2.lt j ej).1)
theorem hexL_snoc (s : List UInt8) (i : Nat) (h : i < s.length) : hexL (s.take (i + 1)) = hexL (s.take i) ++ [hexC (s[i]!.toNat / 16), hexC (s[i]!.toNat % 16)] := by
  rw [List.take_succ_eq_append_getElem h, hexL, List.flatMap_append, getElem!_pos s i h]
  rfl
def hexDigits : ByteArray := ⟨#[48, 49, 50, 51, 52, 53, 54, 55, 56, 57, 97, 98, 99, 100, 101, 102]⟩
theorem idx_hex (k : Nat) (h : k < 16) (W : World) : (Instr.index 9 (.string ⟨#[48, 49, 50, 51, 52, 53, 54, 55, 56, 57, 97, 98, 99, 100, 101, 102]⟩) (.int .u8 (k : Int))).run Tryz.prog W = .ok (.int .u8 ((hexC k).toNat : Int)) W := by
  have h16 : k = 0 ∨ k = 1 ∨ k = 2 ∨ k = 3 ∨ k = 4 ∨ k = 5 ∨ k = 6 ∨ k = 7 ∨ k = 8 ∨ k = 9 ∨ k = 10 ∨ k = 11 ∨ k = 12 ∨ k = 13 ∨ k = 14 ∨ k = 15 := by omega
  rcases h16 with rfl | rfl | rfl | rfl | rfl | rfl | rfl | rfl | rfl | rfl | rfl | rfl | rfl | rfl | rfl | rfl <;> (show _ = _; kernel_rfl)
theorem and15 (c : UInt8) : bits .and .u8 (c.toNat : Int) 15 = ((c.toNat % 16 : Nat) : Int) := by
  have key : ∀ k : Fin 256, bits .and .u8 (k.1 : Int) 15 = ((k.1 % 16 : Nat) : Int) := by decide +kernel
  exact key ⟨c.toNat, c.toNat_lt⟩
/-- What lies while the loop of toHex runs. -/
structure HexAt (w wr : World) (s : List UInt8) (i : Nat) (cap : Nat) (v : Value) : Prop where
  below : Below w.heap.size w wr
  buf : Buf wr w.heap.size 5 (.slice (some ⟨w.heap.size, 0, none⟩) s.length cap) (s.map fun b => Value.int .u8 b.toNat)
  own : wr.ownsRow (w.heap.size + 1) 5 1 v (hexL (s.take i)).length (Lib.byteCells (hexL (s.take i)))
set_option maxRecDepth 100000 in
set_option maxHeartbeats 4000000 in
theorem toHex_any (s : List UInt8) (w : World) (hs : s.length ≤ 100000) :
    Calls Tryz.prog 62 #[.string (str s)] w fun e w' => e = .returned (.string (str (hexL s))) ∧ Below w.heap.size w w' := by
  have hps : (str s).size = s.length := str_size s
  have hcv := fun (W : World) => Lib.run_convert_string_bytes (P := Tryz.prog) W 9 44 5 (str s) Tryz.underlying9 Tryz.underlying44 Tryz.underlying5
  have hbuf := buf_of_string w 5 (str s) (by omega)
  rw [str_list, hps] at hbuf
  have hB0 : Below w.heap.size w (Lib.bytesWorld w 5 (str s)) := Lib.bytesWorld_below _ _ _
  go_enter Tryz.func62, Tryz.ntmps62
  go_wp2_with fail
  generalize hcap : grownCap w s.length 0 5 = cap at *
  have h0 : HexAt w (Lib.bytesWorld w 5 (str s)) s 0 cap (.slice none 0 0) := ⟨hB0, hbuf, World.ownsRow_nil _ _ _ _⟩
  replace h0 := Lib.hid h0
  clear hbuf hB0 hcv
  generalize Lib.bytesWorld w 5 (str s) = W0 at *
  go_loopw [9, 3, 5] (fun iv v c wr => ∃ i : Nat, i ≤ s.length ∧ iv = .int .i64 (i : Int) ∧ Hid (HexAt w wr s i cap v)) (fun iv _ _ _ => s.length - (intOf iv).toNat)
  case atStart => exact ⟨0, Nat.zero_le _, rfl, h0⟩
  case round =>
    obtain ⟨i, hi, rfl, hI⟩ := hrel
    by_cases hlt : i < s.length
    · have hd : decide ((i : Int) < (s.length : Int)) = true := by simpa using hlt
      have i0 : (0 : Int) ≤ (i : Int) := by omega
      have i1 : (i : Int) < (s.length : Int) := by omega
      have x0 : wr.cell? ⟨w.heap.size, i, none⟩ = some (.int .u8 (s[i]!.toNat : Int)) := hI.out.buf.cell (by rw [List.getElem?_map, List.getElem?_eq_getElem hlt, getElem!_pos s i hlt]; rfl)
      have hcl := s[i]!.toNat_lt
      have hsn := Lib.hid (hexL_snoc s i hlt)
      generalize s[i]! = c at *
      have hix1 := fun W => idx_hex (c.toNat / 16) (by omega) W
      have hix2 := fun W => idx_hex (c.toNat % 16) (by omega) W
      rw [show ((c.toNat / 16 : Nat) : Int) = (c.toNat : Int) / 16 by omega] at hix1
      rw [← and15] at hix2
      obtain ⟨ao, vc, rfl⟩ := own_val hI.out.own
      have hcp := hI.out.below.size
      have hlen := hexL_len (s.take i)
      rw [List.length_take] at hlen
      have hd1 : Below wr.heap.size wr wr.drew := (Below.refl _ _).drew
      obtain ⟨v', w', hrun, r1, r2, r3⟩ := append_hex wr.drew (w.heap.size + 1) _ (hexL (s.take i)) (hexC (c.toNat / 16)) (hexC (c.toNat % 16)) (own_below hI.out.own hd1) (by omega) (show w.heap.size + 1 ≤ wr.heap.size from hI.out.buf.lt)
      rw [← hsn.out] at r1
      have hIn : Hid (HexAt w w' s (i + 1) cap v') := (show HexAt _ _ _ _ _ _ from ⟨r3 _ _ (Nat.le_succ _) hI.out.below.drew, hI.out.buf.of_block ((r3 (w.heap.size + 1) wr (Nat.le_refl _) ((Below.refl _ _).drew)).block _ (Nat.lt_succ_self _)), r1⟩)
      replace hrun := Lib.hid hrun
      replace hlen := Lib.hid hlen
      clear r1 r2 r3 hd1
      go_wp2_with fail
      refine wp_region_held_drew (S := fun w' => True) (by kernel_rfl) (by trivial) (fun hHeld => ?_)
      refine take_l (i := 0) (v := ?_) rfl (by kernel_rfl) (by kernel_rfl) (by kernel_rfl) (fun _ _ _ h => h) (Or.inl ⟨by kernel_rfl, ?_⟩) (by assumption) ?_
      rotate_left
      · intro w hSw; (try dsimp only at hSw); go_simp; (try with_reducible rfl)
      (try simp only [Act.put, List.setIfInBounds_toArray, List.set_cons_zero, List.set_cons_succ])
      refine take_l (i := 1) (v := ?_) rfl (by kernel_rfl) (by kernel_rfl) (by kernel_rfl) (fun _ _ _ h => h) (Or.inl ⟨by kernel_rfl, ?_⟩) (by assumption) ?_
      rotate_left
      · intro w hSw; (try dsimp only at hSw); go_simp; (try with_reducible rfl)
      (try simp only [Act.put, List.setIfInBounds_toArray, List.set_cons_zero, List.set_cons_succ])
      refine take_l (i := 2) (v := ?_) rfl (by kernel_rfl) (by kernel_rfl) (by kernel_rfl) (fun _ _ _ h => h) (Or.inl ⟨by kernel_rfl, ?_⟩) (by assumption) ?_
      rotate_left
      · intro w hSw; (try dsimp only at hSw); go_simp; (try with_reducible rfl)
      (try simp only [Act.put, List.setIfInBounds_toArray, List.set_cons_zero, List.set_cons_succ])
      refine take_l (i := 3) (v := ?_) rfl (by kernel_rfl) (by kernel_rfl) (by kernel_rfl) (fun _ _ _ h => h) (Or.inl ⟨by kernel_rfl, ?_⟩) (by assumption) ?_
      rotate_left
      · intro w hSw; (try dsimp only at hSw); go_simp; (try with_reducible rfl)
      (try simp only [Act.put, List.setIfInBounds_toArray, List.set_cons_zero, List.set_cons_succ])
      refine take_l (i := 4) (v := ?_) rfl (by kernel_rfl) (by kernel_rfl) (by kernel_rfl) (fun _ _ _ h => h) (Or.inl ⟨by kernel_rfl, ?_⟩) (by assumption) ?_
      rotate_left
      · intro w hSw; (try dsimp only at hSw); go_simp; (try with_reducible rfl)
      (try simp only [Act.put, List.setIfInBounds_toArray, List.set_cons_zero, List.set_cons_succ])
      refine take_l (i := 5) (v := ?_) rfl (by kernel_rfl) (by kernel_rfl) (by kernel_rfl) (fun _ _ _ h => h) (Or.inl ⟨by kernel_rfl, ?_⟩) (by assumption) ?_
      rotate_left
      · intro w hSw; (try dsimp only at hSw); go_simp; (try with_reducible rfl)
      (try simp only [Act.put, List.setIfInBounds_toArray, List.set_cons_zero, List.set_cons_succ])
      refine take_l (i := 6) (v := ?_) rfl (by kernel_rfl) (by kernel_rfl) (by kernel_rfl) (fun _ _ _ h => h) (Or.inl ⟨by kernel_rfl, ?_⟩) (by assumption) ?_
      rotate_left
      · intro w hSw; (try dsimp only at hSw); go_simp; (try with_reducible rfl)
      (try simp only [Act.put, List.setIfInBounds_toArray, List.set_cons_zero, List.set_cons_succ])
      refine wpAnyH_ready (rs := [7]) (by kernel_rfl) (by simp) ?_
      refine ready_l rfl (fun K hK => ?_) AllReadyH.nil
      go_simp
      refine hK.out _ _ (by trivial) (fun hHeld => ?_)
      clear hK K
      (try simp only [Act.put, List.setIfInBounds_toArray, List.set_cons_zero, List.set_cons_succ])
      refine wpAnyH_ready (rs := [8]) (by kernel_rfl) (by simp) ?_
      refine ready_l rfl (fun K hK => ?_) AllReadyH.nil
      refine step_append_known rfl _ _ _ _ rfl _ _ rfl rfl hrun.out ?_
      (try simp only [Act.put, List.setIfInBounds_toArray, List.set_cons_zero, List.set_cons_succ])
      refine hK.out _ _ (by trivial) (fun hHeld => ?_)
      clear hK K
      (try simp only [Act.put, List.setIfInBounds_toArray, List.set_cons_zero, List.set_cons_succ])
      refine take_l (i := 9) (v := ?_) rfl (by kernel_rfl) (by kernel_rfl) (by kernel_rfl) (fun _ _ _ h => h) (Or.inl ⟨by kernel_rfl, ?_⟩) (by assumption) ?_
      rotate_left
      · intro w hSw; (try dsimp only at hSw); go_simp; (try with_reducible rfl)
      (try simp only [Act.put, List.setIfInBounds_toArray, List.set_cons_zero, List.set_cons_succ])
      refine wpAnyH_done (by kernel_rfl) ?_ _
      go_wp2_with fail
      exact ⟨⟨i + 1, by omega, by go_num, hIn⟩, by simp [intOf]; omega⟩
    · have hd : decide ((i : Int) < (s.length : Int)) = false := by simpa using hlt
      have hown := hI.out.own
      rw [List.take_of_length_le (by omega)] at hown
      have hcv := conv_own hown
      have hB := hI.out.below
      obtain ⟨ao, vc, rfl⟩ := own_val hown
      go_wp2_with fail
      go_ret
      exact ⟨rfl, hB⟩
end Go.Proofs.YtcpfmlaipejfpaaGreatDoor
namespace Go.Proofs.YtcpfmlaipejfpaaGreatDoor
open Go.RowKit Go.Shelf

attribute [local go_sem] Oper.semAt_some

theorem itoa_len (n : Int) (h : I64 n) : (Lib.itoa n).length ≤ 21 := Lib.itoa_length_le n h.lo h.hi
theorem named_at (s : List UInt8) (w : World) :
    Calls Tryz.prog 65 #[.string (str s)] w fun e w' => e = .returned (namedV w.heap.size) ∧ Arr w' w.heap.size 9 [.string (str s)] ∧ Below w.heap.size w w' :=
  (named_any s w).mono fun e w' h => by
    obtain ⟨rfl, rfl⟩ := h
    exact ⟨rfl, Arr.new rfl rfl, (Below.refl _ _).alloc (Nat.le_refl _) _⟩
set_option maxHeartbeats 2000000 in
theorem from_any (f : Fld) (w : World) (hm : I64 f.frm) (hE : Env w) :
    Calls Tryz.prog 70 #[fldV f] w fun e w' => e = .returned (.string (str (fromL f.frm))) ∧ Below w.heap.size w w' := by
  obtain ⟨k, n, m, t⟩ := f
  unfold fldV fldC
  dsimp only at hm ⊢
  have hbx : Below w.heap.size w (w.alloc (.cells #[.int .i64 k, .int .i64 n, .int .i64 m, .string (str t)] 55)) := (Below.refl _ _).alloc (Nat.le_refl _) _
  have hit := Lib.hid (itoa_any m _ hm (hE.below hbx))
  have hl := itoa_len m hm
  have hadd := add_str fromT (Lib.itoa m) (by simp only [fromT, List.length_cons, List.length_nil]; omega)
  rw [show str fromT = ⟨#[32, 102, 114, 111, 109, 32]⟩ from rfl] at hadd
  have hfl : Hid (fromL m = fromT ++ Lib.itoa m) := rfl
  rw [← hfl.out] at hadd
  generalize fromL m = r at *
  generalize Lib.itoa m = i at *
  replace hfl := Lib.hid hfl
  go_enter Tryz.func70, Tryz.ntmps70
  go_wp2_with fail
  refine hit.out.mono ?_
  rintro e w1 ⟨rfl, hb1⟩
  go_wp2_with fail
  go_ret
  exact ⟨rfl, hbx.trans (hb1.mono hbx.size)⟩
set_option maxHeartbeats 2000000 in
set_option maxRecDepth 100000 in
theorem named1_any (s : List UInt8) (b : Nat) (f : Fld) (w : World) (hb : Arr w b 9 [.string (str s)]) (hs : s.length ≤ 1000) (hn : I64 f.n) (hE : Env w) :
    Calls Tryz.prog 86 #[fldV f, .pointer (some ⟨b, 0, none⟩)] w fun e w' => e = .returned (.string (str (namedL s f.n))) ∧ Below w.heap.size w w' := by
  obtain ⟨k, n, m, t⟩ := f
  unfold fldV fldC
  dsimp only at hn ⊢
  obtain ⟨W, hW⟩ : ∃ W, W = w.alloc (.cells #[.int .i64 k, .int .i64 n, .int .i64 m, .string (str t)] 55) := ⟨_, rfl⟩
  have hbx : Below w.heap.size w W := by rw [hW]; exact (Below.refl _ _).alloc (Nat.le_refl _) _
  have hA : Arr W w.heap.size 55 [.int .i64 k, .int .i64 n, .int .i64 m, .string (str t)] := by rw [hW]; exact Arr.new rfl rfl
  have d0 : W.cell? ⟨b, 0, none⟩ = some (.string (str s)) := (hb.below hbx).cell rfl
  have d1 : W.cell? ⟨w.heap.size, 1, none⟩ = some (.int .i64 n) := hA.cell (j := 1) rfl
  have hz0 := (hb.below hbx).lt
  have hz1 := hA.lt
  have hit := Lib.hid (itoa_any n W.drew hn (hE.below hbx.drew))
  have hl := itoa_len n hn
  have hadd := add_str s [32] (by simp only [List.length_cons, List.length_nil]; omega)
  have hadd2 := add_str (s ++ [32]) (Lib.itoa n) (by simp only [List.length_append, List.length_cons, List.length_nil]; omega)
  rw [show str [32] = ⟨#[32]⟩ from rfl] at hadd
  have hfl : Hid (namedL s n = s ++ [32] ++ Lib.itoa n) := rfl
  rw [← hfl.out] at hadd2
  generalize namedL s n = r at *
  generalize s ++ [32] = s1 at *
  generalize Lib.itoa n = i at *
  replace hfl := Lib.hid hfl
  replace hbx := Lib.hid hbx
  go_enter Tryz.func86, Tryz.ntmps86
  go_wp2_with fail
  rw [← hW]
  clear hW
  refine wp_region_held_drew (S := fun w' => w'.cell? ⟨b, 0, none⟩ = some (.string (str s)) ∧ w'.cell? ⟨w.heap.size, 1, none⟩ = some (.int .i64 n)) (by kernel_rfl) (by exact ⟨d0, d1⟩) (fun hHeld => ?_)
  refine take_l (i := 0) (v := ?_) rfl (by kernel_rfl) (by kernel_rfl) (by kernel_rfl) (fun _ _ _ h => h) (Or.inl ⟨by kernel_rfl, ?_⟩) (by assumption) ?_
  rotate_left
  · intro w hSw; (try dsimp only at hSw); go_simp; (try with_reducible rfl)
  (try simp only [Act.put, List.setIfInBounds_toArray, List.set_cons_zero, List.set_cons_succ])
  refine take_l (i := 1) (v := ?_) rfl (by kernel_rfl) (by kernel_rfl) (by kernel_rfl) (fun _ _ _ h => h) (Or.inl ⟨by kernel_rfl, ?_⟩) (by assumption) ?_
  rotate_left
  · intro w hSw; (try dsimp only at hSw); go_simp; (try with_reducible rfl)
  (try simp only [Act.put, List.setIfInBounds_toArray, List.set_cons_zero, List.set_cons_succ])
  refine take_l (i := 2) (v := ?_) rfl (by kernel_rfl) (by kernel_rfl) (by kernel_rfl) (fun _ _ _ h => h) (Or.inl ⟨by kernel_rfl, ?_⟩) (by assumption) ?_
  rotate_left
  · intro w hSw; (try dsimp only at hSw); go_simp; (try with_reducible rfl)
  (try simp only [Act.put, List.setIfInBounds_toArray, List.set_cons_zero, List.set_cons_succ])
  refine take_l (i := 3) (v := ?_) rfl (by kernel_rfl) (by kernel_rfl) (by kernel_rfl) (fun _ _ _ h => h) (Or.inl ⟨by kernel_rfl, ?_⟩) (by assumption) ?_
  rotate_left
  · intro w hSw; (try dsimp only at hSw); go_simp; (try with_reducible rfl)
  (try simp only [Act.put, List.setIfInBounds_toArray, List.set_cons_zero, List.set_cons_succ])
  refine wpAnyH_ready (rs := [4]) (by kernel_rfl) (by simp) ?_
  refine ready_l rfl (fun K hK => ?_) AllReadyH.nil
  go_simp
  ((with_reducible refine ((hit.out)).mono ?_); rintro e vA ⟨rfl, hbvA⟩; have hBvA : Below W.heap.size W vA := Below.trans (by repeat first | with_reducible exact Below.refl _ _ | with_reducible assumption | with_reducible refine below_drewN ?_ _ | with_reducible refine Below.drew ?_ | with_reducible refine Below.setCell ?_ (by first | exact Nat.le_refl _ | (simp; done) | (simp; omega) | omega) _ | with_reducible refine Below.alloc ?_ (by first | exact Nat.le_refl _ | (simp; done) | (simp; omega) | omega) _ | exact Below.refl _ _ | assumption) (hbvA.mono (by first | exact Nat.le_refl _ | assumption | (simp; done) | (simp; omega) | omega)); have hzvA := hbvA.size; )
  refine hK.out _ _ (by exact ⟨(hbvA.cell (p := ⟨b, 0, none⟩) hz0).trans d0, (hbvA.cell (p := ⟨w.heap.size, 1, none⟩) hz1).trans d1⟩) (fun hHeld => ?_)
  clear hK K
  (try simp only [Act.put, List.setIfInBounds_toArray, List.set_cons_zero, List.set_cons_succ])
  refine take_l (i := 5) (v := ?_) rfl (by kernel_rfl) (by kernel_rfl) (by kernel_rfl) (fun _ _ _ h => h) (Or.inl ⟨by kernel_rfl, ?_⟩) (by assumption) ?_
  rotate_left
  · intro w hSw; (try dsimp only at hSw); go_simp; (try with_reducible rfl)
  (try simp only [Act.put, List.setIfInBounds_toArray, List.set_cons_zero, List.set_cons_succ])
  refine take_l (i := 6) (v := ?_) rfl (by kernel_rfl) (by kernel_rfl) (by kernel_rfl) (fun _ _ _ h => h) (Or.inl ⟨by kernel_rfl, ?_⟩) (by assumption) ?_
  rotate_left
  · intro w hSw; (try dsimp only at hSw); go_simp; (try with_reducible rfl)
  (try simp only [Act.put, List.setIfInBounds_toArray, List.set_cons_zero, List.set_cons_succ])
  refine wpAnyH_done (by kernel_rfl) ?_ _
  go_wp2_with fail
  go_ret
  exact ⟨rfl, hbx.out.drew.trans (hbvA.mono hbx.out.size)⟩
set_option maxHeartbeats 2000000 in
theorem litline_any (f : Fld) (w : World) (ht : f.text.length ≤ 100000) :
    Calls Tryz.prog 61 #[fldV f] w fun e w' => e = .returned (.string (str (literalT ++ [32] ++ hexL f.text))) ∧ Below w.heap.size w w' := by
  obtain ⟨k, n, m, t⟩ := f
  unfold fldV fldC
  dsimp only at ht ⊢
  have hbx : Below w.heap.size w (w.alloc (.cells #[.int .i64 k, .int .i64 n, .int .i64 m, .string (str t)] 55)) := (Below.refl _ _).alloc (Nat.le_refl _) _
  have hit := Lib.hid (toHex_any t (w.alloc (.cells #[.int .i64 k, .int .i64 n, .int .i64 m, .string (str t)] 55)) ht)
  have hl := hexL_len t
  have hadd := add_str (literalT ++ [32]) (hexL t) (by simp only [literalT, List.length_append, List.length_cons, List.length_nil]; omega)
  rw [show str (literalT ++ [32]) = ⟨#[108, 105, 116, 101, 114, 97, 108, 32]⟩ from rfl] at hadd
  generalize literalT ++ [32] ++ hexL t = r at *
  generalize hexL t = i at *
  replace hl := Lib.hid hl
  go_enter Tryz.func61, Tryz.ntmps61
  go_wp2_with fail
  refine hit.out.mono ?_
  rintro e w1 ⟨rfl, hb1⟩
  go_wp2_with fail
  go_ret
  exact ⟨rfl, hbx.trans (hb1.mono hbx.size)⟩
set_option maxHeartbeats 2000000 in
set_option maxRecDepth 100000 in
theorem listline_any (f : Fld) (w : World) (hn : I64 f.n) (hm : I64 f.frm) (hE : Env w) :
    Calls Tryz.prog 73 #[fldV f] w fun e w' => e = .returned (.string (str (namedL listT f.n ++ fromL f.frm))) ∧ Below w.heap.size w w' := by
  obtain ⟨W, hW⟩ : ∃ W, W = w.alloc (.cells (fldC f).toArray 55) := ⟨_, rfl⟩
  have hbx : Below w.heap.size w W := by rw [hW]; exact (Below.refl _ _).alloc (Nat.le_refl _) _
  have hA : Arr W w.heap.size 55 (fldC f) := by rw [hW]; exact Arr.new rfl rfl
  have hnm := Lib.hid (named_at listT W.drew)
  have hn1 := Lib.hid fun b V (hA : Arr V b 9 [.string (str listT)]) hE => named1_any listT b f V hA (by decide) hn hE
  have hfr := Lib.hid fun V hE => from_any f V hm hE
  have hl := itoa_len f.n hn
  have hl2 := itoa_len f.frm hm
  have hadd := add_str (namedL listT f.n) (fromL f.frm) (by simp only [namedL, fromL, listT, fromT, List.length_append, List.length_cons, List.length_nil]; omega)
  have hEW : Env W.drew := hE.below hbx.drew
  have hzd : W.heap.size ≤ W.drew.heap.size := Nat.le_refl _
  generalize namedL listT f.n ++ fromL f.frm = r at *
  generalize namedL listT f.n = r1 at *
  generalize fromL f.frm = r2 at *
  obtain ⟨k, n, m, t⟩ := f
  unfold fldV fldC at *
  dsimp only at hn1 hfr hl hl2 ⊢
  have d0 := hA.cell (j := 0) rfl
  have d1 := hA.cell (j := 1) rfl
  have d2 := hA.cell (j := 2) rfl
  have d3 := hA.cell (j := 3) rfl
  have hz := hA.lt
  replace hbx := Lib.hid hbx
  rw [show str listT = ⟨#[108, 105, 115, 116]⟩ from rfl] at hnm
  go_enter Tryz.func73, Tryz.ntmps73
  go_wp2_with fail
  rw [← hW]
  clear hW
  refine wp_region_held_drew (S := fun w' => w'.cell? ⟨w.heap.size, 0, none⟩ = some (.int .i64 k) ∧ w'.cell? ⟨w.heap.size, 1, none⟩ = some (.int .i64 n) ∧ w'.cell? ⟨w.heap.size, 2, none⟩ = some (.int .i64 m) ∧ w'.cell? ⟨w.heap.size, 3, none⟩ = some (.string (str t))) (by kernel_rfl) (by exact ⟨d0, d1, d2, d3⟩) (fun hHeld => ?_)
  refine take_l (i := 1) (v := ?_) rfl (by kernel_rfl) (by kernel_rfl) (by kernel_rfl) (fun _ _ _ h => h) (Or.inl ⟨by kernel_rfl, ?_⟩) (by assumption) ?_
  rotate_left
  · intro w hSw; (try dsimp only at hSw); go_simp; (try with_reducible rfl)
  (try simp only [Act.put, List.setIfInBounds_toArray, List.set_cons_zero, List.set_cons_succ])
  refine take_l (i := 3) (v := ?_) rfl (by kernel_rfl) (by kernel_rfl) (by kernel_rfl) (fun _ _ _ h => h) (Or.inl ⟨by kernel_rfl, ?_⟩) (by assumption) ?_
  rotate_left
  · intro w hSw; (try dsimp only at hSw); go_simp; (try with_reducible rfl)
  (try simp only [Act.put, List.setIfInBounds_toArray, List.set_cons_zero, List.set_cons_succ])
  refine wpAnyH_ready (rs := [0]) (by kernel_rfl) (by simp) ?_
  refine ready_l rfl (fun K hK => ?_) AllReadyH.nil
  go_simp
  ((with_reducible refine ((hnm.out)).mono ?_); rintro e vA ⟨rfl, hAv, hbvA⟩; have hBvA : Below W.heap.size W vA := Below.trans (by repeat first | with_reducible exact Below.refl _ _ | with_reducible assumption | with_reducible refine below_drewN ?_ _ | with_reducible refine Below.drew ?_ | with_reducible refine Below.setCell ?_ (by first | exact Nat.le_refl _ | (simp; done) | (simp; omega) | omega) _ | with_reducible refine Below.alloc ?_ (by first | exact Nat.le_refl _ | (simp; done) | (simp; omega) | omega) _ | exact Below.refl _ _ | assumption) (hbvA.mono (by first | exact Nat.le_refl _ | assumption | (simp; done) | (simp; omega) | omega)); have hzvA := hbvA.size; have hEA := hEW.below hbvA; have q0 := (hbvA.cell (p := ⟨_, 0, none⟩) hz).trans d0; have q1 := (hbvA.cell (p := ⟨_, 1, none⟩) hz).trans d1; have q2 := (hbvA.cell (p := ⟨_, 2, none⟩) hz).trans d2; have q3 := (hbvA.cell (p := ⟨_, 3, none⟩) hz).trans d3; have hzA := Nat.lt_of_lt_of_le hz hbvA.size; unfold namedV)
  refine hK.out _ _ (by exact ⟨q0, q1, q2, q3⟩) (fun hHeld => ?_)
  clear hK K
  (try simp only [Act.put, List.setIfInBounds_toArray, List.set_cons_zero, List.set_cons_succ])
  refine wpAnyH_ready (rs := [2]) (by kernel_rfl) (by simp) ?_
  refine ready_l rfl (fun K hK => ?_) AllReadyH.nil
  go_simp
  ((with_reducible refine ((hn1.out _ _ hAv hEA)).mono ?_); rintro e vB ⟨rfl, hbvB⟩; have hBvB : Below W.heap.size W vB := Below.trans (by repeat first | with_reducible exact Below.refl _ _ | with_reducible assumption | with_reducible refine below_drewN ?_ _ | with_reducible refine Below.drew ?_ | with_reducible refine Below.setCell ?_ (by first | exact Nat.le_refl _ | (simp; done) | (simp; omega) | omega) _ | with_reducible refine Below.alloc ?_ (by first | exact Nat.le_refl _ | (simp; done) | (simp; omega) | omega) _ | exact Below.refl _ _ | assumption) (hbvB.mono (by first | exact Nat.le_refl _ | assumption | (simp; done) | (simp; omega) | omega)); have hzvB := hbvB.size; have hEB := hEA.below hbvB; have s0 := (hbvB.cell (p := ⟨_, 0, none⟩) hzA).trans q0; have s1 := (hbvB.cell (p := ⟨_, 1, none⟩) hzA).trans q1; have s2 := (hbvB.cell (p := ⟨_, 2, none⟩) hzA).trans q2; have s3 := (hbvB.cell (p := ⟨_, 3, none⟩) hzA).trans q3; have hzB := Nat.lt_of_lt_of_le hzA hbvB.size)
  refine hK.out _ _ (by exact ⟨s0, s1, s2, s3⟩) (fun hHeld => ?_)
  clear hK K
  (try simp only [Act.put, List.setIfInBounds_toArray, List.set_cons_zero, List.set_cons_succ])
  refine wpAnyH_ready (rs := [4]) (by kernel_rfl) (by simp) ?_
  refine ready_l rfl (fun K hK => ?_) AllReadyH.nil
  go_simp
  ((with_reducible refine ((hfr.out _ hEB)).mono ?_); rintro e vC ⟨rfl, hbvC⟩; have hBvC : Below W.heap.size W vC := Below.trans (by repeat first | with_reducible exact Below.refl _ _ | with_reducible assumption | with_reducible refine below_drewN ?_ _ | with_reducible refine Below.drew ?_ | with_reducible refine Below.setCell ?_ (by first | exact Nat.le_refl _ | (simp; done) | (simp; omega) | omega) _ | with_reducible refine Below.alloc ?_ (by first | exact Nat.le_refl _ | (simp; done) | (simp; omega) | omega) _ | exact Below.refl _ _ | assumption) (hbvC.mono (by first | exact Nat.le_refl _ | assumption | (simp; done) | (simp; omega) | omega)); have hzvC := hbvC.size; have t0 := (hbvC.cell (p := ⟨_, 0, none⟩) hzB).trans s0; have t1 := (hbvC.cell (p := ⟨_, 1, none⟩) hzB).trans s1; have t2 := (hbvC.cell (p := ⟨_, 2, none⟩) hzB).trans s2; have t3 := (hbvC.cell (p := ⟨_, 3, none⟩) hzB).trans s3)
  refine hK.out _ _ (by exact ⟨t0, t1, t2, t3⟩) (fun hHeld => ?_)
  clear hK K
  (try simp only [Act.put, List.setIfInBounds_toArray, List.set_cons_zero, List.set_cons_succ])
  refine take_l (i := 5) (v := ?_) rfl (by kernel_rfl) (by kernel_rfl) (by kernel_rfl) (fun _ _ _ h => h) (Or.inl ⟨by kernel_rfl, ?_⟩) (by assumption) ?_
  rotate_left
  · intro w hSw; (try dsimp only at hSw); go_simp; (try with_reducible rfl)
  (try simp only [Act.put, List.setIfInBounds_toArray, List.set_cons_zero, List.set_cons_succ])
  refine take_l (i := 6) (v := ?_) rfl (by kernel_rfl) (by kernel_rfl) (by kernel_rfl) (fun _ _ _ h => h) (Or.inl ⟨by kernel_rfl, ?_⟩) (by assumption) ?_
  rotate_left
  · intro w hSw; (try dsimp only at hSw); go_simp; (try with_reducible rfl)
  (try simp only [Act.put, List.setIfInBounds_toArray, List.set_cons_zero, List.set_cons_succ])
  refine wpAnyH_done (by kernel_rfl) ?_ _
  go_wp2_with fail
  go_ret
  exact ⟨rfl, (((hbx.out.drew.trans (hbvA.mono hbx.out.size)).trans (hbvB.mono (Nat.le_trans hbx.out.size hbvA.size))).trans (hbvC.mono (Nat.le_trans hbx.out.size (Nat.le_trans hbvA.size hbvB.size))))⟩
set_option maxHeartbeats 2000000 in
set_option maxRecDepth 100000 in
theorem insideline_any (f : Fld) (w : World) (hn : I64 f.n) (hm : I64 f.frm) (hE : Env w) :
    Calls Tryz.prog 76 #[fldV f] w fun e w' => e = .returned (.string (str (namedL insideT f.n ++ fromL f.frm))) ∧ Below w.heap.size w w' := by
  obtain ⟨W, hW⟩ : ∃ W, W = w.alloc (.cells (fldC f).toArray 55) := ⟨_, rfl⟩
  have hbx : Below w.heap.size w W := by rw [hW]; exact (Below.refl _ _).alloc (Nat.le_refl _) _
  have hA : Arr W w.heap.size 55 (fldC f) := by rw [hW]; exact Arr.new rfl rfl
  have hnm := Lib.hid (named_at insideT W.drew)
  have hn1 := Lib.hid fun b V (hA : Arr V b 9 [.string (str insideT)]) hE => named1_any insideT b f V hA (by decide) hn hE
  have hfr := Lib.hid fun V hE => from_any f V hm hE
  have hl := itoa_len f.n hn
  have hl2 := itoa_len f.frm hm
  have hadd := add_str (namedL insideT f.n) (fromL f.frm) (by simp only [namedL, fromL, insideT, fromT, List.length_append, List.length_cons, List.length_nil]; omega)
  have hEW : Env W.drew := hE.below hbx.drew
  have hzd : W.heap.size ≤ W.drew.heap.size := Nat.le_refl _
  generalize namedL insideT f.n ++ fromL f.frm = r at *
  generalize namedL insideT f.n = r1 at *
  generalize fromL f.frm = r2 at *
  obtain ⟨k, n, m, t⟩ := f
  unfold fldV fldC at *
  dsimp only at hn1 hfr hl hl2 ⊢
  have d0 := hA.cell (j := 0) rfl
  have d1 := hA.cell (j := 1) rfl
  have d2 := hA.cell (j := 2) rfl
  have d3 := hA.cell (j := 3) rfl
  have hz := hA.lt
  replace hbx := Lib.hid hbx
  rw [show str insideT = ⟨#[105, 110, 115, 105, 100, 101]⟩ from rfl] at hnm
  go_enter Tryz.func76, Tryz.ntmps76
  go_wp2_with fail
  rw [← hW]
  clear hW
  refine wp_region_held_drew (S := fun w' => w'.cell? ⟨w.heap.size, 0, none⟩ = some (.int .i64 k) ∧ w'.cell? ⟨w.heap.size, 1, none⟩ = some (.int .i64 n) ∧ w'.cell? ⟨w.heap.size, 2, none⟩ = some (.int .i64 m) ∧ w'.cell? ⟨w.heap.size, 3, none⟩ = some (.string (str t))) (by kernel_rfl) (by exact ⟨d0, d1, d2, d3⟩) (fun hHeld => ?_)
  refine take_l (i := 1) (v := ?_) rfl (by kernel_rfl) (by kernel_rfl) (by kernel_rfl) (fun _ _ _ h => h) (Or.inl ⟨by kernel_rfl, ?_⟩) (by assumption) ?_
  rotate_left
  · intro w hSw; (try dsimp only at hSw); go_simp; (try with_reducible rfl)
  (try simp only [Act.put, List.setIfInBounds_toArray, List.set_cons_zero, List.set_cons_succ])
  refine take_l (i := 3) (v := ?_) rfl (by kernel_rfl) (by kernel_rfl) (by kernel_rfl) (fun _ _ _ h => h) (Or.inl ⟨by kernel_rfl, ?_⟩) (by assumption) ?_
  rotate_left
  · intro w hSw; (try dsimp only at hSw); go_simp; (try with_reducible rfl)
  (try simp only [Act.put, List.setIfInBounds_toArray, List.set_cons_zero, List.set_cons_succ])
  refine wpAnyH_ready (rs := [0]) (by kernel_rfl) (by simp) ?_
  refine ready_l rfl (fun K hK => ?_) AllReadyH.nil
  go_simp
  ((with_reducible refine ((hnm.out)).mono ?_); rintro e vA ⟨rfl, hAv, hbvA⟩; have hBvA : Below W.heap.size W vA := Below.trans (by repeat first | with_reducible exact Below.refl _ _ | with_reducible assumption | with_reducible refine below_drewN ?_ _ | with_reducible refine Below.drew ?_ | with_reducible refine Below.setCell ?_ (by first | exact Nat.le_refl _ | (simp; done) | (simp; omega) | omega) _ | with_reducible refine Below.alloc ?_ (by first | exact Nat.le_refl _ | (simp; done) | (simp; omega) | omega) _ | exact Below.refl _ _ | assumption) (hbvA.mono (by first | exact Nat.le_refl _ | assumption | (simp; done) | (simp; omega) | omega)); have hzvA := hbvA.size; have hEA := hEW.below hbvA; have q0 := (hbvA.cell (p := ⟨_, 0, none⟩) hz).trans d0; have q1 := (hbvA.cell (p := ⟨_, 1, none⟩) hz).trans d1; have q2 := (hbvA.cell (p := ⟨_, 2, none⟩) hz).trans d2; have q3 := (hbvA.cell (p := ⟨_, 3, none⟩) hz).trans d3; have hzA := Nat.lt_of_lt_of_le hz hbvA.size; unfold namedV)
  refine hK.out _ _ (by exact ⟨q0, q1, q2, q3⟩) (fun hHeld => ?_)
  clear hK K
  (try simp only [Act.put, List.setIfInBounds_toArray, List.set_cons_zero, List.set_cons_succ])
  refine wpAnyH_ready (rs := [2]) (by kernel_rfl) (by simp) ?_
  refine ready_l rfl (fun K hK => ?_) AllReadyH.nil
  go_simp
  ((with_reducible refine ((hn1.out _ _ hAv hEA)).mono ?_); rintro e vB ⟨rfl, hbvB⟩; have hBvB : Below W.heap.size W vB := Below.trans (by repeat first | with_reducible exact Below.refl _ _ | with_reducible assumption | with_reducible refine below_drewN ?_ _ | with_reducible refine Below.drew ?_ | with_reducible refine Below.setCell ?_ (by first | exact Nat.le_refl _ | (simp; done) | (simp; omega) | omega) _ | with_reducible refine Below.alloc ?_ (by first | exact Nat.le_refl _ | (simp; done) | (simp; omega) | omega) _ | exact Below.refl _ _ | assumption) (hbvB.mono (by first | exact Nat.le_refl _ | assumption | (simp; done) | (simp; omega) | omega)); have hzvB := hbvB.size; have hEB := hEA.below hbvB; have s0 := (hbvB.cell (p := ⟨_, 0, none⟩) hzA).trans q0; have s1 := (hbvB.cell (p := ⟨_, 1, none⟩) hzA).trans q1; have s2 := (hbvB.cell (p := ⟨_, 2, none⟩) hzA).trans q2; have s3 := (hbvB.cell (p := ⟨_, 3, none⟩) hzA).trans q3; have hzB := Nat.lt_of_lt_of_le hzA hbvB.size)
  refine hK.out _ _ (by exact ⟨s0, s1, s2, s3⟩) (fun hHeld => ?_)
  clear hK K
  (try simp only [Act.put, List.setIfInBounds_toArray, List.set_cons_zero, List.set_cons_succ])
  refine wpAnyH_ready (rs := [4]) (by kernel_rfl) (by simp) ?_
  refine ready_l rfl (fun K hK => ?_) AllReadyH.nil
  go_simp
  ((with_reducible refine ((hfr.out _ hEB)).mono ?_); rintro e vC ⟨rfl, hbvC⟩; have hBvC : Below W.heap.size W vC := Below.trans (by repeat first | with_reducible exact Below.refl _ _ | with_reducible assumption | with_reducible refine below_drewN ?_ _ | with_reducible refine Below.drew ?_ | with_reducible refine Below.setCell ?_ (by first | exact Nat.le_refl _ | (simp; done) | (simp; omega) | omega) _ | with_reducible refine Below.alloc ?_ (by first | exact Nat.le_refl _ | (simp; done) | (simp; omega) | omega) _ | exact Below.refl _ _ | assumption) (hbvC.mono (by first | exact Nat.le_refl _ | assumption | (simp; done) | (simp; omega) | omega)); have hzvC := hbvC.size; have t0 := (hbvC.cell (p := ⟨_, 0, none⟩) hzB).trans s0; have t1 := (hbvC.cell (p := ⟨_, 1, none⟩) hzB).trans s1; have t2 := (hbvC.cell (p := ⟨_, 2, none⟩) hzB).trans s2; have t3 := (hbvC.cell (p := ⟨_, 3, none⟩) hzB).trans s3)
  refine hK.out _ _ (by exact ⟨t0, t1, t2, t3⟩) (fun hHeld => ?_)
  clear hK K
  (try simp only [Act.put, List.setIfInBounds_toArray, List.set_cons_zero, List.set_cons_succ])
  refine take_l (i := 5) (v := ?_) rfl (by kernel_rfl) (by kernel_rfl) (by kernel_rfl) (fun _ _ _ h => h) (Or.inl ⟨by kernel_rfl, ?_⟩) (by assumption) ?_
  rotate_left
  · intro w hSw; (try dsimp only at hSw); go_simp; (try with_reducible rfl)
  (try simp only [Act.put, List.setIfInBounds_toArray, List.set_cons_zero, List.set_cons_succ])
  refine take_l (i := 6) (v := ?_) rfl (by kernel_rfl) (by kernel_rfl) (by kernel_rfl) (fun _ _ _ h => h) (Or.inl ⟨by kernel_rfl, ?_⟩) (by assumption) ?_
  rotate_left
  · intro w hSw; (try dsimp only at hSw); go_simp; (try with_reducible rfl)
  (try simp only [Act.put, List.setIfInBounds_toArray, List.set_cons_zero, List.set_cons_succ])
  refine wpAnyH_done (by kernel_rfl) ?_ _
  go_wp2_with fail
  go_ret
  exact ⟨rfl, (((hbx.out.drew.trans (hbvA.mono hbx.out.size)).trans (hbvB.mono (Nat.le_trans hbx.out.size hbvA.size))).trans (hbvC.mono (Nat.le_trans hbx.out.size (Nat.le_trans hbvA.size hbvB.size))))⟩
end Go.Proofs.YtcpfmlaipejfpaaGreatDoor
namespace Go.Proofs.YtcpfmlaipejfpaaGreatDoor
open Go.RowKit Go.Shelf

attribute [local go_sem] Oper.semAt_some

set_option maxHeartbeats 2000000 in
set_option maxRecDepth 100000 in
theorem bytesline_any (f : Fld) (w : World) (hn : I64 f.n) (hm : I64 f.frm) (hE : Env w) :
    Calls Tryz.prog 69 #[fldV f] w fun e w' => e = .returned (.string (str (if 0 ≤ f.frm then bytesT ++ fromL f.frm else namedL bytesT f.n))) ∧ Below w.heap.size w w' := by
  obtain ⟨W, hW⟩ : ∃ W, W = w.alloc (.cells (fldC f).toArray 55) := ⟨_, rfl⟩
  have hbx : Below w.heap.size w W := by rw [hW]; exact (Below.refl _ _).alloc (Nat.le_refl _) _
  have hA : Arr W w.heap.size 55 (fldC f) := by rw [hW]; exact Arr.new rfl rfl
  have hnm := Lib.hid (named_at bytesT W.drew)
  have hn1 := Lib.hid fun b V (hA : Arr V b 9 [.string (str bytesT)]) hE => named1_any bytesT b f V hA (by decide) hn hE
  have hfr := Lib.hid fun V hE => from_any f V hm hE
  have hl := itoa_len f.n hn
  have hl2 := itoa_len f.frm hm
  have hadd := add_str bytesT (fromL f.frm) (by simp only [bytesT, fromL, fromT, List.length_append, List.length_cons, List.length_nil]; omega)
  rw [show str bytesT = ⟨#[98, 121, 116, 101, 115]⟩ from rfl] at hadd hnm
  have hEW : Env W.drew := hE.below hbx.drew
  have hEW0 : Env W := hE.below hbx
  have hzd : W.heap.size ≤ W.drew.heap.size := Nat.le_refl _
  by_cases h0 : 0 ≤ f.frm
  · rw [if_pos h0]
    generalize bytesT ++ fromL f.frm = r at *
    generalize fromL f.frm = r2 at *
    obtain ⟨k, n, m, t⟩ := f
    unfold fldV fldC at *
    dsimp only at hn1 hfr hl hl2 h0 ⊢
    have hd : decide (m ≥ 0) = true := by simpa using h0
    have hd2 : decide (0 ≤ m) = true := by simpa using h0
    have d0 := hA.cell (j := 0) rfl
    have d1 := hA.cell (j := 1) rfl
    have d2 := hA.cell (j := 2) rfl
    have d3 := hA.cell (j := 3) rfl
    replace hfr := Lib.hid (hfr.out W hEW0)
    rw [hW] at d0 d1 d2 d3 hfr
    replace hbx := Lib.hid hbx
    clear hn1 hnm
    go_enter Tryz.func69, Tryz.ntmps69
    go_wp2_with fail
    refine hfr.out.mono ?_
    rintro e w1 ⟨rfl, hb1⟩
    rw [← hW] at hb1
    go_wp2_with fail
    go_ret
    exact ⟨rfl, hbx.out.trans (hb1.mono hbx.out.size)⟩
  · rw [if_neg h0]
    generalize bytesT ++ fromL f.frm = r at *
    generalize namedL bytesT f.n = r1 at *
    obtain ⟨k, n, m, t⟩ := f
    unfold fldV fldC at *
    dsimp only at hn1 hfr hl hl2 h0 ⊢
    have hd : decide (m ≥ 0) = false := by simpa using h0
    have hd2 : decide (0 ≤ m) = false := by simpa using h0
    have d0 := hA.cell (j := 0) rfl
    have d1 := hA.cell (j := 1) rfl
    have d2 := hA.cell (j := 2) rfl
    have d3 := hA.cell (j := 3) rfl
    have hz := hA.lt
    replace hbx := Lib.hid hbx
    clear hfr hadd
    have hW2 := d2
    rw [hW] at hW2
    go_enter Tryz.func69, Tryz.ntmps69
    go_wp2_with fail
    rw [← hW]
    clear hW hW2
    refine wp_region_held_drew (S := fun w' => w'.cell? ⟨w.heap.size, 0, none⟩ = some (.int .i64 k) ∧ w'.cell? ⟨w.heap.size, 1, none⟩ = some (.int .i64 n) ∧ w'.cell? ⟨w.heap.size, 2, none⟩ = some (.int .i64 m) ∧ w'.cell? ⟨w.heap.size, 3, none⟩ = some (.string (str t))) (by kernel_rfl) (by exact ⟨d0, d1, d2, d3⟩) (fun hHeld => ?_)
    refine take_l (i := 1) (v := ?_) rfl (by kernel_rfl) (by kernel_rfl) (by kernel_rfl) (fun _ _ _ h => h) (Or.inl ⟨by kernel_rfl, ?_⟩) (by assumption) ?_
    rotate_left
    · intro w hSw; (try dsimp only at hSw); go_simp; (try with_reducible rfl)
    (try simp only [Act.put, List.setIfInBounds_toArray, List.set_cons_zero, List.set_cons_succ])
    refine wpAnyH_ready (rs := [0]) (by kernel_rfl) (by simp) ?_
    refine ready_l rfl (fun K hK => ?_) AllReadyH.nil
    go_simp
    ((with_reducible refine ((hnm.out)).mono ?_); rintro e vA ⟨rfl, hAv, hbvA⟩; have hBvA : Below W.heap.size W vA := Below.trans (by repeat first | with_reducible exact Below.refl _ _ | with_reducible assumption | with_reducible refine below_drewN ?_ _ | with_reducible refine Below.drew ?_ | with_reducible refine Below.setCell ?_ (by first | exact Nat.le_refl _ | (simp; done) | (simp; omega) | omega) _ | with_reducible refine Below.alloc ?_ (by first | exact Nat.le_refl _ | (simp; done) | (simp; omega) | omega) _ | exact Below.refl _ _ | assumption) (hbvA.mono (by first | exact Nat.le_refl _ | assumption | (simp; done) | (simp; omega) | omega)); have hzvA := hbvA.size; have hEA := hEW.below hbvA; have q0 := (hbvA.cell (p := ⟨_, 0, none⟩) hz).trans d0; have q1 := (hbvA.cell (p := ⟨_, 1, none⟩) hz).trans d1; have q2 := (hbvA.cell (p := ⟨_, 2, none⟩) hz).trans d2; have q3 := (hbvA.cell (p := ⟨_, 3, none⟩) hz).trans d3; have hzA := Nat.lt_of_lt_of_le hz hbvA.size; unfold namedV)
    refine hK.out _ _ (by exact ⟨q0, q1, q2, q3⟩) (fun hHeld => ?_)
    clear hK K
    (try simp only [Act.put, List.setIfInBounds_toArray, List.set_cons_zero, List.set_cons_succ])
    refine wpAnyH_ready (rs := [2]) (by kernel_rfl) (by simp) ?_
    refine ready_l rfl (fun K hK => ?_) AllReadyH.nil
    go_simp
    ((with_reducible refine ((hn1.out _ _ hAv hEA)).mono ?_); rintro e vB ⟨rfl, hbvB⟩; have hBvB : Below W.heap.size W vB := Below.trans (by repeat first | with_reducible exact Below.refl _ _ | with_reducible assumption | with_reducible refine below_drewN ?_ _ | with_reducible refine Below.drew ?_ | with_reducible refine Below.setCell ?_ (by first | exact Nat.le_refl _ | (simp; done) | (simp; omega) | omega) _ | with_reducible refine Below.alloc ?_ (by first | exact Nat.le_refl _ | (simp; done) | (simp; omega) | omega) _ | exact Below.refl _ _ | assumption) (hbvB.mono (by first | exact Nat.le_refl _ | assumption | (simp; done) | (simp; omega) | omega)); have hzvB := hbvB.size; have s0 := (hbvB.cell (p := ⟨_, 0, none⟩) hzA).trans q0; have s1 := (hbvB.cell (p := ⟨_, 1, none⟩) hzA).trans q1; have s2 := (hbvB.cell (p := ⟨_, 2, none⟩) hzA).trans q2; have s3 := (hbvB.cell (p := ⟨_, 3, none⟩) hzA).trans q3)
    refine hK.out _ _ (by exact ⟨s0, s1, s2, s3⟩) (fun hHeld => ?_)
    clear hK K
    (try simp only [Act.put, List.setIfInBounds_toArray, List.set_cons_zero, List.set_cons_succ])
    refine take_l (i := 3) (v := ?_) rfl (by kernel_rfl) (by kernel_rfl) (by kernel_rfl) (fun _ _ _ h => h) (Or.inl ⟨by kernel_rfl, ?_⟩) (by assumption) ?_
    rotate_left
    · intro w hSw; (try dsimp only at hSw); go_simp; (try with_reducible rfl)
    (try simp only [Act.put, List.setIfInBounds_toArray, List.set_cons_zero, List.set_cons_succ])
    refine wpAnyH_done (by kernel_rfl) ?_ _
    go_wp2_with fail
    go_ret
    exact ⟨rfl, ((hbx.out.drew.trans (hbvA.mono hbx.out.size)).trans (hbvB.mono (Nat.le_trans hbx.out.size hbvA.size)))⟩
/-- The function that gives a field's line. -/
theorem line_fn (f : Fld) (b1 b2 : Nat) (hk : withinZ f.kind 1 6 = true) (hn : I64 f.n) (hm : I64 f.frm) (ht : f.text.length ≤ 100000) :
    ∃ fid caps, (kindsL b1 b2)[f.kind.toNat * 3 + 2]? = some (.func (.func fid) #[] caps) ∧ (∀ args w, (callFunc fid args).run Tryz.prog w = .ok (.enter fid args) w) ∧
      ∀ W, Env W → Arr W b1 9 [.string (str numberW)] → Arr W b2 9 [.string (str checkW)] → Calls Tryz.prog fid (#[fldV f] ++ caps) W fun e w' => e = .returned (.string (str (lineF f))) ∧ Below W.heap.size W w' := by
  obtain ⟨k, n, fr, t⟩ := f
  have h6 := kind6 hk
  dsimp only at h6 hn hm ht
  rcases h6 with rfl | rfl | rfl | rfl | rfl | rfl
  · exact ⟨61, #[], rfl, enters_of Tryz.func61 (by kernel_rfl) rfl, fun W hE _ _ => litline_any _ W ht⟩
  · exact ⟨86, #[.pointer (some ⟨b1, 0, none⟩)], rfl, enters_of Tryz.func86 (by kernel_rfl) rfl, fun W hE h1 _ => named1_any numberW b1 _ W h1 (by decide) hn hE⟩
  · exact ⟨69, #[], rfl, enters_of Tryz.func69 (by kernel_rfl) rfl, fun W hE _ _ => bytesline_any _ W hn hm hE⟩
  · exact ⟨73, #[], rfl, enters_of Tryz.func73 (by kernel_rfl) rfl, fun W hE _ _ => listline_any _ W hn hm hE⟩
  · exact ⟨76, #[], rfl, enters_of Tryz.func76 (by kernel_rfl) rfl, fun W hE _ _ => insideline_any _ W hn hm hE⟩
  · exact ⟨86, #[.pointer (some ⟨b2, 0, none⟩)], rfl, enters_of Tryz.func86 (by kernel_rfl) rfl, fun W hE _ h2 => named1_any checkW b2 _ W h2 (by decide) hn hE⟩
end Go.Proofs.YtcpfmlaipejfpaaGreatDoor
