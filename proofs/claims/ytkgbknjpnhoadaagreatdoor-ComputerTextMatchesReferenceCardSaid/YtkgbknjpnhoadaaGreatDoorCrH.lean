/-
  The reference's split: the words of a text.
-/
import Derived.Test.YtkgbknjpnhoadaaGreatDoorCrG
namespace Go.Proofs.YtkgbknjpnhoadaaGreatDoor
open Go.RowKit Go.Shelf

theorem info_str4 : (Tryz.prog.info? 9).map (fun i => (i.zero, i.size, i.bytes)) = some (some (.string ⟨#[]⟩), 1, 16) := by kernel_rfl
theorem wordCells_app (a b : List (List UInt8)) : wordCells (a ++ b) = wordCells a ++ wordCells b := List.map_append
theorem wordCells_len (a : List (List UInt8)) : (wordCells a).length = a.length := List.length_map _
/-- One word is appended to a row of the call's own: the run, ahead of the walk. -/
theorem append_word (ws : World) (base : Nat) (v : Value) (l : List (List UInt8)) (p : List UInt8) (hown : ws.ownsRow base 9 1 v l.length (wordCells l)) (hl : l.length ≤ 10000000) (hb : base ≤ ws.heap.size) :
    ∃ v' w', (Builtin.append_ #[45, 45] 45 #[v, .slice (some ⟨ws.heap.size, 0, none⟩) 1 1]).run Tryz.prog (ws.alloc (.cells #[.string (str p)] 9)) = .ok v' w' ∧
      w'.ownsRow base 9 1 v' (l ++ [p]).length (wordCells (l ++ [p])) ∧ (∀ B u, B ≤ base → Below B u ws → Below B u w') := by
  obtain ⟨i0, hi, hz0, hz1, hz2⟩ := info_parts info_str4
  have hown2 := own_below hown ((Below.refl ws.heap.size ws).alloc (Nat.le_refl _) (.cells #[.string (str p)] 9))
  have hnew : Arr (ws.alloc (.cells #[.string (str p)] 9)) ws.heap.size 9 (wordCells [p]) := Arr.new rfl rfl
  obtain ⟨v', w', hrun, r1, r2, r3, r4⟩ := run_append_own_at (P := Tryz.prog) (ws.alloc (.cells #[.string (str p)] 9)) base 45 45 9 i0 (.string ⟨#[]⟩) 1 16 Tryz.underlying45 hi hz0 hz1 hz2 rfl (by decide) v l.length (wordCells l) hown2 ⟨ws.heap.size, 0, none⟩ 1 1 (wordCells [p]) rfl (fun j u hu => by rw [Addr.add_mid, Nat.zero_add]; exact hnew.cell hu)
    (by intro u hu; simp [wordCells] at hu; rcases hu with rfl; rfl) (by unfold maxLen; omega) (by omega) (by simp; omega)
  refine ⟨v', w', hrun, by rw [List.length_append, wordCells_app]; exact r1, fun B u hB hu => ?_⟩
  exact (hu.alloc (by omega) _).grown r2 (by simp; omega) (fun j ej => Nat.le_trans hB (hown2.lt j ej).1)
structure SplI (w wr : World) (s : List UInt8) (out : List (List UInt8)) (f k : Nat) (v : Value) : Prop where
  below : Below w.heap.size w wr
  own : wr.ownsRow w.heap.size 9 1 v out.length (wordCells out)
  cut : cutAll 32 s = out ++ cutAll 32 (s.drop f)
  no : ∀ x ∈ (s.drop f).take (k - f), x ≠ 32
  le : f ≤ k
  len : out.length ≤ k
theorem drop_parts (s : List UInt8) (f k : Nat) (hf : f ≤ k) (hk : k < s.length) : s.drop f = (s.drop f).take (k - f) ++ s[k]! :: s.drop (k + 1) := by
  have h : s.drop f = (s.drop f).take (k - f) ++ (s.drop f).drop (k - f) := (List.take_append_drop _ _).symm
  rw [List.drop_drop, show f + (k - f) = k from by omega, List.drop_eq_getElem_cons hk, ← getElem!_pos s k hk] at h
  exact h
theorem take_drop_snoc (s : List UInt8) (f k : Nat) (hf : f ≤ k) (hk : k < s.length) : (s.drop f).take (k + 1 - f) = (s.drop f).take (k - f) ++ [s[k]!] := by
  rw [show k + 1 - f = (k - f) + 1 from by omega, take_snoc (s.drop f) (k - f) (by simp; omega)]
  congr 2
  rw [getElem!_pos _ _ (by simp; omega), getElem!_pos s k hk, List.getElem_drop]
  congr 1
  omega
theorem SplI.hit {w wr w' : World} {s : List UInt8} {out : List (List UInt8)} {f k : Nat} {v v' : Value} (h : SplI w wr s out f k v) (hk : k < s.length) (hc : s[k]! = 32) (hb : Below w.heap.size w w')
    (ho : w'.ownsRow w.heap.size 9 1 v' (out ++ [(s.drop f).take (k - f)]).length (wordCells (out ++ [(s.drop f).take (k - f)]))) : SplI w w' s (out ++ [(s.drop f).take (k - f)]) (k + 1) (k + 1) v' := by
  refine ⟨hb, ho, ?_, by simp, Nat.le_refl _, by have := h.len; simp; omega⟩
  rw [h.cut, List.append_assoc]
  congr 1
  conv => lhs; rw [drop_parts s f k h.le hk, hc]
  rw [cutAll_hit _ _ _ h.no]
  rfl
theorem SplI.miss {w wr : World} {s : List UInt8} {out : List (List UInt8)} {f k : Nat} {v : Value} (h : SplI w wr s out f k v) (hk : k < s.length) (hc : s[k]! ≠ 32) : SplI w wr s out f (k + 1) v := by
  refine ⟨h.below, h.own, h.cut, fun x hx => ?_, by have := h.le; omega, by have := h.len; omega⟩
  rw [take_drop_snoc s f k h.le hk] at hx
  rcases List.mem_append.1 hx with hx | hx
  · exact h.no x hx
  · obtain rfl := List.mem_singleton.1 hx
    exact hc
theorem SplI.done {w wr : World} {s : List UInt8} {out : List (List UInt8)} {f : Nat} {v : Value} (h : SplI w wr s out f s.length v) : cutAll 32 s = out ++ [s.drop f] := by
  rw [h.cut, cutAll_miss]
  intro x hx
  refine h.no x ?_
  rw [List.take_of_length_le (by simp)]
  exact hx
theorem extract_mid (s : List UInt8) (f k : Nat) : (str s).extract f k = str ((s.drop f).take (k - f)) := by
  apply ByteArray.ext
  apply Array.toList_inj.1
  rw [Lib.extract_data, str_list, str_list]

set_option maxRecDepth 100000 in
set_option maxHeartbeats 2000000 in
theorem split_any (s : List UInt8) (w : World) (hs : s.length ≤ 1000000) :
    Calls Tryz.prog 57 #[.string (str s)] w fun e w' => ∃ v, e = .returned v ∧ w'.ownsRow w.heap.size 9 1 v (cutAll 32 s).length (wordCells (cutAll 32 s)) ∧ Below w.heap.size w w' := by
  have hps : (str s).size = s.length := str_size s
  have hPG : ∀ j (h : j < (str s).size), (((str s)[j].toNat : Nat) : Int) = (s[j]!.toNat : Nat) := fun j h => by
    rw [str_at, getElem!_pos s j (by rw [str_size] at h; exact h)]
  have hex := extract_mid s
  generalize str s = P at *
  replace hPG := Lib.hid hPG
  replace hps := Lib.hid hps
  replace hex := Lib.hid hex
  go_enter Tryz.func57, Tryz.ntmps57
  go_wp2_with fail
  go_loopw [5, 4, 3] (fun i g v wr => ∃ (k f : Nat) (out : List (List UInt8)), k ≤ s.length ∧ i = .int .i64 k ∧ g = .int .i64 f ∧ Hid (SplI w wr s out f k v)) (fun i _ _ _ => s.length - (intOf i).toNat)
  case atStart => exact ⟨0, 0, [], Nat.zero_le _, rfl, rfl, (show SplI _ _ _ _ _ _ _ from ⟨Below.refl _ _, World.ownsRow_nil _ _ _ _, rfl, by simp, Nat.le_refl _, Nat.zero_le _⟩)⟩
  case round =>
    obtain ⟨k, f, out, hk, rfl, rfl, hI⟩ := hrel
    obtain ⟨ao, vc, rfl⟩ := own_val hI.out.own
    have hps' := hps.out
    have hfk := hI.out.le
    have hol := hI.out.len
    by_cases hlt : k < s.length
    · have hj0 : k < P.size := by omega
      have hd : decide ((k : Int) < (P.size : Int)) = true := by simp; omega
      have hg := hPG.out k hj0
      by_cases hc : s[k]! = 32
      · have hex' := hex.out f k
        obtain ⟨v', w', hrun, r1, r5⟩ := append_word wr w.heap.size _ out ((s.drop f).take (k - f)) hI.out.own (by omega) hI.out.below.size
        have hIn := Lib.hid (hI.out.hit hlt hc (r5 _ _ (Nat.le_refl _) hI.out.below) r1)
        rw [hc] at hg
        have hq : ((((P[k]'hj0).toNat : Nat) : Int) == 32) = true := by rw [hg]; rfl
        have i1 : (0 : Int) ≤ (f : Int) := by omega
        have i2 : (f : Int) ≤ (k : Int) := by omega
        have i3 : (k : Int) ≤ (P.size : Int) := by omega
        replace hrun := Lib.hid hrun
        generalize (s.drop f).take (k - f) = pc at *
        clear hc r1 r5 hI
        replace hps' := Lib.hid hps'
        go_wp2_with (at_builtin; go_loud (refine wpList_append_known rfl _ _ _ _ rfl _ _ rfl rfl hrun.out ?_))
        exact ⟨⟨k + 1, k + 1, _, by omega, by go_num, by go_num, hIn⟩, by simp [intOf]; omega⟩
      · have hIn := Lib.hid (hI.out.miss hlt hc)
        have hc2 : s[k]!.toNat ≠ 32 := fun h => hc (UInt8.toNat_inj.1 h)
        clear hc
        generalize s[k]! = x at *
        have hq : ((((P[k]'hj0).toNat : Nat) : Int) == 32) = false := by rw [hg, beq_eq_false_iff_ne]; omega
        have hq2 : (((x.toNat : Nat) : Int) == 32) = false := by rw [beq_eq_false_iff_ne]; omega
        clear hI
        replace hps' := Lib.hid hps'
        go_wp2_with fail
        exact ⟨⟨k + 1, f, _, by omega, by go_num, by go_num, hIn⟩, by simp [intOf]; omega⟩
    · obtain rfl : k = s.length := by omega
      have hd : decide ((s.length : Int) < (P.size : Int)) = false := by rw [hps']; simp
      have hj0 : ¬ s.length < P.size := by omega
      have hex' := hex.out f s.length
      rw [List.take_of_length_le (by simp)] at hex'
      have hsz : P.size = s.length := hps'
      have hdone := hI.out.done
      have i1 : (0 : Int) ≤ (f : Int) := by omega
      have i2 : (f : Int) ≤ (P.size : Int) := by omega
      obtain ⟨v', w', hrun, r1, r5⟩ := append_word wr w.heap.size _ out (s.drop f) hI.out.own (by omega) hI.out.below.size
      have hb := r5 _ _ (Nat.le_refl _) hI.out.below
      rw [← hdone] at r1
      replace hrun := Lib.hid hrun
      replace hdone := Lib.hid hdone
      rw [← hsz] at hex'
      replace hps' := Lib.hid hps'
      clear hI r5
      generalize s.drop f = pc at *
      replace hsz := Lib.hid hsz
      go_wp2_with (at_builtin; go_loud (refine wpList_append_known rfl _ _ _ _ rfl _ _ rfl rfl hrun.out ?_))
      go_ret
      exact ⟨_, rfl, r1, hb⟩
end Go.Proofs.YtkgbknjpnhoadaaGreatDoor
