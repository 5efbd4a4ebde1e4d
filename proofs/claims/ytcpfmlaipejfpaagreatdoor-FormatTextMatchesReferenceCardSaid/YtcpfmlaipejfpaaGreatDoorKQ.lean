/-
  Formats of chapter 4: what the reference's Parse holds.
  Formats of chapter 4: the reference's Parse.
-/
import Derived.Test.YtcpfmlaipejfpaaGreatDoorKP
import Derived.Test.YtcpfmlaipejfpaaGreatDoorKM
import Derived.Test.YtcpfmlaipejfpaaGreatDoorKK
namespace Go.Proofs.YtcpfmlaipejfpaaGreatDoor
open Go.RowKit Go.Shelf

theorem FewL.later {B : Nat} {w w' : World} {lv : Value} {fvs : List Value} {l : List Fmt} (h : FewL B w lv fvs l) (hb : Below w.heap.size w w') : FewL B w' lv fvs l := ⟨h.of_.below hb, h.apart⟩
/-- Rows of strings stay. -/
def StrStay (w w' : World) : Prop := ∀ (C n : Nat) (v : Value) (xs : List Value), w.ownsRow C 9 1 v n xs → w'.ownsRow C 9 1 v n xs
theorem StrStay.of_below {w w' : World} (hb : Below w.heap.size w w') : StrStay w w' := fun _ _ _ _ h => own_below h hb
theorem StrStay.grown {w w' : World} {B n s : Nat} {e : TypeId} {v : Value} {xs : List Value} (hr : w.ownsRow B e s v n xs) (he : 9 ≠ e) (hg : w.grownBy w' v.ownBlock) : StrStay w w' := fun _ _ _ _ h => own_apart h hr he hg
theorem StrStay.trans {a b c : World} (h : StrStay a b) (k : StrStay b c) : StrStay a c := fun _ _ _ _ x => k _ _ _ _ (h _ _ _ _ x)
theorem FewL.begun {B : Nat} {w : World} {lv : Value} {fvs : List Value} {l : List Fmt} (h : FewL B w lv fvs l) (hl : l.length ≤ 100000) (hB : B ≤ w.heap.size) (id : Int) :
    ∃ v' w', (Builtin.append_ #[22, 22] 22 #[lv, .slice (some ⟨w.heap.size, 0, none⟩) 1 1]).run Tryz.prog (w.alloc (.cells #[.int .i64 id, .slice none 0 0] 34)) = .ok v' w' ∧
      FewL B w' v' (fvs ++ [.slice none 0 0]) (l ++ [⟨id, []⟩]) ∧ (∀ u, Below B u w → Below B u w') ∧ StrStay w w' := by
  obtain ⟨X, hX⟩ : ∃ X, X = w.alloc (.cells #[.int .i64 id, .slice none 0 0] 34) := ⟨_, rfl⟩
  have hbX : Below w.heap.size w X := by rw [hX]; exact (Below.refl _ _).alloc (Nat.le_refl _) _
  have hAX : Arr X w.heap.size 34 [.int .i64 id, .slice none 0 0] := by rw [hX]; exact Arr.new rfl rfl
  rw [← hX]
  have hM := h.of_.below hbX
  obtain ⟨v', w', hrun, hr, hg, _⟩ := append_fmt X B lv _ _ hM.row _ _ hAX rfl (by
    intro u hu
    simp only [List.mem_cons, List.not_mem_nil, or_false] at hu
    rcases hu with rfl | rfl <;> rfl) (by omega) (Nat.le_trans hB hbX.size)
  refine ⟨v', w', hrun, ⟨hM.snoc (fun a ha => own_apart (hM.rows a ha) hM.row (by decide) hg) hr ⟨rfl, .inl ⟨rfl, rfl⟩⟩, apart_snoc (B := w.heap.size) h.apart (fun i g hi hgi => (own_block (h.of_.rows i (by rw [← h.of_.fl]; exact hi)) hgi).1) (fun g hg' => by cases hg')⟩, fun u hu => ?_, (StrStay.of_below hbX).trans (StrStay.grown hM.row (by decide) hg)⟩
  exact (hu.trans (hbX.mono hB)).grown hg (Nat.le_trans hB hbX.size) (fun j hj => (own_block hM.row hj).2.1)
theorem FewL.fielded {B g k c : Nat} {w X : World} {fvs : List Value} {l : List Fmt} {f : Fld} {b : Nat} (h : FewL B w (.slice (some ⟨g, 0, none⟩) (k + 1) c) fvs l) (hk : l.length = k + 1) (hfl : l[k]!.flds.length ≤ 1000) (hB : B ≤ w.heap.size) (hX : Below w.heap.size w X) (hAX : Arr X b 55 (fldC f)) :
    ∃ v' w', (Builtin.append_ #[32, 32] 32 #[fvs[k]!, .slice (some ⟨b, 0, none⟩) 1 1]).run Tryz.prog X = .ok v' w' ∧ w'.cell? ⟨g, k * 2 + 1, none⟩ = some fvs[k]! ∧ w'.frozen? ⟨g, k * 2 + 1, none⟩ = false ∧ (∃ va vc, v' = .slice va (l[k]!.flds.length + 1) vc) ∧
      FewL B (w'.setCell ⟨g, k * 2 + 1, none⟩ v') (.slice (some ⟨g, 0, none⟩) (k + 1) c) (fvs.set k v') (putF l f) ∧ (∀ u, Below B u w → Below B u (w'.setCell ⟨g, k * 2 + 1, none⟩ v')) ∧ StrStay w (w'.setCell ⟨g, k * 2 + 1, none⟩ v') ∧ (∀ b2 L2, fvs[k]!.ownBlock ≠ some b2 → Arr X b2 55 L2 → Arr w' b2 55 L2 ∧ Arr (w'.setCell ⟨g, k * 2 + 1, none⟩ v') b2 55 L2) := by
  have hM := h.of_.below hX
  have hlen := hM.fl
  have hr := hM.rows k (by omega)
  have hrow := hM.row
  rw [hk] at hrow
  obtain ⟨v', w', hrun, hr', hg, ho⟩ := append_fld X B _ _ f hr b hAX (by omega) (Nat.le_trans hB hX.size)
  have hgb : g < X.heap.size ∧ B ≤ g ∧ ∃ cur, X.heap[g]? = some (.cells cur 34 (0, 0)) := own_block hrow rfl
  have hrow' : w'.ownsRow B 34 2 (.slice (some ⟨g, 0, none⟩) (k + 1) c) (k + 1) (fmtC l fvs) := own_apart hrow hr (by decide) hg
  have hgne : some g ≠ fvs[k]!.ownBlock := fun e => by
    obtain ⟨_, _, cur, h2⟩ := hgb
    obtain ⟨_, _, cur', h3⟩ := own_block hr e.symm
    rw [h2] at h3
    injection h3 with h3
    injection h3 with _ h3
    exact absurd h3 (by decide)
  have hgA : ∃ cur, w'.heap[g]? = some (.cells cur 34 (0, 0)) := by
    obtain ⟨h1, _, cur, h2⟩ := hgb
    exact ⟨cur, (hg.block g h1 hgne).trans h2⟩
  have hset : ∀ {B' n' s' : Nat} {e' : TypeId} {v : Value} {xs : List Value}, 34 ≠ e' → w'.ownsRow B' e' s' v n' xs → (w'.setCell ⟨g, k * 2 + 1, none⟩ v').ownsRow B' e' s' v n' xs := fun {B' n' s' e' v xs} hne hv => by
    refine ownsRow_setCell_other hv (fun e1 => ?_) _
    obtain ⟨_, _, cur, h2⟩ := own_block hv e1
    obtain ⟨cur', h3⟩ := hgA
    rw [h3] at h2
    injection h2 with h2
    injection h2 with _ h2
    exact hne h2
  obtain ⟨_, p2⟩ := fmtC_at l fvs hlen k (by omega)
  obtain ⟨g', c', e, _, _, _, _, hcs, hfz⟩ := own_cells3 hrow' (by omega)
  injection e with e1 _ _
  injection e1 with e1
  injection e1 with e1 _
  subst e1
  obtain ⟨va, vc, hva⟩ := own_val hr'
  have hput : putF l f = l.dropLast ++ [⟨l[k]!.id, l[k]!.flds ++ [f]⟩] := by unfold putF; rw [show l.length - 1 = k by omega]
  refine ⟨v', w', hrun, hcs _ _ p2, hfz _, ⟨va, vc, by rw [hva, List.length_append, List.length_singleton]⟩, ⟨⟨by rw [hput]; simp; omega, ?_, fun i hi => ?_⟩, fun i j q hij hj hi => ?_⟩, fun u hu => ?_, fun C n v xs hv => ?_, fun b2 L2 hne hA2 => ?_⟩
  · have := own_setAt (i := k * 2 + 1) (u := v') hrow' (by omega)
    rw [← fmtC_set l fvs k ⟨l[k]!.id, l[k]!.flds ++ [f]⟩ v' hlen hk rfl] at this
    rw [hput]
    simpa [hk] using this
  · rw [hput] at hi ⊢
    have hi2 : i < k + 1 := by simp at hi; omega
    by_cases hik : i = k
    · subst hik
      rw [dropLast_last hk, set_last (by omega)]
      exact hset (by decide) hr'
    · rw [dropLast_at hk (by omega), set_at hik (by omega)]
      have o1 := hM.rows i (by omega)
      refine hset (by decide) (o1.kept hg ?_)
      rcases o1.2 with ⟨e1, _⟩ | ⟨g2, c2, cur2, e1, _⟩
      · exact .inl (by rw [e1]; rfl)
      · refine .inr fun e2 => ?_
        rw [e1] at e2
        have := h.apart i k g2 (by omega) (by omega) (by rw [e1]; rfl)
        exact this e2.symm
  · rw [List.length_set] at hj
    by_cases hjk : j = k
    · rw [hjk, set_last (by omega)]
      rw [set_at (by omega) (by omega)] at hi
      intro e
      have hnew := own_block (hM.rows i (by omega)) hi
      rcases ho with ho | ho
      · rw [ho] at e
        exact h.apart i k q (by omega) (by omega) hi e
      · rw [ho] at e
        injection e with e
        omega
    · rw [set_at hjk (by omega)]
      rw [set_at (by omega) (by omega)] at hi
      exact h.apart i j q hij (by omega) hi
  · exact ((hu.trans (hX.mono hB)).grown hg (Nat.le_trans hB hX.size) (fun j hj => (own_block hr hj).2.1)).setCell (p := ⟨g, k * 2 + 1, none⟩) hgb.2.1 _
  · exact hset (by decide) (own_apart (own_below hv hX) hr (by decide) hg)
  · have h6 : Arr w' b2 55 L2 := (hg.block b2 hA2.lt (fun e => hne e.symm)).trans hA2
    refine ⟨h6, h6.other _ (fun e => ?_)⟩
    subst e
    obtain ⟨cur', h3⟩ := hgA
    rw [show w'.heap[g]? = some (.cells L2.toArray 55 (0, 0)) from h6] at h3
    injection h3 with h3
    injection h3 with _ h3
    exact absurd h3 (by decide)
theorem begins_prev {L : List Fmt} {id : Int} {p : List Fld} (h : beginsR (L ++ [⟨id, p⟩]) = true) : PrevOk p ∧ p.length ≤ 16 := by
  rw [beginsR_snoc] at h
  simp only [Bool.and_eq_true, decide_eq_true_eq] at h
  obtain ⟨⟨h60, hv⟩, hn⟩ := h
  have tk := took (l := L) (by rw [validR, Bool.and_eq_true] at hv; exact hv.1)
  obtain ⟨hid, hadd⟩ := (nextR_iff tk.asc tk.mb).1 hn
  obtain ⟨a1, a2, a3⟩ := (addOk_iff tk.mb _).1 hadd
  have := prevOk_takeF (Nat.le_refl _) a2
  rw [List.take_length] at this
  exact ⟨this, a1⟩
theorem begins_len {l : List Fmt} (h : beginsR l = true) : l.length ≤ 60 := by
  unfold beginsR at h
  rw [Bool.and_eq_true, decide_eq_true_eq] at h
  exact h.1
theorem unhexR_len2 (s : List UInt8) (h : s.length ≤ 34) : (unhexR s).length ≤ 17 := by
  have := unhexR_len s
  omega
theorem fieldR_ok (ws : List (List UInt8)) : FldOk (fieldR ws) ∧ (0 ≤ (fieldR ws).n ∧ (fieldR ws).n < 1000000000) ∧ (fieldR ws).frm < 1000000000 ∧ ((fieldR ws).kind = 4 ∨ (fieldR ws).kind = 5 → 0 ≤ (fieldR ws).frm) ∧ (fieldR ws).text.length ≤ 100 := by
  have h1 := numR_lt ws[1]!
  have h2 := numR_lt ws[2]!
  have h3 := numR_lt ws[3]!
  have hu := unhexR_len2 (ws[1]!.take 34) (by rw [List.length_take]; omega)
  have key : ∀ (k n m : Int) (t : List UInt8), 0 ≤ k → k ≤ 6 → 0 ≤ n → n < 1000000000 → -1 ≤ m → m < 1000000000 → (k = 4 ∨ k = 5 → 0 ≤ m) → t.length ≤ 17 → FldOk ⟨k, n, m, t⟩ ∧ (0 ≤ n ∧ n < 1000000000) ∧ m < 1000000000 ∧ (k = 4 ∨ k = 5 → 0 ≤ m) ∧ t.length ≤ 100 := fun k n m t a1 a2 a3 a4 a5 a6 a7 a8 =>
    ⟨⟨⟨by dsimp only; omega, by dsimp only; omega⟩, ⟨by dsimp only; omega, by dsimp only; omega⟩, ⟨by dsimp only; omega, by dsimp only; omega⟩, by dsimp only; omega⟩, ⟨a3, a4⟩, a6, a7, by omega⟩
  unfold fieldR
  split
  · exact key _ _ _ _ (by omega) (by omega) (by omega) (by omega) (by omega) (by omega) (by omega) hu
  split
  · exact key _ _ _ _ (by omega) (by omega) (by omega) (by omega) (by omega) (by omega) (by omega) (by simp)
  split
  · split
    · exact key _ _ _ _ (by omega) (by omega) (by omega) (by omega) (by omega) (by omega) (by omega) (by simp)
    · exact key _ _ _ _ (by omega) (by omega) (by omega) (by omega) (by omega) (by omega) (by omega) (by simp)
  split
  · exact key _ _ _ _ (by omega) (by omega) (by omega) (by omega) (by omega) (by omega) (by omega) (by simp)
  split
  · exact key _ _ _ _ (by omega) (by omega) (by omega) (by omega) (by omega) (by omega) (by omega) (by simp)
  · exact key _ _ _ _ (by omega) (by omega) (by omega) (by omega) (by omega) (by omega) (by omega) (by simp)
theorem in_begun {l : List Fmt} (h : FmtIn l) (hl : l.length ≤ 60) {id : Int} (hid : I64 id) : FmtIn (l ++ [⟨id, []⟩]) := by
  refine ⟨by rw [List.length_append, List.length_singleton]; omega, fun f hf => ?_, fun f hf => ?_, fun f hf => ?_⟩
  · rcases List.mem_append.1 hf with hf | hf
    · exact h.id f hf
    · rw [List.mem_singleton.1 hf]; exact hid
  · rcases List.mem_append.1 hf with hf | hf
    · exact h.flen f hf
    · rw [List.mem_singleton.1 hf]; exact Nat.zero_le _
  · rcases List.mem_append.1 hf with hf | hf
    · exact h.ok f hf
    · rw [List.mem_singleton.1 hf]; exact fun x hx => by cases hx
theorem in_fielded {L : List Fmt} {id : Int} {p : List Fld} {f : Fld} (h : FmtIn (L ++ [⟨id, p⟩])) (hp : p.length ≤ 1000) (hf : FldOk f) : FmtIn (L ++ [⟨id, p ++ [f]⟩]) := by
  have hm : (⟨id, p⟩ : Fmt) ∈ L ++ [⟨id, p⟩] := by simp
  refine ⟨by have := h.len; simpa using this, fun g hg => ?_, fun g hg => ?_, fun g hg => ?_⟩
  · rcases List.mem_append.1 hg with hg | hg
    · exact h.id g (by simp [hg])
    · rw [List.mem_singleton.1 hg]; exact (h.id _ hm : I64 id)
  · rcases List.mem_append.1 hg with hg | hg
    · exact h.flen g (by simp [hg])
    · rw [List.mem_singleton.1 hg]; dsimp only; rw [List.length_append, List.length_singleton]; omega
  · rcases List.mem_append.1 hg with hg | hg
    · exact h.ok g (by simp [hg])
    · rw [List.mem_singleton.1 hg]
      intro x hx
      rcases List.mem_append.1 hx with hx | hx
      · exact h.ok _ hm x hx
      · rw [List.mem_singleton.1 hx]; exact hf
/-- What Parse holds behind i lines. -/
structure ParI (w : World) (lines : List (List UInt8)) (lnv : Value) (l : List Fmt) (lv : Value) (fvs : List Value) (wr : World) : Prop where
  below : Below w.heap.size w wr
  lines : wr.ownsRow w.heap.size 9 1 lnv lines.length (wordCells lines)
  fmts : FewL w.heap.size wr lv fvs l
  in_ : FmtIn l
  begins : beginsR l = true
theorem ParI.later {w wr wx : World} {lines : List (List UInt8)} {lnv lv : Value} {l : List Fmt} {fvs : List Value} (h : ParI w lines lnv l lv fvs wr) (hb : Below wr.heap.size wr wx) : ParI w lines lnv l lv fvs wx :=
  ⟨h.below.trans (hb.mono h.below.size), own_below h.lines hb, h.fmts.later hb, h.in_, h.begins⟩
theorem FewL.fmts {B : Nat} {w : World} {lv : Value} {fvs : List Value} {l : List Fmt} (h : FewL B w lv fvs l) (hin : FmtIn l) : Fmts w lv l := h.of_.fmts hin
end Go.Proofs.YtcpfmlaipejfpaaGreatDoor
namespace Go.Proofs.YtcpfmlaipejfpaaGreatDoor
open Go.RowKit Go.Shelf

attribute [local go_sem] Oper.semAt_some

def ParPost (s : List UInt8) (w : World) (e : Ending) (w' : World) : Prop :=
  Below w.heap.size w w' ∧ ((∃ k : Nat, parse4 s = ([], k, 40) ∧ e = .returned (.tuple #[.slice none 0 0, .int .i64 (k : Int), .int .i64 40])) ∨ ∃ L lv, parse4 s = (L, 0, 0) ∧ e = .returned (.tuple #[lv, .int .i64 0, .int .i64 0]) ∧ Fmts w' lv L)
theorem go_step {l : List Fmt} {lines : List (List UInt8)} {i : Nat} (h : i + 1 < lines.length) (k : Nat) : refGo l (lines.drop i) k = match stepRf l lines[i]! with
    | none => ([], k, 40)
    | some m => refGo m (lines.drop (i + 1)) (k + 1) := by
  rw [List.drop_eq_getElem_cons (show i < lines.length by omega), getElem!_pos lines i (by omega)]
  cases hc : lines.drop (i + 1) with
  | nil =>
    have := congrArg List.length hc
    simp at this
    omega
  | cons p q => rfl
theorem go_last {l : List Fmt} {lines : List (List UInt8)} {i : Nat} (h : i + 1 = lines.length) (k : Nat) : refGo l (lines.drop i) k = if validR l = true ∧ lines[i]! = [] then (l, 0, 0) else ([], k, 40) := by
  rw [List.drop_eq_getElem_cons (show i < lines.length by omega), getElem!_pos lines i (by omega), List.drop_eq_nil_of_le (by omega)]
  rfl
theorem parts_le {s : List UInt8} {c : UInt8} {i : Nat} : ((cutAll c s)[i]!).length ≤ s.length := by
  by_cases h : i < (cutAll c s).length
  · rw [getElem!_pos _ i h]
    exact cutAll_le c s _ (List.getElem_mem h)
  · rw [getElem!_neg _ i h]
    exact Nat.zero_le _
theorem eqq_str (a : List UInt8) : (str a).toList = a := by rw [ByteArray.toList_eq, str_list]
theorem refParse_go (s : List UInt8) : parse4 s = refGo [] ((cutAll 10 s).drop 0) 1 := by rw [← refParse_eq]; rfl
set_option maxRecDepth 100000 in
set_option maxHeartbeats 16000000 in
theorem parseT_any (s : List UInt8) (w : World) (hs : s.length ≤ 100000) :
    Calls Tryz.prog 26 #[.string (str s)] w fun e w' => ParPost s w e w' := by
  have hsp := Lib.hid (splitR_any s 10 w (by omega))
  obtain ⟨lines, hlines⟩ : ∃ lines, lines = cutAll 10 s := ⟨_, rfl⟩
  have hgo := Lib.hid (refParse_go s)
  have hne : 0 < lines.length := by rw [hlines]; exact List.length_pos_iff.2 (cutAll_ne 10 s)
  have hll : lines.length ≤ 100001 := by rw [hlines]; have := cutAll_len 10 s; omega
  have hle : ∀ i : Nat, (lines[i]!).length ≤ 100000 := fun i => by rw [hlines]; exact Nat.le_trans parts_le hs
  rw [← hlines] at hsp hgo
  replace hlines := Lib.hid hlines
  replace hle := Lib.hid hle
  go_enter Tryz.func26, Tryz.ntmps26
  go_wp2_with fail
  refine hsp.out.mono ?_
  rintro e w1 ⟨lnv, rfl, ho1, hb1⟩
  obtain ⟨lg, lc, rfl, hlgB, hlgl, _⟩ := own_words ho1 hne
  clear hsp
  have hP0 : Hid (ParI w lines (.slice (some ⟨lg, 0, none⟩) lines.length lc) [] (.slice none 0 0) [] w1) := ⟨hb1, ho1, ⟨⟨rfl, ⟨rfl, .inl ⟨rfl, rfl⟩⟩, fun i hi => absurd hi (Nat.not_lt_zero _)⟩, fun i j g hij hj => absurd hj (Nat.not_lt_zero _)⟩, ⟨Nat.zero_le _, fun f hf => (List.not_mem_nil hf).elim, fun f hf => (List.not_mem_nil hf).elim, fun f hf => (List.not_mem_nil hf).elim⟩, by decide⟩
  clear ho1 hb1 hlgl
  obtain ⟨K, hK⟩ : ∃ K, K + 1 = lines.length := ⟨lines.length - 1, by omega⟩
  have hwl : IntKind.i64.wrap ((lines.length : Int) - 1) = (K : Int) := by rw [IntWalk.i64_in _ (by omega)]; omega
  replace hK := Lib.hid hK
  go_wp2_with fail
  go_loopw [7, 6] (fun iv z wr => ∃ (i : Nat) (lv : Value) (l : List Fmt) (fvs : List Value), iv = .int .i64 (i : Int) ∧ i + 1 ≤ lines.length ∧ z = lv ∧ Hid (ParI w lines (.slice (some ⟨lg, 0, none⟩) lines.length lc) l lv fvs wr) ∧ Hid (parse4 s = refGo l (lines.drop i) (i + 1))) (fun iv _ _ => lines.length - (intOf iv).toNat)
  case atStart => exact ⟨0, _, [], [], rfl, by omega, rfl, hP0, hgo⟩
  case round =>
    obtain ⟨i, lv, l, fvs, rfl, hi, hz, hP, hG⟩ := hrel
    clear hP0 hgo
    obtain ⟨la, lcc, rfl⟩ := own_val hP.out.fmts.of_.row
    subst hz
    obtain ⟨wo, hwo⟩ : ∃ wo, wo = wr := ⟨_, rfl⟩
    subst hwo
    have hl60 := begins_len hP.out.begins
    have hK' := hK.out
    have i0 : (0 : Int) ≤ (i : Int) := by omega
    have i1 : (i : Int) < (lines.length : Int) := by omega
    have hwi : IntKind.i64.wrap ((i : Int) + 1) = ((i + 1 : Nat) : Int) := by rw [Int.natCast_succ]; exact IntWalk.i64_in _ (by omega)
    have hxi : Hid (∀ W : World, W.ownsRow w.heap.size 9 1 (.slice (some ⟨lg, 0, none⟩) lines.length lc) lines.length (wordCells lines) → W.cell? ⟨lg, i, none⟩ = some (.string (str lines[i]!))) := fun W hW => by
      obtain ⟨g', c', e, _, _, h⟩ := own_words hW hne
      injection e with e1 _ _
      injection e1 with e1
      injection e1 with e1 _
      subst e1
      exact h i (by omega)
    by_cases hlt : i + 1 < lines.length
    · have hd : decide ((i : Int) < (K : Int)) = true := decide_eq_true (by omega)
      have x0 := hxi.out wo hP.out.lines
      have hline := hle.out i
      have hstep := Lib.hid (go_step (l := l) hlt (i + 1))
      have hsp := Lib.hid (splitR_any lines[i]! 32 wo (by omega))
      have hwsle : Hid (∀ j : Nat, ((cutAll 32 lines[i]!)[j]!).length ≤ 100000) := fun j => Nat.le_trans parts_le hline
      have hwl2 := cutAll_len 32 lines[i]!
      have hw0 : 0 < (cutAll 32 lines[i]!).length := List.length_pos_iff.2 (cutAll_ne 32 _)
      have hlr : Hid (lineR l lines[i]! = if (cutAll 32 lines[i]!)[0]! = formatT ∧ (cutAll 32 lines[i]!).length = 2 then (if namedL formatT (numR (cutAll 32 lines[i]!)[1]! : Nat) = lines[i]! then some (l ++ [⟨(numR (cutAll 32 lines[i]!)[1]! : Nat), []⟩]) else none) else (if l ≠ [] ∧ lineF (fieldR (cutAll 32 lines[i]!)) = lines[i]! then some (putF l (fieldR (cutAll 32 lines[i]!))) else none)) := rfl
      have hsr : Hid (stepRf l lines[i]! = match lineR l lines[i]! with
        | none => none
        | some m => if rightR m = true then some m else none) := rfl
      obtain ⟨line, hlne⟩ : ∃ line, line = lines[i]! := ⟨_, rfl⟩
      rw [← hlne] at x0 hline hstep hsp hwsle hwl2 hw0 hlr hsr hxi
      replace hlne := Lib.hid hlne
      obtain ⟨ws, hws⟩ : ∃ ws, ws = cutAll 32 line := ⟨_, rfl⟩
      rw [← hws] at hsp hwsle hwl2 hw0 hlr
      replace hws := Lib.hid hws
      go_wp2_with fail
      refine hsp.out.mono ?_
      rintro e w2 ⟨wv, rfl, ho2, hb2⟩
      obtain ⟨wg, wc, rfl, hwgB, hwgl, hwc⟩ := own_words ho2 hw0
      have hP2 := Lib.hid (hP.out.later hb2)
      have c0 := hwc 0 hw0
      have hB0 := hP.out.below
      have lq0 : (str ws[0]!).toList = ws[0]! := by rw [ByteArray.toList_eq, str_list]
      have z0 : (0 : Int) < (ws.length : Int) := by omega
      clear hsp x0
      by_cases hq : ws[0]! = formatT ∧ ws.length = 2
      · obtain ⟨hq0, hq2⟩ := hq
        have d0 : (ws[0]! == [102, 111, 114, 109, 97, 116]) = true := by rw [beq_iff_eq]; exact hq0
        have d2 : ((ws.length : Int) == 2) = true := by rw [beq_iff_eq]; omega
        have z1 : (1 : Int) < (ws.length : Int) := by omega
        have c1 := hwc 1 (by omega)
        have hnum := Lib.hid (numberT_any ws[1]! w2 (by have := hwsle.out 1; omega))
        have hnlt := numR_lt ws[1]!
        have hlr2 : Hid (lineR l line = if namedL formatT (numR ws[1]! : Nat) = line then some (l ++ [⟨(numR ws[1]! : Nat), []⟩]) else none) := by show _ = _; rw [hlr.out, if_pos ⟨hq0, hq2⟩]
        generalize numR ws[1]! = id at *
        generalize ws[0]! = p0 at *
        generalize ws[1]! = p1 at *
        replace hq0 := Lib.hid hq0
        replace hq2 := Lib.hid hq2
        clear hlr hwc
        have hl1 : (l.length : Int) < 100 := by omega
        replace hlr2 := Lib.hid hlr2.out
        go_upto_region 8 with fail
        go_wp2_with fail
        refine hnum.out.mono ?_
        rintro e w1' ⟨rfl, hwx⟩
        subst w1'
        obtain ⟨m, hm⟩ : ∃ m : List Fmt, m = l ++ [⟨(id : Int), []⟩] := ⟨_, rfl⟩
        obtain ⟨v5, w5, hrun5, hF5, hb5, hs5⟩ := hP2.out.fmts.begun (by omega) hP2.out.below.size (id : Int)
        have hB5 := hb5 _ hP2.out.below
        have hL5 := hs5 _ _ _ _ hP2.out.lines
        have hIn5 : Hid (FmtIn m) := by rw [hm]; exact in_begun hP.out.in_ hl60 ⟨by omega, by omega⟩
        have hml : m.length = l.length + 1 := by rw [hm]; simp
        have hbeg : Hid (rightR m = true → beginsR m = true) := fun h => by rw [hm] at h ⊢; exact ((begun_right hP.out.begins (id : Int)).1 h).2
        have hlast : m[l.length]! = ⟨(id : Int), []⟩ := by rw [hm]; exact get_last l _
        rw [← hm] at hF5 hlr2
        obtain ⟨g5, c5, rfl, _, _, _, hg5l, hg5c, _⟩ := own_cells3 hF5.of_.row (by omega)
        obtain ⟨pz, _⟩ := fmtC_at m _ hF5.of_.fl l.length (by omega)
        rw [hlast] at pz
        have y0 := hg5c _ _ pz
        dsimp only at y0
        have x5 := hxi.out w5 hL5
        have hdig := Lib.hid fun W => digitsI_any (id : Int) W (by omega) (by omega)
        have hlen := itoa_len (id : Int) ⟨by omega, by omega⟩
        have hadd := add_str (formatT ++ [32]) (Lib.itoa (id : Int)) (by simp only [formatT, List.length_append, List.length_cons, List.length_nil]; omega)
        rw [show str (formatT ++ [32]) = ⟨#[102, 111, 114, 109, 97, 116, 32]⟩ from rfl] at hadd
        obtain ⟨T, hT⟩ : ∃ T, T = namedL formatT (id : Int) := ⟨_, rfl⟩
        rw [show formatT ++ [32] ++ Lib.itoa (id : Int) = T from hT.symm] at hadd
        rw [← hT] at hlr2
        have lqT := eqq_str T
        have lqL := eqq_str line
        replace hT := Lib.hid hT
        generalize Lib.itoa (id : Int) = idt at *
        obtain ⟨N5, hN5⟩ : ∃ N5, N5 = m.length := ⟨_, rfl⟩
        have hwN : IntKind.i64.wrap ((N5 : Int) - 1) = (l.length : Int) := by rw [IntWalk.i64_in _ (by omega)]; omega
        have n0 : (0 : Int) ≤ (l.length : Int) := by omega
        have n1 : (l.length : Int) < (N5 : Int) := by omega
        have hval : Hid ((Value.slice (some ⟨g5, 0, none⟩) N5 c5) = .slice (some ⟨g5, 0, none⟩) m.length c5) := by show _ = _; rw [hN5]
        rw [← hN5] at hrun5
        have zg := World.block_lt_of_cell? _ _ y0
        have zl := World.block_lt_of_cell? _ _ x5
        replace hrun5 := Lib.hid hrun5
        replace hlast := Lib.hid hlast
        replace hN5 := Lib.hid hN5
        replace hm := Lib.hid hm
        replace hml := Lib.hid hml
        replace hF5 := Lib.hid hF5
        replace hB5 := Lib.hid hB5
        replace hL5 := Lib.hid hL5
        clear hb5 hs5 hg5c pz
        go_wp2_with (at_builtin; go_loud (refine wpList_append_known rfl _ _ _ _ rfl _ _ rfl rfl hrun5.out ?_))
        refine wp_region_held_drew (S := fun w' => w'.cell? ⟨g5, l.length * 2, none⟩ = some (.int .i64 (id : Int)) ∧ w'.cell? ⟨lg, i, none⟩ = some (.string (str line))) (by kernel_rfl) (by exact ⟨y0, x5⟩) (fun hHeld => ?_)
        refine take_l (i := 0) (v := ?_) rfl (by kernel_rfl) (by kernel_rfl) (by kernel_rfl) (fun _ _ _ h => h) (Or.inl ⟨by kernel_rfl, ?_⟩) (by assumption) ?_
        rotate_left
        · intro w hSw; (try dsimp only at hSw); go_simp; (try with_reducible rfl)
        (try simp only [Act.put, List.setIfInBounds_toArray, List.set_cons_zero, List.set_cons_succ])
        refine take_l (i := 1) (v := ?_) rfl (by kernel_rfl) (by kernel_rfl) (by kernel_rfl) (fun _ _ _ h => h) (Or.inl ⟨by kernel_rfl, ?_⟩) (by assumption) ?_
        rotate_left
        · intro w hSw; (try dsimp only at hSw); go_simp; (try with_reducible rfl)
        (try simp only [Act.put, List.setIfInBounds_toArray, List.set_cons_zero, List.set_cons_succ])
        refine take_l (i := 2) (v := ?_) rfl (by kernel_rfl) (by kernel_rfl) (by kernel_rfl) (fun _ _ _ h => h) (Or.inl ⟨by kernel_rfl, ?_⟩) (by assumption) ?_
        rotate_left
        · intro w hSw; (try dsimp only at hSw); go_simp; (try with_reducible rfl)
        (try simp only [Act.put, List.setIfInBounds_toArray, List.set_cons_zero, List.set_cons_succ])
        refine take_l (i := 3) (v := ?_) rfl (by kernel_rfl) (by kernel_rfl) (by kernel_rfl) (fun _ _ _ h => h) (Or.inl ⟨by kernel_rfl, ?_⟩) (by assumption) ?_
        rotate_left
        · intro w hSw; (try dsimp only at hSw); go_simp; (try with_reducible rfl)
        (try simp only [Act.put, List.setIfInBounds_toArray, List.set_cons_zero, List.set_cons_succ])
        refine take_l (i := 4) (v := ?_) rfl (by kernel_rfl) (by kernel_rfl) (by kernel_rfl) (fun _ _ _ h => h) (Or.inl ⟨by kernel_rfl, ?_⟩) (by assumption) ?_
        rotate_left
        · intro w hSw; (try dsimp only at hSw); go_simp; (try with_reducible rfl)
        (try simp only [Act.put, List.setIfInBounds_toArray, List.set_cons_zero, List.set_cons_succ])
        refine take_l (i := 5) (v := ?_) rfl (by kernel_rfl) (by kernel_rfl) (by kernel_rfl) (fun _ _ _ h => h) (Or.inl ⟨by kernel_rfl, ?_⟩) (by assumption) ?_
        rotate_left
        · intro w hSw; (try dsimp only at hSw); go_simp; (try with_reducible rfl)
        (try simp only [Act.put, List.setIfInBounds_toArray, List.set_cons_zero, List.set_cons_succ])
        refine take_l (i := 6) (v := ?_) rfl (by kernel_rfl) (by kernel_rfl) (by kernel_rfl) (fun _ _ _ h => h) (Or.inl ⟨by kernel_rfl, ?_⟩) (by assumption) ?_
        rotate_left
        · intro w hSw; (try dsimp only at hSw); go_simp; (try with_reducible rfl)
        (try simp only [Act.put, List.setIfInBounds_toArray, List.set_cons_zero, List.set_cons_succ])
        refine take_l (i := 9) (v := ?_) rfl (by kernel_rfl) (by kernel_rfl) (by kernel_rfl) (fun _ _ _ h => h) (Or.inl ⟨by kernel_rfl, ?_⟩) (by assumption) ?_
        rotate_left
        · intro w hSw; (try dsimp only at hSw); go_simp; (try with_reducible rfl)
        (try simp only [Act.put, List.setIfInBounds_toArray, List.set_cons_zero, List.set_cons_succ])
        refine take_l (i := 10) (v := ?_) rfl (by kernel_rfl) (by kernel_rfl) (by kernel_rfl) (fun _ _ _ h => h) (Or.inl ⟨by kernel_rfl, ?_⟩) (by assumption) ?_
        rotate_left
        · intro w hSw; (try dsimp only at hSw); go_simp; (try with_reducible rfl)
        (try simp only [Act.put, List.setIfInBounds_toArray, List.set_cons_zero, List.set_cons_succ])
        refine take_l (i := 11) (v := ?_) rfl (by kernel_rfl) (by kernel_rfl) (by kernel_rfl) (fun _ _ _ h => h) (Or.inl ⟨by kernel_rfl, ?_⟩) (by assumption) ?_
        rotate_left
        · intro w hSw; (try dsimp only at hSw); go_simp; (try with_reducible rfl)
        (try simp only [Act.put, List.setIfInBounds_toArray, List.set_cons_zero, List.set_cons_succ])
        refine take_l (i := 12) (v := ?_) rfl (by kernel_rfl) (by kernel_rfl) (by kernel_rfl) (fun _ _ _ h => h) (Or.inl ⟨by kernel_rfl, ?_⟩) (by assumption) ?_
        rotate_left
        · intro w hSw; (try dsimp only at hSw); go_simp; (try with_reducible rfl)
        (try simp only [Act.put, List.setIfInBounds_toArray, List.set_cons_zero, List.set_cons_succ])
        refine wpAnyH_ready (rs := [7]) (by kernel_rfl) (by simp) ?_
        refine ready_l rfl (fun K hK => ?_) AllReadyH.nil
        go_simp
        ((with_reducible refine ((hdig.out w5.drew)).mono ?_); rintro e vA ⟨rfl, hbvA⟩; have hBvA : Below w5.heap.size w5 vA := Below.trans (by repeat first | with_reducible exact Below.refl _ _ | with_reducible assumption | with_reducible refine below_drewN ?_ _ | with_reducible refine Below.drew ?_ | with_reducible refine Below.setCell ?_ (by first | exact Nat.le_refl _ | (simp; done) | (simp; omega) | omega) _ | with_reducible refine Below.alloc ?_ (by first | exact Nat.le_refl _ | (simp; done) | (simp; omega) | omega) _ | exact Below.refl _ _ | assumption) (hbvA.mono (by first | exact Nat.le_refl _ | assumption | (simp; done) | (simp; omega) | omega)); have hzvA := hbvA.size; have yA := (hbvA.cell (p := ⟨g5, l.length * 2, none⟩) zg).trans y0; have xA := (hbvA.cell (p := ⟨lg, i, none⟩) zl).trans x5)
        refine hK.out _ _ (by exact ⟨yA, xA⟩) (fun hHeld => ?_)
        clear hK K
        (try simp only [Act.put, List.setIfInBounds_toArray, List.set_cons_zero, List.set_cons_succ])
        refine take_l (i := 8) (v := ?_) rfl (by kernel_rfl) (by kernel_rfl) (by kernel_rfl) (fun _ _ _ h => h) (Or.inl ⟨by kernel_rfl, ?_⟩) (by assumption) ?_
        rotate_left
        · intro w hSw; (try dsimp only at hSw); go_simp; (try with_reducible rfl)
        (try simp only [Act.put, List.setIfInBounds_toArray, List.set_cons_zero, List.set_cons_succ])
        refine take_l (i := 13) (v := ?_) rfl (by kernel_rfl) (by kernel_rfl) (by kernel_rfl) (fun _ _ _ h => h) (Or.inl ⟨by kernel_rfl, ?_⟩) (by assumption) ?_
        rotate_left
        · intro w hSw; (try dsimp only at hSw); go_simp; (try with_reducible rfl)
        (try simp only [Act.put, List.setIfInBounds_toArray, List.set_cons_zero, List.set_cons_succ])
        refine wpAnyH_done (by kernel_rfl) ?_ _
        have hbP : Below w5.heap.size w5 vA := (Below.refl _ _).drew.trans hbvA
        have hBP : Hid (Below w.heap.size w vA) := hB5.out.trans (hbP.mono hB5.out.size)
        have hLP : Hid (vA.ownsRow w.heap.size 9 1 (.slice (some ⟨lg, 0, none⟩) lines.length lc) lines.length (wordCells lines)) := own_below hL5.out hbP
        have hFP : Hid (FewL w.heap.size vA (.slice (some ⟨g5, 0, none⟩) N5 c5) (fvs ++ [.slice none 0 0]) m) := by rw [hval.out]; exact hF5.out.later hbP
        have hInP := hIn5
        clear yA xA hHeld x5 y0 hadd c0 c1 hnum
        by_cases hTl : T = line
        · have dT : (T == line) = true := by rw [beq_iff_eq]; exact hTl
          have hmr : Hid (lineR l line = some m) := by show _ = _; rw [hlr2.out, if_pos hTl]
          have hright := Lib.hid (rightT_any (.slice (some ⟨g5, 0, none⟩) N5 c5) m l.length vA (hFP.out.fmts hInP.out) hml.out (by rw [hlast.out]; exact fun g hg => by cases hg))
          replace hTl := Lib.hid hTl
          simp only [dT, Bool.not_true]
          go_wp2_with fail
          refine hright.out.mono ?_
          rintro e w7 ⟨rfl, hb7⟩
          have hB7 : Hid (Below w.heap.size w w7) := hBP.out.trans (hb7.mono hBP.out.size)
          cases hrr : rightR m with
          | true =>
            have hnew : Hid (ParI w lines (.slice (some ⟨lg, 0, none⟩) lines.length lc) m (.slice (some ⟨g5, 0, none⟩) N5 c5) (fvs ++ [.slice none 0 0]) w7) := ⟨hB7.out, own_below hLP.out hb7, hFP.out.later hb7, hInP.out, hbeg.out hrr⟩
            have hG2 : Hid (parse4 s = refGo m (lines.drop (i + 1)) (i + 1 + 1)) := by
              show _ = _
              rw [hG.out, hstep.out, hsr.out, hmr.out]
              dsimp only
              rw [if_pos hrr]
            replace hrr := Lib.hid hrr
            go_wp2_with fail
            exact ⟨⟨i + 1, _, m, (fvs ++ [.slice none 0 0]), by first | rfl | go_num, by omega, by first | rfl | exact hval.out, hnew, hG2⟩, by simp [intOf]; omega⟩
          | false =>
            have hfin : Hid (parse4 s = ([], i + 1, 40)) := by
              show _ = _
              rw [hG.out, hstep.out, hsr.out, hmr.out]
              dsimp only
              rw [if_neg (by rw [hrr]; simp)]
            replace hrr := Lib.hid hrr
            go_wp2_with fail
            exact bodyPost_ret (v := .tuple #[.slice none 0 0, .int .i64 ((i + 1 : Nat) : Int), .int .i64 40]) (by simp [results, Tryz.f26, go_sem]) rfl ⟨hB7.out, .inl ⟨i + 1, hfin.out, rfl⟩⟩
        · have dT : (T == line) = false := by rw [beq_eq_false_iff_ne]; exact hTl
          have hmr : Hid (lineR l line = none) := by show _ = _; rw [hlr2.out, if_neg hTl]
          replace hTl := Lib.hid hTl
          simp only [dT, Bool.not_false]
          have hfin : Hid (parse4 s = ([], i + 1, 40)) := by
            show _ = _
            rw [hG.out, hstep.out, hsr.out, hmr.out]
          go_wp2_with fail
          exact bodyPost_ret (v := .tuple #[.slice none 0 0, .int .i64 ((i + 1 : Nat) : Int), .int .i64 40]) (by simp [results, Tryz.f26, go_sem]) rfl ⟨hBP.out, .inl ⟨i + 1, hfin.out, rfl⟩⟩
      · have hfl := Lib.hid (fieldT_any wo.heap.size _ ws w2 ho2 hw0 (by omega) hwsle.out hb2.size)
        have hlr2 : Hid (lineR l line = if l ≠ [] ∧ lineF (fieldR ws) = line then some (putF l (fieldR ws)) else none) := by show _ = _; rw [hlr.out, if_neg hq]
        obtain ⟨fok, fn, fm, fk45, ftx⟩ := fieldR_ok ws
        have hLn := Lib.hid fun W => lineT_any (fieldR ws) W fn fm fk45 (by omega)
        have hPl : Hid (∀ W, Below wo.heap.size w2 W → ParI w lines (.slice (some ⟨lg, 0, none⟩) lines.length lc) l (.slice la l.length lcc) fvs W) := fun W hW => hP.out.later (hb2.trans hW)
        generalize fieldR ws = f at *
        have hqq : Hid (∃ b1 b2 : Bool, (ws[0]! == [102, 111, 114, 109, 97, 116]) = b1 ∧ ((ws.length : Int) == 2) = b2 ∧ (b1 && b2) = false) := ⟨_, _, rfl, rfl, by
          rw [Bool.and_eq_false_iff]
          by_cases h0 : ws[0]! = formatT
          · right
            rw [beq_eq_false_iff_ne]
            have : ws.length ≠ 2 := fun h => hq ⟨h0, h⟩
            omega
          · left
            rw [beq_eq_false_iff_ne]
            exact h0⟩
        obtain ⟨b1, b2, d0, d2, dd⟩ := hqq.out
        generalize ws[0]! = p0 at *
        replace hq := Lib.hid hq
        clear hlr hwc hqq
        go_upto_region 7 with fail
        go_cut [35] from 27 to 34 (fun bv wx => bv = .bool false ∧ wx = w2)
        case first =>
          cases b1 with
          | true =>
            obtain rfl : b2 = false := by cases b2 with
              | true => cases dd
              | false => rfl
            go_wp2_with fail
            go_meet
            exact ⟨rfl, rfl⟩
          | false =>
            go_wp2_with fail
            go_meet
            exact ⟨rfl, rfl⟩
        case rest =>
          obtain ⟨rfl, hwx⟩ := hcut
          subst hwx
          clear dd d0 d2
          go_wp2_with fail
          refine hfl.out.mono ?_
          rintro e w3 ⟨rfl, hb3⟩
          have hP3 := hPl.out w3 hb3
          obtain ⟨kd, nn, fr, tx⟩ := f
          unfold fldV fldC at *
          obtain ⟨W4, hW4⟩ : ∃ W4, W4 = w3.alloc (.cells #[.int .i64 kd, .int .i64 nn, .int .i64 fr, .string (str tx)] 55) := ⟨_, rfl⟩
          have hb4 : Below w3.heap.size w3 W4 := by rw [hW4]; exact (Below.refl _ _).alloc (Nat.le_refl _) _
          have hA4 : Arr W4 w3.heap.size 55 (fldC ⟨kd, nn, fr, tx⟩) := by rw [hW4]; exact Arr.new rfl rfl
          have hP4 := hP3.later hb4
          have y0 := hA4.cell (j := 0) rfl
          have y1 := hA4.cell (j := 1) rfl
          have y2 := hA4.cell (j := 2) rfl
          have y3 := hA4.cell (j := 3) rfl
          have x4 := hxi.out W4 hP4.lines
          have zb := hA4.lt
          have zl := World.block_lt_of_cell? _ _ x4
          dsimp only at hLn
          have hbx : w3.heap.size = w3.heap.size := rfl
          go_upto_region 12 with fail
          rw [← hW4]
          clear hW4 hfl c0 hbx
          by_cases hl0 : l = []
          · have hz0 : ((l.length : Int) == 0) = true := by rw [hl0]; rfl
            have hmr : Hid (lineR l line = none) := by show _ = _; rw [hlr2.out, if_neg (fun h => h.1 hl0)]
            have hB4 := Lib.hid hP4.below
            replace hl0 := Lib.hid hl0
            replace hP4 := Lib.hid hP4
            replace hP3 := Lib.hid hP3
            go_wp2_with fail
            go_quiet (fail)
            have hB5 : Hid (Below w.heap.size w W4.drew) := hB4.out.drew
            have hfin : Hid (parse4 s = ([], i + 1, 40)) := by
              show _ = _
              rw [hG.out, hstep.out, hsr.out, hmr.out]
            go_wp2_with fail
            exact bodyPost_ret (v := .tuple #[.slice none 0 0, .int .i64 ((i + 1 : Nat) : Int), .int .i64 40]) (by simp [results, Tryz.f26, go_sem]) rfl ⟨below_drewN hB4.out _, .inl ⟨i + 1, hfin.out, rfl⟩⟩
          · obtain ⟨k, hk⟩ : ∃ k, k + 1 = l.length := ⟨l.length - 1, by
              have : l.length ≠ 0 := fun h => hl0 (List.eq_nil_of_length_eq_zero h)
              omega⟩
            have hz0 : ((l.length : Int) == 0) = false := by rw [beq_eq_false_iff_ne]; omega
            obtain ⟨L, id, p, hLe⟩ := last_split hl0
            have hkL : k = L.length := by have := congrArg List.length hLe; rw [List.length_append, List.length_singleton] at this; omega
            have hlk : l[k]! = ⟨id, p⟩ := by rw [hLe, hkL]; exact get_last L _
            obtain ⟨hprev, hp16⟩ := begins_prev (L := L) (id := id) (p := p) (by rw [← hLe]; exact hP4.begins)
            obtain ⟨m, hm⟩ : ∃ m : List Fmt, m = putF l ⟨kd, nn, fr, tx⟩ := ⟨_, rfl⟩
            have hmL : m = L ++ [⟨id, p ++ [⟨kd, nn, fr, tx⟩]⟩] := by rw [hm, hLe, putF_snoc]
            have hml : m.length = k + 1 := by rw [hmL, List.length_append, List.length_singleton, hkL]
            have hbeg : Hid (rightR m = true → beginsR m = true) := fun h => by rw [hmL] at h ⊢; exact ((added_right (by rw [← hLe]; exact hP4.begins) _).1 h).2.2
            have hInP : Hid (FmtIn m) := by
              show FmtIn m
              rw [hmL]
              exact in_fielded (by rw [← hLe]; exact hP4.in_) (by omega) fok
            have hmk : Hid (PrevOk m[k]!.flds.dropLast) := by
              show PrevOk _
              rw [hmL, hkL, get_last, List.dropLast_concat]
              exact hprev
            rw [← hm] at hlr2
            obtain ⟨g, cap, eg, _, _, _, hgl, _, _⟩ := own_cells3 hP4.fmts.of_.row (by omega)
            injection eg with eg1 _ eg3
            subst eg1 eg3
            obtain ⟨fa, fc, hfv⟩ := own_val (hP4.fmts.of_.rows k (by omega))
            have hbne : Hid (fvs[k]!.ownBlock ≠ some w3.heap.size) := fun e => by
              have := (own_block (hP3.fmts.of_.rows k (by omega)) e).1
              omega
            have hwk : IntKind.i64.wrap ((l.length : Int) - 1) = (k : Int) := by rw [IntWalk.i64_in _ (by omega)]; omega
            have j0 : (0 : Int) ≤ (k : Int) := by omega
            have j1 : (k : Int) < (l.length : Int) := by omega
            have hfl16 : l[k]!.flds.length ≤ 1000 := by rw [hlk]; dsimp only; omega
            obtain ⟨LT, hLT⟩ : ∃ LT, LT = lineF ⟨kd, nn, fr, tx⟩ := ⟨_, rfl⟩
            rw [← hLT] at hLn hlr2
            have lqT := eqq_str LT
            have lqL := eqq_str line
            replace hLT := Lib.hid hLT
            replace hm := Lib.hid hm
            replace hLe := Lib.hid hLe
            replace hl0 := Lib.hid hl0
            replace hml := Lib.hid hml
            replace hk := Lib.hid hk
            replace hmL := Lib.hid hmL
            replace hkL := Lib.hid hkL
            replace hlk := Lib.hid hlk
            replace hfv := Lib.hid hfv
            replace hP4 := Lib.hid hP4
            clear hP3 hPl
            go_wp2_with fail
            refine wp_region_held_drew (S := fun w' => w'.cell? ⟨w3.heap.size, 0, none⟩ = some (.int .i64 kd) ∧ w'.cell? ⟨w3.heap.size, 1, none⟩ = some (.int .i64 nn) ∧ w'.cell? ⟨w3.heap.size, 2, none⟩ = some (.int .i64 fr) ∧ w'.cell? ⟨w3.heap.size, 3, none⟩ = some (.string (str tx)) ∧ w'.cell? ⟨lg, i, none⟩ = some (.string (str line))) (by kernel_rfl) (by exact ⟨y0, y1, y2, y3, x4⟩) (fun hHeld => ?_)
            refine take_l (i := 0) (v := ?_) rfl (by kernel_rfl) (by kernel_rfl) (by kernel_rfl) (fun _ _ _ h => h) (Or.inl ⟨by kernel_rfl, ?_⟩) (by assumption) ?_
            rotate_left
            · intro w hSw; (try dsimp only at hSw); go_simp; (try with_reducible rfl)
            (try simp only [Act.put, List.setIfInBounds_toArray, List.set_cons_zero, List.set_cons_succ])
            refine take_l (i := 1) (v := ?_) rfl (by kernel_rfl) (by kernel_rfl) (by kernel_rfl) (fun _ _ _ h => h) (Or.inl ⟨by kernel_rfl, ?_⟩) (by assumption) ?_
            rotate_left
            · intro w hSw; (try dsimp only at hSw); go_simp; (try with_reducible rfl)
            (try simp only [Act.put, List.setIfInBounds_toArray, List.set_cons_zero, List.set_cons_succ])
            refine take_l (i := 2) (v := ?_) rfl (by kernel_rfl) (by kernel_rfl) (by kernel_rfl) (fun _ _ _ h => h) (Or.inl ⟨by kernel_rfl, ?_⟩) (by assumption) ?_
            rotate_left
            · intro w hSw; (try dsimp only at hSw); go_simp; (try with_reducible rfl)
            (try simp only [Act.put, List.setIfInBounds_toArray, List.set_cons_zero, List.set_cons_succ])
            refine take_l (i := 3) (v := ?_) rfl (by kernel_rfl) (by kernel_rfl) (by kernel_rfl) (fun _ _ _ h => h) (Or.inl ⟨by kernel_rfl, ?_⟩) (by assumption) ?_
            rotate_left
            · intro w hSw; (try dsimp only at hSw); go_simp; (try with_reducible rfl)
            (try simp only [Act.put, List.setIfInBounds_toArray, List.set_cons_zero, List.set_cons_succ])
            refine take_l (i := 4) (v := ?_) rfl (by kernel_rfl) (by kernel_rfl) (by kernel_rfl) (fun _ _ _ h => h) (Or.inl ⟨by kernel_rfl, ?_⟩) (by assumption) ?_
            rotate_left
            · intro w hSw; (try dsimp only at hSw); go_simp; (try with_reducible rfl)
            (try simp only [Act.put, List.setIfInBounds_toArray, List.set_cons_zero, List.set_cons_succ])
            refine take_l (i := 6) (v := ?_) rfl (by kernel_rfl) (by kernel_rfl) (by kernel_rfl) (fun _ _ _ h => h) (Or.inl ⟨by kernel_rfl, ?_⟩) (by assumption) ?_
            rotate_left
            · intro w hSw; (try dsimp only at hSw); go_simp; (try with_reducible rfl)
            (try simp only [Act.put, List.setIfInBounds_toArray, List.set_cons_zero, List.set_cons_succ])
            refine take_l (i := 7) (v := ?_) rfl (by kernel_rfl) (by kernel_rfl) (by kernel_rfl) (fun _ _ _ h => h) (Or.inl ⟨by kernel_rfl, ?_⟩) (by assumption) ?_
            rotate_left
            · intro w hSw; (try dsimp only at hSw); go_simp; (try with_reducible rfl)
            (try simp only [Act.put, List.setIfInBounds_toArray, List.set_cons_zero, List.set_cons_succ])
            refine take_l (i := 8) (v := ?_) rfl (by kernel_rfl) (by kernel_rfl) (by kernel_rfl) (fun _ _ _ h => h) (Or.inl ⟨by kernel_rfl, ?_⟩) (by assumption) ?_
            rotate_left
            · intro w hSw; (try dsimp only at hSw); go_simp; (try with_reducible rfl)
            (try simp only [Act.put, List.setIfInBounds_toArray, List.set_cons_zero, List.set_cons_succ])
            refine take_l (i := 9) (v := ?_) rfl (by kernel_rfl) (by kernel_rfl) (by kernel_rfl) (fun _ _ _ h => h) (Or.inl ⟨by kernel_rfl, ?_⟩) (by assumption) ?_
            rotate_left
            · intro w hSw; (try dsimp only at hSw); go_simp; (try with_reducible rfl)
            (try simp only [Act.put, List.setIfInBounds_toArray, List.set_cons_zero, List.set_cons_succ])
            refine wpAnyH_ready (rs := [5]) (by kernel_rfl) (by simp) ?_
            refine ready_l rfl (fun K hK => ?_) AllReadyH.nil
            go_simp
            ((with_reducible refine ((hLn.out W4.drew)).mono ?_); rintro e vB ⟨rfl, hbvB⟩; have hBvB : Below W4.heap.size W4 vB := Below.trans (by repeat first | with_reducible exact Below.refl _ _ | with_reducible assumption | with_reducible refine below_drewN ?_ _ | with_reducible refine Below.drew ?_ | with_reducible refine Below.setCell ?_ (by first | exact Nat.le_refl _ | (simp; done) | (simp; omega) | omega) _ | with_reducible refine Below.alloc ?_ (by first | exact Nat.le_refl _ | (simp; done) | (simp; omega) | omega) _ | exact Below.refl _ _ | assumption) (hbvB.mono (by first | exact Nat.le_refl _ | assumption | (simp; done) | (simp; omega) | omega)); have hzvB := hbvB.size; have yB0 := (hbvB.cell (p := ⟨w3.heap.size, 0, none⟩) zb).trans y0; have yB1 := (hbvB.cell (p := ⟨w3.heap.size, 1, none⟩) zb).trans y1; have yB2 := (hbvB.cell (p := ⟨w3.heap.size, 2, none⟩) zb).trans y2; have yB3 := (hbvB.cell (p := ⟨w3.heap.size, 3, none⟩) zb).trans y3; have xB := (hbvB.cell (p := ⟨lg, i, none⟩) zl).trans x4)
            refine hK.out _ _ (by exact ⟨yB0, yB1, yB2, yB3, xB⟩) (fun hHeld => ?_)
            clear hK K
            (try simp only [Act.put, List.setIfInBounds_toArray, List.set_cons_zero, List.set_cons_succ])
            refine take_l (i := 10) (v := ?_) rfl (by kernel_rfl) (by kernel_rfl) (by kernel_rfl) (fun _ _ _ h => h) (Or.inl ⟨by kernel_rfl, ?_⟩) (by assumption) ?_
            rotate_left
            · intro w hSw; (try dsimp only at hSw); go_simp; (try with_reducible rfl)
            (try simp only [Act.put, List.setIfInBounds_toArray, List.set_cons_zero, List.set_cons_succ])
            refine take_l (i := 11) (v := ?_) rfl (by kernel_rfl) (by kernel_rfl) (by kernel_rfl) (fun _ _ _ h => h) (Or.inl ⟨by kernel_rfl, ?_⟩) (by assumption) ?_
            rotate_left
            · intro w hSw; (try dsimp only at hSw); go_simp; (try with_reducible rfl)
            (try simp only [Act.put, List.setIfInBounds_toArray, List.set_cons_zero, List.set_cons_succ])
            refine wpAnyH_done (by kernel_rfl) ?_ _
            have hbB : Below W4.heap.size W4 vB := (Below.refl _ _).drew.trans hbvB
            have hPB := Lib.hid (hP4.out.later hbB)
            have hABx := Lib.hid (hA4.below hbB)
            clear hHeld xB y0 y1 y2 y3 x4 hbvB
            by_cases hTl : LT = line
            · have dT : (LT == line) = true := by rw [beq_iff_eq]; exact hTl
              have hmr : Hid (lineR l line = some m) := by show _ = _; rw [hlr2.out, if_pos ⟨hl0.out, hTl⟩]
              have hFd : FewL w.heap.size vB.drew (.slice (some ⟨g, 0, none⟩) (k + 1) lcc) fvs l := by rw [hk.out]; exact hPB.out.fmts.later (Below.refl _ _).drew
              obtain ⟨X, hX⟩ : ∃ X, X = vB.drew.alloc (.cells #[.int .i64 kd, .int .i64 nn, .int .i64 fr, .string (str tx)] 55) := ⟨_, rfl⟩
              have hbX : Below vB.drew.heap.size vB.drew X := by rw [hX]; exact (Below.refl _ _).alloc (Nat.le_refl _) _
              have hAX : Arr X vB.heap.size 55 (fldC ⟨kd, nn, fr, tx⟩) := by rw [hX]; exact Arr.new rfl rfl
              obtain ⟨v6, w6, hrun6, hc6, hz6, ho6, hF6, hb6, hs6, hbox6⟩ := hFd.fielded (f := ⟨kd, nn, fr, tx⟩) hk.out.symm hfl16 hPB.out.below.size hbX hAX
              obtain ⟨va6, vc6, rfl⟩ := ho6
              obtain ⟨hAx6, hAx7⟩ := hbox6 w3.heap.size _ hbne.out (hABx.out.drew.below hbX)
              have hAxX := hABx.out.drew.below hbX
              have hBox0 : vB.drew.cell? ⟨w3.heap.size, 0, none⟩ = some (.int .i64 kd) ∧ vB.drew.cell? ⟨w3.heap.size, 1, none⟩ = some (.int .i64 nn) ∧ vB.drew.cell? ⟨w3.heap.size, 2, none⟩ = some (.int .i64 fr) ∧ vB.drew.cell? ⟨w3.heap.size, 3, none⟩ = some (.string (str tx)) := ⟨yB0, yB1, yB2, yB3⟩
              have hBoxX : X.cell? ⟨w3.heap.size, 0, none⟩ = some (.int .i64 kd) ∧ X.cell? ⟨w3.heap.size, 1, none⟩ = some (.int .i64 nn) ∧ X.cell? ⟨w3.heap.size, 2, none⟩ = some (.int .i64 fr) ∧ X.cell? ⟨w3.heap.size, 3, none⟩ = some (.string (str tx)) := ⟨hAxX.cell (j := 0) rfl, hAxX.cell (j := 1) rfl, hAxX.cell (j := 2) rfl, hAxX.cell (j := 3) rfl⟩
              have hBox6 : w6.cell? ⟨w3.heap.size, 0, none⟩ = some (.int .i64 kd) ∧ w6.cell? ⟨w3.heap.size, 1, none⟩ = some (.int .i64 nn) ∧ w6.cell? ⟨w3.heap.size, 2, none⟩ = some (.int .i64 fr) ∧ w6.cell? ⟨w3.heap.size, 3, none⟩ = some (.string (str tx)) := ⟨hAx6.cell (j := 0) rfl, hAx6.cell (j := 1) rfl, hAx6.cell (j := 2) rfl, hAx6.cell (j := 3) rfl⟩
              have hBox7 : (w6.setCell ⟨g, k * 2 + 1, none⟩ (.slice va6 (l[k]!.flds.length + 1) vc6)).cell? ⟨w3.heap.size, 0, none⟩ = some (.int .i64 kd) ∧ (w6.setCell ⟨g, k * 2 + 1, none⟩ (.slice va6 (l[k]!.flds.length + 1) vc6)).cell? ⟨w3.heap.size, 1, none⟩ = some (.int .i64 nn) ∧ (w6.setCell ⟨g, k * 2 + 1, none⟩ (.slice va6 (l[k]!.flds.length + 1) vc6)).cell? ⟨w3.heap.size, 2, none⟩ = some (.int .i64 fr) ∧ (w6.setCell ⟨g, k * 2 + 1, none⟩ (.slice va6 (l[k]!.flds.length + 1) vc6)).cell? ⟨w3.heap.size, 3, none⟩ = some (.string (str tx)) := ⟨hAx7.cell (j := 0) rfl, hAx7.cell (j := 1) rfl, hAx7.cell (j := 2) rfl, hAx7.cell (j := 3) rfl⟩
              have hB9 : Hid (Below w.heap.size w (w6.setCell ⟨g, k * 2 + 1, none⟩ (.slice va6 (l[k]!.flds.length + 1) vc6))) := hb6 _ hPB.out.below.drew
              have hL9 : Hid ((w6.setCell ⟨g, k * 2 + 1, none⟩ (.slice va6 (l[k]!.flds.length + 1) vc6)).ownsRow w.heap.size 9 1 (.slice (some ⟨lg, 0, none⟩) lines.length lc) lines.length (wordCells lines)) := hs6 _ _ _ _ (own_below hPB.out.lines (Below.refl _ _).drew)
              have hF9 : Hid (FewL w.heap.size (w6.setCell ⟨g, k * 2 + 1, none⟩ (.slice va6 (l[k]!.flds.length + 1) vc6)) (.slice (some ⟨g, 0, none⟩) l.length lcc) (fvs.set k (.slice va6 (l[k]!.flds.length + 1) vc6)) m) := by
                show FewL _ _ _ _ _
                rw [hm.out]
                rw [hk.out] at hF6
                exact hF6
              have hp0 := hPB.out.fmts.of_
              have hcf : vB.cell? ⟨g, k * 2 + 1, none⟩ = some (.slice fa l[k]!.flds.length fc) := by
                obtain ⟨g', c', e', _, _, _, _, hcs, _⟩ := own_cells3 hp0.row (by have := hk.out; omega)
                injection e' with e1 _ _
                injection e1 with e1
                injection e1 with e1 _
                subst e1
                obtain ⟨_, p2⟩ := fmtC_at l fvs hp0.fl k (by have := hk.out; omega)
                rw [← hfv.out]
                exact hcs _ _ p2
              have hcfX : (vB.alloc (.cells #[.int .i64 kd, .int .i64 nn, .int .i64 fr, .string (str tx)] 55)).cell? ⟨g, k * 2 + 1, none⟩ = some (.slice fa l[k]!.flds.length fc) := (((Below.refl vB.heap.size vB).alloc (Nat.le_refl _) _).cell (World.block_lt_of_cell? _ _ hcf)).trans hcf
              rw [hfv.out] at hrun6 hc6
              rw [hX] at hrun6 hBoxX
              generalize l[k]!.flds.length = fn0 at *
              replace hTl := Lib.hid hTl
              replace hrun6 := Lib.hid hrun6
              clear hF6 hb6 hs6 hbox6 hAx6 hAx7 hAxX hAX hbX hX hFd hp0
              simp only [dT, Bool.not_true]
              go_upto_region 15 with fail
              go_cut [] from 81 to 90 (fun wx => ∃ v6, FewL w.heap.size wx (.slice (some ⟨g, 0, none⟩) l.length lcc) (fvs.set k v6) m ∧ Below w.heap.size w wx ∧ wx.ownsRow w.heap.size 9 1 (.slice (some ⟨lg, 0, none⟩) lines.length lc) lines.length (wordCells lines))
              case first =>
                refine wp_region_held_drew (S := fun w' => w'.cell? ⟨w3.heap.size, 0, none⟩ = some (.int .i64 kd) ∧ w'.cell? ⟨w3.heap.size, 1, none⟩ = some (.int .i64 nn) ∧ w'.cell? ⟨w3.heap.size, 2, none⟩ = some (.int .i64 fr) ∧ w'.cell? ⟨w3.heap.size, 3, none⟩ = some (.string (str tx))) (by kernel_rfl) (by exact hBox0) (fun hHeld => ?_)
                refine take_l (i := 0) (v := ?_) rfl (by kernel_rfl) (by kernel_rfl) (by kernel_rfl) (fun _ _ _ h => h) (Or.inl ⟨by kernel_rfl, ?_⟩) (by assumption) ?_
                rotate_left
                · intro w hSw; (try dsimp only at hSw); go_simp; (try with_reducible rfl)
                (try simp only [Act.put, List.setIfInBounds_toArray, List.set_cons_zero, List.set_cons_succ])
                refine take_l (i := 1) (v := ?_) rfl (by kernel_rfl) (by kernel_rfl) (by kernel_rfl) (fun _ _ _ h => h) (Or.inl ⟨by kernel_rfl, ?_⟩) (by assumption) ?_
                rotate_left
                · intro w hSw; (try dsimp only at hSw); go_simp; (try with_reducible rfl)
                (try simp only [Act.put, List.setIfInBounds_toArray, List.set_cons_zero, List.set_cons_succ])
                refine take_l (i := 2) (v := ?_) rfl (by kernel_rfl) (by kernel_rfl) (by kernel_rfl) (fun _ _ _ h => h) (Or.inl ⟨by kernel_rfl, ?_⟩) (by assumption) ?_
                rotate_left
                · intro w hSw; (try dsimp only at hSw); go_simp; (try with_reducible rfl)
                (try simp only [Act.put, List.setIfInBounds_toArray, List.set_cons_zero, List.set_cons_succ])
                refine take_l (i := 3) (v := ?_) rfl (by kernel_rfl) (by kernel_rfl) (by kernel_rfl) (fun _ _ _ h => h) (Or.inl ⟨by kernel_rfl, ?_⟩) (by assumption) ?_
                rotate_left
                · intro w hSw; (try dsimp only at hSw); go_simp; (try with_reducible rfl)
                (try simp only [Act.put, List.setIfInBounds_toArray, List.set_cons_zero, List.set_cons_succ])
                refine take_l (i := 5) (v := ?_) rfl (by kernel_rfl) (by kernel_rfl) (by kernel_rfl) (fun _ _ _ h => h) (Or.inl ⟨by kernel_rfl, ?_⟩) (by assumption) ?_
                rotate_left
                · intro w hSw; (try dsimp only at hSw); go_simp; (try with_reducible rfl)
                (try simp only [Act.put, List.setIfInBounds_toArray, List.set_cons_zero, List.set_cons_succ])
                refine wpAnyH_ready (rs := [4, 6]) (by kernel_rfl) (by simp) ?_
                refine ready_l rfl (fun K hK => ?_) (ready_l rfl (fun K hK => ?_) AllReadyH.nil)
                · go_simp
                  refine hK.out _ _ (by exact hBox0) (fun hHeld => ?_)
                  clear hK K
                  (try simp only [Act.put, List.setIfInBounds_toArray, List.set_cons_zero, List.set_cons_succ])
                  refine wpAnyH_ready (rs := [6]) (by kernel_rfl) (by simp) ?_
                  refine ready_l rfl (fun K hK => ?_) AllReadyH.nil
                  go_simp
                  refine hK.out _ _ (by exact hBoxX) (fun hHeld => ?_)
                  clear hK K
                  (try simp only [Act.put, List.setIfInBounds_toArray, List.set_cons_zero, List.set_cons_succ])
                  refine wpAnyH_ready (rs := [7]) (by kernel_rfl) (by simp) ?_
                  refine ready_l rfl (fun K hK => ?_) AllReadyH.nil
                  refine step_append_known rfl _ _ _ _ rfl _ _ rfl rfl hrun6.out ?_
                  (try simp only [Act.put, List.setIfInBounds_toArray, List.set_cons_zero, List.set_cons_succ])
                  refine hK.out _ _ (by exact hBox6) (fun hHeld => ?_)
                  clear hK K
                  (try simp only [Act.put, List.setIfInBounds_toArray, List.set_cons_zero, List.set_cons_succ])
                  refine take_l (i := 8) (v := ?_) rfl (by kernel_rfl) (by kernel_rfl) (by kernel_rfl) (fun _ _ _ h => h) (Or.inl ⟨by kernel_rfl, ?_⟩) (by assumption) ?_
                  rotate_left
                  · intro w hSw; (try dsimp only at hSw); go_simp; (try with_reducible rfl)
                  (try simp only [Act.put, List.setIfInBounds_toArray, List.set_cons_zero, List.set_cons_succ])
                  refine take_l (i := 9) (v := ?_) rfl (by kernel_rfl) (by kernel_rfl) (by kernel_rfl) (fun _ _ _ h => h) (Or.inl ⟨by kernel_rfl, ?_⟩) (by assumption) ?_
                  rotate_left
                  · intro w hSw; (try dsimp only at hSw); go_simp; (try with_reducible rfl)
                  (try simp only [Act.put, List.setIfInBounds_toArray, List.set_cons_zero, List.set_cons_succ])
                  refine wpAnyH_ready (rs := [10]) (by kernel_rfl) (by simp) ?_
                  refine ready_l rfl (fun K hK => ?_) AllReadyH.nil
                  go_simp
                  refine hK.out _ _ (by exact hBox7) (fun hHeld => ?_)
                  clear hK K
                  (try simp only [Act.put, List.setIfInBounds_toArray, List.set_cons_zero, List.set_cons_succ])
                  refine wpAnyH_done (by kernel_rfl) ?_ _
                  go_wp2_with fail
                  go_meet
                  exact ⟨_, hF9.out, hB9.out, hL9.out⟩
                · go_simp
                  refine hK.out _ _ (by exact hBoxX) (fun hHeld => ?_)
                  clear hK K
                  (try simp only [Act.put, List.setIfInBounds_toArray, List.set_cons_zero, List.set_cons_succ])
                  refine wpAnyH_ready (rs := [4]) (by kernel_rfl) (by simp) ?_
                  refine ready_l rfl (fun K hK => ?_) AllReadyH.nil
                  go_simp
                  refine hK.out _ _ (by exact hBoxX) (fun hHeld => ?_)
                  clear hK K
                  (try simp only [Act.put, List.setIfInBounds_toArray, List.set_cons_zero, List.set_cons_succ])
                  refine wpAnyH_ready (rs := [7]) (by kernel_rfl) (by simp) ?_
                  refine ready_l rfl (fun K hK => ?_) AllReadyH.nil
                  refine step_append_known rfl _ _ _ _ rfl _ _ rfl rfl hrun6.out ?_
                  (try simp only [Act.put, List.setIfInBounds_toArray, List.set_cons_zero, List.set_cons_succ])
                  refine hK.out _ _ (by exact hBox6) (fun hHeld => ?_)
                  clear hK K
                  (try simp only [Act.put, List.setIfInBounds_toArray, List.set_cons_zero, List.set_cons_succ])
                  refine take_l (i := 8) (v := ?_) rfl (by kernel_rfl) (by kernel_rfl) (by kernel_rfl) (fun _ _ _ h => h) (Or.inl ⟨by kernel_rfl, ?_⟩) (by assumption) ?_
                  rotate_left
                  · intro w hSw; (try dsimp only at hSw); go_simp; (try with_reducible rfl)
                  (try simp only [Act.put, List.setIfInBounds_toArray, List.set_cons_zero, List.set_cons_succ])
                  refine take_l (i := 9) (v := ?_) rfl (by kernel_rfl) (by kernel_rfl) (by kernel_rfl) (fun _ _ _ h => h) (Or.inl ⟨by kernel_rfl, ?_⟩) (by assumption) ?_
                  rotate_left
                  · intro w hSw; (try dsimp only at hSw); go_simp; (try with_reducible rfl)
                  (try simp only [Act.put, List.setIfInBounds_toArray, List.set_cons_zero, List.set_cons_succ])
                  refine wpAnyH_ready (rs := [10]) (by kernel_rfl) (by simp) ?_
                  refine ready_l rfl (fun K hK => ?_) AllReadyH.nil
                  go_simp
                  refine hK.out _ _ (by exact hBox7) (fun hHeld => ?_)
                  clear hK K
                  (try simp only [Act.put, List.setIfInBounds_toArray, List.set_cons_zero, List.set_cons_succ])
                  refine wpAnyH_done (by kernel_rfl) ?_ _
                  go_wp2_with fail
                  go_meet
                  exact ⟨_, hF9.out, hB9.out, hL9.out⟩
              case rest =>
                obtain ⟨v9, hF9', hB9', hL9'⟩ := hcut
                have hFP := Lib.hid hF9'
                have hBP := Lib.hid hB9'
                have hLP := Lib.hid hL9'
                have hright := Lib.hid (rightT_any _ m k wc (hFP.out.fmts hInP.out) hml.out hmk.out)
                clear hF9' hB9' hL9'
                go_wp2_with fail
                refine hright.out.mono ?_
                rintro e w7 ⟨rfl, hb7⟩
                have hB7 : Hid (Below w.heap.size w w7) := hBP.out.trans (hb7.mono hBP.out.size)
                cases hrr : rightR m with
                | true =>
                  have hnew : Hid (ParI w lines (.slice (some ⟨lg, 0, none⟩) lines.length lc) m (.slice (some ⟨g, 0, none⟩) l.length lcc) (fvs.set k v9) w7) := ⟨hB7.out, own_below hLP.out hb7, hFP.out.later hb7, hInP.out, hbeg.out hrr⟩
                  have hG2 : Hid (parse4 s = refGo m (lines.drop (i + 1)) (i + 1 + 1)) := by
                    show _ = _
                    rw [hG.out, hstep.out, hsr.out, hmr.out]
                    dsimp only
                    rw [if_pos hrr]
                  replace hrr := Lib.hid hrr
                  go_wp2_with fail
                  exact ⟨⟨i + 1, _, m, (fvs.set k v9), by first | rfl | go_num, by omega, rfl, hnew, hG2⟩, by simp [intOf]; omega⟩
                | false =>
                  have hfin : Hid (parse4 s = ([], i + 1, 40)) := by
                    show _ = _
                    rw [hG.out, hstep.out, hsr.out, hmr.out]
                    dsimp only
                    rw [if_neg (by rw [hrr]; simp)]
                  replace hrr := Lib.hid hrr
                  go_wp2_with fail
                  exact bodyPost_ret (v := .tuple #[.slice none 0 0, .int .i64 ((i + 1 : Nat) : Int), .int .i64 40]) (by simp [results, Tryz.f26, go_sem]) rfl ⟨hB7.out, .inl ⟨i + 1, hfin.out, rfl⟩⟩

            · have dT : (LT == line) = false := by rw [beq_eq_false_iff_ne]; exact hTl
              have hmr : Hid (lineR l line = none) := by show _ = _; rw [hlr2.out, if_neg (fun h => hTl h.2)]
              have hBz := Lib.hid hPB.out.below
              replace hTl := Lib.hid hTl
              simp only [dT, Bool.not_false]
              have hfin : Hid (parse4 s = ([], i + 1, 40)) := by
                show _ = _
                rw [hG.out, hstep.out, hsr.out, hmr.out]
              go_wp2_with fail
              exact bodyPost_ret (v := .tuple #[.slice none 0 0, .int .i64 ((i + 1 : Nat) : Int), .int .i64 40]) (by simp [results, Tryz.f26, go_sem]) rfl ⟨hBz.out, .inl ⟨i + 1, hfin.out, rfl⟩⟩
    · obtain rfl : i = K := by omega
      have hd : decide ((i : Int) < (i : Int)) = false := decide_eq_false (by omega)
      have hj0 : ¬ i < i := by omega
      have hlst := Lib.hid (go_last (l := l) (lines := lines) (i := i) (by omega) (i + 1))
      have hvr := Lib.hid (validR_any _ l wo (hP.out.fmts.fmts hP.out.in_))
      have hIn := hP.out.in_
      have hlz : Hid ((lines.length : Int) = ((i + 1 : Nat) : Int)) := by show _ = _; omega
      have i2 : (i : Int) < (lines.length : Int) := by omega
      obtain ⟨line, hlne⟩ : ∃ line, line = lines[i]! := ⟨_, rfl⟩
      rw [← hlne] at hlst hxi
      replace hlne := Lib.hid hlne
      have lqL := eqq_str line
      clear hK'
      cases hv : validR l with
      | false =>
        rw [hv] at hvr
        have hfin : Hid (parse4 s = ([], i + 1, 40)) := by
          show _ = _
          rw [hG.out, hlst.out, if_neg (fun h => by rw [hv] at h; cases h.1)]
        replace hv := Lib.hid hv
        go_wp2_with fail
        refine hvr.out.mono ?_
        rintro e w2 ⟨rfl, hb2⟩
        have hB2 : Hid (Below w.heap.size w w2) := hP.out.below.trans (hb2.mono hP.out.below.size)
        go_wp2_with fail
        exact bodyPost_ret (v := .tuple #[.slice none 0 0, .int .i64 (lines.length : Int), .int .i64 40]) (by simp [results, Tryz.f26, go_sem]) rfl ⟨hB2.out, .inl ⟨i + 1, hfin.out, by rw [hlz.out]⟩⟩
      | true =>
        rw [hv] at hvr
        by_cases hle0 : line = []
        · have he : line.isEmpty = true := by rw [hle0]; rfl
          have hfin : Hid (parse4 s = (l, 0, 0)) := by
            show _ = _
            rw [hG.out, hlst.out, if_pos ⟨hv, hle0⟩]
          replace hv := Lib.hid hv
          replace hle0 := Lib.hid hle0
          go_wp2_with fail
          refine hvr.out.mono ?_
          rintro e w2 ⟨rfl, hb2⟩
          have hP2 := hP.out.later hb2
          have x2 := hxi.out w2 hP2.lines
          have hB2 := Lib.hid hP2.below
          have hF2 := Lib.hid (hP2.fmts.fmts hIn)
          clear hP2
          go_wp2_with fail
          exact bodyPost_ret (v := .tuple #[.slice la l.length lcc, .int .i64 0, .int .i64 0]) (by simp [results, Tryz.f26, go_sem]) rfl ⟨hB2.out, .inr ⟨l, _, hfin.out, rfl, hF2.out⟩⟩
        · have he : line.isEmpty = false := by cases line with
            | nil => exact absurd rfl hle0
            | cons a b => rfl
          have hfin : Hid (parse4 s = ([], i + 1, 40)) := by
            show _ = _
            rw [hG.out, hlst.out, if_neg (fun h => hle0 h.2)]
          replace hv := Lib.hid hv
          replace hle0 := Lib.hid hle0
          go_wp2_with fail
          refine hvr.out.mono ?_
          rintro e w2 ⟨rfl, hb2⟩
          have hP2 := hP.out.later hb2
          have x2 := hxi.out w2 hP2.lines
          have hB2 := Lib.hid hP2.below
          clear hP2
          go_wp2_with fail
          exact bodyPost_ret (v := .tuple #[.slice none 0 0, .int .i64 (lines.length : Int), .int .i64 40]) (by simp [results, Tryz.f26, go_sem]) rfl ⟨hB2.out, .inl ⟨i + 1, hfin.out, by rw [hlz.out]⟩⟩
end Go.Proofs.YtcpfmlaipejfpaaGreatDoor
