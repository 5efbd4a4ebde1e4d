/-
  The text of a program, plain: what is printed is parsed into the program; what is parsed is printed as it was; a line that is wrong is one of the text.
-/
import Derived.Test.YtainohbfcehpoaaDoorMe2
namespace Go.Proofs.YtainohbfcehpoaaDoor
open Go.Lib

theorem cut_lines (c : UInt8) : ∀ ls : List (List UInt8), (∀ p ∈ ls, ∀ x ∈ p, x ≠ c) → cutAll c (ls.flatMap fun p => p ++ [c]) = ls ++ [[]]
  | [], _ => rfl
  | p :: r, h => by
    have ih := cut_lines c r (fun q hq => h q (by simp [hq]))
    rw [List.flatMap_cons, List.append_assoc, List.singleton_append, cutAll_hit c p _ (h p (by simp)), ih]
    rfl
theorem glue_lines (c : UInt8) : ∀ ls : List (List UInt8), glue c (ls ++ [[]]) = ls.flatMap fun p => p ++ [c]
  | [] => rfl
  | [p] => by simp [glue]
  | p :: q :: r => by
    have ih := glue_lines c (q :: r)
    rw [List.flatMap_cons, ← ih]
    simp [glue]
theorem lineT_no {o n : Nat} (h : o < 12) : ∀ x ∈ lineT o n, x ≠ 10 := by
  intro x hx
  unfold lineT at hx
  rcases List.mem_append.1 hx with hx | hx
  · exact opName_no (by decide) h x hx
  · split at hx
    · rcases List.mem_cons.1 hx with rfl | hx
      · decide
      · exact decDigits_no 10 (by decide) n x hx
    · cases hx
def lineI (x : Ins) : List UInt8 := lineT x.op x.opd
/-- The operands as the text has them. -/
def numF (l : List Ins) (x : Ins) : Ins := ⟨x.off, x.op, outN l x⟩
def numbered (l : List Ins) : List Ins := l.map (numF l)
theorem text_lines (l : List Ins) : textT l = ((numbered l).map lineI).flatMap fun p => p ++ [10] := by
  unfold textT numbered
  rw [List.map_map, List.flatMap_map]
  rfl
theorem laid_map (f : Ins → Ins) (h1 : ∀ x, (f x).off = x.off) (h2 : ∀ x, (f x).op = x.op) {a : Nat} {l : List Ins} (h : Laid a l) : Laid a (l.map f) := by
  induction h with
  | nil => exact .nil _
  | cons h ho _ ih => exact .cons (by rw [h1]; exact h) (by rw [h2]; exact ho) (by rw [h2]; exact ih)
theorem sizeL_map (f : Ins → Ins) (h2 : ∀ x, (f x).op = x.op) (l : List Ins) : sizeL (l.map f) = sizeL l := by
  unfold sizeL
  rw [List.map_map]
  congr 1
  exact List.map_congr_left fun x _ => by show simLen (f x).op = _; rw [h2]
theorem scan_lines : ∀ (ys : List Ins) (size : Nat) (acc : List Ins), Laid size ys → (∀ y ∈ ys, readT (lineI y) = some (y.op, y.opd)) → size + sizeL ys ≤ 1024 → scan (ys.map lineI ++ [[]]) size acc = .inr (acc ++ ys)
  | [], _, acc, _, _, _ => by simp [scan]
  | y :: ys, size, acc, hL, hR, hs => by
    cases hL with
    | cons hx ho hr =>
      have hy := hR y (by simp)
      have e : sizeL (y :: ys) = simLen y.op + sizeL ys := by simp [sizeL]
      rw [e] at hs
      have ih := scan_lines ys (size + simLen y.op) (acc ++ [⟨size, y.op, y.opd⟩]) (by unfold simLen; exact hr) (fun z hz => hR z (by simp [hz])) (by omega)
      obtain ⟨q, r, hqr⟩ : ∃ q r, ys.map lineI ++ [[]] = q :: r := by
        cases ys with
        | nil => exact ⟨_, _, rfl⟩
        | cons z zs => exact ⟨_, _, rfl⟩
      rw [List.map_cons, List.cons_append]
      rw [hqr] at ih ⊢
      rw [scan, hy]
      dsimp only
      rw [if_neg (by omega), ih]
      have e2 : (⟨size, y.op, y.opd⟩ : Ins) = y := by
        obtain ⟨off, op, opd⟩ := y
        simp only at hx
        subst hx
        rfl
      rw [e2]
      simp
theorem toOf_lt {l : List Ins} (hF : Form l) {i : Nat} (hi : i < l.length) (hl : leadOp l[i]!.op = true) : toOf l l[i]! < l.length ∧ l[toOf l l[i]!]!.off = l[i]!.opd := idxOf_some (hF.to hi hl)
theorem mem_at {l : List Ins} {x : Ins} (h : x ∈ l) : ∃ i, i < l.length ∧ l[i]! = x := by
  obtain ⟨i, hi, rfl⟩ := List.getElem_of_mem h
  exact ⟨i, hi, getElem!_pos l i hi⟩
theorem map_at (f : Ins → Ins) {l : List Ins} {i : Nat} (h : i < l.length) : (l.map f)[i]! = f l[i]! := by
  rw [getElem!_pos _ i (by simpa using h), List.getElem_map, getElem!_pos l i h]
theorem longOp_lead {o : Nat} (h : leadOp o = true) : longOp o = true := by
  simp only [leadOp, longOp, Bool.or_eq_true, beq_iff_eq] at h ⊢
  omega
/-- P8.4: the text of a program that is well formed is parsed into the program. -/
theorem parse_text {code : List UInt8} {l : List Ins} (h : formed code = some l) : parse8 (textT l) = (code, 0, 0) := by
  obtain ⟨hN, hc⟩ := formed_neat h
  obtain ⟨hne, hlen, hdec, hL, hF⟩ := formed_parts h
  have hl0 : l ≠ [] := by
    rintro rfl
    exact hne hc
  have hll : l.length ≤ 1024 := by
    have h1 := (evSeq_dec _ code (Nat.le_refl _) 0).1 l hdec
    have h2 := evSeq_len _ code (Nat.le_refl _) 0
    rw [h1, List.length_map] at h2
    omega
  have hout : ∀ x ∈ l, outN l x ≤ 65535 ∧ (longOp x.op = false → outN l x = 0) := by
    intro x hx
    obtain ⟨i, hi, rfl⟩ := mem_at hx
    unfold outN
    cases hld : leadOp l[i]!.op with
    | true =>
      have := (toOf_lt hF hi hld).1
      refine ⟨by rw [if_pos rfl]; omega, fun hh => ?_⟩
      rw [longOp_lead hld] at hh
      cases hh
    | false =>
      have := hN _ hx
      refine ⟨?_, fun hh => ?_⟩
      · have := this.opd
        simp only [Bool.false_eq_true, if_false]
        omega
      · simp only [Bool.false_eq_true, if_false]
        exact this.zero hh
  have hsc : scan (cutAll 10 (textT l)) 0 [] = .inr (numbered l) := by
    rw [text_lines, cut_lines]
    · have := scan_lines (numbered l) 0 [] (laid_map (numF l) (fun _ => rfl) (fun _ => rfl) hL) (fun y hy => ?_) ?_
      · simpa using this
      · obtain ⟨x, hx, rfl⟩ := List.mem_map.1 hy
        exact readT_line (hN x hx).lt (hout x hx).1 (hout x hx).2
      · unfold numbered
        rw [sizeL_map (numF l) (fun _ => rfl), ← flatB_len, ← hc]
        omega
    · intro p hp
      obtain ⟨y, hy, rfl⟩ := List.mem_map.1 hp
      obtain ⟨x, hx, rfl⟩ := List.mem_map.1 hy
      exact lineT_no (hN x hx).lt
  have hnl : (numbered l).length = l.length := by simp [numbered]
  have hbad : badLead (numbered l) = none := by
    unfold badLead
    rw [List.findIdx?_eq_none_iff]
    intro y hy
    obtain ⟨x, hx, rfl⟩ := List.mem_map.1 hy
    obtain ⟨i, hi, rfl⟩ := mem_at hx
    show (leadOp l[i]!.op && decide ((numbered l).length ≤ outN l l[i]!)) = false
    cases hld : leadOp l[i]!.op with
    | false => rfl
    | true =>
      have := (toOf_lt hF hi hld).1
      have e : outN l l[i]! = toOf l l[i]! := by unfold outN; rw [hld]; rfl
      rw [e, hnl, Bool.true_and, decide_eq_false_iff_not]
      omega
  have hcode : codeB (numbered l) = code := by
    conv => rhs; rw [hc]
    unfold codeB flatB
    conv => lhs; unfold numbered
    rw [List.flatMap_map]
    rw [List.flatMap_def, List.flatMap_def]
    congr 1
    refine List.map_congr_left fun x hx => ?_
    obtain ⟨i, hi, rfl⟩ := mem_at hx
    show simB l[i]!.op (if leadOp l[i]!.op then ((l.map (numF l))[outN l l[i]!]!).off else outN l l[i]!) = simB l[i]!.op l[i]!.opd
    cases hld : leadOp l[i]!.op with
    | false =>
      have e : outN l l[i]! = l[i]!.opd := by unfold outN; rw [hld]; rfl
      rw [e]
      rfl
    | true =>
      have e : outN l l[i]! = toOf l l[i]! := by unfold outN; rw [hld]; rfl
      obtain ⟨h1, h2⟩ := toOf_lt hF hi hld
      rw [e, if_pos rfl]
      congr 1
      rw [← h2]
      have := map_at (numF l) h1
      rw [this]
      rfl
  unfold parse8
  rw [hsc]
  dsimp only
  rw [if_neg (by intro e; apply hl0; simpa [numbered] using e), hbad, hcode]
theorem laid_off : ∀ {l : List Ins} {a : Nat} (_ : Laid a l) {i : Nat} (_ : i < l.length) {m : Nat} (_ : a + sizeL l ≤ m), l[i]!.off < m
  | [], _, _, i, hi, _, _ => by simp at hi
  | x :: l, a, hL, i, hi, m, hm => by
    cases hL with
    | cons hx ho hr =>
      have e : sizeL (x :: l) = simLen x.op + sizeL l := by simp [sizeL]
      rw [e] at hm
      have h1 : 1 ≤ simLen x.op := by unfold simLen; split <;> omega
      cases i with
      | zero => rw [List.getElem!_cons_zero]; omega
      | succ i =>
        rw [List.getElem!_cons_succ]
        exact laid_off hr (by simpa using hi) (by unfold simLen at hm; omega)
/-- What scan has accepted. -/
theorem scan_inr : ∀ (ps : List (List UInt8)) (size : Nat) (acc l : List Ins), ps ≠ [] → scan ps size acc = .inr l → ∃ ys, l = acc ++ ys ∧ ps = ys.map lineI ++ [[]] ∧ Laid size ys ∧ (∀ y ∈ ys, Neat y) ∧ (ys = [] ∨ size + sizeL ys ≤ 1024)
  | [], _, _, _, h, _ => absurd rfl h
  | [p], size, acc, l, _, h => by
    rw [scan] at h
    split at h
    · rename_i hp
      injection h with h
      exact ⟨[], by simp [h], by simp [hp], .nil _, by simp, .inl rfl⟩
    · cases h
  | p :: q :: r, size, acc, l, _, h => by
    rw [scan] at h
    cases hp : readT p with
    | none => rw [hp] at h; cases h
    | some x =>
      obtain ⟨o, n⟩ := x
      rw [hp] at h
      dsimp only at h
      split at h
      · cases h
      · rename_i hs
        obtain ⟨ys, h1, h2, h3, h4, h5⟩ := scan_inr (q :: r) _ _ _ (by simp) h
        obtain ⟨q1, q2, q3, q4⟩ := readT_some hp
        refine ⟨⟨size, o, n⟩ :: ys, by simp [h1], by rw [h2, q1]; rfl, .cons rfl q2 (by have := h3; unfold simLen at this; exact this), fun y hy => ?_, .inr ?_⟩
        · rcases List.mem_cons.1 hy with rfl | hy
          · exact ⟨q2, by show n < 65536; omega, q4⟩
          · exact h4 y hy
        · have e : sizeL ((⟨size, o, n⟩ : Ins) :: ys) = simLen o + sizeL ys := by simp [sizeL]
          rw [e]
          rcases h5 with rfl | h5
          · simp [sizeL]; omega
          · omega
def resF (l : List Ins) (x : Ins) : Ins := ⟨x.off, x.op, if leadOp x.op then l[x.opd]!.off else x.opd⟩
def resolved (l : List Ins) : List Ins := l.map (resF l)
/-- P8.4: what is parsed is well formed, and its text is what was parsed. -/
theorem text_parse {s code : List UInt8} {k : Nat} (h : parse8 s = (code, k, 0)) : k = 0 ∧ ∃ l, formed code = some l ∧ textT l = s := by
  unfold parse8 at h
  cases hs : scan (cutAll 10 s) 0 [] with
  | inl k' => rw [hs] at h; injection h with _ h; injection h with _ h; cases h
  | inr ys =>
    rw [hs] at h
    dsimp only at h
    split at h
    · injection h with _ h; injection h with _ h; cases h
    · rename_i hne
      cases hb : badLead ys with
      | some i => rw [hb] at h; injection h with _ h; injection h with _ h; cases h
      | none =>
        rw [hb] at h
        injection h with h1 h
        injection h with h2 _
        subst h1 h2
        obtain ⟨ys', e1, e2, hL, hN, hsz⟩ := scan_inr _ _ _ _ (cutAll_ne 10 s) hs
        rw [List.nil_append] at e1
        subst e1
        have hsz' : sizeL ys ≤ 1024 := by
          rcases hsz with h | h
          · exact absurd h hne
          · omega
        unfold badLead at hb
        rw [List.findIdx?_eq_none_iff] at hb
        have hlead : ∀ x ∈ ys, leadOp x.op = true → x.opd < ys.length := fun x hx hl => by
          have := hb x hx
          rw [hl, Bool.true_and] at this
          simpa using this
        have hL2 : Laid 0 (resolved ys) := laid_map (resF ys) (fun _ => rfl) (fun _ => rfl) hL
        have hlen2 : (resolved ys).length = ys.length := by simp [resolved]
        have hres : ∀ i, i < ys.length → (resolved ys)[i]! = ⟨ys[i]!.off, ys[i]!.op, if leadOp ys[i]!.op then ys[ys[i]!.opd]!.off else ys[i]!.opd⟩ := fun i hi => map_at _ hi
        have hoff : ∀ i, i < ys.length → ys[i]!.off < 1024 := fun i hi => laid_off hL hi (by omega)
        have hcode : codeB ys = flatB (resolved ys) := by
          unfold codeB flatB resolved
          rw [List.flatMap_map]
          rfl
        have hN2 : ∀ x ∈ resolved ys, Neat x := by
          intro x hx
          obtain ⟨y, hy, rfl⟩ := List.mem_map.1 hx
          have hn := hN y hy
          refine ⟨hn.lt, ?_, fun hh => ?_⟩
          · dsimp only [resF]
            split
            · rename_i hl
              have := hoff _ (hlead y hy hl)
              omega
            · exact hn.opd
          · dsimp only [resF] at hh ⊢
            split
            · rename_i hl
              rw [longOp_lead hl] at hh
              cases hh
            · exact hn.zero hh
        have hdec : dec 0 (codeB ys) = some (resolved ys) := by
          have := dec_flat (resolved ys) 0 [] hL2 hN2
          rw [List.append_nil] at this
          rw [hcode, this, dec]
          simp
        have hidx : ∀ i, i < ys.length → leadOp ys[i]!.op = true → idxOf (resolved ys) (resolved ys)[i]!.opd = some ys[i]!.opd := fun i hi hl => by
          have hj := hlead ys[i]! (by rw [getElem!_pos ys i hi]; exact List.getElem_mem hi) hl
          have := hL2.idx (j := ys[i]!.opd) (by rw [hlen2]; exact hj)
          rw [hres _ hj] at this
          rw [hres _ hi]
          dsimp only at this ⊢
          rw [if_pos hl]
          exact this
        refine ⟨rfl, resolved ys, formed_mk ?_ ?_ hdec (fun i hi hl => ?_), ?_⟩
        · intro e
          rw [e, dec] at hdec
          injection hdec with hdec
          apply hne
          have := congrArg List.length hdec
          rw [hlen2] at this
          exact List.length_eq_zero_iff.1 this.symm
        · rw [hcode, flatB_len]
          unfold resolved
          rw [sizeL_map (resF ys) (fun _ => rfl)]
          exact hsz'
        · rw [hlen2] at hi
          rw [hres i hi] at hl
          exact ⟨_, hidx i hi hl⟩
        · have hs2 : s = (ys.map lineI).flatMap fun p => p ++ [10] := by
            rw [← glue_lines, ← e2, glue_cutAll]
          rw [hs2, text_lines]
          congr 1
          unfold numbered
          rw [List.map_map]
          conv => lhs; unfold resolved
          rw [List.map_map]
          refine List.map_congr_left fun y hy => ?_
          obtain ⟨i, hi, rfl⟩ := mem_at hy
          show lineT ys[i]!.op (outN (resolved ys) _) = lineT ys[i]!.op ys[i]!.opd
          congr 1
          have hr := hres i hi
          show outN (resolved ys) (resF ys ys[i]!) = ys[i]!.opd
          rw [show resF ys ys[i]! = (resolved ys)[i]! from hr.symm]
          have ho : (resolved ys)[i]!.op = ys[i]!.op := by rw [hr]
          unfold outN
          rw [ho]
          cases hl : leadOp ys[i]!.op with
          | false =>
            rw [if_neg (by decide)]
            rw [hr]
            dsimp only
            rw [hl, if_neg (by decide)]
          | true =>
            rw [if_pos rfl]
            unfold toOf
            rw [ho, hl, if_pos rfl, hidx i hi hl]
            rfl
end Go.Proofs.YtainohbfcehpoaaDoor
