/-
  Formats of chapter 4: what bent changes.
  Formats of chapter 4: bent, walked.
-/
import Derived.Test.YtcpfmlaipejfpaaGreatDoorKM
import Derived.Test.YtcpfmlaipejfpaaGreatDoorKC
import Derived.Test.YtcpfmlaipejfpaaGreatDoorKS
namespace Go.Proofs.YtcpfmlaipejfpaaGreatDoor
open Go.RowKit Go.Shelf

theorem few_in {l : List Fmt} (h : FmtAny l) : FmtIn (fewL l) := by
  unfold fewL
  have hm : ∀ f ∈ (l.take 62).map cutFmt, ∃ g ∈ l, f = cutFmt g := fun f hf => by
    obtain ⟨g, hg, rfl⟩ := List.mem_map.1 hf
    exact ⟨g, List.mem_of_mem_take hg, rfl⟩
  refine ⟨by rw [List.length_map, List.length_take]; omega, fun f hf => ?_, fun f hf => ?_, fun f hf x hx => ?_⟩
  · obtain ⟨g, hg, rfl⟩ := hm f hf
    exact h.id g hg
  · obtain ⟨g, hg, rfl⟩ := hm f hf
    show ((g.flds.take 18).map cutF).length ≤ 1000000
    rw [List.length_map, List.length_take]
    omega
  · obtain ⟨g, hg, rfl⟩ := hm f hf
    have hx' : x ∈ (g.flds.take 18).map cutF := hx
    obtain ⟨y, hy, rfl⟩ := List.mem_map.1 hx'
    have hy2 := h.ok g hg y (List.mem_of_mem_take hy)
    refine ⟨hy2.k, hy2.n, hy2.m, ?_⟩
    show (y.text.take 20).length ≤ 1000000000
    rw [List.length_take]
    omega
theorem fget_set {α : Type} [Inhabited α] {l : List α} {i j : Nat} {x : α} (h : i < l.length) : (l.set i x)[j]! = if j = i then x else l[j]! := by
  by_cases hj : j < l.length
  · rw [getElem!_pos _ j (by simpa using hj), getElem!_pos l j hj, List.getElem_set]
    by_cases e : i = j
    · rw [if_pos e, if_pos e.symm]
    · rw [if_neg e, if_neg fun x => e x.symm]
  · rw [if_neg (by omega), getElem!_neg _ j (by simpa using hj), getElem!_neg l j hj]
theorem fmtC_ids : ∀ (l : List Fmt) (vs : List Value) (i : Nat) (fs : List Fld), i < l.length → fmtC (l.set i ⟨l[i]!.id, fs⟩) vs = fmtC l vs
  | [], _, i, _, h => absurd h (Nat.not_lt_zero _)
  | f :: r, [], i, fs, _ => by cases i <;> rfl
  | f :: r, v :: vs, 0, fs, _ => rfl
  | f :: r, v :: vs, i + 1, fs, h => by
    have ih := fmtC_ids r vs i fs (by simpa using h)
    show Value.int .i64 f.id :: v :: fmtC (r.set i ⟨r[i]!.id, fs⟩) vs = _
    rw [ih]
    rfl
theorem fmtC_id : ∀ (l : List Fmt) (vs : List Value) (i : Nat) (z : Int), vs.length = l.length → i < l.length → fmtC (l.set i ⟨z, l[i]!.flds⟩) vs = (fmtC l vs).set (i * 2) (.int .i64 z)
  | [], _, i, _, _, h => absurd h (Nat.not_lt_zero _)
  | f :: r, v :: vs, 0, z, _, _ => rfl
  | f :: r, v :: vs, i + 1, z, hl, h => by
    have ih := fmtC_id r vs i z (by simpa using hl) (by simpa using h)
    rw [show (i + 1) * 2 = i * 2 + 1 + 1 by omega]
    show Value.int .i64 f.id :: v :: fmtC (r.set i ⟨z, r[i]!.flds⟩) vs = _
    rw [ih]
    rfl
theorem fmtC_fv : ∀ (l : List Fmt) (vs : List Value) (i : Nat) (fs : List Fld) (u : Value), vs.length = l.length → i < l.length → fmtC (l.set i ⟨l[i]!.id, fs⟩) (vs.set i u) = (fmtC l vs).set (i * 2 + 1) u
  | [], _, i, _, _, _, h => absurd h (Nat.not_lt_zero _)
  | f :: r, v :: vs, 0, fs, u, _, _ => rfl
  | f :: r, v :: vs, i + 1, fs, u, hl, h => by
    have ih := fmtC_fv r vs i fs u (by simpa using hl) (by simpa using h)
    rw [show (i + 1) * 2 + 1 = i * 2 + 1 + 1 + 1 by omega]
    show Value.int .i64 f.id :: v :: fmtC (r.set i ⟨r[i]!.id, fs⟩) (vs.set i u) = _
    rw [ih]
    rfl
theorem fldL_put : ∀ (fs : List Fld) (k j : Nat) (u : Value) (g : Fld), k < fs.length → j < 4 → (fldC fs[k]!).set j u = fldC g → (fldL fs).set (k * 4 + j) u = fldL (fs.set k g)
  | [], k, _, _, _, h, _, _ => absurd h (Nat.not_lt_zero _)
  | f :: r, 0, j, u, g, _, hj, he => by
    have he' : (fldC f).set j u = fldC g := he
    unfold fldL
    rw [List.set_cons_zero, List.flatMap_cons, List.flatMap_cons, Nat.zero_mul, Nat.zero_add, List.set_append_left _ _ (by simpa [fldC] using hj), he']
  | f :: r, k + 1, j, u, g, h, hj, he => by
    have ih := fldL_put r k j u g (by simpa using h) hj he
    unfold fldL at ih ⊢
    rw [List.set_cons_succ, List.flatMap_cons, List.flatMap_cons, ← ih, List.set_append_right _ _ (by simp [fldC]; omega)]
    congr 2
    simp [fldC]
    omega
theorem set_other_type {w : World} {B B' n n' s s' d j : Nat} {e e' : TypeId} {v : Value} {c : Nat} {u : Value} {xs xs' : List Value} (h : w.ownsRow B e s v n xs) (hd : w.ownsRow B' e' s' (.slice (some ⟨d, 0, none⟩) n' c) n' xs') (hne : e ≠ e') : (w.setCell ⟨d, j, none⟩ u).ownsRow B e s v n xs := by
  refine ownsRow_setCell_other h (fun e1 => ?_) _
  obtain ⟨_, _, cur, h2⟩ := own_block h e1
  obtain ⟨_, _, cur', h3⟩ := own_block hd rfl
  rw [h3] at h2
  injection h2 with h2
  injection h2 with _ h2
  exact hne h2.symm
theorem MkL.fld {B d c i k j : Nat} {w : World} {lv : Value} {fvs : List Value} {l : List Fmt} {u : Value} {g : Fld} (h : FewL B w lv fvs l) (hi : i < l.length) (hk : k < l[i]!.flds.length) (hj : j < 4) (hv : fvs[i]! = .slice (some ⟨d, 0, none⟩) l[i]!.flds.length c) (hg : (fldC l[i]!.flds[k]!).set j u = fldC g) :
    MkL B (w.setCell ⟨d, k * 4 + j, none⟩ u) lv fvs (l.set i ⟨l[i]!.id, l[i]!.flds.set k g⟩) := by
  have hr := h.of_.rows i hi
  rw [hv] at hr
  refine ⟨by rw [List.length_set]; exact h.of_.fl, ?_, fun i' hi' => ?_⟩
  · rw [fmtC_ids l fvs i _ hi, List.length_set]
    exact set_other_type h.of_.row hr (by decide)
  · rw [List.length_set] at hi'
    rw [fget_set hi]
    by_cases e : i' = i
    · rw [if_pos e, e, hv]
      dsimp only
      rw [List.length_set, ← fldL_put _ _ _ _ _ hk hj hg]
      exact own_setAt hr (by omega)
    · rw [if_neg e]
      have o := h.of_.rows i' hi'
      refine ownsRow_setCell_other o (fun e1 => ?_) _
      dsimp only at e1
      have hfl := h.of_.fl
      rcases Nat.lt_or_gt_of_ne e with q | q
      · exact h.apart i' i d q (by omega) e1 (by rw [hv]; rfl)
      · exact h.apart i i' d q (by omega) (by rw [hv]; rfl) e1
theorem MkL.num {B g c i : Nat} {w : World} {fvs : List Value} {l : List Fmt} (h : MkL B w (.slice (some ⟨g, 0, none⟩) l.length c) fvs l) (hi : i < l.length) (z : Int) :
    MkL B (w.setCell ⟨g, i * 2, none⟩ (.int .i64 z)) (.slice (some ⟨g, 0, none⟩) l.length c) fvs (l.set i ⟨z, l[i]!.flds⟩) := by
  refine ⟨by rw [List.length_set]; exact h.fl, ?_, fun i' hi' => ?_⟩
  · rw [fmtC_id l fvs i z h.fl hi, List.length_set]
    exact own_setAt h.row (by omega)
  · rw [List.length_set] at hi'
    have e : (l.set i ⟨z, l[i]!.flds⟩)[i']!.flds = l[i']!.flds := by
      rw [fget_set hi]
      split
      · rename_i e; rw [e]
      · rfl
    rw [e]
    exact set_other_type (h.rows i' hi') h.row (by decide)
theorem MkL.fv {B g c i : Nat} {w : World} {fvs : List Value} {l : List Fmt} {u : Value} {fs : List Fld} (hl : fvs.length = l.length) (hrow : w.ownsRow B 34 2 (.slice (some ⟨g, 0, none⟩) l.length c) l.length (fmtC l fvs)) (hrows : ∀ i', i' < l.length → i' ≠ i → w.ownsRow B 55 4 fvs[i']! l[i']!.flds.length (fldL l[i']!.flds)) (hi : i < l.length) (hu : w.ownsRow B 55 4 u fs.length (fldL fs)) :
    MkL B (w.setCell ⟨g, i * 2 + 1, none⟩ u) (.slice (some ⟨g, 0, none⟩) l.length c) (fvs.set i u) (l.set i ⟨l[i]!.id, fs⟩) := by
  refine ⟨by rw [List.length_set, List.length_set]; exact hl, ?_, fun i' hi' => ?_⟩
  · rw [fmtC_fv l fvs i fs u hl hi, List.length_set]
    exact own_setAt hrow (by omega)
  · rw [List.length_set] at hi'
    rw [fget_set hi, fget_set (by omega)]
    by_cases e : i' = i
    · rw [if_pos e, if_pos e]
      exact set_other_type hu hrow (by decide)
    · rw [if_neg e, if_neg e]
      exact set_other_type (hrows i' hi' e) hrow (by decide)
theorem in_set {l : List Fmt} {i : Nat} {f : Fmt} (h : FmtIn l) (_ : i < l.length) (hid : I64 f.id) (hf : f.flds.length ≤ 1000000) (hok : ∀ x ∈ f.flds, FldOk x) : FmtIn (l.set i f) := by
  refine ⟨by rw [List.length_set]; exact h.len, fun g hg => ?_, fun g hg => ?_, fun g hg => ?_⟩
  · rcases List.mem_or_eq_of_mem_set hg with hg | rfl
    · exact h.id g hg
    · exact hid
  · rcases List.mem_or_eq_of_mem_set hg with hg | rfl
    · exact h.flen g hg
    · exact hf
  · rcases List.mem_or_eq_of_mem_set hg with hg | rfl
    · exact h.ok g hg
    · exact hok
theorem own_front {w : World} {B d n c p : Nat} {fs : List Fld} (h : w.ownsRow B 55 4 (.slice (some ⟨d, 0, none⟩) n c) fs.length (fldL fs)) (hp : p ≤ fs.length) : w.ownsRow B 55 4 (.slice (some ⟨d, 0, none⟩) p c) (fs.take p).length (fldL (fs.take p)) := by
  obtain ⟨hl, q⟩ := h
  rcases q with ⟨q, _⟩ | ⟨g, cap, cur, e, h1, h2, h3, h4, h5, h6⟩
  · cases q
  · injection e with e1 e2 e3
    injection e1 with e1
    injection e1 with e1 _
    subst e1 e2 e3
    have hpl : (fs.take p).length = p := by rw [List.length_take]; omega
    refine ⟨fldL_len _, .inr ⟨d, c, cur, by rw [hpl], h1, h2, by omega, h4, h5, ?_⟩⟩
    have : fldL (fs.take p) = (fldL fs).take (p * 4) := by
      have hpl' : (fldL (fs.take p)).length = p * 4 := by rw [fldL_len, hpl]
      have e : fldL fs = fldL (fs.take p) ++ fldL (fs.drop p) := by
        conv => lhs; rw [← List.take_append_drop p fs]
        unfold fldL
        rw [List.flatMap_append]
      rw [e, List.take_left' hpl']
    rw [this, ← h6, List.take_take, hpl]
    congr 1
    omega
theorem in_fld {l : List Fmt} {i k : Nat} {g : Fld} (h : FmtIn l) (hi : i < l.length) (hg : FldOk g) : FmtIn (l.set i ⟨l[i]!.id, l[i]!.flds.set k g⟩) := by
  have hm : l[i]! ∈ l := by rw [getElem!_pos l i hi]; exact List.getElem_mem hi
  refine in_set h hi (show I64 l[i]!.id from h.id _ hm) (by dsimp only; rw [List.length_set]; exact h.flen _ hm) fun x hx => ?_
  rcases List.mem_or_eq_of_mem_set hx with hx | rfl
  · exact h.ok _ hm x hx
  · exact hg
theorem FewL.fldF {B d c i k j : Nat} {w : World} {lv : Value} {fvs : List Value} {l : List Fmt} {u : Value} {g : Fld} (h : FewL B w lv fvs l) (hin : FmtIn l) (hi : i < l.length) (hk : k < l[i]!.flds.length) (hj : j < 4) (hv : fvs[i]! = .slice (some ⟨d, 0, none⟩) l[i]!.flds.length c) (hg : (fldC l[i]!.flds[k]!).set j u = fldC g) (hok : FldOk g) :
    ∃ L, Fmts (w.setCell ⟨d, k * 4 + j, none⟩ u) lv L := ⟨_, (MkL.fld h hi hk hj hv hg).fmts (in_fld hin hi hok)⟩
structure BentAt (B : Nat) (w : World) (lv : Value) (fvs : List Value) (l : List Fmt) (i : Nat) (g c d cc : Nat) : Prop where
  lv : lv = .slice (some ⟨g, 0, none⟩) l.length c
  fv : fvs[i]! = .slice (some ⟨d, 0, none⟩) l[i]!.flds.length cc
  ne : g ≠ d
  gB : B ≤ g
  dB : B ≤ d
  gl : g < w.heap.size
  dl : d < w.heap.size
  cap : l[i]!.flds.length ≤ cc ∧ cc ≤ maxLen
  x0 : w.cell? ⟨g, i * 2, none⟩ = some (.int .i64 l[i]!.id)
  x1 : w.cell? ⟨g, i * 2 + 1, none⟩ = some (.slice (some ⟨d, 0, none⟩) l[i]!.flds.length cc)
  gf : ∀ j, w.frozen? ⟨g, j, none⟩ = false
  df : ∀ j, w.frozen? ⟨d, j, none⟩ = false
  z : ∀ k, k < l[i]!.flds.length → w.cell? ⟨d, k * 4, none⟩ = some (.int .i64 l[i]!.flds[k]!.kind) ∧ w.cell? ⟨d, k * 4 + 1, none⟩ = some (.int .i64 l[i]!.flds[k]!.n) ∧ w.cell? ⟨d, k * 4 + 2, none⟩ = some (.int .i64 l[i]!.flds[k]!.frm) ∧ w.cell? ⟨d, k * 4 + 3, none⟩ = some (.string (str l[i]!.flds[k]!.text))
theorem FewL.bent {B i : Nat} {w : World} {lv : Value} {fvs : List Value} {l : List Fmt} (h : FewL B w lv fvs l) (hi : i < l.length) (hf : 0 < l[i]!.flds.length) : ∃ g c d cc, BentAt B w lv fvs l i g c d cc := by
  obtain ⟨g, c, h1, h2, _, _, h5, h6, h7⟩ := own_cells3 h.of_.row (by omega)
  obtain ⟨d, cc, k1, k2, k3, k4, k5, k6, k7⟩ := own_cells3 (h.of_.rows i hi) hf
  obtain ⟨p1, p2⟩ := fmtC_at l fvs h.of_.fl i hi
  have hne : g ≠ d := fun e => by
    obtain ⟨_, _, cur, e1⟩ := own_block h.of_.row (g := g) (by rw [h1]; rfl)
    obtain ⟨_, _, cur', e2⟩ := own_block (h.of_.rows i hi) (g := d) (by rw [k1]; rfl)
    rw [e, e2] at e1
    injection e1 with e1
    injection e1 with _ e1
    exact absurd e1 (by decide)
  refine ⟨g, c, d, cc, h1, k1, hne, h2, k2, h5, k5, ⟨k3, k4⟩, h6 _ _ p1, by rw [← k1]; exact h6 _ _ p2, h7, k7, fun k hk => ?_⟩
  have q := fldCells (o := 0) (b := d) (fun j u hu => by rw [Nat.zero_add]; exact k6 j u hu) hk
  rw [Nat.zero_add] at q
  exact q
theorem FewL.below {B : Nat} {w w' : World} {lv : Value} {fvs : List Value} {l : List Fmt} (h : FewL B w lv fvs l) (hb : Below w.heap.size w w') : FewL B w' lv fvs l := ⟨h.of_.below hb, h.apart⟩
theorem BentAt.below {B i g c d cc : Nat} {w w' : World} {lv : Value} {fvs : List Value} {l : List Fmt} (h : BentAt B w lv fvs l i g c d cc) (hb : Below w.heap.size w w') : BentAt B w' lv fvs l i g c d cc :=
  ⟨h.lv, h.fv, h.ne, h.gB, h.dB, Nat.lt_of_lt_of_le h.gl hb.size, Nat.lt_of_lt_of_le h.dl hb.size, h.cap, (hb.cell (p := ⟨g, i * 2, none⟩) h.gl).trans h.x0, (hb.cell (p := ⟨g, i * 2 + 1, none⟩) h.gl).trans h.x1, fun j => (hb.frozen (p := ⟨g, j, none⟩) h.gl).trans (h.gf j), fun j => (hb.frozen (p := ⟨d, j, none⟩) h.dl).trans (h.df j), fun k hk => by
    obtain ⟨a, b, c', e⟩ := h.z k hk
    exact ⟨(hb.cell (p := ⟨d, k * 4, none⟩) h.dl).trans a, (hb.cell (p := ⟨d, k * 4 + 1, none⟩) h.dl).trans b, (hb.cell (p := ⟨d, k * 4 + 2, none⟩) h.dl).trans c', (hb.cell (p := ⟨d, k * 4 + 3, none⟩) h.dl).trans e⟩⟩
theorem bent_app {B i g c d cc m b : Nat} {w X : World} {fvs : List Value} {l : List Fmt} {f : Fld} (h : FewL B w (.slice (some ⟨g, 0, none⟩) l.length c) fvs l) (hin : FmtIn l) (hbt : BentAt B w (.slice (some ⟨g, 0, none⟩) l.length c) fvs l i g c d cc) (hi : i < l.length) (hm : m = l[i]!.flds.length) (hf : FldOk f) (hm18 : m ≤ 18) (hX : Below w.heap.size w X) (hA : Arr X b 55 (fldC f)) (hBw : B ≤ w.heap.size) :
    ∃ a6 n6 c6 w6, (Builtin.append_ #[32, 32] 32 #[.slice (some ⟨d, 0, none⟩) m cc, .slice (some ⟨b, 0, none⟩) 1 1]).run Tryz.prog X = .ok (.slice a6 n6 c6) w6 ∧ w6.cell? ⟨g, i * 2 + 1, none⟩ = some (.slice (some ⟨d, 0, none⟩) m cc) ∧ w6.frozen? ⟨g, i * 2 + 1, none⟩ = false ∧ Below B w w6 ∧ ∃ L', Fmts (w6.setCell ⟨g, i * 2 + 1, none⟩ (.slice a6 n6 c6)) (.slice (some ⟨g, 0, none⟩) l.length c) L' := by
  have hF := h.below hX
  have hG := hbt.below hX
  have hrow := hF.of_.rows i hi
  have hfv := hG.fv
  rw [hfv] at hrow
  have hBX := Nat.le_trans hBw hX.size
  obtain ⟨v6, w6, hrun, hr, hg, _⟩ := append_fld X B _ _ f hrow b hA (by omega) hBX
  obtain ⟨a6, c6, rfl⟩ := own_val hr
  have hg' : X.grownBy w6 (some d) := hg
  have hne : some g ≠ some d := fun e => hG.ne (Option.some.inj e)
  have hgl := hG.gl
  rw [← hm] at hrun
  refine ⟨a6, _, c6, w6, hrun, ?_, ?_, (hX.mono hBw).grown hg' hBX (fun j hj => by injection hj with hj; subst hj; exact hG.dB), ?_⟩
  · rw [hm, ← hG.x1]
    simp only [World.cell?, hg'.block g hgl hne]
  · rw [← hG.gf (i * 2 + 1)]
    simp only [World.frozen?, hg'.block g hgl hne]
  · have hM : MkL B (w6.setCell ⟨g, i * 2 + 1, none⟩ _) (.slice (some ⟨g, 0, none⟩) l.length c) (fvs.set i _) (l.set i ⟨l[i]!.id, l[i]!.flds ++ [f]⟩) := MkL.fv h.of_.fl (own_apart hF.of_.row (hF.of_.rows i hi) (by decide) (by rw [hfv]; exact hg)) (fun i' hi' hne' => (hF.of_.rows i' hi').kept hg' (.inr fun e => by
      have hfl := h.of_.fl
      have e2 : fvs[i]!.ownBlock = some d := by rw [hfv]; rfl
      rcases Nat.lt_or_gt_of_ne hne' with q | q
      · exact h.apart i' i d q (by omega) e e2
      · exact h.apart i i' d q (by omega) e2 e)) hi hr
    have hmm : l[i]! ∈ l := by rw [getElem!_pos l i hi]; exact List.getElem_mem hi
    refine ⟨_, hM.fmts (in_set hin hi (show I64 l[i]!.id from hin.id _ hmm) ?_ fun x hx => ?_)⟩
    · show (l[i]!.flds ++ [f]).length ≤ 1000000
      rw [List.length_append, List.length_singleton]
      omega
    · have hx' : x ∈ l[i]!.flds ++ [f] := hx
      rcases List.mem_append.1 hx' with q | q
      · exact hin.ok _ hmm x q
      · rw [List.mem_singleton.1 q]
        exact hf
theorem bent_cut {B i g c d cc r : Nat} {w : World} {fvs : List Value} {l : List Fmt} (h : FewL B w (.slice (some ⟨g, 0, none⟩) l.length c) fvs l) (hin : FmtIn l) (hbt : BentAt B w (.slice (some ⟨g, 0, none⟩) l.length c) fvs l i g c d cc) (hi : i < l.length) (hr : r ≤ l[i]!.flds.length) :
    ∃ L', Fmts (w.setCell ⟨g, i * 2 + 1, none⟩ (.slice (some ⟨d, 0, none⟩) r cc)) (.slice (some ⟨g, 0, none⟩) l.length c) L' := by
  have hrow := h.of_.rows i hi
  rw [hbt.fv] at hrow
  have hmm : l[i]! ∈ l := by rw [getElem!_pos l i hi]; exact List.getElem_mem hi
  have hM := MkL.fv h.of_.fl h.of_.row (fun i' hi' _ => h.of_.rows i' hi') hi (own_front hrow hr)
  refine ⟨_, hM.fmts (in_set hin hi (show I64 l[i]!.id from hin.id _ hmm) ?_ fun x hx => ?_)⟩
  · show (l[i]!.flds.take r).length ≤ 1000000
    have := hin.flen _ hmm
    rw [List.length_take]
    omega
  · have hx' : x ∈ l[i]!.flds.take r := hx
    exact hin.ok _ hmm x (List.mem_of_mem_take hx')
end Go.Proofs.YtcpfmlaipejfpaaGreatDoor
namespace Go.Proofs.YtcpfmlaipejfpaaGreatDoor
open Go.RowKit Go.Shelf Go.Maps

attribute [local go_sem] Oper.semAt_some

set_option maxRecDepth 100000 in
set_option maxHeartbeats 16000000 in
theorem bent_any (v : Value) (l : List Fmt) (z0 z1 z2 z3 z4 : Int) (w : World) (hv : FmtsAt w w.heap.size v l) (hA : FmtAny l) (hz : I64 z0 ∧ I64 z1 ∧ I64 z2 ∧ I64 z3 ∧ I64 z4) :
    Calls Tryz.prog 13 #[v, .agg #[.int .i64 z0, .int .i64 z1, .int .i64 z2, .int .i64 z3, .int .i64 z4]] w fun e w' => (∃ lv L, e = .returned lv ∧ Fmts w' lv L) ∧ Below w.heap.size w w' := by
  obtain ⟨i0, i1, i2, i3, i4⟩ := hz
  obtain ⟨W1, hW1⟩ : ∃ W1, W1 = w.alloc (.cells #[.int .i64 z0, .int .i64 z1, .int .i64 z2, .int .i64 z3, .int .i64 z4] 24) := ⟨_, rfl⟩
  have hb1 : Below w.heap.size w W1 := by rw [hW1]; exact (Below.refl _ _).alloc (Nat.le_refl _) _
  have hAz : Hid (Arr W1 w.heap.size 24 [.int .i64 z0, .int .i64 z1, .int .i64 z2, .int .i64 z3, .int .i64 z4]) := by rw [hW1]; exact Arr.new rfl rfl
  have hv1 := Lib.hid (hv.later hb1 (Nat.le_refl _))
  clear hv
  go_enter Tryz.func13, Tryz.ntmps13
  go_wp2_with fail
  rw [← hW1]
  have hAz2s : w.heap.size < W1.heap.size := by rw [hW1]; simp
  clear hW1
  refine (few_any v l W1 hv1.out hA).mono ?_
  rintro e w2 ⟨⟨lv, fvs, rfl, hF⟩, hb2⟩
  have hin := few_in hA
  have hll : (fewL l).length ≤ 62 := by unfold fewL; rw [List.length_map, List.length_take]; omega
  have hlf : ∀ f ∈ fewL l, f.flds.length ≤ 18 := by
    intro f hf
    unfold fewL at hf
    obtain ⟨g, hg, rfl⟩ := List.mem_map.1 hf
    show ((g.flds.take 18).map cutF).length ≤ 18
    rw [List.length_map, List.length_take]
    omega
  generalize fewL l = L at *
  have hAz2 := hAz.out.below hb2
  clear hAz hv1 hA
  have hsz := hb1.size
  have hB : Below w.heap.size w w2 := hb1.trans (hb2.mono hsz)
  have q0 := hAz2.cell (j := 0) rfl
  have q1 := hAz2.cell (j := 1) rfl
  have q2 := hAz2.cell (j := 2) rfl
  have q3 := hAz2.cell (j := 3) rfl
  have q4 := hAz2.cell (j := 4) rfl
  by_cases hL0 : L.length = 0
  · obtain ⟨la, lc, rfl⟩ := own_val hF.of_.row
    have hFm := Lib.hid (hF.of_.fmts hin)
    replace hF := Lib.hid hF
    rw [hL0] at hFm ⊢
    replace hL0 := Lib.hid hL0
    go_wp2_with fail
    go_ret
    exact ⟨⟨_, _, rfl, hFm.out⟩, hB⟩
  · have hp0 := Lib.hid fun W => pick_any z0 L.length W i0 (by omega) (by omega)
    have hpl := pickv_lt z0 L.length (by omega)
    generalize pickv z0 L.length = i at *
    have hfl := hlf L[i]! (by rw [getElem!_pos L i hpl]; exact List.getElem_mem hpl)
    have l0 : (0 : Int) ≤ (i : Int) := by omega
    have l1 : (i : Int) < (L.length : Int) := by omega
    have hld : decide ((L.length : Int) = 0) = false := decide_eq_false (by omega)
    have hle : ((L.length : Int) == 0) = false := beq_false_of_ne (by omega)
    replace hlf := Lib.hid hlf
    by_cases hf0 : 0 < L[i]!.flds.length
    · obtain ⟨g, c, d, cc, hbt⟩ := hF.bent hpl hf0
      obtain ⟨m, hm⟩ : ∃ m, m = L[i]!.flds.length := ⟨_, rfl⟩
      have hlv := hbt.lv
      subst hlv
      have x0 := hbt.x0
      have x1 := hbt.x1
      rw [← hm] at x1
      have hp1 := Lib.hid fun W => pick_any z1 m W i1 (by omega) (by omega)
      have hk := pickv_lt z1 m (by omega)
      generalize pickv z1 m = k at *
      have k0 : (0 : Int) ≤ (k : Int) := by omega
      have k1 : (k : Int) < (m : Int) := by omega
      have hme : ((m : Int) == 0) = false := beq_false_of_ne (by omega)
      have hmc : m ≤ cc ∧ cc ≤ maxLen := by rw [hm]; exact hbt.cap
      obtain ⟨y0, y1, y2, y3⟩ := hbt.z k (by omega)
      have hp2 := Lib.hid fun W => pick_any z2 8 W i2 (by omega) (by omega)
      have hp2v := pickv_lt z2 8 (by omega)
      generalize pickv z2 8 = p at *
      have hFG := Lib.hid hF
      have hG := Lib.hid hbt
      clear hF hbt
      replace hin := Lib.hid hin
      replace hm := Lib.hid hm
      go_wp2_with fail
      refine (hp0.out _).mono ?_
      rintro e w3 ⟨rfl, hw⟩
      subst w3
      go_wp2_with fail
      go_quiet ((with_reducible refine Calls.quiet_of_same (hp1.out _)))
      refine name_then ?_
      intro w3 hw3
      have hb3 : Below w2.heap.size w2 w3 := by rw [hw3]; exact below_drewN (Below.refl _ _) _
      clear hw3 q0 q1 q2 q3 q4 y0 y1 y2 y3 x0 x1
      have hAz3 := hAz2.below hb3
      have hG3 := hG.out.below hb3
      have hF3 := Lib.hid (hFG.out.below hb3)
      have hB3 := hB.trans (hb3.mono hB.size)
      have hk' : k < L[i]!.flds.length := by rw [← hm.out]; exact hk
      obtain ⟨y0, y1, y2, y3⟩ := hG3.z k hk'
      have hox : FldOk L[i]!.flds[k]! := hin.out.ok L[i]! (by rw [getElem!_pos L i hpl]; exact List.getElem_mem hpl) _ (by rw [getElem!_pos _ k hk']; exact List.getElem_mem hk')
      obtain ⟨o1, o2, o3, o4⟩ := hox
      have x0 := hG3.x0
      have x1 := hG3.x1
      rw [← hm.out] at x1
      have q2 := hAz3.cell (j := 2) rfl
      have q3 := hAz3.cell (j := 3) rfl
      have q4 := hAz3.cell (j := 4) rfl
      have u0 := hG3.df (k * 4)
      have u1 := hG3.df (k * 4 + 1)
      have u2 := hG3.df (k * 4 + 2)
      have u3 := hG3.df (k * 4 + 3)
      have v0 := hG3.gf (i * 2)
      have v1 := hG3.gf (i * 2 + 1)
      have hgB := hG3.gB
      have hdB := hG3.dB
      have hkf : k < L[i]!.flds.length := hk'
      clear hb3 hFG hAz2
      replace hkf := Lib.hid hkf
      replace hG3 := Lib.hid hG3
      clear hk'
      obtain rfl | rfl | rfl | rfl | rfl | rfl | rfl | rfl : p = 0 ∨ p = 1 ∨ p = 2 ∨ p = 3 ∨ p = 4 ∨ p = 5 ∨ p = 6 ∨ p = 7 := by omega
      · as_aux_lemma =>
          have hp3 := Lib.hid fun W => pick_any z3 8 W i3 (by omega) (by omega)
          have hp3v := pickv_lt z3 8 (by omega)
          generalize pickv z3 8 = r at *
          obtain ⟨L', hL'⟩ := FewL.fldF hF3.out hin.out hpl hkf.out (j := 0) (by omega) hG.out.fv (u := (.int .i64 (r : Int))) (g := ⟨r, L[i]!.flds[k]!.n, L[i]!.flds[k]!.frm, L[i]!.flds[k]!.text⟩) rfl ⟨⟨by dsimp only; omega, by dsimp only; omega⟩, o2, o3, o4⟩
          replace hL' := Lib.hid hL'
          go_wp2_with fail
          refine (hp2.out _).mono ?_
          rintro e w4 ⟨rfl, hw⟩
          subst w4
          go_wp2_with fail
          refine (hp3.out _).mono ?_
          rintro e w4 ⟨rfl, hw⟩
          subst w4
          go_wp2_with fail
          go_ret
          exact ⟨⟨_, _, rfl, hL'.out⟩, below_set_far hB3 (by omega)⟩
      · as_aux_lemma =>
          have hp3 := Lib.hid fun W => pick_any z3 20 W i3 (by omega) (by omega)
          have hp3v := pickv_lt z3 20 (by omega)
          generalize pickv z3 20 = r at *
          have hwr : IntKind.i64.wrap ((r : Int) - 1) = (r : Int) - 1 := IntWalk.i64_in _ (by omega)
          obtain ⟨L', hL'⟩ := FewL.fldF hF3.out hin.out hpl hkf.out (j := 1) (by omega) hG.out.fv (u := (.int .i64 ((r : Int) - 1))) (g := ⟨L[i]!.flds[k]!.kind, (r : Int) - 1, L[i]!.flds[k]!.frm, L[i]!.flds[k]!.text⟩) rfl ⟨o1, ⟨by dsimp only; omega, by dsimp only; omega⟩, o3, o4⟩
          replace hL' := Lib.hid hL'
          go_wp2_with fail
          refine (hp2.out _).mono ?_
          rintro e w4 ⟨rfl, hw⟩
          subst w4
          go_wp2_with fail
          refine (hp3.out _).mono ?_
          rintro e w4 ⟨rfl, hw⟩
          subst w4
          go_wp2_with fail
          go_ret
          exact ⟨⟨_, _, rfl, hL'.out⟩, below_set_far hB3 (by omega)⟩
      · as_aux_lemma =>
          have hp3 := Lib.hid fun W => pick_any z3 8 W i3 (by omega) (by omega)
          have hp3v := pickv_lt z3 8 (by omega)
          generalize pickv z3 8 = r at *
          have hwr : IntKind.i64.wrap ((r : Int) - 1) = (r : Int) - 1 := IntWalk.i64_in _ (by omega)
          obtain ⟨L', hL'⟩ := FewL.fldF hF3.out hin.out hpl hkf.out (j := 2) (by omega) hG.out.fv (u := (.int .i64 ((r : Int) - 1))) (g := ⟨L[i]!.flds[k]!.kind, L[i]!.flds[k]!.n, (r : Int) - 1, L[i]!.flds[k]!.text⟩) rfl ⟨o1, o2, ⟨by dsimp only; omega, by dsimp only; omega⟩, o4⟩
          replace hL' := Lib.hid hL'
          go_wp2_with fail
          refine (hp2.out _).mono ?_
          rintro e w4 ⟨rfl, hw⟩
          subst w4
          go_wp2_with fail
          refine (hp3.out _).mono ?_
          rintro e w4 ⟨rfl, hw⟩
          subst w4
          go_wp2_with fail
          go_ret
          exact ⟨⟨_, _, rfl, hL'.out⟩, below_set_far hB3 (by omega)⟩
      · as_aux_lemma =>
          have hp3 := Lib.hid fun W => pick_any z3 18 W i3 (by omega) (by omega)
          have hp3v := pickv_lt z3 18 (by omega)
          generalize pickv z3 18 = r at *
          have hx : ∀ q, ByteArray.extract ⟨#[97, 98, 99, 100, 101, 102, 103, 104, 105, 106, 107, 108, 109, 110, 111, 112, 113, 114]⟩ 0 q = str (List.take q [97, 98, 99, 100, 101, 102, 103, 104, 105, 106, 107, 108, 109, 110, 111, 112, 113, 114]) := fun q => take_str4 [97, 98, 99, 100, 101, 102, 103, 104, 105, 106, 107, 108, 109, 110, 111, 112, 113, 114] q
          have r0 : (0 : Int) ≤ (r : Int) := by omega
          have r1 : (r : Int) ≤ 18 := by omega
          obtain ⟨L', hL'⟩ := FewL.fldF hF3.out hin.out hpl hkf.out (j := 3) (by omega) hG.out.fv (u := (.string (ByteArray.extract ⟨#[97, 98, 99, 100, 101, 102, 103, 104, 105, 106, 107, 108, 109, 110, 111, 112, 113, 114]⟩ 0 r))) (g := ⟨L[i]!.flds[k]!.kind, L[i]!.flds[k]!.n, L[i]!.flds[k]!.frm, List.take r [97, 98, 99, 100, 101, 102, 103, 104, 105, 106, 107, 108, 109, 110, 111, 112, 113, 114]⟩) (by rw [hx]; rfl) ⟨o1, o2, o3, by dsimp only; rw [List.length_take]; omega⟩
          clear hx
          replace hL' := Lib.hid hL'
          go_wp2_with fail
          refine (hp2.out _).mono ?_
          rintro e w4 ⟨rfl, hw⟩
          subst w4
          go_wp2_with fail
          refine (hp3.out _).mono ?_
          rintro e w4 ⟨rfl, hw⟩
          subst w4
          go_wp2_with fail
          go_ret
          exact ⟨⟨_, _, rfl, hL'.out⟩, below_set_far hB3 (by omega)⟩
      · as_aux_lemma =>
          have hp3 := Lib.hid fun W => pick_any z3 22 W i3 (by omega) (by omega)
          have hp3v := pickv_lt z3 22 (by omega)
          generalize pickv z3 22 = r at *
          have hmm : L[i]! ∈ L := by rw [getElem!_pos L i hpl]; exact List.getElem_mem hpl
          have hL' := (MkL.num hF3.out.of_ hpl (r : Int)).fmts (in_set hin.out hpl ⟨by dsimp only; omega, by dsimp only; omega⟩ (show L[i]!.flds.length ≤ 1000000 from hin.out.flen _ hmm) (show ∀ x ∈ L[i]!.flds, FldOk x from hin.out.ok _ hmm))
          replace hL' := Lib.hid hL'
          go_wp2_with fail
          refine (hp2.out _).mono ?_
          rintro e w4 ⟨rfl, hw⟩
          subst w4
          go_wp2_with fail
          refine (hp3.out _).mono ?_
          rintro e w4 ⟨rfl, hw⟩
          subst w4
          go_wp2_with fail
          go_ret
          exact ⟨⟨_, _, rfl, hL'.out⟩, below_set_far hB3 (by omega)⟩
      · as_aux_lemma =>
          obtain ⟨kd, hkd⟩ : ∃ kd, kd = L[i]!.flds[k]!.kind := ⟨_, rfl⟩
          obtain ⟨nn, hnn⟩ : ∃ nn, nn = L[i]!.flds[k]!.n := ⟨_, rfl⟩
          obtain ⟨fr, hfr⟩ : ∃ fr, fr = L[i]!.flds[k]!.frm := ⟨_, rfl⟩
          obtain ⟨tx, htx⟩ : ∃ tx, tx = L[i]!.flds[k]!.text := ⟨_, rfl⟩
          obtain ⟨X, hX⟩ : ∃ X, X = (w3.alloc (.cells #[.int .i64 kd, .int .i64 nn, .int .i64 fr, .string (str tx)] 55)).drew := ⟨_, rfl⟩
          have hbX : Below w3.heap.size w3 X := by rw [hX]; exact ((Below.refl _ _).alloc (Nat.le_refl _) _).drew
          have hAX : Arr X w3.heap.size 55 (fldC L[i]!.flds[k]!) := by
            rw [hX]
            unfold fldC
            rw [← hkd, ← hnn, ← hfr, ← htx]
            exact (Arr.new rfl rfl).drew
          have hBw : W1.heap.size ≤ w3.heap.size := by have := hG3.out.gl; omega
          obtain ⟨a6, n6, c6, w6, hrun6, s1, t1, hB6, L', hL6⟩ := bent_app hF3.out hin.out hG3.out hpl hm.out ⟨o1, o2, o3, o4⟩ (by rw [hm.out]; exact hfl) hbX hAX hBw
          rw [hX] at hrun6
          rw [← hkd] at y0
          rw [← hnn] at y1
          rw [← hfr] at y2
          rw [← htx] at y3
          replace hkd := Lib.hid hkd
          replace hnn := Lib.hid hnn
          replace hfr := Lib.hid hfr
          replace htx := Lib.hid htx
          have x1' : (w3.alloc (.cells #[.int .i64 kd, .int .i64 nn, .int .i64 fr, .string (str tx)] 55)).cell? ⟨g, i * 2 + 1, none⟩ = some (.slice (some ⟨d, 0, none⟩) m cc) := (Below.cell (((Below.refl w3.heap.size w3).alloc (Nat.le_refl _) _)) (p := ⟨g, i * 2 + 1, none⟩) hG3.out.gl).trans x1
          replace hL6 := Lib.hid hL6
          replace hrun6 := Lib.hid hrun6
          have hB7 : Below W1.heap.size w3 (w6.setCell ⟨g, i * 2 + 1, none⟩ (.slice a6 n6 c6)) := below_set_far hB6 hgB
          have hB8 := Lib.hid (hB3.trans (hB7.mono hsz))
          clear hbX hAX hX hB6 hB7
          go_wp2_with fail
          refine (hp2.out _).mono ?_
          rintro e w4 ⟨rfl, hw⟩
          subst w4
          go_wp2_with fail
          refine wp_region_held_drew (S := fun w' => True) (by kernel_rfl) (by trivial) (fun hHeld => ?_)
          refine take_l (i := 0) (v := ?_) rfl (by kernel_rfl) (by kernel_rfl) (by kernel_rfl) (fun _ _ _ h => h) (Or.inl ⟨by kernel_rfl, ?_⟩) (by assumption) ?_
          rotate_left
          · intro w hSw; (try dsimp only at hSw); go_simp; (try with_reducible rfl)
          (try simp only [Act.put, List.setIfInBounds_toArray, List.set_cons_zero, List.set_cons_succ])
          refine take_l (i := 1) (v := ?_) rfl (by kernel_rfl) (by kernel_rfl) (by kernel_rfl) (fun _ _ _ h => h) (Or.inl ⟨by kernel_rfl, ?_⟩) (by assumption) ?_
          rotate_left
          · intro w hSw; (try dsimp only at hSw); go_simp; (try with_reducible rfl)
          (try simp only [Act.put, List.setIfInBounds_toArray, List.set_cons_zero, List.set_cons_succ])
          refine take_l (i := 2) (v := ?_) rfl (by kernel_rfl) (by kernel_rfl) (by kernel_rfl) (fun _ _ _ h => h) (Or.inl ⟨by kernel_rfl, ?_⟩) (by assumption) ?_
          rotate_left
          · intro w hSw; (try dsimp only at hSw); go_simp; (try with_reducible rfl)
          (try simp only [Act.put, List.setIfInBounds_toArray, List.set_cons_zero, List.set_cons_succ])
          refine take_l (i := 3) (v := ?_) rfl (by kernel_rfl) (by kernel_rfl) (by kernel_rfl) (fun _ _ _ h => h) (Or.inl ⟨by kernel_rfl, ?_⟩) (by assumption) ?_
          rotate_left
          · intro w hSw; (try dsimp only at hSw); go_simp; (try with_reducible rfl)
          (try simp only [Act.put, List.setIfInBounds_toArray, List.set_cons_zero, List.set_cons_succ])
          refine take_l (i := 5) (v := ?_) rfl (by kernel_rfl) (by kernel_rfl) (by kernel_rfl) (fun _ _ _ h => h) (Or.inl ⟨by kernel_rfl, ?_⟩) (by assumption) ?_
          rotate_left
          · intro w hSw; (try dsimp only at hSw); go_simp; (try with_reducible rfl)
          (try simp only [Act.put, List.setIfInBounds_toArray, List.set_cons_zero, List.set_cons_succ])
          refine take_l (i := 6) (v := ?_) rfl (by kernel_rfl) (by kernel_rfl) (by kernel_rfl) (fun _ _ _ h => h) (Or.inl ⟨by kernel_rfl, ?_⟩) (by assumption) ?_
          rotate_left
          · intro w hSw; (try dsimp only at hSw); go_simp; (try with_reducible rfl)
          (try simp only [Act.put, List.setIfInBounds_toArray, List.set_cons_zero, List.set_cons_succ])
          refine wpAnyH_ready (rs := [4, 7]) (by kernel_rfl) (by simp) ?_
          refine ready_l rfl (fun K hK => ?_) (ready_l rfl (fun K hK => ?_) AllReadyH.nil)
          · go_simp
            refine hK.out _ _ (by trivial) (fun hHeld => ?_)
            clear hK K
            (try simp only [Act.put, List.setIfInBounds_toArray, List.set_cons_zero, List.set_cons_succ])
            refine wpAnyH_ready (rs := [7]) (by kernel_rfl) (by simp) ?_
            refine ready_l rfl (fun K hK => ?_) AllReadyH.nil
            go_simp
            refine hK.out _ _ (by trivial) (fun hHeld => ?_)
            clear hK K
            (try simp only [Act.put, List.setIfInBounds_toArray, List.set_cons_zero, List.set_cons_succ])
            refine wpAnyH_ready (rs := [8]) (by kernel_rfl) (by simp) ?_
            refine ready_l rfl (fun K hK => ?_) AllReadyH.nil
            go_simp
            refine hK.out _ _ (by trivial) (fun hHeld => ?_)
            clear hK K
            (try simp only [Act.put, List.setIfInBounds_toArray, List.set_cons_zero, List.set_cons_succ])
            refine wpAnyH_ready (rs := [9]) (by kernel_rfl) (by simp) ?_
            refine ready_l rfl (fun K hK => ?_) AllReadyH.nil
            refine step_append_known rfl _ _ _ _ rfl _ _ rfl rfl hrun6.out ?_
            (try simp only [Act.put, List.setIfInBounds_toArray, List.set_cons_zero, List.set_cons_succ])
            refine hK.out _ _ (by trivial) (fun hHeld => ?_)
            clear hK K
            (try simp only [Act.put, List.setIfInBounds_toArray, List.set_cons_zero, List.set_cons_succ])
            refine take_l (i := 10) (v := ?_) rfl (by kernel_rfl) (by kernel_rfl) (by kernel_rfl) (fun _ _ _ h => h) (Or.inl ⟨by kernel_rfl, ?_⟩) (by assumption) ?_
            rotate_left
            · intro w hSw; (try dsimp only at hSw); go_simp; (try with_reducible rfl)
            (try simp only [Act.put, List.setIfInBounds_toArray, List.set_cons_zero, List.set_cons_succ])
            refine take_l (i := 11) (v := ?_) rfl (by kernel_rfl) (by kernel_rfl) (by kernel_rfl) (fun _ _ _ h => h) (Or.inl ⟨by kernel_rfl, ?_⟩) (by assumption) ?_
            rotate_left
            · intro w hSw; (try dsimp only at hSw); go_simp; (try with_reducible rfl)
            (try simp only [Act.put, List.setIfInBounds_toArray, List.set_cons_zero, List.set_cons_succ])
            refine wpAnyH_ready (rs := [12]) (by kernel_rfl) (by simp) ?_
            refine ready_l rfl (fun K hK => ?_) AllReadyH.nil
            go_simp
            refine hK.out _ _ (by trivial) (fun hHeld => ?_)
            clear hK K
            (try simp only [Act.put, List.setIfInBounds_toArray, List.set_cons_zero, List.set_cons_succ])
            refine wpAnyH_done (by kernel_rfl) ?_ _
            go_wp2_with fail
            go_ret
            exact ⟨⟨_, _, rfl, hL6.out⟩, hB8.out⟩
          · go_simp
            refine hK.out _ _ (by trivial) (fun hHeld => ?_)
            clear hK K
            (try simp only [Act.put, List.setIfInBounds_toArray, List.set_cons_zero, List.set_cons_succ])
            refine wpAnyH_ready (rs := [4, 8]) (by kernel_rfl) (by simp) ?_
            refine ready_l rfl (fun K hK => ?_) (ready_l rfl (fun K hK => ?_) AllReadyH.nil)
            · go_simp
              refine hK.out _ _ (by trivial) (fun hHeld => ?_)
              clear hK K
              (try simp only [Act.put, List.setIfInBounds_toArray, List.set_cons_zero, List.set_cons_succ])
              refine wpAnyH_ready (rs := [8]) (by kernel_rfl) (by simp) ?_
              refine ready_l rfl (fun K hK => ?_) AllReadyH.nil
              go_simp
              refine hK.out _ _ (by trivial) (fun hHeld => ?_)
              clear hK K
              (try simp only [Act.put, List.setIfInBounds_toArray, List.set_cons_zero, List.set_cons_succ])
              refine wpAnyH_ready (rs := [9]) (by kernel_rfl) (by simp) ?_
              refine ready_l rfl (fun K hK => ?_) AllReadyH.nil
              refine step_append_known rfl _ _ _ _ rfl _ _ rfl rfl hrun6.out ?_
              (try simp only [Act.put, List.setIfInBounds_toArray, List.set_cons_zero, List.set_cons_succ])
              refine hK.out _ _ (by trivial) (fun hHeld => ?_)
              clear hK K
              (try simp only [Act.put, List.setIfInBounds_toArray, List.set_cons_zero, List.set_cons_succ])
              refine take_l (i := 10) (v := ?_) rfl (by kernel_rfl) (by kernel_rfl) (by kernel_rfl) (fun _ _ _ h => h) (Or.inl ⟨by kernel_rfl, ?_⟩) (by assumption) ?_
              rotate_left
              · intro w hSw; (try dsimp only at hSw); go_simp; (try with_reducible rfl)
              (try simp only [Act.put, List.setIfInBounds_toArray, List.set_cons_zero, List.set_cons_succ])
              refine take_l (i := 11) (v := ?_) rfl (by kernel_rfl) (by kernel_rfl) (by kernel_rfl) (fun _ _ _ h => h) (Or.inl ⟨by kernel_rfl, ?_⟩) (by assumption) ?_
              rotate_left
              · intro w hSw; (try dsimp only at hSw); go_simp; (try with_reducible rfl)
              (try simp only [Act.put, List.setIfInBounds_toArray, List.set_cons_zero, List.set_cons_succ])
              refine wpAnyH_ready (rs := [12]) (by kernel_rfl) (by simp) ?_
              refine ready_l rfl (fun K hK => ?_) AllReadyH.nil
              go_simp
              refine hK.out _ _ (by trivial) (fun hHeld => ?_)
              clear hK K
              (try simp only [Act.put, List.setIfInBounds_toArray, List.set_cons_zero, List.set_cons_succ])
              refine wpAnyH_done (by kernel_rfl) ?_ _
              go_wp2_with fail
              go_ret
              exact ⟨⟨_, _, rfl, hL6.out⟩, hB8.out⟩
            · go_simp
              refine hK.out _ _ (by trivial) (fun hHeld => ?_)
              clear hK K
              (try simp only [Act.put, List.setIfInBounds_toArray, List.set_cons_zero, List.set_cons_succ])
              refine wpAnyH_ready (rs := [4]) (by kernel_rfl) (by simp) ?_
              refine ready_l rfl (fun K hK => ?_) AllReadyH.nil
              go_simp
              refine hK.out _ _ (by trivial) (fun hHeld => ?_)
              clear hK K
              (try simp only [Act.put, List.setIfInBounds_toArray, List.set_cons_zero, List.set_cons_succ])
              refine wpAnyH_ready (rs := [9]) (by kernel_rfl) (by simp) ?_
              refine ready_l rfl (fun K hK => ?_) AllReadyH.nil
              refine step_append_known rfl _ _ _ _ rfl _ _ rfl rfl hrun6.out ?_
              (try simp only [Act.put, List.setIfInBounds_toArray, List.set_cons_zero, List.set_cons_succ])
              refine hK.out _ _ (by trivial) (fun hHeld => ?_)
              clear hK K
              (try simp only [Act.put, List.setIfInBounds_toArray, List.set_cons_zero, List.set_cons_succ])
              refine take_l (i := 10) (v := ?_) rfl (by kernel_rfl) (by kernel_rfl) (by kernel_rfl) (fun _ _ _ h => h) (Or.inl ⟨by kernel_rfl, ?_⟩) (by assumption) ?_
              rotate_left
              · intro w hSw; (try dsimp only at hSw); go_simp; (try with_reducible rfl)
              (try simp only [Act.put, List.setIfInBounds_toArray, List.set_cons_zero, List.set_cons_succ])
              refine take_l (i := 11) (v := ?_) rfl (by kernel_rfl) (by kernel_rfl) (by kernel_rfl) (fun _ _ _ h => h) (Or.inl ⟨by kernel_rfl, ?_⟩) (by assumption) ?_
              rotate_left
              · intro w hSw; (try dsimp only at hSw); go_simp; (try with_reducible rfl)
              (try simp only [Act.put, List.setIfInBounds_toArray, List.set_cons_zero, List.set_cons_succ])
              refine wpAnyH_ready (rs := [12]) (by kernel_rfl) (by simp) ?_
              refine ready_l rfl (fun K hK => ?_) AllReadyH.nil
              go_simp
              refine hK.out _ _ (by trivial) (fun hHeld => ?_)
              clear hK K
              (try simp only [Act.put, List.setIfInBounds_toArray, List.set_cons_zero, List.set_cons_succ])
              refine wpAnyH_done (by kernel_rfl) ?_ _
              go_wp2_with fail
              go_ret
              exact ⟨⟨_, _, rfl, hL6.out⟩, hB8.out⟩
      · as_aux_lemma =>
          have hm1 : 1 ≤ m := by rw [hm.out]; exact hf0
          have hp3 := Lib.hid fun W => pick_any z3 m W i3 hm1 (by rw [hm.out]; omega)
          have hp3v := pickv_lt z3 m hm1
          generalize pickv z3 m = r at *
          have r0 : (0 : Int) ≤ (r : Int) := by omega
          have r1 : (r : Int) ≤ (cc : Int) := by omega
          obtain ⟨L', hL6⟩ := bent_cut (r := r) hF3.out hin.out hG3.out hpl (by rw [← hm.out]; omega)
          replace hL6 := Lib.hid hL6
          have hB7 : Below W1.heap.size w3 (w3.setCell ⟨g, i * 2 + 1, none⟩ (.slice (some ⟨d, 0, none⟩) r cc)) := below_set_far (Below.refl _ _) hgB
          have hB8 := Lib.hid (hB3.trans (hB7.mono hsz))
          have hgw : w.heap.size < g := by
            have := hAz2s
            omega
          have hS16 : (w3.setCell ⟨g, i * 2 + 1, none⟩ (.slice (some ⟨d, 0, none⟩) r cc)).cell? ⟨w.heap.size, 3, none⟩ = some (.int .i64 z3) := (hAz3.other _ (by omega)).cell (j := 3) rfl
          clear hB7
          go_wp2_with fail
          refine (hp2.out _).mono ?_
          rintro e w4 ⟨rfl, hw⟩
          subst w4
          go_wp2_with fail
          refine wp_region_held_drew (S := fun w' => w'.cell? ⟨w.heap.size, 3, none⟩ = some (.int .i64 z3)) (by kernel_rfl) (by exact q3) (fun hHeld => ?_)
          refine take_l (i := 0) (v := ?_) rfl (by kernel_rfl) (by kernel_rfl) (by kernel_rfl) (fun _ _ _ h => h) (Or.inl ⟨by kernel_rfl, ?_⟩) (by assumption) ?_
          rotate_left
          · intro w hSw; (try dsimp only at hSw); go_simp; (try with_reducible rfl)
          (try simp only [Act.put, List.setIfInBounds_toArray, List.set_cons_zero, List.set_cons_succ])
          refine take_l (i := 1) (v := ?_) rfl (by kernel_rfl) (by kernel_rfl) (by kernel_rfl) (fun _ _ _ h => h) (Or.inl ⟨by kernel_rfl, ?_⟩) (by assumption) ?_
          rotate_left
          · intro w hSw; (try dsimp only at hSw); go_simp; (try with_reducible rfl)
          (try simp only [Act.put, List.setIfInBounds_toArray, List.set_cons_zero, List.set_cons_succ])
          refine take_l (i := 2) (v := ?_) rfl (by kernel_rfl) (by kernel_rfl) (by kernel_rfl) (fun _ _ _ h => h) (Or.inl ⟨by kernel_rfl, ?_⟩) (by assumption) ?_
          rotate_left
          · intro w hSw; (try dsimp only at hSw); go_simp; (try with_reducible rfl)
          (try simp only [Act.put, List.setIfInBounds_toArray, List.set_cons_zero, List.set_cons_succ])
          refine take_l (i := 3) (v := ?_) rfl (by kernel_rfl) (by kernel_rfl) (by kernel_rfl) (fun _ _ _ h => h) (Or.inl ⟨by kernel_rfl, ?_⟩) (by assumption) ?_
          rotate_left
          · intro w hSw; (try dsimp only at hSw); go_simp; (try with_reducible rfl)
          (try simp only [Act.put, List.setIfInBounds_toArray, List.set_cons_zero, List.set_cons_succ])
          refine take_l (i := 5) (v := ?_) rfl (by kernel_rfl) (by kernel_rfl) (by kernel_rfl) (fun _ _ _ h => h) (Or.inl ⟨by kernel_rfl, ?_⟩) (by assumption) ?_
          rotate_left
          · intro w hSw; (try dsimp only at hSw); go_simp; (try with_reducible rfl)
          (try simp only [Act.put, List.setIfInBounds_toArray, List.set_cons_zero, List.set_cons_succ])
          refine take_l (i := 6) (v := ?_) rfl (by kernel_rfl) (by kernel_rfl) (by kernel_rfl) (fun _ _ _ h => h) (Or.inl ⟨by kernel_rfl, ?_⟩) (by assumption) ?_
          rotate_left
          · intro w hSw; (try dsimp only at hSw); go_simp; (try with_reducible rfl)
          (try simp only [Act.put, List.setIfInBounds_toArray, List.set_cons_zero, List.set_cons_succ])
          refine take_l (i := 7) (v := ?_) rfl (by kernel_rfl) (by kernel_rfl) (by kernel_rfl) (fun _ _ _ h => h) (Or.inl ⟨by kernel_rfl, ?_⟩) (by assumption) ?_
          rotate_left
          · intro w hSw; (try dsimp only at hSw); go_simp; (try with_reducible rfl)
          (try simp only [Act.put, List.setIfInBounds_toArray, List.set_cons_zero, List.set_cons_succ])
          refine take_l (i := 8) (v := ?_) rfl (by kernel_rfl) (by kernel_rfl) (by kernel_rfl) (fun _ _ _ h => h) (Or.inl ⟨by kernel_rfl, ?_⟩) (by assumption) ?_
          rotate_left
          · intro w hSw; (try dsimp only at hSw); go_simp; (try with_reducible rfl)
          (try simp only [Act.put, List.setIfInBounds_toArray, List.set_cons_zero, List.set_cons_succ])
          refine take_l (i := 9) (v := ?_) rfl (by kernel_rfl) (by kernel_rfl) (by kernel_rfl) (fun _ _ _ h => h) (Or.inl ⟨by kernel_rfl, ?_⟩) (by assumption) ?_
          rotate_left
          · intro w hSw; (try dsimp only at hSw); go_simp; (try with_reducible rfl)
          (try simp only [Act.put, List.setIfInBounds_toArray, List.set_cons_zero, List.set_cons_succ])
          refine wpAnyH_ready (rs := [4, 10]) (by kernel_rfl) (by simp) ?_
          refine ready_l rfl (fun K hK => ?_) (ready_l rfl (fun K hK => ?_) AllReadyH.nil)
          · go_simp
            refine hK.out _ _ (by exact q3) (fun hHeld => ?_)
            clear hK K
            (try simp only [Act.put, List.setIfInBounds_toArray, List.set_cons_zero, List.set_cons_succ])
            refine wpAnyH_ready (rs := [10]) (by kernel_rfl) (by simp) ?_
            refine ready_l rfl (fun K hK => ?_) AllReadyH.nil
            go_simp
            refine hK.out _ _ (by exact q3) (fun hHeld => ?_)
            clear hK K
            (try simp only [Act.put, List.setIfInBounds_toArray, List.set_cons_zero, List.set_cons_succ])
            refine take_l (i := 11) (v := ?_) rfl (by kernel_rfl) (by kernel_rfl) (by kernel_rfl) (fun _ _ _ h => h) (Or.inl ⟨by kernel_rfl, ?_⟩) (by assumption) ?_
            rotate_left
            · intro w hSw; (try dsimp only at hSw); go_simp; (try with_reducible rfl)
            (try simp only [Act.put, List.setIfInBounds_toArray, List.set_cons_zero, List.set_cons_succ])
            refine wpAnyH_ready (rs := [12]) (by kernel_rfl) (by simp) ?_
            refine ready_l rfl (fun K hK => ?_) AllReadyH.nil
            go_simp
            refine (hp3.out _).mono ?_
            rintro e w4 ⟨rfl, hw⟩
            subst w4
            refine hK.out _ _ (by exact q3) (fun hHeld => ?_)
            clear hK K
            (try simp only [Act.put, List.setIfInBounds_toArray, List.set_cons_zero, List.set_cons_succ])
            refine take_l (i := 13) (v := ?_) rfl (by kernel_rfl) (by kernel_rfl) (by kernel_rfl) (fun _ _ _ h => h) (Or.inl ⟨by kernel_rfl, ?_⟩) (by assumption) ?_
            rotate_left
            · intro w hSw; (try dsimp only at hSw); go_simp; (try with_reducible rfl)
            (try simp only [Act.put, List.setIfInBounds_toArray, List.set_cons_zero, List.set_cons_succ])
            refine take_l (i := 14) (v := ?_) rfl (by kernel_rfl) (by kernel_rfl) (by kernel_rfl) (fun _ _ _ h => h) (Or.inl ⟨by kernel_rfl, ?_⟩) (by assumption) ?_
            rotate_left
            · intro w hSw; (try dsimp only at hSw); go_simp; (try with_reducible rfl)
            (try simp only [Act.put, List.setIfInBounds_toArray, List.set_cons_zero, List.set_cons_succ])
            refine take_l (i := 15) (v := ?_) rfl (by kernel_rfl) (by kernel_rfl) (by kernel_rfl) (fun _ _ _ h => h) (Or.inl ⟨by kernel_rfl, ?_⟩) (by assumption) ?_
            rotate_left
            · intro w hSw; (try dsimp only at hSw); go_simp; (try with_reducible rfl)
            (try simp only [Act.put, List.setIfInBounds_toArray, List.set_cons_zero, List.set_cons_succ])
            refine wpAnyH_ready (rs := [16]) (by kernel_rfl) (by simp) ?_
            refine ready_l rfl (fun K hK => ?_) AllReadyH.nil
            go_simp
            refine hK.out _ _ (by exact hS16) (fun hHeld => ?_)
            clear hK K
            (try simp only [Act.put, List.setIfInBounds_toArray, List.set_cons_zero, List.set_cons_succ])
            refine wpAnyH_done (by kernel_rfl) ?_ _
            go_wp2_with fail
            go_ret
            exact ⟨⟨_, _, rfl, hL6.out.later (Below.refl _ _).drew⟩, hB8.out.drew⟩
          · go_simp
            refine hK.out _ _ (by exact q3) (fun hHeld => ?_)
            clear hK K
            (try simp only [Act.put, List.setIfInBounds_toArray, List.set_cons_zero, List.set_cons_succ])
            refine take_l (i := 11) (v := ?_) rfl (by kernel_rfl) (by kernel_rfl) (by kernel_rfl) (fun _ _ _ h => h) (Or.inl ⟨by kernel_rfl, ?_⟩) (by assumption) ?_
            rotate_left
            · intro w hSw; (try dsimp only at hSw); go_simp; (try with_reducible rfl)
            (try simp only [Act.put, List.setIfInBounds_toArray, List.set_cons_zero, List.set_cons_succ])
            refine wpAnyH_ready (rs := [4, 12]) (by kernel_rfl) (by simp) ?_
            refine ready_l rfl (fun K hK => ?_) (ready_l rfl (fun K hK => ?_) AllReadyH.nil)
            · go_simp
              refine hK.out _ _ (by exact q3) (fun hHeld => ?_)
              clear hK K
              (try simp only [Act.put, List.setIfInBounds_toArray, List.set_cons_zero, List.set_cons_succ])
              refine wpAnyH_ready (rs := [12]) (by kernel_rfl) (by simp) ?_
              refine ready_l rfl (fun K hK => ?_) AllReadyH.nil
              go_simp
              refine (hp3.out _).mono ?_
              rintro e w4 ⟨rfl, hw⟩
              subst w4
              refine hK.out _ _ (by exact q3) (fun hHeld => ?_)
              clear hK K
              (try simp only [Act.put, List.setIfInBounds_toArray, List.set_cons_zero, List.set_cons_succ])
              refine take_l (i := 13) (v := ?_) rfl (by kernel_rfl) (by kernel_rfl) (by kernel_rfl) (fun _ _ _ h => h) (Or.inl ⟨by kernel_rfl, ?_⟩) (by assumption) ?_
              rotate_left
              · intro w hSw; (try dsimp only at hSw); go_simp; (try with_reducible rfl)
              (try simp only [Act.put, List.setIfInBounds_toArray, List.set_cons_zero, List.set_cons_succ])
              refine take_l (i := 14) (v := ?_) rfl (by kernel_rfl) (by kernel_rfl) (by kernel_rfl) (fun _ _ _ h => h) (Or.inl ⟨by kernel_rfl, ?_⟩) (by assumption) ?_
              rotate_left
              · intro w hSw; (try dsimp only at hSw); go_simp; (try with_reducible rfl)
              (try simp only [Act.put, List.setIfInBounds_toArray, List.set_cons_zero, List.set_cons_succ])
              refine take_l (i := 15) (v := ?_) rfl (by kernel_rfl) (by kernel_rfl) (by kernel_rfl) (fun _ _ _ h => h) (Or.inl ⟨by kernel_rfl, ?_⟩) (by assumption) ?_
              rotate_left
              · intro w hSw; (try dsimp only at hSw); go_simp; (try with_reducible rfl)
              (try simp only [Act.put, List.setIfInBounds_toArray, List.set_cons_zero, List.set_cons_succ])
              refine wpAnyH_ready (rs := [16]) (by kernel_rfl) (by simp) ?_
              refine ready_l rfl (fun K hK => ?_) AllReadyH.nil
              go_simp
              refine hK.out _ _ (by exact hS16) (fun hHeld => ?_)
              clear hK K
              (try simp only [Act.put, List.setIfInBounds_toArray, List.set_cons_zero, List.set_cons_succ])
              refine wpAnyH_done (by kernel_rfl) ?_ _
              go_wp2_with fail
              go_ret
              exact ⟨⟨_, _, rfl, hL6.out.later (Below.refl _ _).drew⟩, hB8.out.drew⟩
            · go_simp
              refine (hp3.out _).mono ?_
              rintro e w4 ⟨rfl, hw⟩
              subst w4
              refine hK.out _ _ (by exact q3) (fun hHeld => ?_)
              clear hK K
              (try simp only [Act.put, List.setIfInBounds_toArray, List.set_cons_zero, List.set_cons_succ])
              refine wpAnyH_ready (rs := [4]) (by kernel_rfl) (by simp) ?_
              refine ready_l rfl (fun K hK => ?_) AllReadyH.nil
              go_simp
              refine hK.out _ _ (by exact q3) (fun hHeld => ?_)
              clear hK K
              (try simp only [Act.put, List.setIfInBounds_toArray, List.set_cons_zero, List.set_cons_succ])
              refine take_l (i := 13) (v := ?_) rfl (by kernel_rfl) (by kernel_rfl) (by kernel_rfl) (fun _ _ _ h => h) (Or.inl ⟨by kernel_rfl, ?_⟩) (by assumption) ?_
              rotate_left
              · intro w hSw; (try dsimp only at hSw); go_simp; (try with_reducible rfl)
              (try simp only [Act.put, List.setIfInBounds_toArray, List.set_cons_zero, List.set_cons_succ])
              refine take_l (i := 14) (v := ?_) rfl (by kernel_rfl) (by kernel_rfl) (by kernel_rfl) (fun _ _ _ h => h) (Or.inl ⟨by kernel_rfl, ?_⟩) (by assumption) ?_
              rotate_left
              · intro w hSw; (try dsimp only at hSw); go_simp; (try with_reducible rfl)
              (try simp only [Act.put, List.setIfInBounds_toArray, List.set_cons_zero, List.set_cons_succ])
              refine take_l (i := 15) (v := ?_) rfl (by kernel_rfl) (by kernel_rfl) (by kernel_rfl) (fun _ _ _ h => h) (Or.inl ⟨by kernel_rfl, ?_⟩) (by assumption) ?_
              rotate_left
              · intro w hSw; (try dsimp only at hSw); go_simp; (try with_reducible rfl)
              (try simp only [Act.put, List.setIfInBounds_toArray, List.set_cons_zero, List.set_cons_succ])
              refine wpAnyH_ready (rs := [16]) (by kernel_rfl) (by simp) ?_
              refine ready_l rfl (fun K hK => ?_) AllReadyH.nil
              go_simp
              refine hK.out _ _ (by exact hS16) (fun hHeld => ?_)
              clear hK K
              (try simp only [Act.put, List.setIfInBounds_toArray, List.set_cons_zero, List.set_cons_succ])
              refine wpAnyH_done (by kernel_rfl) ?_ _
              go_wp2_with fail
              go_ret
              exact ⟨⟨_, _, rfl, hL6.out.later (Below.refl _ _).drew⟩, hB8.out.drew⟩
      · as_aux_lemma =>
          obtain ⟨L', hL'⟩ := FewL.fldF hF3.out hin.out hpl hkf.out (j := 1) (by omega) hG.out.fv (u := (.int .i64 z4)) (g := ⟨L[i]!.flds[k]!.kind, z4, L[i]!.flds[k]!.frm, L[i]!.flds[k]!.text⟩) rfl ⟨o1, i4, o3, o4⟩
          replace hL' := Lib.hid hL'
          go_wp2_with fail
          refine (hp2.out _).mono ?_
          rintro e w4 ⟨rfl, hw⟩
          subst w4
          go_wp2_with fail
          go_ret
          exact ⟨⟨_, _, rfl, hL'.out⟩, below_set_far hB3 (by omega)⟩
    · have hm0 : L[i]!.flds.length = 0 := by omega
      obtain ⟨g, c, h1, h2, _, _, h5, h6, h7⟩ := own_cells3 hF.of_.row (by omega)
      obtain ⟨p1, p2⟩ := fmtC_at L fvs hF.of_.fl i hpl
      have x1 := h6 _ _ p2
      obtain ⟨fa, fc, hfv⟩ := own_val (hF.of_.rows i hpl)
      rw [hfv, hm0] at x1
      subst h1
      have hFm := Lib.hid (hF.of_.fmts hin)
      replace hF := Lib.hid hF
      replace hfv := Lib.hid hfv
      replace hm0 := Lib.hid hm0
      clear h6 h7 p1 p2 hf0
      go_wp2_with fail
      refine (hp0.out _).mono ?_
      rintro e w3 ⟨rfl, hw⟩
      subst w3
      go_wp2_with fail
      go_ret
      exact ⟨⟨_, _, rfl, hFm.out⟩, hB⟩
end Go.Proofs.YtcpfmlaipejfpaaGreatDoor
