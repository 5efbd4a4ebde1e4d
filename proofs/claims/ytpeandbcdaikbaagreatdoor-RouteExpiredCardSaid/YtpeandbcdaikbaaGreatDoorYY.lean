/-
  Routes of chapter 11: the law RouteExpired's lists (plain).
-/
import Derived.Test.YtpeandbcdaikbaaGreatDoorYW
namespace Go.Proofs.YtpeandbcdaikbaaGreatDoor
open Go.RowKit Go.Shelf Go.Maps

def aliveTo (l : List Edg) (day : Int) (i : Nat) : List Nat := (List.range i).filter fun i => decide (day ≤ l[i]!.until_)
def leftTo (l : List Edg) (day : Int) (i : Nat) : List Edg := (aliveTo l day i).map fun i => l[i]!
def oldTo (l : List Edg) (day : Int) (i : Nat) : List Int := (aliveTo l day i).map fun (n : Nat) => (n : Int)
theorem aliveTo_yes {l : List Edg} {day : Int} {i : Nat} (h : day ≤ l[i]!.until_) : aliveTo l day (i + 1) = aliveTo l day i ++ [i] := by
  unfold aliveTo
  rw [List.range_succ, List.filter_append, List.filter_cons_of_pos (by exact decide_eq_true h), List.filter_nil]
theorem aliveTo_no {l : List Edg} {day : Int} {i : Nat} (h : ¬day ≤ l[i]!.until_) : aliveTo l day (i + 1) = aliveTo l day i := by
  unfold aliveTo
  rw [List.range_succ, List.filter_append, List.filter_cons_of_neg (by rw [decide_eq_true_eq]; exact h), List.filter_nil, List.append_nil]
theorem leftTo_yes {l : List Edg} {day : Int} {i : Nat} (h : day ≤ l[i]!.until_) : leftTo l day (i + 1) = leftTo l day i ++ [l[i]!] := by
  unfold leftTo; rw [aliveTo_yes h, List.map_append]; rfl
theorem leftTo_no {l : List Edg} {day : Int} {i : Nat} (h : ¬day ≤ l[i]!.until_) : leftTo l day (i + 1) = leftTo l day i := by
  unfold leftTo; rw [aliveTo_no h]
theorem oldTo_yes {l : List Edg} {day : Int} {i : Nat} (h : day ≤ l[i]!.until_) : oldTo l day (i + 1) = oldTo l day i ++ [(i : Int)] := by
  unfold oldTo; rw [aliveTo_yes h, List.map_append]; rfl
theorem oldTo_no {l : List Edg} {day : Int} {i : Nat} (h : ¬day ≤ l[i]!.until_) : oldTo l day (i + 1) = oldTo l day i := by
  unfold oldTo; rw [aliveTo_no h]
theorem aliveTo_len (l : List Edg) (day : Int) (i : Nat) : (aliveTo l day i).length ≤ i := by
  have := List.length_filter_le (fun i => decide (day ≤ l[i]!.until_)) (List.range i)
  rw [List.length_range] at this
  exact this
theorem leftTo_len (l : List Edg) (day : Int) (i : Nat) : (leftTo l day i).length ≤ i := by
  have := aliveTo_len l day i
  unfold leftTo; rw [List.length_map]; exact this
theorem oldTo_len (l : List Edg) (day : Int) (i : Nat) : (oldTo l day i).length ≤ i := by
  have := aliveTo_len l day i
  unfold oldTo; rw [List.length_map]; exact this
theorem leftTo_all (l : List Edg) (day : Int) : leftTo l day l.length = leftP l day := rfl
/-- The lists of numbers of the edges that are left. -/
def oldL (l : List Edg) (day : Int) : List Int := oldTo l day l.length
theorem oldL_len (l : List Edg) (day : Int) : (oldL l day).length = (leftP l day).length := by simp [oldL, oldTo, leftP, aliveI, aliveTo]
theorem left_mig {l : List Edg} {day : Int} (h : ∀ e ∈ l, MigIn e.does) : ∀ e ∈ leftP l day, MigIn e.does := fun e he => by
  obtain ⟨i, hi, rfl⟩ := List.mem_map.1 he
  have := (alive_lt hi).1
  exact h _ (by rw [getElem!_pos l i this]; exact List.getElem_mem this)
/-- What the law asks of Best's routes with and without the edges that have expired. -/
structure SameBut (old : List Int) (a b : Rou) : Prop where
  len : a.edges.length = b.edges.length
  cost : a.cost = b.cost
  life : a.life = b.life
  claims : a.claims = b.claims
  at_ : ∀ k, k < a.edges.length → 0 ≤ b.edges[k]! ∧ b.edges[k]! < (old.length : Int) ∧ a.edges[k]! = old[(b.edges[k]!).toNat]!
theorem expired_len {l : List Edg} {life : List Int} {f d hops : Int} {za zb : List RouM} (hl : validE l = true) (ha : BestIs l life f d hops za) (hb : BestIs (leftP l d) life f d hops zb) : za.length = zb.length := by
  have h1 := ha.len
  have h2 := hb.len
  rw [best_left hl, List.length_map] at h1
  omega
theorem expired_at {l : List Edg} {life : List Int} {f d hops : Int} {za zb : List RouM} (hl : validE l = true) (hh : 0 ≤ hops) (ha : BestIs l life f d hops za) (hb : BestIs (leftP l d) life f d hops zb) {i : Nat} (hi : i < za.length) : SameBut (oldL l d) (za[i]!).r (zb[i]!).r := by
  have hlen := expired_len hl ha hb
  have h1 := ha.at i hi (by rw [ha.len]; exact hi)
  have h2 := hb.at i (by omega) (by rw [hb.len]; omega)
  have hof := (hb.of (left_valid hl d) hh (i := i) (by omega)).1
  have hin := (of_facts hof).2.2.2.2.2.1
  have he : (za[i]!).r = renR (aliveI l d) (zb[i]!).r := by
    rw [← h1, ← h2]
    simp only [best_left hl, List.getElem_map]
  rw [he]
  generalize (zb[i]!).r = b at *
  have hlf : (leftP l d).length = (oldL l d).length := (oldL_len l d).symm
  refine ⟨by simp [renR, renE], rfl, rfl, rfl, fun k hk => ?_⟩
  have hk' : k < b.edges.length := by simpa [renR, renE] using hk
  have hm := hin b.edges[k]! (by rw [getElem!_pos b.edges k hk']; exact List.getElem_mem hk')
  refine ⟨hm.1, by omega, ?_⟩
  show (renE (aliveI l d) b.edges)[k]! = _
  have ho : (b.edges[k]!).toNat < (aliveI l d).length := by
    have : (oldL l d).length = (aliveI l d).length := by simp [oldL, oldTo, aliveI, aliveTo]
    omega
  rw [getElem!_pos (renE (aliveI l d) b.edges) k (by simpa [renE] using hk')]
  simp only [renE, List.getElem_map]
  rw [← getElem!_pos b.edges k hk', getElem!_pos (oldL l d) (b.edges[k]!).toNat (by simpa [oldL, oldTo, aliveI, aliveTo] using ho), getElem!_pos (aliveI l d) _ ho]
  simp [oldL, oldTo, aliveI, aliveTo]
theorem expired_over {l : List Edg} {life : List Int} {f d hops more : Int} {za zc : List RouM} (hl : validE l = true) (hh : 0 ≤ hops) (hm : 0 ≤ more) (ha : BestIs l life f d hops za) (hc : BestIs l life f d (hops + more) zc) {i : Nat} (hi : i < za.length) : ∃ k, k < zc.length ∧ betterP (zc[k]!).r (za[i]!).r = true := by
  obtain ⟨o1, o2, _⟩ := ha.of hl hh hi
  exact hc.over hl (by omega) o1 (by omega)
/-- The cells of an edge in a row, with its claims. -/
theorem EdgesT.cells {w : World} {v : Value} {l : List Edg} (h : EdgesT w v l) {i : Nat} (hi : i < l.length) : ∃ b o cap u, v = .slice (some ⟨b, o, none⟩) l.length cap ∧ b < w.heap.size ∧ w.cell? ⟨b, o + i * 7, none⟩ = some (.int .i64 l[i]!.cost) ∧ w.cell? ⟨b, o + i * 7 + 1, none⟩ = some (.int .i64 l[i]!.until_) ∧ w.cell? ⟨b, o + i * 7 + 2, none⟩ = some (.int .i64 l[i]!.does.id) ∧ w.cell? ⟨b, o + i * 7 + 3, none⟩ = some (.int .i64 l[i]!.does.frm) ∧ w.cell? ⟨b, o + i * 7 + 4, none⟩ = some (.int .i64 l[i]!.does.to) ∧ w.cell? ⟨b, o + i * 7 + 5, none⟩ = some (.bool l[i]!.does.back) ∧ w.cell? ⟨b, o + i * 7 + 6, none⟩ = some u ∧ ClaimsT 104 w u l[i]!.does.keep := by
  obtain ⟨vs, h1, h2, h3⟩ := h
  obtain ⟨a, cap, rfl, _, _, hc⟩ := h2.at
  obtain ⟨b, o, rfl, hb, hx⟩ := hc (by omega)
  have p := edC_at l vs h1 i hi
  exact ⟨b, o, cap, vs[i]!, rfl, hb, hx _ _ (p 0 _ rfl), hx _ _ (p 1 _ rfl), hx _ _ (p 2 _ rfl), hx _ _ (p 3 _ rfl), hx _ _ (p 4 _ rfl), hx _ _ (p 5 _ rfl), hx _ _ (p 6 _ rfl), h3 i hi⟩
/-- Edges and numbers in two rows of the call's own. -/
structure TwoOwn (W w : World) (lv ov : Value) (le : List Edg) (lo : List Int) : Prop where
  below : Below W.heap.size W w
  edges : ∃ us, EdOwn W.heap.size w lv le us
  old : w.ownsRow W.heap.size 3 1 ov lo.length (ints lo)
theorem TwoOwn.nil (W : World) : TwoOwn W W (.slice none 0 0) (.slice none 0 0) [] [] := ⟨Below.refl _ _, ⟨[], EdOwn.nil _ _⟩, World.ownsRow_nil _ _ _ _⟩
theorem TwoOwn.later {W w w' : World} {lv ov : Value} {le : List Edg} {lo : List Int} (h : TwoOwn W w lv ov le lo) (hb : Below w.heap.size w w') : TwoOwn W w' lv ov le lo := by
  obtain ⟨us, hO⟩ := h.edges
  exact ⟨h.below.trans (hb.mono h.below.size), ⟨us, hO.below hb⟩, own_below h.old hb⟩
theorem TwoOwn.addE {W w w' : World} {lv ov v' : Value} {le : List Edg} {lo : List Int} {us : List Value} (h : TwoOwn W w lv ov le lo) (hO : EdOwn W.heap.size w lv le us) (e : Edg) (u : Value) (hu : ClaimsT 104 w u e.does.keep)
    (hown : w'.ownsRow W.heap.size 30 7 v' (le.length + 1) (edC le us ++ edgC e u)) (hg : w.grownBy w' lv.ownBlock) : TwoOwn W w' v' ov (le ++ [e]) lo :=
  ⟨h.below.grown hg h.below.size (fun g hq => (own_block hO.own hq).2.1), ⟨_, hO.snoc e u hu hown hg⟩, own_keepTy h.old (by decide) (KeepTy.grown hO.own hg (X := [30]) (by decide))⟩
theorem TwoOwn.addO {W w w' : World} {lv ov v' : Value} {le : List Edg} {lo : List Int} (h : TwoOwn W w lv ov le lo) (n : Int)
    (hown : w'.ownsRow W.heap.size 3 1 v' (lo.length + 1) (ints lo ++ [.int .i64 n])) (hg : w.grownBy w' ov.ownBlock) : TwoOwn W w' lv v' le (lo ++ [n]) := by
  obtain ⟨us, hO⟩ := h.edges
  have hk := KeepTy.grown h.old hg (X := [3]) (by decide)
  exact ⟨h.below.grown hg h.below.size (fun g hq => (own_block h.old hq).2.1), ⟨us, hO.len, own_keepTy hO.own (by decide) hk, fun i hi => (hO.keeps i hi).keepTy (by decide) (by decide) hk⟩, by rw [List.length_append, ints_snoc]; exact hown⟩
end Go.Proofs.YtpeandbcdaikbaaGreatDoor
