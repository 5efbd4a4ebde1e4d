/-
 A range over an iterator that makes what it hands on (Ok says what is known of it in memory): the law, in the shape of the library's; general.
 Routes of chapter 11: rows whose blocks' type is known.
 Routes of chapter 11: package abstraction: small contracts, the table of kinds.
-/
import Derived.Test.YtpeandbcdaikbaaGreatDoorYA
import Derived.RangeFuncNested
import Derived.RangeFuncBound
import Derived.RangeFuncCalls
import Derived.RangeFuncLeaves
import Derived.RangeFuncBox
import Derived.Shelf.Abstract
import Derived.Shelf.RegionOpen
import Derived.OwnWalkIn
import Derived.TacticsInMore
import Derived.LoopNIn
import Derived.LoopIn
import Derived.Test.YtpeandbcdaikbaaGreatDoorYC
import Derived.Deep.MidRow
namespace Go.Proofs.YtpeandbcdaikbaaGreatDoor
open Go.RowKit Go.Shelf

/-- The iterator's contract. -/
def SeqStopsR {α : Type} (F : Fence) (n : Nat) (P : Program) (g : Nat) (lb : Array Value) (encs : α → Array Value) (Kp : World → World → Prop) (S Sp : List α → Prop) (N : Nat) (Ok : α → World → Prop) (w : World) : Prop :=
 ∀ (l : Nat) (J Jx : List α → World → Prop) (W : World), Below w.heap.size w W → OwnFrom W.heap.size J → OwnFrom W.heap.size Jx →
  (∀ pre x W1, J pre W1 → Ok x W1 → pre.length < N → YieldAt F (n - 1) P l (encs x) W1 fun e W' =>
   (e = .returned (.bool true) ∧ J (pre ++ [x]) W' ∧ Kp W1 W') ∨ (e = .returned (.bool false) ∧ Jx (pre ++ [x]) W')) →
  J [] W →
  CallsIn F n P g (#[.func (.yield l) #[] #[]] ++ lb) W fun e W' => (∃ v, e = .returned v) ∧ ((∃ xs, S xs ∧ J xs W') ∨ (∃ pre, Sp pre ∧ Jx pre W'))

variable {F : Fence} {n : Nat} {P : Program}
theorem wpIn_rangeFunc_ok {α : Type} {g : Operand} {ps : Array Tmp} {assign body : Code} {Q : Exit → Act → World → Prop} {a : Act} {w : World}
  (hro : F.round = none) (h1 : 1 ≤ n) {gf : Nat} {lb : Array Value} (hg : a.eval g = .func (.func gf) #[] lb) (hFg : F.fn gf) (eg : ∀ args w, (callFunc gf args).run P w = .ok (.enter gf args) w)
  {encs : α → Array Value} {Kp : World → World → Prop} {S Sp : List α → Prop} {N : Nat} {Ok : α → World → Prop} {w0 : World} (hseq : SeqStopsR F (n - 1) P gf lb encs Kp S Sp N Ok w0)
  (hKt : ∀ {A B C : World}, Kp A B → Kp B C → Kp A C) (hKb : ∀ (W : World) (l : Nat) (o o' : Obj), w.heap.size ≤ l → W.heap[l]? = some o → o.isCells = false → o.isWalk = false → Kp W (W.putObj l o')) (hb0 : Below w0.heap.size w0 w) (hps : ∀ x, (encs x).size = ps.size)
  (I : List α → World → Prop) (Ix : Code → List α → World → Prop) (hI : OwnFrom w.heap.size I) (hIx : ∀ c, OwnFrom w.heap.size (Ix c)) (h0 : I [] w) (Ax : α → Act → World → Prop) (hAx : ∀ x a', OwnFrom w.heap.size (fun (_ : Unit) W => Ax x a' W))
  (hassign : ∀ (l : Nat) (pre : List α) (x : α) (W : World) (K : Act → World → Prop), I pre W → Ok x W → (∀ a' W', KeepsFrom w.heap.size W W' → Kp W W' → I pre W' → Ax x a' W' → K a' W') →
   assign.wpIn (F.inRound l) (n - 1 - 1) P (Exit.then K (fun _ _ _ => False)) { tmps := (ps.zip (encs x)).foldl (fun t (p, v) => t.setIfInBounds p v) a.tmps, defers := [] } W)
  (hbody : ∀ (l : Nat) (pre : List α) (x : α) (a' : Act) (W : World), w.heap.size ≤ l → (∃ r, W.heap[l]? = some (.loop r)) → I pre W → Ax x a' W → pre.length < N → body.wpIn (F.inRound l) (n - 1 - 1) P (ownPostG w.heap.size Kp I Ix (pre ++ [x]) W) a' W)
  (hdone : ∀ (D : Nat) (xs : List α) (W : World), w.heap.size ≤ D → S xs → I xs W → W.heap[D]? = some (.deferred (some [])) → Q .normal { a with defers := { target := .collected D, args := #[] } :: a.defers } W)
  (hstop : ∀ (D : Nat) (c : Code) (pre : List α) (W : World), w.heap.size ≤ D → Sp pre → Ix c pre W → W.heap[D]? = some (.deferred (some [])) → c.wpIn F n P Q { a with defers := { target := .collected D, args := #[] } :: a.defers } W) :
  (Code.rangeFunc g ps assign body).wpIn F n P Q a w := by
 refine wpIn_rangeFunc ?_
 intro fn hfn
 rw [hro]
 obtain ⟨rec, hrec⟩ : ∃ rec : LoopState → Option Code → Loop, rec = fun st pe => { state := st, pending := pe, fn, tmps := a.tmps, params := ps, assign, body, defers := w.heap.size } := ⟨_, rfl⟩
 obtain ⟨W1, hW1⟩ : ∃ W1, (w.alloc (.deferred (some []))).alloc (.loop (rec .ready none)) = W1 := ⟨_, rfl⟩
 have hL1 : W1.heap[w.heap.size + 1]? = some (.loop (rec .ready none)) := by
  rw [← hW1]; have := World.alloc_heap_new (w.alloc (.deferred (some []))) (.loop (rec .ready none)); rwa [World.size_alloc] at this
 have hK1 : W1.heap[w.heap.size]? = some (.deferred (some [])) := by
  rw [← hW1]; exact (Below.heap_alloc _ _ _ (by simp)).trans (World.alloc_heap_new w _)
 have hI1 : I [] W1 := by rw [← hW1]; exact hI.alloc _ (hI.alloc _ h0)
 have hb1 : Below w0.heap.size w0 W1 := by
  rw [← hW1]; exact hb0.trans ((((Below.refl _ w).alloc (Nat.le_refl _) _).alloc (by simp) _).mono hb0.size)
 refine ⟨w.heap.size + 1, [{ target := .collected w.heap.size, args := #[] }], W1, { target := .fn (.func gf) lb, args := #[.func (.yield (w.heap.size + 1)) #[] #[]] }, W1, gf,
  #[.func (.yield (w.heap.size + 1)) #[] #[]] ++ lb, W1, ?_, ?_, ?_, ?_, fun _ => h1, ?_⟩
 ·
  rw [← hW1, hrec]; exact run_enterLoop_outer _ _ _ _ _
 ·
  simp only [resolve, hg]
  simp [go_sem]
 ·
  intro f' hf'; simp [Target.leads] at hf'; subst hf'; exact hFg
 ·
  simp [invoke, go_sem, eg]
 ·
  -- THE ITERATOR's CONTRACT, AT THE CALLER's INVARIANT WITH THE TWO FACTS OF BOOK-KEEPING BESIDE IT
  have hnw : ∀ {A : World} {row : Option Nat}, (∀ r, row = some r → W1.heap.size ≤ r ∧ ∃ o : Obj, A.heap[r]? = some o ∧ o.isCells = false) → (∀ r, row = some r → w.heap.size ≤ r ∧ ∃ o : Obj, A.heap[r]? = some o ∧ o.isCells = false) :=
   fun hr r e => by obtain ⟨hB, o⟩ := hr r e; exact ⟨by rw [← hW1] at hB; simp at hB; omega, o⟩
  have hfar : ∀ {A B : World} {row : Option Nat} {k : Nat} {o : Obj}, A.grownBy B row → (∀ r, row = some r → W1.heap.size ≤ r ∧ ∃ o : Obj, A.heap[r]? = some o ∧ o.isCells = false) → k < W1.heap.size → A.heap[k]? = some o → B.heap[k]? = some o :=
   fun hg hr hk ho => (hg.block _ (Array.getElem?_eq_some_iff.1 ho).1 (fun e => by have := (hr _ e.symm).1; omega)).trans ho
  have hs1 : w.heap.size + 1 < W1.heap.size := (Array.getElem?_eq_some_iff.1 hL1).1
  refine (hseq (w.heap.size + 1)
   (fun pre W => I pre W ∧ W.heap[w.heap.size + 1]? = some (.loop (rec .ready none)) ∧ W.heap[w.heap.size]? = some (.deferred (some [])))
   (fun pre W => ∃ c, Ix c pre W ∧ W.heap[w.heap.size + 1]? = some (.loop (rec .done (some c))) ∧ W.heap[w.heap.size]? = some (.deferred (some [])))
   W1 hb1
   (fun s A B row hs hg' hr => ⟨hI s A B row hs.1 hg' (hnw hr), hfar hg' hr hs1 hs.2.1, hfar hg' hr (by omega) hs.2.2⟩)
   (fun s A B row hs hg' hr => by
    obtain ⟨c, hc, hl, hk⟩ := hs
    exact ⟨c, hIx c s A B row hc hg' (hnw hr), hfar hg' hr hs1 hl, hfar hg' hr (by omega) hk⟩)
   ?_ ⟨hI1, hL1, hK1⟩).mono ?_
  ·
   -- ONE ROUND
   rintro pre x W ⟨hi, hl, hk⟩ hok hlen
   have hlt : w.heap.size + 1 < W.heap.size := (Array.getElem?_eq_some_iff.1 hl).1
   have hy := run_yield (P := P) (args := encs x) hl (by rw [hrec]; exact hps x)
   rw [hrec] at hy
   refine ⟨fn, _, assign, body, hy, roundIn_of_wpIn hfn (hassign _ pre x W _ hi hok ?_)⟩
   clear hy
   intro a' Wa hkfa hkpa hia hax
   -- THE ASSIGN CODE MAY HAVE LAID BLOCKS (a loop variable that an inner function captures is boxed): the two blocks of book-keeping lie as they lay
   replace hl := hkfa.same _ _ (by omega) hl rfl
   replace hk := hkfa.same _ _ (Nat.le_refl _) hk rfl
   replace hlt : w.heap.size + 1 < Wa.heap.size := (Array.getElem?_eq_some_iff.1 hl).1
   replace hi := hia
   clear hia
   revert hkpa hkfa
   generalize W = Wb
   intro hkfa hkpa
   obtain ⟨W, rfl⟩ : ∃ W, W = Wa := ⟨_, rfl⟩
   refine ⟨_, run_beginRound hl (by rw [hrec]), ?_⟩
   have hl2 : (W.putObj (w.heap.size + 1) (.loop { rec .ready none with state := .busy })).heap[w.heap.size + 1]? = some (.loop { rec .ready none with state := .busy }) := World.putObj_heap_same hlt
   have hk2 : (W.putObj (w.heap.size + 1) (.loop { rec .ready none with state := .busy })).heap[w.heap.size]? = some (.deferred (some [])) := (World.putObj_heap_other (by omega)).trans hk
   have hw2 : Kp W (W.putObj (w.heap.size + 1) (.loop { rec .ready none with state := .busy })) := hKb _ _ _ _ (by omega) hl rfl rfl
   refine wpIn_mono (hbody _ pre x a' _ (by omega) ⟨_, hl2⟩ (hI.putObj _ hi (by omega) hl rfl) ((hAx x a').putObj (s := ()) _ hax (by omega) hl rfl) hlen) ?_
   have fin : ∀ (jump : Option Code) (W3 : World), KeepsFrom w.heap.size (W.putObj (w.heap.size + 1) (.loop { rec .ready none with state := .busy })) W3 →
     (Instr.endRound (w.heap.size + 1) jump).run P W3 = .ok (.bool jump.isNone) (W3.putObj (w.heap.size + 1) (.loop (rec (if jump.isNone then .ready else .done) jump))) ∧
     W3.heap[w.heap.size + 1]? = some (.loop { rec .ready none with state := .busy }) ∧
     (W3.putObj (w.heap.size + 1) (.loop (rec (if jump.isNone then .ready else .done) jump))).heap[w.heap.size + 1]? = some (.loop (rec (if jump.isNone then .ready else .done) jump)) ∧
     (W3.putObj (w.heap.size + 1) (.loop (rec (if jump.isNone then .ready else .done) jump))).heap[w.heap.size]? = some (.deferred (some [])) := fun jump W3 hk3 => by
    have hl3 := hk3.same _ _ (by omega) hl2 rfl
    have := run_endRound (P := P) jump hl3
    rw [hrec] at this ⊢
    exact ⟨this, by rw [hrec] at hl3; exact hl3, World.putObj_heap_same (Array.getElem?_eq_some_iff.1 hl3).1, (World.putObj_heap_other (by omega)).trans (hk3.same _ _ (Nat.le_refl _) hk2 rfl)⟩
   rintro e a3 W3 hp
   cases e with
   | normal =>
    obtain ⟨hk3, hkp3, hi3⟩ := hp
    obtain ⟨hr, hl3, hl4, hk4⟩ := fin none W3 hk3
    exact ⟨_, _, hr, .inl ⟨rfl, ⟨hI.putObj _ hi3 (by omega) hl3 rfl, hl4, hk4⟩, hKt hkpa (hKt (hKt hw2 hkp3) (hKb _ _ _ _ (by omega) hl3 rfl rfl))⟩⟩
   | ret =>
    obtain ⟨hk3, hi3⟩ := hp
    obtain ⟨hr, hl3, hl4, hk4⟩ := fin (some .ret) W3 hk3
    exact ⟨_, _, hr, .inr ⟨rfl, .ret, (hIx _).putObj _ hi3 (by omega) hl3 rfl, hl4, hk4⟩⟩
   | exit id =>
    obtain ⟨hk3, hi3⟩ := hp
    obtain ⟨hr, hl3, hl4, hk4⟩ := fin (some (.exit id)) W3 hk3
    exact ⟨_, _, hr, .inr ⟨rfl, .exit id, (hIx _).putObj _ hi3 (by omega) hl3 rfl, hl4, hk4⟩⟩
   | goto t =>
    obtain ⟨hk3, hi3⟩ := hp
    obtain ⟨hr, hl3, hl4, hk4⟩ := fin (some (.goto t)) W3 hk3
    exact ⟨_, _, hr, .inr ⟨rfl, .goto t, (hIx _).putObj _ hi3 (by omega) hl3 rfl, hl4, hk4⟩⟩
   | panic ch => exact hp.elim
   | outgrown => exact hp.elim
  ·
   -- BEHIND THE ITERATOR
   rintro e W2 ⟨⟨v, rfl⟩, (⟨xs, hS, hi, hl, hk⟩ | ⟨pre, hSp, c, hi, hl, hk⟩)⟩
   ·
    exact ⟨none, _, by have := run_endLoop (P := P) hl (by rw [hrec]; simp); rw [hrec] at this; exact this, hdone _ xs _ (Nat.le_refl _) hS (hI.putObj _ hi (by omega) hl rfl) ((World.putObj_heap_other (by omega)).trans hk)⟩
   ·
    exact ⟨some c, _, by have := run_endLoop (P := P) hl (by rw [hrec]; simp); rw [hrec] at this; exact this, hstop _ c pre _ (Nat.le_refl _) hSp ((hIx c).putObj _ hi (by omega) hl rfl) ((World.putObj_heap_other (by omega)).trans hk)⟩
theorem room_of_none {F : Fence} (hd : F.depth = none) (k : Nat) : F.room k := fun d h => by rw [hd] at h; cases h
/-- Where no depth is asked the figures are all one. -/
theorem RoundIn.anyDepth {F : Fence} (hd : F.depth = none) {m m' : Nat} {P : Program} {l : Nat} {f : FuncId} {tmps : Array Value} {assign body : Code} {w : World} {R : Ending → World → Prop}
  (h : RoundIn F m P l f tmps assign body w R) : RoundIn F m' P l f tmps assign body w R := ⟨h.1, fun c cs _ => h.2 c cs (room_of_none hd _)⟩
theorem YieldAt.anyDepth {F : Fence} (hd : F.depth = none) {m : Nat} (m' : Nat) {P : Program} {l : Nat} {args : Array Value} {W : World} {R : Ending → World → Prop} (h : YieldAt F m P l args W R) : YieldAt F m' P l args W R := by
 obtain ⟨fn, tmps, assign, body, hy, hR⟩ := h
 exact ⟨fn, tmps, assign, body, hy, RoundIn.anyDepth hd hR⟩
/-- The marks of the ranges over functions that an activation has entered. -/
def Marks (B : Nat) : List Deferred → World → Prop
 | [], _ => True
 | d :: ds, W => (∃ D, d = { target := .collected D, args := #[] } ∧ B ≤ D ∧ W.heap[D]? = some (.deferred (some [])) ∧ ∀ e ∈ ds, e.target ≠ .collected D) ∧ Marks B ds W
theorem Marks.grown {B : Nat} : ∀ {ds : List Deferred} {W W' : World}, Marks B ds W → (∀ D, B ≤ D → W.heap[D]? = some (.deferred (some [])) → (∃ d ∈ ds, d.target = .collected D) → W'.heap[D]? = some (.deferred (some []))) → Marks B ds W'
 | [], _, _, _, _ => trivial
 | d :: ds, W, W', ⟨⟨D, h1, h2, h3, h4⟩, h5⟩, hk => ⟨⟨D, h1, h2, hk D h2 h3 ⟨d, List.mem_cons_self, by rw [h1]⟩, h4⟩, Marks.grown h5 fun D' hB hD ⟨e, he, ht⟩ => hk D' hB hD ⟨e, List.mem_cons_of_mem _ he, ht⟩⟩
theorem leaves_marks {B : Nat} {fn : Func} {tmps : Array Value} {R : Ending → World → Prop} {K : World → Prop} (hK : ∀ (W : World) (D : Nat) (o : Obj), B ≤ D → W.heap[D]? = some o → o.isCells = false → K W → K (W.putObj D (.deferred none)))
  (hend : ∀ W, K W → LeavesInM F n P fn tmps R [] .returning W) : ∀ (ds : List Deferred) (W : World), Marks B ds W → K W → LeavesInM F n P fn tmps R ds .returning W
 | [], W, _, hk => hend W hk
 | d :: ds, W, ⟨⟨D, hd, hB, hD, hne⟩, hm⟩, hk => by
  refine ⟨by simp, .inl ⟨D, W.putObj D (.deferred none), by rw [hd], run_takeDeferred hD, ?_⟩⟩
  refine leaves_marks hK hend ds _ (hm.grown fun D' hB' hD' ⟨e, he, ht⟩ => ?_) (hK W D _ hB hD rfl hk)
  have hx : D' ≠ D := fun h => hne e he (by rw [ht, h])
  exact (World.putObj_heap_other hx).trans hD'
end Go.Proofs.YtpeandbcdaikbaaGreatDoor
namespace Go.Proofs.YtpeandbcdaikbaaGreatDoor
open Go.RowKit Go.Shelf

/-- A slice whose elements' cells lie in a block of type T. -/
def RowT (w : World) (T : TypeId) (v : Value) (n : Nat) (xs : List Value) : Prop :=
 ∃ a cap, v = .slice a n cap ∧ n ≤ cap ∧ cap ≤ maxLen ∧ (0 < n → ∃ b o cur fz, a = some ⟨b, o, none⟩ ∧ w.heap[b]? = some (.cells cur T fz) ∧ ∀ j u, xs[j]? = some u → cur[o + j]? = some u)
theorem RowT.at {w : World} {T : TypeId} {v : Value} {n : Nat} {xs : List Value} (h : RowT w T v n xs) : SliceAt w w.heap.size v n xs := by
 obtain ⟨a, cap, hv, h1, h2, hc⟩ := h
 refine ⟨a, cap, hv, h1, h2, fun hn => ?_⟩
 obtain ⟨b, o, cur, fz, ha, hb, hx⟩ := hc hn
 refine ⟨b, o, ha, (Array.getElem?_eq_some_iff.1 hb).1, fun j u hu => ?_⟩
 simp only [World.cell?, hb]
 simpa using hx j u hu
theorem RowT.keep {w w' : World} {T : TypeId} {v : Value} {n : Nat} {xs : List Value} (h : RowT w T v n xs) (hk : ∀ (b : Nat) (cur : Array Value) (fz : Nat × Nat), w.heap[b]? = some (.cells cur T fz) → w'.heap[b]? = some (.cells cur T fz)) : RowT w' T v n xs := by
 obtain ⟨a, cap, hv, h1, h2, hc⟩ := h
 refine ⟨a, cap, hv, h1, h2, fun hn => ?_⟩
 obtain ⟨b, o, cur, fz, ha, hb, hx⟩ := hc hn
 exact ⟨b, o, cur, fz, ha, hk b cur fz hb, hx⟩
theorem RowT.below {w w' : World} {T : TypeId} {v : Value} {n : Nat} {xs : List Value} (h : RowT w T v n xs) (hb : Below w.heap.size w w') : RowT w' T v n xs :=
 h.keep fun b _ _ hc => (hb.block b (Array.getElem?_eq_some_iff.1 hc).1).trans hc
theorem RowT.of_own {w : World} {B s n : Nat} {e : TypeId} {v : Value} {xs : List Value} (h : w.ownsRow B e s v n xs) : RowT w e v n xs := by
 obtain ⟨hl, h⟩ := h
 rcases h with ⟨rfl, rfl⟩ | ⟨g, cap, cur, rfl, hB, hg, h1, h2, h3, h4⟩
 ·
  exact ⟨none, 0, rfl, Nat.le_refl _, by unfold maxLen; omega, fun h => by omega⟩
 ·
  refine ⟨_, cap, rfl, h1, h2, fun _ => ⟨g, 0, cur, _, rfl, hg, fun j u hu => ?_⟩⟩
  subst h4
  rw [List.getElem?_take] at hu
  split at hu
  ·
   rw [Nat.zero_add]
   simpa using hu
  ·
   cases hu
theorem RowT.len {w : World} {T : TypeId} {v : Value} {n : Nat} {xs : List Value} (h : RowT w T v n xs) : ∃ a cap, v = .slice a n cap ∧ n ≤ maxLen := by
 obtain ⟨a, cap, hv, h1, h2, _⟩ := h
 exact ⟨a, cap, hv, by omega⟩
/-- A slice value that is a row alone. -/
theorem SliceAt.at {w : World} {B : Nat} {v : Value} {n : Nat} {xs : List Value} (h : SliceAt w B v n xs) {j : Nat} {u : Value} (hu : xs[j]? = some u) (hn : 0 < n) : ∃ b o cap, v = .slice (some ⟨b, o, none⟩) n cap ∧ b < B ∧ w.cell? ⟨b, o + j, none⟩ = some u := by
 obtain ⟨a, cap, rfl, _, _, hc⟩ := h
 obtain ⟨b, o, rfl, hb, hx⟩ := hc hn
 exact ⟨b, o, cap, rfl, hb, hx j u hu⟩

/-! What keeps all cells but those of some types. -/
def KeepTy (X : List TypeId) (W W' : World) : Prop := ∀ (b : Nat) (cur : Array Value) (t : TypeId) (fz : Nat × Nat), t ∉ X → W.heap[b]? = some (.cells cur t fz) → W'.heap[b]? = some (.cells cur t fz)
theorem KeepTy.refl (X : List TypeId) (W : World) : KeepTy X W W := fun _ _ _ _ _ h => h
theorem KeepTy.trans {X : List TypeId} {A B C : World} (h : KeepTy X A B) (k : KeepTy X B C) : KeepTy X A C := fun b cur t fz ht hb => k b cur t fz ht (h b cur t fz ht hb)
theorem KeepTy.of_below {X : List TypeId} {W W' : World} (h : Below W.heap.size W W') : KeepTy X W W' := fun b cur t fz _ hb => (h.block b (Array.getElem?_eq_some_iff.1 hb).1).trans hb
theorem KeepTy.grown {X : List TypeId} {W W' : World} {v : Value} {n k s : Nat} {e : TypeId} {xs : List Value} (h : W.ownsRow n e s v k xs) (hg : W.grownBy W' v.ownBlock) (he : e ∈ X) : KeepTy X W W' := fun j cur t fz ht hj => by
 refine (hg.block j (Array.getElem?_eq_some_iff.1 hj).1 (fun ej => ?_)).trans hj
 rcases h.2 with ⟨rfl, _⟩ | ⟨g, cap, c, rfl, _, hgb, _⟩
 ·
  cases ej
 ·
  have : j = g := by simpa [Value.ownBlock] using ej
  subst this
  rw [hgb] at hj
  injection hj with hj
  injection hj with _ hT
  exact ht (hT ▸ he)
theorem KeepTy.box {X : List TypeId} {W : World} {b : Nat} {t : TypeId} {v u : Value} (h : Boxed W b t v) (he : t ∈ X) : KeepTy X W (W.setCell ⟨b, 0, none⟩ u) := fun j cur s fz hs hj => by
 refine (Below.heap_setCell W ⟨b, 0, none⟩ u j (fun ej => ?_)).trans hj
 have : j = b := by simpa using ej
 subst this
 rw [show W.heap[j]? = _ from h] at hj
 injection hj with hj
 injection hj with _ hT
 exact hs (hT ▸ he)
theorem KeepTy.putObj {X : List TypeId} {W : World} {l : Nat} {o o' : Obj} (hl : W.heap[l]? = some o) (ho : o.isCells = false) : KeepTy X W (W.putObj l o') := fun j cur s fz _ hj => by
 refine (World.putObj_heap_other (fun e => ?_)).trans hj
 subst e
 rw [hl] at hj
 injection hj with hj
 subst hj
 cases ho
theorem RowT.keepTy {X : List TypeId} {w w' : World} {T : TypeId} {v : Value} {n : Nat} {xs : List Value} (h : RowT w T v n xs) (hT : T ∉ X) (hk : KeepTy X w w') : RowT w' T v n xs := h.keep fun b cur fz hb => hk b cur T fz hT hb

/-! Steps and claims in memory. -/
def stC (s : Stp) : List Value := [.int .i64 s.kind, .int .i64 s.n]
def stL (l : List Stp) : List Value := l.flatMap stC
theorem stL_len (l : List Stp) : (stL l).length = l.length * 2 := by
 induction l with
 | nil => rfl
 | cons x l ih => simp [stL, stC] at ih ⊢; omega
theorem stL_snoc (l : List Stp) (x : Stp) : stL (l ++ [x]) = stL l ++ stC x := by simp [stL]
theorem stL_app (l m : List Stp) : stL (l ++ m) = stL l ++ stL m := by simp [stL]
theorem stL_at : ∀ (l : List Stp) (i j : Nat), i < l.length → j < 2 → (stL l)[i * 2 + j]? = (stC l[i]!)[j]?
 | [], i, _, h, _ => by simp at h
 | x :: l, 0, j, _, hj => by
  simp only [stL, List.flatMap_cons, Nat.zero_mul, Nat.zero_add, List.getElem!_cons_zero]
  rw [List.getElem?_append_left (by simp [stC]; omega)]
 | x :: l, i + 1, j, h, hj => by
  have ih := stL_at l i j (by simpa using h) hj
  rw [List.getElem!_cons_succ, ← ih]
  simp only [stL, List.flatMap_cons]
  rw [List.getElem?_append_right (by simp [stC]; omega)]
  congr 1
  simp [stC]; omega
theorem stL_one (l : List Stp) : ∀ u ∈ stL l, u.oneCell' = true := by
 intro u hu
 obtain ⟨s, _, hu⟩ := List.mem_flatMap.1 hu
 simp only [stC, List.mem_cons, List.not_mem_nil, or_false] at hu
 rcases hu with rfl | rfl <;> rfl
def StepsAt (w : World) (B : Nat) (v : Value) (l : List Stp) : Prop := SliceAt w B v l.length (stL l)
def StepsT (w : World) (v : Value) (l : List Stp) : Prop := RowT w 73 v l.length (stL l)
theorem StepsAt.cells {w : World} {B : Nat} {v : Value} {l : List Stp} (h : StepsAt w B v l) {i : Nat} (hi : i < l.length) : ∃ b o cap, v = .slice (some ⟨b, o, none⟩) l.length cap ∧ b < B ∧ w.cell? ⟨b, o + i * 2, none⟩ = some (.int .i64 l[i]!.kind) ∧ w.cell? ⟨b, o + i * 2 + 1, none⟩ = some (.int .i64 l[i]!.n) := by
 obtain ⟨a, cap, rfl, _, _, hc⟩ := h
 obtain ⟨b, o, rfl, hb, hx⟩ := hc (by omega)
 exact ⟨b, o, cap, rfl, hb, hx (i * 2) _ ((stL_at l i 0 hi (by omega)).trans rfl), hx (i * 2 + 1) _ ((stL_at l i 1 hi (by omega)).trans rfl)⟩
/-- The cells of claims (or of elements of Keep): each a property and a slice. -/
def clC : Clms → List Value → List Value
 | c :: l, v :: vs => .int .i64 c.1 :: v :: clC l vs
 | _, _ => []
theorem clC_at : ∀ (l : Clms) (vs : List Value), vs.length = l.length → ∀ i, i < l.length → (clC l vs)[i * 2]? = some (.int .i64 l[i]!.1) ∧ (clC l vs)[i * 2 + 1]? = some vs[i]!
 | c :: l, v :: vs, h, 0, _ => ⟨rfl, rfl⟩
 | c :: l, v :: vs, h, i + 1, hi => by
  have ih := clC_at l vs (by simpa using h) i (by simpa using hi)
  rw [show (i + 1) * 2 = i * 2 + 1 + 1 from by omega]
  exact ih
 | c :: l, [], h, _, _ => by simp at h
 | [], _, _, _, h => by simp at h
theorem clC_snoc : ∀ (l : Clms) (vs : List Value) (c : Int × List Stp) (v : Value), vs.length = l.length → clC (l ++ [c]) (vs ++ [v]) = clC l vs ++ [.int .i64 c.1, v]
 | [], [], _, _, _ => rfl
 | d :: l, u :: vs, c, v, h => by
  rw [List.cons_append, List.cons_append, clC, clC, clC_snoc l vs c v (by simpa using h)]
  rfl
 | [], _ :: _, _, _, h => by simp at h
 | _ :: _, [], _, _, h => by simp at h
theorem clC_len : ∀ (l : Clms) (vs : List Value), vs.length = l.length → (clC l vs).length = l.length * 2
 | [], [], _ => rfl
 | d :: l, u :: vs, h => by
  rw [clC]
  have := clC_len l vs (by simpa using h)
  simp only [List.length_cons, this]
  omega
 | [], _ :: _, h => by simp at h
 | _ :: _, [], h => by simp at h
def ClaimsAt (w : World) (B : Nat) (v : Value) (l : Clms) : Prop := ∃ vs : List Value, vs.length = l.length ∧ SliceAt w B v l.length (clC l vs) ∧ ∀ i, i < l.length → StepsAt w B vs[i]! l[i]!.2
def ClaimsT (T : TypeId) (w : World) (v : Value) (l : Clms) : Prop := ∃ vs : List Value, vs.length = l.length ∧ RowT w T v l.length (clC l vs) ∧ ∀ i, i < l.length → StepsT w vs[i]! l[i]!.2
theorem ClaimsT.keepTy {T : TypeId} {X : List TypeId} {w w' : World} {v : Value} {l : Clms} (h : ClaimsT T w v l) (hT : T ∉ X) (hS : 73 ∉ X) (hk : KeepTy X w w') : ClaimsT T w' v l := by
 obtain ⟨vs, h1, h2, h3⟩ := h
 exact ⟨vs, h1, h2.keepTy hT hk, fun i hi => (h3 i hi).keepTy hS hk⟩
theorem ClaimsT.below {T : TypeId} {w w' : World} {v : Value} {l : Clms} (h : ClaimsT T w v l) (hb : Below w.heap.size w w') : ClaimsT T w' v l := by
 obtain ⟨vs, h1, h2, h3⟩ := h
 exact ⟨vs, h1, h2.below hb, fun i hi => (h3 i hi).below hb⟩
theorem ClaimsT.at {T : TypeId} {w : World} {v : Value} {l : Clms} (h : ClaimsT T w v l) : ClaimsAt w w.heap.size v l := by
 obtain ⟨vs, h1, h2, h3⟩ := h
 exact ⟨vs, h1, h2.at, fun i hi => (h3 i hi).at⟩
theorem ClaimsAt.cells {w : World} {B : Nat} {v : Value} {l : Clms} (h : ClaimsAt w B v l) {i : Nat} (hi : i < l.length) : ∃ b o cap u, v = .slice (some ⟨b, o, none⟩) l.length cap ∧ b < B ∧ w.cell? ⟨b, o + i * 2, none⟩ = some (.int .i64 l[i]!.1) ∧ w.cell? ⟨b, o + i * 2 + 1, none⟩ = some u ∧ StepsAt w B u l[i]!.2 := by
 obtain ⟨vs, h1, ⟨a, cap, rfl, _, _, hc⟩, h3⟩ := h
 obtain ⟨b, o, rfl, hb, hx⟩ := hc (by omega)
 obtain ⟨p1, p2⟩ := clC_at l vs h1 i hi
 exact ⟨b, o, cap, vs[i]!, rfl, hb, hx _ _ p1, hx _ _ p2, h3 i hi⟩
theorem SliceAt.more {w : World} {B C : Nat} {v : Value} {n : Nat} {xs : List Value} (h : SliceAt w B v n xs) (hC : B ≤ C) : SliceAt w C v n xs := by
 obtain ⟨a, cap, hv, h1, h2, hc⟩ := h
 exact ⟨a, cap, hv, h1, h2, fun hn => by
  obtain ⟨b, o, ha, hb, hx⟩ := hc hn
  exact ⟨b, o, ha, by omega, hx⟩⟩
theorem StepsAt.below {w w' : World} {B C : Nat} {v : Value} {l : List Stp} (h : StepsAt w B v l) (hb : Below C w w') (hC : B ≤ C) : StepsAt w' B v l := SliceAt.below h hb hC
theorem StepsAt.later {w w' : World} {v : Value} {l : List Stp} (h : StepsAt w w.heap.size v l) (hb : Below w.heap.size w w') : StepsAt w' w'.heap.size v l := SliceAt.later h hb
theorem ClaimsAt.below {w w' : World} {B C : Nat} {v : Value} {l : Clms} (h : ClaimsAt w B v l) (hb : Below C w w') (hC : B ≤ C) : ClaimsAt w' B v l := by
 obtain ⟨vs, h1, h2, h3⟩ := h
 exact ⟨vs, h1, h2.below hb hC, fun i hi => (h3 i hi).below hb hC⟩
theorem ClaimsAt.more {w : World} {B C : Nat} {v : Value} {l : Clms} (h : ClaimsAt w B v l) (hC : B ≤ C) : ClaimsAt w C v l := by
 obtain ⟨vs, h1, h2, h3⟩ := h
 exact ⟨vs, h1, h2.more hC, fun i hi => SliceAt.more (h3 i hi) hC⟩
theorem ClaimsAt.later {w w' : World} {v : Value} {l : Clms} (h : ClaimsAt w w.heap.size v l) (hb : Below w.heap.size w w') : ClaimsAt w' w'.heap.size v l := (h.below hb (Nat.le_refl _)).more hb.size
/-- Numbers. -/
def NumsAt (w : World) (B : Nat) (v : Value) (l : List Int) : Prop := SliceAt w B v l.length (l.map (Value.int .i64))
def NumsT (w : World) (v : Value) (l : List Int) : Prop := RowT w 3 v l.length (l.map (Value.int .i64))
theorem NumsAt.cells {w : World} {B : Nat} {v : Value} {l : List Int} (h : NumsAt w B v l) {i : Nat} (hi : i < l.length) : ∃ b o cap, v = .slice (some ⟨b, o, none⟩) l.length cap ∧ b < B ∧ w.cell? ⟨b, o + i, none⟩ = some (.int .i64 l[i]!) := by
 obtain ⟨a, cap, rfl, _, _, hc⟩ := h
 obtain ⟨b, o, rfl, hb, hx⟩ := hc (by omega)
 exact ⟨b, o, cap, rfl, hb, hx i _ (by rw [List.getElem?_map, List.getElem?_eq_getElem hi, getElem!_pos l i hi]; rfl)⟩
/-- Edges: each of seven cells. -/
def edC : List Edg → List Value → List Value
 | e :: l, v :: vs => .int .i64 e.cost :: .int .i64 e.until_ :: .int .i64 e.does.id :: .int .i64 e.does.frm :: .int .i64 e.does.to :: .bool e.does.back :: v :: edC l vs
 | _, _ => []
theorem edC_at : ∀ (l : List Edg) (vs : List Value), vs.length = l.length → ∀ i, i < l.length → ∀ j u, [Value.int .i64 l[i]!.cost, .int .i64 l[i]!.until_, .int .i64 l[i]!.does.id, .int .i64 l[i]!.does.frm, .int .i64 l[i]!.does.to, .bool l[i]!.does.back, vs[i]!][j]? = some u → (edC l vs)[i * 7 + j]? = some u
 | e :: l, v :: vs, h, 0, _, j, u, hu => by
  rw [Nat.zero_mul, Nat.zero_add]
  match j, hu with
  | 0, hu => exact hu
  | 1, hu => exact hu
  | 2, hu => exact hu
  | 3, hu => exact hu
  | 4, hu => exact hu
  | 5, hu => exact hu
  | 6, hu => exact hu
 | c :: l, v :: vs, h, i + 1, hi, j, u, hu => by
  have ih := edC_at l vs (by simpa using h) i (by simpa using hi) j u hu
  rw [show (i + 1) * 7 + j = i * 7 + j + 1 + 1 + 1 + 1 + 1 + 1 + 1 from by omega]
  exact ih
 | c :: l, [], h, _, _, _, _, _ => by simp at h
 | [], _, _, _, h, _, _, _ => by simp at h
def EdgesAt (w : World) (B : Nat) (v : Value) (l : List Edg) : Prop := ∃ vs : List Value, vs.length = l.length ∧ SliceAt w B v l.length (edC l vs) ∧ ∀ i, i < l.length → ClaimsAt w B vs[i]! l[i]!.does.keep
theorem EdgesAt.cells {w : World} {B : Nat} {v : Value} {l : List Edg} (h : EdgesAt w B v l) {i : Nat} (hi : i < l.length) : ∃ b o cap u, v = .slice (some ⟨b, o, none⟩) l.length cap ∧ b < B ∧ w.cell? ⟨b, o + i * 7, none⟩ = some (.int .i64 l[i]!.cost) ∧ w.cell? ⟨b, o + i * 7 + 1, none⟩ = some (.int .i64 l[i]!.until_) ∧ w.cell? ⟨b, o + i * 7 + 2, none⟩ = some (.int .i64 l[i]!.does.id) ∧ w.cell? ⟨b, o + i * 7 + 3, none⟩ = some (.int .i64 l[i]!.does.frm) ∧ w.cell? ⟨b, o + i * 7 + 4, none⟩ = some (.int .i64 l[i]!.does.to) ∧ w.cell? ⟨b, o + i * 7 + 5, none⟩ = some (.bool l[i]!.does.back) ∧ w.cell? ⟨b, o + i * 7 + 6, none⟩ = some u ∧ ClaimsAt w B u l[i]!.does.keep := by
 obtain ⟨vs, h1, ⟨a, cap, rfl, _, _, hc⟩, h3⟩ := h
 obtain ⟨b, o, rfl, hb, hx⟩ := hc (by omega)
 have p := edC_at l vs h1 i hi
 exact ⟨b, o, cap, vs[i]!, rfl, hb, hx _ _ (p 0 _ rfl), hx _ _ (p 1 _ rfl), hx _ _ (p 2 _ rfl), hx _ _ (p 3 _ rfl), hx _ _ (p 4 _ rfl), hx _ _ (p 5 _ rfl), hx _ _ (p 6 _ rfl), h3 i hi⟩
theorem EdgesAt.below {w w' : World} {B C : Nat} {v : Value} {l : List Edg} (h : EdgesAt w B v l) (hb : Below C w w') (hC : B ≤ C) : EdgesAt w' B v l := by
 obtain ⟨vs, h1, h2, h3⟩ := h
 exact ⟨vs, h1, h2.below hb hC, fun i hi => (h3 i hi).below hb hC⟩
theorem EdgesAt.more {w : World} {B C : Nat} {v : Value} {l : List Edg} (h : EdgesAt w B v l) (hC : B ≤ C) : EdgesAt w C v l := by
 obtain ⟨vs, h1, h2, h3⟩ := h
 exact ⟨vs, h1, h2.more hC, fun i hi => (h3 i hi).more hC⟩
theorem EdgesAt.later {w w' : World} {v : Value} {l : List Edg} (h : EdgesAt w w.heap.size v l) (hb : Below w.heap.size w w') : EdgesAt w' w'.heap.size v l := (h.below hb (Nat.le_refl _)).more hb.size
end Go.Proofs.YtpeandbcdaikbaaGreatDoor
namespace Go.Proofs.YtpeandbcdaikbaaGreatDoor
open Go.RowKit Go.Shelf

attribute [local go_sem] Oper.semAt_some

theorem name_k {α : Type} {K : α → World → Prop} {a : α} {W : World} (h : ∀ w', w' = W → K a w') : K a W := h W rfl
def withinZ (a b c : Int) : Bool := decide (b ≤ a) && decide (a ≤ c)
theorem within_any (a b c : Int) (w : World) :
  Calls Tryz.prog 88 #[.int .i64 a, .int .i64 b, .int .i64 c] w fun e w' => e = .returned (.bool (withinZ a b c)) ∧ w' = w := by
 have hv : Hid (withinZ a b c = (decide (b ≤ a) && decide (a ≤ c))) := rfl
 by_cases h : b ≤ a
 ·
  have hd : decide (b ≤ a) = true := by simpa using h
  go_enter Tryz.func88, Tryz.ntmps88
  go_wp2
  go_ret
  exact ⟨by rw [hv.out, hd]; rfl, rfl⟩
 ·
  have hd : decide (b ≤ a) = false := by simpa using h
  go_enter Tryz.func88, Tryz.ntmps88
  go_wp2
  go_ret
  exact ⟨by rw [hv.out, hd]; rfl, rfl⟩
theorem none_any (n : Int) (w : World) :
  Calls Tryz.prog 111 #[.int .i64 n] w fun e w' => e = .returned (.bool (n == 0)) ∧ w' = w := by
 go_enter Tryz.func111, Tryz.ntmps111
 go_wp2
 go_ret
 exact ⟨rfl, rfl⟩
theorem kinds1_any (n : Int) (w : World) :
  Calls Tryz.prog 115 #[.int .i64 n] w fun e w' => e = .returned (.bool (n == 10 || n == 100 || n == 1000)) ∧ w' = w := by
 cases h1 : n == 10 with
 | true =>
  go_enter Tryz.func115, Tryz.ntmps115
  go_wp2
  go_ret
  exact ⟨rfl, rfl⟩
 | false =>
  cases h2 : n == 100 with
  | true =>
   go_enter Tryz.func115, Tryz.ntmps115
   go_wp2
   go_ret
   exact ⟨rfl, rfl⟩
  | false =>
   go_enter Tryz.func115, Tryz.ntmps115
   go_wp2
   go_ret
   exact ⟨rfl, rfl⟩
theorem kinds2_any (n : Int) (w : World) :
  Calls Tryz.prog 117 #[.int .i64 n] w fun e w' => e = .returned (.bool (withinZ n 0 6)) ∧ w' = w := by
 have hc := fun W => Lib.hid (within_any n 0 6 W)
 generalize withinZ n 0 6 = r at *
 go_enter Tryz.func117, Tryz.ntmps117
 go_wp2_with fail
 refine (hc _).out.mono ?_
 rintro e w1 ⟨rfl, rfl⟩
 go_wp2_with fail
 go_ret
 exact ⟨rfl, rfl⟩
def fnV (k : Nat) : Value := .func (.func k) #[] #[]
def eachV (b : Nat) : Value := .func (.func 134) #[] #[.pointer (some ⟨b, 0, none⟩)]
theorem each_any (k : Nat) (w : World) :
  Calls Tryz.prog 112 #[.func (.func k) #[] #[]] w fun e w' => e = .returned (eachV w.heap.size) ∧ w' = w.alloc (.cells #[.func (.func k) #[] #[]] 145) := by
 have hmf : ∀ (fn : Fn) (first cap : Array Value) (w : World), (Instr.makeFunc fn first cap).run Tryz.prog w = .ok (.func fn first cap) w := fun _ _ _ _ => rfl
 go_enter Tryz.func112, Tryz.ntmps112
 go_wp2
 go_ret
 exact ⟨rfl, rfl⟩
def propsOf : Nat → List Int
 | 1 => [1] | 2 => [1] | 3 => [3, 5] | 4 => [2] | 5 => [6, 7] | 6 => [1, 2, 3, 4, 5, 6, 7, 8] | _ => []
def numV : Nat → Value
 | 3 => fnV 115 | 4 => fnV 117 | _ => fnV 111
def rowV (b n : Nat) : Value := .slice (some ⟨b, 0, none⟩) n n
/-- The table's cells: the slices of properties lie in the blocks H + 1, .. -/
def kindsL (H : Nat) : List Value :=
 [.slice none 0 0, .nilFunc, .nilFunc,
  rowV (H + 1) 1, numV 1, eachV (H + 1 + 1),
  rowV (H + 1 + 1 + 1) 1, numV 2, eachV (H + 1 + 1 + 1 + 1),
  rowV (H + 1 + 1 + 1 + 1 + 1) 2, numV 3, eachV (H + 1 + 1 + 1 + 1 + 1 + 1),
  rowV (H + 1 + 1 + 1 + 1 + 1 + 1 + 1) 1, numV 4, eachV (H + 1 + 1 + 1 + 1 + 1 + 1 + 1 + 1),
  rowV (H + 1 + 1 + 1 + 1 + 1 + 1 + 1 + 1 + 1) 2, numV 5, fnV 119,
  rowV (H + 1 + 1 + 1 + 1 + 1 + 1 + 1 + 1 + 1 + 1) 8, numV 6, fnV 120]
def propB (H : Nat) : Nat → Nat
 | 1 => H + 1 | 2 => H + 1 + 1 + 1 | 3 => H + 1 + 1 + 1 + 1 + 1 | 4 => H + 1 + 1 + 1 + 1 + 1 + 1 + 1 | 5 => H + 1 + 1 + 1 + 1 + 1 + 1 + 1 + 1 + 1 | _ => H + 1 + 1 + 1 + 1 + 1 + 1 + 1 + 1 + 1 + 1
def zero21 : List Value := [.slice none 0 0, .nilFunc, .nilFunc, .slice none 0 0, .nilFunc, .nilFunc, .slice none 0 0, .nilFunc, .nilFunc, .slice none 0 0, .nilFunc, .nilFunc, .slice none 0 0, .nilFunc, .nilFunc, .slice none 0 0, .nilFunc, .nilFunc, .slice none 0 0, .nilFunc, .nilFunc]
set_option maxRecDepth 100000 in
set_option maxHeartbeats 4000000 in
theorem kinds_any (w : World) :
  Calls Tryz.prog 87 #[] w fun e w' => e = .returned (.agg (kindsL w.heap.size).toArray) ∧ (∀ k, 1 ≤ k → k ≤ 6 → Arr w' (propB w.heap.size k) 3 ((propsOf k).map (Value.int .i64))) ∧ Below w.heap.size w w' := by
 have he := fun k W => Lib.hid (each_any k W)
 unfold eachV at he
 go_enter Tryz.func87, Tryz.ntmps87
 go_wp2_with fail
 refine (he _ _).out.mono ?_
 rintro e w1 ⟨rfl, rfl⟩
 go_wp2_with fail
 refine (he _ _).out.mono ?_
 rintro e w1 ⟨rfl, rfl⟩
 go_wp2_with fail
 refine (he _ _).out.mono ?_
 rintro e w1 ⟨rfl, rfl⟩
 go_wp2_with fail
 refine (he _ _).out.mono ?_
 rintro e w1 ⟨rfl, rfl⟩
 simp only [World.size_alloc]
 refine name_k fun W hW => ?_
 have hA : Arr W w.heap.size 125 zero21 := by rw [hW]; repeat (first | exact Arr.new rfl rfl | refine Arr.alloc ?_ _)
 have k1 : Arr W (w.heap.size + 1) 3 [.int .i64 1] := by rw [hW]; exact (((((((Arr.new rfl (by simp)).alloc _).alloc _).alloc _).alloc _).alloc _).alloc _).alloc _
 have k3 : Arr W (w.heap.size + 1 + 1 + 1) 3 [.int .i64 1] := by rw [hW]; exact (((((Arr.new rfl (by simp)).alloc _).alloc _).alloc _).alloc _).alloc _
 have k5 : Arr W (w.heap.size + 1 + 1 + 1 + 1 + 1) 3 [.int .i64 3, .int .i64 5] := by rw [hW]; exact (((Arr.new rfl (by simp)).alloc _).alloc _).alloc _
 have k7 : Arr W (w.heap.size + 1 + 1 + 1 + 1 + 1 + 1 + 1) 3 [.int .i64 2] := by rw [hW]; exact (Arr.new rfl (by simp)).alloc _
 have hsz : W.heap.size = w.heap.size + 1 + 1 + 1 + 1 + 1 + 1 + 1 + 1 + 1 := by rw [hW]; simp
 have hB : Below w.heap.size w W := by rw [hW]; repeat (first | exact Below.refl _ _ | refine Below.alloc ?_ (by (try simp only [World.size_alloc]); omega) _)
 clear hW he
 replace hA := Lib.hid hA
 replace k1 := Lib.hid k1
 replace k3 := Lib.hid k3
 replace k5 := Lib.hid k5
 replace k7 := Lib.hid k7
 replace hB := Lib.hid hB
 go_wp2_with (refine arr_store rfl 125 _ _ rfl w.heap.size rfl (vs := kindsL w.heap.size) rfl ((hA.out.alloc _).alloc _) (n := 21) (by kernel_rfl) rfl rfl rfl ?_)
 obtain ⟨Wb, hWb⟩ : ∃ Wb, Wb = (W.alloc (.cells #[.int .i64 6, .int .i64 7] 3)).alloc (.cells #[.int .i64 1, .int .i64 2, .int .i64 3, .int .i64 4, .int .i64 5, .int .i64 6, .int .i64 7, .int .i64 8] 3) := ⟨_, rfl⟩
 have hA' : Arr Wb w.heap.size 125 zero21 := by rw [hWb]; exact (hA.out.alloc _).alloc _
 have k1' : Arr Wb (w.heap.size + 1) 3 [.int .i64 1] := by rw [hWb]; exact (k1.out.alloc _).alloc _
 have k3' : Arr Wb (w.heap.size + 1 + 1 + 1) 3 [.int .i64 1] := by rw [hWb]; exact (k3.out.alloc _).alloc _
 have k5' : Arr Wb (w.heap.size + 1 + 1 + 1 + 1 + 1) 3 [.int .i64 3, .int .i64 5] := by rw [hWb]; exact (k5.out.alloc _).alloc _
 have k7' : Arr Wb (w.heap.size + 1 + 1 + 1 + 1 + 1 + 1 + 1) 3 [.int .i64 2] := by rw [hWb]; exact (k7.out.alloc _).alloc _
 have k9' : Arr Wb (w.heap.size + 1 + 1 + 1 + 1 + 1 + 1 + 1 + 1 + 1) 3 [.int .i64 6, .int .i64 7] := by rw [hWb]; exact (Arr.new rfl hsz.symm).alloc _
 have ka' : Arr Wb (w.heap.size + 1 + 1 + 1 + 1 + 1 + 1 + 1 + 1 + 1 + 1) 3 [.int .i64 1, .int .i64 2, .int .i64 3, .int .i64 4, .int .i64 5, .int .i64 6, .int .i64 7, .int .i64 8] := by rw [hWb]; exact Arr.new rfl (by rw [World.size_alloc, hsz])
 have hB' : Below w.heap.size w Wb := by rw [hWb]; exact (hB.out.alloc (by omega) _).alloc (by rw [World.size_alloc, hsz]; omega) _
 rw [← hWb]
 refine bodyPost_ret (arr_result (p := 0) (ty := 125) (n := 21) (by kernel_rfl) _ (hA'.setAll (vs := kindsL w.heap.size) rfl) rfl Tryz.underlying125 rfl (by kernel_rfl) rfl) rfl ?_
 refine ⟨rfl, fun k h1 h6 => ?_, Below.setCells _ _ _ _ hB' (Nat.le_refl _)⟩
 obtain rfl | rfl | rfl | rfl | rfl | rfl : k = 1 ∨ k = 2 ∨ k = 3 ∨ k = 4 ∨ k = 5 ∨ k = 6 := by omega
 ·
  exact Arr.setCells_other _ _ _ _ k1' (by show w.heap.size ≠ propB w.heap.size _; simp only [propB]; omega)
 ·
  exact Arr.setCells_other _ _ _ _ k3' (by show w.heap.size ≠ propB w.heap.size _; simp only [propB]; omega)
 ·
  exact Arr.setCells_other _ _ _ _ k5' (by show w.heap.size ≠ propB w.heap.size _; simp only [propB]; omega)
 ·
  exact Arr.setCells_other _ _ _ _ k7' (by show w.heap.size ≠ propB w.heap.size _; simp only [propB]; omega)
 ·
  exact Arr.setCells_other _ _ _ _ k9' (by show w.heap.size ≠ propB w.heap.size _; simp only [propB]; omega)
 ·
  exact Arr.setCells_other _ _ _ _ ka' (by show w.heap.size ≠ propB w.heap.size _; simp only [propB]; omega)
end Go.Proofs.YtpeandbcdaikbaaGreatDoor
