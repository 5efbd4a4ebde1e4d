/-
 A range over an iterator that is never stopped, and makes what it hands on; what the caller's rounds keep; general.
 Routes of chapter 11: the routes of the ways that begin with a way, in the order in which plan.from produces them; what is known of them in memory.
 Routes of chapter 11: slices.AppendSeq over an iterator of routes that is never stopped.
 A loop inside a fence whose rounds lay deferred calls: a frame as a function of its slots; general.
 Routes of chapter 11: plan.from: the iterator hands on the routes of the ways that begin with a way, in order.
-/
import Derived.Test.YtpeandbcdaikbaaGreatDoorYD
import Derived.Test.YtpeandbcdaikbaaGreatDoorYL
import Derived.Maps.AppendAt
import Derived.Sort.CutIn
namespace Go.Proofs.YtpeandbcdaikbaaGreatDoor
open Go.RowKit Go.Shelf

/-- The iterator's contract, where each round asks for more. -/
def SeqAllR {α : Type} (F : Fence) (n : Nat) (P : Program) (g : Nat) (lb : Array Value) (encs : α → Array Value) (Kp : World → World → Prop) (S : List α → Prop) (N : Nat) (Ok : α → World → Prop) (w : World) : Prop :=
 ∀ (l : Nat) (J : List α → World → Prop) (W : World), Below w.heap.size w W → OwnFrom W.heap.size J →
  (∀ pre x W1, J pre W1 → Ok x W1 → pre.length < N → YieldAt F (n - 1) P l (encs x) W1 fun e W' =>
   e = .returned (.bool true) ∧ J (pre ++ [x]) W' ∧ Kp W1 W' ∧ KeepsFrom W.heap.size W1 W') →
  J [] W →
  CallsIn F n P g (#[.func (.yield l) #[] #[]] ++ lb) W fun e W' => (∃ v, e = .returned v) ∧ ∃ xs, S xs ∧ J xs W'
theorem keepsFrom_mono {B C : Nat} {W W' : World} (h : KeepsFrom B W W') (hC : B ≤ C) : KeepsFrom C W W' := ⟨h.size, fun k o hk => h.same k o (Nat.le_trans hC hk)⟩
theorem keepsFrom_putObj {B l : Nat} (W : World) (hl : l < B) (o : Obj) : KeepsFrom B W (W.putObj l o) :=
 ⟨by simp [World.putObj], fun k _ hk hx _ => (World.putObj_heap_other (by omega)).trans hx⟩
theorem ownFrom_more {β : Type} {B C : Nat} {I : β → World → Prop} (h : OwnFrom B I) (hC : B ≤ C) : OwnFrom C I := fun s W W' row hs hg hr => h s W W' row hs hg fun r e => ⟨Nat.le_trans hC (hr r e).1, (hr r e).2⟩
theorem grown_of_below {W W' : World} (h : Below W.heap.size W W') : W.grownBy W' none := ⟨h.os, h.tape, h.output, h.size, fun k hk _ => h.block k hk⟩
theorem ownFrom_later {β : Type} {B : Nat} {I : β → World → Prop} (h : OwnFrom B I) {s : β} {W W' : World} (hs : I s W) (hb : Below W.heap.size W W') : I s W' := h s W W' none hs (grown_of_below hb) (fun r e => by cases e)

variable {F : Fence} {n : Nat} {P : Program}
theorem wpIn_rangeFunc_all {α : Type} {g : Operand} {ps : Array Tmp} {assign body : Code} {Q : Exit → Act → World → Prop} {a : Act} {w : World}
  (hro : F.round = none) (h1 : 1 ≤ n) {gf : Nat} {lb : Array Value} (hg : a.eval g = .func (.func gf) #[] lb) (hFg : F.fn gf) (eg : ∀ args w, (callFunc gf args).run P w = .ok (.enter gf args) w)
  {encs : α → Array Value} {Kp : World → World → Prop} {S : List α → Prop} {N : Nat} {Ok : α → World → Prop} {w0 : World} (hseq : SeqAllR F (n - 1) P gf lb encs Kp S N Ok w0)
  (hKt : ∀ {A B C : World}, Kp A B → Kp B C → Kp A C) (hKb : ∀ (W : World) (l : Nat) (o o' : Obj), w.heap.size ≤ l → W.heap[l]? = some o → o.isCells = false → o.isWalk = false → Kp W (W.putObj l o')) (hb0 : Below w0.heap.size w0 w) (hps : ∀ x, (encs x).size = ps.size)
  (I : List α → World → Prop) (hI : OwnFrom w.heap.size I) (h0 : I [] w) (Ax : α → Act → World → Prop) (hAx : ∀ x a', OwnFrom w.heap.size (fun (_ : Unit) W => Ax x a' W))
  (hassign : ∀ (l : Nat) (pre : List α) (x : α) (W : World) (K : Act → World → Prop), I pre W → Ok x W → (∀ a' W', KeepsFrom w.heap.size W W' → Kp W W' → I pre W' → Ax x a' W' → K a' W') →
   assign.wpIn (F.inRound l) (n - 1 - 1) P (Exit.then K (fun _ _ _ => False)) { tmps := (ps.zip (encs x)).foldl (fun t (p, v) => t.setIfInBounds p v) a.tmps, defers := [] } W)
  (hbody : ∀ (l : Nat) (pre : List α) (x : α) (a' : Act) (W : World), w.heap.size ≤ l → (∃ r, W.heap[l]? = some (.loop r)) → I pre W → Ax x a' W → pre.length < N → body.wpIn (F.inRound l) (n - 1 - 1) P (ownPostG w.heap.size Kp I (fun _ _ _ => False) (pre ++ [x]) W) a' W)
  (hdone : ∀ (D : Nat) (xs : List α) (W : World), w.heap.size ≤ D → S xs → I xs W → W.heap[D]? = some (.deferred (some [])) → Q .normal { a with defers := { target := .collected D, args := #[] } :: a.defers } W) :
  (Code.rangeFunc g ps assign body).wpIn F n P Q a w := by
 refine wpIn_rangeFunc ?_
 intro fn hfn
 rw [hro]
 obtain ⟨rec, hrec⟩ : ∃ rec : LoopState → Option Code → Loop, rec = fun st pe => { state := st, pending := pe, fn, tmps := a.tmps, params := ps, assign, body, defers := w.heap.size } := ⟨_, rfl⟩
 obtain ⟨W1, hW1⟩ : ∃ W1, (w.alloc (.deferred (some []))).alloc (.loop (rec .ready none)) = W1 := ⟨_, rfl⟩
 have hL1 : W1.heap[w.heap.size + 1]? = some (.loop (rec .ready none)) := by
  rw [← hW1]; have := World.alloc_heap_new (w.alloc (.deferred (some []))) (.loop (rec .ready none)); rwa [World.size_alloc] at this
 have hK1 : W1.heap[w.heap.size]? = some (.deferred (some [])) := by
  rw [← hW1]; exact (Below.heap_alloc _ _ _ (by simp)).trans (World.alloc_heap_new w _)
 have hI1 : I [] W1 := by rw [← hW1]; exact hI.alloc _ (hI.alloc _ h0)
 have hb1 : Below w0.heap.size w0 W1 := by
  rw [← hW1]; exact hb0.trans ((((Below.refl _ w).alloc (Nat.le_refl _) _).alloc (by simp) _).mono hb0.size)
 refine ⟨w.heap.size + 1, [{ target := .collected w.heap.size, args := #[] }], W1, { target := .fn (.func gf) lb, args := #[.func (.yield (w.heap.size + 1)) #[] #[]] }, W1, gf,
  #[.func (.yield (w.heap.size + 1)) #[] #[]] ++ lb, W1, ?_, ?_, ?_, ?_, fun _ => h1, ?_⟩
 ·
  rw [← hW1, hrec]; exact run_enterLoop_outer _ _ _ _ _
 ·
  simp only [resolve, hg]
  simp [go_sem]
 ·
  intro f' hf'; simp [Target.leads] at hf'; subst hf'; exact hFg
 ·
  simp [invoke, go_sem, eg]
 ·
  -- THE ITERATOR's CONTRACT, AT THE CALLER's INVARIANT WITH THE TWO FACTS OF BOOK-KEEPING BESIDE IT
  have hnw : ∀ {A : World} {row : Option Nat}, (∀ r, row = some r → W1.heap.size ≤ r ∧ ∃ o : Obj, A.heap[r]? = some o ∧ o.isCells = false) → (∀ r, row = some r → w.heap.size ≤ r ∧ ∃ o : Obj, A.heap[r]? = some o ∧ o.isCells = false) :=
   fun hr r e => by obtain ⟨hB, o⟩ := hr r e; exact ⟨by rw [← hW1] at hB; simp at hB; omega, o⟩
  have hfar : ∀ {A B : World} {row : Option Nat} {k : Nat} {o : Obj}, A.grownBy B row → (∀ r, row = some r → W1.heap.size ≤ r ∧ ∃ o : Obj, A.heap[r]? = some o ∧ o.isCells = false) → k < W1.heap.size → A.heap[k]? = some o → B.heap[k]? = some o :=
   fun hg hr hk ho => (hg.block _ (Array.getElem?_eq_some_iff.1 ho).1 (fun e => by have := (hr _ e.symm).1; omega)).trans ho
  have hW1s : w.heap.size ≤ W1.heap.size := by rw [← hW1]; simp; omega
  have hs1 : w.heap.size + 1 < W1.heap.size := (Array.getElem?_eq_some_iff.1 hL1).1
  refine (hseq (w.heap.size + 1)
   (fun pre W => I pre W ∧ W.heap[w.heap.size + 1]? = some (.loop (rec .ready none)) ∧ W.heap[w.heap.size]? = some (.deferred (some [])))
   W1 hb1
   (fun s A B row hs hg' hr => ⟨hI s A B row hs.1 hg' (hnw hr), hfar hg' hr hs1 hs.2.1, hfar hg' hr (by omega) hs.2.2⟩)
   ?_ ⟨hI1, hL1, hK1⟩).mono ?_
  ·
   -- ONE ROUND
   rintro pre x W ⟨hi, hl, hk⟩ hok hlen
   have hlt : w.heap.size + 1 < W.heap.size := (Array.getElem?_eq_some_iff.1 hl).1
   have hy := run_yield (P := P) (args := encs x) hl (by rw [hrec]; exact hps x)
   rw [hrec] at hy
   refine ⟨fn, _, assign, body, hy, roundIn_of_wpIn hfn (hassign _ pre x W _ hi hok ?_)⟩
   clear hy
   intro a' Wa hkfa hkpa hia hax
   -- THE ASSIGN CODE MAY HAVE LAID BLOCKS (a loop variable that an inner function captures is boxed): the two blocks of book-keeping lie as they lay
   replace hl := hkfa.same _ _ (by omega) hl rfl
   replace hk := hkfa.same _ _ (Nat.le_refl _) hk rfl
   replace hlt : w.heap.size + 1 < Wa.heap.size := (Array.getElem?_eq_some_iff.1 hl).1
   replace hi := hia
   clear hia
   revert hkpa hkfa
   generalize W = Wb
   intro hkfa hkpa
   obtain ⟨W, rfl⟩ : ∃ W, W = Wa := ⟨_, rfl⟩
   refine ⟨_, run_beginRound hl (by rw [hrec]), ?_⟩
   have hl2 : (W.putObj (w.heap.size + 1) (.loop { rec .ready none with state := .busy })).heap[w.heap.size + 1]? = some (.loop { rec .ready none with state := .busy }) := World.putObj_heap_same hlt
   have hk2 : (W.putObj (w.heap.size + 1) (.loop { rec .ready none with state := .busy })).heap[w.heap.size]? = some (.deferred (some [])) := (World.putObj_heap_other (by omega)).trans hk
   have hw2 : Kp W (W.putObj (w.heap.size + 1) (.loop { rec .ready none with state := .busy })) := hKb _ _ _ _ (by omega) hl rfl rfl
   refine wpIn_mono (hbody _ pre x a' _ (by omega) ⟨_, hl2⟩ (hI.putObj _ hi (by omega) hl rfl) ((hAx x a').putObj (s := ()) _ hax (by omega) hl rfl) hlen) ?_
   have fin : ∀ (jump : Option Code) (W3 : World), KeepsFrom w.heap.size (W.putObj (w.heap.size + 1) (.loop { rec .ready none with state := .busy })) W3 →
     (Instr.endRound (w.heap.size + 1) jump).run P W3 = .ok (.bool jump.isNone) (W3.putObj (w.heap.size + 1) (.loop (rec (if jump.isNone then .ready else .done) jump))) ∧
     W3.heap[w.heap.size + 1]? = some (.loop { rec .ready none with state := .busy }) ∧
     (W3.putObj (w.heap.size + 1) (.loop (rec (if jump.isNone then .ready else .done) jump))).heap[w.heap.size + 1]? = some (.loop (rec (if jump.isNone then .ready else .done) jump)) ∧
     (W3.putObj (w.heap.size + 1) (.loop (rec (if jump.isNone then .ready else .done) jump))).heap[w.heap.size]? = some (.deferred (some [])) := fun jump W3 hk3 => by
    have hl3 := hk3.same _ _ (by omega) hl2 rfl
    have := run_endRound (P := P) jump hl3
    rw [hrec] at this ⊢
    exact ⟨this, by rw [hrec] at hl3; exact hl3, World.putObj_heap_same (Array.getElem?_eq_some_iff.1 hl3).1, (World.putObj_heap_other (by omega)).trans (hk3.same _ _ (Nat.le_refl _) hk2 rfl)⟩
   rintro e a3 W3 hp
   cases e with
   | normal =>
    obtain ⟨hk3, hkp3, hi3⟩ := hp
    obtain ⟨hr, hl3, hl4, hk4⟩ := fin none W3 hk3
    exact ⟨_, _, hr, rfl, ⟨hI.putObj _ hi3 (by omega) hl3 rfl, hl4, hk4⟩, hKt hkpa (hKt (hKt hw2 hkp3) (hKb _ _ _ _ (by omega) hl3 rfl rfl)), ((keepsFrom_mono hkfa hW1s).trans ((keepsFrom_putObj W (by omega) _).trans ((keepsFrom_mono hk3 hW1s).trans (keepsFrom_putObj W3 (by omega) _))))⟩
   | ret => exact hp.2.elim
   | exit id => exact hp.2.elim
   | goto t => exact hp.2.elim
   | panic ch => exact hp.elim
   | outgrown => exact hp.elim
  ·
   -- BEHIND THE ITERATOR
   rintro e W2 ⟨⟨v, rfl⟩, xs, hS, hi, hl, hk⟩
   exact ⟨none, _, by have := run_endLoop (P := P) hl (by rw [hrec]; simp); rw [hrec] at this; exact this, hdone _ xs _ (Nat.le_refl _) hS (hI.putObj _ hi (by omega) hl rfl) ((World.putObj_heap_other (by omega)).trans hk)⟩
end Go.Proofs.YtpeandbcdaikbaaGreatDoor
namespace Go.Proofs.YtpeandbcdaikbaaGreatDoor
open Go.RowKit Go.Shelf

variable {l : List Edg} {life : List Int} {day : Int} {h : Nat} {x n : Way} {k m : Nat}
def uptoP (l : List Edg) (life : List Int) (day : Int) (h : Nat) (x : Way) (k : Nat) : List Rou :=
 (List.range k).flatMap fun (i : Nat) => match onP l day x (i : Int) with
  | some n => fromP l life day h n
  | none => []
theorem upto_zero : uptoP l life day h x 0 = [] := rfl
theorem upto_none (hn : onP l day x (k : Int) = none) : uptoP l life day h x (k + 1) = uptoP l life day h x k := by
 unfold uptoP
 rw [List.range_succ, List.flatMap_append]
 simp [hn]
theorem upto_some (hn : onP l day x (k : Int) = some n) : uptoP l life day h x (k + 1) = uptoP l life day h x k ++ fromP l life day h n := by
 unfold uptoP
 rw [List.range_succ, List.flatMap_append]
 simp [hn]
theorem upto_le (hk : k ≤ m) : (uptoP l life day h x k).length ≤ (uptoP l life day h x m).length := by
 induction m with
 | zero => obtain rfl : k = 0 := by omega
           exact Nat.le_refl _
 | succ m ih =>
  by_cases e : k = m + 1
  ·
   subst e; exact Nat.le_refl _
  ·
   refine Nat.le_trans (ih (by omega)) ?_
   cases ho : onP l day x (m : Int) with
   | none => rw [upto_none ho]; exact Nat.le_refl _
   | some n => rw [upto_some ho, List.length_append]; omega
theorem from_succ : fromP l life day (h + 1) x = (arrivedP life day x).toList ++ uptoP l life day h x l.length := rfl
theorem from_zero : fromP l life day 0 x = (arrivedP life day x).toList := rfl

/-- A route with the values of its rows. -/
structure RouM where
 r : Rou
 ev : Value
 cv : Value
def RouM.agg (z : RouM) : Value := rouV z.ev z.cv z.r
def encR (z : RouM) : Array Value := #[z.agg]
def OkR (z : RouM) (W : World) : Prop := NumsT W z.ev z.r.edges ∧ ClaimsT 59 W z.cv z.r.claims
theorem OkR.below {z : RouM} {w w' : World} (h : OkR z w) (hb : Below w.heap.size w w') : OkR z w' := ⟨h.1.below hb, h.2.below hb⟩
def RX : List TypeId := [33, 48]
theorem OkR.keepTy {z : RouM} {w w' : World} (h : OkR z w) (hk : KeepTy RX w w') : OkR z w' := ⟨h.1.keepTy (by decide) hk, h.2.keepTy (by decide) (by decide) hk⟩
/-- What a round of a caller keeps. -/
def KpR (B : Nat) (A C : World) : Prop := Below B A C ∧ KeepTy RX A C
theorem KpR.trans {B : Nat} {X Y Z : World} (h : KpR B X Y) (k : KpR B Y Z) : KpR B X Z := ⟨h.1.trans k.1, h.2.trans k.2⟩
theorem KpR.of_below {B : Nat} {W W' : World} (h : Below W.heap.size W W') (hB : B ≤ W.heap.size) : KpR B W W' := ⟨h.mono hB, KeepTy.of_below h⟩
theorem KpR.putObj {B : Nat} {W : World} {j : Nat} {o : Obj} (o' : Obj) (hB : B ≤ j) (hj : W.heap[j]? = some o) (ho : o.isCells = false) : KpR B W (W.putObj j o') := by
 refine ⟨⟨rfl, rfl, rfl, by simp [World.putObj], fun k hk => World.putObj_heap_other (by omega)⟩, KeepTy.putObj hj ho⟩
theorem keepTy_grown {A B : World} {row : Option Nat} {C : Nat} (X : List TypeId) (hg : A.grownBy B row) (hr : ∀ r, row = some r → C ≤ r ∧ ∃ o : Obj, A.heap[r]? = some o ∧ o.isCells = false) : KeepTy X A B := by
 intro b cur T fz _ hb
 refine (hg.block b (Array.getElem?_eq_some_iff.1 hb).1 (fun e => ?_)).trans hb
 obtain ⟨_, o, ho, hc⟩ := hr b e.symm
 rw [hb] at ho
 injection ho with ho
 subst ho
 cases hc
theorem arr_keepTy {w w' : World} {X : List TypeId} {b : Nat} {T : TypeId} {L : List Value} (h : Arr w b T L) (hT : T ∉ X) (hk : KeepTy X w w') : Arr w' b T L := hk b _ T _ hT h
theorem arr_grown {A B : World} {row : Option Nat} {C b : Nat} {T : TypeId} {L : List Value} (h : Arr A b T L) (hg : A.grownBy B row) (hr : ∀ r, row = some r → C ≤ r ∧ ∃ o : Obj, A.heap[r]? = some o ∧ o.isCells = false) : Arr B b T L := arr_keepTy h (X := []) (by simp) (keepTy_grown [] hg hr)
theorem okR_own (B : Nat) (z : RouM) : OwnFrom B (fun (_ : Unit) W => OkR z W) := fun _ _ _ _ hs hg hr => hs.keepTy (keepTy_grown RX hg hr)
theorem keepTy_own {β : Type} (B : Nat) (X : List TypeId) (w0 : World) : OwnFrom B (fun (_ : β) W => KeepTy X w0 W) := fun _ _ _ _ hs hg hr => hs.trans (keepTy_grown X hg hr)
theorem SeqAllR.any {α : Type} {n m : Nat} {P : Program} {g : Nat} {lb : Array Value} {encs : α → Array Value} {Kp : World → World → Prop} {S : List α → Prop} {N : Nat} {Ok : α → World → Prop} {w : World} (h : SeqAllR Fence.wide n P g lb encs Kp S N Ok w) : SeqAllR Fence.wide m P g lb encs Kp S N Ok w :=
 fun l J W hW hJ hY h0 => callsIn_wide.2 (callsIn_wide.1 (h l J W hW hJ (fun pre x W1 h1 h2 h3 => YieldAt.anyDepth rfl _ (hY pre x W1 h1 h2 h3)) h0))
end Go.Proofs.YtpeandbcdaikbaaGreatDoor
namespace Go.Proofs.YtpeandbcdaikbaaGreatDoor
open Go.RowKit Go.Shelf

attribute [local go_sem] Oper.semAt_some

theorem Tryz.info_route : (Tryz.prog.info? 33).map (fun i => (i.zero, i.size, i.bytes)) = some (some (.agg #[.slice none 0 0, .int .i64 0, .int .i64 0, .slice none 0 0]), 4, 64) := by kernel_rfl
def RouM.cells (z : RouM) : List Value := [z.ev, .int .i64 z.r.cost, .int .i64 z.r.life, z.cv]
def rouCells (l : List RouM) : List Value := l.flatMap RouM.cells
theorem rouCells_snoc (l : List RouM) (z : RouM) : rouCells (l ++ [z]) = rouCells l ++ z.cells := by simp [rouCells]
theorem OkR.one {z : RouM} {w : World} (h : OkR z w) : ∀ u ∈ z.cells, u.oneCell' = true := by
 obtain ⟨a, c, h1, _⟩ := h.1.len
 obtain ⟨_, _, ⟨b, d, h2, _⟩, _⟩ := h.2
 intro u hu
 simp only [RouM.cells, List.mem_cons, List.not_mem_nil, or_false] at hu
 rcases hu with rfl | rfl | rfl | rfl
 ·
  rw [h1]; rfl
 ·
  rfl
 ·
  rfl
 ·
  rw [h2]; rfl
/-- What is collected so far. -/
def ColR (w : World) (pre : List RouM) (W : World) : Prop :=
 (∃ v, Boxed W w.heap.size 48 v ∧ W.ownsRow w.heap.size 33 4 v pre.length (rouCells pre) ∧ True) ∧ (∀ z ∈ pre, OkR z W) ∧ Below w.heap.size w W
def ColRx (w : World) (g : Nat) (lb : Array Value) (x : RouM) (a : Act) (W : World) : Prop :=
 OkR x W ∧ ∃ b, Arr W b 33 x.cells ∧ a = { tmps := #[.slice none 0 0, .func (.func g) #[] lb, .pointer (some ⟨w.heap.size, 0, none⟩), undef, .slice none 0 0, .pointer (some ⟨b, 0, none⟩), .func (.func g) #[] lb, x.agg, undef, undef, undef, undef, undef], defers := [] }
theorem colR_own (w : World) (C : Nat) (hC : w.heap.size ≤ C) : OwnFrom C (ColR w) :=
 OwnFrom.and (Own.from (holdsRow_own w.heap.size w.heap.size 48 33 4 (fun pre : List RouM => pre.length) rouCells (fun _ _ => True)) _)
  (OwnFrom.and (fun _ W W' row hs hg hr z hz => okR_own C z () W W' row (hs z hz) hg hr) (ownFrom_below (Nat.le_refl _) hC))
set_option maxRecDepth 100000 in
set_option maxHeartbeats 4000000 in
theorem AppendSeqR_in (g : Nat) (lb : Array Value) (eg : ∀ args w, (callFunc g args).run Tryz.prog w = .ok (.enter g args) w) (R : List Rou) (hR : R.length ≤ 5000000000) (w : World)
  (hS : SeqAllR Fence.wide 3 Tryz.prog g lb encR (KpR w.heap.size) (fun xs => xs.map RouM.r = R) R.length OkR w) :
  CallsIn Fence.wide 4 Tryz.prog 106 #[.slice none 0 0, .func (.func g) #[] lb] w fun e W' =>
   ∃ v zs, e = .returned v ∧ zs.map RouM.r = R ∧ W'.ownsRow w.heap.size 33 4 v zs.length (rouCells zs) ∧ (∀ z ∈ zs, OkR z W') ∧ Below w.heap.size w W' := by
 obtain ⟨i0, hi, hz0, hz1, hz2⟩ := info_parts Tryz.info_route
 refine callsIn_of_wp_marks Tryz.func106 rfl trivial ?_ rfl
 simp only [Tryz.ntmps106, List.size_toArray, List.length_cons, List.length_nil, Nat.reduceAdd, Nat.reduceSub, Array.replicate_succ, Array.replicate_zero, List.push_toArray, List.append_toArray, List.nil_append, List.cons_append]
 gi_wp2
 have bO := Boxed.new w 48 (.slice none 0 0)
 refine wpIn_rangeFunc_all rfl (by omega) (gf := g) (lb := lb) rfl trivial eg
  hS (fun h k => h.trans k) ?kb ((Below.refl _ _).alloc (Nat.le_refl _) _) (fun _ => rfl)
  (ColR w) (colR_own w _ (by simp))
  ⟨⟨_, bO, World.ownsRow_nil _ _ _ _, trivial⟩, fun z hz => absurd hz (by simp), (Below.refl _ _).alloc (Nat.le_refl _) _⟩
  (ColRx w g lb) ?ax ?assign ?body ?done
 case kb =>
  intro W l o o' hl ho hc hw
  exact KpR.putObj o' (by simp at hl; omega) ho hc
 case ax =>
  rintro x a' s A B row ⟨hok, b, hA, rfl⟩ hg hr
  refine ⟨okR_own _ x () A B row hok hg hr, b, ?_, rfl⟩
  refine (hg.block b (Array.getElem?_eq_some_iff.1 hA).1 (fun e => ?_)).trans hA
  obtain ⟨_, o, ho, hc⟩ := hr b e.symm
  rw [show A.heap[b]? = _ from hA] at ho
  injection ho with ho
  subst ho
  cases hc
 case assign =>
  intro l pre x W K hI hok hK
  obtain ⟨a, c, h1, _⟩ := hok.1.len
  obtain ⟨_, _, ⟨b, d, h2, _⟩, _⟩ := id hok.2
  obtain ⟨r, ev, cv⟩ := x
  dsimp only at h1 h2
  subst h1 h2
  dsimp only [encR, RouM.agg, rouV] at hK ⊢
  gi_wp2
  exact hK _ _ ((KeepsOthers.alloc _ _).from _) (KpR.of_below ((Below.refl _ _).alloc (Nat.le_refl _) _) hI.2.2.size) ((colR_own w w.heap.size (Nat.le_refl _)).alloc _ hI) ⟨hok.below ((Below.refl _ _).alloc (Nat.le_refl _) _), W.heap.size, Arr.new rfl rfl, rfl⟩
 case body =>
  rintro l pre x a' W hl hrec ⟨⟨v, hv, hrow, _⟩, hall, hB⟩ ⟨hok, b, hA, rfl⟩ hlt
  have hone := hok.one
  obtain ⟨a1, c1, h1, _⟩ := hok.1.len
  obtain ⟨_, _, ⟨b1, d1, h2, _⟩, _⟩ := id hok.2
  obtain ⟨r, ev, cv⟩ := x
  dsimp only at h1 h2
  subst h1 h2
  have hc := hv.cell
  have e0 := hA.cell (j := 0) rfl
  have e1 := hA.cell (j := 1) rfl
  have e2 := hA.cell (j := 2) rfl
  have e3 := hA.cell (j := 3) rfl
  dsimp only [RouM.agg, rouV]
  have hn0 : ∀ j u, (RouM.cells ⟨r, .slice a1 r.edges.length c1, .slice b1 r.claims.length d1⟩)[j]? = some u → (W.alloc (.cells #[.slice a1 r.edges.length c1, .int .i64 r.cost, .int .i64 r.life, .slice b1 r.claims.length d1] 33)).cell? ((⟨W.heap.size, 0, none⟩ : Addr).add j) = some u := fun j u hu => cells_new W (RouM.cells ⟨r, .slice a1 r.edges.length c1, .slice b1 r.claims.length d1⟩) 33 j u hu
  have hn2 : pre.length + 1 ≤ maxLen := by unfold maxLen; omega
  have hn3 : (pre.length + 1) * 64 ≤ 140737488355328 := by omega
  have hn4 : w.heap.size ≤ W.heap.size + 1 := by have := hB.size; omega
  replace hone := Lib.hid hone
  replace hok := Lib.hid hok
  replace hall := Lib.hid hall
  gi_wp2_with (gi_at_builtin; go_loud (refine wpListIn_append_own _ rfl _ _ 48 rfl w.heap.size 33 i0 (.agg #[.slice none 0 0, .int .i64 0, .int .i64 0, .slice none 0 0]) 4 64 Tryz.underlying48 hi hz0 hz1 hz2 rfl (by decide) v pre.length (rouCells pre) rfl (hrow.alloc _) ⟨W.heap.size, 0, none⟩ 1 1 (RouM.cells ⟨r, .slice a1 r.edges.length c1, .slice b1 r.claims.length d1⟩) rfl rfl hn0 hone.out hn2 hn3 (by simpa using hn4) ?_; intro v' w1 hown' hgrow hnil; obtain ⟨g', cap', rfl⟩ := ownsRow_succ hown'; obtain ⟨hv1, hv2, hr2, hk2, hb2⟩ := hv.appended (by decide) hrow hB.size (Nat.le_refl _) hown' hgrow; have hkt : KeepTy RX W (w1.setCell ⟨w.heap.size, 0, none⟩ (.slice (some ⟨g', 0, none⟩) (pre.length + 1) cap')) := ((KeepTy.of_below ((Below.refl _ W).alloc (Nat.le_refl _) _)).trans (KeepTy.grown (hrow.alloc _) hgrow (by decide))).trans (KeepTy.box hv1 (by decide)); have hc1 := hv1.cell; have hf1 := hv1.frozen))
  refine ⟨hk2.from _, ⟨hb2, hkt⟩, ⟨_, hv2, by simpa [rouCells] using hr2, trivial⟩, fun z hz => ?_, hB.trans hb2⟩
  rcases List.mem_append.1 hz with hz | hz
  ·
   exact (hall.out z hz).keepTy hkt
  ·
   obtain rfl := List.mem_singleton.1 hz
   exact hok.out.keepTy hkt
 case done =>
  rintro D ys W hD hys ⟨⟨v, hv, hrow, _⟩, hall, hB⟩ hK
  have hc := hv.cell
  gi_wp2
  refine ⟨by simp, .inl ⟨_, _, rfl, run_takeDeferred hK, ?_⟩⟩
  refine ⟨_, results_tmp rfl _ _ _, v, ys, rfl, hys, ownsRow_putObj hrow _ hK rfl, fun z hz => ?_, hB.trans (belowK_b (w := w) (Nat.le_refl _) W D _ _ (by simp at hD; omega) hK rfl rfl)⟩
  exact (hall z hz).keepTy (KeepTy.putObj hK rfl)
end Go.Proofs.YtpeandbcdaikbaaGreatDoor
namespace Go.Proofs.YtpeandbcdaikbaaGreatDoor
open Go.RowKit Go.Shelf

/-- What lies in a slot. -/
def slotAt (a : Act) (i : Nat) : Value := a.tmps.getD i undef
def frameAt (n : Nat) (u : Nat → Value) (ds : List Deferred) : Act := ⟨((List.range n).map u).toArray, ds⟩
theorem act_frameAt {a : Act} {n : Nat} (hn : a.tmps.size = n) : a = frameAt n (slotAt a) a.defers := by
 obtain ⟨ts, ds⟩ := a
 dsimp only at hn
 subst hn
 unfold frameAt
 congr 1
 apply Array.ext
 ·
  simp
 ·
  intro i h1 h2
  simp [slotAt, Array.getD, h1]
theorem wpIn_loop_fr {F : Fence} {m : Nat} {P : Program} {c : Code} {Q : Exit → Act → World → Prop} {a : Act} {w : World} (n : Nat) (μ : (Nat → Value) → Nat) (R : (Nat → Value) → List Deferred → World → Prop) (hn : a.tmps.size = n) (h0 : R (slotAt a) a.defers w)
  (round : ∀ u ds w', R u ds w' → ∀ K : Act → World → Prop, (∀ a' w'', a'.tmps.size = n → R (slotAt a') a'.defers w'' → μ (slotAt a') < μ u → K a' w'') → c.wpIn F m P (Exit.then K Q) (frameAt n u ds) w') :
  (Code.loop c).wpIn F m P Q a w := by
 refine wpIn_loop (fun a' w' => a'.tmps.size = n ∧ R (slotAt a') a'.defers w') (fun a' _ => μ (slotAt a')) ⟨hn, h0⟩ ?_
 rintro a' w' ⟨hn', hR⟩
 have h := round (slotAt a') a'.defers w' hR (fun a'' w'' => (a''.tmps.size = n ∧ R (slotAt a'') a''.defers w'') ∧ μ (slotAt a'') < μ (slotAt a')) (fun a'' w'' h1 h2 h3 => ⟨⟨h1, h2⟩, h3⟩)
 rwa [← act_frameAt hn'] at h
end Go.Proofs.YtpeandbcdaikbaaGreatDoor
namespace Go.Proofs.YtpeandbcdaikbaaGreatDoor
open Go.RowKit Go.Shelf

attribute [local go_sem] Oper.semAt_some

/-- What the iterator has captured. -/
structure FromAt (B0 : Nat) (l : List Edg) (life : List Int) (day : Int) (pev plv : Value) (h : Nat) (x : Way) (fv ev cv : Value) (bp bw bh : Nat) (w : World) : Prop where
 hB : B0 ≤ w.heap.size
 pl : Arr w bp 80 [pev, plv, .int .i64 day]
 wa : Arr w bw 82 [fv, ev, .int .i64 x.rou.cost, .int .i64 x.rou.life, cv]
 ho : Arr w bh 3 [.int .i64 (h : Int)]
 E : EdgesAt w B0 pev l
 L : NumsAt w B0 plv life
 way : WayT w fv ev cv x
variable {B0 : Nat} {l : List Edg} {life : List Int} {day : Int} {pev plv : Value} {h : Nat} {x : Way} {fv ev cv : Value} {bp bw bh : Nat} {w w' : World}
theorem FromAt.kp (h1 : FromAt B0 l life day pev plv h x fv ev cv bp bw bh w) (hk : KpR B0 w w') : FromAt B0 l life day pev plv h x fv ev cv bp bw bh w' :=
 ⟨Nat.le_trans h1.hB hk.1.size, arr_keepTy h1.pl (by decide) hk.2, arr_keepTy h1.wa (by decide) hk.2, arr_keepTy h1.ho (by decide) hk.2, h1.E.below hk.1 (Nat.le_refl _), SliceAt.below h1.L hk.1 (Nat.le_refl _), h1.way.keepTy (by decide) (by decide) (by decide) hk.2⟩
theorem FromAt.below (h1 : FromAt B0 l life day pev plv h x fv ev cv bp bw bh w) (hb : Below w.heap.size w w') : FromAt B0 l life day pev plv h x fv ev cv bp bw bh w' := h1.kp (KpR.of_below hb h1.hB)
/-- What is so between two of the iterator's steps. -/
structure FromNow (B0 : Nat) (l : List Edg) (life : List Int) (day : Int) (pev plv : Value) (h : Nat) (x : Way) (fv ev cv : Value) (bp bw bh by_ l0 : Nat) (w0 : World) (J : List RouM → World → Prop) (pre : List RouM) (w : World) : Prop where
 at_ : FromAt B0 l life day pev plv h x fv ev cv bp bw bh w
 y : Arr w by_ 115 [.func (.yield l0) #[] #[]]
 j : J pre w
 k : KpR B0 w0 w
 f : KeepsFrom w0.heap.size w0 w
theorem keepsFrom_of_below {B : Nat} {W W' : World} (h : Below W.heap.size W W') : KeepsFrom B W W' := ⟨h.size, fun k _ _ hk _ => (h.block k (Array.getElem?_eq_some_iff.1 hk).1).trans hk⟩
theorem arrived_uni (life : List Int) (day : Int) (pev plv fv ev cv : Value) (x : Way) (w : World) (hp : ∃ a n c, pev = .slice a n c) (hl : NumsAt w w.heap.size plv life) (h : WayT w fv ev cv x) :
  Calls Tryz.prog 43 #[.agg #[pev, plv, .int .i64 day], .agg #[fv, ev, .int .i64 x.rou.cost, .int .i64 x.rou.life, cv]] w fun e w' => (∃ ea en ec co li ca cn cc b, e = .returned (.tuple #[.agg #[.slice ea en ec, .int .i64 co, .int .i64 li, .slice ca cn cc], .bool b]) ∧ (b = false → arrivedP life day x = none) ∧
   (b = true → ∃ r, arrivedP life day x = some r ∧ r.edges = x.rou.edges ∧ r.claims = x.rou.claims ∧ r.cost = co ∧ r.life = li ∧ ev = .slice ea en ec ∧ cv = .slice ca cn cc)) ∧ Below w.heap.size w w' := by
 refine (arrived_any life day pev plv fv ev cv x w hp hl h).mono ?_
 rintro e w' ⟨he, hb⟩
 refine ⟨?_, hb⟩
 cases hA : arrivedP life day x with
 | none =>
  rw [hA] at he
  exact ⟨none, 0, 0, 0, 0, none, 0, 0, false, he, fun _ => rfl, fun h => by cases h⟩
 | some r =>
  rw [hA] at he
  obtain ⟨_, hr⟩ := arrived_some.1 hA
  obtain ⟨ea, ec, rfl, _⟩ := h.edges.len
  obtain ⟨_, _, ⟨ca, cc, rfl, _, _, _⟩, _⟩ := h.claims
  exact ⟨ea, _, ec, r.cost, r.life, ca, _, cc, true, he, fun h => (by cases h), fun _ => ⟨r, rfl, by rw [hr], by rw [hr], rfl, rfl, rfl, rfl⟩⟩
theorem FromNow.below {by_ l0 : Nat} {w0 w w' : World} {J : List RouM → World → Prop} {pre : List RouM} (h1 : FromNow B0 l life day pev plv h x fv ev cv bp bw bh by_ l0 w0 J pre w) (hJ : OwnFrom w0.heap.size J) (hb : Below w.heap.size w w') : FromNow B0 l life day pev plv h x fv ev cv bp bw bh by_ l0 w0 J pre w' :=
 ⟨h1.at_.below hb, h1.y.below hb, ownFrom_later hJ h1.j hb, h1.k.trans (KpR.of_below hb h1.at_.hB), h1.f.trans (keepsFrom_of_below hb)⟩
theorem Marks.below {B : Nat} {ds : List Deferred} {w w' : World} (h : Marks B ds w) (hb : Below w.heap.size w w') : Marks B ds w' :=
 h.grown fun D _ hD _ => (hb.block D (Array.getElem?_eq_some_iff.1 hD).1).trans hD
theorem marks_lt {B : Nat} : ∀ {ds : List Deferred} {W : World}, Marks B ds W → ∀ e ∈ ds, ∃ D, e.target = .collected D ∧ D < W.heap.size
 | [], _, _, e, he => by cases he
 | d :: ds, W, ⟨⟨D, h1, h2, h3, h4⟩, h5⟩, e, he => by
  rcases List.mem_cons.1 he with rfl | he
  ·
   exact ⟨D, by rw [h1], (Array.getElem?_eq_some_iff.1 h3).1⟩
  ·
   exact marks_lt h5 e he
set_option maxRecDepth 100000 in
set_option maxHeartbeats 4000000 in
theorem from_any (pev plv fv ev cv : Value) (day : Int) (x : Way) (h : Nat) (w : World) (hp : ∃ a n c, pev = .slice a n c) (hl : ∃ a n c, plv = .slice a n c) (hf : ∃ a n c, fv = .slice a n c) (he : ∃ a n c, ev = .slice a n c) (hc : ∃ a n c, cv = .slice a n c) :
  Calls Tryz.prog 49 #[.agg #[pev, plv, .int .i64 day], .agg #[fv, ev, .int .i64 x.rou.cost, .int .i64 x.rou.life, cv], .int .i64 (h : Int)] w fun e w' =>
   ∃ bp bw bh, e = .returned (.func (.func 78) #[] #[.pointer (some ⟨bp, 0, none⟩), .pointer (some ⟨bw, 0, none⟩), .pointer (some ⟨bh, 0, none⟩)]) ∧ Arr w' bp 80 [pev, plv, .int .i64 day] ∧ Arr w' bw 82 [fv, ev, .int .i64 x.rou.cost, .int .i64 x.rou.life, cv] ∧ Arr w' bh 3 [.int .i64 (h : Int)] ∧ Below w.heap.size w w' := by
 obtain ⟨pa, pn, pc, rfl⟩ := hp
 obtain ⟨la, ln, lc, rfl⟩ := hl
 obtain ⟨fa, fn, fc, rfl⟩ := hf
 obtain ⟨ea, en, ec, rfl⟩ := he
 obtain ⟨ca, cn, cc, rfl⟩ := hc
 go_enter Tryz.func49, Tryz.ntmps49
 go_wp2_with fail
 go_ret
 exact ⟨_, _, _, rfl, ((Arr.new rfl rfl).alloc _).alloc _, (Arr.new rfl (by simp)).alloc _, Arr.new rfl (by simp), (((Below.refl _ _).alloc (Nat.le_refl _) _).alloc (by simp) _).alloc (by simp; omega) _⟩
set_option maxRecDepth 100000 in
set_option maxHeartbeats 4000000 in
theorem from1_all {pa la : Option Addr} {pc lc : Nat} (hI : ∀ e ∈ l, MigIn e.does) (hok : ∀ e ∈ l, okE e = true) (hl40 : l.length ≤ 40) : ∀ (h : Nat), h ≤ 6 → ∀ (x : Way) (fv ev cv : Value) (bp bw bh : Nat) (w : World), FromAt B0 l life day (.slice pa l.length pc) (.slice la life.length lc) h x fv ev cv bp bw bh w →
  SeqAllR Fence.wide 3 Tryz.prog 78 #[.pointer (some ⟨bp, 0, none⟩), .pointer (some ⟨bw, 0, none⟩), .pointer (some ⟨bh, 0, none⟩)] encR (KpR B0) (fun xs => xs.map RouM.r = fromP l life day h x) (fromP l life day h x).length OkR w := by
 intro h
 induction h with
 | zero =>
  intro hh x fv ev cv bp bw bh w hF l0 J W hW hJ hY h0
  have hF1 := hF.below hW
  have hbW : Below W.heap.size W (W.alloc (.cells #[.func (.yield l0) #[] #[]] 115)) := (Below.refl _ _).alloc (Nat.le_refl _) _
  obtain ⟨W1, hW1⟩ : ∃ W1, W1 = W.alloc (.cells #[.func (.yield l0) #[] #[]] 115) := ⟨_, rfl⟩
  have hy1 : Arr W1 W.heap.size 115 [.func (.yield l0) #[] #[]] := by rw [hW1]; exact Arr.new rfl rfl
  rw [← hW1] at hbW
  have hF2 := hF1.below hbW
  have hJ1 : J [] W1 := ownFrom_later hJ h0 hbW
  have hk1 : KeepsFrom W.heap.size W W1 := by rw [hW1]; exact (KeepsOthers.alloc _ _).from _
  obtain ⟨fa, fc, rfl, _⟩ := hF2.way.formats.len
  obtain ⟨ea, ec, rfl, _⟩ := hF2.way.edges.len
  obtain ⟨_, _, ⟨ca, cc, rfl, _, _, _⟩, _⟩ := id hF2.way.claims
  have p0 := hF2.pl.cell (j := 0) rfl
  have p1 := hF2.pl.cell (j := 1) rfl
  have p2 := hF2.pl.cell (j := 2) rfl
  have w0 := hF2.wa.cell (j := 0) rfl
  have w1 := hF2.wa.cell (j := 1) rfl
  have w2 := hF2.wa.cell (j := 2) rfl
  have w3 := hF2.wa.cell (j := 3) rfl
  have w4 := hF2.wa.cell (j := 4) rfl
  have hle := hF2.hB
  have har := Lib.hid (arrived_uni life day (.slice pa l.length pc) (.slice la life.length lc) _ _ _ x W1 ⟨_, _, _, rfl⟩ (SliceAt.more hF2.L hF2.hB) hF2.way)
  refine callsIn_of_wp_marks Tryz.func78 rfl trivial ?_ rfl
  simp only [Tryz.ntmps78, List.size_toArray, List.length_cons, List.length_nil, Nat.reduceAdd, Nat.reduceSub, Array.replicate_succ, Array.replicate_zero, List.push_toArray, List.append_toArray, List.nil_append, List.cons_append]
  gi_upto_region 1 with fail
  rw [← hW1]
  clear hW1
  gi_upto_region 2 with fail
  refine ⟨trivial, (callsIn_wide.2 har.out).mono ?_⟩
  rintro e w2 ⟨⟨qea, qen, qec, qco, qli, qca, qcn, qcc, b, rfl, hbn, hbs⟩, hb2⟩
  have hF3 := hF2.below hb2
  have hy3 := hy1.below hb2
  have hJ3 : J [] w2 := ownFrom_later hJ hJ1 hb2
  gi_upto_region 2 with fail
  obtain ⟨w3, hw3⟩ : ∃ w3, w3 = w2.alloc (.cells #[.slice qea qen qec, .int .i64 qco, .int .i64 qli, .slice qca qcn qcc] 33) := ⟨_, rfl⟩
  have hb3 : Below w2.heap.size w2 w3 := by rw [hw3]; exact (Below.refl _ _).alloc (Nat.le_refl _) _
  have hR3 : Arr w3 w2.heap.size 33 [.slice qea qen qec, .int .i64 qco, .int .i64 qli, .slice qca qcn qcc] := by rw [hw3]; exact Arr.new rfl rfl
  have hk3 : KeepsFrom W.heap.size W w3 := hk1.trans ((keepsFrom_of_below hb2).trans (keepsFrom_of_below hb3))
  rw [← hw3]
  clear hw3
  have hF4 := hF3.below hb3
  have hy4 := hy3.below hb3
  have hJ4 : J [] w3 := ownFrom_later hJ hJ3 hb3
  have hK4 : KpR B0 W w3 := (KpR.of_below hbW hF1.hB).trans ((KpR.of_below hb2 hF2.hB).trans (KpR.of_below hb3 hF3.hB))
  replace hbn := Lib.hid hbn
  replace hbs := Lib.hid hbs
  have y0 := hy4.cell (j := 0) rfl
  have r0 := hR3.cell (j := 0) rfl
  have r1 := hR3.cell (j := 1) rfl
  have r2 := hR3.cell (j := 2) rfl
  have r3 := hR3.cell (j := 3) rfl
  gi_cut [23] from 17 (fun v23 Wc => v23 = .bool false ∧ ∃ pre, pre.map RouM.r = (arrivedP life day x).toList ∧ FromNow B0 l life day (.slice pa l.length pc) (.slice la life.length lc) 0 x (.slice fa x.formats.length fc) (.slice ea x.rou.edges.length ec) (.slice ca x.rou.claims.length cc) bp bw bh W.heap.size l0 W J pre Wc)
  case first =>
   cases b with
   | false =>
    have hnone := Lib.hid (hbn.out rfl)
    clear hbn hbs
    gi_wp2_with fail
    refine ⟨(fun f h => by cases h), ?_⟩
    gi_wp2_with fail
    gi_meet
    exact ⟨rfl, [], by rw [hnone.out]; rfl, ⟨hF4, hy4, hJ4, hK4, hk3⟩⟩
   | true =>
    obtain ⟨r, hr, hre, hrc, hrco, hrli, hev, hcv⟩ := hbs.out rfl
    cases hev
    cases hcv
    have hokr : OkR ⟨r, .slice ea x.rou.edges.length ec, .slice ca x.rou.claims.length cc⟩ w3 := ⟨by rw [hre]; exact hF4.way.edges, by rw [hrc]; exact hF4.way.claims⟩
    obtain ⟨fn, tmps, assign, body, hy, hR⟩ := hY [] _ w3 hJ4 hokr (by rw [from_zero, hr]; simp)
    dsimp only [encR, RouM.agg, rouV] at hy
    rw [hrco, hrli] at hy
    gi_wp2_with fail
    refine hR.mono ?_
    rintro e w4 ⟨rfl, hJ5, hk5, hkf5⟩
    gi_wp2_with fail
    gi_meet
    exact ⟨rfl, [_], by rw [hr]; rfl, ⟨hF4.kp hk5, arr_keepTy hy4 (by decide) hk5.2, hJ5, hK4.trans hk5, hk3.trans hkf5⟩⟩
  case rest =>
   obtain ⟨rfl, pre0, hpre0, hnow⟩ := hcut
   have hbh := hnow.at_.ho.cell (j := 0) rfl
   replace hnow := Lib.hid hnow
   clear r0 r1 r2 r3 y0 hR3
   gi_wp2_with fail
   exact ⟨_, results_none rfl _ _ _, ⟨_, rfl⟩, pre0, by rw [from_zero]; exact hpre0, hnow.out.j⟩
 | succ h ih =>
  intro hh x fv ev cv bp bw bh w hF l0 J W hW hJ hY h0
  have hF1 := hF.below hW
  have hbW : Below W.heap.size W (W.alloc (.cells #[.func (.yield l0) #[] #[]] 115)) := (Below.refl _ _).alloc (Nat.le_refl _) _
  obtain ⟨W1, hW1⟩ : ∃ W1, W1 = W.alloc (.cells #[.func (.yield l0) #[] #[]] 115) := ⟨_, rfl⟩
  have hy1 : Arr W1 W.heap.size 115 [.func (.yield l0) #[] #[]] := by rw [hW1]; exact Arr.new rfl rfl
  rw [← hW1] at hbW
  have hF2 := hF1.below hbW
  have hJ1 : J [] W1 := ownFrom_later hJ h0 hbW
  have hk1 : KeepsFrom W.heap.size W W1 := by rw [hW1]; exact (KeepsOthers.alloc _ _).from _
  obtain ⟨fa, fc, rfl, _⟩ := hF2.way.formats.len
  obtain ⟨ea, ec, rfl, _⟩ := hF2.way.edges.len
  obtain ⟨_, _, ⟨ca, cc, rfl, _, _, _⟩, _⟩ := id hF2.way.claims
  have p0 := hF2.pl.cell (j := 0) rfl
  have p1 := hF2.pl.cell (j := 1) rfl
  have p2 := hF2.pl.cell (j := 2) rfl
  have w0 := hF2.wa.cell (j := 0) rfl
  have w1 := hF2.wa.cell (j := 1) rfl
  have w2 := hF2.wa.cell (j := 2) rfl
  have w3 := hF2.wa.cell (j := 3) rfl
  have w4 := hF2.wa.cell (j := 4) rfl
  have hle := hF2.hB
  have har := Lib.hid (arrived_uni life day (.slice pa l.length pc) (.slice la life.length lc) _ _ _ x W1 ⟨_, _, _, rfl⟩ (SliceAt.more hF2.L hF2.hB) hF2.way)
  refine callsIn_of_wp_marks Tryz.func78 rfl trivial ?_ rfl
  simp only [Tryz.ntmps78, List.size_toArray, List.length_cons, List.length_nil, Nat.reduceAdd, Nat.reduceSub, Array.replicate_succ, Array.replicate_zero, List.push_toArray, List.append_toArray, List.nil_append, List.cons_append]
  gi_upto_region 1 with fail
  rw [← hW1]
  clear hW1
  gi_upto_region 2 with fail
  refine ⟨trivial, (callsIn_wide.2 har.out).mono ?_⟩
  rintro e w2 ⟨⟨qea, qen, qec, qco, qli, qca, qcn, qcc, b, rfl, hbn, hbs⟩, hb2⟩
  have hF3 := hF2.below hb2
  have hy3 := hy1.below hb2
  have hJ3 : J [] w2 := ownFrom_later hJ hJ1 hb2
  gi_upto_region 2 with fail
  obtain ⟨w3, hw3⟩ : ∃ w3, w3 = w2.alloc (.cells #[.slice qea qen qec, .int .i64 qco, .int .i64 qli, .slice qca qcn qcc] 33) := ⟨_, rfl⟩
  have hb3 : Below w2.heap.size w2 w3 := by rw [hw3]; exact (Below.refl _ _).alloc (Nat.le_refl _) _
  have hR3 : Arr w3 w2.heap.size 33 [.slice qea qen qec, .int .i64 qco, .int .i64 qli, .slice qca qcn qcc] := by rw [hw3]; exact Arr.new rfl rfl
  have hk3 : KeepsFrom W.heap.size W w3 := hk1.trans ((keepsFrom_of_below hb2).trans (keepsFrom_of_below hb3))
  rw [← hw3]
  clear hw3
  have hF4 := hF3.below hb3
  have hy4 := hy3.below hb3
  have hJ4 : J [] w3 := ownFrom_later hJ hJ3 hb3
  have hK4 : KpR B0 W w3 := (KpR.of_below hbW hF1.hB).trans ((KpR.of_below hb2 hF2.hB).trans (KpR.of_below hb3 hF3.hB))
  replace hbn := Lib.hid hbn
  replace hbs := Lib.hid hbs
  have y0 := hy4.cell (j := 0) rfl
  have r0 := hR3.cell (j := 0) rfl
  have r1 := hR3.cell (j := 1) rfl
  have r2 := hR3.cell (j := 2) rfl
  have r3 := hR3.cell (j := 3) rfl
  gi_cut [23] from 17 (fun v23 Wc => v23 = .bool false ∧ ∃ pre, pre.map RouM.r = (arrivedP life day x).toList ∧ FromNow B0 l life day (.slice pa l.length pc) (.slice la life.length lc) (h + 1) x (.slice fa x.formats.length fc) (.slice ea x.rou.edges.length ec) (.slice ca x.rou.claims.length cc) bp bw bh W.heap.size l0 W J pre Wc)
  case first =>
   cases b with
   | false =>
    have hnone := Lib.hid (hbn.out rfl)
    clear hbn hbs
    gi_wp2_with fail
    refine ⟨(fun f h => by cases h), ?_⟩
    gi_wp2_with fail
    gi_meet
    exact ⟨rfl, [], by rw [hnone.out]; rfl, ⟨hF4, hy4, hJ4, hK4, hk3⟩⟩
   | true =>
    obtain ⟨r, hr, hre, hrc, hrco, hrli, hev, hcv⟩ := hbs.out rfl
    cases hev
    cases hcv
    have hokr : OkR ⟨r, .slice ea x.rou.edges.length ec, .slice ca x.rou.claims.length cc⟩ w3 := ⟨by rw [hre]; exact hF4.way.edges, by rw [hrc]; exact hF4.way.claims⟩
    obtain ⟨fn, tmps, assign, body, hy, hR⟩ := hY [] _ w3 hJ4 hokr (by rw [from_succ, hr]; simp)
    dsimp only [encR, RouM.agg, rouV] at hy
    rw [hrco, hrli] at hy
    gi_wp2_with fail
    refine hR.mono ?_
    rintro e w4 ⟨rfl, hJ5, hk5, hkf5⟩
    gi_wp2_with fail
    gi_meet
    exact ⟨rfl, [_], by rw [hr]; rfl, ⟨hF4.kp hk5, arr_keepTy hy4 (by decide) hk5.2, hJ5, hK4.trans hk5, hk3.trans hkf5⟩⟩
  case rest =>
   obtain ⟨rfl, pre0, hpre0, hnow⟩ := hcut
   have hbh := hnow.at_.ho.cell (j := 0) rfl
   have bp0 := hnow.at_.pl.cell (j := 0) rfl
   have hne0 : decide (((h + 1 : Nat) : Int) = 0) = false := decide_eq_false (by omega)
   have hne1 : (((h + 1 : Nat) : Int) == 0) = false := beq_false_of_ne (by omega)
   replace hnow := Lib.hid hnow
   clear r0 r1 r2 r3 y0 hR3
   gi_wp2_with fail
   refine wpIn_loop_fr 52 (fun u => l.length - (intOf (u 29)).toNat) (fun u ds wr => ∃ (i : Nat) (pre : List RouM), i ≤ l.length ∧ u 1 = .pointer (some ⟨bp, 0, none⟩) ∧ u 2 = .pointer (some ⟨bw, 0, none⟩) ∧ u 3 = .pointer (some ⟨bh, 0, none⟩) ∧ u 4 = .pointer (some ⟨W.heap.size, 0, none⟩) ∧ u 28 = .int .i64 l.length ∧ u 29 = .int .i64 i ∧ pre.map RouM.r = (arrivedP life day x).toList ++ uptoP l life day h x i ∧ FromNow B0 l life day (.slice pa l.length pc) (.slice la life.length lc) (h + 1) x (.slice fa x.formats.length fc) (.slice ea x.rou.edges.length ec) (.slice ca x.rou.claims.length cc) bp bw bh W.heap.size l0 W J pre wr ∧ Marks W.heap.size ds wr) rfl
    ⟨0, pre0, Nat.zero_le _, rfl, rfl, rfl, rfl, rfl, rfl, by rw [upto_zero, List.append_nil]; exact hpre0, hnow.out, trivial⟩ ?_
   clear hnow hpre0 bp0 hbh
   rintro u ds wr ⟨i, pre, hi, h1, h2, h3, h4, h28, h29, hpre, hnow, hm⟩ K hK
   have fr : frameAt 52 u ds = ⟨#[u 0, u 1, u 2, u 3, u 4, u 5, u 6, u 7, u 8, u 9, u 10, u 11, u 12, u 13, u 14, u 15, u 16, u 17, u 18, u 19, u 20, u 21, u 22, u 23, u 24, u 25, u 26, u 27, u 28, u 29, u 30, u 31, u 32, u 33, u 34, u 35, u 36, u 37, u 38, u 39, u 40, u 41, u 42, u 43, u 44, u 45, u 46, u 47, u 48, u 49, u 50, u 51], ds⟩ := by kernel_rfl
   rw [fr, h1, h2, h3, h4, h28, h29]
   clear fr
   have hmu : (intOf (u 29)).toNat = i := by rw [h29]; simp [intOf]
   replace hK := Lib.hid hK
   replace hm := Lib.hid hm
   clear h1 h2 h3 h4 h28 h29
   by_cases hlt : i < l.length
   ·
    have hyes : decide ((i : Int) < (l.length : Int)) = true := decide_eq_true (by omega)
    have hA := hnow.at_
    have hon := Lib.hid (on_any l day (.slice pa l.length pc) (.slice la life.length lc) _ _ _ x (i : Int) wr (EdgesAt.more hA.E hA.hB) ⟨_, _, _, rfl⟩ hA.way hI hok)
    have p0 := hA.pl.cell (j := 0) rfl
    have p1 := hA.pl.cell (j := 1) rfl
    have p2 := hA.pl.cell (j := 2) rfl
    have w0 := hA.wa.cell (j := 0) rfl
    have w1 := hA.wa.cell (j := 1) rfl
    have w2' := hA.wa.cell (j := 2) rfl
    have w3' := hA.wa.cell (j := 3) rfl
    have w4' := hA.wa.cell (j := 4) rfl
    replace hnow := Lib.hid hnow
    replace hpre := Lib.hid hpre
    clear hA
    gi_upto_region 7 with fail
    gi_upto_region 8 with fail
    refine ⟨trivial, (callsIn_wide.2 hon.out).mono ?_⟩
    rintro e w5 ⟨he, hb5⟩
    cases ho : onP l day x (i : Int) with
    | none =>
     rw [ho] at he
     subst he
     dsimp only [zeroWayV]
     have hw2 : IntKind.i64.wrap ((i : Int) + 1) = (i : Int) + 1 := IntWalk.i64_in _ (by omega)
     gi_wp2_with fail
     have hb6 := hb5.trans (((Below.refl _ w5).alloc (Nat.le_refl _) (.cells #[.slice none 0 0, .slice none 0 0, .int .i64 0, .int .i64 0, .slice none 0 0] 82)).mono hb5.size)
     refine hK.out _ _ rfl ⟨i + 1, pre, by omega, rfl, rfl, rfl, rfl, rfl, rfl, by rw [upto_none ho]; exact hpre.out, hnow.out.below hJ hb6, hm.out.below hb6⟩ ?_
     rw [hmu]
     show l.length - (intOf (.int .i64 ((i : Int) + 1))).toNat < _
     simp only [intOf]
     omega
    | some nx =>
     rw [ho] at he
     obtain ⟨fv', ev', cv', rfl, hway⟩ := he
     obtain ⟨fa', fc', rfl, _⟩ := hway.formats.len
     obtain ⟨ea', ec', rfl, _⟩ := hway.edges.len
     obtain ⟨_, _, ⟨ca', cc', rfl, _, _, _⟩, _⟩ := id hway.claims
     dsimp only [wayV]
     gi_upto_region 8 with fail
     obtain ⟨w6, hw6⟩ : ∃ w6, w6 = w5.alloc (.cells #[.slice fa' nx.formats.length fc', .slice ea' nx.rou.edges.length ec', .int .i64 nx.rou.cost, .int .i64 nx.rou.life, .slice ca' nx.rou.claims.length cc'] 82) := ⟨_, rfl⟩
     have hN6 : Arr w6 w5.heap.size 82 [.slice fa' nx.formats.length fc', .slice ea' nx.rou.edges.length ec', .int .i64 nx.rou.cost, .int .i64 nx.rou.life, .slice ca' nx.rou.claims.length cc'] := by rw [hw6]; exact Arr.new rfl rfl
     have hb56 : Below w5.heap.size w5 w6 := by rw [hw6]; exact (Below.refl _ _).alloc (Nat.le_refl _) _
     have hb6 := hb5.trans (hb56.mono hb5.size)
     rw [← hw6]
     clear hw6
     have hway6 := hway.below hb56
     replace hnow := Lib.hid (hnow.out.below hJ hb6)
     replace hm := Lib.hid (hm.out.below hb6)
     have hA := hnow.out.at_
     have p0 := hA.pl.cell (j := 0) rfl
     have p1 := hA.pl.cell (j := 1) rfl
     have p2 := hA.pl.cell (j := 2) rfl
     have n0 := hN6.cell (j := 0) rfl
     have n1 := hN6.cell (j := 1) rfl
     have n2 := hN6.cell (j := 2) rfl
     have n3 := hN6.cell (j := 3) rfl
     have n4 := hN6.cell (j := 4) rfl
     have q0 := hA.ho.cell (j := 0) rfl
     have hws : IntKind.i64.wrap ((h : Int) + 1 - 1) = (h : Int) := by rw [show (h : Int) + 1 - 1 = (h : Int) by omega]; exact IntWalk.i64_in _ (by omega)
     have hws2 : IntKind.i64.wrap (h : Int) = (h : Int) := IntWalk.i64_in _ (by omega)
     have hfr := Lib.hid (from_any (.slice pa l.length pc) (.slice la life.length lc) (.slice fa' nx.formats.length fc') (.slice ea' nx.rou.edges.length ec') (.slice ca' nx.rou.claims.length cc') day nx h w6 ⟨_, _, _, rfl⟩ ⟨_, _, _, rfl⟩ ⟨_, _, _, rfl⟩ ⟨_, _, _, rfl⟩ ⟨_, _, _, rfl⟩)
     replace hway6 := Lib.hid hway6
     clear hA hway hb5
     gi_wp2_with fail
     refine ⟨trivial, (callsIn_wide.2 hfr.out).mono ?_⟩
     rintro e wl ⟨np, nw, nh, rfl, hNp, hNw, hNh, hbl⟩
     replace hnow := Lib.hid (hnow.out.below hJ hbl)
     replace hm := Lib.hid (hm.out.below hbl)
     have hA := hnow.out.at_
     have hFl : FromAt B0 l life day (.slice pa l.length pc) (.slice la life.length lc) h nx (.slice fa' nx.formats.length fc') (.slice ea' nx.rou.edges.length ec') (.slice ca' nx.rou.claims.length cc') np nw nh wl := ⟨hA.hB, hNp, hNw, hNh, hA.E, hA.L, hway6.out.below hbl⟩
     have hsq := ih (by omega) nx _ _ _ np nw nh wl hFl
     have hWl : W.heap.size ≤ wl.heap.size := hnow.out.k.1.size
     have hBl := hA.hB
     have hup := Lib.hid (upto_some ho : uptoP l life day h x (i + 1) = _)
     have hul := upto_le (l := l) (life := life) (day := day) (h := h) (x := x) (k := i + 1) (m := l.length) (by omega)
     have hpl : pre.length + (fromP l life day h nx).length ≤ (fromP l life day (h + 1) x).length := by
      have e1 := congrArg List.length hpre.out
      rw [List.length_map, List.length_append] at e1
      rw [upto_some ho, List.length_append] at hul
      rw [from_succ, List.length_append]
      omega
     replace hsq := Lib.hid hsq
     clear hA hNp hNw hNh n0 n1 n2 n3 n4 q0 p0 p1 p2 w0 w1 w2' w3' w4' hul hFl hfr
     gi_wp2_with fail
     refine wpIn_rangeFunc_all rfl (by omega) (gf := 78) (lb := #[.pointer (some ⟨np, 0, none⟩), .pointer (some ⟨nw, 0, none⟩), .pointer (some ⟨nh, 0, none⟩)]) rfl trivial (enters_of Tryz.func78 (by kernel_rfl) rfl)
      hsq.out.any (fun h k => h.trans k) ?kb (Below.refl _ _) (fun _ => rfl)
      (fun q W' => J (pre ++ q) W' ∧ KpR B0 wl W' ∧ KeepsFrom W.heap.size wl W') ?hI
      ⟨by rw [List.append_nil]; exact hnow.out.j, ⟨Below.refl _ _, KeepTy.refl _ _⟩, KeepsFrom.refl _ _⟩
      (fun z a' W' => OkR z W' ∧ a'.defers = [] ∧ a'.tmps.size = 52 ∧ slotAt a' 4 = .pointer (some ⟨W.heap.size, 0, none⟩) ∧ ∃ b, slotAt a' 10 = .pointer (some ⟨b, 0, none⟩) ∧ Arr W' b 33 z.cells) ?ax ?assign ?body ?done
     case kb =>
      intro W' q o o' hq ho hc hw
      exact KpR.putObj o' (by omega) ho hc
     case hI =>
      refine OwnFrom.and ?_ (OwnFrom.and ?_ (ownFrom_keepsFrom (Nat.le_refl _)))
      ·
       exact fun s A B row hs hg hr => ownFrom_more hJ hWl (pre ++ s) A B row hs hg hr
      ·
       refine OwnFrom.and (ownFrom_below hBl hBl) ?_
       exact keepTy_own _ _ _
     case ax =>
      rintro z a' s A B row ⟨hok, hd, hs, h4, b, h10, hA⟩ hg hr
      exact ⟨okR_own _ z () A B row hok hg hr, hd, hs, h4, b, h10, arr_grown hA hg hr⟩
     case assign =>
      intro l1 q z W' K hI hok hK
      obtain ⟨a, c, e1, _⟩ := hok.1.len
      obtain ⟨_, _, ⟨b, d, e2, _⟩, _⟩ := id hok.2
      obtain ⟨r, ev, cv⟩ := z
      dsimp only at e1 e2
      subst e1 e2
      have hba : Below W'.heap.size W' (W'.alloc (.cells #[.slice a r.edges.length c, .int .i64 r.cost, .int .i64 r.life, .slice b r.claims.length d] 33)) := (Below.refl _ _).alloc (Nat.le_refl _) _
      have hsz := hI.2.1.1.size
      dsimp only [encR, RouM.agg, rouV] at hK ⊢
      replace hok := Lib.hid hok
      replace hI := Lib.hid hI
      gi_wp2_with fail
      exact hK _ _ (keepsFrom_of_below hba) (KpR.of_below hba (by omega)) ⟨ownFrom_later hJ hI.out.1 hba, hI.out.2.1.trans (KpR.of_below hba (by omega)), hI.out.2.2.trans (keepsFrom_of_below hba)⟩ ⟨hok.out.below hba, rfl, rfl, rfl, W'.heap.size, rfl, Arr.new rfl rfl⟩
     case body =>
      rintro l1 q z a' W' hl1 ⟨rr, hrr⟩ ⟨hj, hk, hkf⟩ ⟨hok, hd, hs, h4, b, h10, hAz⟩ hlq
      have hy := arr_keepTy hnow.out.y (by decide) hk.2
      have y0 := hy.cell (j := 0) rfl
      have z0 := hAz.cell (j := 0) rfl
      have z1 := hAz.cell (j := 1) rfl
      have z2 := hAz.cell (j := 2) rfl
      have z3 := hAz.cell (j := 3) rfl
      obtain ⟨fn, tmps, assign, body, hyy, hR⟩ := YieldAt.anyDepth rfl (3 - 1 - 1 - 1) (hY (pre ++ q) z W' hj hok (by rw [List.length_append]; omega))
      obtain ⟨sa, sc, e1, _⟩ := hok.1.len
      obtain ⟨_, _, ⟨sb, sd, e2, _⟩, _⟩ := id hok.2
      obtain ⟨r, ev, cv⟩ := z
      dsimp only at e1 e2 z0 z1 z2 z3
      subst e1 e2
      dsimp only [encR, RouM.agg, rouV] at hyy
      have ha := act_frameAt hs
      rw [hd] at ha
      generalize slotAt a' = v at h4 h10 ha
      subst ha
      have fr : frameAt 52 v [] = ⟨#[v 0, v 1, v 2, v 3, v 4, v 5, v 6, v 7, v 8, v 9, v 10, v 11, v 12, v 13, v 14, v 15, v 16, v 17, v 18, v 19, v 20, v 21, v 22, v 23, v 24, v 25, v 26, v 27, v 28, v 29, v 30, v 31, v 32, v 33, v 34, v 35, v 36, v 37, v 38, v 39, v 40, v 41, v 42, v 43, v 44, v 45, v 46, v 47, v 48, v 49, v 50, v 51], []⟩ := by kernel_rfl
      rw [fr, h4, h10]
      clear fr h4 h10 hd hs hok hAz hy
      replace hk := Lib.hid hk
      replace hkf := Lib.hid hkf
      gi_wp2_with fail
      refine RoundIn.mono hR ?_
      rintro e W2 ⟨rfl, hj2, hk2, hkf2⟩
      gi_wp2_with fail
      exact ⟨keepsFrom_mono hkf2 hWl, hk2, by rw [← List.append_assoc]; exact hj2, hk.out.trans hk2, hkf.out.trans hkf2⟩
     case done =>
      rintro D xs W' hD hxs ⟨hj, hk, hkf⟩ hDm
      replace hnow := Lib.hid (⟨hnow.out.at_.kp hk, arr_keepTy hnow.out.y (by decide) hk.2, hj, hnow.out.k.trans hk, hnow.out.f.trans hkf⟩ : FromNow B0 l life day (.slice pa l.length pc) (.slice la life.length lc) (h + 1) x (.slice fa x.formats.length fc) (.slice ea x.rou.edges.length ec) (.slice ca x.rou.claims.length cc) bp bw bh W.heap.size l0 W J (pre ++ xs) W')
      have hmk : Marks W.heap.size ({ target := .collected D, args := #[] } :: ds) W' := by
       refine ⟨⟨D, rfl, by omega, hDm, fun e he => ?_⟩, hm.out.grown fun D' hB hD' _ => hkf.same D' _ hB hD' rfl⟩
       obtain ⟨D', h1, h2⟩ := marks_lt hm.out e he
       rw [h1]
       intro hc
       injection hc with hc
       omega
      replace hmk := Lib.hid hmk
      have hw2 : IntKind.i64.wrap ((i : Int) + 1) = (i : Int) + 1 := IntWalk.i64_in _ (by omega)
      clear hk hkf hj
      gi_wp2_with fail
      refine hK.out _ _ rfl ⟨i + 1, pre ++ xs, by omega, rfl, rfl, rfl, rfl, rfl, rfl, by rw [List.map_append, hpre.out, hxs, hup.out, List.append_assoc], hnow.out, hmk.out⟩ ?_
      rw [hmu]
      show l.length - (intOf (.int .i64 ((i : Int) + 1))).toNat < _
      simp only [intOf]
      omega
   ·
    obtain rfl : i = l.length := by omega
    have hno : decide ((l.length : Int) < (l.length : Int)) = false := by simp
    replace hnow := Lib.hid hnow
    gi_wp2_with fail
    refine leaves_marks (B := W.heap.size) (K := fun W' => ∃ xs, xs.map RouM.r = fromP l life day (h + 1) x ∧ J xs W') ?hK ?hend ds wr hm.out ⟨pre, by rw [hpre, ← from_succ], hnow.out.j⟩
    case hK =>
     rintro W' D o hD ho hc ⟨xs, hx1, hx2⟩
     exact ⟨xs, hx1, OwnFrom.putObj hJ _ hx2 hD ho hc⟩
    case hend =>
     rintro W' ⟨xs, hx1, hx2⟩
     exact ⟨_, results_none rfl _ _ _, ⟨_, rfl⟩, xs, hx1, hx2⟩
end Go.Proofs.YtpeandbcdaikbaaGreatDoor
