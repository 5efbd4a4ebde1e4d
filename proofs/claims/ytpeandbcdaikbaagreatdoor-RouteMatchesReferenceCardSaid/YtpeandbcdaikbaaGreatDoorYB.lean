/-
 Routes of chapter 11: abstractions, plain model.
 Routes of chapter 11: migrations and routes, plain model.
 Routes of chapter 11: ways and routes, plain model.
 Routes of chapter 11: what ways say, plain.
 Routes of chapter 11: the best routes, plain.
-/
import Derived.Test.YtpeandbcdaikbaaGreatDoorYA
namespace Go.Proofs.YtpeandbcdaikbaaGreatDoor

/-- A step of an abstraction. -/
structure Stp where
 kind : Int
 n : Int
deriving DecidableEq, Inhabited
def fitsA (p : Int) (s : Stp) : Bool :=
 if s.kind = 1 ∨ s.kind = 2 then p == 1 && s.n == 0
 else if s.kind = 3 then (p == 3 || p == 5) && (s.n == 10 || s.n == 100 || s.n == 1000)
 else if s.kind = 4 then p == 2 && decide (0 ≤ s.n ∧ s.n ≤ 6)
 else if s.kind = 5 then (p == 6 || p == 7) && s.n == 0
 else if s.kind = 6 then decide (1 ≤ p ∧ p ≤ 8) && s.n == 0
 else false
def validA (p : Int) (l : List Stp) : Bool := decide (1 ≤ p ∧ p ≤ 8) && decide (l.length ≤ 64) && l.all (fitsA p)
def numsA (k : Int) (l : List Stp) : List Int := (l.filter (·.kind == k)).map (·.n)
def minL (l : List Int) : Int := l.foldl min l.head!
def maxL (l : List Int) : Int := l.foldl max l.head!
/-- What is left of the numbers of one kind's steps. -/
def canon (k : Int) (l : List Int) : List Int := if l = [] then [] else if k = 3 then [maxL l] else if k = 5 then l.take 5 else [minL l]
def ofKind (k : Int) (l : List Int) : List Stp := (canon k l).map fun n => ⟨k, n⟩
def normalA (l : List Stp) : List Stp :=
 if numsA 6 l ≠ [] then [⟨6, 0⟩] else [1, 2, 3, 4, 5].flatMap fun k => ofKind k (numsA k l)
def lostA (l : List Stp) : Bool := decide (l.length = 1) && l.head!.kind == 6
def coarserA (p : Int) (a b : List Stp) : Bool :=
 validA p a && validA p b &&
  (if lostA (normalA a) || lostA (normalA b) then lostA (normalA a)
   else if p = 6 ∨ p = 7 then decide ((normalA b).length ≤ (normalA a).length)
   else decide (normalA (b ++ a) = normalA a))
theorem numsA_app (k : Int) (a b : List Stp) : numsA k (a ++ b) = numsA k a ++ numsA k b := by
 unfold numsA
 rw [List.filter_append, List.map_append]
theorem minL_app {a b : List Int} (ha : a ≠ []) (hb : b ≠ []) : minL (a ++ b) = min (minL a) (minL b) := by
 obtain ⟨x, r, rfl⟩ := List.exists_cons_of_ne_nil ha
 obtain ⟨y, t, rfl⟩ := List.exists_cons_of_ne_nil hb
 have key : ∀ (t : List Int) (u y : Int), t.foldl min (min u y) = min u (t.foldl min y) := fun t => by
  induction t with
  | nil => intro u y; rfl
  | cons z t ih => intro u y; rw [List.foldl_cons, List.foldl_cons, ← ih]; congr 1; omega
 unfold minL
 show (r ++ y :: t).foldl min (min x x) = min (r.foldl min (min x x)) (t.foldl min (min y y))
 rw [List.foldl_append, List.foldl_cons, key, Int.min_self, Int.min_self]
theorem maxL_app {a b : List Int} (ha : a ≠ []) (hb : b ≠ []) : maxL (a ++ b) = max (maxL a) (maxL b) := by
 obtain ⟨x, r, rfl⟩ := List.exists_cons_of_ne_nil ha
 obtain ⟨y, t, rfl⟩ := List.exists_cons_of_ne_nil hb
 have key : ∀ (t : List Int) (u y : Int), t.foldl max (max u y) = max u (t.foldl max y) := fun t => by
  induction t with
  | nil => intro u y; rfl
  | cons z t ih => intro u y; rw [List.foldl_cons, List.foldl_cons, ← ih]; congr 1; omega
 unfold maxL
 show (r ++ y :: t).foldl max (max x x) = max (r.foldl max (max x x)) (t.foldl max (max y y))
 rw [List.foldl_append, List.foldl_cons, key, Int.max_self, Int.max_self]
theorem minL_one (x : Int) : minL [x] = x := by show min x x = x; omega
theorem maxL_one (x : Int) : maxL [x] = x := by show max x x = x; omega
theorem canon_nil (k : Int) : canon k [] = [] := rfl
theorem canon_3 {l : List Int} (h : l ≠ []) : canon 3 l = [maxL l] := by unfold canon; rw [if_neg h, if_pos rfl]
theorem canon_5 {l : List Int} (h : l ≠ []) : canon 5 l = l.take 5 := by unfold canon; rw [if_neg h, if_neg (by decide), if_pos rfl]
theorem canon_k {k : Int} {l : List Int} (h : l ≠ []) (h3 : k ≠ 3) (h5 : k ≠ 5) : canon k l = [minL l] := by unfold canon; rw [if_neg h, if_neg h3, if_neg h5]
theorem canon_left (k : Int) (a b : List Int) : canon k (canon k a ++ b) = canon k (a ++ b) := by
 by_cases ha : a = []
 ·
  subst ha
  rfl
 have h2 : a ++ b ≠ [] := fun e => ha (List.append_eq_nil_iff.1 e).1
 by_cases h3 : k = 3
 ·
  subst h3
  rw [canon_3 ha, canon_3 h2, canon_3 (by simp)]
  by_cases hb : b = []
  ·
   subst hb
   rw [List.append_nil, List.append_nil, maxL_one]
  ·
   rw [maxL_app (by simp) hb, maxL_app ha hb, maxL_one]
 by_cases h5 : k = 5
 ·
  subst h5
  have h1 : a.take 5 ++ b ≠ [] := fun e => ha ((List.take_eq_nil_iff.1 (List.append_eq_nil_iff.1 e).1).resolve_left (by decide))
  rw [canon_5 ha, canon_5 h2, canon_5 h1, List.take_append, List.take_append, List.take_take, List.length_take]
  by_cases h : a.length ≤ 5
  ·
   rw [show min 5 a.length = a.length by omega, Nat.min_self]
  ·
   rw [show 5 - min 5 a.length = 0 by omega, show 5 - a.length = 0 by omega, Nat.min_self]
 rw [canon_k ha h3 h5, canon_k h2 h3 h5, canon_k (by simp) h3 h5]
 by_cases hb : b = []
 ·
  subst hb
  rw [List.append_nil, List.append_nil, minL_one]
 ·
  rw [minL_app (by simp) hb, minL_app ha hb, minL_one]
theorem canon_right (k : Int) (a b : List Int) : canon k (a ++ canon k b) = canon k (a ++ b) := by
 by_cases hb : b = []
 ·
  subst hb
  rfl
 have h2 : a ++ b ≠ [] := fun e => hb (List.append_eq_nil_iff.1 e).2
 by_cases h3 : k = 3
 ·
  subst h3
  rw [canon_3 hb, canon_3 h2, canon_3 (by simp)]
  by_cases ha : a = []
  ·
   subst ha
   rw [List.nil_append, List.nil_append, maxL_one]
  ·
   rw [maxL_app ha (by simp), maxL_app ha hb, maxL_one]
 by_cases h5 : k = 5
 ·
  subst h5
  have h1 : a ++ b.take 5 ≠ [] := fun e => hb ((List.take_eq_nil_iff.1 (List.append_eq_nil_iff.1 e).2).resolve_left (by decide))
  rw [canon_5 hb, canon_5 h2, canon_5 h1, List.take_append, List.take_append, List.take_take]
  congr 2
  omega
 rw [canon_k hb h3 h5, canon_k h2 h3 h5, canon_k (by simp) h3 h5]
 by_cases ha : a = []
 ·
  subst ha
  rw [List.nil_append, List.nil_append, minL_one]
 ·
  rw [minL_app ha (by simp), minL_app ha hb, minL_one]
theorem numsA_of (j k : Int) (l : List Int) : numsA j (ofKind k l) = if k = j then canon k l else [] := by
 unfold numsA ofKind
 rw [List.filter_map, List.map_map]
 by_cases h : k = j
 ·
  rw [if_pos h, List.filter_eq_self.2 (fun x _ => by simp [h])]
  simp [Function.comp_def]
 ·
  rw [if_neg h, List.filter_eq_nil_iff.2 (fun x _ => by simp [h])]
  rfl
theorem numsA_normal {l : List Stp} (h6 : numsA 6 l = []) (j : Int) : numsA j (normalA l) = if 1 ≤ j ∧ j ≤ 5 then canon j (numsA j l) else [] := by
 unfold normalA
 rw [if_neg (by simpa using h6)]
 simp only [List.flatMap_cons, List.flatMap_nil, List.append_nil, numsA_app, numsA_of]
 by_cases h : 1 ≤ j ∧ j ≤ 5
 ·
  rw [if_pos h]
  obtain rfl | rfl | rfl | rfl | rfl : j = 1 ∨ j = 2 ∨ j = 3 ∨ j = 4 ∨ j = 5 := by omega
  all_goals simp
 ·
  rw [if_neg h, if_neg (by omega), if_neg (by omega), if_neg (by omega), if_neg (by omega), if_neg (by omega)]
  rfl
theorem normal_eq {l m : List Stp} (h6 : (numsA 6 l = []) ↔ (numsA 6 m = [])) (h : numsA 6 l = [] → ∀ k, 1 ≤ k → k ≤ 5 → canon k (numsA k l) = canon k (numsA k m)) : normalA l = normalA m := by
 unfold normalA
 by_cases hl : numsA 6 l = []
 ·
  rw [if_neg (by simpa using hl), if_neg (by simpa using h6.1 hl)]
  simp only [List.flatMap_cons, List.flatMap_nil, ofKind, h hl 1 (by omega) (by omega), h hl 2 (by omega) (by omega), h hl 3 (by omega) (by omega), h hl 4 (by omega) (by omega), h hl 5 (by omega) (by omega)]
 ·
  rw [if_pos hl, if_pos fun e => hl (h6.2 e)]
theorem numsA_lost {l : List Stp} (h6 : numsA 6 l ≠ []) : normalA l = [⟨6, 0⟩] := by
 unfold normalA
 rw [if_pos h6]
theorem lost_iff (l : List Stp) : numsA 6 (normalA l) = [] ↔ numsA 6 l = [] := by
 by_cases h : numsA 6 l = []
 ·
  rw [numsA_normal h]
  simp [h]
 ·
  rw [numsA_lost h]
  exact ⟨fun e => absurd e (by decide), fun e => absurd e h⟩
theorem normal_left (a b : List Stp) : normalA (normalA a ++ b) = normalA (a ++ b) := by
 refine normal_eq ?_ fun h k h1 h5 => ?_
 ·
  rw [numsA_app, numsA_app, List.append_eq_nil_iff, List.append_eq_nil_iff, lost_iff]
 ·
  rw [numsA_app, List.append_eq_nil_iff, lost_iff] at h
  rw [numsA_app, numsA_app, numsA_normal h.1, if_pos ⟨h1, h5⟩, canon_left]
theorem normal_right (a b : List Stp) : normalA (a ++ normalA b) = normalA (a ++ b) := by
 refine normal_eq ?_ fun h k h1 h5 => ?_
 ·
  rw [numsA_app, numsA_app, List.append_eq_nil_iff, List.append_eq_nil_iff, lost_iff]
 ·
  rw [numsA_app, List.append_eq_nil_iff, lost_iff] at h
  rw [numsA_app, numsA_app, numsA_normal h.2, if_pos ⟨h1, h5⟩, canon_right]
theorem normal_idem (a : List Stp) : normalA (normalA a) = normalA a := by
 have := normal_left a []
 rwa [List.append_nil, List.append_nil] at this
theorem kinds_normal {l : List Stp} (h6 : numsA 6 l = []) : ∀ s ∈ normalA l, 1 ≤ s.kind ∧ s.kind ≤ 5 := by
 intro s hs
 unfold normalA at hs
 rw [if_neg (by simpa using h6)] at hs
 obtain ⟨k, hk, hs⟩ := List.mem_flatMap.1 hs
 unfold ofKind at hs
 obtain ⟨n, _, rfl⟩ := List.mem_map.1 hs
 simp only [List.mem_cons, List.not_mem_nil, or_false] at hk
 show 1 ≤ k ∧ k ≤ 5
 omega
theorem lostA_normal (l : List Stp) : lostA (normalA l) = decide (numsA 6 l ≠ []) := by
 by_cases h : numsA 6 l = []
 ·
  rw [decide_eq_false (by simpa using h)]
  unfold lostA
  rw [Bool.and_eq_false_iff]
  by_cases hl : (normalA l).length = 1
  ·
   obtain ⟨s, hs⟩ := List.length_eq_one_iff.1 hl
   have := kinds_normal h s (by rw [hs]; exact List.mem_singleton.2 rfl)
   refine .inr ?_
   rw [hs]
   show (s.kind == 6) = false
   exact beq_false_of_ne (by omega)
  ·
   exact .inl (decide_eq_false hl)
 ·
  rw [decide_eq_true h, numsA_lost h]
  rfl
theorem coarser_trans {p : Int} {a b c : List Stp} (h1 : coarserA p a b = true) (h2 : coarserA p b c = true) : coarserA p a c = true := by
 unfold coarserA at *
 rw [Bool.and_eq_true, Bool.and_eq_true] at h1 h2 ⊢
 obtain ⟨⟨va, vb⟩, h1⟩ := h1
 obtain ⟨⟨_, vc⟩, h2⟩ := h2
 refine ⟨⟨va, vc⟩, ?_⟩
 rw [lostA_normal, lostA_normal] at *
 by_cases ha : numsA 6 a = []
 ·
  by_cases hb : numsA 6 b = []
  ·
   by_cases hc : numsA 6 c = []
   ·
    rw [if_neg (by simp [ha, hb])] at h1
    rw [if_neg (by simp [hc, hb])] at h2
    rw [if_neg (by simp [ha, hc])]
    by_cases hp : p = 6 ∨ p = 7
    ·
     rw [if_pos hp] at *
     simp only [decide_eq_true_eq] at *
     omega
    ·
     rw [if_neg hp] at *
     simp only [decide_eq_true_eq] at *
     rw [← normal_right c a, ← h1, normal_right, ← List.append_assoc, ← normal_left (c ++ b) a, h2, normal_left, h1]
   ·
    rw [if_pos (by simp [hc])] at h2
    simp [hb] at h2
  ·
   rw [if_pos (by simp [hb])] at h1
   simp [ha] at h1
 ·
  rw [if_pos (by simp [ha])]
  simp [ha]
theorem no_halve {p : Int} {l : List Stp} (h : validA p l = true) (hp : ¬(p = 6 ∨ p = 7)) : numsA 5 l = [] := by
 unfold validA at h
 rw [Bool.and_eq_true, List.all_eq_true] at h
 unfold numsA
 rw [List.filter_eq_nil_iff.2 fun s hs => ?_]
 ·
  rfl
 ·
  intro e
  have e5 : s.kind = 5 := by simpa using e
  have := h.2 s hs
  unfold fitsA at this
  rw [e5] at this
  simp at this
  exact hp this.1
theorem coarser_refl {p : Int} {l : List Stp} (h : validA p l = true) : coarserA p l l = true := by
 unfold coarserA
 rw [h, Bool.true_and, Bool.true_and, Bool.or_self]
 cases hl : lostA (normalA l) with
 | true => rfl
 | false =>
  rw [if_neg (by decide)]
  by_cases hp : p = 6 ∨ p = 7
  ·
   rw [if_pos hp]
   exact decide_eq_true (Nat.le_refl _)
  ·
   rw [if_neg hp]
   refine decide_eq_true (normal_eq (by rw [numsA_app, List.append_eq_nil_iff, and_self_iff]) fun _ k h1 h5 => ?_)
   rw [numsA_app]
   by_cases hn : numsA k l = []
   ·
    rw [hn]; rfl
   ·
    have h2 : numsA k l ++ numsA k l ≠ [] := fun e => hn (List.append_eq_nil_iff.1 e).1
    by_cases h3 : k = 3
    ·
     subst h3
     rw [canon_3 hn, canon_3 h2, maxL_app hn hn, Int.max_self]
    ·
     by_cases h5' : k = 5
     ·
      subst h5'
      exact absurd (no_halve h hp) hn
     ·
      rw [canon_k hn h3 h5', canon_k h2 h3 h5', minL_app hn hn, Int.min_self]
end Go.Proofs.YtpeandbcdaikbaaGreatDoor
namespace Go.Proofs.YtpeandbcdaikbaaGreatDoor

/-- A property and steps for it: an element of Keep, a claim. -/
abbrev Kp := Int × List Stp
abbrev Kp.prop (k : Kp) : Int := k.1
abbrev Kp.steps (k : Kp) : List Stp := k.2
structure Mig where
 id : Int
 frm : Int
 to : Int
 back : Bool
 keep : List Kp
deriving DecidableEq, Inhabited
def isIdM (n : Int) : Bool := decide (1 ≤ n ∧ n ≤ 1000000)
def isKeepM (k : Kp) : Bool :=
 (k.prop == 1 || k.prop == 2 || k.prop == 3 || k.prop == 4 || k.prop == 7) && decide (k.steps ≠ []) && validA k.prop k.steps && decide (normalA k.steps = k.steps) && (k.prop != 4 || decide (k.steps = [⟨6, 0⟩]))
def ascM : List Kp → Bool
 | a :: b :: r => decide (a.prop < b.prop) && ascM (b :: r)
 | _ => true
def validM (m : Mig) : Bool := ascM m.keep && isIdM m.id && isIdM m.frm && isIdM m.to && !(m.back && decide (m.keep ≠ [])) && m.keep.all isKeepM
def stepsM (m : Mig) (p : Int) : List Stp := match m.keep.find? (·.prop == p) with
 | some k => k.steps
 | none => []
def claimM (m : Mig) (p : Int) : List Stp :=
 if (p = 3 ∧ stepsM m 4 ≠ []) ∨ (p = 5 ∧ stepsM m 3 ≠ []) then [⟨6, 0⟩] else if p = 6 then stepsM m 7 else stepsM m p
structure Edg where
 cost : Int
 until_ : Int
 does : Mig
deriving DecidableEq, Inhabited
def validE (l : List Edg) : Bool := decide (l.length ≤ 40) && l.all fun e => decide (0 ≤ e.cost ∧ e.cost ≤ 1000000) && decide (0 ≤ e.until_ ∧ e.until_ ≤ 100000) && validM e.does
/-- A route: its edges, cost, life, and claims (a list of steps for each of the properties 1 to 8). -/
structure Rou where
 edges : List Int
 cost : Int
 life : Int
 claims : List (Int × List Stp)
deriving DecidableEq, Inhabited
end Go.Proofs.YtpeandbcdaikbaaGreatDoor
namespace Go.Proofs.YtpeandbcdaikbaaGreatDoor

abbrev Clms := List (Int × List Stp)
/-- The steps of the first claim about a property. -/
def stepsC (l : Clms) (p : Int) : List Stp := match l.find? (·.1 == p) with
 | some c => c.2
 | none => []
def composeA (p : Int) (a b : List Stp) : List Stp := if validA p a && validA p b then normalA (a ++ b) else []
def props8 : List Int := [1, 2, 3, 4, 5, 6, 7, 8]
def claimsM (m : Mig) : Clms := props8.map fun p => (p, claimM m p)
def betterP (a b : Rou) : Bool := props8.all (fun p => coarserA p (stepsC b.claims p) (stepsC a.claims p)) && (decide (a.cost ≤ b.cost) && decide (b.life ≤ a.life))
def keepsP (r : Rou) (policy : Clms) : Bool := policy.all fun c => coarserA c.1 c.2 (stepsC r.claims c.1)
/-- A way that is being made. -/
structure Way where
 formats : List Int
 rou : Rou
deriving DecidableEq, Inhabited
def zeroC : Clms := props8.map fun p => (p, [])
def beginP (frm : Int) : Way := ⟨[frm], ⟨[], 0, 0, zeroC⟩⟩
def Way.last (w : Way) : Int := w.formats.getLastD 0
def onP (l : List Edg) (day : Int) (w : Way) (edge : Int) : Option Way :=
 if edge < 0 ∨ (l.length : Int) ≤ edge ∨ w.rou.edges.length = 6 then none
 else if l[edge.toNat]!.does.frm ≠ w.last ∨ l[edge.toNat]!.until_ < day ∨ l[edge.toNat]!.does.to ∈ w.formats then none
 else some ⟨w.formats ++ [l[edge.toNat]!.does.to], ⟨w.rou.edges ++ [edge], w.rou.cost + l[edge.toNat]!.cost, 0, w.rou.claims.map fun c => (c.1, composeA c.1 c.2 (stepsC (claimsM l[edge.toNat]!.does) c.1))⟩⟩
def arrivedP (life : List Int) (day : Int) (w : Way) : Option Rou :=
 if w.last < 0 ∨ (life.length : Int) ≤ w.last ∨ life[w.last.toNat]! < day then none else some { w.rou with life := life[w.last.toNat]! }
def onsP (l : List Edg) (day : Int) : Way → List Int → Option Way
 | w, [] => some w
 | w, e :: es => match onP l day w e with
  | some n => onsP l day n es
  | none => none
def ofP (l : List Edg) (life : List Int) (frm day : Int) (es : List Int) : Option Rou :=
 if validE l then (onsP l day (beginP frm) es).bind (arrivedP life day) else none
def fromP (l : List Edg) (life : List Int) (day : Int) : Nat → Way → List Rou
 | 0, w => (arrivedP life day w).toList
 | h + 1, w => (arrivedP life day w).toList ++ (List.range l.length).flatMap fun (i : Nat) => match onP l day w (i : Int) with
  | some n => fromP l life day h n
  | none => []
/-- The order of slices.Compare. -/
def cmpL : List Int → List Int → Int
 | [], [] => 0
 | [], _ :: _ => -1
 | _ :: _, [] => 1
 | a :: l, b :: m => if a < b then -1 else if b < a then 1 else cmpL l m
def cmpI (a b : Int) : Int := if a < b then -1 else if b < a then 1 else 0
def firstI (a b c : Int) : Int := if a ≠ 0 then a else if b ≠ 0 then b else c
def compareP (a b : Rou) : Int := firstI (cmpI a.cost b.cost) (cmpI b.life a.life) (cmpL a.edges b.edges)
def aheadP (a b : Rou) : Bool := decide (compareP a b < 0)
/-- Better in the order of Best. -/
def beatsP (o r : Rou) : Bool := betterP o r && (aheadP o r || !betterP r o)
def isBest (all : List Rou) (r : Rou) : Bool := all.all fun o => decide (o = r) || !beatsP o r
def sortR (l : List Rou) : List Rou := l.mergeSort fun a b => !aheadP b a
def allP (l : List Edg) (life : List Int) (frm day hops : Int) : List Rou := fromP l life day (min hops 6).toNat (beginP frm)
def bestP (l : List Edg) (life : List Int) (frm day hops : Int) : List Rou :=
 if validE l = true ∧ 0 ≤ hops then (sortR (allP l life frm day hops)).filter (isBest (allP l life frm day hops)) else []

/-! The order is total and strict. -/
theorem cmpI_neg (a b : Int) : cmpI a b < 0 ↔ a < b := by unfold cmpI; split <;> (try split) <;> omega
theorem cmpI_zero (a b : Int) : cmpI a b = 0 ↔ a = b := by unfold cmpI; split <;> (try split) <;> omega
theorem cmpL_zero : ∀ a b : List Int, cmpL a b = 0 ↔ a = b
 | [], [] => by simp [cmpL]
 | [], _ :: _ => by simp [cmpL]
 | _ :: _, [] => by simp [cmpL]
 | a :: l, b :: m => by
  rw [cmpL]
  have ih := cmpL_zero l m
  by_cases h1 : a < b
  ·
   rw [if_pos h1]
   simp only [List.cons.injEq]
   omega
  ·
   rw [if_neg h1]
   by_cases h2 : b < a
   ·
    rw [if_pos h2]
    simp only [List.cons.injEq]
    omega
   ·
    rw [if_neg h2, ih, List.cons.injEq]
    exact ⟨fun h => ⟨by omega, h⟩, fun h => h.2⟩
theorem cmpL_anti : ∀ a b : List Int, cmpL b a = -cmpL a b
 | [], [] => by simp [cmpL]
 | [], _ :: _ => by simp [cmpL]
 | _ :: _, [] => by simp [cmpL]
 | a :: l, b :: m => by
  rw [cmpL, cmpL]
  have ih := cmpL_anti l m
  split <;> split <;> (try split) <;> omega
theorem cmpL_trans : ∀ a b c : List Int, cmpL a b < 0 → cmpL b c < 0 → cmpL a c < 0
 | [], [], _, h, _ => by simp [cmpL] at h
 | [], _ :: _, [], _, h => by simp [cmpL] at h
 | [], _ :: _, _ :: _, _, _ => by simp [cmpL]
 | _ :: _, [], _, h, _ => by simp [cmpL] at h
 | _ :: _, _ :: _, [], _, h => by simp [cmpL] at h
 | a :: l, b :: m, c :: n, h1, h2 => by
  rw [cmpL] at *
  have ih := cmpL_trans l m n
  by_cases x1 : a < b
  ·
   by_cases y1 : b < c
   ·
    rw [if_pos (show a < c by omega)]; omega
   ·
    rw [if_neg y1] at h2
    by_cases y2 : c < b
    ·
     rw [if_pos y2] at h2; omega
    ·
     rw [if_pos (show a < c by omega)]; omega
  ·
   rw [if_neg x1] at h1
   by_cases x2 : b < a
   ·
    rw [if_pos x2] at h1; omega
   ·
    rw [if_neg x2] at h1
    by_cases y1 : b < c
    ·
     rw [if_pos (show a < c by omega)]; omega
    ·
     rw [if_neg y1] at h2
     by_cases y2 : c < b
     ·
      rw [if_pos y2] at h2; omega
     ·
      rw [if_neg y2] at h2
      rw [if_neg (show ¬a < c by omega), if_neg (show ¬c < a by omega)]
      exact ih h1 h2
theorem ahead_iff (a b : Rou) : aheadP a b = true ↔ a.cost < b.cost ∨ (a.cost = b.cost ∧ (b.life < a.life ∨ (a.life = b.life ∧ cmpL a.edges b.edges < 0))) := by
 unfold aheadP compareP firstI
 rw [decide_eq_true_eq]
 have e1 := cmpI_neg a.cost b.cost
 have e2 := cmpI_zero a.cost b.cost
 have e3 := cmpI_neg b.life a.life
 have e4 := cmpI_zero b.life a.life
 by_cases h1 : cmpI a.cost b.cost = 0
 ·
  rw [if_neg (by simpa using h1)]
  by_cases h2 : cmpI b.life a.life = 0
  ·
   rw [if_neg (by simpa using h2)]
   have := e2.1 h1
   have := e4.1 h2
   omega
  ·
   rw [if_pos h2]
   have := e2.1 h1
   omega
 ·
  rw [if_pos h1]
  omega
theorem ahead_irr (a : Rou) : aheadP a a = false := by
 rw [Bool.eq_false_iff]
 intro h
 have h2 := (cmpL_zero a.edges a.edges).2 rfl
 rcases (ahead_iff a a).1 h with h | ⟨_, h | ⟨_, h⟩⟩ <;> omega
theorem ahead_trans {a b c : Rou} (h1 : aheadP a b = true) (h2 : aheadP b c = true) : aheadP a c = true := by
 rw [ahead_iff] at *
 have h3 := cmpL_trans a.edges b.edges c.edges
 omega
theorem ahead_total {a b : Rou} (h1 : aheadP a b = false) (h2 : aheadP b a = false) : a.edges = b.edges := by
 rw [Bool.eq_false_iff] at h1 h2
 have h1 := mt (ahead_iff a b).2 h1
 have h2 := mt (ahead_iff b a).2 h2
 have h3 := cmpL_anti a.edges b.edges
 exact (cmpL_zero _ _).1 (by omega)
theorem ahead_asymm {a b : Rou} (h : aheadP a b = true) : aheadP b a = false := by
 rw [Bool.eq_false_iff]
 intro h2
 have := ahead_trans h h2
 rw [ahead_irr] at this
 cases this
end Go.Proofs.YtpeandbcdaikbaaGreatDoor
namespace Go.Proofs.YtpeandbcdaikbaaGreatDoor

theorem minL_mem : ∀ {l : List Int}, l ≠ [] → minL l ∈ l
 | [], h => absurd rfl h
 | [x], _ => by rw [minL_one]; exact List.mem_singleton.2 rfl
 | x :: y :: r, _ => by
  have h := minL_app (a := [x]) (b := y :: r) (by simp) (by simp)
  rw [minL_one] at h
  have ih := minL_mem (l := y :: r) (by simp)
  rw [show x :: y :: r = [x] ++ y :: r from rfl, h]
  by_cases hx : x ≤ minL (y :: r)
  ·
   rw [Int.min_eq_left hx]; exact List.mem_cons_self
  ·
   rw [Int.min_eq_right (by omega)]; exact List.mem_cons_of_mem _ ih
theorem maxL_mem : ∀ {l : List Int}, l ≠ [] → maxL l ∈ l
 | [], h => absurd rfl h
 | [x], _ => by rw [maxL_one]; exact List.mem_singleton.2 rfl
 | x :: y :: r, _ => by
  have h := maxL_app (a := [x]) (b := y :: r) (by simp) (by simp)
  rw [maxL_one] at h
  have ih := maxL_mem (l := y :: r) (by simp)
  rw [show x :: y :: r = [x] ++ y :: r from rfl, h]
  by_cases hx : x ≤ maxL (y :: r)
  ·
   rw [Int.max_eq_right hx]; exact List.mem_cons_of_mem _ ih
  ·
   rw [Int.max_eq_left (by omega)]; exact List.mem_cons_self
theorem canon_mem {k : Int} {l : List Int} {n : Int} (h : n ∈ canon k l) : n ∈ l := by
 by_cases h0 : l = []
 ·
  subst h0; exact h
 by_cases h3 : k = 3
 ·
  subst h3
  rw [canon_3 h0, List.mem_singleton] at h
  rw [h]; exact maxL_mem h0
 by_cases h5 : k = 5
 ·
  subst h5
  rw [canon_5 h0] at h
  exact List.mem_of_mem_take h
 rw [canon_k h0 h3 h5, List.mem_singleton] at h
 rw [h]; exact minL_mem h0
theorem canon_len (k : Int) (l : List Int) : (canon k l).length ≤ if k = 5 then 5 else 1 := by
 by_cases h0 : l = []
 ·
  subst h0; simp [canon]
 by_cases h3 : k = 3
 ·
  subst h3; rw [canon_3 h0]; simp
 by_cases h5 : k = 5
 ·
  subst h5; rw [canon_5 h0, if_pos rfl, List.length_take]; omega
 ·
  rw [canon_k h0 h3 h5, if_neg h5]; simp
theorem normal_len (l : List Stp) : (normalA l).length ≤ 9 := by
 unfold normalA
 split
 ·
  simp
 ·
  have h1 := canon_len 1 (numsA 1 l)
  have h2 := canon_len 2 (numsA 2 l)
  have h3 := canon_len 3 (numsA 3 l)
  have h4 := canon_len 4 (numsA 4 l)
  have h5 := canon_len 5 (numsA 5 l)
  simp only [List.flatMap_cons, List.flatMap_nil, List.append_nil, List.length_append, ofKind, List.length_map]
  simp only [show ¬(1 : Int) = 5 by decide, show ¬(2 : Int) = 5 by decide, show ¬(3 : Int) = 5 by decide, show ¬(4 : Int) = 5 by decide, if_false, if_true] at h1 h2 h3 h4 h5
  omega
theorem normal_mem {p : Int} {l : List Stp} (h : ∀ s ∈ l, fitsA p s = true) : ∀ s ∈ normalA l, s ∈ l := by
 intro s hs
 by_cases h6 : numsA 6 l = []
 ·
  unfold normalA at hs
  rw [if_neg (by simpa using h6)] at hs
  obtain ⟨k, _, hs⟩ := List.mem_flatMap.1 hs
  unfold ofKind at hs
  obtain ⟨n, hn, rfl⟩ := List.mem_map.1 hs
  have := canon_mem hn
  unfold numsA at this
  obtain ⟨t, ht, hn2⟩ := List.mem_map.1 this
  obtain ⟨ht2, hk⟩ := List.mem_filter.1 ht
  have hk : t.kind = k := by simpa using hk
  rw [← hk, ← hn2]
  exact ht2
 ·
  rw [numsA_lost h6, List.mem_singleton] at hs
  subst hs
  obtain ⟨n, hn⟩ := List.exists_mem_of_ne_nil _ h6
  unfold numsA at hn
  obtain ⟨t, ht, rfl⟩ := List.mem_map.1 hn
  obtain ⟨ht, hk⟩ := List.mem_filter.1 ht
  have hk : t.kind = 6 := by simpa using hk
  have hf := h t ht
  unfold fitsA at hf
  rw [hk] at hf
  have hn : t.n = 0 := by simp at hf; exact hf.2
  have : t = ⟨6, 0⟩ := by cases t; simp_all
  rwa [← this]
theorem valid_parts {p : Int} {l : List Stp} (h : validA p l = true) : (1 ≤ p ∧ p ≤ 8) ∧ l.length ≤ 64 ∧ ∀ s ∈ l, fitsA p s = true := by
 unfold validA at h
 rw [Bool.and_eq_true, Bool.and_eq_true, decide_eq_true_eq, decide_eq_true_eq, List.all_eq_true] at h
 exact ⟨h.1.1, h.1.2, h.2⟩
theorem valid_mk {p : Int} {l : List Stp} (hp : 1 ≤ p ∧ p ≤ 8) (hl : l.length ≤ 64) (h : ∀ s ∈ l, fitsA p s = true) : validA p l = true := by
 unfold validA
 rw [Bool.and_eq_true, Bool.and_eq_true, decide_eq_true_eq, decide_eq_true_eq, List.all_eq_true]
 exact ⟨⟨hp, hl⟩, h⟩
theorem valid_normal {p : Int} {l : List Stp} (hp : 1 ≤ p ∧ p ≤ 8) (h : ∀ s ∈ l, fitsA p s = true) : validA p (normalA l) = true :=
 valid_mk hp (by have := normal_len l; omega) fun s hs => h s (normal_mem h s hs)
theorem valid_compose {p : Int} {a b : List Stp} (ha : validA p a = true) (hb : validA p b = true) : composeA p a b = normalA (a ++ b) ∧ validA p (normalA (a ++ b)) = true := by
 refine ⟨by unfold composeA; rw [ha, hb]; rfl, valid_normal (valid_parts ha).1 fun s hs => ?_⟩
 rcases List.mem_append.1 hs with h | h
 ·
  exact (valid_parts ha).2.2 s h
 ·
  exact (valid_parts hb).2.2 s h
theorem mem_props {p : Int} : p ∈ props8 ↔ 1 ≤ p ∧ p ≤ 8 := by
 unfold props8
 simp only [List.mem_cons, List.not_mem_nil, or_false]
 omega
theorem fits_76 {s : Stp} (h : fitsA 7 s = true) : fitsA 6 s = true := by
 unfold fitsA at *
 by_cases h1 : s.kind = 1 ∨ s.kind = 2
 ·
  rw [if_pos h1] at h; simp at h
 rw [if_neg h1] at h ⊢
 by_cases h3 : s.kind = 3
 ·
  rw [if_pos h3] at h; simp at h
 rw [if_neg h3] at h ⊢
 by_cases h4 : s.kind = 4
 ·
  rw [if_pos h4] at h; simp at h
 rw [if_neg h4] at h ⊢
 by_cases h5 : s.kind = 5
 ·
  rw [if_pos h5] at h ⊢; simpa using h
 rw [if_neg h5] at h ⊢
 by_cases h6 : s.kind = 6
 ·
  rw [if_pos h6] at h ⊢; simpa using h
 rw [if_neg h6] at h
 cases h
theorem steps_valid {m : Mig} (h : validM m = true) {p : Int} (hp : 1 ≤ p ∧ p ≤ 8) : validA p (stepsM m p) = true := by
 unfold stepsM
 cases hf : m.keep.find? (·.prop == p) with
 | none => exact valid_mk hp (by simp) (by simp)
 | some k =>
  have hk : k.prop = p := by simpa using List.find?_some hf
  have hm := List.mem_of_find?_eq_some hf
  unfold validM at h
  simp only [Bool.and_eq_true, List.all_eq_true] at h
  have := h.2 k hm
  unfold isKeepM at this
  simp only [Bool.and_eq_true] at this
  rw [← hk]
  exact this.1.1.2
theorem claim_valid {m : Mig} (h : validM m = true) {p : Int} (hp : 1 ≤ p ∧ p ≤ 8) : validA p (claimM m p) = true := by
 unfold claimM
 split
 ·
  refine valid_mk hp (by simp) fun s hs => ?_
  rw [List.mem_singleton] at hs
  subst hs
  unfold fitsA
  simp [hp]
 ·
  split
  ·
   rename_i h6
   subst h6
   have := valid_parts (steps_valid h (p := 7) (by omega))
   exact valid_mk hp this.2.1 fun s hs => fits_76 (this.2.2 s hs)
  ·
   exact steps_valid h hp
theorem stepsC_map (f : Int → List Stp) {p : Int} (hp : p ∈ props8) : stepsC (props8.map fun p => (p, f p)) p = f p := by
 have := mem_props.1 hp
 obtain rfl | rfl | rfl | rfl | rfl | rfl | rfl | rfl : p = 1 ∨ p = 2 ∨ p = 3 ∨ p = 4 ∨ p = 5 ∨ p = 6 ∨ p = 7 ∨ p = 8 := by omega
 all_goals rfl
theorem edg_valid {l : List Edg} (h : validE l = true) {i : Nat} (hi : i < l.length) : validM l[i]!.does = true := by
 unfold validE at h
 rw [Bool.and_eq_true, List.all_eq_true] at h
 have := h.2 l[i]! (by rw [getElem!_pos l i hi]; exact List.getElem_mem hi)
 rw [Bool.and_eq_true] at this
 exact this.2
theorem on_some {l : List Edg} {day : Int} {w n : Way} {e : Int} : onP l day w e = some n ↔ (0 ≤ e ∧ e < (l.length : Int) ∧ w.rou.edges.length ≠ 6 ∧ l[e.toNat]!.does.frm = w.last ∧ day ≤ l[e.toNat]!.until_ ∧ l[e.toNat]!.does.to ∉ w.formats) ∧ n = ⟨w.formats ++ [l[e.toNat]!.does.to], ⟨w.rou.edges ++ [e], w.rou.cost + l[e.toNat]!.cost, 0, w.rou.claims.map fun c => (c.1, composeA c.1 c.2 (stepsC (claimsM l[e.toNat]!.does) c.1))⟩⟩ := by
 unfold onP
 by_cases h1 : e < 0 ∨ (l.length : Int) ≤ e ∨ w.rou.edges.length = 6
 ·
  rw [if_pos h1]
  simp only [reduceCtorEq, false_iff]
  rintro ⟨⟨a, b, c, _⟩, _⟩
  omega
 ·
  rw [if_neg h1]
  by_cases h2 : l[e.toNat]!.does.frm ≠ w.last ∨ l[e.toNat]!.until_ < day ∨ l[e.toNat]!.does.to ∈ w.formats
  ·
   rw [if_pos h2]
   simp only [reduceCtorEq, false_iff]
   rintro ⟨⟨_, _, _, a, b, c⟩, _⟩
   rcases h2 with h | h | h
   ·
    exact h a
   ·
    omega
   ·
    exact c h
  ·
   rw [if_neg h2, Option.some.injEq, eq_comm]
   refine ⟨fun h => ⟨⟨by omega, by omega, by omega, ?_, by omega, fun hh => h2 (.inr (.inr hh))⟩, h⟩, fun h => h.2⟩
   exact Classical.byContradiction fun hh => h2 (.inl hh)
theorem ons_app (l : List Edg) (day : Int) : ∀ (a b : List Int) (w : Way), onsP l day w (a ++ b) = (onsP l day w a).bind fun n => onsP l day n b
 | [], _, _ => rfl
 | e :: a, b, w => by
  show (match onP l day w e with | some n => onsP l day n (a ++ b) | none => none) = (match onP l day w e with | some n => onsP l day n a | none => none).bind fun n => onsP l day n b
  cases onP l day w e with
  | none => rfl
  | some n => exact ons_app l day a b n
def goL (l : List Edg) (es : List Int) (p : Int) : List Stp := es.flatMap fun e => claimM l[e.toNat]!.does p
theorem ons_facts {l : List Edg} {day : Int} : ∀ (es : List Int) {w n : Way}, onsP l day w es = some n → n.rou.edges = w.rou.edges ++ es ∧ n.formats = w.formats ++ (es.map fun e => l[e.toNat]!.does.to) ∧ n.rou.cost = w.rou.cost + (es.map fun e => l[e.toNat]!.cost).sum ∧ (∀ e ∈ es, 0 ≤ e ∧ e < (l.length : Int) ∧ day ≤ l[e.toNat]!.until_) ∧ (es ≠ [] → n.rou.life = 0)
 | [], w, n, h => by
  rw [onsP, Option.some.injEq] at h
  subst h
  simp
 | e :: es, w, n, h => by
  rw [onsP] at h
  cases ho : onP l day w e with
  | none => rw [ho] at h; cases h
  | some m =>
   rw [ho] at h
   obtain ⟨h1, h2, h3, h4, h5⟩ := ons_facts es h
   obtain ⟨⟨c1, c2, c3, c4, c5, c6⟩, hm⟩ := on_some.1 ho
   have e1 : m.rou.edges = w.rou.edges ++ [e] := by rw [hm]
   have e2 : m.formats = w.formats ++ [l[e.toNat]!.does.to] := by rw [hm]
   have e3 : m.rou.cost = w.rou.cost + l[e.toNat]!.cost := by rw [hm]
   have e4 : m.rou.life = 0 := by rw [hm]
   refine ⟨by rw [h1, e1]; simp, by rw [h2, e2]; simp, by rw [h3, e3]; simp; omega, fun x hx => ?_, fun _ => ?_⟩
   ·
    rcases List.mem_cons.1 hx with rfl | hx
    ·
     exact ⟨c1, c2, c5⟩
    ·
     exact h4 x hx
   ·
    cases es with
    | nil =>
     have h : some m = some n := h
     rw [Option.some.injEq] at h; rw [← h]; exact e4
    | cons y r => exact h5 (by simp)
theorem ons_claims {l : List Edg} (hl : validE l = true) {day : Int} : ∀ (es : List Int) {w n : Way} (f : Int → List Stp), w.rou.claims = (props8.map fun p => (p, f p)) → (∀ p ∈ props8, validA p (f p) = true ∧ normalA (f p) = f p) → onsP l day w es = some n →
  n.rou.claims = (props8.map fun p => (p, normalA (f p ++ goL l es p))) ∧ ∀ p ∈ props8, validA p (normalA (f p ++ goL l es p)) = true
 | [], w, n, f, hc, hf, h => by
  rw [onsP, Option.some.injEq] at h
  subst h
  refine ⟨hc.trans (List.map_congr_left fun p hp => ?_), fun p hp => ?_⟩
  ·
   rw [goL, List.flatMap_nil, List.append_nil, (hf p hp).2]
  ·
   rw [goL, List.flatMap_nil, List.append_nil, (hf p hp).2]
   exact (hf p hp).1
 | e :: es, w, n, f, hc, hf, h => by
  rw [onsP] at h
  cases ho : onP l day w e with
  | none => rw [ho] at h; cases h
  | some m =>
   rw [ho] at h
   obtain ⟨⟨c1, c2, c3, c4, c5, c6⟩, hm⟩ := on_some.1 ho
   have hv := edg_valid hl (i := e.toNat) (by omega)
   have e1 : m.rou.claims = props8.map fun p => (p, normalA (f p ++ claimM l[e.toNat]!.does p)) := by
    rw [hm]
    show (w.rou.claims.map _) = _
    rw [hc, List.map_map]
    refine List.map_congr_left fun p hp => ?_
    show (p, composeA p (f p) (stepsC (claimsM l[e.toNat]!.does) p)) = _
    rw [claimsM, stepsC_map _ hp, (valid_compose (hf p hp).1 (claim_valid hv (mem_props.1 hp))).1]
   have hg : ∀ p ∈ props8, validA p (normalA (f p ++ claimM l[e.toNat]!.does p)) = true ∧ normalA (normalA (f p ++ claimM l[e.toNat]!.does p)) = normalA (f p ++ claimM l[e.toNat]!.does p) := fun p hp => ⟨(valid_compose (hf p hp).1 (claim_valid hv (mem_props.1 hp))).2, normal_idem _⟩
   obtain ⟨h1, h2⟩ := ons_claims hl es (fun p => normalA (f p ++ claimM l[e.toNat]!.does p)) e1 hg h
   have hgo : ∀ p, normalA (normalA (f p ++ claimM l[e.toNat]!.does p) ++ goL l es p) = normalA (f p ++ goL l (e :: es) p) := fun p => by
    rw [normal_left, goL, goL, List.flatMap_cons, List.append_assoc]
   refine ⟨h1.trans (List.map_congr_left fun p _ => by rw [hgo]), fun p hp => ?_⟩
   rw [← hgo]
   exact h2 p hp
theorem arrived_some {life : List Int} {day : Int} {w : Way} {r : Rou} : arrivedP life day w = some r ↔ (0 ≤ w.last ∧ w.last < (life.length : Int) ∧ day ≤ life[w.last.toNat]!) ∧ r = { w.rou with life := life[w.last.toNat]! } := by
 unfold arrivedP
 by_cases hc : w.last < 0 ∨ (life.length : Int) ≤ w.last ∨ life[w.last.toNat]! < day
 ·
  rw [if_pos hc]
  simp only [reduceCtorEq, false_iff]
  rintro ⟨⟨a, b, c⟩, _⟩
  omega
 ·
  rw [if_neg hc, Option.some.injEq, eq_comm]
  exact ⟨fun h => ⟨by omega, h⟩, fun h => h.2⟩
theorem begin_ok : ∀ p ∈ props8, validA p [] = true ∧ normalA [] = [] := fun p hp => ⟨valid_mk (mem_props.1 hp) (by simp) (by simp), rfl⟩
/-- What a route is. -/
theorem of_facts {l : List Edg} {life : List Int} {frm day : Int} {es : List Int} {r : Rou} (h : ofP l life frm day es = some r) :
  validE l = true ∧ r.edges = es ∧ r.claims = (props8.map fun p => (p, normalA (goL l es p))) ∧ (∀ p ∈ props8, validA p (normalA (goL l es p)) = true) ∧ r.cost = (es.map fun e => l[e.toNat]!.cost).sum ∧ (∀ e ∈ es, 0 ≤ e ∧ e < (l.length : Int) ∧ day ≤ l[e.toNat]!.until_) ∧ es.length ≤ 6 ∧
  0 ≤ ([frm] ++ es.map fun e => l[e.toNat]!.does.to).getLastD 0 ∧ ([frm] ++ es.map fun e => l[e.toNat]!.does.to).getLastD 0 < life.length ∧ r.life = life[(([frm] ++ es.map fun e => l[e.toNat]!.does.to).getLastD 0).toNat]! ∧ day ≤ r.life := by
 unfold ofP at h
 split at h
 ·
  rename_i hl
  cases ho : onsP l day (beginP frm) es with
  | none => rw [ho] at h; cases h
  | some n =>
   rw [ho] at h
   have h : arrivedP life day n = some r := h
   obtain ⟨h1, h2, h3, h4, h5⟩ := ons_facts es ho
   obtain ⟨h6, h7⟩ := ons_claims hl es (fun _ => []) rfl begin_ok ho
   have hlen : es.length ≤ 6 := by
    rcases List.eq_nil_or_concat es with rfl | ⟨es', e, rfl⟩
    ·
     simp
    ·
     rw [List.concat_eq_append, ons_app] at ho
     cases hm : onsP l day (beginP frm) es' with
     | none => rw [hm] at ho; cases ho
     | some m =>
      rw [hm] at ho
      have ho : (match onP l day m e with | some n => onsP l day n [] | none => none) = some n := ho
      cases hq : onP l day m e with
      | none => rw [hq] at ho; cases ho
      | some q =>
       have hb := (on_some.1 hq).1.2.2.1
       have hh := fun (es' : List Int) (m : Way) (hm : onsP l day (beginP frm) es' = some m) => (ons_facts es' hm).1
       have hle : ∀ (k : Nat) (es' : List Int) (m : Way), es'.length = k → onsP l day (beginP frm) es' = some m → m.rou.edges.length ≤ 6 := by
        intro k
        induction k with
        | zero =>
         intro es' m hk hm
         rw [hh es' m hm, List.eq_nil_of_length_eq_zero hk]
         simp [beginP]
        | succ k ih =>
         intro es' m hk hm
         rcases List.eq_nil_or_concat es' with rfl | ⟨t, e, rfl⟩
         ·
          simp at hk
         ·
          rw [List.concat_eq_append, ons_app] at hm
          cases hm2 : onsP l day (beginP frm) t with
          | none => rw [hm2] at hm; cases hm
          | some m2 =>
           rw [hm2] at hm
           have hm : (match onP l day m2 e with | some n => onsP l day n [] | none => none) = some m := hm
           cases hq2 : onP l day m2 e with
           | none => rw [hq2] at hm; cases hm
           | some q2 =>
            rw [hq2] at hm
            have hm : some q2 = some m := hm
            injection hm with hm
            subst hm
            obtain ⟨⟨_, _, hb2, _⟩, hq2⟩ := on_some.1 hq2
            have := ih t m2 (by simpa using hk) hm2
            rw [hq2]
            show (m2.rou.edges ++ [e]).length ≤ 6
            simp
            omega
       have := hle es'.length es' m rfl hm
       rw [hh es' m hm] at this hb
       simp only [beginP, List.nil_append] at this hb
       simp
       omega
   obtain ⟨⟨q1, q2, q3⟩, hr⟩ := arrived_some.1 h
   have hlast : n.last = ([frm] ++ es.map fun e => l[e.toNat]!.does.to).getLastD 0 := by rw [Way.last, h2]; rfl
   rw [hlast] at q1 q2 q3 hr
   refine ⟨hl, by rw [hr]; exact h1, by rw [hr]; exact h6, h7, by rw [hr]; show n.rou.cost = _; rw [h3]; simp [beginP], h4, hlen, q1, q2, by rw [hr], by rw [hr]; exact q3⟩
 ·
  cases h
end Go.Proofs.YtpeandbcdaikbaaGreatDoor
namespace Go.Proofs.YtpeandbcdaikbaaGreatDoor

theorem from_mem {l : List Edg} {life : List Int} {day : Int} {r : Rou} : ∀ (h : Nat) (w : Way), r ∈ fromP l life day h w ↔ ∃ es : List Int, es.length ≤ h ∧ (onsP l day w es).bind (arrivedP life day) = some r
 | 0, w => by
  rw [fromP, Option.mem_toList]
  constructor
  ·
   intro h
   exact ⟨[], Nat.le_refl _, h⟩
  ·
   rintro ⟨es, h0, h⟩
   obtain rfl : es = [] := List.eq_nil_of_length_eq_zero (by omega)
   exact h
 | k + 1, w => by
  rw [fromP, List.mem_append, Option.mem_toList, List.mem_flatMap]
  constructor
  ·
   rintro (h | ⟨i, hi, h⟩)
   ·
    exact ⟨[], Nat.zero_le _, h⟩
   ·
    cases ho : onP l day w (i : Int) with
    | none => rw [ho] at h; cases h
    | some n =>
     rw [ho] at h
     obtain ⟨es, h1, h2⟩ := (from_mem k n).1 h
     exact ⟨(i : Int) :: es, by simpa using h1, by rw [onsP, ho]; exact h2⟩
  ·
   rintro ⟨es, h1, h⟩
   cases es with
   | nil => exact .inl h
   | cons e es =>
    rw [onsP] at h
    cases ho : onP l day w e with
    | none => rw [ho] at h; cases h
    | some n =>
     rw [ho] at h
     obtain ⟨⟨c1, c2, _⟩, _⟩ := on_some.1 ho
     refine .inr ⟨e.toNat, List.mem_range.2 (by omega), ?_⟩
     rw [Int.toNat_of_nonneg c1, ho]
     exact (from_mem k n).2 ⟨es, by simpa using h1, h⟩
theorem arrived_edges {life : List Int} {day : Int} {w : Way} {r : Rou} (h : arrivedP life day w = some r) : r.edges = w.rou.edges := by
 unfold arrivedP at h
 split at h
 ·
  cases h
 ·
  rw [Option.some.injEq] at h
  rw [← h]
theorem from_edges {l : List Edg} {life : List Int} {day : Int} {r : Rou} {h : Nat} {w : Way} (hr : r ∈ fromP l life day h w) : ∃ es, r.edges = w.rou.edges ++ es := by
 obtain ⟨es, _, h⟩ := (from_mem h w).1 hr
 cases ho : onsP l day w es with
 | none => rw [ho] at h; cases h
 | some n =>
  rw [ho] at h
  exact ⟨es, (arrived_edges h).trans (ons_facts es ho).1⟩
theorem from_nodup {l : List Edg} {life : List Int} {day : Int} : ∀ (h : Nat) (w : Way), (fromP l life day h w).Nodup
 | 0, w => by
  rw [fromP]
  cases arrivedP life day w <;> simp
 | k + 1, w => by
  have key : ∀ (i : Nat) (x : Rou), x ∈ (match onP l day w (i : Int) with | some n => fromP l life day k n | none => []) → ∃ es, x.edges = w.rou.edges ++ (i : Int) :: es := by
   intro i x hx
   cases ho : onP l day w (i : Int) with
   | none => rw [ho] at hx; cases hx
   | some n =>
    rw [ho] at hx
    obtain ⟨es, he⟩ := from_edges hx
    have hn : n.rou.edges = w.rou.edges ++ [(i : Int)] := by rw [(on_some.1 ho).2]
    exact ⟨es, by rw [he, hn]; simp⟩
  rw [fromP]
  unfold List.Nodup
  rw [List.pairwise_append]
  refine ⟨?_, ?_, ?_⟩
  ·
   cases arrivedP life day w <;> simp
  ·
   rw [List.pairwise_flatMap]
   refine ⟨fun i _ => ?_, ?_⟩
   ·
    cases ho : onP l day w (i : Int) with
    | none => exact List.Pairwise.nil
    | some n => exact from_nodup k n
   ·
    refine List.pairwise_lt_range.imp fun {i j} hij x hx y hy e => ?_
    obtain ⟨es, h1⟩ := key i x hx
    obtain ⟨fs, h2⟩ := key j y hy
    rw [e, h2] at h1
    have := List.append_cancel_left h1
    injection this with h3 _
    omega
  ·
   intro a ha b hb e
   obtain ⟨i, _, hb⟩ := List.mem_flatMap.1 hb
   obtain ⟨es, h1⟩ := key i b hb
   rw [Option.mem_toList] at ha
   have h2 := arrived_edges (r := a) (by simpa using ha)
   rw [← e, h2] at h1
   have := congrArg List.length h1
   simp at this
theorem all_mem {l : List Edg} {life : List Int} {frm day hops : Int} (hl : validE l = true) {r : Rou} : r ∈ allP l life frm day hops ↔ ∃ es : List Int, es.length ≤ (min hops 6).toNat ∧ ofP l life frm day es = some r := by
 unfold allP
 rw [from_mem]
 simp only [ofP, if_pos hl]
theorem all_of {l : List Edg} {life : List Int} {frm day hops : Int} (hl : validE l = true) {r : Rou} (h : r ∈ allP l life frm day hops) : ofP l life frm day r.edges = some r ∧ r.edges.length ≤ (min hops 6).toNat := by
 obtain ⟨es, h1, h2⟩ := (all_mem hl).1 h
 have := (of_facts h2).2.1
 rw [this]
 exact ⟨h2, h1⟩
theorem ahead_eq {l : List Edg} {life : List Int} {frm day hops : Int} (hl : validE l = true) {a b : Rou} (ha : a ∈ allP l life frm day hops) (hb : b ∈ allP l life frm day hops) (h1 : aheadP a b = false) (h2 : aheadP b a = false) : a = b := by
 have e := ahead_total h1 h2
 have h3 := (all_of hl ha).1
 have h4 := (all_of hl hb).1
 rw [e, h4, Option.some.injEq] at h3
 exact h3.symm
theorem notAhead_trans {a b c : Rou} (h1 : aheadP b a = false) (h2 : aheadP c b = false) : aheadP c a = false := by
 rw [Bool.eq_false_iff] at *
 intro h3
 have e1 := mt (ahead_iff b a).2 h1
 have e2 := mt (ahead_iff c b).2 h2
 have e3 := (ahead_iff c a).1 h3
 have z1 := cmpL_anti a.edges b.edges
 have z2 := cmpL_anti b.edges c.edges
 have z3 := cmpL_anti a.edges c.edges
 have y1 := cmpL_zero a.edges b.edges
 have y2 := cmpL_zero b.edges c.edges
 have t1 := cmpL_trans a.edges b.edges c.edges
 by_cases x1 : a.edges = b.edges
 ·
  rw [x1] at e3 z3 t1
  omega
 ·
  by_cases x2 : b.edges = c.edges
  ·
   rw [← x2] at e3 z3 t1
   omega
  ·
   have u1 : cmpL a.edges b.edges ≠ 0 := fun h => x1 (y1.1 h)
   have u2 : cmpL b.edges c.edges ≠ 0 := fun h => x2 (y2.1 h)
   omega
theorem sort_perm (l : List Rou) : (sortR l).Perm l := List.mergeSort_perm l _
theorem sort_sorted (l : List Rou) : (sortR l).Pairwise fun a b => aheadP b a = false := by
 have h := List.pairwise_mergeSort (le := fun a b => !aheadP b a) (fun a b c h1 h2 => by simp only [Bool.not_eq_true'] at *; exact notAhead_trans h1 h2) (fun a b => by
  cases h : aheadP b a with
  | false => rfl
  | true => simp [ahead_asymm h]) l
 exact h.imp fun h => by simpa using h
/-- One list alone is sorted. -/
theorem sort_unique {l : List Edg} {life : List Int} {frm day hops : Int} (hl : validE l = true) {x y : List Rou} (hx : x.Perm y) (hm : ∀ r ∈ y, r ∈ allP l life frm day hops) (sx : x.Pairwise fun a b => aheadP b a = false) (sy : y.Pairwise fun a b => aheadP b a = false) : x = y :=
 List.Perm.eq_of_pairwise (fun a b ha hb h1 h2 => ahead_eq hl (hm a (hx.mem_iff.1 ha)) (hm b hb) h2 h1) sx sy hx
theorem best_eq {l : List Edg} {life : List Int} {frm day hops : Int} (hl : validE l = true) (hh : 0 ≤ hops) : bestP l life frm day hops = (sortR (allP l life frm day hops)).filter (isBest (allP l life frm day hops)) := by
 unfold bestP
 rw [if_pos ⟨hl, hh⟩]
theorem best_mem {l : List Edg} {life : List Int} {frm day hops : Int} (hl : validE l = true) (hh : 0 ≤ hops) {r : Rou} : r ∈ bestP l life frm day hops ↔ r ∈ allP l life frm day hops ∧ isBest (allP l life frm day hops) r = true := by
 rw [best_eq hl hh, List.mem_filter, (sort_perm _).mem_iff]
theorem better_parts {a b : Rou} : betterP a b = true ↔ (∀ p, 1 ≤ p → p ≤ 8 → coarserA p (stepsC b.claims p) (stepsC a.claims p) = true) ∧ a.cost ≤ b.cost ∧ b.life ≤ a.life := by
 unfold betterP
 rw [Bool.and_eq_true, Bool.and_eq_true, decide_eq_true_eq, decide_eq_true_eq, List.all_eq_true]
 exact ⟨fun h => ⟨fun p h1 h2 => h.1 p (mem_props.2 ⟨h1, h2⟩), h.2⟩, fun h => ⟨fun p hp => h.1 p (mem_props.1 hp).1 (mem_props.1 hp).2, h.2⟩⟩
theorem better_trans {a b c : Rou} (h1 : betterP a b = true) (h2 : betterP b c = true) : betterP a c = true := by
 rw [better_parts] at *
 exact ⟨fun p p1 p8 => coarser_trans (h2.1 p p1 p8) (h1.1 p p1 p8), by omega, by omega⟩
def GoodC (r : Rou) : Prop := ∀ p, 1 ≤ p → p ≤ 8 → validA p (stepsC r.claims p) = true
theorem better_refl {r : Rou} (h : GoodC r) : betterP r r = true :=
 better_parts.2 ⟨fun p p1 p8 => coarser_refl (h p p1 p8), Int.le_refl _, Int.le_refl _⟩
theorem of_good {l : List Edg} {life : List Int} {frm day : Int} {es : List Int} {r : Rou} (h : ofP l life frm day es = some r) : GoodC r := by
 obtain ⟨_, _, h1, h2, _⟩ := of_facts h
 intro p p1 p8
 rw [h1, stepsC_map _ (mem_props.2 ⟨p1, p8⟩)]
 exact h2 p (mem_props.2 ⟨p1, p8⟩)
theorem beats_trans {a b c : Rou} (h1 : beatsP a b = true) (h2 : beatsP b c = true) : beatsP a c = true := by
 unfold beatsP at *
 rw [Bool.and_eq_true, Bool.or_eq_true, Bool.not_eq_true'] at *
 refine ⟨better_trans h1.1 h2.1, ?_⟩
 cases hc : betterP c a with
 | false => exact .inr rfl
 | true =>
  have x1 := better_trans hc h1.1
  have x2 := better_trans h2.1 hc
  rw [x1] at h2
  rw [x2] at h1
  exact .inl (ahead_trans (h1.2.resolve_right (by simp)) (h2.2.resolve_right (by simp)))
theorem beats_irr (a : Rou) : beatsP a a = false := by
 unfold beatsP
 rw [ahead_irr]
 cases betterP a a <;> rfl
theorem filter_lt {α : Type} (p q : α → Bool) (l : List α) (h : ∀ x ∈ l, p x = true → q x = true) (y : α) (hy : y ∈ l) (hq : q y = true) (hp : p y = false) : (l.filter p).length < (l.filter q).length := by
 induction l with
 | nil => cases hy
 | cons x l ih =>
  have hle : ∀ l : List α, (∀ x ∈ l, p x = true → q x = true) → (l.filter p).length ≤ (l.filter q).length := fun l => by
   induction l with
   | nil => intro _; exact Nat.le_refl _
   | cons z l ih =>
    intro h
    have := ih fun x hx => h x (List.mem_cons_of_mem _ hx)
    rw [List.filter_cons, List.filter_cons]
    have hz := h z List.mem_cons_self
    cases hpz : p z with
    | true => rw [if_pos rfl, hz hpz, if_pos rfl]; simp; omega
    | false =>
     rw [if_neg (by simp)]
     split <;> simp <;> omega
  rw [List.filter_cons, List.filter_cons]
  rcases List.mem_cons.1 hy with rfl | hy
  ·
   rw [hp, hq, if_neg (by simp), if_pos rfl]
   have := hle l fun x hx => h x (List.mem_cons_of_mem _ hx)
   simp; omega
  ·
   have := ih (fun x hx => h x (List.mem_cons_of_mem _ hx)) hy
   have hx := h x List.mem_cons_self
   cases hpx : p x with
   | true => rw [if_pos rfl, hx hpx, if_pos rfl]; simp; omega
   | false =>
    rw [if_neg (by simp)]
    split <;> simp <;> omega
/-- Of a finite list each has a best one that is at least as good. -/
theorem best_exists (all : List Rou) (hg : ∀ r ∈ all, GoodC r) : ∀ (k : Nat) (r : Rou), r ∈ all → (all.filter fun o => beatsP o r).length ≤ k → ∃ b ∈ all, isBest all b = true ∧ betterP b r = true := by
 intro k
 induction k with
 | zero =>
  intro r hr hk
  refine ⟨r, hr, ?_, better_refl (hg r hr)⟩
  unfold isBest
  rw [List.all_eq_true]
  intro o ho
  rw [Bool.or_eq_true, Bool.not_eq_true']
  refine .inr (Bool.eq_false_iff.2 fun hb => ?_)
  have : o ∈ all.filter fun o => beatsP o r := List.mem_filter.2 ⟨ho, hb⟩
  rw [List.eq_nil_of_length_eq_zero (Nat.le_zero.1 hk)] at this
  cases this
 | succ k ih =>
  intro r hr hk
  by_cases hb : isBest all r = true
  ·
   exact ⟨r, hr, hb, better_refl (hg r hr)⟩
  ·
   unfold isBest at hb
   rw [List.all_eq_true] at hb
   obtain ⟨o, ho⟩ := Classical.not_forall.1 hb
   obtain ⟨hm, ho⟩ := Classical.not_imp.1 ho
   rw [Bool.or_eq_true, Bool.not_eq_true', not_or] at ho
   have hbt : beatsP o r = true := by simpa using ho.2
   have hlt := filter_lt (fun x => beatsP x o) (fun x => beatsP x r) all (fun x _ hx => beats_trans hx hbt) o hm hbt (beats_irr o)
   obtain ⟨b, h1, h2, h3⟩ := ih o hm (by omega)
   unfold beatsP at hbt
   rw [Bool.and_eq_true] at hbt
   exact ⟨b, h1, h2, better_trans h3 hbt.1⟩
theorem best_over {l : List Edg} {life : List Int} {frm day hops : Int} (hl : validE l = true) (hh : 0 ≤ hops) {r : Rou} (hr : r ∈ allP l life frm day hops) : ∃ b ∈ bestP l life frm day hops, betterP b r = true := by
 obtain ⟨b, h1, h2, h3⟩ := best_exists _ (fun r hr => of_good (all_of hl hr).1) _ r hr (Nat.le_refl _)
 exact ⟨b, (best_mem hl hh).2 ⟨h1, h2⟩, h3⟩
/-- No best route is at least as good as another one. -/
theorem best_apart {l : List Edg} {life : List Int} {frm day hops : Int} (hl : validE l = true) (hh : 0 ≤ hops) {a b : Rou} (ha : a ∈ bestP l life frm day hops) (hb : b ∈ bestP l life frm day hops) (h : betterP a b = true) : a = b := by
 obtain ⟨a1, a2⟩ := (best_mem hl hh).1 ha
 obtain ⟨b1, b2⟩ := (best_mem hl hh).1 hb
 unfold isBest at a2 b2
 rw [List.all_eq_true] at a2 b2
 have x := b2 a a1
 have y := a2 b b1
 rw [Bool.or_eq_true, decide_eq_true_eq, Bool.not_eq_true'] at x y
 rcases x with x | x
 ·
  exact x
 rcases y with y | y
 ·
  exact y.symm
 unfold beatsP at x y
 rw [h, Bool.true_and, Bool.or_eq_false_iff, Bool.not_eq_false'] at x
 rw [x.2, Bool.true_and, Bool.or_eq_false_iff] at y
 exact ahead_eq hl a1 b1 x.1 y.1
theorem best_sorted (l : List Edg) (life : List Int) (frm day hops : Int) : (bestP l life frm day hops).Pairwise fun a b => aheadP b a = false := by
 unfold bestP
 split
 ·
  exact (sort_sorted _).sublist (List.filter_sublist)
 ·
  exact List.Pairwise.nil
theorem best_nodup (l : List Edg) (life : List Int) (frm day hops : Int) : (bestP l life frm day hops).Nodup := by
 unfold bestP
 split
 ·
  exact ((sort_perm _).nodup_iff.2 (from_nodup _ _)).sublist (List.filter_sublist)
 ·
  exact List.Pairwise.nil
theorem keeps_better {a r : Rou} {policy : Clms} (hp : ∀ c ∈ policy, 1 ≤ c.1 ∧ c.1 ≤ 8) (h : betterP a r = true) (hk : keepsP r policy = true) : keepsP a policy = true := by
 unfold keepsP at *
 rw [List.all_eq_true] at *
 intro c hc
 exact coarser_trans (hk c hc) ((better_parts.1 h).1 c.1 (hp c hc).1 (hp c hc).2)
end Go.Proofs.YtpeandbcdaikbaaGreatDoor
