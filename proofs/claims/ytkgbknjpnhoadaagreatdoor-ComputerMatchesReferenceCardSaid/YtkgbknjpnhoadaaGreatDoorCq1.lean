/-
  The computer of chapter 12, plain: what an operation does, and what a performance is.
-/
import Derived.Test.YtkgbknjpnhoadaaGreatDoorBas0
namespace Go.Proofs.YtkgbknjpnhoadaaGreatDoor

/-- An event. -/
structure Ev where
  t : Int
  k : Int
  a : Int
  b : Int
def keyOk (e : Ev) : Bool := e.k == 5 && decide (0 ≤ e.t) && decide (e.t ≤ 20000) && decide (1 ≤ e.a) && decide (e.a ≤ 255) && e.b == 0
def inOrder : List Ev → Bool
  | x :: y :: r => decide (x.t ≤ y.t) && inOrder (y :: r)
  | _ => true
def keysOk (l : List Ev) : Bool := decide (l.length ≤ 100) && l.all keyOk && inOrder l

/-- A computer while it works: the keys are those that were not taken. -/
structure Cpu where
  mem : List Nat
  disk : List Nat
  a : Nat
  c : Nat
  time : Nat
  keys : List Ev
/-- A key is taken. -/
def Cpu.take (x : Cpu) : Cpu := match x.keys with
  | [] => { x with a := 0 }
  | k :: r => if (x.time : Int) < k.t then { x with a := 0 } else { x with a := k.a.toNat, keys := r }
/-- What an operation does, its number n, and the byte of the memory there m: the computer behind it, and the event. -/
def Cpu.op (x : Cpu) (o n m : Nat) : Cpu × Option Ev :=
  match o with
  | 1 => ({ x with a := n }, none)
  | 2 => ({ x with a := m }, none)
  | 3 => ({ x with mem := x.mem.set n x.a }, none)
  | 4 => ({ x with a := x.mem.getD m 0 }, none)
  | 5 => ({ x with mem := x.mem.set m x.a }, none)
  | 6 => ({ x with a := (x.a + m) % 256 }, none)
  | 7 => ({ x with a := (x.a + 256 - m) % 256 }, none)
  | 8 => ({ x with c := n }, none)
  | 9 => ((if x.a = 0 then { x with c := n } else x), none)
  | 10 => ((if 128 ≤ x.a then { x with c := n } else x), none)
  | 11 => (x.take, none)
  | 12 => (x, some ⟨x.time, 1, (m % 80 : Nat), x.a⟩)
  | 13 => (x, some ⟨x.time, 2, m, (x.a % 2 : Nat)⟩)
  | 14 => ({ x with a := x.disk.getD m 0 }, none)
  | 15 => ({ x with disk := x.disk.set m x.a }, some ⟨x.time, 3, m, x.a⟩)
  | _ => ({ x with a := x.time % 256 }, none)
/-- The events of so many steps. -/
def runs : Nat → Cpu → List Ev
  | 0, _ => []
  | f + 1, x =>
    if x.mem.getD x.c 0 = 0 ∨ 17 ≤ x.mem.getD x.c 0 then [⟨x.time, 4, x.mem.getD x.c 0, x.mem.getD ((x.c + 1) % 256) 0⟩]
    else
      (({ x with c := (x.c + 2) % 256 } : Cpu).op (x.mem.getD x.c 0) (x.mem.getD ((x.c + 1) % 256) 0) (x.mem.getD (x.mem.getD ((x.c + 1) % 256) 0) 0)).2.toList ++
      runs f { (({ x with c := (x.c + 2) % 256 } : Cpu).op (x.mem.getD x.c 0) (x.mem.getD ((x.c + 1) % 256) 0) (x.mem.getD (x.mem.getD ((x.c + 1) % 256) 0) 0)).1 with time := x.time + 1 }
/-- What lies in a memory of 256 bytes. -/
def loaded (s : List UInt8) : List Nat := s.map (·.toNat) ++ List.replicate (256 - s.length) 0
/-- P12.1: whether a memory image and a disk are valid. -/
def progOk (p d : List UInt8) : Bool := decide (p.length ≤ 256) && decide (p.length % 2 = 0) && decide (d.length ≤ 256)
/-- P12.1: a performance. -/
def perf (p d : List UInt8) (keys : List Ev) (most : Nat) : List Ev := runs most ⟨loaded p, loaded d, 0, 0, 0, keys⟩
def perfOk (p d : List UInt8) (keys : List Ev) (most : Int) : Bool := progOk p d && keysOk keys && decide (0 ≤ most) && decide (most ≤ 20000)

/-- The computer's parts are of the right sizes. -/
structure Cpu.WF (x : Cpu) : Prop where
  mem : x.mem.length = 256
  disk : x.disk.length = 256
  memB : ∀ v, v ∈ x.mem → v < 256
  diskB : ∀ v, v ∈ x.disk → v < 256
  a : x.a < 256
  c : x.c < 256
  keys : ∀ k, k ∈ x.keys → keyOk k = true
theorem getD_lt {l : List Nat} (h : ∀ v, v ∈ l → v < 256) (i : Nat) : l.getD i 0 < 256 := by
  rw [List.getD_eq_getElem?_getD]
  cases hi : l[i]? with
  | none => simp
  | some v => simpa using h v (List.mem_of_getElem? hi)
theorem set_lt {l : List Nat} (h : ∀ v, v ∈ l → v < 256) (i : Nat) {u : Nat} (hu : u < 256) : ∀ v, v ∈ l.set i u → v < 256 := by
  intro v hv
  rcases List.mem_or_eq_of_mem_set hv with h1 | rfl
  · exact h v h1
  · exact hu
theorem keyOk_parts {k : Ev} (h : keyOk k = true) : k.k = 5 ∧ 0 ≤ k.t ∧ k.t ≤ 20000 ∧ 1 ≤ k.a ∧ k.a ≤ 255 ∧ k.b = 0 := by
  simp [keyOk] at h; omega
theorem Cpu.WF.take {x : Cpu} (h : x.WF) : x.take.WF := by
  unfold Cpu.take
  cases hk : x.keys with
  | nil => exact ⟨h.mem, h.disk, h.memB, h.diskB, by simp, h.c, by simp⟩
  | cons k r =>
    dsimp only
    split
    · exact ⟨h.mem, h.disk, h.memB, h.diskB, by simp, h.c, by simpa [hk] using h.keys⟩
    · have h1 := keyOk_parts (h.keys k (by simp [hk]))
      exact ⟨h.mem, h.disk, h.memB, h.diskB, by simp; omega, h.c, fun k' hk' => h.keys k' (by simp [hk]; exact .inr hk')⟩
theorem Cpu.WF.op {x : Cpu} (h : x.WF) (o : Nat) {n m : Nat} (hn : n < 256) (hm : m < 256) : (x.op o n m).1.WF := by
  unfold Cpu.op
  split
  case h_3 => exact ⟨by simp [h.mem], h.disk, set_lt h.memB _ h.a, h.diskB, h.a, h.c, h.keys⟩
  case h_5 => exact ⟨by simp [h.mem], h.disk, set_lt h.memB _ h.a, h.diskB, h.a, h.c, h.keys⟩
  case h_4 => exact ⟨h.mem, h.disk, h.memB, h.diskB, getD_lt h.memB _, h.c, h.keys⟩
  case h_14 => exact ⟨h.mem, h.disk, h.memB, h.diskB, getD_lt h.diskB _, h.c, h.keys⟩
  case h_15 => exact ⟨h.mem, by simp [h.disk], h.memB, set_lt h.diskB _ h.a, h.a, h.c, h.keys⟩
  case h_9 => dsimp only; split <;> exact ⟨h.mem, h.disk, h.memB, h.diskB, h.a, by first | exact hn | exact h.c, h.keys⟩
  case h_10 => dsimp only; split <;> exact ⟨h.mem, h.disk, h.memB, h.diskB, h.a, by first | exact hn | exact h.c, h.keys⟩
  case h_11 => exact h.take
  all_goals exact ⟨h.mem, h.disk, h.memB, h.diskB, by first | exact hn | exact hm | exact h.a | (dsimp only; omega), by first | exact h.c | exact hn, h.keys⟩
theorem Cpu.WF.at {x : Cpu} (h : x.WF) (t c : Nat) (hc : c < 256) : ({ x with c := c, time := t } : Cpu).WF := ⟨h.mem, h.disk, h.memB, h.diskB, h.a, hc, h.keys⟩
theorem loaded_len {s : List UInt8} (h : s.length ≤ 256) : (loaded s).length = 256 := by simp [loaded]; omega
theorem loaded_lt (s : List UInt8) : ∀ v, v ∈ loaded s → v < 256 := by
  intro v hv
  rcases List.mem_append.1 hv with h | h
  · obtain ⟨b, _, rfl⟩ := List.mem_map.1 h
    exact b.toNat_lt
  · have := (List.mem_replicate.1 h).2; omega
end Go.Proofs.YtkgbknjpnhoadaaGreatDoor
