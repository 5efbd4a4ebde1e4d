/-
  The contract of computer.operations: what the known functions do.
-/
import Derived.Test.YtkgbknjpnhoadaaGreatDoorCq5
import Derived.Shelf.Abstract
namespace Go.Proofs.YtkgbknjpnhoadaaGreatDoor
open Go.RowKit Go.Shelf

set_option maxHeartbeats 400000 in
theorem quiet_any (g : FuncId) (lb : Array Value) (w : World) :
    Calls Tryz.prog 79 #[.func (.func g) #[] lb] w fun e w' => e = .returned (.func (.func 111) #[] #[.pointer (some ⟨w.heap.size, 0, none⟩)]) ∧ Arr w' w.heap.size 122 [.func (.func g) #[] lb] ∧ Below w.heap.size w w' := by
  have hmf : ∀ (fn : Fn) (first cap : Array Value) (w : World), (Instr.makeFunc fn first cap).run Tryz.prog w = .ok (.func fn first cap) w := fun _ _ _ _ => rfl
  go_enter Tryz.func79, Tryz.ntmps79
  go_wp2
  go_ret
  exact ⟨rfl, Arr.new rfl rfl, (Below.refl _ _).alloc (Nat.le_refl _) _⟩

set_option maxHeartbeats 400000 in
theorem jump_any (g : FuncId) (w : World) :
    Calls Tryz.prog 87 #[.func (.func g) #[] #[]] w fun e w' => e = .returned (.func (.func 111) #[] #[.pointer (some ⟨w.heap.size + 1, 0, none⟩)]) ∧ Arr w' (w.heap.size + 1) 122 [.func (.func 112) #[] #[.pointer (some ⟨w.heap.size, 0, none⟩)]] ∧ Arr w' w.heap.size 124 [.func (.func g) #[] #[]] ∧ Below w.heap.size w w' := by
  have hmf : ∀ (fn : Fn) (first cap : Array Value) (w : World), (Instr.makeFunc fn first cap).run Tryz.prog w = .ok (.func fn first cap) w := fun _ _ _ _ => rfl
  go_enter Tryz.func87, Tryz.ntmps87
  go_wp2_with fail
  have hM : Arr (w.alloc (.cells #[.func (.func g) #[] #[]] 124)) w.heap.size 124 [.func (.func g) #[] #[]] := Arr.new rfl rfl
  have hB : Below w.heap.size w (w.alloc (.cells #[.func (.func g) #[] #[]] 124)) := (Below.refl _ _).alloc (Nat.le_refl _) _
  refine (quiet_any _ _ _).mono ?_
  rintro e w1 ⟨rfl, hm, hb⟩
  rw [World.size_alloc] at hm
  go_wp2
  go_ret
  exact ⟨by rfl, hm, hM.below hb, hB.trans (hb.mono (by simp))⟩

/-- The cells of whatever type lie as they lay, but events, lists of events, computers. -/
def KeepsT (W W' : World) : Prop := ∀ (k : Nat) (cs : Array Value) (T : TypeId) (fr : Nat × Nat), W.heap[k]? = some (Obj.cells cs T fr) → T ≠ 39 → T ≠ 33 → T ≠ 77 → W'.heap[k]? = W.heap[k]?
theorem KeepsT.refl (W : World) : KeepsT W W := fun _ _ _ _ _ _ _ _ => rfl
theorem KeepsT.trans {A B C : World} (h : KeepsT A B) (k : KeepsT B C) : KeepsT A C := fun j cs T fr hj h1 h2 h3 => by
  have := h j cs T fr hj h1 h2 h3
  exact (k j cs T fr (this.trans hj) h1 h2 h3).trans this
theorem KeepsT.of_but {W W' : World} {B : Nat} {x : Cpu} (hC : CpuAt W B x) (h : BelowBut W.heap.size B W W') : KeepsT W W' := fun k cs T fr hk _ _ h3 => by
  obtain ⟨_, kv, hA, _⟩ := hC
  refine h.block k (Array.getElem?_eq_some_iff.1 hk).1 (fun e => ?_)
  subst e
  rw [hA] at hk
  injection hk with hk
  injection hk with _ hT
  exact h3 hT.symm
theorem KeepsT.of_below {W W' : World} (h : Below W.heap.size W W') : KeepsT W W' := fun k _ _ _ hk _ _ _ => h.block k (Array.getElem?_eq_some_iff.1 hk).1
theorem KeepsT.cell {W W' : World} (h : KeepsT W W') {b o : Nat} {T : TypeId} {L : List Value} {v : Value} (hA : Arr W b T L) (hv : L[o]? = some v) (h1 : T ≠ 39) (h2 : T ≠ 33) (h3 : T ≠ 77) : W'.cell? ⟨b, o, none⟩ = some v :=
  (World.cell?_of_block (a := ⟨b, o, none⟩) (h b _ T _ hA h1 h2 h3)).trans (hA.cell hv)
/-- What comes of a step's function: the event, or nil. -/
def StepPost (w : World) (B : Nat) (r : Cpu × Option Ev) (e : Ending) (w' : World) : Prop :=
  ∃ p, e = .returned (.pointer p) ∧ (match r.2 with | none => p = none | some v => ∃ b, p = some ⟨b, 0, none⟩ ∧ b ≠ B ∧ Arr w' b 39 (evCells [v])) ∧ CpuAt w' B r.1 ∧ BelowBut w.heap.size B w w'
/-- The value is a function that carries out operation o, for the computer in block B, wherever the functions that lay in W0 lie. -/
def StepV (W0 : World) (B : Nat) (v : Value) (o : Nat) : Prop :=
  ∃ g lb, v = .func (.func g) #[] lb ∧ (∀ (args : Array Value) (w : World), (callFunc g args).run Tryz.prog w = .ok (.enter g args) w) ∧
    ∀ (w : World) (x : Cpu) (n m : Nat), KeepsT W0 w → CpuAt w B x → n < 256 → m < 256 → Calls Tryz.prog g (#[.pointer (some ⟨B, 0, none⟩), .int .u8 (n : Int), .int .u8 (m : Int)] ++ lb) w (StepPost w B (x.op o n m))
theorem stepV_ev {W0 : World} {B : Nat} {g : FuncId} {o : Nat} (eg : ∀ (args : Array Value) (w : World), (callFunc g args).run Tryz.prog w = .ok (.enter g args) w) (h : OpEv g o) : StepV W0 B (.func (.func g) #[] #[]) o := by
  refine ⟨g, #[], rfl, eg, fun w x n m _ hC hn hm => ?_⟩
  refine (h w B x n m hC hn hm).mono ?_
  rintro e w' ⟨b, v, rfl, hv, hne, hA, hC', hb⟩
  exact ⟨_, rfl, by rw [hv]; exact ⟨b, rfl, hne, hA⟩, hC', hb⟩
theorem op_none {x : Cpu} {o n m : Nat} (h : o ≠ 12 ∧ o ≠ 13 ∧ o ≠ 15) : (x.op o n m).2 = none := by
  unfold Cpu.op
  split <;> first | rfl | omega
theorem stepV_do {W0 : World} {B b : Nat} {g : FuncId} {o : Nat} (eg : ∀ (args : Array Value) (w : World), (callFunc g args).run Tryz.prog w = .ok (.enter g args) w) (h : OpDo g o) (ho : o ≠ 12 ∧ o ≠ 13 ∧ o ≠ 15)
    (hb : Arr W0 b 122 [.func (.func g) #[] #[]]) : StepV W0 B (.func (.func 111) #[] #[.pointer (some ⟨b, 0, none⟩)]) o := by
  refine ⟨111, _, rfl, enters_of Tryz.func111 (by kernel_rfl) rfl, fun w x n m hW hC hn hm => ?_⟩
  have hc : w.cell? ⟨b, 0, none⟩ = some (.func (.func g) #[] #[]) := hW.cell hb rfl (by decide) (by decide) (by decide)
  refine (quiet1_any g eg (fun w w' => CpuAt w' B (x.op o n m).1 ∧ BelowBut w.heap.size B w w') w B n m b hc (h w B x n m hC hn hm)).mono ?_
  rintro e w' ⟨rfl, h1, h2⟩
  exact ⟨none, rfl, by rw [op_none ho], h1, h2⟩
theorem stepV_jump {W0 : World} {B b b' : Nat} {g : FuncId} {o : Nat} (is : Nat → Bool) (eg : ∀ (args : Array Value) (w : World), (callFunc g args).run Tryz.prog w = .ok (.enter g args) w) (hg : IsCon g is)
    (ho : o ≠ 12 ∧ o ≠ 13 ∧ o ≠ 15) (hop : ∀ x n m, (Cpu.op x o n m).1 = if is x.a = true then { x with c := n } else x)
    (hb : Arr W0 b 122 [.func (.func 112) #[] #[.pointer (some ⟨b', 0, none⟩)]]) (hb' : Arr W0 b' 124 [.func (.func g) #[] #[]]) : StepV W0 B (.func (.func 111) #[] #[.pointer (some ⟨b, 0, none⟩)]) o := by
  refine ⟨111, _, rfl, enters_of Tryz.func111 (by kernel_rfl) rfl, fun w x n m hW hC hn hm => ?_⟩
  have hc : w.cell? ⟨b, 0, none⟩ = some (.func (.func 112) #[] #[.pointer (some ⟨b', 0, none⟩)]) := hW.cell hb rfl (by decide) (by decide) (by decide)
  have hc' : w.cell? ⟨b', 0, none⟩ = some (.func (.func g) #[] #[]) := hW.cell hb' rfl (by decide) (by decide) (by decide)
  refine (quiet1_cap 112 _ (enters_of Tryz.func112 (by kernel_rfl) rfl) (fun w w' => CpuAt w' B (x.op o n m).1 ∧ BelowBut w.heap.size B w w') w B n m b hc ?_).mono ?_
  · rw [hop]
    exact jump1_any g is hg eg w B x n m b' hC hn hc'
  · rintro e w' ⟨rfl, h1, h2⟩
    exact ⟨none, rfl, by rw [op_none ho], h1, h2⟩

set_option maxRecDepth 100000 in
set_option maxHeartbeats 2000000 in
theorem operations_any (B : Nat) (w : World) :
    Calls Tryz.prog 65 #[] w fun e w' => ∃ K, e = .returned (.slice (some ⟨K, 0, none⟩) 17 17) ∧ w.heap.size ≤ K ∧ K < w'.heap.size ∧ (∃ L, Arr w' K 110 L ∧ ∀ o, 1 ≤ o → o ≤ 16 → ∃ v, L[o]? = some v ∧ StepV w' B v o) ∧ Below w.heap.size w w' := by
  have hB : Below w.heap.size w w := Below.refl _ _
  go_enter Tryz.func65, Tryz.ntmps65
  go_wp2_with fail
  refine (quiet_any _ _ _).mono ?_
  rintro e w1 ⟨rfl, m1, hb1⟩
  replace hB := hB.trans (hb1.mono hB.size)
  have hb_w1 := hb1
  clear hb1
  clear hb_w1
  go_wp2_with fail
  refine (quiet_any _ _ _).mono ?_
  rintro e w2 ⟨rfl, m2, hb1⟩
  replace hB := hB.trans (hb1.mono hB.size)
  have hb_w2 := hb1
  clear hb1
  replace m1 := m1.below hb_w2
  clear hb_w2
  go_wp2_with fail
  refine (quiet_any _ _ _).mono ?_
  rintro e w3 ⟨rfl, m3, hb1⟩
  replace hB := hB.trans (hb1.mono hB.size)
  have hb_w3 := hb1
  clear hb1
  replace m1 := m1.below hb_w3
  replace m2 := m2.below hb_w3
  clear hb_w3
  go_wp2_with fail
  refine (quiet_any _ _ _).mono ?_
  rintro e w4 ⟨rfl, m4, hb1⟩
  replace hB := hB.trans (hb1.mono hB.size)
  have hb_w4 := hb1
  clear hb1
  replace m1 := m1.below hb_w4
  replace m2 := m2.below hb_w4
  replace m3 := m3.below hb_w4
  clear hb_w4
  go_wp2_with fail
  refine (quiet_any _ _ _).mono ?_
  rintro e w5 ⟨rfl, m5, hb1⟩
  replace hB := hB.trans (hb1.mono hB.size)
  have hb_w5 := hb1
  clear hb1
  replace m1 := m1.below hb_w5
  replace m2 := m2.below hb_w5
  replace m3 := m3.below hb_w5
  replace m4 := m4.below hb_w5
  clear hb_w5
  go_wp2_with fail
  refine (quiet_any _ _ _).mono ?_
  rintro e w6 ⟨rfl, m6, hb1⟩
  replace hB := hB.trans (hb1.mono hB.size)
  have hb_w6 := hb1
  clear hb1
  replace m1 := m1.below hb_w6
  replace m2 := m2.below hb_w6
  replace m3 := m3.below hb_w6
  replace m4 := m4.below hb_w6
  replace m5 := m5.below hb_w6
  clear hb_w6
  go_wp2_with fail
  refine (quiet_any _ _ _).mono ?_
  rintro e w7 ⟨rfl, m7, hb1⟩
  replace hB := hB.trans (hb1.mono hB.size)
  have hb_w7 := hb1
  clear hb1
  replace m1 := m1.below hb_w7
  replace m2 := m2.below hb_w7
  replace m3 := m3.below hb_w7
  replace m4 := m4.below hb_w7
  replace m5 := m5.below hb_w7
  replace m6 := m6.below hb_w7
  clear hb_w7
  go_wp2_with fail
  refine (jump_any _ _).mono ?_
  rintro e w8 ⟨rfl, m8, m108, hb1⟩
  replace hB := hB.trans (hb1.mono hB.size)
  have hb_w8 := hb1
  clear hb1
  replace m1 := m1.below hb_w8
  replace m2 := m2.below hb_w8
  replace m3 := m3.below hb_w8
  replace m4 := m4.below hb_w8
  replace m5 := m5.below hb_w8
  replace m6 := m6.below hb_w8
  replace m7 := m7.below hb_w8
  clear hb_w8
  go_wp2_with fail
  refine (jump_any _ _).mono ?_
  rintro e w9 ⟨rfl, m9, m109, hb1⟩
  replace hB := hB.trans (hb1.mono hB.size)
  have hb_w9 := hb1
  clear hb1
  replace m1 := m1.below hb_w9
  replace m2 := m2.below hb_w9
  replace m3 := m3.below hb_w9
  replace m4 := m4.below hb_w9
  replace m5 := m5.below hb_w9
  replace m6 := m6.below hb_w9
  replace m7 := m7.below hb_w9
  replace m8 := m8.below hb_w9
  replace m108 := m108.below hb_w9
  clear hb_w9
  go_wp2_with fail
  refine (jump_any _ _).mono ?_
  rintro e w10 ⟨rfl, m10, m110, hb1⟩
  replace hB := hB.trans (hb1.mono hB.size)
  have hb_w10 := hb1
  clear hb1
  replace m1 := m1.below hb_w10
  replace m2 := m2.below hb_w10
  replace m3 := m3.below hb_w10
  replace m4 := m4.below hb_w10
  replace m5 := m5.below hb_w10
  replace m6 := m6.below hb_w10
  replace m7 := m7.below hb_w10
  replace m8 := m8.below hb_w10
  replace m108 := m108.below hb_w10
  replace m9 := m9.below hb_w10
  replace m109 := m109.below hb_w10
  clear hb_w10
  go_wp2_with fail
  refine (quiet_any _ _ _).mono ?_
  rintro e w11 ⟨rfl, m11, hb1⟩
  replace hB := hB.trans (hb1.mono hB.size)
  have hb_w11 := hb1
  clear hb1
  replace m1 := m1.below hb_w11
  replace m2 := m2.below hb_w11
  replace m3 := m3.below hb_w11
  replace m4 := m4.below hb_w11
  replace m5 := m5.below hb_w11
  replace m6 := m6.below hb_w11
  replace m7 := m7.below hb_w11
  replace m8 := m8.below hb_w11
  replace m108 := m108.below hb_w11
  replace m9 := m9.below hb_w11
  replace m109 := m109.below hb_w11
  replace m10 := m10.below hb_w11
  replace m110 := m110.below hb_w11
  clear hb_w11
  go_wp2_with fail
  refine (quiet_any _ _ _).mono ?_
  rintro e w14 ⟨rfl, m14, hb1⟩
  replace hB := hB.trans (hb1.mono hB.size)
  have hb_w14 := hb1
  clear hb1
  replace m1 := m1.below hb_w14
  replace m2 := m2.below hb_w14
  replace m3 := m3.below hb_w14
  replace m4 := m4.below hb_w14
  replace m5 := m5.below hb_w14
  replace m6 := m6.below hb_w14
  replace m7 := m7.below hb_w14
  replace m8 := m8.below hb_w14
  replace m108 := m108.below hb_w14
  replace m9 := m9.below hb_w14
  replace m109 := m109.below hb_w14
  replace m10 := m10.below hb_w14
  replace m110 := m110.below hb_w14
  replace m11 := m11.below hb_w14
  clear hb_w14
  go_wp2_with fail
  refine (quiet_any _ _ _).mono ?_
  rintro e w16 ⟨rfl, m16, hb1⟩
  replace hB := hB.trans (hb1.mono hB.size)
  have hb_w16 := hb1
  clear hb1
  replace m1 := m1.below hb_w16
  replace m2 := m2.below hb_w16
  replace m3 := m3.below hb_w16
  replace m4 := m4.below hb_w16
  replace m5 := m5.below hb_w16
  replace m6 := m6.below hb_w16
  replace m7 := m7.below hb_w16
  replace m8 := m8.below hb_w16
  replace m108 := m108.below hb_w16
  replace m9 := m9.below hb_w16
  replace m109 := m109.below hb_w16
  replace m10 := m10.below hb_w16
  replace m110 := m110.below hb_w16
  replace m11 := m11.below hb_w16
  replace m14 := m14.below hb_w16
  clear hb_w16
  go_wp2
  go_ret
  refine ⟨w16.heap.size, rfl, hB.size, by simp, ⟨_, Arr.new rfl rfl, ?_⟩, hB.alloc hB.size _⟩
  intro o h1 h2
  rcases (show o = 1 ∨ o = 2 ∨ o = 3 ∨ o = 4 ∨ o = 5 ∨ o = 6 ∨ o = 7 ∨ o = 8 ∨ o = 9 ∨ o = 10 ∨ o = 11 ∨ o = 12 ∨ o = 13 ∨ o = 14 ∨ o = 15 ∨ o = 16 by omega) with rfl | rfl | rfl | rfl | rfl | rfl | rfl | rfl | rfl | rfl | rfl | rfl | rfl | rfl | rfl | rfl
  · exact ⟨_, rfl, stepV_do (enters_of Tryz.func80 (by kernel_rfl) rfl) do1 (by decide) (m1.alloc _)⟩
  · exact ⟨_, rfl, stepV_do (enters_of Tryz.func81 (by kernel_rfl) rfl) do2 (by decide) (m2.alloc _)⟩
  · exact ⟨_, rfl, stepV_do (enters_of Tryz.func82 (by kernel_rfl) rfl) do3 (by decide) (m3.alloc _)⟩
  · exact ⟨_, rfl, stepV_do (enters_of Tryz.func83 (by kernel_rfl) rfl) do4 (by decide) (m4.alloc _)⟩
  · exact ⟨_, rfl, stepV_do (enters_of Tryz.func84 (by kernel_rfl) rfl) do5 (by decide) (m5.alloc _)⟩
  · exact ⟨_, rfl, stepV_do (enters_of Tryz.func85 (by kernel_rfl) rfl) do6 (by decide) (m6.alloc _)⟩
  · exact ⟨_, rfl, stepV_do (enters_of Tryz.func86 (by kernel_rfl) rfl) do7 (by decide) (m7.alloc _)⟩
  · exact ⟨_, rfl, stepV_jump isAny (enters_of Tryz.func88 (by kernel_rfl) rfl) is8 (by decide) (fun x n m => rfl) (m8.alloc _) (m108.alloc _)⟩
  · exact ⟨_, rfl, stepV_jump isZero (enters_of Tryz.func89 (by kernel_rfl) rfl) is9 (by decide) (fun x n m => by simp [Cpu.op, isZero]) (m9.alloc _) (m109.alloc _)⟩
  · exact ⟨_, rfl, stepV_jump isNeg (enters_of Tryz.func90 (by kernel_rfl) rfl) is10 (by decide) (fun x n m => by simp [Cpu.op, isNeg]) (m10.alloc _) (m110.alloc _)⟩
  · exact ⟨_, rfl, stepV_do (enters_of Tryz.func91 (by kernel_rfl) rfl) do11 (by decide) (m11.alloc _)⟩
  · exact ⟨_, rfl, stepV_ev (enters_of Tryz.func93 (by kernel_rfl) rfl) ev12⟩
  · exact ⟨_, rfl, stepV_ev (enters_of Tryz.func94 (by kernel_rfl) rfl) ev13⟩
  · exact ⟨_, rfl, stepV_do (enters_of Tryz.func95 (by kernel_rfl) rfl) do14 (by decide) (m14.alloc _)⟩
  · exact ⟨_, rfl, stepV_ev (enters_of Tryz.func96 (by kernel_rfl) rfl) ev15⟩
  · exact ⟨_, rfl, stepV_do (enters_of Tryz.func97 (by kernel_rfl) rfl) do16 (by decide) (m16.alloc _)⟩
end Go.Proofs.YtkgbknjpnhoadaaGreatDoor
