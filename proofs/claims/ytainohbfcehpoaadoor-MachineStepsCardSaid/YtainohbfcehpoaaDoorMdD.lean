/-
  MachineSteps: the walk.
-/
import Derived.Test.YtainohbfcehpoaaDoorMdB
import Derived.Test.YtainohbfcehpoaaDoorMg1
namespace Go.Proofs.YtainohbfcehpoaaDoor
open Go.RowKit Go.Shelf

theorem str_same (a : List UInt8) : ((str a).toList == (str a).toList) = true := beq_self_eq_true _
set_option maxRecDepth 100000 in
set_option maxHeartbeats 8000000 in
theorem Steps_walk (v : Value) (n : Nat) (zs : List Int) (inp : List UInt8) (more : Int) (w : World) (hs : SliceAt w w.heap.size v n (zs.map (Value.int .i64))) (hz : zs.length = n * 2) (hI : ∀ z ∈ zs, I64 z) (hi : inp.length ≤ 9223372036854775807) (hm : I64 more) (hE : EnvR w) :
    Calls Tryd.prog 6 #[v, .string (str inp), .int .i64 more] w fun e w' => e = .returned (.bool true) ∧ Below w.heap.size w w' := by
  have hsn := Lib.hid (sane_any w hE.env)
  have hmd := fun W (hb : Below w.heap.size w W) => Lib.hid (Made_any v n zs W (hs.later hb) hz hI (hE.below hb))
  have hfm := made_formed (prs40 zs) prs40_len prs40_lt
  have hml := madeB_len (prs40 zs) 0 0
  have hpl := prs40_len (zs := zs)
  have hex := extract_take inp (min inp.length 30)
  have hps := str_size inp
  have hmn : (min (inp.length : Int) 30).toNat = min inp.length 30 := by omega
  have hm1 : (0 : Int) ≤ min (inp.length : Int) 30 := by omega
  have hm2 : min (inp.length : Int) 30 ≤ (inp.length : Int) := by omega
  have hrl : (inp.take (min inp.length 30)).length ≤ 30 := by rw [List.length_take]; omega
  generalize inp.take (min inp.length 30) = i2 at *
  obtain ⟨k, out, hk1, hk2, _, hrun⟩ := made_run (prs40 zs) prs40_len prs40_lt i2 (by omega)
  generalize (madeE 0 0 (prs40 zs)).map (·.1) = L at *
  generalize madeB 0 0 (prs40 zs) = made at *
  have hR := fun (m : Int) (W : World) (hb : Below w.heap.size w W) (hmI : I64 m) => Run_any made i2 m W (by omega) (by omega) (hE.below hb).env.ops hmI
  have hyes := fun (m : Int) (W : World) (hb : Below w.heap.size w W) (hmI : I64 m) (h1 : (k : Int) ≤ m) (h2 : m ≤ 1000000) => Lib.hid ((hR m W hb hmI).mono (fun e w' h => And.intro (show e = .returned (.tuple #[.string (str out), .int .i64 (k : Int), .int .i64 0]) by rw [run_yes h hfm.1 hfm.2 (by omega) h2, hrun, if_pos (by omega)]; rfl) h.2))
  have hno := fun (m : Int) (W : World) (hb : Below w.heap.size w W) (hmI : I64 m) (h1 : m < (k : Int) ∨ 1000000 < m) => Lib.hid ((hR m W hb hmI).mono (fun e w' h => And.intro (show e = .returned (.tuple #[.string (str []), .int .i64 0, .int .i64 80]) by
    by_cases h0 : m < 0 ∨ 1000000 < m
    · exact run_no h (.inr h0)
    · rw [run_yes h hfm.1 hfm.2 (by omega) (by omega), hrun, if_neg (by omega)]; rfl) h.2))
  have hp3 := fun W => Lib.hid (pick_any more 3000 W hm (by omega) (by omega))
  have hpk := fun W => Lib.hid (pick_any more k W hm (by omega) (by omega))
  have hp1 := fun W => Lib.hid (pick_any more 10 W hm (by omega) (by omega))
  have l3 := pickv_lt more 3000 (by omega)
  have lk := pickv_lt more k (by omega)
  have l1 := pickv_lt more 10 (by omega)
  generalize pickv more 3000 = x3 at *
  generalize pickv more k = xk at *
  generalize pickv more 10 = x1 at *
  have hw1 : IntKind.i64.wrap ((k : Int) + (x3 : Int)) = (k : Int) + (x3 : Int) := IntWalk.i64_in _ (by omega)
  have hw2 : IntKind.i64.wrap (-1 - (x1 : Int)) = -1 - (x1 : Int) := IntWalk.i64_in _ (by omega)
  have hd1 : decide ((k : Int) < 1) = false := by simp; omega
  have hd2 : decide (5000 < (k : Int)) = false := by simp; omega
  have hss := str_same out
  clear hR hrun hfm
  go_enter Tryd.func6, Tryd.ntmps6
  go_wp2_with fail
  refine hsn.out.mono ?_
  rintro e w1 ⟨rfl, hb1⟩
  go_wp2_with fail
  refine (hmd w1 hb1).out.mono ?_
  rintro e w2 ⟨rfl, hb2⟩
  have hB2 := hb1.trans (hb2.mono hb1.size)
  clear hsn hmd hb1 hb2
  go_wp2_with fail
  refine (hyes 5000 _ hB2 ⟨by omega, by omega⟩ (by omega) (by omega)).out.mono ?_
  rintro e w3 ⟨rfl, hb3⟩
  have hB3 := hB2.trans (hb3.mono hB2.size)
  clear hB2 hb3
  go_wp2_with fail
  refine (hp3 _).out.mono ?_
  rintro e _ ⟨rfl, rfl⟩
  go_wp2_with fail
  refine (hyes _ _ hB3 ⟨by omega, by omega⟩ (by omega) (by omega)).out.mono ?_
  rintro e w4 ⟨rfl, hb4⟩
  have hB4 := hB3.trans (hb4.mono hB3.size)
  clear hB3 hb4
  go_wp2_with fail
  refine (hpk _).out.mono ?_
  rintro e _ ⟨rfl, rfl⟩
  go_wp2_with fail
  refine (hno _ _ hB4 ⟨by omega, by omega⟩ (by omega)).out.mono ?_
  rintro e w5 ⟨rfl, hb5⟩
  have hB5 := hB4.trans (hb5.mono hB4.size)
  clear hB4 hb5
  go_wp2_with fail
  refine (hp1 _).out.mono ?_
  rintro e _ ⟨rfl, rfl⟩
  go_wp2_with fail
  refine (hno _ _ hB5 ⟨by omega, by omega⟩ (by omega)).out.mono ?_
  rintro e w6 ⟨rfl, hb6⟩
  have hB6 := hB5.trans (hb6.mono hB5.size)
  clear hB5 hb6
  go_wp2_with fail
  refine (hno _ _ hB6 ⟨by omega, by omega⟩ (by omega)).out.mono ?_
  rintro e w7 ⟨rfl, hb7⟩
  have hB7 := hB6.trans (hb7.mono hB6.size)
  clear hB6 hb7
  go_wp2_with fail
  go_ret
  exact ⟨rfl, hB7⟩
end Go.Proofs.YtainohbfcehpoaaDoor
