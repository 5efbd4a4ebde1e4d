/-
  The fixed examples: sane is true.
-/
import Derived.Test.YtainohbfcehpoaaDoorMbI
import Derived.Test.YtainohbfcehpoaaDoorMf1
namespace Go.Proofs.YtainohbfcehpoaaDoor
open Go.RowKit Go.Shelf

/-- What Verify, Run return where it is known whether the program is good. -/
theorem vfy_yes {code : List UInt8} {l : List Ins} {m : Nat} {e : Ending} (h : VfyPost code e) (hf : formed code = some l) (hg : Good l) (hm : MostOf l m) : e = .returned (.tuple #[.int .i64 (m : Int), .int .i64 0]) := by
  rcases h with ⟨l', m', h1, h2, h3, rfl⟩ | ⟨h1, _⟩
  · rw [hf] at h1
    injection h1 with h1
    subst h1
    rw [h3.unique hm]
  · exact absurd hg (h1 l hf)
theorem vfy_no {code : List UInt8} {e : Ending} (h : VfyPost code e) (hn : ∀ l, formed code = some l → ¬ Good l) : e = .returned (.tuple #[.int .i64 0, .int .i64 80]) := by
  rcases h with ⟨l', m', h1, h2, _⟩ | ⟨_, h⟩
  · exact absurd h2 (hn l' h1)
  · exact h
theorem run_yes {code inp : List UInt8} {most : Int} {l : List Ins} {w w' : World} {e : Ending} (h : RunPost code inp most w e w') (hf : formed code = some l) (hg : Good l) (h0 : 0 ≤ most) (h1 : most ≤ 1000000) : e = runE (runOf l inp most.toNat) := by
  rcases h.1 with ⟨l', h2, _, _, _, rfl⟩ | ⟨h2 | h2 | h2, _⟩
  · rw [hf] at h2
    injection h2 with h2
    rw [h2]
  · exact absurd hg (h2 l hf)
  · omega
  · omega
theorem run_no {code inp : List UInt8} {most : Int} {w w' : World} {e : Ending} (h : RunPost code inp most w e w') (hn : (∀ l, formed code = some l → ¬ Good l) ∨ most < 0 ∨ 1000000 < most) : e = runE none := by
  rcases h.1 with ⟨l', h2, h3, h4, h5, rfl⟩ | ⟨_, h⟩
  · rcases hn with hn | hn | hn
    · exact absurd h3 (hn l' h2)
    · omega
    · omega
  · exact h
set_option maxRecDepth 100000 in
set_option maxHeartbeats 4000000 in
theorem sane_any (w : World) (hE : Env w) :
    Calls Tryd.prog 11 #[] w fun e w' => e = .returned (.bool true) ∧ Below w.heap.size w w' := by
  have P1 := fun (w : World) hE => Parse_any exT w (by decide) hE
  have P2 := fun (w : World) hE => (Verify_any exC w (by decide) hE).mono fun e w' (h : _ ∧ _) => And.intro (vfy_yes h.1 ex_formed ex_good ex_most) h.2
  have P3 := fun (w : World) hE => (Run_any exC [104, 105] 1000 w (by decide) (by decide) hE ⟨by decide, by decide⟩).mono fun e w' h => And.intro (run_yes h ex_formed ex_good (by decide) (by decide)) h.2
  have P4 := fun (w : World) hE => (Run_any exC [104, 105] 20 w (by decide) (by decide) hE ⟨by decide, by decide⟩).mono fun e w' h => And.intro (run_yes h ex_formed ex_good (by decide) (by decide)) h.2
  have P5 := fun (w : World) hE => Print_any exC w (by decide) hE
  have P6 := fun (w : World) hE => Parse_any [104, 97, 108, 116, 10, 106, 117, 109, 112, 32, 50, 10] w (by decide) hE
  have P7 := fun (w : World) hE => (Verify_any [4, 11] w (by decide) hE).mono fun e w' (h : _ ∧ _) => And.intro (vfy_no h.1 ex_bad1) h.2
  have P8 := fun (w : World) hE => (Verify_any [0, 0, 1, 7, 0, 0] w (by decide) hE).mono fun e w' (h : _ ∧ _) => And.intro (vfy_no h.1 ex_bad2) h.2
  rw [ex_parse] at P1
  rw [show (1000 : Int).toNat = 1000 from rfl, ex_run1] at P3
  rw [show (20 : Int).toNat = 20 from rfl, ex_run2] at P4
  rw [ex_print] at P5
  rw [ex_parse2] at P6
  unfold parV at P1 P6
  unfold runE at P3 P4
  dsimp only at P1 P3 P4 P5 P6
  rw [show str exT = ⟨#[105, 110, 10, 100, 117, 112, 10, 112, 117, 115, 104, 32, 48, 10, 108, 101, 115, 115, 10, 105, 102, 32, 55, 10, 111, 117, 116, 10, 106, 117, 109, 112, 32, 48, 10, 100, 114, 111, 112, 10, 104, 97, 108, 116, 10]⟩ from rfl] at P1 P5
  rw [show str [104, 105] = ⟨#[104, 105]⟩ from rfl] at P3 P4
  rw [show str [104, 97, 108, 116, 10, 106, 117, 109, 112, 32, 50, 10] = ⟨#[104, 97, 108, 116, 10, 106, 117, 109, 112, 32, 50, 10]⟩ from rfl] at P6
  rw [show str [4, 11] = ⟨#[4, 11]⟩ from rfl] at P7
  rw [show str [0, 0, 1, 7, 0, 0] = ⟨#[0, 0, 1, 7, 0, 0]⟩ from rfl] at P8
  replace P1 := Lib.hid P1
  replace P2 := Lib.hid P2
  replace P3 := Lib.hid P3
  replace P4 := Lib.hid P4
  replace P5 := Lib.hid P5
  replace P6 := Lib.hid P6
  replace P7 := Lib.hid P7
  replace P8 := Lib.hid P8
  go_enter Tryd.func11, Tryd.ntmps11
  go_wp2_with fail
  refine (P1.out _ hE).mono ?_
  rintro e w1 ⟨rfl, hb1⟩
  have hE1 := hE.below hb1
  go_wp2_with fail
  refine (P2.out _ hE1.ops).mono ?_
  rintro e w2 ⟨rfl, hb2⟩
  have hE2 := hE1.below hb2
  have hB2 := hb1.trans (hb2.mono hb1.size)
  go_wp2_with fail
  refine (P3.out _ hE2.ops).mono ?_
  rintro e w3 ⟨rfl, hb3⟩
  have hE3 := hE2.below hb3
  have hB3 := hB2.trans (hb3.mono hB2.size)
  go_wp2_with fail
  refine (P4.out _ hE3.ops).mono ?_
  rintro e w4 ⟨rfl, hb4⟩
  have hE4 := hE3.below hb4
  have hB4 := hB3.trans (hb4.mono hB3.size)
  go_wp2_with fail
  refine (P5.out _ hE4).mono ?_
  rintro e w5 ⟨rfl, hb5⟩
  have hE5 := hE4.below hb5
  have hB5 := hB4.trans (hb5.mono hB4.size)
  go_wp2_with fail
  refine (P6.out _ hE5).mono ?_
  rintro e w6 ⟨rfl, hb6⟩
  have hE6 := hE5.below hb6
  have hB6 := hB5.trans (hb6.mono hB5.size)
  go_wp2_with fail
  refine (P7.out _ hE6.ops).mono ?_
  rintro e w7 ⟨rfl, hb7⟩
  have hE7 := hE6.below hb7
  have hB7 := hB6.trans (hb7.mono hB6.size)
  go_wp2_with fail
  refine (P8.out _ hE7.ops).mono ?_
  rintro e w8 ⟨rfl, hb8⟩
  have hB8 := hB7.trans (hb8.mono hB7.size)
  clear hE hE1 hE2 hE3 hE4 hE5 hE6 hE7 hB2 hB3 hB4 hB5 hB6 hB7 hb1 hb2 hb3 hb4 hb5 hb6 hb7 hb8
  go_wp2_with fail
  go_ret
  exact ⟨rfl, hB8⟩
end Go.Proofs.YtainohbfcehpoaaDoor
