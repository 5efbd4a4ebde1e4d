/-
  Formats of chapter 4: strconv.ParseUint of one or two hexadecimal digits.
  A range over a function whose body may PANIC in a round (the library's laws ask 'False' there). General.
  The walk is of the frames of ONE function that the program has (wpFn): a frame that panics leaves by it.
  A region that draws its order, inside a round of a loop over a function: the laws of plain regions serve there too.
  Formats of chapter 4: strconv.ParseUint at base 16, eight bits; slices.Chunk of bytes by two.
  Formats of chapter 4: fromHex.
-/
import Derived.Test.YtcpfmlaipejfpaaGreatDoorK7
import Derived.Shelf.Pu.ToError
import Derived.Shelf.Pu.Lower
import Derived.Test.YtcpfmlaipejfpaaGreatDoorK1
import Derived.RangeFuncNested
import Derived.RangeFuncBound
import Derived.RangeFuncCalls
import Derived.RangeFuncLeaves
import Derived.RangeFuncFrom
import Derived.RangeFuncBox
import Derived.OrdersIn
import Derived.StillTail
import Derived.StillTactics
import Derived.Deep.RegionHeld
import Derived.BigRegionIn
import Derived.OwnWalkIn
import Derived.TacticsInMore
import Derived.LoopNIn
import Derived.LoopIn
import Derived.Shelf.Abstract
import Derived.Shelf.RegionOpen
import Derived.Lib.ConvBytes
namespace Go.Proofs.YtcpfmlaipejfpaaGreatDoor
open Go.RowKit Go.Shelf

/-- The number that hexadecimal digits are. -/
def hexN (acc : Nat) : List UInt8 → Option Nat
  | [] => some acc
  | c :: r => match hexV c with
    | none => none
    | some d => hexN (16 * acc + d) r
theorem hexV_lt {c : UInt8} {d : Nat} (h : hexV c = some d) : d < 16 := by
  unfold hexV at h
  split at h
  · injection h with h; omega
  · split at h
    · injection h with h; omega
    · cases h
theorem lower32 (c : UInt8) : bits .or .u8 (c.toNat : Int) 32 = ((c ||| 32).toNat : Int) := by
  have key : ∀ k : Fin 256, bits .or .u8 (k.1 : Int) 32 = (((UInt8.ofNat k.1) ||| 32).toNat : Int) := by decide +kernel
  have := key ⟨c.toNat, c.toNat_lt⟩
  dsimp only at this
  rw [UInt8.ofNat_toNat] at this
  exact this
theorem lower_any (c : UInt8) (w : World) : Calls Tryz.prog 135 #[.int .u8 (c.toNat : Int)] w fun e w' => e = .returned (.int .u8 ((c ||| 32).toNat : Int)) ∧ w' = w := by
  have h := AnyPu.internal_strconv_lower Tryz.laysPu19 (c.toNat : Int) w
  rw [lower32] at h
  exact h
def hexE : Value := .iface 149 (.int .i64 2)
def hexR (r : Option Nat) : Value := match r with
  | some u => .tuple #[.int .u64 (u : Int), .nilIface]
  | none => .tuple #[.int .u64 0, hexE]
set_option maxHeartbeats 32000000 in
set_option maxRecDepth 100000 in
theorem inner16_any (s : List UInt8) (w : World) (hne : s ≠ []) (h2 : s.length ≤ 2) :
    Calls Tryz.prog 121 #[.string (str s), .int .i64 16, .int .i64 8] w fun e w' => e = .returned (hexR (hexN 0 s)) ∧ w' = Lib.bytesWorld w 5 (str s) := by
  have hps : (str s).size = s.length := str_size s
  have hpos : 0 < s.length := by cases s with | nil => exact absurd rfl hne | cons => simp
  have hemp : (str s).toList.isEmpty = false := by rw [str_empty]; simpa using hne
  have hcv := Lib.run_convert_string_bytes (P := Tryz.prog) w 9 44 5 (str s) Tryz.underlying9 Tryz.underlying44 Tryz.underlying5
  have hB : ∀ j, j < s.length → (Lib.bytesWorld w 5 (str s)).cell? ⟨w.heap.size, j, none⟩ = some (.int .u8 (s.getD j 0).toNat) := fun j hj => by
    have := Lib.bytesWorld_cell w 5 (str s) j (by rw [hps]; exact hj)
    rwa [str_list] at this
  obtain ⟨W1, hW1⟩ : ∃ W1, W1 = Lib.bytesWorld w 5 (str s) := ⟨_, rfl⟩
  rw [← hW1] at hcv hB ⊢
  clear hW1 hne
  have hmv : IntKind.u64.wrap (IntKind.u64.wrap 256 - 1) = 255 := by
    rw [IntKind.wrap_u64, IntKind.wrap_u64]
    decide
  have hlow := fun c W => Lib.hid (lower_any c W)
  go_enter Tryz.func121, Tryz.ntmps121
  go_wp2_with fail
  go_loop [12, 13, 101] (fun vu vn vi => ∃ (k acc : Nat) (a : Int), vu = .bool false ∧ vn = .int .u64 a ∧ vi = .int .i64 k ∧ k ≤ s.length ∧ Hid (a = (acc : Int) ∧ acc < 16 ^ k ∧ hexN 0 s = hexN acc (s.drop k)))
    (fun _ _ vi => s.length - (intOf vi).toNat)
  case atStart => exact ⟨0, 0, 0, rfl, rfl, rfl, by omega, rfl, by decide, rfl⟩
  case round =>
    obtain ⟨k, acc, a, rfl, rfl, rfl, hk, hh⟩ := hrel
    obtain ⟨ha, hacc, hdec⟩ := hh.out
    clear hh
    have a0 : 0 ≤ a := by omega
    by_cases hkn : k < s.length
    · have hc := hB k hkn
      have hacc2 : acc < 16 := by
        have hk2 : k = 0 ∨ k = 1 := by omega
        rcases hk2 with rfl | rfl
        · simp at hacc; omega
        · simpa using hacc
      have a1 : a ≤ 15 := by omega
      have hdrop : s.drop k = s[k]'(by omega) :: s.drop (k + 1) := List.drop_eq_getElem_cons (by omega)
      have hget : s.getD k 0 = s[k]'(by omega) := by simp [List.getD, List.getElem?_eq_getElem hkn]
      rw [hdrop] at hdec
      rw [hget] at hc
      generalize s[k]'(by omega) = c at hc hdec
      have hc256 : c.toNat < 256 := c.toNat_lt
      clear hB hdrop hget
      have hlw := fun W => hlow c W
      clear hlow
      obtain ⟨x, hx⟩ : ∃ x, x = (c ||| 32).toNat := ⟨_, rfl⟩
      have hx256 : x < 256 := by rw [hx]; exact UInt8.toNat_lt _
      rw [← hx] at hlw
      by_cases hdig : 48 ≤ c.toNat ∧ c.toNat ≤ 57
      · have hv : hexV c = some (c.toNat - 48) := by unfold hexV; rw [if_pos hdig]
        obtain ⟨hd0, hd1⟩ := hdig
        have hq : ((c.toNat : Int) == 95) = false := by rw [beq_eq_false_iff_ne]; omega
        have HN : Hid (a * 16 + ((c.toNat : Int) - 48) = ((16 * acc + (c.toNat - 48) : Nat) : Int) ∧ 16 * acc + (c.toNat - 48) < 16 ^ (k + 1) ∧ hexN 0 s = hexN (16 * acc + (c.toNat - 48)) (s.drop (k + 1))) := Lib.hid ⟨by omega, by rw [Nat.pow_succ]; omega, by rw [hdec, hexN, hv]⟩
        clear hacc hdec ha hx hv
        go_wp2_with fail
        refine ⟨⟨k + 1, 16 * acc + (c.toNat - 48), a * 16 + ((c.toNat : Int) - 48), rfl, (by first | rfl | (congr 1; omega)), (by first | rfl | (congr 1; omega)), by omega, HN⟩, by simp [intOf]; omega⟩
      · by_cases hlet : 97 ≤ x ∧ x ≤ 102
        · have hv : hexV c = some (x - 87) := by unfold hexV; rw [if_neg hdig, ← hx, if_pos hlet]
          obtain ⟨hl0, hl1⟩ := hlet
          have hq : ((c.toNat : Int) == 95) = false := by
            rw [beq_eq_false_iff_ne]
            intro h
            have h95 : c = 95 := UInt8.toNat_inj.1 (by rw [show (95 : UInt8).toNat = 95 from rfl]; omega)
            rw [h95] at hx
            rw [show ((95 : UInt8) ||| 32).toNat = 127 from rfl] at hx
            omega
          have HN : Hid (a * 16 + ((x : Int) - 97 + 10) = ((16 * acc + (x - 87) : Nat) : Int) ∧ 16 * acc + (x - 87) < 16 ^ (k + 1) ∧ hexN 0 s = hexN (16 * acc + (x - 87)) (s.drop (k + 1))) := Lib.hid ⟨by omega, by rw [Nat.pow_succ]; omega, by rw [hdec, hexN, hv]⟩
          clear hacc hdec ha hx hv
          rcases (show c.toNat < 48 ∨ 57 < c.toNat by omega) with hlo | hlo
          · clear hdig
            go_wp2_with (first | (refine (hlw _).out.mono ?_; rintro e W2 ⟨rfl, rfl⟩) | fail)
            refine ⟨⟨k + 1, 16 * acc + (x - 87), a * 16 + ((x : Int) - 97 + 10), rfl, (by first | rfl | (congr 1; omega)), (by first | rfl | (congr 1; omega)), by omega, HN⟩, by simp [intOf]; omega⟩
          · clear hdig
            go_wp2_with (first | (refine (hlw _).out.mono ?_; rintro e W2 ⟨rfl, rfl⟩) | fail)
            refine ⟨⟨k + 1, 16 * acc + (x - 87), a * 16 + ((x : Int) - 97 + 10), rfl, (by first | rfl | (congr 1; omega)), (by first | rfl | (congr 1; omega)), by omega, HN⟩, by simp [intOf]; omega⟩
        · have hv : hexV c = none := by unfold hexV; rw [if_neg hdig, ← hx, if_neg hlet]
          have hres : Hid (hexN 0 s = none) := by show _ = _; rw [hdec, hexN, hv]
          clear hacc hdec ha hx hv
          rcases (show c.toNat < 48 ∨ 57 < c.toNat by omega) with hlo | hlo
          · clear hdig
            cases hq : ((c.toNat : Int) == 95) with
            | false =>
              rcases (show x < 97 ∨ (102 < x ∧ x ≤ 122) ∨ 122 < x by omega) with hl | ⟨hl, hl2⟩ | hl
              · go_wp2_with (first | (refine (hlw _).out.mono ?_; rintro e W2 ⟨rfl, rfl⟩) | fail)
                go_ret2
                exact ⟨by rw [hres.out]; rfl, rfl⟩
              · go_wp2_with (first | (refine (hlw _).out.mono ?_; rintro e W2 ⟨rfl, rfl⟩) | fail)
                go_ret2
                exact ⟨by rw [hres.out]; rfl, rfl⟩
              · go_wp2_with (first | (refine (hlw _).out.mono ?_; rintro e W2 ⟨rfl, rfl⟩) | fail)
                go_ret2
                exact ⟨by rw [hres.out]; rfl, rfl⟩
            | true =>
              rcases (show x < 97 ∨ (102 < x ∧ x ≤ 122) ∨ 122 < x by omega) with hl | ⟨hl, hl2⟩ | hl
              · go_wp2_with (first | (refine (hlw _).out.mono ?_; rintro e W2 ⟨rfl, rfl⟩) | fail)
                go_ret2
                exact ⟨by rw [hres.out]; rfl, rfl⟩
              · go_wp2_with (first | (refine (hlw _).out.mono ?_; rintro e W2 ⟨rfl, rfl⟩) | fail)
                go_ret2
                exact ⟨by rw [hres.out]; rfl, rfl⟩
              · go_wp2_with (first | (refine (hlw _).out.mono ?_; rintro e W2 ⟨rfl, rfl⟩) | fail)
                go_ret2
                exact ⟨by rw [hres.out]; rfl, rfl⟩
          · clear hdig
            cases hq : ((c.toNat : Int) == 95) with
            | false =>
              rcases (show x < 97 ∨ (102 < x ∧ x ≤ 122) ∨ 122 < x by omega) with hl | ⟨hl, hl2⟩ | hl
              · go_wp2_with (first | (refine (hlw _).out.mono ?_; rintro e W2 ⟨rfl, rfl⟩) | fail)
                go_ret2
                exact ⟨by rw [hres.out]; rfl, rfl⟩
              · go_wp2_with (first | (refine (hlw _).out.mono ?_; rintro e W2 ⟨rfl, rfl⟩) | fail)
                go_ret2
                exact ⟨by rw [hres.out]; rfl, rfl⟩
              · go_wp2_with (first | (refine (hlw _).out.mono ?_; rintro e W2 ⟨rfl, rfl⟩) | fail)
                go_ret2
                exact ⟨by rw [hres.out]; rfl, rfl⟩
            | true =>
              rcases (show x < 97 ∨ (102 < x ∧ x ≤ 122) ∨ 122 < x by omega) with hl | ⟨hl, hl2⟩ | hl
              · go_wp2_with (first | (refine (hlw _).out.mono ?_; rintro e W2 ⟨rfl, rfl⟩) | fail)
                go_ret2
                exact ⟨by rw [hres.out]; rfl, rfl⟩
              · go_wp2_with (first | (refine (hlw _).out.mono ?_; rintro e W2 ⟨rfl, rfl⟩) | fail)
                go_ret2
                exact ⟨by rw [hres.out]; rfl, rfl⟩
              · go_wp2_with (first | (refine (hlw _).out.mono ?_; rintro e W2 ⟨rfl, rfl⟩) | fail)
                go_ret2
                exact ⟨by rw [hres.out]; rfl, rfl⟩
    · have hkk : k = s.length := by omega
      subst hkk
      have hF : Hid (hexN 0 s = some acc) := by show _ = _; rw [hdec, List.drop_eq_nil_of_le (by omega), hexN]
      subst ha
      clear hacc hdec hB
      go_wp2_with fail
      go_ret2
      exact ⟨by rw [hF.out]; rfl, rfl⟩
end Go.Proofs.YtcpfmlaipejfpaaGreatDoor
namespace Go.Proofs.YtcpfmlaipejfpaaGreatDoor
open Go.RowKit

variable {F : Fence} {n : Nat} {P : Program}

/-- A code's walk, in the frames of one function alone. -/
def WpFn (f0 : FuncId) (F : Fence) (n : Nat) (P : Program) (c : Code) (Q : Exit → Act → World → Prop) (a : Act) (w : World) : Prop :=
  ∀ (b : Frame) (k : List Item) (cs : List Frame), b.fn = f0 → b.roundOf = F.round → F.fn b.fn → F.room (cs.length + 1 + n) →
    ∃ e a' w', Q e a' w' ∧ ArrivesIn (Machine.fenced P F) P (lone (b.atR a (.code c :: k)) cs w) b k cs e a' w'
theorem wpFn_of {f0 : FuncId} {c : Code} {Q : Exit → Act → World → Prop} {a : Act} {w : World} (h : c.wpIn F n P Q a w) : WpFn f0 F n P c Q a w :=
  fun b k cs _ hro hb hr => h b k cs hro hb hr
theorem wpFn_seq {f0 : FuncId} {x y : Code} {Q : Exit → Act → World → Prop} {a : Act} {w : World} (h : WpFn f0 F n P x (Exit.then (WpFn f0 F n P y Q) Q) a w) : WpFn f0 F n P (Code.seq x y) Q a w := by
  intro b k cs hf hro hb hr
  have h0 : (lone (b.atR a (.code (.seq x y) :: k)) cs w).fenced P F := fenced_calm hb hr rfl
  obtain ⟨e, a₁, w₁, hq, harr⟩ := h b (.code y :: k) cs hf hro hb hr
  cases e with
  | normal =>
    obtain ⟨e₂, a₂, w₂, hq₂, harr₂⟩ := hq b k cs hf hro hb hr
    exact ⟨e₂, a₂, w₂, hq₂, .of_steps (.head h0 stepR_seq harr) harr₂⟩
  | exit id => exact ⟨_, a₁, w₁, hq, .of_steps (.one h0 stepR_seq) (.pass (x := .code y) rfl (fun _ _ => .inl (by simp)) harr)⟩
  | goto l => exact ⟨_, a₁, w₁, hq, .of_steps (.one h0 stepR_seq) (.pass (x := .code y) rfl (fun _ _ => .inl (by simp)) harr)⟩
  | ret => exact ⟨_, a₁, w₁, hq, .of_steps (.one h0 stepR_seq) (.pass (x := .code y) rfl (fun _ _ => .inl (by simp)) harr)⟩
  | panic ch => exact ⟨_, a₁, w₁, hq, .of_steps (.one h0 stepR_seq) (.pass (x := .code y) rfl (fun _ _ => .inl (by simp)) harr)⟩
  | outgrown => exact ⟨_, a₁, w₁, hq, .of_steps (.one h0 stepR_seq) (.pass (x := .code y) rfl (fun _ _ => .inl (by simp)) harr)⟩
theorem wpFn_block {f0 : FuncId} {id : Nat} {c : Code} {Q : Exit → Act → World → Prop} {a : Act} {w : World} (h : WpFn f0 F n P c (Exit.inBlock id Q) a w) : WpFn f0 F n P (Code.block id c) Q a w := by
  intro b k cs hf hro hb hr
  have h0 : (lone (b.atR a (.code (.block id c) :: k)) cs w).fenced P F := fenced_calm hb hr rfl
  obtain ⟨e, a₁, w₁, hq, harr⟩ := h b (.inBlock id :: k) cs hf hro hb hr
  cases e with
  | normal => exact ⟨.normal, a₁, w₁, hq, .head h0 stepR_block (StepsIn.trans harr (.one (fenced_calm hb hr rfl) stepR_inBlock))⟩
  | exit id' =>
    by_cases hid : id' = id
    · simp only [Exit.inBlock, hid, if_true] at hq
      exact ⟨.normal, a₁, w₁, hq, .head h0 stepR_block (harr.1 k (by simp [exitTo, hid]))⟩
    · simp only [Exit.inBlock, hid, if_false] at hq
      have this : (id == id') = false := by simp; exact fun h => hid h.symm
      have hx : exitTo id' (.inBlock id :: k) = exitTo id' k := by simp [exitTo, this]
      exact ⟨.exit id', a₁, w₁, hq, fun k' hk => .head h0 stepR_block (harr.1 k' (by rw [hx]; exact hk)),
        fun hr' hk => let ⟨k₁, h1, h2⟩ := harr.2 hr' (by rw [hx]; exact hk); ⟨k₁, h1, .head h0 stepR_block h2⟩⟩
  | goto l =>
    have hx : gotoIn l (.inBlock id :: k) = gotoIn l k := by simp [gotoIn]
    exact ⟨_, a₁, w₁, hq, fun k' hk => .head h0 stepR_block (harr.1 k' (by rw [hx]; exact hk)),
      fun hr' hk => let ⟨k₁, h1, h2⟩ := harr.2 hr' (by rw [hx]; exact hk); ⟨k₁, h1, .head h0 stepR_block h2⟩⟩
  | ret => exact ⟨_, a₁, w₁, hq, .of_steps (.one h0 stepR_block) harr⟩
  | panic ch => exact ⟨_, a₁, w₁, hq, .of_steps (.one h0 stepR_block) harr⟩
  | outgrown => exact ⟨_, a₁, w₁, hq, .of_steps (.one h0 stepR_block) harr⟩
/-- A function's contract from its body's walk in its own frames. -/
theorem callsIn_of_wpFn {f : FuncId} {fn : Func} {c : Code} {args : Array Value} {w : World} {R : Ending → World → Prop}
    (hf : P.funcs[f]? = some fn) (hb : fn.body = some c) (hF : F.fn f)
    (h : WpFn f F n P c (bodyPostM F n P fn R) { tmps := args ++ Array.replicate (fn.ntmps - args.size) undef, defers := [] } w) (hro : F.round = none := by rfl) : CallsIn F n P f args w R := by
  refine ⟨hF, fun cs hr => ?_⟩
  let b : Frame := { (default : Frame) with fn := f, kind := .normal, roundOf := none }
  have henter : Frame.enter P f args .normal =
      b.atR { tmps := args ++ Array.replicate (fn.ntmps - args.size) undef, defers := [] } [.code c] := by
    simp [Frame.enter, Frame.atR, hf, hb, b]
  obtain ⟨e, a', w', hq, harr⟩ := h b [] cs rfl hro.symm hF hr
  rw [← henter] at harr
  cases e with
  | normal =>
    obtain ⟨e', w'', fr', hR, hs, hfn, hl⟩ := leaves_stepsInM a'.defers .returning w' { b.atR a' [] with mode := .returning } cs rfl rfl rfl hf rfl hF hr hq
    exact ⟨e', w'', fr', hR, ComesIn.of_steps (StepsIn.trans harr (.one (fenced_calm (fr := b.atR a' []) hF hr rfl) (stepR_end rfl))) hs, hfn, hl⟩
  | ret =>
    obtain ⟨todo, hs₀⟩ := harr.1 rfl
    obtain ⟨e', w'', fr', hR, hs, hfn, hl⟩ := leaves_stepsInM a'.defers .returning w' { b.atR a' todo with mode := .returning } cs rfl rfl rfl hf rfl hF hr hq
    exact ⟨e', w'', fr', hR, ComesIn.of_steps hs₀ hs, hfn, hl⟩
  | panic chain =>
    obtain ⟨todo, hs₀⟩ := harr
    obtain ⟨e', w'', fr', hR, hs, hfn, hl⟩ := leaves_stepsInM a'.defers (.panicking chain) w' { b.atR a' todo with mode := .panicking chain } cs rfl rfl rfl hf rfl hF hr hq
    exact ⟨e', w'', fr', hR, ComesIn.of_steps hs₀ hs, hfn, hl⟩
  | exit id => exact hq.elim
  | goto l => exact hq.elim
  | outgrown => exact ⟨.outgrown, w', b, hq, harr.resolve_left (by simp [b]), rfl, trivial⟩
/-- What is asked at the end of a round that goes on, or panics. -/
def roundPostP (P : Program) (l : Nat) (R : Ending → World → Prop) : Exit → Act → World → Prop
  | .normal, _, w => ∃ v w', (Instr.endRound l none).run P w = .ok v w' ∧ R (.returned v) w'
  | .panic ch, a, w => a.defers = [] ∧ R (.panicked ch) w
  | _, _, _ => False
theorem roundIn_of_wpIn_p {l : Nat} {f : FuncId} {fn : Func} {tmps : Array Value} {assign body : Code} {w : World} {R : Ending → World → Prop} (hF : F.fn f) (hfn : P.funcs[f]? = some fn)
    (h : assign.wpIn (F.inRound l) n P (Exit.then (fun a₁ w₁ => ∃ w₂, (Instr.beginRound l).run P w₁ = .ok () w₂ ∧ body.wpIn (F.inRound l) n P (roundPostP P l R) a₁ w₂) (fun _ _ _ => False))
      { tmps := tmps, defers := [] } w) :
    RoundIn F n P l f tmps assign body w R := by
  refine ⟨hF, fun c cs hr => ?_⟩
  let b : Frame := { (default : Frame) with fn := f, kind := .normal, roundOf := some l }
  have hb0 : Frame.round l f tmps assign body .normal = b.atR { tmps := tmps, defers := [] } [.code assign, .beginRound, .code body] := by
    simp [Frame.round, Frame.atR, b]
  have hr' : (F.inRound l).room ((c :: cs).length + 1 + n) := hr
  have hF' : (F.inRound l).fn b.fn := hF
  obtain ⟨e, a₁, w₁, hq, harr⟩ := h b [.beginRound, .code body] (c :: cs) rfl hF' hr'
  rw [← hb0] at harr
  cases e with
  | normal =>
    obtain ⟨w₂, hbr, hbody⟩ := hq
    have s1 : StepsIn (Machine.fenced P (F.inRound l)) P (lone (b.atR a₁ [.beginRound, .code body]) (c :: cs) w₁) (lone (b.atR a₁ [.code body]) (c :: cs) w₂) :=
      .one (fenced_calm (fr := b.atR a₁ [.beginRound, .code body]) hF' hr' rfl) (stepR_beginRound rfl hbr)
    obtain ⟨e₂, a₂, w₃, hq₂, harr₂⟩ := hbody b [] (c :: cs) rfl hF' hr'
    cases e₂ with
    | normal =>
      obtain ⟨v, w₄, hend, hR⟩ := hq₂
      exact ⟨.returned v, w₄, hR, (StepsIn.trans harr s1).trans (StepsIn.trans harr₂ (.one (fenced_calm (fr := b.atR a₂ []) hF' hr' rfl) (stepR_round_end rfl rfl hend)))⟩
    | panic chain =>
      obtain ⟨hd, hR⟩ := hq₂
      obtain ⟨todo, hs⟩ := harr₂
      have hl : ({ b.atR a₂ todo with mode := .panicking chain } : Frame).leaving P w₃ (.panicked chain) := ⟨rfl, hd, fn, hfn⟩
      exact ⟨.panicked chain, w₃, hR, (StepsIn.trans harr s1).trans (StepsIn.trans hs (.one (fenced_leaving (F := F.inRound l) hF' hr' hl) (step_leave_panicked hl)))⟩
    | ret => exact hq₂.elim
    | exit id => exact hq₂.elim
    | goto t => exact hq₂.elim
    | outgrown => exact hq₂.elim
  | exit id => exact hq.elim
  | goto t => exact hq.elim
  | ret => exact hq.elim
  | panic chain => exact hq.elim
  | outgrown => exact hq.elim
/-- The statement, where the function that is ranged over returns with no jump pending, or passes a panic up. -/
def rangePostP (P : Program) (l : Nat) (Q : Exit → Act → World → Prop) (a' : Act) : Ending → World → Prop
  | .returned _, w₃ => ∃ w₄, (Instr.endLoop l).run P w₃ = .ok none w₄ ∧ Q .normal a' w₄
  | .panicked chain, w₃ => Q (.panic chain) a' w₃
  | .outgrown, _ => False
theorem wpFn_rangeFunc {f0 : FuncId} {g : Operand} {ps : Array Tmp} {assign body : Code} {Q : Exit → Act → World → Prop} {a : Act} {w : World}
    (h : ∃ (l : Nat) (mark : List Deferred) (w₁ : World) (d : Deferred) (w₁' : World) (f : FuncId) (args : Array Value) (w₂ : World),
      (Instr.enterLoop f0 a.tmps ps assign body F.round).run P w = .ok (l, mark) w₁ ∧
      (resolve a.eval (rangeCall g l) 0).run P w₁ = .ok d w₁' ∧
      (∀ f', Target.leads P w₁' d.target d.args = some f' → F.fn f') ∧
      (invoke d.target d.args).run P w₁' = .ok (.enter f args) w₂ ∧
      (F.depth.isSome = true → 1 ≤ n) ∧
      CallsIn F (n - 1) P f args w₂ (rangePostP P l Q { a with defers := mark ++ a.defers })) :
    WpFn f0 F n P (Code.rangeFunc g ps assign body) Q a w := by
  intro b k cs hf hro hb hr
  obtain ⟨l, mark, w₁, d, w₁', f, args, w₂, he, hres, hlead, hinv, hn, hF, hcall⟩ := h
  rw [← hro, ← hf] at he
  have h0 : (lone (b.atR a (.code (.rangeFunc g ps assign body) :: k)) cs w).fenced P F := by
    refine fenced_lone (.inl hb) (fun f' hf' => hlead f' ?_) (Fence.room_le hr (by omega))
    have hev := Frame.eval_atR b a (.code (.rangeFunc g ps assign body) :: k)
    simp only [Frame.atR] at hev
    simp only [Frame.about, Frame.atR, he, hev, hres] at hf'
    exact hf'
  have henter := stepR_rangeFunc (P := P) (b := b) (a := a) (k := k) (cs := cs) (w := w) he hres hinv
  have hroom : F.room ((b.atR { a with defers := mark ++ a.defers } (.inRangeFunc l :: k) :: cs).length + 1 + (n - 1)) := Fence.room_enter hr hn
  obtain ⟨e, w₃, fr, hR, hsteps, hfn, hleave⟩ := hcall (b.atR { a with defers := mark ++ a.defers } (.inRangeFunc l :: k) :: cs) hroom
  cases e with
  | outgrown => exact hR.elim
  | returned v =>
    have hl : (lone fr (b.atR { a with defers := mark ++ a.defers } (.inRangeFunc l :: k) :: cs) w₃).fenced P F := fenced_leaving (hfn ▸ hF) hroom hleave
    obtain ⟨w₄, hend, hj⟩ := hR
    have hend' : (Instr.endLoop l).run P w₃ = .ok (none : Option Code) w₄ := hend
    have sback : StepsIn (Machine.fenced P F) P (lone (b.atR a (.code (.rangeFunc g ps assign body) :: k)) cs w) (lone (b.atR { a with defers := mark ++ a.defers } (((none : Option Code).map Item.code).toList ++ k)) cs w₄) := by
      refine .head h0 henter (StepsIn.trans hsteps (.head hl ?_ (.one (fenced_calm (fr := b.atR { a with defers := mark ++ a.defers } (.endRangeFunc l :: k)) hb hr rfl) (stepR_endRangeFunc hend'))))
      rw [← finish_atR_inRangeFunc l v]; exact step_leave_returned hleave
    exact ⟨.normal, _, w₄, hj, sback⟩
  | panicked chain =>
    have hl : (lone fr (b.atR { a with defers := mark ++ a.defers } (.inRangeFunc l :: k) :: cs) w₃).fenced P F := fenced_leaving (hfn ▸ hF) hroom hleave
    refine ⟨.panic chain, _, w₃, hR, .inRangeFunc l :: k, .head h0 henter (StepsIn.trans hsteps (.one hl ?_))⟩
    rw [← Frame.raise_atR]; exact step_leave_panicked hleave
/-- The iterator's contract, where a round may panic. -/
def SeqPan {α : Type} (F : Fence) (n : Nat) (P : Program) (g : Nat) (lb : Array Value) (encs : α → Array Value) (Kp : World → World → Prop) (S : List α → Prop) (N : Nat) (w : World) : Prop :=
  ∀ (l : Nat) (J : List α → World → Prop) (Jp : List PanicEntry → World → Prop) (W : World), Below w.heap.size w W → AbidesFrom W.heap.size J →
    (∀ pre x W1, J pre W1 → pre.length < N → YieldAt F (n - 1) P l (encs x) W1 fun e W' =>
      (e = .returned (.bool true) ∧ J (pre ++ [x]) W' ∧ Kp W1 W') ∨ (∃ ch, e = .panicked ch ∧ Jp ch W')) →
    J [] W →
    CallsIn F n P g (#[.func (.yield l) #[] #[]] ++ lb) W fun e W' => (∃ v xs, e = .returned v ∧ S xs ∧ J xs W') ∨ (∃ ch, e = .panicked ch ∧ Jp ch W')
/-- How the body of a round may be left. -/
def panPost {α : Type} (Kp : World → World → Prop) (I : List α → World → Prop) (Ip : List PanicEntry → World → Prop) (xs : List α) (W : World) : Exit → Act → World → Prop
  | .normal, _, W' => KeepsOthers W W' ∧ Kp W W' ∧ I xs W'
  | .panic ch, a, W' => a.defers = [] ∧ KeepsOthers W W' ∧ Ip ch W'
  | _, _, _ => False
theorem wpFn_rangeFunc_pan {α : Type} {f0 : FuncId} {fn0 : Func} {g : Operand} {ps : Array Tmp} {assign body : Code} {Q : Exit → Act → World → Prop} {a : Act} {w : World}
    (hf0 : P.funcs[f0]? = some fn0) (hF0 : F.fn f0) (hro : F.round = none) (h1 : 1 ≤ n) {gf : Nat} {lb : Array Value} (hg : a.eval g = .func (.func gf) #[] lb) (hFg : F.fn gf) (eg : ∀ args w, (callFunc gf args).run P w = .ok (.enter gf args) w)
    {encs : α → Array Value} {Kp : World → World → Prop} {S : List α → Prop} {N : Nat} {w0 : World} (hseq : SeqPan F (n - 1) P gf lb encs Kp S N w0)
    (hKt : ∀ {A B C : World}, Kp A B → Kp B C → Kp A C) (hKb : ∀ (W : World) (l : Nat) (o o' : Obj), w.heap.size ≤ l → W.heap[l]? = some o → o.isCells = false → o.isWalk = false → Kp W (W.putObj l o')) (hb0 : Below w0.heap.size w0 w) (hps : ∀ x, (encs x).size = ps.size)
    (I : List α → World → Prop) (Ip : List PanicEntry → World → Prop) (hI : OwnFrom w.heap.size I) (h0 : I [] w) (a₁ : α → Act)
    (hassign : ∀ (l : Nat) (x : α) (W : World) (K : Act → World → Prop), K (a₁ x) W →
      assign.wpIn (F.inRound l) (n - 1 - 1) P (Exit.then K (fun _ _ _ => False)) { tmps := (ps.zip (encs x)).foldl (fun t (p, v) => t.setIfInBounds p v) a.tmps, defers := [] } W)
    (hbody : ∀ (l : Nat) (pre : List α) (x : α) (W : World), I pre W → pre.length < N → body.wpIn (F.inRound l) (n - 1 - 1) P (panPost Kp I Ip (pre ++ [x]) W) (a₁ x) W)
    (hdone : ∀ (D : Nat) (xs : List α) (W : World), w.heap.size ≤ D → S xs → I xs W → W.heap[D]? = some (.deferred (some [])) → Q .normal { a with defers := { target := .collected D, args := #[] } :: a.defers } W)
    (hpan : ∀ (D : Nat) (ch : List PanicEntry) (W : World), w.heap.size ≤ D → Ip ch W → W.heap[D]? = some (.deferred (some [])) → Q (.panic ch) { a with defers := { target := .collected D, args := #[] } :: a.defers } W) :
    WpFn f0 F n P (Code.rangeFunc g ps assign body) Q a w := by
  refine wpFn_rangeFunc ?_
  rw [hro]
  obtain ⟨rec, hrec⟩ : ∃ rec : LoopState → Option Code → Loop, rec = fun st pe => { state := st, pending := pe, fn := f0, tmps := a.tmps, params := ps, assign, body, defers := w.heap.size } := ⟨_, rfl⟩
  obtain ⟨W1, hW1⟩ : ∃ W1, (w.alloc (.deferred (some []))).alloc (.loop (rec .ready none)) = W1 := ⟨_, rfl⟩
  have hL1 : W1.heap[w.heap.size + 1]? = some (.loop (rec .ready none)) := by
    rw [← hW1]; have := World.alloc_heap_new (w.alloc (.deferred (some []))) (.loop (rec .ready none)); rwa [World.size_alloc] at this
  have hK1 : W1.heap[w.heap.size]? = some (.deferred (some [])) := by
    rw [← hW1]; exact (Below.heap_alloc _ _ _ (by simp)).trans (World.alloc_heap_new w _)
  have hI1 : I [] W1 := by rw [← hW1]; exact hI.alloc _ (hI.alloc _ h0)
  have hb1 : Below w0.heap.size w0 W1 := by
    rw [← hW1]; exact hb0.trans ((((Below.refl _ w).alloc (Nat.le_refl _) _).alloc (by simp) _).mono hb0.size)
  refine ⟨w.heap.size + 1, [{ target := .collected w.heap.size, args := #[] }], W1, { target := .fn (.func gf) lb, args := #[.func (.yield (w.heap.size + 1)) #[] #[]] }, W1, gf,
    #[.func (.yield (w.heap.size + 1)) #[] #[]] ++ lb, W1, ?_, ?_, ?_, ?_, fun _ => h1, ?_⟩
  · rw [← hW1, hrec]; exact run_enterLoop_outer _ _ _ _ _
  · simp only [resolve, hg]
    simp [go_sem]
  · intro f' hf'; simp [Target.leads] at hf'; subst hf'; exact hFg
  · simp [invoke, go_sem, eg]
  · have hnw : ∀ {A B : World} {row : Option Nat}, (∀ r, row = some r → W1.heap.size ≤ r ∧ ∃ o : Obj, A.heap[r]? = some o ∧ o.isWalk = true) → (∀ r, row = some r → w.heap.size ≤ r ∧ ∃ o : Obj, A.heap[r]? = some o ∧ o.isCells = false) :=
      fun hr r e => by obtain ⟨hB, o, ho, hw⟩ := hr r e; exact ⟨by rw [← hW1] at hB; simp at hB; omega, o, ho, Obj.not_cells_of_walk hw⟩
    refine (hseq (w.heap.size + 1)
      (fun pre W => I pre W ∧ W.heap[w.heap.size + 1]? = some (.loop (rec .ready none)) ∧ W.heap[w.heap.size]? = some (.deferred (some [])))
      (fun ch W => Ip ch W ∧ W.heap[w.heap.size]? = some (.deferred (some [])))
      W1 hb1
      (fun s A B row hs hg' hr => ⟨hI s A B row hs.1 hg' (hnw (B := B) hr), (grownBy_keeps hg' (fun r e => (hr r e).2) hs.2.1 rfl).trans hs.2.1, (grownBy_keeps hg' (fun r e => (hr r e).2) hs.2.2 rfl).trans hs.2.2⟩)
      ?_ ⟨hI1, hL1, hK1⟩).mono ?_
    · rintro pre x W ⟨hi, hl, hk⟩ hlen
      have hlt : w.heap.size + 1 < W.heap.size := (Array.getElem?_eq_some_iff.1 hl).1
      have hy := run_yield (P := P) (args := encs x) hl (by rw [hrec]; exact hps x)
      rw [hrec] at hy
      refine ⟨f0, _, assign, body, hy, roundIn_of_wpIn_p hF0 hf0 (hassign _ x W _ ⟨_, run_beginRound hl (by rw [hrec]), ?_⟩)⟩
      have hl2 : (W.putObj (w.heap.size + 1) (.loop { rec .ready none with state := .busy })).heap[w.heap.size + 1]? = some (.loop { rec .ready none with state := .busy }) := World.putObj_heap_same hlt
      have hk2 : (W.putObj (w.heap.size + 1) (.loop { rec .ready none with state := .busy })).heap[w.heap.size]? = some (.deferred (some [])) := (World.putObj_heap_other (by omega)).trans hk
      have hw2 : Kp W (W.putObj (w.heap.size + 1) (.loop { rec .ready none with state := .busy })) := hKb _ _ _ _ (by omega) hl rfl rfl
      refine wpIn_mono (hbody _ pre x _ (hI.putObj _ hi (by omega) hl rfl) hlen) ?_
      rintro e a3 W3 hp
      cases e with
      | normal =>
        obtain ⟨hk3, hkp3, hi3⟩ := hp
        have hl3 := hk3.same _ _ hl2 rfl
        have hr := run_endRound (P := P) none hl3
        refine ⟨_, _, hr, .inl ⟨rfl, ⟨hI.putObj _ hi3 (by omega) hl3 rfl, ?_, (World.putObj_heap_other (by omega)).trans (hk3.same _ _ hk2 rfl)⟩, hKt (hKt hw2 hkp3) (hKb _ _ _ _ (by omega) hl3 rfl rfl)⟩⟩
        rw [hrec] at hl3 ⊢
        exact World.putObj_heap_same (Array.getElem?_eq_some_iff.1 hl3).1
      | panic ch =>
        obtain ⟨hd, hk3, hi3⟩ := hp
        exact ⟨hd, .inr ⟨ch, rfl, hi3, hk3.same _ _ hk2 rfl⟩⟩
      | ret => exact hp.elim
      | exit id => exact hp.elim
      | goto t => exact hp.elim
      | outgrown => exact hp.elim
    · rintro e W2 (⟨v, xs, rfl, hS, hi, hl, hk⟩ | ⟨ch, rfl, hi, hk⟩)
      · refine ⟨_, by have := run_endLoop (P := P) hl (by rw [hrec]; simp); rw [hrec] at this; exact this, hdone _ xs _ (Nat.le_refl _) hS (hI.putObj _ hi (by omega) hl rfl) ((World.putObj_heap_other (by omega)).trans hk)⟩
      · exact hpan _ ch _ (Nat.le_refl _) hi hk
end Go.Proofs.YtcpfmlaipejfpaaGreatDoor
namespace Go.Proofs.YtcpfmlaipejfpaaGreatDoor

section
variable {P : Program} {ops : Array Oper} {Q : Exit → Act → World → Prop} {md : Region.Mode} {lp n : Nat}

theorem upon_round {o : Oper} {a : Act} {K : Act → World → Prop} : ∀ r : Result Next, o.upon P a K Q r → o.uponIn (Fence.wide.inRound lp) n P a K Q r
  | .ok (.value _) _, h => h
  | .ok .skip _, h => h
  | .ok (.defer _) _, h => h
  | .ok (.enter _ _) _, h => ⟨fun e => by simp [Fence.wide] at e, CallsIn.inRound lp (callsIn_wide.2 h)⟩
  | .ok (.row _ _) _, h => ⟨fun e => by simp [Fence.wide] at e, fun c cs _ => by
      obtain ⟨v, w', r, s⟩ := h c cs
      exact ⟨v, w', r, stepsIn_wide.2 s⟩⟩
  | .ok (.round _ _ _ _ _) _, h => absurd h (by simp [Oper.upon])
  | .halt x _, h => by cases x <;> first | exact h | exact absurd h (by simp [Oper.upon])
theorem wp_round {o : Oper} {a : Act} {w : World} {K : Act → World → Prop} (hd : ∀ c, o.op ≠ .defer c) (h : o.wp P a w K Q) : o.wpIn (Fence.wide.inRound lp) n P a w K Q :=
  ⟨fun _ _ => trivial, by rw [Oper.semAt_eq _ _ _ hd]; exact upon_round _ h⟩
def noDefer (l : List Oper) : Bool := l.all fun o => match o.op with | .defer _ => false | _ => true
theorem noDefer_at {l : List Oper} (h : noDefer l = true) {i : Nat} {o : Oper} (hi : l.toArray[i]? = some o) : ∀ c, o.op ≠ .defer c := by
  intro c hc
  have hm : o ∈ l := by simpa using Array.mem_of_getElem? hi
  have := List.all_eq_true.1 h o hm
  rw [hc] at this
  exact absurd this (by simp)
theorem wpAny_round {l : List Oper} (hd : noDefer l = true) (hQ : ¬ LetsOut Q) : ∀ (fuel : Nat) (listed : Array Bool) (a : Act) (w : World),
    wpAny P md l.toArray Q fuel listed a w → wpAnyIn (Fence.wide.inRound lp) n P md l.toArray Q fuel listed a w
  | 0, _, _, _, h => h
  | fuel + 1, listed, a, w, h => ⟨h.1, fun i hi => by
      have h2 := h.2 i hi
      unfold wpOp at h2
      unfold wpOpIn
      cases ho : l.toArray[i]? with
      | none => rw [ho] at h2; exact wpAny_round hd hQ fuel _ _ _ h2
      | some o =>
        rw [ho] at h2
        dsimp only at h2 ⊢
        split
        · rename_i hw
          rw [if_pos hw] at h2
          rcases h2 with h2 | ⟨_, h2⟩
          · exact wp_round (noDefer_at hd ho) (Oper.wp_mono (fun a w h => wpAny_round hd hQ fuel _ a w h) h2)
          · exact absurd h2 hQ
        · rename_i hw
          rw [if_neg hw] at h2
          exact ⟨fun _ _ => trivial, wpAny_round hd hQ fuel _ _ _ h2⟩⟩
theorem wpIn_round_any {id : Nat} {l : List Oper} {a : Act} {w : World} (hm : P.follows .mixedOrders = true) (hd : noDefer l = true) (hQ : ¬ LetsOut Q)
    (h : wpAny P .any l.toArray Q l.toArray.size (Array.replicate l.toArray.size false) a { w with drawn := w.drawn + 1 }) : (Code.region id l.toArray true).wpIn (Fence.wide.inRound lp) n P Q a w :=
  wpIn_region_any hm (wpAny_round hd hQ _ _ _ _ h)
/-- Reads and quiet calls first, the rest in its order. -/
theorem wpIn_round_still_tail {id : Nat} {l : List Oper} {a : Act} {w : World} (k : Nat) (hm : P.follows .mixedOrders = true) (hB : Region.lexTailB .any l.toArray k = true) (hd : noDefer l = true) (hQ : ¬ LetsOut Q)
    (h : wpStill P l.toArray w.drew (fun a' => wpList P l.toArray Q (l.drop k) a' w.drew) (l.take k) a) : (Code.region id l.toArray true).wpIn (Fence.wide.inRound lp) n P Q a w := by
  simp only [Region.lexTailB, Bool.and_eq_true, decide_eq_true_eq] at hB
  obtain ⟨⟨⟨⟨hsel, hn⟩, hs⟩, hc⟩, hlex⟩ := hB
  have hn' : k < l.length := by simpa using hn
  have htl : (l.take k).length = k := by simp; omega
  have hdl : (l.drop k).length = l.toArray.size - k := by simp
  have inv0 : HeadInv .any l.toArray k (Array.replicate l.toArray.size false) :=
    ⟨by simp, fun j oj _ hl => (by rw [getD_replicate_false] at hl; cases hl), fun t _ ht => getD_in (by simpa using ht) (getD_replicate_false _ _)⟩
  have H := wpAnyL_lex (md := .any) (g := l.toArray.size - k) hsel hs hc hn (l.take k) 0 _ a (fun j hj => by
    have hj' : j < k := by rw [htl] at hj; exact hj
    simp [hj']) (by simpa using htl) inv0 (by rw [htl]; exact hlex) h
  refine wpIn_round_any hm hd hQ ?_
  have := wpAny_of_head (Q' := Q) (g := l.toArray.size - k) (fun listed a' hL => by
    have := wpAny_of_seq (md := .any) (Q' := Q) (l.drop k) k listed a' w.drew (fun j => by simp [List.getElem?_drop]) (by rw [hdl]; exact hL.1) hL.2
    rwa [hdl] at this) _ _ _ H
  rw [htl, show k + (l.toArray.size - k) = l.toArray.size by omega] at this
  exact this
/-- The region by hand, with what is held. -/
theorem wpIn_round_held_drew {id : Nat} {l : List Oper} {S : World → Prop} {a : Act} {w : World} (hm : P.follows .mixedOrders = true) (hd : noDefer l = true) (hQ : ¬ LetsOut Q) (hS : S w.drew)
    (h : S w.drew → wpAnyH P .any l.toArray Q S l.toArray.size (Array.replicate l.toArray.size false) a w.drew) : (Code.region id l.toArray true).wpIn (Fence.wide.inRound lp) n P Q a w :=
  wpIn_round_any hm hd hQ (wpAny_of_held _ _ _ _ (h hS))
end
end Go.Proofs.YtcpfmlaipejfpaaGreatDoor
namespace Go.Proofs.YtcpfmlaipejfpaaGreatDoor
open Go.RowKit Go.Shelf

attribute [local go_sem] Oper.semAt_some

/-- How ParseUint ends. -/
def HexPost (r : Option Nat) (e : Ending) : Prop :=
  (∃ u : Nat, r = some u ∧ e = .returned (.tuple #[.int .u64 (u : Int), .nilIface])) ∨ (r = none ∧ ∃ a, e = .returned (.tuple #[.int .u64 0, .iface 152 (.pointer (some a))]))
set_option maxHeartbeats 4000000 in
theorem parse16_any (s : List UInt8) (w : World) (hne : s ≠ []) (h2 : s.length ≤ 2) (hE : Env w) :
    Calls Tryz.prog 107 #[.string (str s), .int .i64 16, .int .i64 8] w fun e w' => HexPost (hexN 0 s) e ∧ Below w.heap.size w w' := by
  have hI := Lib.hid (inner16_any s w hne h2)
  obtain ⟨ts, ps, hsyn⟩ := hE.syn
  have hb0 : Hid (Below w.heap.size w (Lib.bytesWorld w 5 (str s))) := Lib.bytesWorld_below _ _ _
  cases hr : hexN 0 s with
  | some u =>
    rw [hr] at hI
    unfold hexR at hI
    dsimp only at hI
    replace hr := Lib.hid hr
    go_enter Tryz.func107, Tryz.ntmps107
    go_wp2_with fail
    refine hI.out.mono ?_
    rintro e w1 ⟨rfl, rfl⟩
    go_wp2_with fail
    go_ret2
    exact ⟨.inl ⟨u, rfl, rfl⟩, hb0.out⟩
  | none =>
    rw [hr] at hI
    unfold hexR hexE at hI
    dsimp only at hI
    have hTE := Lib.hid (AnyPu.strconv_toError_syntax Tryz.laysPu17 ⟨#[80, 97, 114, 115, 101, 85, 105, 110, 116]⟩ (str s) 16 8 (.iface ts ps) (Lib.bytesWorld w 5 (str s)) (by rw [str_size]; omega) ((hb0.out.cell (p := ⟨6, 0, none⟩) (World.block_lt_of_cell? w _ hsyn)).trans hsyn) (.inr ⟨_, _, rfl⟩))
    replace hr := Lib.hid hr
    go_enter Tryz.func107, Tryz.ntmps107
    go_wp2_with fail
    refine hI.out.mono ?_
    rintro e w1 ⟨rfl, rfl⟩
    go_wp2_with fail
    refine hTE.out.mono ?_
    rintro e w2 ⟨N, rfl, h1, h2, h3⟩
    go_wp2_with fail
    go_ret2
    exact ⟨.inr ⟨rfl, _, rfl⟩, hb0.out.trans (h3.mono hb0.out.size)⟩

/-- Two blocks lie as they lay. -/
def KeepB (b1 b2 : Nat) (W W' : World) : Prop := W'.heap[b1]? = W.heap[b1]? ∧ W'.heap[b2]? = W.heap[b2]?
theorem keepB_t {b1 b2 : Nat} {A B C : World} (h : KeepB b1 b2 A B) (k : KeepB b1 b2 B C) : KeepB b1 b2 A C := ⟨k.1.trans h.1, k.2.trans h.2⟩
theorem keepB_b {b1 b2 : Nat} {w : World} (h1 : b1 < w.heap.size) (h2 : b2 < w.heap.size) (W : World) (l : Nat) (o o' : Obj) (hl : w.heap.size ≤ l) (_ : W.heap[l]? = some o) (_ : o.isCells = false) (_ : o.isWalk = false) : KeepB b1 b2 W (W.putObj l o') :=
  ⟨World.putObj_heap_other (by omega), World.putObj_heap_other (by omega)⟩
theorem KeepB.cell1 {b1 b2 o : Nat} {W W' : World} (h : KeepB b1 b2 W W') : W'.cell? ⟨b1, o, none⟩ = W.cell? ⟨b1, o, none⟩ := World.cell?_of_block (a := ⟨b1, o, none⟩) h.1
theorem KeepB.cell2 {b1 b2 o : Nat} {W W' : World} (h : KeepB b1 b2 W W') : W'.cell? ⟨b2, o, none⟩ = W.cell? ⟨b2, o, none⟩ := World.cell?_of_block (a := ⟨b2, o, none⟩) h.2
/-- The first k of the numbers below K. -/
def upk (K k : Nat) : List (Fin K) := (List.finRange K).take k
theorem upk_succ (K k : Nat) (h : k < K) : upk K (k + 1) = upk K k ++ [⟨k, h⟩] := by
  unfold upk
  rw [List.take_succ_eq_append_getElem (by simpa using h)]
  simp
theorem upk_len (K k : Nat) (h : k ≤ K) : (upk K k).length = k := by simp [upk]; omega
theorem upk_all (K : Nat) : upk K K = List.finRange K := by
  unfold upk; exact List.take_of_length_le (by simp)
/-- The length of the x-th piece. -/
def pieceN (L x : Nat) : Nat := min 2 (L - 2 * x)
set_option maxHeartbeats 1000000 in
theorem chunk1_pan (m b cap bs bn L K : Nat) (w : World) (hL : L ≤ 2 * K) (hK : 2 * K ≤ L + 1) (hLm : L ≤ 100000) (hcap : L ≤ cap) (hcap2 : cap ≤ maxLen) (hbs : bs < w.heap.size) (hbn : bn < w.heap.size)
    (hs : w.cell? ⟨bs, 0, none⟩ = some (.slice (some ⟨b, 0, none⟩) L cap)) (hn : w.cell? ⟨bn, 0, none⟩ = some (.int .i64 2)) :
    SeqPan Fence.wide m Tryz.prog 120 #[.pointer (some ⟨bs, 0, none⟩), .pointer (some ⟨bn, 0, none⟩)] (fun x : Fin K => #[.slice (some ⟨b, 2 * x.1, none⟩) (pieceN L x.1) (pieceN L x.1)]) (KeepB bs bn) (fun xs => xs = List.finRange K) K w := by
  intro l J Jp W hW hJa hY h0
  have hsW : W.cell? ⟨bs, 0, none⟩ = some (.slice (some ⟨b, 0, none⟩) L cap) := (hW.cell (p := ⟨bs, 0, none⟩) hbs).trans hs
  have hnW : W.cell? ⟨bn, 0, none⟩ = some (.int .i64 2) := (hW.cell (p := ⟨bn, 0, none⟩) hbn).trans hn
  have hdr : ∀ pre (W1 : World), J pre W1 → J pre W1.drew := fun pre W1 h => hJa pre W1 _ none h ⟨rfl, rfl, rfl, Nat.le_refl _, fun _ _ _ => rfl⟩ (fun r e => by cases e)
  unfold maxLen at hcap2
  clear hW hs hn hbs hbn hJa
  refine callsIn_of_wp Tryz.func120 rfl trivial ?_ rfl
  simp only [Tryz.ntmps120, List.size_toArray, List.length_cons, List.length_nil, Nat.reduceAdd, Nat.reduceSub, Array.replicate_succ, Array.replicate_zero, List.push_toArray, List.append_toArray, List.nil_append, List.cons_append]
  gi_wp2
  gi_loopw [4] (fun i wr => ∃ k : Nat, k ≤ K ∧ i = .int .i64 ((2 * k : Nat) : Int) ∧ wr.cell? ⟨bs, 0, none⟩ = some (.slice (some ⟨b, 0, none⟩) L cap) ∧ wr.cell? ⟨bn, 0, none⟩ = some (.int .i64 2) ∧ J (upk K k) wr) (fun i _ => 2 * K - (intOf i).toNat)
  case atStart => exact ⟨0, Nat.zero_le _, rfl, hsW, hnW, h0⟩
  case round =>
    obtain ⟨k, hk, rfl, hcs, hcn, hJ⟩ := hrel
    clear hsW hnW
    by_cases hlt : k < K
    · have hlt' : 2 * k < L := by omega
      have hd : decide (2 * k < L) = true := by simp; omega
      obtain ⟨fn, tmps, assign, body, hy, hR⟩ := hY (upk K k) ⟨k, by omega⟩ wr.drew (hdr _ _ hJ) (by rw [upk_len _ _ hk]; omega)
      rw [← upk_succ K k (by omega)] at hR
      dsimp only at hy
      have hpn : pieceN L k = 2 ∨ (pieceN L k = 1 ∧ L = 2 * k + 1) := by unfold pieceN; omega
      rcases hpn with hp | ⟨hp, hp2⟩
      · have h2k : 2 * k + 2 ≤ L := by unfold pieceN at hp; omega
        rw [hp] at hy
        have hmin : min (2 : Int) ((L - 2 * k : Nat) : Int) = 2 := by omega
        have htn : (2 * (k : Int) + 2).toNat - 2 * k = 2 := by omega
        gi_wp2
        gi_region
        gi_wp2
        refine ⟨fun h => by simp [Fence.wide] at h, hR.mono ?_⟩
        clear hR hy hdr
        rintro e W3 (⟨rfl, hJ3, hk3⟩ | ⟨ch, rfl, hJx3⟩)
        · have hcs3 : W3.cell? ⟨bs, 0, none⟩ = some (.slice (some ⟨b, 0, none⟩) L cap) := hk3.cell1.trans hcs
          have hcn3 : W3.cell? ⟨bn, 0, none⟩ = some (.int .i64 2) := hk3.cell2.trans hcn
          gi_wp2
          go_roundw
          case rel => exact ⟨k + 1, by omega, by go_num, hcs3, hcn3, hJ3⟩
          case measure => simp [intOf]; omega
        · exact ⟨rfl, .inr ⟨_, rfl, hJx3⟩⟩
      · have hle1 : L ≤ 2 * k + 1 := by omega
        clear hp2
        rw [hp] at hy
        have hmin : min (2 : Int) ((L - 2 * k : Nat) : Int) = 1 := by omega
        have htn : (2 * (k : Int) + 1).toNat - 2 * k = 1 := by omega
        gi_wp2
        gi_region
        gi_wp2
        refine ⟨fun h => by simp [Fence.wide] at h, hR.mono ?_⟩
        clear hR hy hdr
        rintro e W3 (⟨rfl, hJ3, hk3⟩ | ⟨ch, rfl, hJx3⟩)
        · have hcs3 : W3.cell? ⟨bs, 0, none⟩ = some (.slice (some ⟨b, 0, none⟩) L cap) := hk3.cell1.trans hcs
          have hcn3 : W3.cell? ⟨bn, 0, none⟩ = some (.int .i64 2) := hk3.cell2.trans hcn
          gi_wp2
          go_roundw
          case rel => exact ⟨k + 1, by omega, by go_num, hcs3, hcn3, hJ3⟩
          case measure => simp [intOf]; omega
        · exact ⟨rfl, .inr ⟨_, rfl, hJx3⟩⟩
    · have hd : decide (2 * k < L) = false := by simp; omega
      have hlt' : ¬ 2 * k < L := by omega
      obtain rfl : k = K := by omega
      gi_wp2
      go_end0
      exact .inl ⟨_, _, rfl, rfl, by rw [← upk_all]; exact hJ⟩
set_option maxHeartbeats 400000 in
theorem Chunk_any (b n cap : Nat) (w : World) :
    Calls Tryz.prog 106 #[.slice (some ⟨b, 0, none⟩) n cap, .int .i64 2] w fun e w' => e = .returned (.func (.func 120) #[] #[.pointer (some ⟨w.heap.size, 0, none⟩), .pointer (some ⟨w.heap.size + 1, 0, none⟩)]) ∧ Arr w' w.heap.size 44 [.slice (some ⟨b, 0, none⟩) n cap] ∧ Arr w' (w.heap.size + 1) 3 [.int .i64 2] ∧ Below w.heap.size w w' := by
  have hmf : ∀ (fn : Fn) (first cap : Array Value) (w : World), (Instr.makeFunc fn first cap).run Tryz.prog w = .ok (.func fn first cap) w := fun _ _ _ _ => rfl
  go_enter Tryz.func106, Tryz.ntmps106
  go_wp2
  go_ret
  exact ⟨rfl, (Arr.new rfl rfl).alloc _, Arr.new rfl (by simp), (by repeat first | with_reducible exact Below.refl _ _ | with_reducible assumption | with_reducible refine below_drewN ?_ _ | with_reducible refine Below.drew ?_ | with_reducible refine Below.setCell ?_ (by first | exact Nat.le_refl _ | (simp; done) | (simp; omega) | omega) _ | with_reducible refine Below.alloc ?_ (by first | exact Nat.le_refl _ | (simp; done) | (simp; omega) | omega) _ | exact Below.refl _ _ | assumption)⟩
end Go.Proofs.YtcpfmlaipejfpaaGreatDoor
namespace Go.Proofs.YtcpfmlaipejfpaaGreatDoor
open Go.RowKit Go.Shelf

attribute [local go_sem] Oper.semAt_some

def piece (s : List UInt8) (x : Nat) : List UInt8 := (s.drop (2 * x)).take 2
def piecesF (s : List UInt8) : List Nat → Option (List UInt8)
  | [] => some []
  | x :: r => match hexN 0 (piece s x) with
    | none => none
    | some u => match piecesF s r with
      | none => none
      | some l => some (UInt8.ofNat u :: l)
theorem piecesF_snoc (s : List UInt8) : ∀ (xs : List Nat) (x : Nat), piecesF s (xs ++ [x]) = match piecesF s xs with
    | none => none
    | some l => match hexN 0 (piece s x) with
      | none => none
      | some u => some (l ++ [UInt8.ofNat u])
  | [], x => by
    simp only [List.nil_append, piecesF]
  | y :: r, x => by
    have ih := piecesF_snoc s r x
    simp only [List.cons_append, piecesF]
    rw [ih]
    cases hexN 0 (piece s y) with
    | none => rfl
    | some u =>
      cases piecesF s r with
      | none => rfl
      | some l =>
        cases hexN 0 (piece s x) <;> rfl
theorem piece_succ (a b : UInt8) (r : List UInt8) (x : Nat) : piece (a :: b :: r) (x + 1) = piece r x := by
  unfold piece
  rw [show 2 * (x + 1) = 2 * x + 1 + 1 by omega, List.drop_succ_cons, List.drop_succ_cons]
theorem piecesF_shift (a b : UInt8) (r : List UInt8) : ∀ xs : List Nat, piecesF (a :: b :: r) (xs.map Nat.succ) = piecesF r xs
  | [] => rfl
  | x :: xs => by
    simp only [List.map_cons, piecesF]
    rw [show x.succ = x + 1 from rfl, piece_succ, piecesF_shift a b r xs]
theorem unhex_range : ∀ (K : Nat) (s : List UInt8), s.length ≤ 2 * K → 2 * K ≤ s.length + 1 → piecesF s (List.range K) = unhexF s
  | 0, s, h1, _ => by
    obtain rfl : s = [] := List.eq_nil_of_length_eq_zero (by omega)
    rfl
  | K + 1, [], _, h2 => by simp at h2; omega
  | K + 1, [a], h1, h2 => by
    obtain rfl : K = 0 := by simp at h2; omega
    show piecesF [a] [0] = _
    simp only [piecesF, piece, unhexF, hexN, List.drop_zero, Nat.mul_zero]
    show (match (match hexV a with | none => none | some d => some (16 * 0 + d) : Option Nat) with | none => none | some u => some [UInt8.ofNat u]) = _
    cases hexV a with
    | none => rfl
    | some d => simp
  | K + 1, a :: b :: r, h1, h2 => by
    have ih := unhex_range K r (by simp at h1; omega) (by simp at h2; omega)
    rw [List.range_succ_eq_map]
    simp only [piecesF, unhexF]
    rw [piecesF_shift, ih]
    show (match (match hexV a with | none => none | some d => (match hexV b with | none => none | some e => some (16 * (16 * 0 + d) + e)) : Option Nat) with | none => none | some u => (match unhexF r with | none => none | some l => some (UInt8.ofNat u :: l))) = _
    cases hexV a with
    | none => rfl
    | some d =>
      cases hexV b with
      | none => rfl
      | some e =>
        simp only [Nat.mul_zero, Nat.zero_add]
        rfl
theorem piecesF_none (s : List UInt8) : ∀ (xs : List Nat) (x : Nat), x ∈ xs → hexN 0 (piece s x) = none → piecesF s xs = none
  | [], x, h, _ => by cases h
  | y :: r, x, h, hn => by
    simp only [piecesF]
    rcases List.mem_cons.1 h with rfl | h
    · rw [hn]
    · rw [piecesF_none s r x h hn]
      cases hexN 0 (piece s y) <;> rfl
theorem hexN_lt {c : List UInt8} (h : c.length ≤ 2) {u : Nat} (hu : hexN 0 c = some u) : u < 256 := by
  match c, h with
  | [], _ => simp only [hexN] at hu; injection hu with hu; omega
  | [a], _ =>
    simp only [hexN] at hu
    cases ha : hexV a with
    | none => rw [ha] at hu; cases hu
    | some d =>
      rw [ha] at hu
      have := hexV_lt ha
      injection hu with hu
      omega
  | [a, b], _ =>
    simp only [hexN] at hu
    cases ha : hexV a with
    | none => rw [ha] at hu; cases hu
    | some d =>
      rw [ha] at hu
      dsimp only at hu
      cases hb : hexV b with
      | none => rw [hb] at hu; cases hu
      | some e =>
        rw [hb] at hu
        have h1 := hexV_lt ha
        have h2 := hexV_lt hb
        injection hu with hu
        omega
theorem map_finRangeK (K : Nat) : (List.finRange K).map (·.1) = List.range K := by
  apply List.ext_getElem <;> simp
theorem conv_at (w : World) (b o : Nat) (p : List UInt8) (cap : Nat) (h : ∀ j (hj : j < p.length), w.cell? ⟨b, o + j, none⟩ = some (.int .u8 (p[j].toNat : Int))) :
    (convert 44 9 (.slice (some ⟨b, o, none⟩) p.length cap)).run Tryz.prog w = .ok (.string (str p)) w := by
  have := run_convert_bytes_arg (P := Tryz.prog) w 44 5 Tryz.underlying44 Tryz.underlying5 b o p.length cap ((p.map (·.toNat)).map fun n : Nat => (n : Int)) (by simp) (fun j hj => by
    rw [h j hj]
    have e : ((p.map (·.toNat)).map fun n : Nat => (n : Int)).getD j 0 = (p[j].toNat : Int) := by
      rw [List.getD_eq_getElem?_getD, List.getElem?_map, List.getElem?_map, List.getElem?_eq_getElem hj]
      rfl
    rw [e]) 9 Tryz.underlying9
  rw [strOfNums_nums, bytesOf_toNat] at this
  exact this
theorem arr_kept {W W' : World} {row : Option Nat} {B : Nat} {T : TypeId} {L : List Value} (h : Arr W B T L) (hg : W.grownBy W' row) (hr : ∀ r, row = some r → ∃ o : Obj, W.heap[r]? = some o ∧ o.isCells = false) : Arr W' B T L := by
  refine (hg.block B h.lt (fun e => ?_)).trans h
  obtain ⟨o, ho, hc⟩ := hr B e.symm
  rw [h] at ho; injection ho with ho; subst ho; cases hc
theorem wpListIn_append_known {F : Fence} {n : Nat} {P : Program} {ops : Array Oper} {rest : List Oper} {o : Oper} {a : Act} {w : World} {Q : Exit → Act → World → Prop} (hgd : o.guard = none) (d s : Operand) (t t' : TypeId)
    (ho : o.op = .call { callee := .builtin .append, args := #[d, s], argTypes := #[t, t'] }) (v u : Value) (hd : a.eval d = v) (hs : a.eval s = u) {v' : Value} {w' : World}
    (hr : (Builtin.append_ #[t, t'] o.type #[v, u]).run P w = .ok v' w') (h : wpListIn F n P ops Q rest (a.put o.dst v') w') : wpListIn F n P ops Q (o :: rest) a w := by
  refine wpListIn_plain hgd fun K hK => ?_
  unfold Oper.wpIn
  refine ⟨by simp [Oper.about, ho, resolve, Target.leads, Sem.run_pure], ?_⟩
  rw [Oper.semAt_plain F _ _ (by rw [ho]; intro c hc'; cases hc')]
  simp [execOp, ho, resolve, invoke, builtin, hd, hs, hr, Result.andThen]
  exact hK _ _ h
theorem append_byte (ws : World) (base : Nat) (v : Value) (out : List UInt8) (u : Nat) (hu : u < 256) (hown : ws.ownsRow base 5 1 v out.length (Lib.byteCells out)) (hl : out.length ≤ 1000000) (hb : base ≤ ws.heap.size) :
    ∃ v' w', (Builtin.append_ #[44, 44] 44 #[v, .slice (some ⟨ws.heap.size, 0, none⟩) 1 1]).run Tryz.prog (ws.alloc (.cells #[.int .u8 (u : Int)] 5)) = .ok v' w' ∧
      w'.ownsRow base 5 1 v' (out ++ [UInt8.ofNat u]).length (Lib.byteCells (out ++ [UInt8.ofNat u])) ∧ (ws.alloc (.cells #[.int .u8 (u : Int)] 5)).grownBy w' v.ownBlock ∧ (∀ B u, B ≤ base → Below B u ws → Below B u w') := by
  obtain ⟨i0, hi, hz0, hz1, hz2⟩ := info_parts info_byte4
  have hown2 := own_below hown ((Below.refl ws.heap.size ws).alloc (Nat.le_refl _) (.cells #[.int .u8 (u : Int)] 5))
  have hnew : Arr (ws.alloc (.cells #[.int .u8 (u : Int)] 5)) ws.heap.size 5 [.int .u8 (u : Int)] := Arr.new rfl rfl
  obtain ⟨v', w', hrun, r1, r2, r3, r4⟩ := run_append_own_at (P := Tryz.prog) (ws.alloc (.cells #[.int .u8 (u : Int)] 5)) base 44 44 5 i0 (.int .u8 0) 1 1 Tryz.underlying44 hi hz0 hz1 hz2 rfl (by decide) v out.length (Lib.byteCells out) hown2 ⟨ws.heap.size, 0, none⟩ 1 1 [.int .u8 (u : Int)] rfl (fun j x hx => by rw [Addr.add_mid, Nat.zero_add]; exact hnew.cell hx)
    (by intro x hx; simp at hx; subst hx; rfl) (by unfold maxLen; omega) (by omega) (by simp; omega)
  have e : Lib.byteCells out ++ [Value.int .u8 (u : Int)] = Lib.byteCells (out ++ [UInt8.ofNat u]) := by simp [Lib.byteCells, Nat.mod_eq_of_lt hu]
  refine ⟨v', w', hrun, by rw [← e, List.length_append]; exact r1, r2, fun B x hB hx => ?_⟩
  exact (hx.alloc (by omega) _).grown r2 (by simp; omega) (fun j ej => Nat.le_trans hB (hown2.lt j ej).1)
/-- What lies while fromHex's loop runs. -/
structure UnAt (w : World) (s : List UInt8) (bs R : Nat) (cap : Nat) (pre : List Nat) (W : World) : Prop where
  own : ∃ v out, piecesF s pre = some out ∧ Arr W w.heap.size 44 [v] ∧ W.ownsRow R 5 1 v out.length (Lib.byteCells out) ∧ out.length = pre.length
  buf : ∃ o, o.isCells = true ∧ W.heap[w.heap.size + 1]? = some o ∧ (∀ cs, o ≠ .cells cs 5 (0, 0)) ∧ ∀ (W' : World), W'.heap[w.heap.size + 1]? = some o → ∀ j (hj : j < s.length), W'.cell? ⟨w.heap.size + 1, j, none⟩ = some (Value.int .u8 (s[j].toNat : Int))
  b1 : Arr W bs 44 [.slice (some ⟨w.heap.size + 1, 0, none⟩) s.length cap]
  b2 : Arr W (bs + 1) 3 [.int .i64 2]
  below : Below w.heap.size w W
  ord : w.heap.size + 1 < bs ∧ bs + 1 < R ∧ R ≤ W.heap.size
set_option maxRecDepth 100000 in
set_option maxHeartbeats 4000000 in
theorem fromHex_in (s : List UInt8) (w : World) (hs : s.length ≤ 100000) (hE : Env w) :
    CallsIn Fence.wide 3 Tryz.prog 93 #[.string (str s)] w fun e w' => ((∃ t, unhexF s = some t ∧ e = .returned (.string (str t))) ∨ (unhexF s = none ∧ e = errE)) ∧ Below w.heap.size w w' := by
  have hps : (str s).size = s.length := str_size s
  have hcv := fun (W : World) => Lib.run_convert_string_bytes (P := Tryz.prog) W 9 44 5 (str s) Tryz.underlying9 Tryz.underlying44 Tryz.underlying5
  refine callsIn_of_wpFn Tryz.func93 rfl trivial ?_ rfl
  simp only [Tryz.ntmps93, List.size_toArray, List.length_cons, List.length_nil, Nat.reduceAdd, Nat.reduceSub, Array.replicate_succ, Array.replicate_zero, List.push_toArray, List.append_toArray, List.nil_append, List.cons_append]
  refine wpFn_seq (wpFn_of ?_)
  gi_wp2_with (fail)
  refine wpFn_seq (wpFn_of ?_)
  gi_wp2_with (fail)
  refine wpFn_seq (wpFn_seq (wpFn_of ?_))
  gi_wp2_with (fail)
  obtain ⟨W1, hW1⟩ : ∃ W1, W1 = w.alloc (.cells #[.slice none 0 0] 44) := ⟨_, rfl⟩
  have hs1 : W1.heap.size = w.heap.size + 1 := by rw [hW1]; simp
  have hA1 : Arr W1 w.heap.size 44 [.slice none 0 0] := by rw [hW1]; exact Arr.new rfl rfl
  have hB1 : Below w.heap.size w W1 := by rw [hW1]; exact (Below.refl _ _).alloc (Nat.le_refl _) _
  rw [← hW1]
  clear hW1
  have hbuf := buf_of_string W1 5 (str s) (by omega)
  have hrow := Lib.bytesWorld_at_new W1 5 (str s)
  have hbb : Below W1.heap.size W1 (Lib.bytesWorld W1 5 (str s)) := Lib.bytesWorld_below _ _ _
  have hA2 := hA1.below hbb
  have hB2 := hB1.trans (hbb.mono hB1.size)
  have hs2 : w.heap.size + 1 < (Lib.bytesWorld W1 5 (str s)).heap.size := by rw [Lib.bytesWorld_size]; omega
  have hcell := fun j (hj : j < s.length) => Lib.bytesWorld_cell W1 5 (str s) j (by omega)
  obtain ⟨cap', hcap', hc1, hc2⟩ := hbuf.val
  rw [hs1] at hrow hcell
  rw [hps] at hcap'
  injection hcap' with ha hl hcap'
  clear ha hl
  rw [hcap']
  have hc1' : s.length ≤ cap' := by simpa [hps] using hc1
  obtain ⟨R, hR⟩ : ∃ R, R = Obj.cells (Lib.bytesCells W1 5 (str s)) 5 ((Lib.bytesCells W1 5 (str s)).size, (Lib.bytesCells W1 5 (str s)).size + 1) := ⟨_, rfl⟩
  have hRn : ∀ cs, R ≠ .cells cs 5 (0, 0) := by
    intro cs e
    rw [hR] at e
    injection e with _ _ e
    injection e with _ e
    omega
  have hRc : R.isCells = true := by rw [hR]; rfl
  rw [← hR] at hrow
  clear hR
  generalize Lib.bytesWorld W1 5 (str s) = W2 at *
  have hE2 := hE.below hB2
  clear hbuf hbb hB1 hA1 hcap' hc1 hcv hs1
  have hcC : ∀ (W' : World), W'.heap[w.heap.size + 1]? = some R → ∀ j (hj : j < s.length), W'.cell? ⟨w.heap.size + 1, j, none⟩ = some (Value.int .u8 (s[j].toNat : Int)) := fun W' hW' j hj => by
    have h1 := (World.cell?_of_block (w := W2) (w' := W') (a := ⟨w.heap.size + 1, j, none⟩) (hW'.trans hrow.symm)).trans (hcell j hj)
    rw [str_list] at h1
    rw [h1]
    congr 3
    rw [List.getD_eq_getElem?_getD, List.getElem?_eq_getElem hj]
    rfl
  refine ⟨trivial, (callsIn_wide.2 (Chunk_any (w.heap.size + 1) s.length cap' W2)).mono ?_⟩
  rintro e w3 ⟨rfl, mA, mN, hb3⟩
  have hA3 := hA2.below hb3
  have hB3 := hB2.trans (hb3.mono hB2.size)
  have hrow3 := (hb3.block _ hs2).trans hrow
  have hE3 := hE.below hB3
  have hlt2 := mN.lt
  obtain ⟨K, hK1, hK2⟩ : ∃ K, s.length ≤ 2 * K ∧ 2 * K ≤ s.length + 1 := ⟨(s.length + 1) / 2, by omega, by omega⟩
  have h0 : UnAt w s W2.heap.size w3.heap.size cap' [] w3 := ⟨⟨_, [], rfl, hA3, World.ownsRow_nil _ _ _ _, rfl⟩, ⟨R, hRc, hrow3, hRn, hcC⟩, mA, mN, hB3, ⟨hs2, hlt2, Nat.le_refl _⟩⟩
  have hall := unhex_range K s hK1 hK2
  have hseq := chunk1_pan 2 (w.heap.size + 1) cap' W2.heap.size (W2.heap.size + 1) s.length K w3 hK1 hK2 hs hc1' hc2 mA.lt mN.lt (mA.cell rfl) (mN.cell rfl)
  replace hcell := Lib.hid hcell
  replace hcC := Lib.hid hcC
  clear hrow hb3 hA2 hB2
  gi_wp2_with (fail)
  refine wpFn_block ?_
  refine wpFn_rangeFunc_pan (n := 3) (α := Fin K) (fn0 := Tryz.f93) (by kernel_rfl) trivial rfl (by decide) (gf := 120) (lb := #[.pointer (some ⟨W2.heap.size, 0, none⟩), .pointer (some ⟨W2.heap.size + 1, 0, none⟩)]) rfl trivial (enters_of Tryz.func120 (by kernel_rfl) rfl)
    hseq keepB_t (keepB_b mA.lt mN.lt) (Below.refl _ _) (fun _ => rfl)
    (fun (pre : List (Fin K)) W => UnAt w s W2.heap.size w3.heap.size cap' (pre.map (·.1)) W)
    (fun ch W => Ending.panicked ch = errE ∧ unhexF s = none ∧ Below w.heap.size w W)
    ?own h0 ?a1 ?assign ?body ?done ?pan
  case assign =>
    intro l x W K hK
    gi_wp2
    exact hK
  case body =>
    rintro l pre x W hI hlt
    have hxK := x.2
    have hpl : (piece s x.1).length = pieceN s.length x.1 := by unfold piece pieceN; rw [List.length_take, List.length_drop]
    have hp2 : (piece s x.1).length ≤ 2 := by rw [hpl]; unfold pieceN; omega
    have hpne : piece s x.1 ≠ [] := fun e => by rw [e] at hpl; unfold pieceN at hpl; simp at hpl; omega
    obtain ⟨⟨v, out, hout, hA, hown, hol⟩, ⟨o, ho1, ho2, ho3, ho4⟩, hb1, hb2, hB, hord⟩ := hI
    have hconv := conv_at W (w.heap.size + 1) (2 * x.1) (piece s x.1) (pieceN s.length x.1) (fun j hj => by
      rw [hpl] at hj
      have hj2 : 2 * x.1 + j < s.length := by unfold pieceN at hj; omega
      rw [ho4 W ho2 (2 * x.1 + j) hj2]
      congr 4
      simp [piece])
    rw [hpl] at hconv
    have hpu := Lib.hid (parse16_any (piece s x.1) W hpne hp2 (hE.below hB))
    have hsn := piecesF_snoc s (pre.map (·.1)) x.1
    have hnone := fun h => (hall.symm.trans (piecesF_none s (List.range K) x.1 (List.mem_range.2 x.2) h))
    have hlt256 := fun u h => hexN_lt hp2 (u := u) h
    rw [hout] at hsn
    obtain ⟨av, cv, rfl⟩ := own_val hown
    replace hsn := Lib.hid hsn
    replace hnone := Lib.hid hnone
    replace hpl := Lib.hid hpl
    have hol100 : out.length ≤ 100000 := by rw [hol, List.length_map]; omega
    replace hol := Lib.hid hol
    have hBW := Lib.hid hB
    generalize piece s x.1 = pc at *
    generalize pieceN s.length x.1 = pn at *
    clear hE hE2 hE3 h0 hseq
    gi_wp2_with (fail)
    refine ⟨trivial, (callsIn_wide.2 hpu.out).mono ?_⟩
    rintro e W4 ⟨hp, hb4⟩
    rcases hp with ⟨u, hu, rfl⟩ | ⟨hu, ad, rfl⟩
    · have hu256 := hlt256 u hu
      have u0 : (0 : Int) ≤ (u : Int) := by omega
      have u1 : (u : Int) ≤ 255 := by omega
      have hown4 := own_below hown hb4
      have hA4 := hA.below hb4
      obtain ⟨v', w', hrun, r1, r2, r3⟩ := append_byte W4 w3.heap.size _ out u hu256 hown4 (by omega) (Nat.le_trans hord.2.2 hb4.size)
      obtain ⟨av', cv', rfl⟩ := own_val r1
      have hlen1 : (out ++ [UInt8.ofNat u]).length = out.length + 1 := by simp
      rw [hlen1] at r1 hrun
      have hR6 : Below w3.heap.size W4 w' := r3 _ _ (Nat.le_refl _) (Below.refl _ _)
      have hA6 := hA4.belowAt hR6 (by omega)
      have c0 := hA6.cell (j := 0) rfl
      have f0 := hA6.free 0
      have k0 := hA4.cell (j := 0) rfl
      replace hu := Lib.hid hu
      replace hrun := Lib.hid hrun
      gi_wp2_with (fail)
      refine ⟨trivial, (callsIn_wide.2 (must_true W4)).mono ?_⟩
      rintro e W5 ⟨rfl, rfl⟩
      gi_wp2_with (gi_at_builtin; refine wpListIn_append_known rfl _ _ _ _ rfl _ _ rfl rfl hrun.out ?_)
      have hKW : ∀ k o, W.heap[k]? = some o → k ≠ w.heap.size → (Value.slice av out.length cv).ownBlock ≠ some k → (w'.setCell ⟨w.heap.size, 0, none⟩ (.slice av' (out.length + 1) cv')).heap[k]? = some o := fun k o hk hne hown' => by
        have hlt := (Array.getElem?_eq_some_iff.1 hk).1
        have h4 := (hb4.block k hlt).trans hk
        have hlt4 := (Array.getElem?_eq_some_iff.1 h4).1
        have h5 := (Below.heap_alloc W5 (.cells #[.int .u8 (u : Int)] 5) k hlt4).trans h4
        have h6 := (r2.block k (by simp; omega) (fun e => hown' e.symm)).trans h5
        exact (Below.heap_setCell w' ⟨w.heap.size, 0, none⟩ _ k (by simpa using hne)).trans h6
      have hownG : ∀ g, (Value.slice av out.length cv).ownBlock = some g → w3.heap.size ≤ g ∧ ∃ cur, W.heap[g]? = some (.cells cur 5 (0, 0)) := fun g hg => (own_block hown hg).2
      have hr2 := r2.size
      have hb4s := hb4.size
      rw [World.size_alloc] at hr2
      have hno : ∀ k, k < w3.heap.size → (Value.slice av out.length cv).ownBlock ≠ some k := fun k hk hg => by
        have := (hownG k hg).1
        omega
      have hord1 := hord.1
      have hord2 := hord.2.1
      have hord3 := hord.2.2
      have hB7 : Below w.heap.size w (w'.setCell ⟨w.heap.size, 0, none⟩ (.slice av' (out.length + 1) cv')) := (r3 _ _ (by omega) (hBW.out.trans (hb4.mono hBW.out.size))).setCell (p := ⟨w.heap.size, 0, none⟩) (Nat.le_refl _) _
      have hb1' := hKW _ _ hb1 (by omega) (hno _ (by omega))
      have hb2' := hKW _ _ hb2 (by omega) (hno _ (by omega))
      have hsz : W.heap.size ≤ (w'.setCell ⟨w.heap.size, 0, none⟩ (.slice av' (out.length + 1) cv')).heap.size := by simp [World.setCell]; omega
      refine ⟨⟨hsz, fun k o hk hc => hKW k o hk (fun e => ?_) (fun hg => ?_)⟩, ⟨hb1'.trans hb1.symm, hb2'.trans hb2.symm⟩, ⟨⟨_, out ++ [UInt8.ofNat u], ?_, hA6.set 0 _, own_len (own_set_apart r1 hA6 (by decide)) hlen1.symm, ?_⟩, ⟨o, ho1, hKW _ _ ho2 (by omega) (hno _ (by omega)), ho3, ho4⟩, hb1', hb2', hB7, ⟨hord1, hord2, by omega⟩⟩⟩
      · subst e
        have hA' : W.heap[w.heap.size]? = some (.cells _ _ _) := hA
        rw [hk] at hA'
        injection hA' with hA'
        rw [hA'] at hc
        cases hc
      · obtain ⟨cur, hcur⟩ := (hownG k hg).2
        rw [hk] at hcur
        injection hcur with hcur
        rw [hcur] at hc
        cases hc
      · rw [List.map_append]
        show piecesF s (pre.map (·.1) ++ [x.1]) = _
        rw [hsn.out, hu.out]
      · simp [hol.out]
    · gi_wp2_with (fail)
      refine ⟨trivial, (callsIn_wide.2 (must_false W4)).mono ?_⟩
      rintro e W5 ⟨rfl, rfl⟩
      dsimp only [errE, errV]
      refine ⟨rfl, ⟨hb4.size, fun k o hk _ => ?_⟩, rfl, hnone.out hu, hBW.out.trans (hb4.mono hBW.out.size)⟩
      exact (hb4.block k (Array.getElem?_eq_some_iff.1 hk).1).trans hk
  case done =>
    rintro D xs W hD rfl hI hK
    obtain ⟨⟨v, out, hout, hA, hown, hol⟩, _, _, _, hB, hord⟩ := hI
    rw [map_finRangeK, hall] at hout
    have hconv := conv_own hown
    obtain ⟨av, cv, rfl⟩ := own_val hown
    have c0 := hA.cell (j := 0) rfl
    have hDW := (Array.getElem?_eq_some_iff.1 hK).1
    have hDs : w.heap.size ≤ D := by have := hB3.size; omega
    replace hout := Lib.hid hout
    replace hol := Lib.hid hol
    refine wpFn_of ?_
    gi_wp2_with (fail)
    refine ⟨by simp, .inl ⟨_, _, rfl, run_takeDeferred hK, ?_⟩⟩
    exact ⟨.string (str out), by simp [results, Tryz.f93, go_sem], .inl ⟨out, hout.out, rfl⟩, hB.trans (belowK_b (w := w) (Nat.le_refl _) W D _ _ hDs hK rfl rfl)⟩
  case own =>
    rintro pre W W' row ⟨⟨v, out, hout, hA, hown, hol⟩, ⟨o, ho1, ho2, ho3, ho4⟩, hb1, hb2, hB, hord⟩ hg hr
    have hr' : ∀ r, row = some r → ∃ o : Obj, W.heap[r]? = some o ∧ o.isCells = false := fun r e => (hr r e).2
    refine ⟨⟨v, out, hout, arr_kept hA hg hr', hown.kept hg ?_, hol⟩, ⟨o, ho1, (hg.block _ (Array.getElem?_eq_some_iff.1 ho2).1 (fun e => ?_)).trans ho2, ho3, ho4⟩, arr_kept hb1 hg hr', arr_kept hb2 hg hr', hB.grown hg hB.size (fun k e => ?_), ⟨hord.1, hord.2.1, Nat.le_trans hord.2.2 hg.size⟩⟩
    · rcases hown.2 with ⟨rfl, _⟩ | ⟨g, cap, cur, rfl, _, hgg, _⟩
      · exact .inl rfl
      · refine .inr (fun e' => ?_)
        obtain ⟨o, ho, hc⟩ := hr' g e'.symm
        rw [hgg] at ho; injection ho with ho; subst ho; cases hc
    · obtain ⟨o', ho', hc⟩ := hr' _ e.symm
      rw [ho2] at ho'; injection ho' with ho'; subst ho'; rw [ho1] at hc; cases hc
    · have h1 := (hr k e).1
      have h2 := hB3.size
      omega
  case pan =>
    rintro D ch W hD ⟨he, hn, hB⟩ hK
    have hDs : w.heap.size ≤ D := by have := hB3.size; omega
    refine ⟨by simp, .inl ⟨_, _, rfl, run_takeDeferred hK, ?_⟩⟩
    exact ⟨.inr ⟨hn, he⟩, hB.trans (belowK_b (w := w) (Nat.le_refl _) W D _ _ hDs hK rfl rfl)⟩
theorem fromHex_any (s : List UInt8) (w : World) (hs : s.length ≤ 100000) (hE : Env w) :
    Calls Tryz.prog 93 #[.string (str s)] w fun e w' => ((∃ t, unhexF s = some t ∧ e = .returned (.string (str t))) ∨ (unhexF s = none ∧ e = errE)) ∧ Below w.heap.size w w' := callsIn_wide.1 (fromHex_in s w hs hE)
end Go.Proofs.YtcpfmlaipejfpaaGreatDoor
