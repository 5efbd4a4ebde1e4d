/-
  Formats of chapter 4: the reference's Line and Print.
  Formats of chapter 4: the reference's Print.
-/
import Derived.Test.YtcpfmlaipejfpaaGreatDoorKI
import Derived.Test.YtcpfmlaipejfpaaGreatDoorK7
import Derived.Test.YtcpfmlaipejfpaaGreatDoorKB
import Derived.Test.YtcpfmlaipejfpaaGreatDoorKA
namespace Go.Proofs.YtcpfmlaipejfpaaGreatDoor
open Go.RowKit Go.Shelf

attribute [local go_sem] Oper.semAt_some

set_option maxHeartbeats 8000000 in
set_option maxRecDepth 100000 in
theorem lineT_any (f : Fld) (w : World) (hn : 0 ≤ f.n ∧ f.n < 1000000000) (hm : f.frm < 1000000000) (hm2 : f.kind = 4 ∨ f.kind = 5 → 0 ≤ f.frm) (ht : f.text.length ≤ 100000) :
    Calls Tryz.prog 45 #[fldV f] w fun e w' => e = .returned (.string (str (lineF f))) ∧ Below w.heap.size w w' := by
  obtain ⟨W, hW⟩ : ∃ W, W = w.alloc (.cells (fldC f).toArray 55) := ⟨_, rfl⟩
  have hbx : Below w.heap.size w W := by rw [hW]; exact (Below.refl _ _).alloc (Nat.le_refl _) _
  have hA : Arr W w.heap.size 55 (fldC f) := by rw [hW]; exact Arr.new rfl rfl
  obtain ⟨mx, hmx⟩ : ∃ mx, mx = max f.frm 0 := ⟨_, rfl⟩
  have hd1 := Lib.hid fun V => digitsI_any mx V (by omega) (by omega)
  have hdn := Lib.hid fun V => digitsI_any f.n V hn.1 hn.2
  have hhx := Lib.hid fun V => hexR_any f.text V ht
  have hl1 := itoa_len mx ⟨by omega, by omega⟩
  have hln := itoa_len f.n ⟨by omega, by omega⟩
  have hlh := hexL_len f.text
  have hadd1 := add_str fromT (Lib.itoa mx) (by simp only [fromT, List.length_cons, List.length_nil]; omega)
  rw [show str fromT = ⟨#[32, 102, 114, 111, 109, 32]⟩ from rfl] at hadd1
  have hal := add_str (literalT ++ [32]) (hexL f.text) (by simp only [literalT, List.length_append, List.length_cons, List.length_nil]; omega)
  rw [show str (literalT ++ [32]) = ⟨#[108, 105, 116, 101, 114, 97, 108, 32]⟩ from rfl] at hal
  have han := add_str (numberT ++ [32]) (Lib.itoa f.n) (by simp only [numberT, List.length_append, List.length_cons, List.length_nil]; omega)
  rw [show str (numberT ++ [32]) = ⟨#[110, 117, 109, 98, 101, 114, 32]⟩ from rfl] at han
  have hab := add_str (bytesT ++ [32]) (Lib.itoa f.n) (by simp only [bytesT, List.length_append, List.length_cons, List.length_nil]; omega)
  rw [show str (bytesT ++ [32]) = ⟨#[98, 121, 116, 101, 115, 32]⟩ from rfl] at hab
  have hab2 := add_str bytesT (fromT ++ Lib.itoa mx) (by simp only [bytesT, fromT, List.length_append, List.length_cons, List.length_nil]; omega)
  rw [show str bytesT = ⟨#[98, 121, 116, 101, 115]⟩ from rfl] at hab2
  have hat := add_str (listT ++ [32]) (Lib.itoa f.n) (by simp only [listT, List.length_append, List.length_cons, List.length_nil]; omega)
  rw [show str (listT ++ [32]) = ⟨#[108, 105, 115, 116, 32]⟩ from rfl] at hat
  have hat2 := add_str (listT ++ [32] ++ Lib.itoa f.n) (fromT ++ Lib.itoa mx) (by simp only [listT, fromT, List.length_append, List.length_cons, List.length_nil]; omega)
  have hai := add_str (insideT ++ [32]) (Lib.itoa f.n) (by simp only [insideT, List.length_append, List.length_cons, List.length_nil]; omega)
  rw [show str (insideT ++ [32]) = ⟨#[105, 110, 115, 105, 100, 101, 32]⟩ from rfl] at hai
  have hai2 := add_str (insideT ++ [32] ++ Lib.itoa f.n) (fromT ++ Lib.itoa mx) (by simp only [insideT, fromT, List.length_append, List.length_cons, List.length_nil]; omega)
  have hac := add_str (checkT ++ [32]) (Lib.itoa f.n) (by simp only [checkT, List.length_append, List.length_cons, List.length_nil]; omega)
  rw [show str (checkT ++ [32]) = ⟨#[99, 104, 101, 99, 107, 32]⟩ from rfl] at hac
  have hline := Lib.hid (show lineF f = if f.kind = 1 then literalT ++ [32] ++ hexL f.text else if f.kind = 2 then numberT ++ [32] ++ Lib.itoa f.n else if f.kind = 3 then (if 0 ≤ f.frm then bytesT ++ (fromT ++ Lib.itoa mx) else bytesT ++ [32] ++ Lib.itoa f.n) else if f.kind = 4 then listT ++ [32] ++ Lib.itoa f.n ++ (fromT ++ Lib.itoa mx) else if f.kind = 5 then insideT ++ [32] ++ Lib.itoa f.n ++ (fromT ++ Lib.itoa mx) else checkT ++ [32] ++ Lib.itoa f.n from by
    unfold lineF namedL fromL
    by_cases h0 : 0 ≤ f.frm
    · rw [hmx, show max f.frm 0 = f.frm from by omega]
    · have h4 : ¬ f.kind = 4 := fun e => h0 (hm2 (.inl e))
      have h5 : ¬ f.kind = 5 := fun e => h0 (hm2 (.inr e))
      rw [if_neg h4, if_neg h4, if_neg h5, if_neg h5, if_neg h0, if_neg h0])
  obtain ⟨F, hF⟩ : ∃ F, F = fromT ++ Lib.itoa mx := ⟨_, rfl⟩
  rw [← hF] at hadd1 hab2 hat2 hai2 hline
  generalize Lib.itoa mx = im at *
  generalize Lib.itoa f.n = inn at *
  generalize hexL f.text = hx at *
  replace hF := Lib.hid hF
  obtain ⟨L4, hL4⟩ : ∃ L4, L4 = listT ++ [32] ++ inn := ⟨_, rfl⟩
  obtain ⟨L5, hL5⟩ : ∃ L5, L5 = insideT ++ [32] ++ inn := ⟨_, rfl⟩
  rw [← hL4] at hat hat2 hline
  rw [← hL5] at hai hai2 hline
  replace hL4 := Lib.hid hL4
  replace hL5 := Lib.hid hL5
  generalize lineF f = L at *
  obtain ⟨k, n, m, t⟩ := f
  unfold fldV fldC at *
  dsimp only at hm hn hdn hhx hmx hline ⊢
  have hmx2 : max m 0 = mx := hmx.symm
  clear hmx hm2 hl1 hln hlh ht
  go_enter Tryz.func45, Tryz.ntmps45
  go_wp2_with fail
  rw [← hW]
  clear hW
  refine (hd1.out W).mono ?_
  rintro e w1 ⟨rfl, hb1⟩
  have hA1 := hA.below hb1
  have hB1 := Lib.hid (hbx.trans (hb1.mono hbx.size))
  have d0 := hA1.cell (j := 0) rfl
  have d1 := hA1.cell (j := 1) rfl
  have d2 := hA1.cell (j := 2) rfl
  have d3 := hA1.cell (j := 3) rfl
  clear hb1 hA hbx hA1
  have hkc : k = 1 ∨ k = 2 ∨ k = 3 ∨ k = 4 ∨ k = 5 ∨ (k ≠ 1 ∧ k ≠ 2 ∧ k ≠ 3 ∧ k ≠ 4 ∧ k ≠ 5) := by omega
  rcases hkc with hk | hk | hk | hk | hk | hk
  · have q1 : (k == 1) = true := by rw [hk]; rfl
    have hr : Hid (L = literalT ++ [32] ++ hx) := by show _ = _; rw [hline.out, if_pos hk]
    replace hk := Lib.hid hk
    go_wp2_with fail
    refine (hhx.out _).mono ?_
    rintro e w2 ⟨rfl, hb2⟩
    go_wp2_with fail
    go_ret
    exact ⟨by rw [hr.out]; rfl, hB1.out.trans (hb2.mono hB1.out.size)⟩
  · have q1 : (k == 1) = false := by rw [beq_eq_false_iff_ne]; omega
    have q2 : (k == 2) = true := by rw [hk]; rfl
    have hr : Hid (L = numberT ++ [32] ++ inn) := by show _ = _; rw [hline.out, if_neg (by omega), if_pos hk]
    replace hk := Lib.hid hk
    go_wp2_with fail
    refine (hdn.out _).mono ?_
    rintro e w2 ⟨rfl, hb2⟩
    go_wp2_with fail
    go_ret
    exact ⟨by rw [hr.out]; rfl, hB1.out.trans (hb2.mono hB1.out.size)⟩
  · have q1 : (k == 1) = false := by rw [beq_eq_false_iff_ne]; omega
    have q2 : (k == 2) = false := by rw [beq_eq_false_iff_ne]; omega
    have q3 : (k == 3) = true := by rw [hk]; rfl
    by_cases h0 : 0 ≤ m
    · have d0' : decide (m < 0) = false := decide_eq_false (by omega)
      have hr : Hid (L = bytesT ++ F) := by show _ = _; rw [hline.out, if_neg (by omega), if_neg (by omega), if_pos hk, if_pos h0]
      replace hk := Lib.hid hk
      go_wp2_with fail
      go_ret
      exact ⟨by rw [hr.out]; rfl, hB1.out⟩
    · have d0' : decide (m < 0) = true := decide_eq_true (by omega)
      have hr : Hid (L = bytesT ++ [32] ++ inn) := by show _ = _; rw [hline.out, if_neg (by omega), if_neg (by omega), if_pos hk, if_neg h0]
      replace hk := Lib.hid hk
      go_wp2_with fail
      refine (hdn.out _).mono ?_
      rintro e w2 ⟨rfl, hb2⟩
      go_wp2_with fail
      go_ret
      exact ⟨by rw [hr.out]; rfl, hB1.out.trans (hb2.mono hB1.out.size)⟩
  · have q1 : (k == 1) = false := by rw [beq_eq_false_iff_ne]; omega
    have q2 : (k == 2) = false := by rw [beq_eq_false_iff_ne]; omega
    have q3 : (k == 3) = false := by rw [beq_eq_false_iff_ne]; omega
    have q4 : (k == 4) = true := by rw [hk]; rfl
    have hr : Hid (L = L4 ++ F) := by show _ = _; rw [hline.out, if_neg (by omega), if_neg (by omega), if_neg (by omega), if_pos hk]
    replace hk := Lib.hid hk
    go_wp2_with fail
    refine (hdn.out _).mono ?_
    rintro e w2 ⟨rfl, hb2⟩
    go_wp2_with fail
    go_ret
    exact ⟨by rw [hr.out]; rfl, hB1.out.trans (hb2.mono hB1.out.size)⟩
  · have q1 : (k == 1) = false := by rw [beq_eq_false_iff_ne]; omega
    have q2 : (k == 2) = false := by rw [beq_eq_false_iff_ne]; omega
    have q3 : (k == 3) = false := by rw [beq_eq_false_iff_ne]; omega
    have q4 : (k == 4) = false := by rw [beq_eq_false_iff_ne]; omega
    have q5 : (k == 5) = true := by rw [hk]; rfl
    have hr : Hid (L = L5 ++ F) := by show _ = _; rw [hline.out, if_neg (by omega), if_neg (by omega), if_neg (by omega), if_neg (by omega), if_pos hk]
    replace hk := Lib.hid hk
    go_wp2_with fail
    refine (hdn.out _).mono ?_
    rintro e w2 ⟨rfl, hb2⟩
    go_wp2_with fail
    go_ret
    exact ⟨by rw [hr.out]; rfl, hB1.out.trans (hb2.mono hB1.out.size)⟩
  · have q1 : (k == 1) = false := by rw [beq_eq_false_iff_ne]; omega
    have q2 : (k == 2) = false := by rw [beq_eq_false_iff_ne]; omega
    have q3 : (k == 3) = false := by rw [beq_eq_false_iff_ne]; omega
    have q4 : (k == 4) = false := by rw [beq_eq_false_iff_ne]; omega
    have q5 : (k == 5) = false := by rw [beq_eq_false_iff_ne]; omega
    have hr : Hid (L = checkT ++ [32] ++ inn) := by show _ = _; rw [hline.out, if_neg (by omega), if_neg (by omega), if_neg (by omega), if_neg (by omega), if_neg (by omega)]
    replace hk := Lib.hid hk
    go_wp2_with fail
    refine (hdn.out _).mono ?_
    rintro e w2 ⟨rfl, hb2⟩
    go_wp2_with fail
    go_ret
    exact ⟨by rw [hr.out]; rfl, hB1.out.trans (hb2.mono hB1.out.size)⟩
end Go.Proofs.YtcpfmlaipejfpaaGreatDoor
namespace Go.Proofs.YtcpfmlaipejfpaaGreatDoor
open Go.RowKit Go.Shelf

attribute [local go_sem] Oper.semAt_some

theorem fit_line {l : List Fmt} (hv : validT l = true) : ∀ g ∈ l, ∀ f ∈ g.flds, (0 ≤ f.n ∧ f.n < 1000000000) ∧ f.frm < 1000000000 ∧ (f.kind = 4 ∨ f.kind = 5 → 0 ≤ f.frm) := by
  rw [validT_eq] at hv
  have hb : beginsR l = true := by rw [validR, Bool.and_eq_true] at hv; exact hv.1
  intro g hg f hf
  obtain ⟨i, hi, rfl⟩ := List.getElem_of_mem hg
  have hvi : validR (l.take (i + 1)) = true := by
    have key : ∀ d k, k + d = l.length → validR (l.take k) = true := by
      intro d
      induction d with
      | zero => intro k hk; rw [List.take_of_length_le (by omega)]; exact hv
      | succ d ih =>
        intro k hk
        have := ih (k + 1) (by omega)
        rw [List.take_succ_eq_append_getElem (by omega), validR, beginsR_snoc] at this
        simp only [Bool.and_eq_true] at this
        exact this.1.1.2
    exact key (l.length - (i + 1)) (i + 1) (by omega)
  rw [List.take_succ_eq_append_getElem hi, validR, beginsR_snoc] at hvi
  simp only [Bool.and_eq_true] at hvi
  obtain ⟨⟨⟨_, hvp⟩, hn⟩, _⟩ := hvi
  have tk := took (l := l.take i) (by rw [validR, Bool.and_eq_true] at hvp; exact hvp.1)
  have tok : TabOk ⟨l.take i, mOf (l.take i).dropLast⟩ := (takeAll_list (l.take i) _ _ TabOk.empty tk.tab).1
  obtain ⟨_, hadd⟩ := (nextR_iff tk.asc tk.mb).1 hn
  obtain ⟨a1, a2, _⟩ := (addOk_iff tk.mb _).1 hadd
  obtain ⟨k, hk, rfl⟩ := List.getElem_of_mem hf
  have h := a2 k hk
  have hkeys : ∀ x y, mOf (l.take i) x = some y → 1 ≤ x ∧ x ≤ 1000000 := by
    have hfin := tk.fin
    rw [show fullL (l.take i) = true from by rw [validR, Bool.and_eq_true] at hvp; exact hvp.2, if_pos rfl] at hfin
    exact (tok.fin hfin).1.keys
  have hlen : (l[i].flds.take k).length ≤ 16 := by rw [List.length_take]; omega
  rw [getElem!_pos _ k hk] at h
  generalize l[i].flds[k] = f at *
  generalize l[i].flds.take k = p at *
  generalize mOf (l.take i) = m at *
  have hcnt : countedF p f = true → 0 ≤ f.frm ∧ f.frm < 1000000000 := fun hc => by
    obtain ⟨h1, h2, _⟩ := counted_parts hc
    omega
  have halone : aloneF f = true → f.frm = -1 := fun ha => (alone_parts ha).1
  unfold fitsF at h
  by_cases h1 : f.kind = 1
  · rw [if_pos h1] at h
    simp only [Bool.and_eq_true, beq_iff_eq] at h
    omega
  rw [if_neg h1] at h
  by_cases h2 : f.kind = 2
  · rw [if_pos h2, Bool.and_eq_true, withinZ_iff] at h
    have := halone h.1
    omega
  rw [if_neg h2] at h
  by_cases h3 : f.kind = 3
  · rw [if_pos h3] at h
    split at h
    · rename_i ha
      rw [withinZ_iff] at h
      have := halone ha
      omega
    · rw [Bool.and_eq_true, beq_iff_eq] at h
      have := hcnt h.2
      omega
  rw [if_neg h3] at h
  by_cases h4 : f.kind = 4
  · rw [if_pos h4, Bool.and_eq_true] at h
    obtain ⟨x, hx⟩ := Option.isSome_iff_exists.1 h.1
    have := hkeys _ _ hx
    have := hcnt h.2
    omega
  rw [if_neg h4] at h
  by_cases h5 : f.kind = 5
  · rw [if_pos h5] at h
    cases hx : m f.n with
    | none => rw [hx] at h; cases h
    | some x =>
      rw [hx] at h
      dsimp only at h
      rw [Bool.and_eq_true] at h
      have := hkeys _ _ hx
      have := hcnt h.1
      omega
  rw [if_neg h5] at h
  by_cases h6 : f.kind = 6
  · rw [if_pos h6, Bool.and_eq_true, withinZ_iff] at h
    have := halone h.1
    omega
  · rw [if_neg h6] at h; cases h
theorem textF_part {l : List Fmt} {i k : Nat} (hi : i < l.length) : (textF (l.take i)).length + (namedL formatT l[i]!.id).length + 1 + (fieldsT (l[i]!.flds.take k)).length ≤ (textF l).length := by
  have h1 : textF l = textF (l.take i) ++ (fmtT l[i]! ++ textF (l.drop (i + 1))) := by
    conv => lhs; rw [← List.take_append_drop i l, List.drop_eq_getElem_cons hi]
    rw [getElem!_pos l i hi]
    unfold textF
    rw [List.flatMap_append, List.flatMap_cons]
  have h2 : fieldsT l[i]!.flds = fieldsT (l[i]!.flds.take k) ++ fieldsT (l[i]!.flds.drop k) := by
    conv => lhs; rw [← List.take_append_drop k l[i]!.flds]
    unfold fieldsT
    rw [List.flatMap_append]
  rw [h1, fmtT, h2]
  simp only [List.length_append, List.length_cons, List.length_nil]
  omega
set_option maxRecDepth 100000 in
set_option maxHeartbeats 8000000 in
theorem printT_any (v : Value) (l : List Fmt) (w : World) (h : Fmts w v l) :
    Calls Tryz.prog 24 #[v] w fun e w' => e = .returned (.tuple #[.string (str (print4 l).1), .int .i64 (print4 l).2]) ∧ Below w.heap.size w w' := by
  obtain ⟨a, c, rfl, _, _⟩ := h.val
  have hv := Lib.hid (validR_any _ l w h)
  cases hval : validR l with
  | false =>
    rw [hval] at hv
    have hp : print4 l = ([], 40) := by unfold print4; rw [validT_eq, hval]; rfl
    rw [hp]
    go_enter Tryz.func24, Tryz.ntmps24
    go_wp2_with fail
    refine hv.out.mono ?_
    rintro e w1 ⟨rfl, hb1⟩
    go_wp2_with fail
    exact bodyPost_ret (v := .tuple #[.string (str []), .int .i64 40]) (by simp [results, Tryz.f24, go_sem, str]) rfl ⟨rfl, hb1⟩
  | true =>
    rw [hval] at hv
    have hvt : validT l = true := by rw [validT_eq]; exact hval
    have hp : Hid (print4 l = (textF l, 0)) := by show _ = _; unfold print4; rw [hvt]; rfl
    have hfit := valid_fit hvt
    have hln := fit_line hvt
    have htl : (textF l).length ≤ 60600 := by
      have h1 := textF_len l hfit.ids fun g hg => ⟨hfit.flen g hg, fun f hf => line_len (h.in_.ok g hg f hf).n (h.in_.ok g hg f hf).m (hfit.fld g hg f hf).2⟩
      have := hfit.len
      omega
    rw [hp.out]
    have hAt := Lib.hid fun (W : World) (hb : Below w.heap.size w W) i (hi : i < l.length) => (h.later hb).at hi
    have hpart := Lib.hid fun i k (hi : i < l.length) => textF_part (l := l) (i := i) (k := k) hi
    have hids := Lib.hid hfit.ids
    have htx := Lib.hid fun g hg f hf => (hfit.fld g hg f hf).2
    replace hln := Lib.hid hln
    have hll := h.in_.len
    clear hfit hvt hval h
    go_enter Tryz.func24, Tryz.ntmps24
    go_wp2_with fail
    refine hv.out.mono ?_
    rintro e w1 ⟨rfl, hb1⟩
    clear hv
    go_wp2_with fail
    go_loopw [6, 5] (fun iv sv wr => ∃ i : Nat, i ≤ l.length ∧ iv = .int .i64 (i : Int) ∧ sv = .string (str (textF (l.take i))) ∧ Hid (Below w.heap.size w wr)) (fun iv _ _ => l.length - (intOf iv).toNat)
    case atStart => exact ⟨0, Nat.zero_le _, rfl, rfl, hb1⟩
    case round =>
      obtain ⟨i, hi, rfl, rfl, hB⟩ := hrel
      obtain ⟨wo, hwo⟩ : ∃ wo, wo = wr := ⟨_, rfl⟩
      subst hwo
      by_cases hlt : i < l.length
      · have hd : decide ((i : Int) < (l.length : Int)) = true := decide_eq_true (by omega)
        have i0 : (0 : Int) ≤ (i : Int) := by omega
        have i1 : (i : Int) < (l.length : Int) := by omega
        have hwi : IntKind.i64.wrap ((i : Int) + 1) = ((i + 1 : Nat) : Int) := by rw [Int.natCast_succ]; exact IntWalk.i64_in _ (by omega)
        obtain ⟨fb, fo, cap, fa, fcap, e, x0, x1, _, _, _⟩ := hAt.out wo hB.out i hlt
        injection e with e1 _ e3
        subst e1 e3
        have hAti := Lib.hid fun (W : World) (hb : Below w.heap.size w W) => hAt.out W hb i hlt
        have hmem : l[i]! ∈ l := by rw [getElem!_pos l i hlt]; exact List.getElem_mem hlt
        have hid := hids.out _ hmem
        have hlni := Lib.hid (hln.out _ hmem)
        have htxi := Lib.hid (htx.out _ hmem)
        have hpi := Lib.hid fun k => hpart.out i k hlt
        have hsn := Lib.hid (textF_snoc l i hlt)
        obtain ⟨f, hf⟩ : ∃ f, f = l[i]! := ⟨_, rfl⟩
        rw [← hf] at x0 x1 hAti hid hlni htxi hpi hsn
        replace hf := Lib.hid hf
        obtain ⟨id, fs⟩ := f
        dsimp only at x0 x1 hAti hid hlni htxi hpi
        have hdig := Lib.hid (digitsI_any id wo (by omega) (by omega))
        obtain ⟨tx, htx'⟩ : ∃ tx, tx = textF (l.take i) := ⟨_, rfl⟩
        rw [← htx'] at hpi hsn ⊢
        replace htx' := Lib.hid htx'
        have hp0 := hpi.out 0
        rw [namedL] at hp0
        have hadd1 := add_str tx (formatT ++ [32]) (by simp only [List.length_append] at hp0 ⊢; omega)
        rw [show str (formatT ++ [32]) = ⟨#[102, 111, 114, 109, 97, 116, 32]⟩ from rfl] at hadd1
        have hadd2 := add_str (tx ++ (formatT ++ [32])) (Lib.itoa id) (by simp only [List.length_append] at hp0 ⊢; omega)
        have hadd3 := add_str (tx ++ (formatT ++ [32]) ++ Lib.itoa id) [10] (by simp only [List.length_append, List.length_cons, List.length_nil] at hp0 ⊢; omega)
        rw [show str [10] = ⟨#[10]⟩ from rfl] at hadd3
        obtain ⟨hd1, hhd1⟩ : ∃ hd1, hd1 = tx ++ (formatT ++ [32]) ++ Lib.itoa id ++ [10] := ⟨_, rfl⟩
        have hend : Hid (textF (l.take (i + 1)) = hd1 ++ fieldsT fs) := by
          show _ = _
          rw [hsn.out, hhd1, fmtT, namedL]
          simp
        have hlen : Hid (∀ k, hd1.length + (fieldsT (fs.take k)).length ≤ 60600) := fun k => by
          have := hpi.out k
          rw [namedL] at this
          rw [hhd1]
          simp only [List.length_append, List.length_cons, List.length_nil] at this ⊢
          omega
        rw [← hhd1] at hadd3
        replace hhd1 := Lib.hid hhd1
        generalize tx ++ (formatT ++ [32]) = t1 at *
        generalize Lib.itoa id = idt at *
        generalize t1 ++ idt = t2 at *
        clear hp0 hpi hsn hid
        go_wp2_with fail
        refine hdig.out.mono ?_
        rintro e w2 ⟨rfl, hb2⟩
        have hB2 : Hid (Below w.heap.size w w2) := hB.out.trans (hb2.mono hB.out.size)
        clear hdig x0 x1 hb2
        go_wp2_with fail
        go_loopw [7, 5] (fun kv sv wx => ∃ k : Nat, k ≤ fs.length ∧ kv = .int .i64 (k : Int) ∧ sv = .string (str (hd1 ++ fieldsT (fs.take k))) ∧ Hid (Below w.heap.size w wx)) (fun kv _ _ => fs.length - (intOf kv).toNat)
        case atStart => exact ⟨0, Nat.zero_le _, rfl, by rw [List.take_zero]; simp [fieldsT], hB2⟩
        case round =>
          obtain ⟨k, hk, rfl, rfl, hK⟩ := hrel
          obtain ⟨fb2, fo2, cap2, fa2, fcap2, e, _, x1, _, _, hz⟩ := hAti.out wr hK.out
          injection e with e1 _ e3
          injection e1 with e1
          injection e1 with e4 e5
          subst e4 e5 e3
          by_cases hlk : k < fs.length
          · have hdk : decide ((k : Int) < (fs.length : Int)) = true := decide_eq_true (by omega)
            have k0 : (0 : Int) ≤ (k : Int) := by omega
            have k1 : (k : Int) < (fs.length : Int) := by omega
            have hwk : IntKind.i64.wrap ((k : Int) + 1) = ((k + 1 : Nat) : Int) := by rw [Int.natCast_succ]; exact IntWalk.i64_in _ (by omega)
            obtain ⟨gb, go, rfl, z0, z1, z2, z3, _⟩ := hz k hlk
            have hfm : fs[k]! ∈ fs := by rw [getElem!_pos fs k hlk]; exact List.getElem_mem hlk
            obtain ⟨hn1, hm1, hm2⟩ := hlni.out _ hfm
            have ht1 := htxi.out _ hfm
            have hsk := Lib.hid (fieldsT_snoc fs k hlk)
            have hl1 := hlen.out (k + 1)
            have hline := Lib.hid (lineT_any fs[k]! wr hn1 hm1 hm2 (by omega))
            rw [hsk.out] at hl1
            generalize fs[k]! = x at *
            obtain ⟨kd, nn, fr, tt⟩ := x
            dsimp only at z0 z1 z2 z3
            unfold fldV fldC at hline
            dsimp only at hline
            generalize lineF ⟨kd, nn, fr, tt⟩ = ln at *
            obtain ⟨tk, htk⟩ : ∃ tk, tk = hd1 ++ fieldsT (fs.take k) := ⟨_, rfl⟩
            have hnx : Hid (hd1 ++ fieldsT (fs.take (k + 1)) = tk ++ ln ++ [10]) := by show _ = _; rw [hsk.out, htk]; simp
            have hltk : tk.length + ln.length + 1 ≤ 60600 := by
              rw [htk]
              simp only [List.length_append, List.length_cons, List.length_nil] at hl1 ⊢
              omega
            rw [← htk]
            replace htk := Lib.hid htk
            have ha1 := add_str tk ln (by omega)
            have ha2 := add_str (tk ++ ln) [10] (by simp only [List.length_append, List.length_cons, List.length_nil]; omega)
            rw [show str [10] = ⟨#[10]⟩ from rfl] at ha2
            clear hl1 hm2 hn1 hm1 ht1
            go_wp2_with fail
            refine hline.out.mono ?_
            rintro e w3 ⟨rfl, hb3⟩
            have hK3 : Hid (Below w.heap.size w w3) := hK.out.trans (hb3.mono hK.out.size)
            go_wp2_with fail
            exact ⟨⟨k + 1, by omega, by first | rfl | go_num, by rw [hnx.out, List.append_assoc], hK3⟩, by simp [intOf]; omega⟩
          · have hdk : decide ((k : Int) < (fs.length : Int)) = false := decide_eq_false (by omega)
            have hfe : Hid (hd1 ++ fieldsT (fs.take k) = textF (l.take (i + 1))) := by show _ = _; rw [List.take_of_length_le (by omega), hend.out]
            go_wp2_with fail
            exact ⟨⟨i + 1, by omega, by first | rfl | go_num, by rw [hfe.out], hK⟩, by simp [intOf]; omega⟩
      · have hd : decide ((i : Int) < (l.length : Int)) = false := decide_eq_false (by omega)
        have hfe : Hid (textF (l.take i) = textF l) := by show _ = _; rw [List.take_of_length_le (by omega)]
        rw [hfe.out]
        go_wp2_with fail
        exact bodyPost_ret (v := .tuple #[.string (str (textF l)), .int .i64 0]) (by simp [results, Tryz.f24, go_sem]) rfl ⟨rfl, hB.out⟩
end Go.Proofs.YtcpfmlaipejfpaaGreatDoor
