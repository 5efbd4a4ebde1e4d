/-
  The reference's Parse. (Printed by genmj4.py.)
  MachineTextMatchesReference: the walk.
-/
import Derived.Test.YtainohbfcehpoaaDoorMzL
import Derived.Test.YtainohbfcehpoaaDoorMzI
namespace Go.Proofs.YtainohbfcehpoaaDoor
open Go.RowKit Go.Shelf

theorem scan_hit {line rest : List UInt8} {size : Nat} {l : List Ins} (hn : ∀ x ∈ line, x ≠ 10) : scan (cutAll 10 (line ++ 10 :: rest)) size l = match readT line with
    | none => .inl (l.length + 1)
    | some x => if 1024 < size + simLen x.1 then .inl (l.length + 1) else scan (cutAll 10 rest) (size + simLen x.1) (l ++ [⟨size, x.1, x.2⟩]) := by
  rw [cutAll_hit _ _ _ hn]
  cases hc : cutAll 10 rest with
  | nil => exact absurd hc (cutAll_ne _ _)
  | cons q r => rw [scan]; cases readT line <;> rfl
/-- What lies while the reference reads a text. -/
structure RPI (w wr : World) (s line : List UInt8) (k size : Nat) (l : List Ins) (v : Value) : Prop where
  below : Below w.heap.size w wr
  own : wr.ownsRow w.heap.size 43 3 v l.length (rinL l)
  eq : scan (cutAll 10 s) 0 [] = scan (cutAll 10 (line ++ s.drop k)) size l
  no : ∀ x ∈ line, x ≠ 10
  ll : line.length ≤ k
  al : l.length ≤ size
  sz : size ≤ 1024
theorem RPI.miss {w wr : World} {s line : List UInt8} {k size : Nat} {l : List Ins} {v : Value} (h : RPI w wr s line k size l v) (hk : k < s.length) (hc : s[k]! ≠ 10) : RPI w wr s (line ++ [s[k]!]) (k + 1) size l v := by
  refine ⟨h.below, h.own, ?_, fun x hx => ?_, by rw [List.length_append, List.length_singleton]; have := h.ll; omega, h.al, h.sz⟩
  · rw [h.eq, drop_cons s k hk]; simp
  · rcases List.mem_append.1 hx with hx | hx
    · exact h.no x hx
    · rw [List.mem_singleton.1 hx]; exact hc
theorem RPI.hit {w wr : World} {s line : List UInt8} {k size : Nat} {l : List Ins} {v : Value} (h : RPI w wr s line k size l v) (hk : k < s.length) (hc : s[k]! = 10) :
    (readT line = none → scan (cutAll 10 s) 0 [] = .inl (l.length + 1)) ∧ (∀ o n, readT line = some (o, n) → (1024 < size + simLen o → scan (cutAll 10 s) 0 [] = .inl (l.length + 1)) ∧
      (¬ 1024 < size + simLen o → ∀ wr' v', Below w.heap.size w wr' → wr'.ownsRow w.heap.size 43 3 v' (l ++ [(⟨size, o, n⟩ : Ins)]).length (rinL (l ++ [(⟨size, o, n⟩ : Ins)])) → RPI w wr' s [] (k + 1) (size + simLen o) (l ++ [(⟨size, o, n⟩ : Ins)]) v')) := by
  have he := h.eq
  rw [drop_cons s k hk, hc, scan_hit h.no] at he
  refine ⟨fun hr => by rw [he, hr], fun o n hr => ⟨fun hb => ?_, fun hb wr' v' h1 h2 => ⟨h1, h2, ?_, by simp, Nat.zero_le _, ?_, by omega⟩⟩⟩
  · rw [he, hr]; dsimp only; rw [if_pos hb]
  · rw [he, hr]; dsimp only; rw [if_neg hb, List.nil_append]
  · rw [List.length_append, List.length_singleton]
    have := h.al
    have : 1 ≤ simLen o := by unfold simLen; split <;> omega
    omega
theorem RPI.done {w wr : World} {s line : List UInt8} {size : Nat} {l : List Ins} {v : Value} (h : RPI w wr s line s.length size l v) : scan (cutAll 10 s) 0 [] = if line = [] then .inr l else .inl (l.length + 1) := by
  rw [h.eq, List.drop_length, List.append_nil, cutAll_miss _ _ h.no, scan]
/-- What lies while the reference writes a program. -/
structure ParR (w : World) (l : List Ins) (g k : Nat) (v : Value) (wl W : World) : Prop where
  row : W.ownsRow w.heap.size 5 1 v (codeK l k).length (u8C (codeK l k))
  blk : W.heap[g]? = wl.heap[g]?
  bel : Below w.heap.size w W
  ok : ∀ i, i < k → leadOp l[i]!.op = true → l[i]!.opd < l.length
/-- Bytes are appended to a row of the call's own. -/
theorem bytes_on {w W : World} {out : List UInt8} {v : Value} {g m : Nat} {cur : Array Value} (vs : List UInt8) (hm : m = out.length) (hown : W.ownsRow w.heap.size 5 1 v m (u8C out)) (hB : Below w.heap.size w W) (hg : W.heap[g]? = some (.cells cur 43 (0, 0))) (hl : out.length ≤ 100000) (hv : vs.length ≤ 10) (n : Nat) (hn : n = vs.length) :
    ∃ v' w' m', (Builtin.append_ #[46, 46] 46 #[v, .slice (some ⟨W.heap.size, 0, none⟩) n n]).run Tryd.prog (W.alloc (.cells (u8C vs).toArray 5)) = .ok v' w' ∧ m' = (out ++ vs).length ∧ (∃ a c, v' = .slice a m' c) ∧ w'.ownsRow w.heap.size 5 1 v' m' (u8C (out ++ vs)) ∧ w'.heap[g]? = W.heap[g]? ∧ Below w.heap.size w w' := by
  subst hn
  have hal : Below W.heap.size W (W.alloc (.cells (u8C vs).toArray 5)) := (Below.refl _ _).alloc (Nat.le_refl _) _
  have hgl := (Array.getElem?_eq_some_iff.1 hg).1
  obtain ⟨v', w', m', hrun, hm', h1, h2⟩ := append_bytes (W.alloc (.cells (u8C vs).toArray 5)) w.heap.size v out vs _ hm (own_below hown hal) W.heap.size _ rfl (Arr.new rfl rfl) (by omega) hv (by have := hB.size; simp; omega)
  refine ⟨v', w', m', hrun, hm', own_val h1, h1, ?_, grown_below (hB.alloc hB.size _) (own_below hown hal) h2 (Nat.le_refl _) (by have := hB.size; simp; omega)⟩
  have hg2 := (hal.block g hgl).trans hg
  exact (grown_row (own_below hown hal) h2 hg2 (by decide)).trans ((hg2.trans hg.symm))
set_option maxRecDepth 100000 in
set_option maxHeartbeats 24000000 in
theorem parseR_any (s : List UInt8) (w : World) (hs : s.length ≤ 1000000) (hE : EnvN w) :
    Calls Tryd.prog 22 #[.string (str s)] w fun e w' => e = .returned (parV (parse8 s)) ∧ Below w.heap.size w w' := by
  have hps := str_size s
  have hPG : ∀ j (h : j < (str s).size), (((str s)[j].toNat : Nat) : Int) = (s[j]!.toNat : Nat) := fun j h => by
    rw [getElem!_pos s j (by rw [str_size] at h; exact h)]
    show (((str s).data[j]'_ : UInt8).toNat : Int) = _
    simp [str]
  have hex : ∀ k, k < s.length → (str s).extract k (k + 1) = str [s[k]!] := fun k hk => by
    rw [extract_mid, drop_cons s k hk, show k + 1 - k = 1 by omega]; rfl
  have hp8 := parse8_eq s
  have hinr := fun l h1 h2 => scan_inr (cutAll 10 s) 0 [] l h1 h2
  generalize hR : scan (cutAll 10 s) 0 [] = R at *
  generalize parse8 s = p8 at *
  generalize str s = P at *
  replace hPG := Lib.hid hPG
  replace hex := Lib.hid hex
  replace hR := Lib.hid hR
  replace hinr := Lib.hid hinr
  replace hp8 := Lib.hid hp8
  go_enter Tryd.func22, Tryd.ntmps22
  go_wp2_with fail
  go_loopw [5, 6, 7, 8] (fun lv nv zv iv wr => ∃ (v : Value) (line : List UInt8) (k size : Nat) (l : List Ins), v = lv ∧ nv = .string (str line) ∧ zv = .int .i64 (size : Int) ∧ iv = .int .i64 (k : Int) ∧ k ≤ s.length ∧ Hid (RPI w wr s line k size l v)) (fun _ _ _ iv _ => s.length - (intOf iv).toNat)
  case atStart => exact ⟨_, [], 0, 0, [], rfl, rfl, rfl, rfl, Nat.zero_le _, (show Hid _ from ⟨Below.refl _ _, World.ownsRow_nil _ _ _ _, by rw [List.drop_zero]; rfl, by simp, Nat.le_refl _, Nat.le_refl _, by omega⟩)⟩
  case round =>
    obtain ⟨v, line, k, size, l, rfl, rfl, rfl, rfl, hk, hI⟩ := hrel
    have hB := hI.out.below
    have hll := hI.out.ll
    have hal := hI.out.al
    have hsz := hI.out.sz
    by_cases hlt : k < s.length
    · have hd : decide ((k : Int) < (s.length : Int)) = true := by simpa using hlt
      have hj0 : k < P.size := by omega
      have hg := hPG.out k hj0
      have i1 : (0 : Int) ≤ (k : Int) := by omega
      have i2 : (k : Int) < (s.length : Int) := by omega
      have hwk : IntKind.i64.wrap ((k : Int) + 1) = (k : Int) + 1 := IntWalk.i64_in _ (by omega)
      by_cases hc : s[k]! = 10
      · rw [hc] at hg
        have hq : ((((P[k]'hj0).toNat : Nat) : Int) != 10) = false := by rw [hg]; rfl
        obtain ⟨hnone, hsome⟩ := hI.out.hit hlt hc
        rw [hR.out] at hnone
        have hsome2 := fun o n h => (show (1024 < size + simLen o → R = .inl (l.length + 1)) ∧ _ from by have := hsome o n h; rw [hR.out] at this; exact this)
        have hown := hI.out.own
        have hRd := readR_any line wr (by omega) (hE.below hB)
        replace hRd := Lib.hid hRd
        replace hc := Lib.hid hc
        replace hnone := Lib.hid hnone
        replace hsome2 := Lib.hid hsome2
        obtain ⟨va, vc, rfl⟩ := own_val hown
        replace hown := Lib.hid hown
        clear hI hsome hg
        go_wp2_with fail
        refine hRd.out.mono ?_
        rintro e W2 ⟨o, n, ok, rfl, ho12, hn5, hy, hn, hb2⟩
        unfold rdV
        have hrow2 := own_below hown.out hb2
        have hB2 := hB.trans (hb2.mono hB.size)
        obtain ⟨W3, hW3⟩ : ∃ W3, W3 = W2.alloc (.cells #[.int .i64 (size : Int), .int .i64 (o : Int), .int .i64 (n : Int)] 43) := ⟨_, rfl⟩
        have hb3 : Below W2.heap.size W2 W3 := by rw [hW3]; exact (Below.refl _ _).alloc (Nat.le_refl _) _
        have hA3 : Arr W3 W2.heap.size 43 [.int .i64 (size : Int), .int .i64 (o : Int), .int .i64 (n : Int)] := by rw [hW3]; exact Arr.new rfl rfl
        have hB3 := hB2.trans (hb3.mono hB2.size)
        have hrow3 := own_below hrow2 hb3
        have hH := Lib.hid (hasOperand_any o W3 ho12)
        have hws : IntKind.i64.wrap ((size : Int) + 1) = (size : Int) + 1 := IntWalk.i64_in _ (by omega)
        have hws2 : IntKind.i64.wrap ((size : Int) + 1 + 2) = (size : Int) + 1 + 2 := IntWalk.i64_in _ (by omega)
        replace hrow2 := Lib.hid hrow2
        replace hrow3 := Lib.hid hrow3
        replace hy := Lib.hid hy
        replace hn := Lib.hid hn
        clear hRd hown
        go_wp2_with fail
        rw [← hW3]
        clear hW3
        refine hH.out.mono ?_
        rintro e W4 ⟨rfl, q, rfl⟩
        have hA4 : Arr (W3.drewN q) W2.heap.size 43 [.int .i64 (size : Int), .int .i64 (o : Int), .int .i64 (n : Int)] := hA3
        have hB4 := below_drewQ hB3 q
        have hrow4 := own_below hrow3.out (below_drewQ (Below.refl _ _) q)
        generalize W3.drewN q = W4 at *
        have q0 := hA4.cell (j := 0) rfl
        have q1 := hA4.cell (j := 1) rfl
        have q2 := hA4.cell (j := 2) rfl
        have hal4 : Below W4.heap.size W4 (W4.alloc (.cells #[.int .i64 (size : Int), .int .i64 (o : Int), .int .i64 (n : Int)] 43)) := (Below.refl _ _).alloc (Nat.le_refl _) _
        obtain ⟨v', W6, hrun, hown6, hgrow⟩ := append_rin (W4.alloc (.cells #[.int .i64 (size : Int), .int .i64 (o : Int), .int .i64 (n : Int)] 43)) w.heap.size _ l ⟨size, o, n⟩ (own_below hrow4 hal4) W4.heap.size (Arr.new rfl rfl) (by omega) (by have := hB4.size; simp; omega)
        have hB6 : Below w.heap.size w W6 := grown_below (hB4.alloc hB4.size _) (own_below hrow4 hal4) hgrow (Nat.le_refl _) (by have := hB4.size; simp; omega)
        obtain ⟨vN, cN, hvN⟩ := own_val hown6
        rw [List.length_append, List.length_singleton] at hvN
        subst hvN
        replace hrun := Lib.hid hrun
        replace hown6 := Lib.hid hown6
        clear hgrow hal4 hA3 hA4 hrow2 hrow3 hrow4
        cases hlg : longOp o with
        | false =>
          have hsl : simLen o = 1 := by unfold simLen; rw [hlg]; rfl
          replace hlg := Lib.hid hlg
          cases ok with
          | false =>
            have hRe := hnone.out (hn.out rfl)
            have hfin : Hid (parV p8 = .tuple #[.string (str []), .int .i64 ((l.length : Int) + 1), .int .i64 80]) := by show _ = _; rw [hp8.out, hRe]; rfl
            clear hRe
            go_wp2_with (at_builtin; go_loud (refine wpList_append_known rfl _ _ _ _ rfl _ _ rfl rfl hrun.out ?_))
            exact bodyPost_ret (v := .tuple #[.string (str []), .int .i64 ((l.length : Int) + 1), .int .i64 80]) (by simp [results, Tryd.f22, go_sem, str]) rfl ⟨by rw [hfin.out], hB6⟩
          | true =>
            obtain ⟨hs1, hs2⟩ := hsome2.out o n (hy.out rfl)
            rw [hsl] at hs1 hs2
            by_cases hbig : 1024 < size + 1
            · have hdb : decide (1024 < (size : Int) + 1) = true := by simp; omega
              have hdc : 1024 < (size : Int) + 1 := by omega
              have hRe := hs1 hbig
              have hfin : Hid (parV p8 = .tuple #[.string (str []), .int .i64 ((l.length : Int) + 1), .int .i64 80]) := by show _ = _; rw [hp8.out, hRe]; rfl
              clear hRe hs2
              go_wp2_with (at_builtin; go_loud (refine wpList_append_known rfl _ _ _ _ rfl _ _ rfl rfl hrun.out ?_))
              exact bodyPost_ret (v := .tuple #[.string (str []), .int .i64 ((l.length : Int) + 1), .int .i64 80]) (by simp [results, Tryd.f22, go_sem, str]) rfl ⟨by rw [hfin.out], hB6⟩
            · have hdb : decide (1024 < (size : Int) + 1) = false := by simp; omega
              have hdc : ¬ 1024 < (size : Int) + 1 := by omega
              have hIn := hs2 hbig W6 _ hB6 hown6.out
              replace hIn := Lib.hid hIn
              clear hs1 hs2
              go_wp2_with (at_builtin; go_loud (refine wpList_append_known rfl _ _ _ _ rfl _ _ rfl rfl hrun.out ?_))
              exact ⟨⟨_, [], k + 1, size + 1, _, rfl, rfl, by first | rfl | go_num, by first | rfl | go_num, by omega, hIn⟩, by simp [intOf]; omega⟩
        | true =>
          have hsl : simLen o = 3 := by unfold simLen; rw [hlg]; rfl
          replace hlg := Lib.hid hlg
          cases ok with
          | false =>
            have hRe := hnone.out (hn.out rfl)
            have hfin : Hid (parV p8 = .tuple #[.string (str []), .int .i64 ((l.length : Int) + 1), .int .i64 80]) := by show _ = _; rw [hp8.out, hRe]; rfl
            clear hRe
            go_wp2_with (at_builtin; go_loud (refine wpList_append_known rfl _ _ _ _ rfl _ _ rfl rfl hrun.out ?_))
            exact bodyPost_ret (v := .tuple #[.string (str []), .int .i64 ((l.length : Int) + 1), .int .i64 80]) (by simp [results, Tryd.f22, go_sem, str]) rfl ⟨by rw [hfin.out], hB6⟩
          | true =>
            obtain ⟨hs1, hs2⟩ := hsome2.out o n (hy.out rfl)
            rw [hsl] at hs1 hs2
            by_cases hbig : 1024 < size + 3
            · have hdb : decide (1024 < (size : Int) + 1 + 2) = true := by simp; omega
              have hdc : 1024 < (size : Int) + 1 + 2 := by omega
              have hRe := hs1 hbig
              have hfin : Hid (parV p8 = .tuple #[.string (str []), .int .i64 ((l.length : Int) + 1), .int .i64 80]) := by show _ = _; rw [hp8.out, hRe]; rfl
              clear hRe hs2
              go_wp2_with (at_builtin; go_loud (refine wpList_append_known rfl _ _ _ _ rfl _ _ rfl rfl hrun.out ?_))
              exact bodyPost_ret (v := .tuple #[.string (str []), .int .i64 ((l.length : Int) + 1), .int .i64 80]) (by simp [results, Tryd.f22, go_sem, str]) rfl ⟨by rw [hfin.out], hB6⟩
            · have hdb : decide (1024 < (size : Int) + 1 + 2) = false := by simp; omega
              have hdc : ¬ 1024 < (size : Int) + 1 + 2 := by omega
              have hIn := hs2 hbig W6 _ hB6 hown6.out
              replace hIn := Lib.hid hIn
              clear hs1 hs2
              go_wp2_with (at_builtin; go_loud (refine wpList_append_known rfl _ _ _ _ rfl _ _ rfl rfl hrun.out ?_))
              exact ⟨⟨_, [], k + 1, size + 3, _, rfl, rfl, by first | rfl | go_num, by first | rfl | go_num, by omega, hIn⟩, by simp [intOf]; omega⟩
      · have hIn := hI.out.miss hlt hc
        have hc2 : s[k]!.toNat ≠ 10 := fun h => hc (UInt8.toNat_inj.1 h)
        have hexk := hex.out k hlt
        have hadd := add_str line [s[k]!] (by simp; omega)
        obtain ⟨va, vc, rfl⟩ := own_val hI.out.own
        generalize s[k]! = x at *
        have hq : ((((P[k]'hj0).toNat : Nat) : Int) != 10) = true := by rw [hg, bne_iff_ne]; omega
        have hq2 : (((x.toNat : Nat) : Int) != 10) = true := by rw [bne_iff_ne]; omega
        have k1 : (0 : Int) ≤ (k : Int) + 1 := by omega
        have k2 : (k : Int) + 1 ≤ (s.length : Int) := by omega
        have k3 : (k : Int) ≤ (k : Int) + 1 := by omega
        have k4 : ((k : Int) + 1).toNat = k + 1 := by omega
        replace hIn := Lib.hid hIn
        replace hc := Lib.hid hc
        replace hc2 := Lib.hid hc2
        clear hI
        go_wp2_with fail
        exact ⟨⟨_, _, k + 1, size, l, rfl, rfl, rfl, by first | rfl | go_num, by omega, hIn⟩, by simp [intOf]; omega⟩
    · have hd : decide ((k : Int) < (s.length : Int)) = false := by simpa using hlt
      obtain rfl : k = s.length := by omega
      have hdone := hI.out.done
      rw [hR.out] at hdone
      obtain ⟨va, vc, rfl⟩ := own_val hI.out.own
      by_cases hline : line = []
      · have he1 : (str line).toList.isEmpty = true := by rw [hline, ByteArray.toList_eq]; rfl
        rw [if_pos hline] at hdone
        replace hline := Lib.hid hline
        by_cases hln : l = []
        · have hfin : Hid (parV p8 = .tuple #[.string (str []), .int .i64 1, .int .i64 80]) := by
            show _ = _
            rw [hp8.out, hdone]
            unfold fin8
            dsimp only
            rw [if_pos hln]; rfl
          have hl0 : l.length = 0 := by rw [hln]; rfl
          rw [hl0]
          replace hln := Lib.hid hln
          replace hl0 := Lib.hid hl0
          clear hdone hI
          go_wp2_with fail
          exact bodyPost_ret (v := .tuple #[.string (str []), .int .i64 1, .int .i64 80]) (by simp [results, Tryd.f22, go_sem, str]) rfl ⟨by rw [hfin.out], hB⟩
        · have hl0 : 0 < l.length := List.length_pos_iff.2 hln
          obtain ⟨ys, hys, _, hL, hNt, hsz2⟩ := hinr.out l (cutAll_ne _ _) hdone
          rw [List.nil_append] at hys
          subst hys
          have hszL : sizeL l ≤ 1024 := by
            rcases hsz2 with h | h
            · exact absurd h hln
            · omega
          have hoffs : ∀ i, i < l.length → l[i]!.off < 1024 := fun i hi => by
            exact laid_off hL hi (m := 1024) (by omega)
          have hp9 : p8 = match badLead l with
            | some i => ([], i + 1, 80)
            | none => (codeB l, 0, 0) := by
            rw [hp8.out, hdone]
            unfold fin8
            dsimp only
            rw [if_neg hln]
            cases badLead l <;> rfl
          obtain ⟨g, cap, hv, hgB, hcap, hcm, hgl, hcells⟩ := own_cells3 hI.out.own hl0
          injection hv with hv1 hv2 hv3
          subst hv1 hv3
          have hRR : RefRow wr g 0 l := fun i hi => by
            have q0 := hcells (i * 3 + 0) _ (by rw [rinL_at l i 0 hi (by omega)]; rfl)
            have q1 := hcells (i * 3 + 1) _ (by rw [rinL_at l i 1 hi (by omega)]; rfl)
            have q2 := hcells (i * 3 + 2) _ (by rw [rinL_at l i 2 hi (by omega)]; rfl)
            simp only [Nat.zero_add]
            exact ⟨q0, q1, q2⟩
          obtain ⟨cur, hgc⟩ : ∃ cur, wr.heap[g]? = some (.cells cur 43 (0, 0)) := by
            rcases hI.out.own.2 with ⟨hh, _⟩ | ⟨g', cap', cur, hv, _, hg', _⟩
            · cases hh
            · injection hv with hv _ _
              injection hv with hv
              injection hv with hv
              subst hv
              exact ⟨cur, hg'⟩
          have hq0 : ((l.length : Int) == 0) = false := by rw [beq_eq_false_iff_ne]; omega
          obtain ⟨wl, hwl⟩ : ∃ wl, wl = wr := ⟨_, rfl⟩
          subst hwl
          replace hp9 := Lib.hid hp9
          replace hln := Lib.hid hln
          replace hoffs := Lib.hid hoffs
          replace hNt := Lib.hid hNt
          clear hdone hI hcells hL hsz2 hszL
          go_wp2_with fail
          go_loopw [11, 12] (fun ov iv wr => ∃ (v : Value) (k : Nat), v = ov ∧ k ≤ l.length ∧ iv = .int .i64 (k : Int) ∧ Hid (ParR w l g k v wl wr)) (fun _ i _ => l.length - (intOf i).toNat)
          case atStart => exact ⟨_, 0, rfl, Nat.zero_le _, rfl, (show Hid _ from ⟨World.ownsRow_nil _ _ _ _, rfl, hB, fun i hi => absurd hi (Nat.not_lt_zero _)⟩)⟩
          case round =>
            obtain ⟨v, k, rfl, hk2, rfl, hall2⟩ := hrel
            obtain ⟨hrow, hblk, hBw, hok⟩ := hall2.out
            have hRw := hRR.keep hblk
            have hgw := hblk.trans hgc
            have hcl := codeK_len l k hk2
            obtain ⟨va, vc, rfl⟩ := own_val hrow
            clear hall2
            by_cases hlt2 : k < l.length
            · have hd2 : decide ((k : Int) < (l.length : Int)) = true := by simpa using hlt2
              have i1 : (k : Int) < (l.length : Int) := by omega
              have i0 : (0 : Int) ≤ (k : Int) := by omega
              obtain ⟨_, m1, m2⟩ := hRw k hlt2
              simp only [Nat.zero_add] at m1 m2
              have hz' := hNt.out l[k]! (by rw [getElem!_pos l k hlt2]; exact List.getElem_mem hlt2)
              have hsucc := codeK_succ hlt2
              have hbs := fun h1 h2 => badLead_some hlt2 hok (hl := h1) (hb := h2)
              have hok2 : (leadOp l[k]!.op = true → l[k]!.opd < l.length) → ∀ i, i < k + 1 → leadOp l[i]!.op = true → l[i]!.opd < l.length := fun h i hi => by
                by_cases e : i = k
                · subst e; exact h
                · exact hok i (by omega)
              replace hok2 := Lib.hid hok2
              have hLd := Lib.hid (leads_any l[k]!.op wr hz'.lt)
              obtain ⟨z, hz⟩ : ∃ z, z = l[k]! := ⟨_, rfl⟩
              rw [← hz] at m1 m2 hz' hsucc hbs hLd
              have hzl := hz'.lt
              have hzo := hz'.opd
              have hlng : leadOp z.op = true → longOp z.op = true := longOp_lead
              have hwk : IntKind.i64.wrap ((k : Int) + 1) = ((k + 1 : Nat) : Int) := by rw [Int.natCast_succ]; exact IntWalk.i64_in _ (by omega)
              have hz0 := Lib.hid hz
              replace hz := Lib.hid hz
              replace hbs := Lib.hid hbs
              replace hlng := Lib.hid hlng
              replace hsucc := Lib.hid hsucc
              obtain ⟨b0, hb0⟩ : ∃ b0, b0 = UInt8.ofNat z.op := ⟨_, rfl⟩
              have hbn : ((b0.toNat : Nat) : Int) = (z.op : Int) := by rw [hb0, UInt8.toNat_ofNat']; omega
              have hw0 : IntKind.u8.wrap (z.op : Int) = (b0.toNat : Int) := by rw [hbn]; exact IntWalk.u8_in _ (by omega)
              replace hb0 := Lib.hid hb0
              replace hbn := Lib.hid hbn
              clear hok
              go_wp2_with fail
              refine hLd.out.mono ?_
              rintro e W1 ⟨rfl, q, rfl⟩
              have hrow1 := own_below hrow (below_drewQ (Below.refl wr.heap.size wr) q)
              have hB1 := below_drewQ hBw q
              have hg1 : (wr.drewN q).heap[g]? = some (.cells cur 43 (0, 0)) := hgw
              have hR1 : RefRow (wr.drewN q) g 0 l := hRw
              generalize wr.drewN q = W1 at *
              clear hrow hBw hRw hblk m1 m2 hgw hLd
              obtain ⟨_, m1, m2⟩ := hR1 k hlt2
              simp only [Nat.zero_add] at m1 m2
              rw [← hz.out] at m1 m2
              cases hld : leadOp z.op with
              | true =>
                have hlg := hlng.out hld
                by_cases hbad : l.length ≤ z.opd
                · have hdb : decide ((z.opd : Int) ≥ (l.length : Int)) = true := by simp; omega
                  have hdb2 : (l.length : Int) ≤ (z.opd : Int) := by omega
                  have hdb3 : decide ((l.length : Int) ≤ (z.opd : Int)) = true := by simp; omega
                  have hpar : Hid (parV p8 = .tuple #[.string (str []), .int .i64 ((k : Int) + 1), .int .i64 80]) := by
                    show _ = _
                    rw [hp9.out, hbs.out hld hbad]
                    rfl
                  have hwk2 : IntKind.i64.wrap ((k : Int) + 1) = (k : Int) + 1 := IntWalk.i64_in _ (by omega)
                  replace hld := Lib.hid hld
                  replace hlg := Lib.hid hlg
                  clear hwk
                  go_wp2_with fail
                  exact bodyPost_ret (v := .tuple #[.string (str []), .int .i64 ((k : Int) + 1), .int .i64 80]) (by simp [results, Tryd.f22, go_sem, str]) rfl ⟨by rw [hpar.out], hB1⟩
                · have hdb : decide ((z.opd : Int) ≥ (l.length : Int)) = false := by simp; omega
                  have hdb2 : ¬ (l.length : Int) ≤ (z.opd : Int) := by omega
                  have hdb3 : decide ((l.length : Int) ≤ (z.opd : Int)) = false := by simp; omega
                  have hoi : z.opd < l.length := by omega
                  have j2 : (z.opd : Int) < (l.length : Int) := by omega
                  have j3 : (0 : Int) ≤ (z.opd : Int) := by omega
                  have n0 := (hR1 z.opd hoi).1
                  rw [Nat.zero_add] at n0
                  obtain ⟨nn, hnn⟩ : ∃ nn, nn = l[z.opd]!.off := ⟨_, rfl⟩
                  have hnb : nn < 65536 := by rw [hnn]; have := hoffs.out _ hoi; omega
                  rw [← hnn] at n0
                  have hsuc := hsucc.out
                  rw [hld, if_pos rfl, ← hnn] at hsuc
                  replace hnn := Lib.hid hnn
                  have hkz : (leadOp l[k]!.op = true → l[k]!.opd < l.length) := fun _ => by rw [← hz.out]; exact hoi
                  have hokk := Lib.hid (hok2.out hkz)
                  replace hkz := Lib.hid hkz
                  obtain ⟨b1, hb1⟩ : ∃ b1, b1 = UInt8.ofNat (nn / 256) := ⟨_, rfl⟩
                  obtain ⟨b2, hb2⟩ : ∃ b2, b2 = UInt8.ofNat (nn % 256) := ⟨_, rfl⟩
                  have hbn1 : ((b1.toNat : Nat) : Int) = (nn : Int) / 256 := by rw [hb1, UInt8.toNat_ofNat']; omega
                  have hbn2 : ((b2.toNat : Nat) : Int) = (nn : Int) % 256 := by rw [hb2, UInt8.toNat_ofNat']; omega
                  have hwa : IntKind.u8.wrap ((nn : Int) / 256) = (b1.toNat : Int) := by rw [hbn1]; exact IntWalk.u8_in _ (by omega)
                  have hwb : IntKind.u8.wrap ((nn : Int) % 256) = (b2.toNat : Int) := by rw [hbn2]; exact IntWalk.u8_in _ (by omega)
                  have hsim : codeK l (k + 1) = codeK l k ++ [b0] ++ [b1, b2] := by rw [hsuc, simB, hlg, hb0.out, hb1, hb2, List.append_assoc]; rfl
                  replace hb1 := Lib.hid hb1
                  replace hb2 := Lib.hid hb2
                  replace hbn1 := Lib.hid hbn1
                  replace hbn2 := Lib.hid hbn2
                  have hbo1 := bytes_on [b0] rfl hrow1 hB1 hg1 (by omega) (by simp) 1 rfl
                  obtain ⟨v2, W2, m3, hrun1, hm3, ⟨va2, vc2, rfl⟩, hrow2, hg2', hB2⟩ := hbo1
                  have hg2 := hg2'.trans hg1
                  have hH2 := Lib.hid (hasOperand_any z.op W2 hzl)
                  have hR2 : RefRow W2 g 0 l := hRR.keep (hg2.trans hgc.symm)
                  obtain ⟨_, o1, o2⟩ := hR2 k hlt2
                  simp only [Nat.zero_add] at o1 o2
                  rw [← hz.out] at o1 o2
                  rw [hlg] at hH2
                  have hlen1 : (codeK l k ++ [b0]).length ≤ 5000 := by rw [List.length_append, List.length_singleton]; omega
                  replace hrun1 := Lib.hid hrun1
                  replace hlen1 := Lib.hid hlen1
                  replace hm3 := Lib.hid hm3
                  replace hsim := Lib.hid hsim
                  replace hlg := Lib.hid hlg
                  replace hld := Lib.hid hld
                  clear hsuc hrow1 hg2'
                  go_wp2_with (at_builtin; go_loud (refine wpList_append_known rfl _ _ _ _ rfl _ _ rfl rfl hrun1.out ?_))
                  refine hH2.out.mono ?_
                  rintro e W3 ⟨rfl, q, rfl⟩
                  have hrow3 := own_below hrow2 (below_drewQ (Below.refl W2.heap.size W2) q)
                  have hB3 := below_drewQ hB2 q
                  have hg3 : (W2.drewN q).heap[g]? = some (.cells cur 43 (0, 0)) := hg2
                  generalize W2.drewN q = W3 at *
                  have hbo2 := bytes_on [b1, b2] hm3.out hrow3 hB3 hg3 (by have := hlen1.out; omega) (by simp) 2 rfl
                  obtain ⟨v4, W4, m5, hrun2, hm5, ⟨va4, vc4, rfl⟩, hrow4, hg4', hB4⟩ := hbo2
                  replace hm5 := Lib.hid hm5
                  have hg4 := hg4'.trans hg3
                  have hfin : ParR w l g (k + 1) (.slice va4 m5 vc4) wl W4 := ⟨by rw [hsim.out, ← hm5.out]; exact hrow4, hg4.trans hgc.symm, hB4, hokk.out⟩
                  replace hfin := Lib.hid hfin
                  replace hrun2 := Lib.hid hrun2
                  clear hrow3 hrow2 hrow4 hg4'
                  go_wp2_with (at_builtin; go_loud (refine wpList_append_known rfl _ _ _ _ rfl _ _ rfl rfl hrun2.out ?_))
                  exact ⟨⟨_, k + 1, rfl, by omega, by first | rfl | go_num, hfin⟩, by simp [intOf]; omega⟩
              | false =>
                have hokk := Lib.hid (hok2.out (fun h => by rw [← hz.out, hld] at h; cases h))
                have hsuc := hsucc.out
                rw [hld, if_neg (by decide)] at hsuc
                cases hlg : longOp z.op with
                | false =>
                  have hsim : codeK l (k + 1) = codeK l k ++ [b0] := by rw [hsuc, simB, hlg, hb0.out]; rfl
                  have hbo1 := bytes_on [b0] rfl hrow1 hB1 hg1 (by omega) (by simp) 1 rfl
                  obtain ⟨v2, W2, m3, hrun1, hm3, ⟨va2, vc2, rfl⟩, hrow2, hg2', hB2⟩ := hbo1
                  have hg2 := hg2'.trans hg1
                  have hH2 := Lib.hid (hasOperand_any z.op W2 hzl)
                  have hR2 : RefRow W2 g 0 l := hRR.keep (hg2.trans hgc.symm)
                  obtain ⟨_, o1, o2⟩ := hR2 k hlt2
                  simp only [Nat.zero_add] at o1 o2
                  rw [← hz.out] at o1 o2
                  rw [hlg] at hH2
                  have hlen1 : (codeK l k ++ [b0]).length ≤ 5000 := by rw [List.length_append, List.length_singleton]; omega
                  replace hrun1 := Lib.hid hrun1
                  replace hlen1 := Lib.hid hlen1
                  replace hm3 := Lib.hid hm3
                  replace hsim := Lib.hid hsim
                  replace hlg := Lib.hid hlg
                  replace hld := Lib.hid hld
                  clear hsuc hrow1 hg2'
                  go_wp2_with (at_builtin; go_loud (refine wpList_append_known rfl _ _ _ _ rfl _ _ rfl rfl hrun1.out ?_))
                  refine hH2.out.mono ?_
                  rintro e W3 ⟨rfl, q, rfl⟩
                  have hrow3 := own_below hrow2 (below_drewQ (Below.refl W2.heap.size W2) q)
                  have hB3 := below_drewQ hB2 q
                  have hfin : ParR w l g (k + 1) (.slice va2 m3 vc2) wl (W2.drewN q) := ⟨by rw [hsim.out, ← hm3.out]; exact hrow3, hg2.trans hgc.symm, hB3, hokk.out⟩
                  replace hfin := Lib.hid hfin
                  generalize W2.drewN q = W3 at *
                  clear hrow3 hrow2
                  go_wp2_with fail
                  exact ⟨⟨_, k + 1, rfl, by omega, by first | rfl | go_num, hfin⟩, by simp [intOf]; omega⟩
                | true =>
                  obtain ⟨b1, hb1⟩ : ∃ b1, b1 = UInt8.ofNat (z.opd / 256) := ⟨_, rfl⟩
                  obtain ⟨b2, hb2⟩ : ∃ b2, b2 = UInt8.ofNat (z.opd % 256) := ⟨_, rfl⟩
                  have hbn1 : ((b1.toNat : Nat) : Int) = (z.opd : Int) / 256 := by rw [hb1, UInt8.toNat_ofNat']; omega
                  have hbn2 : ((b2.toNat : Nat) : Int) = (z.opd : Int) % 256 := by rw [hb2, UInt8.toNat_ofNat']; omega
                  have hwa : IntKind.u8.wrap ((z.opd : Int) / 256) = (b1.toNat : Int) := by rw [hbn1]; exact IntWalk.u8_in _ (by omega)
                  have hwb : IntKind.u8.wrap ((z.opd : Int) % 256) = (b2.toNat : Int) := by rw [hbn2]; exact IntWalk.u8_in _ (by omega)
                  have hsim : codeK l (k + 1) = codeK l k ++ [b0] ++ [b1, b2] := by rw [hsuc, simB, hlg, hb0.out, hb1, hb2, List.append_assoc]; rfl
                  replace hb1 := Lib.hid hb1
                  replace hb2 := Lib.hid hb2
                  replace hbn1 := Lib.hid hbn1
                  replace hbn2 := Lib.hid hbn2
                  have hbo1 := bytes_on [b0] rfl hrow1 hB1 hg1 (by omega) (by simp) 1 rfl
                  obtain ⟨v2, W2, m3, hrun1, hm3, ⟨va2, vc2, rfl⟩, hrow2, hg2', hB2⟩ := hbo1
                  have hg2 := hg2'.trans hg1
                  have hH2 := Lib.hid (hasOperand_any z.op W2 hzl)
                  have hR2 : RefRow W2 g 0 l := hRR.keep (hg2.trans hgc.symm)
                  obtain ⟨_, o1, o2⟩ := hR2 k hlt2
                  simp only [Nat.zero_add] at o1 o2
                  rw [← hz.out] at o1 o2
                  rw [hlg] at hH2
                  have hlen1 : (codeK l k ++ [b0]).length ≤ 5000 := by rw [List.length_append, List.length_singleton]; omega
                  replace hrun1 := Lib.hid hrun1
                  replace hlen1 := Lib.hid hlen1
                  replace hm3 := Lib.hid hm3
                  replace hsim := Lib.hid hsim
                  replace hlg := Lib.hid hlg
                  replace hld := Lib.hid hld
                  clear hsuc hrow1 hg2'
                  go_wp2_with (at_builtin; go_loud (refine wpList_append_known rfl _ _ _ _ rfl _ _ rfl rfl hrun1.out ?_))
                  refine hH2.out.mono ?_
                  rintro e W3 ⟨rfl, q, rfl⟩
                  have hrow3 := own_below hrow2 (below_drewQ (Below.refl W2.heap.size W2) q)
                  have hB3 := below_drewQ hB2 q
                  have hg3 : (W2.drewN q).heap[g]? = some (.cells cur 43 (0, 0)) := hg2
                  generalize W2.drewN q = W3 at *
                  have hbo2 := bytes_on [b1, b2] hm3.out hrow3 hB3 hg3 (by have := hlen1.out; omega) (by simp) 2 rfl
                  obtain ⟨v4, W4, m5, hrun2, hm5, ⟨va4, vc4, rfl⟩, hrow4, hg4', hB4⟩ := hbo2
                  replace hm5 := Lib.hid hm5
                  have hg4 := hg4'.trans hg3
                  have hfin : ParR w l g (k + 1) (.slice va4 m5 vc4) wl W4 := ⟨by rw [hsim.out, ← hm5.out]; exact hrow4, hg4.trans hgc.symm, hB4, hokk.out⟩
                  replace hfin := Lib.hid hfin
                  replace hrun2 := Lib.hid hrun2
                  clear hrow3 hrow2 hrow4 hg4'
                  go_wp2_with (at_builtin; go_loud (refine wpList_append_known rfl _ _ _ _ rfl _ _ rfl rfl hrun2.out ?_))
                  exact ⟨⟨_, k + 1, rfl, by omega, by first | rfl | go_num, hfin⟩, by simp [intOf]; omega⟩
            · have hd2 : decide ((k : Int) < (l.length : Int)) = false := by simpa using hlt2
              obtain rfl : k = l.length := by omega
              rw [codeK_all] at hrow hcl
              rw [codeK_all]
              have hcv := conv_u8 hrow
              have hpar : Hid (parV p8 = .tuple #[.string (str (codeB l)), .int .i64 0, .int .i64 0]) := by
                show _ = _
                rw [hp9.out, badLead_none hok]
                rfl
              clear hok
              go_wp2_with fail
              exact bodyPost_ret (v := .tuple #[.string (str (codeB l)), .int .i64 0, .int .i64 0]) (by simp [results, Tryd.f22, go_sem, str]) rfl ⟨by rw [hpar.out], hBw⟩
      · have he1 : (str line).toList.isEmpty = false := by rw [ByteArray.toList_eq, str_list]; simpa using hline
        rw [if_neg hline] at hdone
        have hfin : Hid (parV p8 = .tuple #[.string (str []), .int .i64 ((l.length : Int) + 1), .int .i64 80]) := by
          show _ = _
          rw [hp8.out, hdone]; rfl
        have hwl : IntKind.i64.wrap ((l.length : Int) + 1) = (l.length : Int) + 1 := IntWalk.i64_in _ (by omega)
        replace hline := Lib.hid hline
        clear hdone hI
        go_wp2_with fail
        exact bodyPost_ret (v := .tuple #[.string (str []), .int .i64 ((l.length : Int) + 1), .int .i64 80]) (by simp [results, Tryd.f22, go_sem, str]) rfl ⟨by rw [hfin.out], hB⟩
end Go.Proofs.YtainohbfcehpoaaDoor
namespace Go.Proofs.YtainohbfcehpoaaDoor
open Go.RowKit Go.Shelf

set_option maxRecDepth 100000 in
set_option maxHeartbeats 8000000 in
theorem TextMatches_walk (raw : List UInt8) (v : Value) (n : Nat) (zs : List Int) (at_ : Int) (c : Nat) (size : Int) (w : World) (hr : raw.length ≤ 9223372036854775807) (hs : SliceAt w w.heap.size v n (zs.map (Value.int .i64))) (hz : zs.length = n * 2) (hI : ∀ z ∈ zs, I64 z) (ha : I64 at_) (_ : c < 256) (hsz : I64 size) (hE : EnvN w) :
    Calls Tryd.prog 4 #[.string (str raw), v, .int .i64 at_, .int .u8 (c : Int), .int .i64 size] w fun e w' => e = .returned (.bool true) ∧ Below w.heap.size w w' := by
  have hsn := Lib.hid (sane_any w hE.envr.env)
  have hmd := fun W (hb : Below w.heap.size w W) => Lib.hid (Made_any v n zs W (hs.later hb) hz hI (hE.envr.below hb))
  obtain ⟨⟨ml, hmf, hmg⟩, hml⟩ := made_facts zs
  generalize madeB 0 0 (prs40 zs) = made at *
  have hPr := fun W (hb : Below w.heap.size w W) => printR_any made W (by omega) (hE.below hb)
  have hp8 : print8 made = (textT ml, 0) := by unfold print8; rw [hmf]
  rw [hp8] at hPr
  dsimp only at hPr
  have hPr2 := fun W hb => Lib.hid (hPr W hb)
  obtain ⟨htl, _⟩ := text_len hmf
  generalize textT ml = text at *
  have hcl := changedB_len text at_ c
  have hch := fun W => Lib.hid (changed_any text at_ c W (by omega) ha)
  have hclm := changedB_len made at_ c
  have hchm := fun W => Lib.hid (changed_any made at_ c W (by omega) ha)
  have hpk : ∀ W, Hid (Calls Tryd.prog 16 #[.int .i64 size, .int .i64 ((text.length : Int) + 1)] W fun e w' => e = .returned (.int .i64 (pickv size (text.length + 1) : Nat)) ∧ Below W.heap.size W w') := fun W => by
    have h := pick_any size (text.length + 1) W hsz (by omega) (by omega)
    rw [Int.natCast_succ] at h
    exact h.mono fun e w' h => ⟨h.1, by rw [h.2]; exact Below.refl _ _⟩
  have hpl := pickv_lt size (text.length + 1) (by omega)
  have hexp := extract_take text (pickv size (text.length + 1))
  have hpt := str_size text
  have hex := extract_take raw
  have hps := str_size raw
  have hmn : (min (raw.length : Int) 60).toNat = min raw.length 60 := by omega
  have hm1 : (0 : Int) ≤ min (raw.length : Int) 60 := by omega
  have hm2 : min (raw.length : Int) 60 ≤ (raw.length : Int) := by omega
  have hexm := hex (min raw.length 60)
  have hrl : (raw.take (min raw.length 60)).length ≤ 60 := by rw [List.length_take]; omega
  have hql : (text.take (pickv size (text.length + 1))).length ≤ 20480 := by rw [List.length_take]; omega
  generalize raw.take (min raw.length 60) = r2 at *
  generalize text.take (pickv size (text.length + 1)) = t2 at *
  generalize pickv size (text.length + 1) = pk at *
  generalize changedB text at_ c = chg at *
  generalize changedB made at_ c = chm at *
  have hwl2 : IntKind.i64.wrap ((text.length : Int) + 1) = (text.length : Int) + 1 := IntWalk.i64_in _ (by omega)
  have k1 : (0 : Int) ≤ (pk : Int) := by omega
  have k2 : (pk : Int) ≤ (text.length : Int) := by omega
  clear hex hp8 hPr
  go_enter Tryd.func4, Tryd.ntmps4
  go_wp2_with fail
  refine hsn.out.mono ?_
  rintro e w1 ⟨rfl, hb1⟩
  go_wp2_with fail
  refine (hmd w1 hb1).out.mono ?_
  rintro e w2 ⟨rfl, hb2⟩
  have hB2 := hb1.trans (hb2.mono hb1.size)
  clear hsn hmd hb1 hb2
  go_wp2_with fail
  refine (hchm _).out.mono ?_
  rintro e vA ⟨rfl, hbvA⟩
  have hBA : Below w.heap.size w vA := hB2.trans (hbvA.mono hB2.size)
  go_wp2_with fail
  obtain ⟨g, hg⟩ : ∃ g, g = vA.heap.size := ⟨_, rfl⟩
  obtain ⟨W, hW⟩ : ∃ W, W = vA.alloc (Obj.cells #[Value.string (str r2), Value.string (str made), Value.string (str chm)] 9) := ⟨_, rfl⟩
  have hA : Arr W g 9 [.string (str r2), .string (str made), .string (str chm)] := by rw [hW, hg]; exact Arr.new rfl rfl
  have hBW : Below w.heap.size w W := by rw [hW]; exact hBA.alloc hBA.size _
  rw [← hW, ← hg]
  clear hW hg hBA hbvA hB2 hchm
  have hgW := hA.lt
  go_loopw [45] (fun i wr => ∃ k : Nat, k ≤ 3 ∧ i = .int .i64 (k : Int) ∧ Hid (Below W.heap.size W wr)) (fun i _ => 3 - (intOf i).toNat)
  case atStart => exact ⟨0, Nat.zero_le _, rfl, (show Hid _ from Below.refl _ _)⟩
  case round =>
    obtain ⟨k, hk, rfl, hall⟩ := hrel
    have hBr := hall.out
    clear hall
    by_cases hlt : k < 3
    · have hd : decide ((k : Int) < 3) = true := by simp; omega
      have hAr : Arr wr g 9 [.string (str r2), .string (str made), .string (str chm)] := (hBr.block g hgW).trans hA
      obtain ⟨s, hcd, hsl⟩ : ∃ s, wr.cell? ⟨g, k, none⟩ = some (.string (str s)) ∧ s.length ≤ 30000 := by
        rcases (show k = 0 ∨ k = 1 ∨ k = 2 by omega) with rfl | rfl | rfl
        · exact ⟨r2, hAr.cell (j := 0) rfl, by omega⟩
        · exact ⟨made, hAr.cell (j := 1) rfl, by omega⟩
        · exact ⟨chm, hAr.cell (j := 2) rfl, by omega⟩
      have i2 : 0 ≤ (k : Int) := by omega
      have hBT := hBW.trans (hBr.mono hBW.size)
      have hw1k : IntKind.i64.wrap ((k : Int) + 1) = ((k + 1 : Nat) : Int) := by rw [Int.natCast_succ]; exact IntWalk.i64_in _ (by omega)
      have hQ := Print_any s wr (by omega) (hE.below hBT).envr.env
      have hQ2 := fun W' (hb : Below w.heap.size w W') => printR_any s W' (by omega) (hE.below hb)
      generalize print8 s = pr at *
      obtain ⟨pt, pe⟩ := pr
      dsimp only at hQ hQ2
      have heq := str_eqq pt
      have hQ3 := fun W' hb => Lib.hid (hQ2 W' hb)
      replace hQ := Lib.hid hQ
      replace hA := Lib.hid hA
      clear hAr hQ2
      go_wp2_with fail
      refine hQ.out.mono ?_
      rintro e w3 ⟨rfl, hb3⟩
      have hB3 := hBr.trans (hb3.mono hBr.size)
      have hBT3 := hBW.trans (hB3.mono hBW.size)
      go_wp2_with fail
      refine (hQ3 _ hBT3).out.mono ?_
      rintro e w4 ⟨rfl, hb4⟩
      have hB4 := hB3.trans (hb4.mono hB3.size)
      clear hQ hQ3
      go_wp2_with fail
      exact ⟨⟨k + 1, by omega, by first | rfl | go_num, hB4⟩, by simp [intOf]; omega⟩
    · have hd : decide ((k : Int) < 3) = false := by simp; omega
      have hBT := hBW.trans (hBr.mono hBW.size)
      clear hA hBW hgW
      go_wp2_with fail
      refine (hPr2 _ hBT).out.mono ?_
      rintro e w5 ⟨rfl, hb5⟩
      have hB5 := hBT.trans (hb5.mono hBT.size)
      clear hPr2 hb5 hBr hBT
      go_wp2_with fail
      refine (hch _).out.mono ?_
      rintro e vB ⟨rfl, hbvB⟩
      have hBvB := hB5.trans (hbvB.mono hB5.size)
      go_wp2_with fail
      refine (hpk _).out.mono ?_
      rintro e vC ⟨rfl, hbvC⟩
      have hBA : Below w.heap.size w vC := hBvB.trans (hbvC.mono hBvB.size)
      go_wp2_with fail
      obtain ⟨g2, hg2⟩ : ∃ g, g = vC.heap.size := ⟨_, rfl⟩
      obtain ⟨X, hX⟩ : ∃ W, W = vC.alloc (Obj.cells #[Value.string (str r2), Value.string (str text), Value.string (str chg), Value.string (str t2)] 9) := ⟨_, rfl⟩
      have hA : Arr X g2 9 [.string (str r2), .string (str text), .string (str chg), .string (str t2)] := by rw [hX, hg2]; exact Arr.new rfl rfl
      have hBX : Below w.heap.size w X := by rw [hX]; exact hBA.alloc hBA.size _
      rw [← hX, ← hg2]
      clear hX hg2 hBA hBvB hbvB hbvC hB5 hch hpk
      have hgX := hA.lt
      go_loopw [88] (fun i wr => ∃ k : Nat, k ≤ 4 ∧ i = .int .i64 (k : Int) ∧ Hid (Below X.heap.size X wr)) (fun i _ => 4 - (intOf i).toNat)
      case atStart => exact ⟨0, Nat.zero_le _, rfl, (show Hid _ from Below.refl _ _)⟩
      case round =>
        obtain ⟨k, hk, rfl, hall⟩ := hrel
        have hBr := hall.out
        clear hall
        by_cases hlt2 : k < 4
        · have hd2 : decide ((k : Int) < 4) = true := by simp; omega
          have hAr : Arr wr g2 9 [.string (str r2), .string (str text), .string (str chg), .string (str t2)] := (hBr.block g2 hgX).trans hA
          obtain ⟨s, hcd, hsl⟩ : ∃ s, wr.cell? ⟨g2, k, none⟩ = some (.string (str s)) ∧ s.length ≤ 30000 := by
            rcases (show k = 0 ∨ k = 1 ∨ k = 2 ∨ k = 3 by omega) with rfl | rfl | rfl | rfl
            · exact ⟨r2, hAr.cell (j := 0) rfl, by omega⟩
            · exact ⟨text, hAr.cell (j := 1) rfl, by omega⟩
            · exact ⟨chg, hAr.cell (j := 2) rfl, by omega⟩
            · exact ⟨t2, hAr.cell (j := 3) rfl, by omega⟩
          have i2 : 0 ≤ (k : Int) := by omega
          have hBT := hBX.trans (hBr.mono hBX.size)
          have hw1k : IntKind.i64.wrap ((k : Int) + 1) = ((k + 1 : Nat) : Int) := by rw [Int.natCast_succ]; exact IntWalk.i64_in _ (by omega)
          have hQ := Parse_any s wr (by omega) (hE.below hBT).envr.env
          have hQ2 := fun W' (hb : Below w.heap.size w W') => parseR_any s W' (by omega) (hE.below hb)
          generalize parse8 s = pr at *
          obtain ⟨pt, pk9, pe⟩ := pr
          unfold parV at hQ hQ2
          dsimp only at hQ hQ2
          have heq := str_eqq pt
          have hQ3 := fun W' hb => Lib.hid (hQ2 W' hb)
          replace hQ := Lib.hid hQ
          replace hA := Lib.hid hA
          clear hAr hQ2
          go_wp2_with fail
          refine hQ.out.mono ?_
          rintro e w3 ⟨rfl, hb3⟩
          have hB3 := hBr.trans (hb3.mono hBr.size)
          have hBT3 := hBX.trans (hB3.mono hBX.size)
          go_wp2_with fail
          refine (hQ3 _ hBT3).out.mono ?_
          rintro e w4 ⟨rfl, hb4⟩
          have hB4 := hB3.trans (hb4.mono hB3.size)
          clear hQ hQ3
          go_wp2_with fail
          exact ⟨⟨k + 1, by omega, by first | rfl | go_num, hB4⟩, by simp [intOf]; omega⟩
        · have hd2 : decide ((k : Int) < 4) = false := by simp; omega
          have hBT := hBX.trans (hBr.mono hBX.size)
          go_wp2_with fail
          go_ret
          exact ⟨rfl, hBT⟩
end Go.Proofs.YtainohbfcehpoaaDoor
