/-
  The contract of machine.Parse.
-/
import Derived.Test.YtainohbfcehpoaaDoorMbH
namespace Go.Proofs.YtainohbfcehpoaaDoor
open Go.RowKit Go.Shelf

theorem append_bytes (w : World) (base : Nat) (v : Value) (out vs : List UInt8) (m : Nat) (hm : m = out.length) (hown : w.ownsRow base 5 1 v m (u8C out)) (b n : Nat) (hn : n = vs.length) (hA : Arr w b 5 (u8C vs)) (hl : out.length ≤ 1000000) (hv : vs.length ≤ 10) (hb : base ≤ w.heap.size) :
    ∃ v' w' m', (Builtin.append_ #[46, 46] 46 #[v, .slice (some ⟨b, 0, none⟩) n n]).run Tryd.prog w = .ok v' w' ∧ m' = (out ++ vs).length ∧ w'.ownsRow base 5 1 v' m' (u8C (out ++ vs)) ∧ w.grownBy w' v.ownBlock := by
  subst hn hm
  obtain ⟨i0, hi, hz0, hz1, hz2⟩ := info_parts info_u8
  obtain ⟨v', w', hrun, r1, r2, r3, _⟩ := run_append_own_at (P := Tryd.prog) w base 46 46 5 i0 (.int .u8 0) 1 1 Tryd.underlying46 hi hz0 hz1 hz2 rfl (by decide) v out.length (u8C out) hown ⟨b, 0, none⟩ vs.length vs.length (u8C vs) (by simp [u8C]) (fun j u hu => by rw [Addr.add_mid, Nat.zero_add]; exact hA.cell hu) (fun u hu => by
      obtain ⟨z, _, rfl⟩ := List.mem_map.1 hu
      rfl) (by unfold maxLen; omega) (by omega) hb
  refine ⟨v', w', _, hrun, rfl, ?_, r2⟩
  rw [List.length_append, show u8C (out ++ vs) = u8C out ++ u8C vs by simp [u8C]]
  exact r1
/-- What append leaves of a row of another type. -/
theorem grown_row {w w' : World} {base : Nat} {e T : TypeId} {v : Value} {n s : Nat} {xs : List Value} (hown : w.ownsRow base e s v n xs) (hg : w.grownBy w' v.ownBlock) {k : Nat} {cs : Array Value} {fr : Nat × Nat} (hk : w.heap[k]? = some (.cells cs T fr)) (hT : T ≠ e) : w'.heap[k]? = w.heap[k]? := by
  refine hg.block k (Array.getElem?_eq_some_iff.1 hk).1 (fun eb => ?_)
  rcases hown.2 with ⟨rfl, _⟩ | ⟨g, cap, cur, rfl, _, hgb, _⟩
  · cases eb
  · injection eb with eb
    have eb' : k = g := eb
    rw [eb', hgb] at hk
    injection hk with hk
    injection hk with _ hk _
    exact hT hk.symm
theorem grown_below {w0 w w' : World} {base B : Nat} {e : TypeId} {v : Value} {n s : Nat} {xs : List Value} (h : Below B w0 w) (hown : w.ownsRow base e s v n xs) (hg : w.grownBy w' v.ownBlock) (hB : B ≤ base) (hs : B ≤ w.heap.size) : Below B w0 w' :=
  h.grown hg hs (fun k hk => Nat.le_trans hB (hown.lt k hk).1)
theorem readV_cases (s : List UInt8) : ∃ o n right, readV (readT s) = .tuple #[insAgg 0 o n 0, .bool right] ∧ o < 12 ∧ ((right = true ∧ readT s = some (o, n)) ∨ (right = false ∧ o = 0 ∧ n = 0 ∧ readT s = none)) := by
  cases h : readT s with
  | none => exact ⟨0, 0, false, rfl, by omega, .inr ⟨rfl, rfl, rfl, rfl⟩⟩
  | some x =>
    obtain ⟨o, n⟩ := x
    exact ⟨o, n, true, rfl, (readT_some h).2.1, .inl ⟨rfl, rfl⟩⟩
def measP : Value → Value → Nat
  | .string s, .bool true => s.size + 2
  | _, _ => 1
theorem cut_drop (s : List UInt8) : measP (.string (str (Lib.cut s [10]).2.1)) (.bool (Lib.cut s [10]).2.2) < measP (.string (str s)) (.bool true) := by
  show _ < (str s).size + 2
  rw [str_size]
  rcases cut_one 10 s with ⟨p, hp, hc⟩ | ⟨p, r, _, hc, hs⟩
  · rw [hc]
    show 1 < _
    omega
  · rw [hc]
    show (str r).size + 2 < _
    rw [str_size, hs, List.length_append, List.length_cons]
    omega
def piecesOf (line rest : List UInt8) (more : Bool) : List (List UInt8) := if more then line :: cutAll 10 rest else [line]
theorem pieces_cut (s : List UInt8) : piecesOf (Lib.cut s [10]).1 (Lib.cut s [10]).2.1 (Lib.cut s [10]).2.2 = cutAll 10 s := by
  unfold piecesOf
  rcases cut_one 10 s with ⟨p, hp, hc⟩ | ⟨p, r, hp, hc, _⟩
  · rw [hc, hp]; rfl
  · rw [hc, hp]; rfl
theorem pieces_none {line rest : List UInt8} {more : Bool} {size : Nat} {acc : List Ins} (h : line ≠ [] ∨ more = true) (hr : readT line = none) : scan (piecesOf line rest more) size acc = .inl (acc.length + 1) := by
  unfold piecesOf
  cases more with
  | false =>
    rw [if_neg (by decide), scan, if_neg (by simpa using h)]
  | true =>
    rw [if_pos rfl]
    cases hc : cutAll 10 rest with
    | nil => exact absurd hc (cutAll_ne _ _)
    | cons q r => rw [scan, hr]
theorem pieces_last {line rest : List UInt8} {size : Nat} {acc : List Ins} (h : line ≠ []) : scan (piecesOf line rest false) size acc = .inl (acc.length + 1) := by
  unfold piecesOf
  rw [if_neg (by decide), scan, if_neg h]
theorem pieces_big {line rest : List UInt8} {size o n : Nat} {acc : List Ins} (hr : readT line = some (o, n)) (hs : 1024 < size + simLen o) : scan (piecesOf line rest true) size acc = .inl (acc.length + 1) := by
  unfold piecesOf
  rw [if_pos rfl]
  cases hc : cutAll 10 rest with
  | nil => exact absurd hc (cutAll_ne _ _)
  | cons q r => rw [scan, hr]; dsimp only; rw [if_pos hs]
theorem pieces_go {line rest : List UInt8} {size o n : Nat} {acc : List Ins} (hr : readT line = some (o, n)) (hs : ¬ 1024 < size + simLen o) : scan (piecesOf line rest true) size acc = scan (cutAll 10 rest) (size + simLen o) (acc ++ [⟨size, o, n⟩]) := by
  unfold piecesOf
  rw [if_pos rfl]
  cases hc : cutAll 10 rest with
  | nil => exact absurd hc (cutAll_ne _ _)
  | cons q r => rw [scan, hr]; dsimp only; rw [if_neg hs]
def fin8 : Nat ⊕ List Ins → List UInt8 × Nat × Int
  | .inl k => ([], k, 80)
  | .inr l => if l = [] then ([], 1, 80) else match badLead l with
    | some i => ([], i + 1, 80)
    | none => (codeB l, 0, 0)
theorem parse8_eq (s : List UInt8) : parse8 s = fin8 (scan (cutAll 10 s) 0 []) := by
  unfold parse8 fin8
  cases scan (cutAll 10 s) 0 [] <;> rfl
def parV (x : List UInt8 × Nat × Int) : Value := .tuple #[.string (str x.1), .int .i64 ((x.2.1 : Nat) : Int), .int .i64 x.2.2]
/-- The bytes of the first instructions. -/
def codeK (l : List Ins) (k : Nat) : List UInt8 := (l.take k).flatMap fun x => simB x.op (if leadOp x.op then l[x.opd]!.off else x.opd)
theorem codeK_succ {L : List Ins} {k : Nat} (h : k < L.length) : codeK L (k + 1) = codeK L k ++ simB L[k]!.op (if leadOp L[k]!.op then L[L[k]!.opd]!.off else L[k]!.opd) := by
  unfold codeK
  rw [List.take_succ_eq_append_getElem h, List.flatMap_append, getElem!_pos L k h]
  simp
theorem codeK_all (L : List Ins) : codeK L L.length = codeB L := by unfold codeK codeB; rw [List.take_length]
theorem codeK_len (L : List Ins) : ∀ k, k ≤ L.length → (codeK L k).length ≤ 3 * k
  | 0, _ => by simp [codeK]
  | k + 1, h => by
    have ih := codeK_len L k (by omega)
    rw [codeK_succ (by omega), List.length_append, simB_len]
    have : simLen L[k]!.op ≤ 3 := by unfold simLen; split <;> omega
    omega
theorem badLead_none {L : List Ins} (h : ∀ i, i < L.length → leadOp L[i]!.op = true → L[i]!.opd < L.length) : badLead L = none := by
  unfold badLead
  rw [List.findIdx?_eq_none_iff]
  intro x hx
  obtain ⟨i, hi, rfl⟩ := mem_at hx
  have := h i hi
  cases hl : leadOp L[i]!.op with
  | false => rfl
  | true =>
    have h2 := this hl
    rw [Bool.true_and, decide_eq_false_iff_not]
    omega
theorem badLead_some {L : List Ins} {k : Nat} (hk : k < L.length) (h : ∀ i, i < k → leadOp L[i]!.op = true → L[i]!.opd < L.length) (hl : leadOp L[k]!.op = true) (hb : L.length ≤ L[k]!.opd) : badLead L = some k := by
  unfold badLead
  rw [List.findIdx?_eq_some_iff_getElem]
  refine ⟨hk, ?_, fun j hj => ?_⟩
  · rw [← getElem!_pos L k hk, hl, Bool.true_and]
    exact decide_eq_true hb
  · have := h j hj
    rw [← getElem!_pos L j (by omega)]
    cases hl2 : leadOp L[j]!.op with
    | false => simp
    | true =>
      have h2 := this hl2
      rw [Bool.true_and, decide_eq_true_iff]
      omega
theorem own_setT {W : World} {B c o n s : Nat} {e T : TypeId} {v u : Value} {xs L : List Value} (h : W.ownsRow B e s v n xs) (hA : Arr W c T L) (hT : T ≠ e) : (W.setCell ⟨c, o, none⟩ u).ownsRow B e s v n xs := by
  refine ⟨h.1, ?_⟩
  rcases h.2 with hh | ⟨g, cap, cur, hv, q1, q2, r⟩
  · exact .inl hh
  · refine .inr ⟨g, cap, cur, hv, q1, (heap_setCell_other _ _ _ _ ?_).trans q2, r⟩
    intro e'
    simp only at e'
    unfold Arr at hA
    rw [e', hA] at q2
    injection q2 with q2
    injection q2 with _ q2 _
    exact hT q2
/-- What lies while Parse writes the program. -/
structure ParB (w : World) (acc : List Ins) (g k : Nat) (v : Value) (W : World) : Prop where
  row : W.ownsRow w.heap.size 5 1 v (codeK acc k).length (u8C (codeK acc k))
  ins : InsRow W g 0 acc (tosK acc 0)
  blk : ∃ cur, W.heap[g]? = some (.cells cur 66 (0, 0))
  bel : Below w.heap.size w W
  ok : ∀ i, i < k → leadOp acc[i]!.op = true → acc[i]!.opd < acc.length
/-- What lies while Parse reads lines. -/
structure ScanAt (w : World) (R : Nat ⊕ List Ins) (v : Value) (acc : List Ins) (size : Nat) (line rest : List UInt8) (more : Bool) (W : World) : Prop where
  row : W.ownsRow w.heap.size 66 4 v acc.length (insL acc)
  res : scan (piecesOf line rest more) size acc = R
  sz : size ≤ 1024
  al : acc.length ≤ size
  ll : line.length ≤ 1000000
  rl : rest.length ≤ 1000000
  bel : Below w.heap.size w W
set_option maxRecDepth 100000 in
set_option maxHeartbeats 8000000 in
theorem Parse_any (s : List UInt8) (w : World) (hs : s.length ≤ 1000000) (hE : Env w) :
    Calls Tryd.prog 21 #[.string (str s)] w fun e w' => e = .returned (parV (parse8 s)) ∧ Below w.heap.size w w' := by
  have hcut := fun (s : List UInt8) w hs hE => cut_any 10 s w (by exact hs) hE
  rw [show str [10] = ⟨#[10]⟩ from rfl] at hcut
  replace hcut := Lib.hid hcut
  obtain ⟨R, hR⟩ : ∃ R, R = scan (cutAll 10 s) 0 [] := ⟨_, rfl⟩
  have hparse : parse8 s = fin8 R := by rw [hR]; exact parse8_eq s
  have hcl := cut_len s 10
  have hpc := pieces_cut s
  rw [← hpc] at hR
  clear hpc
  have hc1 := hcut.out s w (by omega) hE
  generalize (Lib.cut s [10]).1 = line0 at *
  generalize (Lib.cut s [10]).2.1 = rest0 at *
  generalize (Lib.cut s [10]).2.2 = more0 at *
  replace hparse := Lib.hid hparse
  replace hc1 := Lib.hid hc1
  go_enter Tryd.func21, Tryd.ntmps21
  go_wp2_with fail
  refine hc1.out.mono ?_
  rintro e w1 ⟨rfl, q, rfl⟩
  have hb1 : Below w.heap.size w (w.drewN q) := below_drewQ (Below.refl _ _) q
  go_wp2_with fail
  have hsc0 : ScanAt w R (.slice none 0 0) [] 0 line0 rest0 more0 (w.drewN q) := ⟨World.ownsRow_nil _ _ _ _, hR.symm, by omega, Nat.le_refl _, by omega, by omega, hb1⟩
  go_loopw [5, 6, 7, 8, 9] (fun l sz a r m wr => ∃ (v : Value) (acc : List Ins) (size : Nat) (line rest : List UInt8) (more : Bool), v = l ∧ sz = .int .i64 (size : Int) ∧ a = .string (str line) ∧ r = .string (str rest) ∧ m = .bool more ∧ Hid (ScanAt w R v acc size line rest more wr)) (fun _ _ _ r m _ => measP r m)
  case atStart => exact ⟨_, [], 0, line0, rest0, more0, rfl, rfl, rfl, rfl, rfl, (show Hid _ from hsc0)⟩
  case round =>
    obtain ⟨v, acc, size, line, rest, more, rfl, rfl, rfl, rfl, rfl, hall⟩ := hrel
    obtain ⟨hrow, hres, hsz, hal, hll, hrl, hB⟩ := hall.out
    clear hall hsc0 hc1 hcl
    by_cases hgo : line = [] ∧ more = false
    · obtain ⟨rfl, rfl⟩ := hgo
      have he1 : (str []).toList.isEmpty = true := by rw [ByteArray.toList_eq]; rfl
      have hRe : R = .inr acc := by rw [← hres]; rfl
      rw [hRe] at hparse
      rcases List.eq_nil_or_concat acc with rfl | ⟨acc0, x0, hacc⟩
      · obtain ⟨va, vc, rfl⟩ := own_val hrow
        have hfin : Hid (parV (parse8 s) = .tuple #[.string (str []), .int .i64 1, .int .i64 80]) := by show _ = _; rw [hparse.out]; rfl
        clear hRe hrow hres
        go_wp2_with fail
        exact bodyPost_ret (v := .tuple #[.string (str []), .int .i64 1, .int .i64 80]) (by simp [results, Tryd.f21, go_sem, str]) rfl ⟨by rw [hfin.out], hB⟩
      · have hne0 : acc.length ≠ 0 := by rw [hacc]; simp
        have hne : acc ≠ [] := fun e => hne0 (by rw [e]; rfl)
        clear hacc
        obtain ⟨g, cap, cur, rfl, hbg, hgb, hnc, hcm, hcs, hct⟩ : ∃ g cap cur, v = .slice (some ⟨g, 0, none⟩) acc.length cap ∧ w.heap.size ≤ g ∧ wr.heap[g]? = some (.cells cur 66 (0, 0)) ∧ acc.length ≤ cap ∧ cap ≤ maxLen ∧ cur.size = cap * 4 ∧ cur.toList.take (acc.length * 4) = insL acc := by
          rcases hrow.2 with ⟨_, h0⟩ | h
          · exact absurd h0 hne0
          · exact h
        have hRow : InsRow wr g 0 acc (tosK acc 0) := insRow_of_cur hgb hct
        have hal1 : acc.length ≤ 1024 := by omega
        have hoffs : Hid (∀ i, i < acc.length → acc[i]!.off < 65536) := fun i hi => by
          obtain ⟨ys, e1, _, hL, _, hsz2⟩ := scan_inr (piecesOf line0 rest0 more0) 0 [] acc (by unfold piecesOf; split <;> simp) (by rw [← hR]; exact hRe)
          rw [List.nil_append] at e1
          subst e1
          rcases hsz2 with h | h
          · exact absurd h hne
          · have := laid_off hL hi (m := 1024) (by omega)
            omega
        have hq0 : ((acc.length : Int) == 0) = false := by rw [beq_eq_false_iff_ne]; omega
--TWO
        have hInr := scan_inr (piecesOf line0 rest0 more0) 0 [] acc (by unfold piecesOf; split <;> simp) (by rw [← hR]; exact hRe)
        have hNt : ∀ x ∈ acc, Neat x := by
          obtain ⟨ys, e1, _, _, hN, _⟩ := hInr
          rw [e1, List.nil_append]
          exact hN
        clear hInr hRe hrow hres hct
        go_wp2_with fail
        have hpb0 : ParB w acc g 0 (.slice none 0 0) wr := ⟨World.ownsRow_nil _ _ _ _, hRow, ⟨cur, hgb⟩, hB, fun i hi => absurd hi (Nat.not_lt_zero _)⟩
        go_loopw [12, 67] (fun ov i wr => ∃ (v : Value) (k : Nat), v = ov ∧ k ≤ acc.length ∧ i = .int .i64 (k : Int) ∧ Hid (ParB w acc g k v wr)) (fun _ i _ => acc.length - (intOf i).toNat)
        case atStart => exact ⟨_, 0, rfl, Nat.zero_le _, rfl, (show Hid _ from hpb0)⟩
        case round =>
          obtain ⟨v, k, rfl, hk, rfl, hall2⟩ := hrel
          rename_i wr0 _ _ _ wr
          obtain ⟨hrow, hRw, ⟨curw, hgw⟩, hBw, hok⟩ := hall2.out
          clear hall2 hpb0 hRow hgb hB
          have hcl := codeK_len acc k hk
          by_cases hlt : k < acc.length
          · have hd : decide ((k : Int) < (acc.length : Int)) = true := by simpa using hlt
            have i1 : (k : Int) < (acc.length : Int) := by omega
            obtain ⟨n0, n1, n2, n3⟩ := hRw k hlt
            simp only [Nat.zero_add] at n0 n1 n2 n3
            have e0 : tosK acc 0 k = 0 := by simp [tosK]
            rw [e0, Int.natCast_zero] at n3
            have hz' := hNt acc[k]! (by rw [getElem!_pos acc k hlt]; exact List.getElem_mem hlt)
            have hsucc := codeK_succ hlt
            have hbs := fun h1 h2 => badLead_some hlt hok (hl := h1) (hb := h2)
            have hok2 : (leadOp acc[k]!.op = true → acc[k]!.opd < acc.length) → ∀ i, i < k + 1 → leadOp acc[i]!.op = true → acc[i]!.opd < acc.length := fun h i hi => by
              by_cases e : i = k
              · subst e; exact h
              · exact hok i (by omega)
            replace hok2 := Lib.hid hok2
            obtain ⟨z, hz⟩ : ∃ z, z = acc[k]! := ⟨_, rfl⟩
            rw [← hz] at n0 n1 n2 hz' hsucc hbs
            have hzl := hz'.lt
            have hzo := hz'.opd
            have hlng : leadOp z.op = true → longOp z.op = true := longOp_lead
            replace hz := Lib.hid hz
            replace hbs := Lib.hid hbs
            obtain ⟨Wx, hWx⟩ : ∃ Wx, Wx = wr.alloc (.cells #[.int .i64 (z.off : Int), .int .i64 (z.op : Int), .int .i64 (z.opd : Int), .int .i64 0] 66) := ⟨_, rfl⟩
            have hbx : Below wr.heap.size wr Wx := by rw [hWx]; exact (Below.refl _ _).alloc (Nat.le_refl _) _
            have hAx : Arr Wx wr.heap.size 66 [.int .i64 (z.off : Int), .int .i64 (z.op : Int), .int .i64 (z.opd : Int), .int .i64 0] := by rw [hWx]; exact Arr.new rfl rfl
            have hBx := hBw.trans (hbx.mono hBw.size)
            have hgx := (hbx.block g (Array.getElem?_eq_some_iff.1 hgw).1).trans hgw
            have hrowx := own_below hrow hbx
            obtain ⟨b0, hb0⟩ : ∃ b0, b0 = UInt8.ofNat z.op := ⟨_, rfl⟩
            have hbn : ((b0.toNat : Nat) : Int) = (z.op : Int) := by rw [hb0, UInt8.toNat_ofNat']; omega
            have hw0 : IntKind.u8.wrap (z.op : Int) = (b0.toNat : Int) := by rw [hbn]; exact IntWalk.u8_in _ (by omega)
            obtain ⟨vo, vc, rfl⟩ := own_val hrow
            have hal1 : Below Wx.heap.size Wx (Wx.alloc (.cells #[.int .u8 (b0.toNat : Int)] 5)) := (Below.refl _ _).alloc (Nat.le_refl _) _
            obtain ⟨v1, W1, m1, hrun1, hm1, hown1, hgr1⟩ := append_bytes (Wx.alloc (.cells #[.int .u8 (b0.toNat : Int)] 5)) w.heap.size _ (codeK acc k) [b0] _ rfl (own_below hrowx hal1) Wx.heap.size 1 rfl (Arr.new rfl rfl) (by omega) (by simp) (by have := hBx.size; simp; omega)
            have hB1 : Below w.heap.size w W1 := grown_below (hBx.alloc hBx.size _) (own_below hrowx hal1) hgr1 (Nat.le_refl _) (by have := hBx.size; simp; omega)
            have hk1 : ∀ {k : Nat} {cs : Array Value} {T : TypeId} {fr : Nat × Nat}, Wx.heap[k]? = some (.cells cs T fr) → T ≠ 5 → W1.heap[k]? = some (.cells cs T fr) := fun {k cs T fr} h ht => by
              have h2 := (hal1.block k (Array.getElem?_eq_some_iff.1 h).1).trans h
              exact (grown_row (own_below hrowx hal1) hgr1 h2 ht).trans h2
            obtain ⟨va1, vc1, rfl⟩ := own_val hown1
            rw [hWx] at hrun1
            simp only [World.size_alloc] at hrun1
            have hA1 : Arr W1 wr.heap.size 66 [.int .i64 (z.off : Int), .int .i64 (z.op : Int), .int .i64 (z.opd : Int), .int .i64 0] := hk1 hAx (by decide)
            have hg1 := hk1 hgx (by decide)
            have hkd := kind_any z.off z.op z.opd 0 W1 hzl (hE.below hB1).ops (hE.below hB1).ops.lt
            unfold insAgg opVals at hkd
            rw [Int.natCast_zero] at hkd
            have hfd := fun W => field_lead (.string (str (opName z.op))) (.int .i64 (takesOp z.op : Nat)) (.int .i64 (putsOp z.op : Nat)) (.bool (longOp z.op)) (.bool (leadOp z.op)) W
            have hfl := fun W => field_long (.string (str (opName z.op))) (.int .i64 (takesOp z.op : Nat)) (.int .i64 (putsOp z.op : Nat)) (.bool (longOp z.op)) (.bool (leadOp z.op)) W
            have q0 := hA1.cell (j := 0) rfl
            have q1 := hA1.cell (j := 1) rfl
            have q2 := hA1.cell (j := 2) rfl
            have q3 := hA1.cell (j := 3) rfl
            have hlen1 : (codeK acc k ++ [b0]).length ≤ 5000 := by rw [List.length_append, List.length_singleton]; omega
            replace hrun1 := Lib.hid hrun1
            replace hm1 := Lib.hid hm1
            replace hb0 := Lib.hid hb0
            replace hbn := Lib.hid hbn
            replace hlen1 := Lib.hid hlen1
            clear hrowx hgr1 hrow hWx hk1 hAx
            cases hlg : longOp z.op with
            | false =>
              have hld : leadOp z.op = false := by
                cases hq : leadOp z.op with
                | false => rfl
                | true => rw [hlng hq] at hlg; cases hlg
              have hsim : codeK acc (k + 1) = codeK acc k ++ [b0] := by rw [hsucc, simB, hlg, hb0.out]; rfl
              rw [hlg, hld] at hkd hfd hfl
              replace hsim := Lib.hid hsim
              replace hlg := Lib.hid hlg
              replace hld := Lib.hid hld
              clear hlng hsucc
              replace hkd := Lib.hid hkd
              go_wp2_with (at_builtin; go_loud (refine wpList_append_known rfl _ _ _ _ rfl _ _ rfl rfl hrun1.out ?_))
              refine hkd.out.mono ?_
              rintro e W4 ⟨rfl, hb4⟩
              have hA4 := hA1.below hb4
              have hg4 := (hb4.block g (Array.getElem?_eq_some_iff.1 hg1).1).trans hg1
              have hB4 := hB1.trans (hb4.mono hB1.size)
              have hown4 := own_below hown1 hb4
              clear hkd hA1 hown1 q0 q1 q2 q3
              have hkd2 := kind_any z.off z.op (z.opd) 0 W4 hzl (hE.below hB4).ops (hE.below hB4).ops.lt
              unfold insAgg opVals at hkd2
              rw [Int.natCast_zero, hlg.out, hld.out] at hkd2
              replace hkd2 := Lib.hid hkd2
              have p0 := hA4.cell (j := 0) rfl
              have p1 := hA4.cell (j := 1) rfl
              have p2 := hA4.cell (j := 2) rfl
              have p3 := hA4.cell (j := 3) rfl
              go_wp2_with fail
              refine hkd2.out.mono ?_
              rintro e W6 ⟨rfl, hb6⟩
              have hA6 := hA4.below hb6
              have hg6 := (hb6.block g (Array.getElem?_eq_some_iff.1 hg4).1).trans hg4
              have hBk := hB4.trans (hb6.mono hB4.size)
              have hown6 := own_below hown4 hb6
              clear hkd2 p0 p1 p2 p3
              have hfin : ParB w acc g (k + 1) (.slice va1 m1 vc1) W6 := ⟨by rw [hsim.out, ← hm1.out]; exact hown6, hRw.keep (hg6.trans hgw.symm), ⟨curw, hg6⟩, hBk, hok2.out (fun h => by rw [← hz.out, hld.out] at h; cases h)⟩
              replace hfin := Lib.hid hfin
              clear hown6 hRw
              go_wp2_with fail
              refine ⟨⟨_, k + 1, rfl, by omega, by go_num, (show Hid _ from hfin.out)⟩, by simp [intOf]; omega⟩
            | true =>
              cases hld : leadOp z.op with
              | false =>
                obtain ⟨nn, hnn⟩ : ∃ nn, nn = z.opd := ⟨_, rfl⟩
                have hnb : nn < 65536 := by omega
                obtain ⟨b1, hb1⟩ : ∃ b1, b1 = UInt8.ofNat (nn / 256) := ⟨_, rfl⟩
                obtain ⟨b2, hb2⟩ : ∃ b2, b2 = UInt8.ofNat (nn % 256) := ⟨_, rfl⟩
                have hbn1 : ((b1.toNat : Nat) : Int) = (nn : Int) / 256 := by rw [hb1, UInt8.toNat_ofNat']; omega
                have hbn2 : ((b2.toNat : Nat) : Int) = (nn : Int) % 256 := by rw [hb2, UInt8.toNat_ofNat']; omega
                have hwa : IntKind.u8.wrap ((nn : Int) / 256) = (b1.toNat : Int) := by rw [hbn1]; exact IntWalk.u8_in _ (by omega)
                have hwb : IntKind.u8.wrap (nn : Int) = (b2.toNat : Int) := by rw [hbn2]; simp [IntKind.wrap, IntKind.bits, IntKind.signed]
                have hwb2 : (nn : Int) % 256 = (b2.toNat : Int) := hbn2.symm
                replace hb1 := Lib.hid hb1
                replace hb2 := Lib.hid hb2
                replace hbn1 := Lib.hid hbn1
                replace hbn2 := Lib.hid hbn2
                rw [hld, if_neg (by decide), ← hnn] at hsucc
                have hsim : codeK acc (k + 1) = codeK acc k ++ [b0] ++ [b1, b2] := by rw [hsucc, simB, hlg, hb0.out, hb1.out, hb2.out, List.append_assoc]; rfl
                rw [← hnn] at hA1 hkd q2 hrun1
                rw [hlg, hld] at hkd hfd hfl
                replace hsim := Lib.hid hsim
                replace hlg := Lib.hid hlg
                replace hld := Lib.hid hld
                clear hlng hsucc
                rw [← hnn] at n2
                replace hnn := Lib.hid hnn
                replace hkd := Lib.hid hkd
                go_wp2_with (at_builtin; go_loud (refine wpList_append_known rfl _ _ _ _ rfl _ _ rfl rfl hrun1.out ?_))
                refine hkd.out.mono ?_
                rintro e W4 ⟨rfl, hb4⟩
                have hA4 := hA1.below hb4
                have hg4 := (hb4.block g (Array.getElem?_eq_some_iff.1 hg1).1).trans hg1
                have hB4 := hB1.trans (hb4.mono hB1.size)
                have hown4 := own_below hown1 hb4
                clear hkd hA1 hown1 q0 q1 q2 q3
                have hkd2 := kind_any z.off z.op (nn) 0 W4 hzl (hE.below hB4).ops (hE.below hB4).ops.lt
                unfold insAgg opVals at hkd2
                rw [Int.natCast_zero, hlg.out, hld.out] at hkd2
                replace hkd2 := Lib.hid hkd2
                have p0 := hA4.cell (j := 0) rfl
                have p1 := hA4.cell (j := 1) rfl
                have p2 := hA4.cell (j := 2) rfl
                have p3 := hA4.cell (j := 3) rfl
                go_wp2_with fail
                refine hkd2.out.mono ?_
                rintro e W6 ⟨rfl, hb6⟩
                have hA6 := hA4.below hb6
                have hg6 := (hb6.block g (Array.getElem?_eq_some_iff.1 hg4).1).trans hg4
                have hBk := hB4.trans (hb6.mono hB4.size)
                have hown6 := own_below hown4 hb6
                clear hkd2 p0 p1 p2 p3
                have hlen1' := hlen1.out
                
                have hal2 : Below W6.heap.size W6 (W6.alloc (.cells #[.int .u8 (b1.toNat : Int), .int .u8 (b2.toNat : Int)] 5)) := (Below.refl _ _).alloc (Nat.le_refl _) _
                obtain ⟨v2, W2, m2, hrun2, hm2, hown2, hgr2⟩ := append_bytes (W6.alloc (.cells #[.int .u8 (b1.toNat : Int), .int .u8 (b2.toNat : Int)] 5)) w.heap.size _ (codeK acc k ++ [b0]) [b1, b2] _ hm1.out (own_below hown6 hal2) W6.heap.size 2 rfl (Arr.new rfl rfl) (by omega) (by simp) (by have := hBk.size; simp; omega)
                have hB2 : Below w.heap.size w W2 := grown_below (hBk.alloc hBk.size _) (own_below hown6 hal2) hgr2 (Nat.le_refl _) (by have := hBk.size; simp; omega)
                have hk2 : ∀ {k : Nat} {cs : Array Value} {T : TypeId} {fr : Nat × Nat}, W6.heap[k]? = some (.cells cs T fr) → T ≠ 5 → W2.heap[k]? = some (.cells cs T fr) := fun {k cs T fr} h ht => by
                  have h2 := (hal2.block k (Array.getElem?_eq_some_iff.1 h).1).trans h
                  exact (grown_row (own_below hown6 hal2) hgr2 h2 ht).trans h2
                obtain ⟨va2, vc2, rfl⟩ := own_val hown2
                
                have hg8 := hk2 hg6 (by decide)
                replace hm2 := Lib.hid hm2
                have hfin : ParB w acc g (k + 1) (.slice va2 m2 vc2) W2 := ⟨by rw [hsim.out, ← hm2.out]; exact hown2, hRw.keep (hg8.trans hgw.symm), ⟨curw, hg8⟩, hB2, hok2.out (fun h => by rw [← hz.out, hld.out] at h; cases h)⟩
                have s2 := hA6.cell (j := 2) rfl
                replace hfin := Lib.hid hfin
                replace hrun2 := Lib.hid hrun2
                clear hown6 hRw hown2 hgr2 hk2 hal2 hlen1'
                go_wp2_with (at_builtin; go_loud (refine wpList_append_known rfl _ _ _ _ rfl _ _ rfl rfl hrun2.out ?_))
                refine ⟨⟨_, k + 1, rfl, by omega, by go_num, (show Hid _ from hfin.out)⟩, by simp [intOf]; omega⟩
              | true =>
                rw [hlg, hld] at hkd hfd hfl
                by_cases hbad : acc.length ≤ z.opd
                · have hdb : decide ((z.opd : Int) ≥ (acc.length : Int)) = true := by simp; omega
                  have hdb2 : (acc.length : Int) ≤ (z.opd : Int) := by omega
                  have hpar : Hid (parV (parse8 s) = .tuple #[.string (str []), .int .i64 ((k : Int) + 1), .int .i64 80]) := by
                    show _ = _
                    rw [hparse.out]
                    unfold fin8
                    dsimp only
                    rw [if_neg hne, hbs.out hld hbad]
                    rfl
                  have hwk : IntKind.i64.wrap ((k : Int) + 1) = (k : Int) + 1 := IntWalk.i64_in _ (by omega)
                  replace hlg := Lib.hid hlg
                  replace hld := Lib.hid hld
                  clear hlng hsucc
                  replace hkd := Lib.hid hkd
                  go_wp2_with (at_builtin; go_loud (refine wpList_append_known rfl _ _ _ _ rfl _ _ rfl rfl hrun1.out ?_))
                  refine hkd.out.mono ?_
                  rintro e W4 ⟨rfl, hb4⟩
                  have hA4 := hA1.below hb4
                  have hg4 := (hb4.block g (Array.getElem?_eq_some_iff.1 hg1).1).trans hg1
                  have hB4 := hB1.trans (hb4.mono hB1.size)
                  have hown4 := own_below hown1 hb4
                  clear hkd hA1 hown1 q0 q1 q2 q3
                  have s2 := hA4.cell (j := 2) rfl
                  go_wp2_with fail
                  exact bodyPost_ret (v := .tuple #[.string (str []), .int .i64 ((k : Int) + 1), .int .i64 80]) (by simp [results, Tryd.f21, go_sem, str]) rfl ⟨by rw [hpar.out], hB4⟩
                · have hdb : decide ((z.opd : Int) ≥ (acc.length : Int)) = false := by simp; omega
                  have hdb2 : ¬ (acc.length : Int) ≤ (z.opd : Int) := by omega
                  have hoi : z.opd < acc.length := by omega
                  have i2 : (z.opd : Int) < (acc.length : Int) := by omega
                  have m0 := (hRw z.opd hoi).1
                  rw [Nat.zero_add] at m0
                  obtain ⟨nn, hnn⟩ : ∃ nn, nn = acc[z.opd]!.off := ⟨_, rfl⟩
                  have hnb : nn < 65536 := by rw [hnn]; exact hoffs.out _ hoi
                  rw [← hnn] at m0
                  obtain ⟨b1, hb1⟩ : ∃ b1, b1 = UInt8.ofNat (nn / 256) := ⟨_, rfl⟩
                  obtain ⟨b2, hb2⟩ : ∃ b2, b2 = UInt8.ofNat (nn % 256) := ⟨_, rfl⟩
                  have hbn1 : ((b1.toNat : Nat) : Int) = (nn : Int) / 256 := by rw [hb1, UInt8.toNat_ofNat']; omega
                  have hbn2 : ((b2.toNat : Nat) : Int) = (nn : Int) % 256 := by rw [hb2, UInt8.toNat_ofNat']; omega
                  have hwa : IntKind.u8.wrap ((nn : Int) / 256) = (b1.toNat : Int) := by rw [hbn1]; exact IntWalk.u8_in _ (by omega)
                  have hwb : IntKind.u8.wrap (nn : Int) = (b2.toNat : Int) := by rw [hbn2]; simp [IntKind.wrap, IntKind.bits, IntKind.signed]
                  have hwb2 : (nn : Int) % 256 = (b2.toNat : Int) := hbn2.symm
                  replace hb1 := Lib.hid hb1
                  replace hb2 := Lib.hid hb2
                  replace hbn1 := Lib.hid hbn1
                  replace hbn2 := Lib.hid hbn2
                  rw [hld, if_pos rfl, ← hnn] at hsucc
                  have hsim : codeK acc (k + 1) = codeK acc k ++ [b0] ++ [b1, b2] := by rw [hsucc, simB, hlg, hb0.out, hb1.out, hb2.out, List.append_assoc]; rfl
                  replace hsim := Lib.hid hsim
                  replace hlg := Lib.hid hlg
                  replace hld := Lib.hid hld
                  replace hnn := Lib.hid hnn
                  replace hbad := Lib.hid hbad
                  clear hlng hsucc
                  replace hkd := Lib.hid hkd
                  go_wp2_with (at_builtin; go_loud (refine wpList_append_known rfl _ _ _ _ rfl _ _ rfl rfl hrun1.out ?_))
                  refine hkd.out.mono ?_
                  rintro e W4 ⟨rfl, hb4⟩
                  have hA4 := hA1.below hb4
                  have hg4 := (hb4.block g (Array.getElem?_eq_some_iff.1 hg1).1).trans hg1
                  have hB4 := hB1.trans (hb4.mono hB1.size)
                  have hown4 := own_below hown1 hb4
                  clear hkd hA1 hown1 q0 q1 q2 q3
                  have s2 := hA4.cell (j := 2) rfl
                  have f2 := hA4.free 2
                  have mg : W4.cell? ⟨g, z.opd * 4, none⟩ = some (.int .i64 (nn : Int)) := (World.cell?_of_block (a := ⟨g, z.opd * 4, none⟩) (hg4.trans hgw.symm)).trans m0
                  have hA5 := hA4.set 2 (.int .i64 (nn : Int))
                  have hneg : g ≠ wr.heap.size := fun e => by have := (Array.getElem?_eq_some_iff.1 hgw).1; omega
                  have hg5 : (W4.setCell ⟨wr.heap.size, 2, none⟩ (.int .i64 (nn : Int))).heap[g]? = some (.cells curw 66 (0, 0)) := (heap_setCell_other _ _ _ _ (by simpa using hneg)).trans hg4
                  have hB5 := hB4.setCell (p := ⟨wr.heap.size, 2, none⟩) (show w.heap.size ≤ wr.heap.size from hBw.size) (.int .i64 (nn : Int))
                  have hown5 : (W4.setCell ⟨wr.heap.size, 2, none⟩ (.int .i64 (nn : Int))).ownsRow w.heap.size 5 1 (.slice va1 m1 vc1) m1 (u8C (codeK acc k ++ [b0])) := own_setT hown4 hA4 (by decide)
                  have hkd2 := kind_any z.off z.op (nn) 0 (W4.setCell ⟨wr.heap.size, 2, none⟩ (.int .i64 (nn : Int))) hzl (hE.below hB5).ops (hE.below hB5).ops.lt
                  unfold insAgg opVals at hkd2
                  rw [Int.natCast_zero, hlg.out, hld.out] at hkd2
                  replace hkd2 := Lib.hid hkd2
                  have p0 := hA5.cell (j := 0) rfl
                  have p1 := hA5.cell (j := 1) rfl
                  have p2 := hA5.cell (j := 2) rfl
                  have p3 := hA5.cell (j := 3) rfl
                  go_wp2_with fail
                  refine hkd2.out.mono ?_
                  rintro e W6 ⟨rfl, hb6⟩
                  have hA6 := hA5.below hb6
                  have hg6 := (hb6.block g (Array.getElem?_eq_some_iff.1 hg5).1).trans hg5
                  have hBk := hB5.trans (hb6.mono hB5.size)
                  have hown6 := own_below hown5 hb6
                  clear hkd2 p0 p1 p2 p3
                  have hlen1' := hlen1.out
                  
                  have hal2 : Below W6.heap.size W6 (W6.alloc (.cells #[.int .u8 (b1.toNat : Int), .int .u8 (b2.toNat : Int)] 5)) := (Below.refl _ _).alloc (Nat.le_refl _) _
                  obtain ⟨v2, W2, m2, hrun2, hm2, hown2, hgr2⟩ := append_bytes (W6.alloc (.cells #[.int .u8 (b1.toNat : Int), .int .u8 (b2.toNat : Int)] 5)) w.heap.size _ (codeK acc k ++ [b0]) [b1, b2] _ hm1.out (own_below hown6 hal2) W6.heap.size 2 rfl (Arr.new rfl rfl) (by omega) (by simp) (by have := hBk.size; simp; omega)
                  have hB2 : Below w.heap.size w W2 := grown_below (hBk.alloc hBk.size _) (own_below hown6 hal2) hgr2 (Nat.le_refl _) (by have := hBk.size; simp; omega)
                  have hk2 : ∀ {k : Nat} {cs : Array Value} {T : TypeId} {fr : Nat × Nat}, W6.heap[k]? = some (.cells cs T fr) → T ≠ 5 → W2.heap[k]? = some (.cells cs T fr) := fun {k cs T fr} h ht => by
                    have h2 := (hal2.block k (Array.getElem?_eq_some_iff.1 h).1).trans h
                    exact (grown_row (own_below hown6 hal2) hgr2 h2 ht).trans h2
                  obtain ⟨va2, vc2, rfl⟩ := own_val hown2
                  
                  have hg8 := hk2 hg6 (by decide)
                  replace hm2 := Lib.hid hm2
                  have hfin : ParB w acc g (k + 1) (.slice va2 m2 vc2) W2 := ⟨by rw [hsim.out, ← hm2.out]; exact hown2, hRw.keep (hg8.trans hgw.symm), ⟨curw, hg8⟩, hB2, hok2.out (fun _ => by rw [← hz.out]; exact hoi)⟩
                  have s2 := hA6.cell (j := 2) rfl
                  replace hfin := Lib.hid hfin
                  replace hrun2 := Lib.hid hrun2
                  clear hown6 hRw hown2 hgr2 hk2 hal2 hlen1'
                  go_wp2_with (at_builtin; go_loud (refine wpList_append_known rfl _ _ _ _ rfl _ _ rfl rfl hrun2.out ?_))
                  refine ⟨⟨_, k + 1, rfl, by omega, by go_num, (show Hid _ from hfin.out)⟩, by simp [intOf]; omega⟩
          · have hd : decide ((k : Int) < (acc.length : Int)) = false := by simpa using hlt
            obtain rfl : k = acc.length := by omega
            have hcv := conv_u8 hrow
            have hpar : Hid (parV (parse8 s) = .tuple #[.string (str (codeK acc acc.length)), .int .i64 0, .int .i64 0]) := by
              show _ = _
              rw [hparse.out]
              unfold fin8
              dsimp only
              rw [if_neg hne, badLead_none hok, codeK_all]
              rfl
            obtain ⟨vo, vc, rfl⟩ := own_val hrow
            generalize codeK acc acc.length = cd at *
            clear hrow hRw hok
            go_wp2_with fail
            exact bodyPost_ret (v := .tuple #[.string (str cd), .int .i64 0, .int .i64 0]) (by simp [results, Tryd.f21, go_sem]) rfl ⟨by rw [hpar.out], hBw⟩
--OWT
    · have hcond : line ≠ [] ∨ more = true := by
        rcases Classical.em (line = []) with h | h
        · right
          cases more with
          | true => rfl
          | false => exact absurd ⟨h, rfl⟩ hgo
        · exact .inl h
      have hEr := hE.below hB
      have hrd := read_any line wr hll hEr
      obtain ⟨o, n, right, hv, ho12, hcase⟩ := readV_cases line
      rw [hv] at hrd
      unfold insAgg at hrd
      rw [Int.natCast_zero] at hrd
      replace hrd := Lib.hid hrd
      replace hcase := Lib.hid hcase
      clear hv hgo
      obtain ⟨va, vc, rfl⟩ := own_val hrow
      have hee : (str line).toList.isEmpty = true ∨ (str line).toList.isEmpty = false := by cases (str line).toList.isEmpty <;> simp
      have hmo : (str line).toList.isEmpty = true → more = true := fun h => by
        rcases hcond with h1 | h1
        · rw [ByteArray.toList_eq, str_list] at h
          exact absurd (by simpa using h) h1
        · exact h1
      have hw1 : IntKind.i64.wrap ((size : Int) + 1) = (size : Int) + 1 := IntWalk.i64_in _ (by omega)
      have hw3 : IntKind.i64.wrap ((size : Int) + 1 + 2) = (size : Int) + 1 + 2 := IntWalk.i64_in _ (by omega)
      replace hcond := Lib.hid hcond
      rcases hee with hee | hee
      · obtain rfl := hmo hee
        clear hmo
        go_wp2_with fail
        refine hrd.out.mono ?_
        rintro e W2 ⟨rfl, hb2⟩
        have hrow2 := own_below hrow hb2
        have hB2 := hB.trans (hb2.mono hB.size)
        obtain ⟨W3, hW3⟩ : ∃ W3, W3 = W2.alloc (.cells #[.int .i64 (size : Int), .int .i64 (o : Int), .int .i64 (n : Int), .int .i64 0] 66) := ⟨_, rfl⟩
        have hb3 : Below W2.heap.size W2 W3 := by rw [hW3]; exact (Below.refl _ _).alloc (Nat.le_refl _) _
        have hA3 : Arr W3 W2.heap.size 66 [.int .i64 (size : Int), .int .i64 (o : Int), .int .i64 (n : Int), .int .i64 0] := by rw [hW3]; exact Arr.new rfl rfl
        have hB3 := hB2.trans (hb3.mono hB2.size)
        have hrow3 := own_below hrow2 hb3
        have hkd := kind_any size o n 0 W3 ho12 (hE.below hB3).ops (hE.below hB3).ops.lt
        unfold insAgg opVals at hkd
        rw [Int.natCast_zero] at hkd
        replace hkd := Lib.hid hkd
        have hfd := fun W => field_long (.string (str (opName o))) (.int .i64 (takesOp o : Nat)) (.int .i64 (putsOp o : Nat)) (.bool (longOp o)) (.bool (leadOp o)) W
        clear hrd
        go_wp2_with fail
        rw [← hW3]
        refine hkd.out.mono ?_
        rintro e W4 ⟨rfl, hb4⟩
        have hA4 := hA3.below hb4
        have hrow4 := own_below hrow3 hb4
        have hB4 := hB3.trans (hb4.mono hB3.size)
        have hal4 : Below W4.heap.size W4 (W4.alloc (.cells #[.int .i64 (size : Int), .int .i64 (o : Int), .int .i64 (n : Int), .int .i64 0] 66)) := (Below.refl _ _).alloc (Nat.le_refl _) _
        obtain ⟨v', W6, hrun, hown6, hgrow⟩ := append_ins (W4.alloc (.cells #[.int .i64 (size : Int), .int .i64 (o : Int), .int .i64 (n : Int), .int .i64 0] 66)) w.heap.size _ acc ⟨size, o, n⟩ (own_below hrow4 hal4) W4.heap.size (Arr.new rfl rfl) (by omega) (by have := hB4.size; simp; omega)
        have hB6 : Below w.heap.size w W6 := grown_below (hB4.alloc hB4.size _) (own_below hrow4 hal4) hgrow (Nat.le_refl _) (by have := hB4.size; simp; omega)
        rw [List.length_append, List.length_singleton] at hown6
        obtain ⟨gN, cN, rfl⟩ := ownsRow_succ hown6
        have q0 := hA4.cell (j := 0) rfl
        have q1 := hA4.cell (j := 1) rfl
        have q2 := hA4.cell (j := 2) rfl
        have q3 := hA4.cell (j := 3) rfl
        replace hrun := Lib.hid hrun
        clear hkd hA3 hA4 hrow hrow2 hrow3 hrow4 hal4 hW3
        cases hlg : longOp o with
        | false =>
          rw [hlg] at hfd
          have hsl : simLen o = 1 := by unfold simLen; rw [hlg]; rfl
          replace hlg := Lib.hid hlg
          cases right with
          | false =>
            have hRe : R = .inl (acc.length + 1) := by
              rcases hcase.out with ⟨h, _⟩ | ⟨_, _, _, h⟩
              · cases h
              · rw [← hres]
                exact pieces_none (hcond.out.imp id (fun hh => by first | rfl | exact hh)) h
            have hfin : Hid (parV (parse8 s) = .tuple #[.string (str []), .int .i64 ((acc.length : Int) + 1), .int .i64 80]) := by show _ = _; rw [hparse.out, hRe]; rfl
            clear hRe hgrow hown6
            go_wp2_with (at_builtin; go_loud (refine wpList_append_known rfl _ _ _ _ rfl _ _ rfl rfl hrun.out ?_))
            exact bodyPost_ret (v := .tuple #[.string (str []), .int .i64 ((acc.length : Int) + 1), .int .i64 80]) (by simp [results, Tryd.f21, go_sem, str]) rfl ⟨by rw [hfin.out], hB6⟩
          | true =>
            have hrt : readT line = some (o, n) := by
              rcases hcase.out with ⟨_, h⟩ | ⟨h, _⟩
              · exact h
              · cases h
            by_cases hbig : 1024 < size + simLen o
            · have hdb : decide (1024 < (size : Int) + 1) = true := by rw [hsl] at hbig; simp; omega
              have hdc : 1024 < (size : Int) + 1 := by rw [hsl] at hbig; omega
              have hRe : R = .inl (acc.length + 1) := by rw [← hres]; exact pieces_big hrt hbig
              replace hbig := Lib.hid hbig
              have hfin : Hid (parV (parse8 s) = .tuple #[.string (str []), .int .i64 ((acc.length : Int) + 1), .int .i64 80]) := by show _ = _; rw [hparse.out, hRe]; rfl
              clear hRe hgrow hown6
              go_wp2_with (at_builtin; go_loud (refine wpList_append_known rfl _ _ _ _ rfl _ _ rfl rfl hrun.out ?_))
              exact bodyPost_ret (v := .tuple #[.string (str []), .int .i64 ((acc.length : Int) + 1), .int .i64 80]) (by simp [results, Tryd.f21, go_sem, str]) rfl ⟨by rw [hfin.out], hB6⟩
            · have hdb : decide (1024 < (size : Int) + 1) = false := by rw [hsl] at hbig; simp; omega
              have hdc : ¬ 1024 < (size : Int) + 1 := by rw [hsl] at hbig; omega
              have hgo := pieces_go (rest := rest) (acc := acc) hrt hbig
              rw [hres] at hgo
              have hsz' : size + 1 ≤ 1024 := by rw [hsl] at hbig; omega
              have hcl := cut_len rest 10
              have hpc := pieces_cut rest
              have hcd := cut_drop rest
              rw [← hpc, hsl] at hgo
              clear hpc
              have hc2 := fun W hE => hcut.out rest W (by omega) hE
              generalize (Lib.cut rest [10]).1 = line2 at *
              generalize (Lib.cut rest [10]).2.1 = rest2 at *
              generalize (Lib.cut rest [10]).2.2 = more2 at *
              have hc3 := Lib.hid (hc2 W6 (hE.below hB6))
              have hown7 : W6.ownsRow w.heap.size 66 4 (.slice (some ⟨gN, 0, none⟩) (acc.length + 1) cN) (acc ++ [(⟨size, o, n⟩ : Ins)]).length (insL (acc ++ [(⟨size, o, n⟩ : Ins)])) := by rw [List.length_append, List.length_singleton]; exact hown6
              have hfin2 : ∀ q, ScanAt w R (.slice (some ⟨gN, 0, none⟩) (acc.length + 1) cN) (acc ++ [(⟨size, o, n⟩ : Ins)]) (size + 1) line2 rest2 more2 (W6.drewN q) := fun q => ⟨own_below hown7 (below_drewQ (Below.refl _ _) q), hgo.symm, hsz', by rw [List.length_append, List.length_singleton]; omega, by omega, by omega, below_drewQ hB6 q⟩
              replace hfin2 := Lib.hid hfin2
              replace hcd := Lib.hid hcd
              replace hbig := Lib.hid hbig
              clear hc2 hgrow hown6 hown7 hgo hres
              go_wp2_with (at_builtin; go_loud (refine wpList_append_known rfl _ _ _ _ rfl _ _ rfl rfl hrun.out ?_))
              refine hc3.out.mono ?_
              rintro e W7 ⟨rfl, q, rfl⟩
              have hfin3 := hfin2.out q
              generalize W6.drewN q = W8 at *
              replace hfin3 := Lib.hid hfin3
              go_wp2_with fail
              refine ⟨⟨_, acc ++ [(⟨size, o, n⟩ : Ins)], size + 1, line2, rest2, more2, rfl, by go_num, rfl, rfl, rfl, (show Hid _ from hfin3.out)⟩, hcd.out⟩
        | true =>
          rw [hlg] at hfd
          have hsl : simLen o = 3 := by unfold simLen; rw [hlg]; rfl
          replace hlg := Lib.hid hlg
          cases right with
          | false =>
            have hRe : R = .inl (acc.length + 1) := by
              rcases hcase.out with ⟨h, _⟩ | ⟨_, _, _, h⟩
              · cases h
              · rw [← hres]
                exact pieces_none (hcond.out.imp id (fun hh => by first | rfl | exact hh)) h
            have hfin : Hid (parV (parse8 s) = .tuple #[.string (str []), .int .i64 ((acc.length : Int) + 1), .int .i64 80]) := by show _ = _; rw [hparse.out, hRe]; rfl
            clear hRe hgrow hown6
            go_wp2_with (at_builtin; go_loud (refine wpList_append_known rfl _ _ _ _ rfl _ _ rfl rfl hrun.out ?_))
            exact bodyPost_ret (v := .tuple #[.string (str []), .int .i64 ((acc.length : Int) + 1), .int .i64 80]) (by simp [results, Tryd.f21, go_sem, str]) rfl ⟨by rw [hfin.out], hB6⟩
          | true =>
            have hrt : readT line = some (o, n) := by
              rcases hcase.out with ⟨_, h⟩ | ⟨h, _⟩
              · exact h
              · cases h
            by_cases hbig : 1024 < size + simLen o
            · have hdb : decide (1024 < (size : Int) + 1 + 2) = true := by rw [hsl] at hbig; simp; omega
              have hdc : 1024 < (size : Int) + 1 + 2 := by rw [hsl] at hbig; omega
              have hRe : R = .inl (acc.length + 1) := by rw [← hres]; exact pieces_big hrt hbig
              replace hbig := Lib.hid hbig
              have hfin : Hid (parV (parse8 s) = .tuple #[.string (str []), .int .i64 ((acc.length : Int) + 1), .int .i64 80]) := by show _ = _; rw [hparse.out, hRe]; rfl
              clear hRe hgrow hown6
              go_wp2_with (at_builtin; go_loud (refine wpList_append_known rfl _ _ _ _ rfl _ _ rfl rfl hrun.out ?_))
              exact bodyPost_ret (v := .tuple #[.string (str []), .int .i64 ((acc.length : Int) + 1), .int .i64 80]) (by simp [results, Tryd.f21, go_sem, str]) rfl ⟨by rw [hfin.out], hB6⟩
            · have hdb : decide (1024 < (size : Int) + 1 + 2) = false := by rw [hsl] at hbig; simp; omega
              have hdc : ¬ 1024 < (size : Int) + 1 + 2 := by rw [hsl] at hbig; omega
              have hgo := pieces_go (rest := rest) (acc := acc) hrt hbig
              rw [hres] at hgo
              have hsz' : size + 3 ≤ 1024 := by rw [hsl] at hbig; omega
              have hcl := cut_len rest 10
              have hpc := pieces_cut rest
              have hcd := cut_drop rest
              rw [← hpc, hsl] at hgo
              clear hpc
              have hc2 := fun W hE => hcut.out rest W (by omega) hE
              generalize (Lib.cut rest [10]).1 = line2 at *
              generalize (Lib.cut rest [10]).2.1 = rest2 at *
              generalize (Lib.cut rest [10]).2.2 = more2 at *
              have hc3 := Lib.hid (hc2 W6 (hE.below hB6))
              have hown7 : W6.ownsRow w.heap.size 66 4 (.slice (some ⟨gN, 0, none⟩) (acc.length + 1) cN) (acc ++ [(⟨size, o, n⟩ : Ins)]).length (insL (acc ++ [(⟨size, o, n⟩ : Ins)])) := by rw [List.length_append, List.length_singleton]; exact hown6
              have hfin2 : ∀ q, ScanAt w R (.slice (some ⟨gN, 0, none⟩) (acc.length + 1) cN) (acc ++ [(⟨size, o, n⟩ : Ins)]) (size + 3) line2 rest2 more2 (W6.drewN q) := fun q => ⟨own_below hown7 (below_drewQ (Below.refl _ _) q), hgo.symm, hsz', by rw [List.length_append, List.length_singleton]; omega, by omega, by omega, below_drewQ hB6 q⟩
              replace hfin2 := Lib.hid hfin2
              replace hcd := Lib.hid hcd
              replace hbig := Lib.hid hbig
              clear hc2 hgrow hown6 hown7 hgo hres
              go_wp2_with (at_builtin; go_loud (refine wpList_append_known rfl _ _ _ _ rfl _ _ rfl rfl hrun.out ?_))
              refine hc3.out.mono ?_
              rintro e W7 ⟨rfl, q, rfl⟩
              have hfin3 := hfin2.out q
              generalize W6.drewN q = W8 at *
              replace hfin3 := Lib.hid hfin3
              go_wp2_with fail
              refine ⟨⟨_, acc ++ [(⟨size, o, n⟩ : Ins)], size + 3, line2, rest2, more2, rfl, by go_num, rfl, rfl, rfl, (show Hid _ from hfin3.out)⟩, hcd.out⟩
      · skip
        clear hmo
        go_wp2_with fail
        refine hrd.out.mono ?_
        rintro e W2 ⟨rfl, hb2⟩
        have hrow2 := own_below hrow hb2
        have hB2 := hB.trans (hb2.mono hB.size)
        obtain ⟨W3, hW3⟩ : ∃ W3, W3 = W2.alloc (.cells #[.int .i64 (size : Int), .int .i64 (o : Int), .int .i64 (n : Int), .int .i64 0] 66) := ⟨_, rfl⟩
        have hb3 : Below W2.heap.size W2 W3 := by rw [hW3]; exact (Below.refl _ _).alloc (Nat.le_refl _) _
        have hA3 : Arr W3 W2.heap.size 66 [.int .i64 (size : Int), .int .i64 (o : Int), .int .i64 (n : Int), .int .i64 0] := by rw [hW3]; exact Arr.new rfl rfl
        have hB3 := hB2.trans (hb3.mono hB2.size)
        have hrow3 := own_below hrow2 hb3
        have hkd := kind_any size o n 0 W3 ho12 (hE.below hB3).ops (hE.below hB3).ops.lt
        unfold insAgg opVals at hkd
        rw [Int.natCast_zero] at hkd
        replace hkd := Lib.hid hkd
        have hfd := fun W => field_long (.string (str (opName o))) (.int .i64 (takesOp o : Nat)) (.int .i64 (putsOp o : Nat)) (.bool (longOp o)) (.bool (leadOp o)) W
        clear hrd
        go_wp2_with fail
        rw [← hW3]
        refine hkd.out.mono ?_
        rintro e W4 ⟨rfl, hb4⟩
        have hA4 := hA3.below hb4
        have hrow4 := own_below hrow3 hb4
        have hB4 := hB3.trans (hb4.mono hB3.size)
        have hal4 : Below W4.heap.size W4 (W4.alloc (.cells #[.int .i64 (size : Int), .int .i64 (o : Int), .int .i64 (n : Int), .int .i64 0] 66)) := (Below.refl _ _).alloc (Nat.le_refl _) _
        obtain ⟨v', W6, hrun, hown6, hgrow⟩ := append_ins (W4.alloc (.cells #[.int .i64 (size : Int), .int .i64 (o : Int), .int .i64 (n : Int), .int .i64 0] 66)) w.heap.size _ acc ⟨size, o, n⟩ (own_below hrow4 hal4) W4.heap.size (Arr.new rfl rfl) (by omega) (by have := hB4.size; simp; omega)
        have hB6 : Below w.heap.size w W6 := grown_below (hB4.alloc hB4.size _) (own_below hrow4 hal4) hgrow (Nat.le_refl _) (by have := hB4.size; simp; omega)
        rw [List.length_append, List.length_singleton] at hown6
        obtain ⟨gN, cN, rfl⟩ := ownsRow_succ hown6
        have q0 := hA4.cell (j := 0) rfl
        have q1 := hA4.cell (j := 1) rfl
        have q2 := hA4.cell (j := 2) rfl
        have q3 := hA4.cell (j := 3) rfl
        replace hrun := Lib.hid hrun
        clear hkd hA3 hA4 hrow hrow2 hrow3 hrow4 hal4 hW3
        cases hlg : longOp o with
        | false =>
          rw [hlg] at hfd
          have hsl : simLen o = 1 := by unfold simLen; rw [hlg]; rfl
          replace hlg := Lib.hid hlg
          cases right with
          | false =>
            have hRe : R = .inl (acc.length + 1) := by
              rcases hcase.out with ⟨h, _⟩ | ⟨_, _, _, h⟩
              · cases h
              · rw [← hres]
                exact pieces_none (hcond.out.imp id (fun hh => by first | rfl | exact hh)) h
            have hfin : Hid (parV (parse8 s) = .tuple #[.string (str []), .int .i64 ((acc.length : Int) + 1), .int .i64 80]) := by show _ = _; rw [hparse.out, hRe]; rfl
            clear hRe hgrow hown6
            go_wp2_with (at_builtin; go_loud (refine wpList_append_known rfl _ _ _ _ rfl _ _ rfl rfl hrun.out ?_))
            exact bodyPost_ret (v := .tuple #[.string (str []), .int .i64 ((acc.length : Int) + 1), .int .i64 80]) (by simp [results, Tryd.f21, go_sem, str]) rfl ⟨by rw [hfin.out], hB6⟩
          | true =>
            have hrt : readT line = some (o, n) := by
              rcases hcase.out with ⟨_, h⟩ | ⟨h, _⟩
              · exact h
              · cases h
            cases more with
            | false =>
              have hRe : R = .inl (acc.length + 1) := by rw [← hres]; exact pieces_last (by rcases hcond.out with h | h; exact h; cases h)
              have hfin : Hid (parV (parse8 s) = .tuple #[.string (str []), .int .i64 ((acc.length : Int) + 1), .int .i64 80]) := by show _ = _; rw [hparse.out, hRe]; rfl
              clear hRe hgrow hown6
              go_wp2_with (at_builtin; go_loud (refine wpList_append_known rfl _ _ _ _ rfl _ _ rfl rfl hrun.out ?_))
              exact bodyPost_ret (v := .tuple #[.string (str []), .int .i64 ((acc.length : Int) + 1), .int .i64 80]) (by simp [results, Tryd.f21, go_sem, str]) rfl ⟨by rw [hfin.out], hB6⟩
            | true =>
              by_cases hbig : 1024 < size + simLen o
              · have hdb : decide (1024 < (size : Int) + 1) = true := by rw [hsl] at hbig; simp; omega
                have hdc : 1024 < (size : Int) + 1 := by rw [hsl] at hbig; omega
                have hRe : R = .inl (acc.length + 1) := by rw [← hres]; exact pieces_big hrt hbig
                replace hbig := Lib.hid hbig
                have hfin : Hid (parV (parse8 s) = .tuple #[.string (str []), .int .i64 ((acc.length : Int) + 1), .int .i64 80]) := by show _ = _; rw [hparse.out, hRe]; rfl
                clear hRe hgrow hown6
                go_wp2_with (at_builtin; go_loud (refine wpList_append_known rfl _ _ _ _ rfl _ _ rfl rfl hrun.out ?_))
                exact bodyPost_ret (v := .tuple #[.string (str []), .int .i64 ((acc.length : Int) + 1), .int .i64 80]) (by simp [results, Tryd.f21, go_sem, str]) rfl ⟨by rw [hfin.out], hB6⟩
              · have hdb : decide (1024 < (size : Int) + 1) = false := by rw [hsl] at hbig; simp; omega
                have hdc : ¬ 1024 < (size : Int) + 1 := by rw [hsl] at hbig; omega
                have hgo := pieces_go (rest := rest) (acc := acc) hrt hbig
                rw [hres] at hgo
                have hsz' : size + 1 ≤ 1024 := by rw [hsl] at hbig; omega
                have hcl := cut_len rest 10
                have hpc := pieces_cut rest
                have hcd := cut_drop rest
                rw [← hpc, hsl] at hgo
                clear hpc
                have hc2 := fun W hE => hcut.out rest W (by omega) hE
                generalize (Lib.cut rest [10]).1 = line2 at *
                generalize (Lib.cut rest [10]).2.1 = rest2 at *
                generalize (Lib.cut rest [10]).2.2 = more2 at *
                have hc3 := Lib.hid (hc2 W6 (hE.below hB6))
                have hown7 : W6.ownsRow w.heap.size 66 4 (.slice (some ⟨gN, 0, none⟩) (acc.length + 1) cN) (acc ++ [(⟨size, o, n⟩ : Ins)]).length (insL (acc ++ [(⟨size, o, n⟩ : Ins)])) := by rw [List.length_append, List.length_singleton]; exact hown6
                have hfin2 : ∀ q, ScanAt w R (.slice (some ⟨gN, 0, none⟩) (acc.length + 1) cN) (acc ++ [(⟨size, o, n⟩ : Ins)]) (size + 1) line2 rest2 more2 (W6.drewN q) := fun q => ⟨own_below hown7 (below_drewQ (Below.refl _ _) q), hgo.symm, hsz', by rw [List.length_append, List.length_singleton]; omega, by omega, by omega, below_drewQ hB6 q⟩
                replace hfin2 := Lib.hid hfin2
                replace hcd := Lib.hid hcd
                replace hbig := Lib.hid hbig
                clear hc2 hgrow hown6 hown7 hgo hres
                go_wp2_with (at_builtin; go_loud (refine wpList_append_known rfl _ _ _ _ rfl _ _ rfl rfl hrun.out ?_))
                refine hc3.out.mono ?_
                rintro e W7 ⟨rfl, q, rfl⟩
                have hfin3 := hfin2.out q
                generalize W6.drewN q = W8 at *
                replace hfin3 := Lib.hid hfin3
                go_wp2_with fail
                refine ⟨⟨_, acc ++ [(⟨size, o, n⟩ : Ins)], size + 1, line2, rest2, more2, rfl, by go_num, rfl, rfl, rfl, (show Hid _ from hfin3.out)⟩, hcd.out⟩
        | true =>
          rw [hlg] at hfd
          have hsl : simLen o = 3 := by unfold simLen; rw [hlg]; rfl
          replace hlg := Lib.hid hlg
          cases right with
          | false =>
            have hRe : R = .inl (acc.length + 1) := by
              rcases hcase.out with ⟨h, _⟩ | ⟨_, _, _, h⟩
              · cases h
              · rw [← hres]
                exact pieces_none (hcond.out.imp id (fun hh => by first | rfl | exact hh)) h
            have hfin : Hid (parV (parse8 s) = .tuple #[.string (str []), .int .i64 ((acc.length : Int) + 1), .int .i64 80]) := by show _ = _; rw [hparse.out, hRe]; rfl
            clear hRe hgrow hown6
            go_wp2_with (at_builtin; go_loud (refine wpList_append_known rfl _ _ _ _ rfl _ _ rfl rfl hrun.out ?_))
            exact bodyPost_ret (v := .tuple #[.string (str []), .int .i64 ((acc.length : Int) + 1), .int .i64 80]) (by simp [results, Tryd.f21, go_sem, str]) rfl ⟨by rw [hfin.out], hB6⟩
          | true =>
            have hrt : readT line = some (o, n) := by
              rcases hcase.out with ⟨_, h⟩ | ⟨h, _⟩
              · exact h
              · cases h
            cases more with
            | false =>
              have hRe : R = .inl (acc.length + 1) := by rw [← hres]; exact pieces_last (by rcases hcond.out with h | h; exact h; cases h)
              have hfin : Hid (parV (parse8 s) = .tuple #[.string (str []), .int .i64 ((acc.length : Int) + 1), .int .i64 80]) := by show _ = _; rw [hparse.out, hRe]; rfl
              clear hRe hgrow hown6
              go_wp2_with (at_builtin; go_loud (refine wpList_append_known rfl _ _ _ _ rfl _ _ rfl rfl hrun.out ?_))
              exact bodyPost_ret (v := .tuple #[.string (str []), .int .i64 ((acc.length : Int) + 1), .int .i64 80]) (by simp [results, Tryd.f21, go_sem, str]) rfl ⟨by rw [hfin.out], hB6⟩
            | true =>
              by_cases hbig : 1024 < size + simLen o
              · have hdb : decide (1024 < (size : Int) + 1 + 2) = true := by rw [hsl] at hbig; simp; omega
                have hdc : 1024 < (size : Int) + 1 + 2 := by rw [hsl] at hbig; omega
                have hRe : R = .inl (acc.length + 1) := by rw [← hres]; exact pieces_big hrt hbig
                replace hbig := Lib.hid hbig
                have hfin : Hid (parV (parse8 s) = .tuple #[.string (str []), .int .i64 ((acc.length : Int) + 1), .int .i64 80]) := by show _ = _; rw [hparse.out, hRe]; rfl
                clear hRe hgrow hown6
                go_wp2_with (at_builtin; go_loud (refine wpList_append_known rfl _ _ _ _ rfl _ _ rfl rfl hrun.out ?_))
                exact bodyPost_ret (v := .tuple #[.string (str []), .int .i64 ((acc.length : Int) + 1), .int .i64 80]) (by simp [results, Tryd.f21, go_sem, str]) rfl ⟨by rw [hfin.out], hB6⟩
              · have hdb : decide (1024 < (size : Int) + 1 + 2) = false := by rw [hsl] at hbig; simp; omega
                have hdc : ¬ 1024 < (size : Int) + 1 + 2 := by rw [hsl] at hbig; omega
                have hgo := pieces_go (rest := rest) (acc := acc) hrt hbig
                rw [hres] at hgo
                have hsz' : size + 3 ≤ 1024 := by rw [hsl] at hbig; omega
                have hcl := cut_len rest 10
                have hpc := pieces_cut rest
                have hcd := cut_drop rest
                rw [← hpc, hsl] at hgo
                clear hpc
                have hc2 := fun W hE => hcut.out rest W (by omega) hE
                generalize (Lib.cut rest [10]).1 = line2 at *
                generalize (Lib.cut rest [10]).2.1 = rest2 at *
                generalize (Lib.cut rest [10]).2.2 = more2 at *
                have hc3 := Lib.hid (hc2 W6 (hE.below hB6))
                have hown7 : W6.ownsRow w.heap.size 66 4 (.slice (some ⟨gN, 0, none⟩) (acc.length + 1) cN) (acc ++ [(⟨size, o, n⟩ : Ins)]).length (insL (acc ++ [(⟨size, o, n⟩ : Ins)])) := by rw [List.length_append, List.length_singleton]; exact hown6
                have hfin2 : ∀ q, ScanAt w R (.slice (some ⟨gN, 0, none⟩) (acc.length + 1) cN) (acc ++ [(⟨size, o, n⟩ : Ins)]) (size + 3) line2 rest2 more2 (W6.drewN q) := fun q => ⟨own_below hown7 (below_drewQ (Below.refl _ _) q), hgo.symm, hsz', by rw [List.length_append, List.length_singleton]; omega, by omega, by omega, below_drewQ hB6 q⟩
                replace hfin2 := Lib.hid hfin2
                replace hcd := Lib.hid hcd
                replace hbig := Lib.hid hbig
                clear hc2 hgrow hown6 hown7 hgo hres
                go_wp2_with (at_builtin; go_loud (refine wpList_append_known rfl _ _ _ _ rfl _ _ rfl rfl hrun.out ?_))
                refine hc3.out.mono ?_
                rintro e W7 ⟨rfl, q, rfl⟩
                have hfin3 := hfin2.out q
                generalize W6.drewN q = W8 at *
                replace hfin3 := Lib.hid hfin3
                go_wp2_with fail
                refine ⟨⟨_, acc ++ [(⟨size, o, n⟩ : Ins)], size + 3, line2, rest2, more2, rfl, by go_num, rfl, rfl, rfl, (show Hid _ from hfin3.out)⟩, hcd.out⟩
end Go.Proofs.YtainohbfcehpoaaDoor
