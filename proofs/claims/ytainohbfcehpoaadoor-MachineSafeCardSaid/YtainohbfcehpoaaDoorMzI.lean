/-
  The contract of machine.Parse.
  The fixed examples of chapter 8, plain.
  The fixed examples: sane is true.
  The helper pick of the law and of the reference.
  Two rows of the call's own: a stack of numbers (its top first) and the bytes of an output; each grows without the other.
-/
import Derived.Test.YtainohbfcehpoaaDoorMzH
import Derived.Test.YtainohbfcehpoaaDoorMzD
import Derived.Test.YtainohbfcehpoaaDoorMzG
namespace Go.Proofs.YtainohbfcehpoaaDoor
open Go.RowKit Go.Shelf

theorem append_bytes (w : World) (base : Nat) (v : Value) (out vs : List UInt8) (m : Nat) (hm : m = out.length) (hown : w.ownsRow base 5 1 v m (u8C out)) (b n : Nat) (hn : n = vs.length) (hA : Arr w b 5 (u8C vs)) (hl : out.length ≤ 1000000) (hv : vs.length ≤ 10) (hb : base ≤ w.heap.size) :
    ∃ v' w' m', (Builtin.append_ #[46, 46] 46 #[v, .slice (some ⟨b, 0, none⟩) n n]).run Tryd.prog w = .ok v' w' ∧ m' = (out ++ vs).length ∧ w'.ownsRow base 5 1 v' m' (u8C (out ++ vs)) ∧ w.grownBy w' v.ownBlock := by
  subst hn hm
  obtain ⟨i0, hi, hz0, hz1, hz2⟩ := info_parts info_u8
  obtain ⟨v', w', hrun, r1, r2, r3, _⟩ := run_append_own_at (P := Tryd.prog) w base 46 46 5 i0 (.int .u8 0) 1 1 Tryd.underlying46 hi hz0 hz1 hz2 rfl (by decide) v out.length (u8C out) hown ⟨b, 0, none⟩ vs.length vs.length (u8C vs) (by simp [u8C]) (fun j u hu => by rw [Addr.add_mid, Nat.zero_add]; exact hA.cell hu) (fun u hu => by
      obtain ⟨z, _, rfl⟩ := List.mem_map.1 hu
      rfl) (by unfold maxLen; omega) (by omega) hb
  refine ⟨v', w', _, hrun, rfl, ?_, r2⟩
  rw [List.length_append, show u8C (out ++ vs) = u8C out ++ u8C vs by simp [u8C]]
  exact r1
/-- What append leaves of a row of another type. -/
theorem grown_row {w w' : World} {base : Nat} {e T : TypeId} {v : Value} {n s : Nat} {xs : List Value} (hown : w.ownsRow base e s v n xs) (hg : w.grownBy w' v.ownBlock) {k : Nat} {cs : Array Value} {fr : Nat × Nat} (hk : w.heap[k]? = some (.cells cs T fr)) (hT : T ≠ e) : w'.heap[k]? = w.heap[k]? := by
  refine hg.block k (Array.getElem?_eq_some_iff.1 hk).1 (fun eb => ?_)
  rcases hown.2 with ⟨rfl, _⟩ | ⟨g, cap, cur, rfl, _, hgb, _⟩
  · cases eb
  · injection eb with eb
    have eb' : k = g := eb
    rw [eb', hgb] at hk
    injection hk with hk
    injection hk with _ hk _
    exact hT hk.symm
theorem grown_below {w0 w w' : World} {base B : Nat} {e : TypeId} {v : Value} {n s : Nat} {xs : List Value} (h : Below B w0 w) (hown : w.ownsRow base e s v n xs) (hg : w.grownBy w' v.ownBlock) (hB : B ≤ base) (hs : B ≤ w.heap.size) : Below B w0 w' :=
  h.grown hg hs (fun k hk => Nat.le_trans hB (hown.lt k hk).1)
theorem readV_cases (s : List UInt8) : ∃ o n right, readV (readT s) = .tuple #[insAgg 0 o n 0, .bool right] ∧ o < 12 ∧ ((right = true ∧ readT s = some (o, n)) ∨ (right = false ∧ o = 0 ∧ n = 0 ∧ readT s = none)) := by
  cases h : readT s with
  | none => exact ⟨0, 0, false, rfl, by omega, .inr ⟨rfl, rfl, rfl, rfl⟩⟩
  | some x =>
    obtain ⟨o, n⟩ := x
    exact ⟨o, n, true, rfl, (readT_some h).2.1, .inl ⟨rfl, rfl⟩⟩
def measP : Value → Value → Nat
  | .string s, .bool true => s.size + 2
  | _, _ => 1
theorem cut_drop (s : List UInt8) : measP (.string (str (Lib.cut s [10]).2.1)) (.bool (Lib.cut s [10]).2.2) < measP (.string (str s)) (.bool true) := by
  show _ < (str s).size + 2
  rw [str_size]
  rcases cut_one 10 s with ⟨p, hp, hc⟩ | ⟨p, r, _, hc, hs⟩
  · rw [hc]
    show 1 < _
    omega
  · rw [hc]
    show (str r).size + 2 < _
    rw [str_size, hs, List.length_append, List.length_cons]
    omega
def piecesOf (line rest : List UInt8) (more : Bool) : List (List UInt8) := if more then line :: cutAll 10 rest else [line]
theorem pieces_cut (s : List UInt8) : piecesOf (Lib.cut s [10]).1 (Lib.cut s [10]).2.1 (Lib.cut s [10]).2.2 = cutAll 10 s := by
  unfold piecesOf
  rcases cut_one 10 s with ⟨p, hp, hc⟩ | ⟨p, r, hp, hc, _⟩
  · rw [hc, hp]; rfl
  · rw [hc, hp]; rfl
theorem pieces_none {line rest : List UInt8} {more : Bool} {size : Nat} {acc : List Ins} (h : line ≠ [] ∨ more = true) (hr : readT line = none) : scan (piecesOf line rest more) size acc = .inl (acc.length + 1) := by
  unfold piecesOf
  cases more with
  | false =>
    rw [if_neg (by decide), scan, if_neg (by simpa using h)]
  | true =>
    rw [if_pos rfl]
    cases hc : cutAll 10 rest with
    | nil => exact absurd hc (cutAll_ne _ _)
    | cons q r => rw [scan, hr]
theorem pieces_last {line rest : List UInt8} {size : Nat} {acc : List Ins} (h : line ≠ []) : scan (piecesOf line rest false) size acc = .inl (acc.length + 1) := by
  unfold piecesOf
  rw [if_neg (by decide), scan, if_neg h]
theorem pieces_big {line rest : List UInt8} {size o n : Nat} {acc : List Ins} (hr : readT line = some (o, n)) (hs : 1024 < size + simLen o) : scan (piecesOf line rest true) size acc = .inl (acc.length + 1) := by
  unfold piecesOf
  rw [if_pos rfl]
  cases hc : cutAll 10 rest with
  | nil => exact absurd hc (cutAll_ne _ _)
  | cons q r => rw [scan, hr]; dsimp only; rw [if_pos hs]
theorem pieces_go {line rest : List UInt8} {size o n : Nat} {acc : List Ins} (hr : readT line = some (o, n)) (hs : ¬ 1024 < size + simLen o) : scan (piecesOf line rest true) size acc = scan (cutAll 10 rest) (size + simLen o) (acc ++ [⟨size, o, n⟩]) := by
  unfold piecesOf
  rw [if_pos rfl]
  cases hc : cutAll 10 rest with
  | nil => exact absurd hc (cutAll_ne _ _)
  | cons q r => rw [scan, hr]; dsimp only; rw [if_neg hs]
def fin8 : Nat ⊕ List Ins → List UInt8 × Nat × Int
  | .inl k => ([], k, 80)
  | .inr l => if l = [] then ([], 1, 80) else match badLead l with
    | some i => ([], i + 1, 80)
    | none => (codeB l, 0, 0)
theorem parse8_eq (s : List UInt8) : parse8 s = fin8 (scan (cutAll 10 s) 0 []) := by
  unfold parse8 fin8
  cases scan (cutAll 10 s) 0 [] <;> rfl
def parV (x : List UInt8 × Nat × Int) : Value := .tuple #[.string (str x.1), .int .i64 ((x.2.1 : Nat) : Int), .int .i64 x.2.2]
/-- The bytes of the first instructions. -/
def codeK (l : List Ins) (k : Nat) : List UInt8 := (l.take k).flatMap fun x => simB x.op (if leadOp x.op then l[x.opd]!.off else x.opd)
theorem codeK_succ {L : List Ins} {k : Nat} (h : k < L.length) : codeK L (k + 1) = codeK L k ++ simB L[k]!.op (if leadOp L[k]!.op then L[L[k]!.opd]!.off else L[k]!.opd) := by
  unfold codeK
  rw [List.take_succ_eq_append_getElem h, List.flatMap_append, getElem!_pos L k h]
  simp
theorem codeK_all (L : List Ins) : codeK L L.length = codeB L := by unfold codeK codeB; rw [List.take_length]
theorem codeK_len (L : List Ins) : ∀ k, k ≤ L.length → (codeK L k).length ≤ 3 * k
  | 0, _ => by simp [codeK]
  | k + 1, h => by
    have ih := codeK_len L k (by omega)
    rw [codeK_succ (by omega), List.length_append, simB_len]
    have : simLen L[k]!.op ≤ 3 := by unfold simLen; split <;> omega
    omega
theorem badLead_none {L : List Ins} (h : ∀ i, i < L.length → leadOp L[i]!.op = true → L[i]!.opd < L.length) : badLead L = none := by
  unfold badLead
  rw [List.findIdx?_eq_none_iff]
  intro x hx
  obtain ⟨i, hi, rfl⟩ := mem_at hx
  have := h i hi
  cases hl : leadOp L[i]!.op with
  | false => rfl
  | true =>
    have h2 := this hl
    rw [Bool.true_and, decide_eq_false_iff_not]
    omega
theorem badLead_some {L : List Ins} {k : Nat} (hk : k < L.length) (h : ∀ i, i < k → leadOp L[i]!.op = true → L[i]!.opd < L.length) (hl : leadOp L[k]!.op = true) (hb : L.length ≤ L[k]!.opd) : badLead L = some k := by
  unfold badLead
  rw [List.findIdx?_eq_some_iff_getElem]
  refine ⟨hk, ?_, fun j hj => ?_⟩
  · rw [← getElem!_pos L k hk, hl, Bool.true_and]
    exact decide_eq_true hb
  · have := h j hj
    rw [← getElem!_pos L j (by omega)]
    cases hl2 : leadOp L[j]!.op with
    | false => simp
    | true =>
      have h2 := this hl2
      rw [Bool.true_and, decide_eq_true_iff]
      omega
theorem own_setT {W : World} {B c o n s : Nat} {e T : TypeId} {v u : Value} {xs L : List Value} (h : W.ownsRow B e s v n xs) (hA : Arr W c T L) (hT : T ≠ e) : (W.setCell ⟨c, o, none⟩ u).ownsRow B e s v n xs := by
  refine ⟨h.1, ?_⟩
  rcases h.2 with hh | ⟨g, cap, cur, hv, q1, q2, r⟩
  · exact .inl hh
  · refine .inr ⟨g, cap, cur, hv, q1, (heap_setCell_other _ _ _ _ ?_).trans q2, r⟩
    intro e'
    simp only at e'
    unfold Arr at hA
    rw [e', hA] at q2
    injection q2 with q2
    injection q2 with _ q2 _
    exact hT q2
/-- What lies while Parse writes the program. -/
structure ParB (w : World) (acc : List Ins) (g k : Nat) (v : Value) (W : World) : Prop where
  row : W.ownsRow w.heap.size 5 1 v (codeK acc k).length (u8C (codeK acc k))
  ins : InsRow W g 0 acc (tosK acc 0)
  blk : ∃ cur, W.heap[g]? = some (.cells cur 66 (0, 0))
  bel : Below w.heap.size w W
  ok : ∀ i, i < k → leadOp acc[i]!.op = true → acc[i]!.opd < acc.length
/-- What lies while Parse reads lines. -/
structure ScanAt (w : World) (R : Nat ⊕ List Ins) (v : Value) (acc : List Ins) (size : Nat) (line rest : List UInt8) (more : Bool) (W : World) : Prop where
  row : W.ownsRow w.heap.size 66 4 v acc.length (insL acc)
  res : scan (piecesOf line rest more) size acc = R
  sz : size ≤ 1024
  al : acc.length ≤ size
  ll : line.length ≤ 1000000
  rl : rest.length ≤ 1000000
  bel : Below w.heap.size w W
set_option maxRecDepth 100000 in
set_option maxHeartbeats 8000000 in
theorem Parse_any (s : List UInt8) (w : World) (hs : s.length ≤ 1000000) (hE : Env w) :
    Calls Tryd.prog 21 #[.string (str s)] w fun e w' => e = .returned (parV (parse8 s)) ∧ Below w.heap.size w w' := by
  have hcut := fun (s : List UInt8) w hs hE => cut_any 10 s w (by exact hs) hE
  rw [show str [10] = ⟨#[10]⟩ from rfl] at hcut
  replace hcut := Lib.hid hcut
  obtain ⟨R, hR⟩ : ∃ R, R = scan (cutAll 10 s) 0 [] := ⟨_, rfl⟩
  have hparse : parse8 s = fin8 R := by rw [hR]; exact parse8_eq s
  have hcl := cut_len s 10
  have hpc := pieces_cut s
  rw [← hpc] at hR
  clear hpc
  have hc1 := hcut.out s w (by omega) hE
  generalize (Lib.cut s [10]).1 = line0 at *
  generalize (Lib.cut s [10]).2.1 = rest0 at *
  generalize (Lib.cut s [10]).2.2 = more0 at *
  replace hparse := Lib.hid hparse
  replace hc1 := Lib.hid hc1
  go_enter Tryd.func21, Tryd.ntmps21
  go_wp2_with fail
  refine hc1.out.mono ?_
  rintro e w1 ⟨rfl, q, rfl⟩
  have hb1 : Below w.heap.size w (w.drewN q) := below_drewQ (Below.refl _ _) q
  go_wp2_with fail
  have hsc0 : ScanAt w R (.slice none 0 0) [] 0 line0 rest0 more0 (w.drewN q) := ⟨World.ownsRow_nil _ _ _ _, hR.symm, by omega, Nat.le_refl _, by omega, by omega, hb1⟩
  go_loopw [5, 6, 7, 8, 9] (fun l sz a r m wr => ∃ (v : Value) (acc : List Ins) (size : Nat) (line rest : List UInt8) (more : Bool), v = l ∧ sz = .int .i64 (size : Int) ∧ a = .string (str line) ∧ r = .string (str rest) ∧ m = .bool more ∧ Hid (ScanAt w R v acc size line rest more wr)) (fun _ _ _ r m _ => measP r m)
  case atStart => exact ⟨_, [], 0, line0, rest0, more0, rfl, rfl, rfl, rfl, rfl, (show Hid _ from hsc0)⟩
  case round =>
    obtain ⟨v, acc, size, line, rest, more, rfl, rfl, rfl, rfl, rfl, hall⟩ := hrel
    obtain ⟨hrow, hres, hsz, hal, hll, hrl, hB⟩ := hall.out
    clear hall hsc0 hc1 hcl
    by_cases hgo : line = [] ∧ more = false
    · obtain ⟨rfl, rfl⟩ := hgo
      have he1 : (str []).toList.isEmpty = true := by rw [ByteArray.toList_eq]; rfl
      have hRe : R = .inr acc := by rw [← hres]; rfl
      rw [hRe] at hparse
      rcases List.eq_nil_or_concat acc with rfl | ⟨acc0, x0, hacc⟩
      · obtain ⟨va, vc, rfl⟩ := own_val hrow
        have hfin : Hid (parV (parse8 s) = .tuple #[.string (str []), .int .i64 1, .int .i64 80]) := by show _ = _; rw [hparse.out]; rfl
        clear hRe hrow hres
        go_wp2_with fail
        exact bodyPost_ret (v := .tuple #[.string (str []), .int .i64 1, .int .i64 80]) (by simp [results, Tryd.f21, go_sem, str]) rfl ⟨by rw [hfin.out], hB⟩
      · have hne0 : acc.length ≠ 0 := by rw [hacc]; simp
        have hne : acc ≠ [] := fun e => hne0 (by rw [e]; rfl)
        clear hacc
        obtain ⟨g, cap, cur, rfl, hbg, hgb, hnc, hcm, hcs, hct⟩ : ∃ g cap cur, v = .slice (some ⟨g, 0, none⟩) acc.length cap ∧ w.heap.size ≤ g ∧ wr.heap[g]? = some (.cells cur 66 (0, 0)) ∧ acc.length ≤ cap ∧ cap ≤ maxLen ∧ cur.size = cap * 4 ∧ cur.toList.take (acc.length * 4) = insL acc := by
          rcases hrow.2 with ⟨_, h0⟩ | h
          · exact absurd h0 hne0
          · exact h
        have hRow : InsRow wr g 0 acc (tosK acc 0) := insRow_of_cur hgb hct
        have hal1 : acc.length ≤ 1024 := by omega
        have hoffs : Hid (∀ i, i < acc.length → acc[i]!.off < 65536) := fun i hi => by
          obtain ⟨ys, e1, _, hL, _, hsz2⟩ := scan_inr (piecesOf line0 rest0 more0) 0 [] acc (by unfold piecesOf; split <;> simp) (by rw [← hR]; exact hRe)
          rw [List.nil_append] at e1
          subst e1
          rcases hsz2 with h | h
          · exact absurd h hne
          · have := laid_off hL hi (m := 1024) (by omega)
            omega
        have hq0 : ((acc.length : Int) == 0) = false := by rw [beq_eq_false_iff_ne]; omega
--TWO
        have hInr := scan_inr (piecesOf line0 rest0 more0) 0 [] acc (by unfold piecesOf; split <;> simp) (by rw [← hR]; exact hRe)
        have hNt : ∀ x ∈ acc, Neat x := by
          obtain ⟨ys, e1, _, _, hN, _⟩ := hInr
          rw [e1, List.nil_append]
          exact hN
        clear hInr hRe hrow hres hct
        go_wp2_with fail
        have hpb0 : ParB w acc g 0 (.slice none 0 0) wr := ⟨World.ownsRow_nil _ _ _ _, hRow, ⟨cur, hgb⟩, hB, fun i hi => absurd hi (Nat.not_lt_zero _)⟩
        go_loopw [12, 67] (fun ov i wr => ∃ (v : Value) (k : Nat), v = ov ∧ k ≤ acc.length ∧ i = .int .i64 (k : Int) ∧ Hid (ParB w acc g k v wr)) (fun _ i _ => acc.length - (intOf i).toNat)
        case atStart => exact ⟨_, 0, rfl, Nat.zero_le _, rfl, (show Hid _ from hpb0)⟩
        case round =>
          obtain ⟨v, k, rfl, hk, rfl, hall2⟩ := hrel
          rename_i wr0 _ _ _ wr
          obtain ⟨hrow, hRw, ⟨curw, hgw⟩, hBw, hok⟩ := hall2.out
          clear hall2 hpb0 hRow hgb hB
          have hcl := codeK_len acc k hk
          by_cases hlt : k < acc.length
          · have hd : decide ((k : Int) < (acc.length : Int)) = true := by simpa using hlt
            have i1 : (k : Int) < (acc.length : Int) := by omega
            obtain ⟨n0, n1, n2, n3⟩ := hRw k hlt
            simp only [Nat.zero_add] at n0 n1 n2 n3
            have e0 : tosK acc 0 k = 0 := by simp [tosK]
            rw [e0, Int.natCast_zero] at n3
            have hz' := hNt acc[k]! (by rw [getElem!_pos acc k hlt]; exact List.getElem_mem hlt)
            have hsucc := codeK_succ hlt
            have hbs := fun h1 h2 => badLead_some hlt hok (hl := h1) (hb := h2)
            have hok2 : (leadOp acc[k]!.op = true → acc[k]!.opd < acc.length) → ∀ i, i < k + 1 → leadOp acc[i]!.op = true → acc[i]!.opd < acc.length := fun h i hi => by
              by_cases e : i = k
              · subst e; exact h
              · exact hok i (by omega)
            replace hok2 := Lib.hid hok2
            obtain ⟨z, hz⟩ : ∃ z, z = acc[k]! := ⟨_, rfl⟩
            rw [← hz] at n0 n1 n2 hz' hsucc hbs
            have hzl := hz'.lt
            have hzo := hz'.opd
            have hlng : leadOp z.op = true → longOp z.op = true := longOp_lead
            replace hz := Lib.hid hz
            replace hbs := Lib.hid hbs
            obtain ⟨Wx, hWx⟩ : ∃ Wx, Wx = wr.alloc (.cells #[.int .i64 (z.off : Int), .int .i64 (z.op : Int), .int .i64 (z.opd : Int), .int .i64 0] 66) := ⟨_, rfl⟩
            have hbx : Below wr.heap.size wr Wx := by rw [hWx]; exact (Below.refl _ _).alloc (Nat.le_refl _) _
            have hAx : Arr Wx wr.heap.size 66 [.int .i64 (z.off : Int), .int .i64 (z.op : Int), .int .i64 (z.opd : Int), .int .i64 0] := by rw [hWx]; exact Arr.new rfl rfl
            have hBx := hBw.trans (hbx.mono hBw.size)
            have hgx := (hbx.block g (Array.getElem?_eq_some_iff.1 hgw).1).trans hgw
            have hrowx := own_below hrow hbx
            obtain ⟨b0, hb0⟩ : ∃ b0, b0 = UInt8.ofNat z.op := ⟨_, rfl⟩
            have hbn : ((b0.toNat : Nat) : Int) = (z.op : Int) := by rw [hb0, UInt8.toNat_ofNat']; omega
            have hw0 : IntKind.u8.wrap (z.op : Int) = (b0.toNat : Int) := by rw [hbn]; exact IntWalk.u8_in _ (by omega)
            obtain ⟨vo, vc, rfl⟩ := own_val hrow
            have hal1 : Below Wx.heap.size Wx (Wx.alloc (.cells #[.int .u8 (b0.toNat : Int)] 5)) := (Below.refl _ _).alloc (Nat.le_refl _) _
            obtain ⟨v1, W1, m1, hrun1, hm1, hown1, hgr1⟩ := append_bytes (Wx.alloc (.cells #[.int .u8 (b0.toNat : Int)] 5)) w.heap.size _ (codeK acc k) [b0] _ rfl (own_below hrowx hal1) Wx.heap.size 1 rfl (Arr.new rfl rfl) (by omega) (by simp) (by have := hBx.size; simp; omega)
            have hB1 : Below w.heap.size w W1 := grown_below (hBx.alloc hBx.size _) (own_below hrowx hal1) hgr1 (Nat.le_refl _) (by have := hBx.size; simp; omega)
            have hk1 : ∀ {k : Nat} {cs : Array Value} {T : TypeId} {fr : Nat × Nat}, Wx.heap[k]? = some (.cells cs T fr) → T ≠ 5 → W1.heap[k]? = some (.cells cs T fr) := fun {k cs T fr} h ht => by
              have h2 := (hal1.block k (Array.getElem?_eq_some_iff.1 h).1).trans h
              exact (grown_row (own_below hrowx hal1) hgr1 h2 ht).trans h2
            obtain ⟨va1, vc1, rfl⟩ := own_val hown1
            rw [hWx] at hrun1
            simp only [World.size_alloc] at hrun1
            have hA1 : Arr W1 wr.heap.size 66 [.int .i64 (z.off : Int), .int .i64 (z.op : Int), .int .i64 (z.opd : Int), .int .i64 0] := hk1 hAx (by decide)
            have hg1 := hk1 hgx (by decide)
            have hkd := kind_any z.off z.op z.opd 0 W1 hzl (hE.below hB1).ops (hE.below hB1).ops.lt
            unfold insAgg opVals at hkd
            rw [Int.natCast_zero] at hkd
            have hfd := fun W => field_lead (.string (str (opName z.op))) (.int .i64 (takesOp z.op : Nat)) (.int .i64 (putsOp z.op : Nat)) (.bool (longOp z.op)) (.bool (leadOp z.op)) W
            have hfl := fun W => field_long (.string (str (opName z.op))) (.int .i64 (takesOp z.op : Nat)) (.int .i64 (putsOp z.op : Nat)) (.bool (longOp z.op)) (.bool (leadOp z.op)) W
            have q0 := hA1.cell (j := 0) rfl
            have q1 := hA1.cell (j := 1) rfl
            have q2 := hA1.cell (j := 2) rfl
            have q3 := hA1.cell (j := 3) rfl
            have hlen1 : (codeK acc k ++ [b0]).length ≤ 5000 := by rw [List.length_append, List.length_singleton]; omega
            replace hrun1 := Lib.hid hrun1
            replace hm1 := Lib.hid hm1
            replace hb0 := Lib.hid hb0
            replace hbn := Lib.hid hbn
            replace hlen1 := Lib.hid hlen1
            clear hrowx hgr1 hrow hWx hk1 hAx
            cases hlg : longOp z.op with
            | false =>
              have hld : leadOp z.op = false := by
                cases hq : leadOp z.op with
                | false => rfl
                | true => rw [hlng hq] at hlg; cases hlg
              have hsim : codeK acc (k + 1) = codeK acc k ++ [b0] := by rw [hsucc, simB, hlg, hb0.out]; rfl
              rw [hlg, hld] at hkd hfd hfl
              replace hsim := Lib.hid hsim
              replace hlg := Lib.hid hlg
              replace hld := Lib.hid hld
              clear hlng hsucc
              replace hkd := Lib.hid hkd
              go_wp2_with (at_builtin; go_loud (refine wpList_append_known rfl _ _ _ _ rfl _ _ rfl rfl hrun1.out ?_))
              refine hkd.out.mono ?_
              rintro e W4 ⟨rfl, hb4⟩
              have hA4 := hA1.below hb4
              have hg4 := (hb4.block g (Array.getElem?_eq_some_iff.1 hg1).1).trans hg1
              have hB4 := hB1.trans (hb4.mono hB1.size)
              have hown4 := own_below hown1 hb4
              clear hkd hA1 hown1 q0 q1 q2 q3
              have hkd2 := kind_any z.off z.op (z.opd) 0 W4 hzl (hE.below hB4).ops (hE.below hB4).ops.lt
              unfold insAgg opVals at hkd2
              rw [Int.natCast_zero, hlg.out, hld.out] at hkd2
              replace hkd2 := Lib.hid hkd2
              have p0 := hA4.cell (j := 0) rfl
              have p1 := hA4.cell (j := 1) rfl
              have p2 := hA4.cell (j := 2) rfl
              have p3 := hA4.cell (j := 3) rfl
              go_wp2_with fail
              refine hkd2.out.mono ?_
              rintro e W6 ⟨rfl, hb6⟩
              have hA6 := hA4.below hb6
              have hg6 := (hb6.block g (Array.getElem?_eq_some_iff.1 hg4).1).trans hg4
              have hBk := hB4.trans (hb6.mono hB4.size)
              have hown6 := own_below hown4 hb6
              clear hkd2 p0 p1 p2 p3
              have hfin : ParB w acc g (k + 1) (.slice va1 m1 vc1) W6 := ⟨by rw [hsim.out, ← hm1.out]; exact hown6, hRw.keep (hg6.trans hgw.symm), ⟨curw, hg6⟩, hBk, hok2.out (fun h => by rw [← hz.out, hld.out] at h; cases h)⟩
              replace hfin := Lib.hid hfin
              clear hown6 hRw
              go_wp2_with fail
              refine ⟨⟨_, k + 1, rfl, by omega, by go_num, (show Hid _ from hfin.out)⟩, by simp [intOf]; omega⟩
            | true =>
              cases hld : leadOp z.op with
              | false =>
                obtain ⟨nn, hnn⟩ : ∃ nn, nn = z.opd := ⟨_, rfl⟩
                have hnb : nn < 65536 := by omega
                obtain ⟨b1, hb1⟩ : ∃ b1, b1 = UInt8.ofNat (nn / 256) := ⟨_, rfl⟩
                obtain ⟨b2, hb2⟩ : ∃ b2, b2 = UInt8.ofNat (nn % 256) := ⟨_, rfl⟩
                have hbn1 : ((b1.toNat : Nat) : Int) = (nn : Int) / 256 := by rw [hb1, UInt8.toNat_ofNat']; omega
                have hbn2 : ((b2.toNat : Nat) : Int) = (nn : Int) % 256 := by rw [hb2, UInt8.toNat_ofNat']; omega
                have hwa : IntKind.u8.wrap ((nn : Int) / 256) = (b1.toNat : Int) := by rw [hbn1]; exact IntWalk.u8_in _ (by omega)
                have hwb : IntKind.u8.wrap (nn : Int) = (b2.toNat : Int) := by rw [hbn2]; simp [IntKind.wrap, IntKind.bits, IntKind.signed]
                have hwb2 : (nn : Int) % 256 = (b2.toNat : Int) := hbn2.symm
                replace hb1 := Lib.hid hb1
                replace hb2 := Lib.hid hb2
                replace hbn1 := Lib.hid hbn1
                replace hbn2 := Lib.hid hbn2
                rw [hld, if_neg (by decide), ← hnn] at hsucc
                have hsim : codeK acc (k + 1) = codeK acc k ++ [b0] ++ [b1, b2] := by rw [hsucc, simB, hlg, hb0.out, hb1.out, hb2.out, List.append_assoc]; rfl
                rw [← hnn] at hA1 hkd q2 hrun1
                rw [hlg, hld] at hkd hfd hfl
                replace hsim := Lib.hid hsim
                replace hlg := Lib.hid hlg
                replace hld := Lib.hid hld
                clear hlng hsucc
                rw [← hnn] at n2
                replace hnn := Lib.hid hnn
                replace hkd := Lib.hid hkd
                go_wp2_with (at_builtin; go_loud (refine wpList_append_known rfl _ _ _ _ rfl _ _ rfl rfl hrun1.out ?_))
                refine hkd.out.mono ?_
                rintro e W4 ⟨rfl, hb4⟩
                have hA4 := hA1.below hb4
                have hg4 := (hb4.block g (Array.getElem?_eq_some_iff.1 hg1).1).trans hg1
                have hB4 := hB1.trans (hb4.mono hB1.size)
                have hown4 := own_below hown1 hb4
                clear hkd hA1 hown1 q0 q1 q2 q3
                have hkd2 := kind_any z.off z.op (nn) 0 W4 hzl (hE.below hB4).ops (hE.below hB4).ops.lt
                unfold insAgg opVals at hkd2
                rw [Int.natCast_zero, hlg.out, hld.out] at hkd2
                replace hkd2 := Lib.hid hkd2
                have p0 := hA4.cell (j := 0) rfl
                have p1 := hA4.cell (j := 1) rfl
                have p2 := hA4.cell (j := 2) rfl
                have p3 := hA4.cell (j := 3) rfl
                go_wp2_with fail
                refine hkd2.out.mono ?_
                rintro e W6 ⟨rfl, hb6⟩
                have hA6 := hA4.below hb6
                have hg6 := (hb6.block g (Array.getElem?_eq_some_iff.1 hg4).1).trans hg4
                have hBk := hB4.trans (hb6.mono hB4.size)
                have hown6 := own_below hown4 hb6
                clear hkd2 p0 p1 p2 p3
                have hlen1' := hlen1.out
                
                have hal2 : Below W6.heap.size W6 (W6.alloc (.cells #[.int .u8 (b1.toNat : Int), .int .u8 (b2.toNat : Int)] 5)) := (Below.refl _ _).alloc (Nat.le_refl _) _
                obtain ⟨v2, W2, m2, hrun2, hm2, hown2, hgr2⟩ := append_bytes (W6.alloc (.cells #[.int .u8 (b1.toNat : Int), .int .u8 (b2.toNat : Int)] 5)) w.heap.size _ (codeK acc k ++ [b0]) [b1, b2] _ hm1.out (own_below hown6 hal2) W6.heap.size 2 rfl (Arr.new rfl rfl) (by omega) (by simp) (by have := hBk.size; simp; omega)
                have hB2 : Below w.heap.size w W2 := grown_below (hBk.alloc hBk.size _) (own_below hown6 hal2) hgr2 (Nat.le_refl _) (by have := hBk.size; simp; omega)
                have hk2 : ∀ {k : Nat} {cs : Array Value} {T : TypeId} {fr : Nat × Nat}, W6.heap[k]? = some (.cells cs T fr) → T ≠ 5 → W2.heap[k]? = some (.cells cs T fr) := fun {k cs T fr} h ht => by
                  have h2 := (hal2.block k (Array.getElem?_eq_some_iff.1 h).1).trans h
                  exact (grown_row (own_below hown6 hal2) hgr2 h2 ht).trans h2
                obtain ⟨va2, vc2, rfl⟩ := own_val hown2
                
                have hg8 := hk2 hg6 (by decide)
                replace hm2 := Lib.hid hm2
                have hfin : ParB w acc g (k + 1) (.slice va2 m2 vc2) W2 := ⟨by rw [hsim.out, ← hm2.out]; exact hown2, hRw.keep (hg8.trans hgw.symm), ⟨curw, hg8⟩, hB2, hok2.out (fun h => by rw [← hz.out, hld.out] at h; cases h)⟩
                have s2 := hA6.cell (j := 2) rfl
                replace hfin := Lib.hid hfin
                replace hrun2 := Lib.hid hrun2
                clear hown6 hRw hown2 hgr2 hk2 hal2 hlen1'
                go_wp2_with (at_builtin; go_loud (refine wpList_append_known rfl _ _ _ _ rfl _ _ rfl rfl hrun2.out ?_))
                refine ⟨⟨_, k + 1, rfl, by omega, by go_num, (show Hid _ from hfin.out)⟩, by simp [intOf]; omega⟩
              | true =>
                rw [hlg, hld] at hkd hfd hfl
                by_cases hbad : acc.length ≤ z.opd
                · have hdb : decide ((z.opd : Int) ≥ (acc.length : Int)) = true := by simp; omega
                  have hdb2 : (acc.length : Int) ≤ (z.opd : Int) := by omega
                  have hpar : Hid (parV (parse8 s) = .tuple #[.string (str []), .int .i64 ((k : Int) + 1), .int .i64 80]) := by
                    show _ = _
                    rw [hparse.out]
                    unfold fin8
                    dsimp only
                    rw [if_neg hne, hbs.out hld hbad]
                    rfl
                  have hwk : IntKind.i64.wrap ((k : Int) + 1) = (k : Int) + 1 := IntWalk.i64_in _ (by omega)
                  replace hlg := Lib.hid hlg
                  replace hld := Lib.hid hld
                  clear hlng hsucc
                  replace hkd := Lib.hid hkd
                  go_wp2_with (at_builtin; go_loud (refine wpList_append_known rfl _ _ _ _ rfl _ _ rfl rfl hrun1.out ?_))
                  refine hkd.out.mono ?_
                  rintro e W4 ⟨rfl, hb4⟩
                  have hA4 := hA1.below hb4
                  have hg4 := (hb4.block g (Array.getElem?_eq_some_iff.1 hg1).1).trans hg1
                  have hB4 := hB1.trans (hb4.mono hB1.size)
                  have hown4 := own_below hown1 hb4
                  clear hkd hA1 hown1 q0 q1 q2 q3
                  have s2 := hA4.cell (j := 2) rfl
                  go_wp2_with fail
                  exact bodyPost_ret (v := .tuple #[.string (str []), .int .i64 ((k : Int) + 1), .int .i64 80]) (by simp [results, Tryd.f21, go_sem, str]) rfl ⟨by rw [hpar.out], hB4⟩
                · have hdb : decide ((z.opd : Int) ≥ (acc.length : Int)) = false := by simp; omega
                  have hdb2 : ¬ (acc.length : Int) ≤ (z.opd : Int) := by omega
                  have hoi : z.opd < acc.length := by omega
                  have i2 : (z.opd : Int) < (acc.length : Int) := by omega
                  have m0 := (hRw z.opd hoi).1
                  rw [Nat.zero_add] at m0
                  obtain ⟨nn, hnn⟩ : ∃ nn, nn = acc[z.opd]!.off := ⟨_, rfl⟩
                  have hnb : nn < 65536 := by rw [hnn]; exact hoffs.out _ hoi
                  rw [← hnn] at m0
                  obtain ⟨b1, hb1⟩ : ∃ b1, b1 = UInt8.ofNat (nn / 256) := ⟨_, rfl⟩
                  obtain ⟨b2, hb2⟩ : ∃ b2, b2 = UInt8.ofNat (nn % 256) := ⟨_, rfl⟩
                  have hbn1 : ((b1.toNat : Nat) : Int) = (nn : Int) / 256 := by rw [hb1, UInt8.toNat_ofNat']; omega
                  have hbn2 : ((b2.toNat : Nat) : Int) = (nn : Int) % 256 := by rw [hb2, UInt8.toNat_ofNat']; omega
                  have hwa : IntKind.u8.wrap ((nn : Int) / 256) = (b1.toNat : Int) := by rw [hbn1]; exact IntWalk.u8_in _ (by omega)
                  have hwb : IntKind.u8.wrap (nn : Int) = (b2.toNat : Int) := by rw [hbn2]; simp [IntKind.wrap, IntKind.bits, IntKind.signed]
                  have hwb2 : (nn : Int) % 256 = (b2.toNat : Int) := hbn2.symm
                  replace hb1 := Lib.hid hb1
                  replace hb2 := Lib.hid hb2
                  replace hbn1 := Lib.hid hbn1
                  replace hbn2 := Lib.hid hbn2
                  rw [hld, if_pos rfl, ← hnn] at hsucc
                  have hsim : codeK acc (k + 1) = codeK acc k ++ [b0] ++ [b1, b2] := by rw [hsucc, simB, hlg, hb0.out, hb1.out, hb2.out, List.append_assoc]; rfl
                  replace hsim := Lib.hid hsim
                  replace hlg := Lib.hid hlg
                  replace hld := Lib.hid hld
                  replace hnn := Lib.hid hnn
                  replace hbad := Lib.hid hbad
                  clear hlng hsucc
                  replace hkd := Lib.hid hkd
                  go_wp2_with (at_builtin; go_loud (refine wpList_append_known rfl _ _ _ _ rfl _ _ rfl rfl hrun1.out ?_))
                  refine hkd.out.mono ?_
                  rintro e W4 ⟨rfl, hb4⟩
                  have hA4 := hA1.below hb4
                  have hg4 := (hb4.block g (Array.getElem?_eq_some_iff.1 hg1).1).trans hg1
                  have hB4 := hB1.trans (hb4.mono hB1.size)
                  have hown4 := own_below hown1 hb4
                  clear hkd hA1 hown1 q0 q1 q2 q3
                  have s2 := hA4.cell (j := 2) rfl
                  have f2 := hA4.free 2
                  have mg : W4.cell? ⟨g, z.opd * 4, none⟩ = some (.int .i64 (nn : Int)) := (World.cell?_of_block (a := ⟨g, z.opd * 4, none⟩) (hg4.trans hgw.symm)).trans m0
                  have hA5 := hA4.set 2 (.int .i64 (nn : Int))
                  have hneg : g ≠ wr.heap.size := fun e => by have := (Array.getElem?_eq_some_iff.1 hgw).1; omega
                  have hg5 : (W4.setCell ⟨wr.heap.size, 2, none⟩ (.int .i64 (nn : Int))).heap[g]? = some (.cells curw 66 (0, 0)) := (heap_setCell_other _ _ _ _ (by simpa using hneg)).trans hg4
                  have hB5 := hB4.setCell (p := ⟨wr.heap.size, 2, none⟩) (show w.heap.size ≤ wr.heap.size from hBw.size) (.int .i64 (nn : Int))
                  have hown5 : (W4.setCell ⟨wr.heap.size, 2, none⟩ (.int .i64 (nn : Int))).ownsRow w.heap.size 5 1 (.slice va1 m1 vc1) m1 (u8C (codeK acc k ++ [b0])) := own_setT hown4 hA4 (by decide)
                  have hkd2 := kind_any z.off z.op (nn) 0 (W4.setCell ⟨wr.heap.size, 2, none⟩ (.int .i64 (nn : Int))) hzl (hE.below hB5).ops (hE.below hB5).ops.lt
                  unfold insAgg opVals at hkd2
                  rw [Int.natCast_zero, hlg.out, hld.out] at hkd2
                  replace hkd2 := Lib.hid hkd2
                  have p0 := hA5.cell (j := 0) rfl
                  have p1 := hA5.cell (j := 1) rfl
                  have p2 := hA5.cell (j := 2) rfl
                  have p3 := hA5.cell (j := 3) rfl
                  go_wp2_with fail
                  refine hkd2.out.mono ?_
                  rintro e W6 ⟨rfl, hb6⟩
                  have hA6 := hA5.below hb6
                  have hg6 := (hb6.block g (Array.getElem?_eq_some_iff.1 hg5).1).trans hg5
                  have hBk := hB5.trans (hb6.mono hB5.size)
                  have hown6 := own_below hown5 hb6
                  clear hkd2 p0 p1 p2 p3
                  have hlen1' := hlen1.out
                  
                  have hal2 : Below W6.heap.size W6 (W6.alloc (.cells #[.int .u8 (b1.toNat : Int), .int .u8 (b2.toNat : Int)] 5)) := (Below.refl _ _).alloc (Nat.le_refl _) _
                  obtain ⟨v2, W2, m2, hrun2, hm2, hown2, hgr2⟩ := append_bytes (W6.alloc (.cells #[.int .u8 (b1.toNat : Int), .int .u8 (b2.toNat : Int)] 5)) w.heap.size _ (codeK acc k ++ [b0]) [b1, b2] _ hm1.out (own_below hown6 hal2) W6.heap.size 2 rfl (Arr.new rfl rfl) (by omega) (by simp) (by have := hBk.size; simp; omega)
                  have hB2 : Below w.heap.size w W2 := grown_below (hBk.alloc hBk.size _) (own_below hown6 hal2) hgr2 (Nat.le_refl _) (by have := hBk.size; simp; omega)
                  have hk2 : ∀ {k : Nat} {cs : Array Value} {T : TypeId} {fr : Nat × Nat}, W6.heap[k]? = some (.cells cs T fr) → T ≠ 5 → W2.heap[k]? = some (.cells cs T fr) := fun {k cs T fr} h ht => by
                    have h2 := (hal2.block k (Array.getElem?_eq_some_iff.1 h).1).trans h
                    exact (grown_row (own_below hown6 hal2) hgr2 h2 ht).trans h2
                  obtain ⟨va2, vc2, rfl⟩ := own_val hown2
                  
                  have hg8 := hk2 hg6 (by decide)
                  replace hm2 := Lib.hid hm2
                  have hfin : ParB w acc g (k + 1) (.slice va2 m2 vc2) W2 := ⟨by rw [hsim.out, ← hm2.out]; exact hown2, hRw.keep (hg8.trans hgw.symm), ⟨curw, hg8⟩, hB2, hok2.out (fun _ => by rw [← hz.out]; exact hoi)⟩
                  have s2 := hA6.cell (j := 2) rfl
                  replace hfin := Lib.hid hfin
                  replace hrun2 := Lib.hid hrun2
                  clear hown6 hRw hown2 hgr2 hk2 hal2 hlen1'
                  go_wp2_with (at_builtin; go_loud (refine wpList_append_known rfl _ _ _ _ rfl _ _ rfl rfl hrun2.out ?_))
                  refine ⟨⟨_, k + 1, rfl, by omega, by go_num, (show Hid _ from hfin.out)⟩, by simp [intOf]; omega⟩
          · have hd : decide ((k : Int) < (acc.length : Int)) = false := by simpa using hlt
            obtain rfl : k = acc.length := by omega
            have hcv := conv_u8 hrow
            have hpar : Hid (parV (parse8 s) = .tuple #[.string (str (codeK acc acc.length)), .int .i64 0, .int .i64 0]) := by
              show _ = _
              rw [hparse.out]
              unfold fin8
              dsimp only
              rw [if_neg hne, badLead_none hok, codeK_all]
              rfl
            obtain ⟨vo, vc, rfl⟩ := own_val hrow
            generalize codeK acc acc.length = cd at *
            clear hrow hRw hok
            go_wp2_with fail
            exact bodyPost_ret (v := .tuple #[.string (str cd), .int .i64 0, .int .i64 0]) (by simp [results, Tryd.f21, go_sem]) rfl ⟨by rw [hpar.out], hBw⟩
--OWT
    · have hcond : line ≠ [] ∨ more = true := by
        rcases Classical.em (line = []) with h | h
        · right
          cases more with
          | true => rfl
          | false => exact absurd ⟨h, rfl⟩ hgo
        · exact .inl h
      have hEr := hE.below hB
      have hrd := read_any line wr hll hEr
      obtain ⟨o, n, right, hv, ho12, hcase⟩ := readV_cases line
      rw [hv] at hrd
      unfold insAgg at hrd
      rw [Int.natCast_zero] at hrd
      replace hrd := Lib.hid hrd
      replace hcase := Lib.hid hcase
      clear hv hgo
      obtain ⟨va, vc, rfl⟩ := own_val hrow
      have hee : (str line).toList.isEmpty = true ∨ (str line).toList.isEmpty = false := by cases (str line).toList.isEmpty <;> simp
      have hmo : (str line).toList.isEmpty = true → more = true := fun h => by
        rcases hcond with h1 | h1
        · rw [ByteArray.toList_eq, str_list] at h
          exact absurd (by simpa using h) h1
        · exact h1
      have hw1 : IntKind.i64.wrap ((size : Int) + 1) = (size : Int) + 1 := IntWalk.i64_in _ (by omega)
      have hw3 : IntKind.i64.wrap ((size : Int) + 1 + 2) = (size : Int) + 1 + 2 := IntWalk.i64_in _ (by omega)
      replace hcond := Lib.hid hcond
      rcases hee with hee | hee
      · obtain rfl := hmo hee
        clear hmo
        go_wp2_with fail
        refine hrd.out.mono ?_
        rintro e W2 ⟨rfl, hb2⟩
        have hrow2 := own_below hrow hb2
        have hB2 := hB.trans (hb2.mono hB.size)
        obtain ⟨W3, hW3⟩ : ∃ W3, W3 = W2.alloc (.cells #[.int .i64 (size : Int), .int .i64 (o : Int), .int .i64 (n : Int), .int .i64 0] 66) := ⟨_, rfl⟩
        have hb3 : Below W2.heap.size W2 W3 := by rw [hW3]; exact (Below.refl _ _).alloc (Nat.le_refl _) _
        have hA3 : Arr W3 W2.heap.size 66 [.int .i64 (size : Int), .int .i64 (o : Int), .int .i64 (n : Int), .int .i64 0] := by rw [hW3]; exact Arr.new rfl rfl
        have hB3 := hB2.trans (hb3.mono hB2.size)
        have hrow3 := own_below hrow2 hb3
        have hkd := kind_any size o n 0 W3 ho12 (hE.below hB3).ops (hE.below hB3).ops.lt
        unfold insAgg opVals at hkd
        rw [Int.natCast_zero] at hkd
        replace hkd := Lib.hid hkd
        have hfd := fun W => field_long (.string (str (opName o))) (.int .i64 (takesOp o : Nat)) (.int .i64 (putsOp o : Nat)) (.bool (longOp o)) (.bool (leadOp o)) W
        clear hrd
        go_wp2_with fail
        rw [← hW3]
        refine hkd.out.mono ?_
        rintro e W4 ⟨rfl, hb4⟩
        have hA4 := hA3.below hb4
        have hrow4 := own_below hrow3 hb4
        have hB4 := hB3.trans (hb4.mono hB3.size)
        have hal4 : Below W4.heap.size W4 (W4.alloc (.cells #[.int .i64 (size : Int), .int .i64 (o : Int), .int .i64 (n : Int), .int .i64 0] 66)) := (Below.refl _ _).alloc (Nat.le_refl _) _
        obtain ⟨v', W6, hrun, hown6, hgrow⟩ := append_ins (W4.alloc (.cells #[.int .i64 (size : Int), .int .i64 (o : Int), .int .i64 (n : Int), .int .i64 0] 66)) w.heap.size _ acc ⟨size, o, n⟩ (own_below hrow4 hal4) W4.heap.size (Arr.new rfl rfl) (by omega) (by have := hB4.size; simp; omega)
        have hB6 : Below w.heap.size w W6 := grown_below (hB4.alloc hB4.size _) (own_below hrow4 hal4) hgrow (Nat.le_refl _) (by have := hB4.size; simp; omega)
        rw [List.length_append, List.length_singleton] at hown6
        obtain ⟨gN, cN, rfl⟩ := ownsRow_succ hown6
        have q0 := hA4.cell (j := 0) rfl
        have q1 := hA4.cell (j := 1) rfl
        have q2 := hA4.cell (j := 2) rfl
        have q3 := hA4.cell (j := 3) rfl
        replace hrun := Lib.hid hrun
        clear hkd hA3 hA4 hrow hrow2 hrow3 hrow4 hal4 hW3
        cases hlg : longOp o with
        | false =>
          rw [hlg] at hfd
          have hsl : simLen o = 1 := by unfold simLen; rw [hlg]; rfl
          replace hlg := Lib.hid hlg
          cases right with
          | false =>
            have hRe : R = .inl (acc.length + 1) := by
              rcases hcase.out with ⟨h, _⟩ | ⟨_, _, _, h⟩
              · cases h
              · rw [← hres]
                exact pieces_none (hcond.out.imp id (fun hh => by first | rfl | exact hh)) h
            have hfin : Hid (parV (parse8 s) = .tuple #[.string (str []), .int .i64 ((acc.length : Int) + 1), .int .i64 80]) := by show _ = _; rw [hparse.out, hRe]; rfl
            clear hRe hgrow hown6
            go_wp2_with (at_builtin; go_loud (refine wpList_append_known rfl _ _ _ _ rfl _ _ rfl rfl hrun.out ?_))
            exact bodyPost_ret (v := .tuple #[.string (str []), .int .i64 ((acc.length : Int) + 1), .int .i64 80]) (by simp [results, Tryd.f21, go_sem, str]) rfl ⟨by rw [hfin.out], hB6⟩
          | true =>
            have hrt : readT line = some (o, n) := by
              rcases hcase.out with ⟨_, h⟩ | ⟨h, _⟩
              · exact h
              · cases h
            by_cases hbig : 1024 < size + simLen o
            · have hdb : decide (1024 < (size : Int) + 1) = true := by rw [hsl] at hbig; simp; omega
              have hdc : 1024 < (size : Int) + 1 := by rw [hsl] at hbig; omega
              have hRe : R = .inl (acc.length + 1) := by rw [← hres]; exact pieces_big hrt hbig
              replace hbig := Lib.hid hbig
              have hfin : Hid (parV (parse8 s) = .tuple #[.string (str []), .int .i64 ((acc.length : Int) + 1), .int .i64 80]) := by show _ = _; rw [hparse.out, hRe]; rfl
              clear hRe hgrow hown6
              go_wp2_with (at_builtin; go_loud (refine wpList_append_known rfl _ _ _ _ rfl _ _ rfl rfl hrun.out ?_))
              exact bodyPost_ret (v := .tuple #[.string (str []), .int .i64 ((acc.length : Int) + 1), .int .i64 80]) (by simp [results, Tryd.f21, go_sem, str]) rfl ⟨by rw [hfin.out], hB6⟩
            · have hdb : decide (1024 < (size : Int) + 1) = false := by rw [hsl] at hbig; simp; omega
              have hdc : ¬ 1024 < (size : Int) + 1 := by rw [hsl] at hbig; omega
              have hgo := pieces_go (rest := rest) (acc := acc) hrt hbig
              rw [hres] at hgo
              have hsz' : size + 1 ≤ 1024 := by rw [hsl] at hbig; omega
              have hcl := cut_len rest 10
              have hpc := pieces_cut rest
              have hcd := cut_drop rest
              rw [← hpc, hsl] at hgo
              clear hpc
              have hc2 := fun W hE => hcut.out rest W (by omega) hE
              generalize (Lib.cut rest [10]).1 = line2 at *
              generalize (Lib.cut rest [10]).2.1 = rest2 at *
              generalize (Lib.cut rest [10]).2.2 = more2 at *
              have hc3 := Lib.hid (hc2 W6 (hE.below hB6))
              have hown7 : W6.ownsRow w.heap.size 66 4 (.slice (some ⟨gN, 0, none⟩) (acc.length + 1) cN) (acc ++ [(⟨size, o, n⟩ : Ins)]).length (insL (acc ++ [(⟨size, o, n⟩ : Ins)])) := by rw [List.length_append, List.length_singleton]; exact hown6
              have hfin2 : ∀ q, ScanAt w R (.slice (some ⟨gN, 0, none⟩) (acc.length + 1) cN) (acc ++ [(⟨size, o, n⟩ : Ins)]) (size + 1) line2 rest2 more2 (W6.drewN q) := fun q => ⟨own_below hown7 (below_drewQ (Below.refl _ _) q), hgo.symm, hsz', by rw [List.length_append, List.length_singleton]; omega, by omega, by omega, below_drewQ hB6 q⟩
              replace hfin2 := Lib.hid hfin2
              replace hcd := Lib.hid hcd
              replace hbig := Lib.hid hbig
              clear hc2 hgrow hown6 hown7 hgo hres
              go_wp2_with (at_builtin; go_loud (refine wpList_append_known rfl _ _ _ _ rfl _ _ rfl rfl hrun.out ?_))
              refine hc3.out.mono ?_
              rintro e W7 ⟨rfl, q, rfl⟩
              have hfin3 := hfin2.out q
              generalize W6.drewN q = W8 at *
              replace hfin3 := Lib.hid hfin3
              go_wp2_with fail
              refine ⟨⟨_, acc ++ [(⟨size, o, n⟩ : Ins)], size + 1, line2, rest2, more2, rfl, by go_num, rfl, rfl, rfl, (show Hid _ from hfin3.out)⟩, hcd.out⟩
        | true =>
          rw [hlg] at hfd
          have hsl : simLen o = 3 := by unfold simLen; rw [hlg]; rfl
          replace hlg := Lib.hid hlg
          cases right with
          | false =>
            have hRe : R = .inl (acc.length + 1) := by
              rcases hcase.out with ⟨h, _⟩ | ⟨_, _, _, h⟩
              · cases h
              · rw [← hres]
                exact pieces_none (hcond.out.imp id (fun hh => by first | rfl | exact hh)) h
            have hfin : Hid (parV (parse8 s) = .tuple #[.string (str []), .int .i64 ((acc.length : Int) + 1), .int .i64 80]) := by show _ = _; rw [hparse.out, hRe]; rfl
            clear hRe hgrow hown6
            go_wp2_with (at_builtin; go_loud (refine wpList_append_known rfl _ _ _ _ rfl _ _ rfl rfl hrun.out ?_))
            exact bodyPost_ret (v := .tuple #[.string (str []), .int .i64 ((acc.length : Int) + 1), .int .i64 80]) (by simp [results, Tryd.f21, go_sem, str]) rfl ⟨by rw [hfin.out], hB6⟩
          | true =>
            have hrt : readT line = some (o, n) := by
              rcases hcase.out with ⟨_, h⟩ | ⟨h, _⟩
              · exact h
              · cases h
            by_cases hbig : 1024 < size + simLen o
            · have hdb : decide (1024 < (size : Int) + 1 + 2) = true := by rw [hsl] at hbig; simp; omega
              have hdc : 1024 < (size : Int) + 1 + 2 := by rw [hsl] at hbig; omega
              have hRe : R = .inl (acc.length + 1) := by rw [← hres]; exact pieces_big hrt hbig
              replace hbig := Lib.hid hbig
              have hfin : Hid (parV (parse8 s) = .tuple #[.string (str []), .int .i64 ((acc.length : Int) + 1), .int .i64 80]) := by show _ = _; rw [hparse.out, hRe]; rfl
              clear hRe hgrow hown6
              go_wp2_with (at_builtin; go_loud (refine wpList_append_known rfl _ _ _ _ rfl _ _ rfl rfl hrun.out ?_))
              exact bodyPost_ret (v := .tuple #[.string (str []), .int .i64 ((acc.length : Int) + 1), .int .i64 80]) (by simp [results, Tryd.f21, go_sem, str]) rfl ⟨by rw [hfin.out], hB6⟩
            · have hdb : decide (1024 < (size : Int) + 1 + 2) = false := by rw [hsl] at hbig; simp; omega
              have hdc : ¬ 1024 < (size : Int) + 1 + 2 := by rw [hsl] at hbig; omega
              have hgo := pieces_go (rest := rest) (acc := acc) hrt hbig
              rw [hres] at hgo
              have hsz' : size + 3 ≤ 1024 := by rw [hsl] at hbig; omega
              have hcl := cut_len rest 10
              have hpc := pieces_cut rest
              have hcd := cut_drop rest
              rw [← hpc, hsl] at hgo
              clear hpc
              have hc2 := fun W hE => hcut.out rest W (by omega) hE
              generalize (Lib.cut rest [10]).1 = line2 at *
              generalize (Lib.cut rest [10]).2.1 = rest2 at *
              generalize (Lib.cut rest [10]).2.2 = more2 at *
              have hc3 := Lib.hid (hc2 W6 (hE.below hB6))
              have hown7 : W6.ownsRow w.heap.size 66 4 (.slice (some ⟨gN, 0, none⟩) (acc.length + 1) cN) (acc ++ [(⟨size, o, n⟩ : Ins)]).length (insL (acc ++ [(⟨size, o, n⟩ : Ins)])) := by rw [List.length_append, List.length_singleton]; exact hown6
              have hfin2 : ∀ q, ScanAt w R (.slice (some ⟨gN, 0, none⟩) (acc.length + 1) cN) (acc ++ [(⟨size, o, n⟩ : Ins)]) (size + 3) line2 rest2 more2 (W6.drewN q) := fun q => ⟨own_below hown7 (below_drewQ (Below.refl _ _) q), hgo.symm, hsz', by rw [List.length_append, List.length_singleton]; omega, by omega, by omega, below_drewQ hB6 q⟩
              replace hfin2 := Lib.hid hfin2
              replace hcd := Lib.hid hcd
              replace hbig := Lib.hid hbig
              clear hc2 hgrow hown6 hown7 hgo hres
              go_wp2_with (at_builtin; go_loud (refine wpList_append_known rfl _ _ _ _ rfl _ _ rfl rfl hrun.out ?_))
              refine hc3.out.mono ?_
              rintro e W7 ⟨rfl, q, rfl⟩
              have hfin3 := hfin2.out q
              generalize W6.drewN q = W8 at *
              replace hfin3 := Lib.hid hfin3
              go_wp2_with fail
              refine ⟨⟨_, acc ++ [(⟨size, o, n⟩ : Ins)], size + 3, line2, rest2, more2, rfl, by go_num, rfl, rfl, rfl, (show Hid _ from hfin3.out)⟩, hcd.out⟩
      · skip
        clear hmo
        go_wp2_with fail
        refine hrd.out.mono ?_
        rintro e W2 ⟨rfl, hb2⟩
        have hrow2 := own_below hrow hb2
        have hB2 := hB.trans (hb2.mono hB.size)
        obtain ⟨W3, hW3⟩ : ∃ W3, W3 = W2.alloc (.cells #[.int .i64 (size : Int), .int .i64 (o : Int), .int .i64 (n : Int), .int .i64 0] 66) := ⟨_, rfl⟩
        have hb3 : Below W2.heap.size W2 W3 := by rw [hW3]; exact (Below.refl _ _).alloc (Nat.le_refl _) _
        have hA3 : Arr W3 W2.heap.size 66 [.int .i64 (size : Int), .int .i64 (o : Int), .int .i64 (n : Int), .int .i64 0] := by rw [hW3]; exact Arr.new rfl rfl
        have hB3 := hB2.trans (hb3.mono hB2.size)
        have hrow3 := own_below hrow2 hb3
        have hkd := kind_any size o n 0 W3 ho12 (hE.below hB3).ops (hE.below hB3).ops.lt
        unfold insAgg opVals at hkd
        rw [Int.natCast_zero] at hkd
        replace hkd := Lib.hid hkd
        have hfd := fun W => field_long (.string (str (opName o))) (.int .i64 (takesOp o : Nat)) (.int .i64 (putsOp o : Nat)) (.bool (longOp o)) (.bool (leadOp o)) W
        clear hrd
        go_wp2_with fail
        rw [← hW3]
        refine hkd.out.mono ?_
        rintro e W4 ⟨rfl, hb4⟩
        have hA4 := hA3.below hb4
        have hrow4 := own_below hrow3 hb4
        have hB4 := hB3.trans (hb4.mono hB3.size)
        have hal4 : Below W4.heap.size W4 (W4.alloc (.cells #[.int .i64 (size : Int), .int .i64 (o : Int), .int .i64 (n : Int), .int .i64 0] 66)) := (Below.refl _ _).alloc (Nat.le_refl _) _
        obtain ⟨v', W6, hrun, hown6, hgrow⟩ := append_ins (W4.alloc (.cells #[.int .i64 (size : Int), .int .i64 (o : Int), .int .i64 (n : Int), .int .i64 0] 66)) w.heap.size _ acc ⟨size, o, n⟩ (own_below hrow4 hal4) W4.heap.size (Arr.new rfl rfl) (by omega) (by have := hB4.size; simp; omega)
        have hB6 : Below w.heap.size w W6 := grown_below (hB4.alloc hB4.size _) (own_below hrow4 hal4) hgrow (Nat.le_refl _) (by have := hB4.size; simp; omega)
        rw [List.length_append, List.length_singleton] at hown6
        obtain ⟨gN, cN, rfl⟩ := ownsRow_succ hown6
        have q0 := hA4.cell (j := 0) rfl
        have q1 := hA4.cell (j := 1) rfl
        have q2 := hA4.cell (j := 2) rfl
        have q3 := hA4.cell (j := 3) rfl
        replace hrun := Lib.hid hrun
        clear hkd hA3 hA4 hrow hrow2 hrow3 hrow4 hal4 hW3
        cases hlg : longOp o with
        | false =>
          rw [hlg] at hfd
          have hsl : simLen o = 1 := by unfold simLen; rw [hlg]; rfl
          replace hlg := Lib.hid hlg
          cases right with
          | false =>
            have hRe : R = .inl (acc.length + 1) := by
              rcases hcase.out with ⟨h, _⟩ | ⟨_, _, _, h⟩
              · cases h
              · rw [← hres]
                exact pieces_none (hcond.out.imp id (fun hh => by first | rfl | exact hh)) h
            have hfin : Hid (parV (parse8 s) = .tuple #[.string (str []), .int .i64 ((acc.length : Int) + 1), .int .i64 80]) := by show _ = _; rw [hparse.out, hRe]; rfl
            clear hRe hgrow hown6
            go_wp2_with (at_builtin; go_loud (refine wpList_append_known rfl _ _ _ _ rfl _ _ rfl rfl hrun.out ?_))
            exact bodyPost_ret (v := .tuple #[.string (str []), .int .i64 ((acc.length : Int) + 1), .int .i64 80]) (by simp [results, Tryd.f21, go_sem, str]) rfl ⟨by rw [hfin.out], hB6⟩
          | true =>
            have hrt : readT line = some (o, n) := by
              rcases hcase.out with ⟨_, h⟩ | ⟨h, _⟩
              · exact h
              · cases h
            cases more with
            | false =>
              have hRe : R = .inl (acc.length + 1) := by rw [← hres]; exact pieces_last (by rcases hcond.out with h | h; exact h; cases h)
              have hfin : Hid (parV (parse8 s) = .tuple #[.string (str []), .int .i64 ((acc.length : Int) + 1), .int .i64 80]) := by show _ = _; rw [hparse.out, hRe]; rfl
              clear hRe hgrow hown6
              go_wp2_with (at_builtin; go_loud (refine wpList_append_known rfl _ _ _ _ rfl _ _ rfl rfl hrun.out ?_))
              exact bodyPost_ret (v := .tuple #[.string (str []), .int .i64 ((acc.length : Int) + 1), .int .i64 80]) (by simp [results, Tryd.f21, go_sem, str]) rfl ⟨by rw [hfin.out], hB6⟩
            | true =>
              by_cases hbig : 1024 < size + simLen o
              · have hdb : decide (1024 < (size : Int) + 1) = true := by rw [hsl] at hbig; simp; omega
                have hdc : 1024 < (size : Int) + 1 := by rw [hsl] at hbig; omega
                have hRe : R = .inl (acc.length + 1) := by rw [← hres]; exact pieces_big hrt hbig
                replace hbig := Lib.hid hbig
                have hfin : Hid (parV (parse8 s) = .tuple #[.string (str []), .int .i64 ((acc.length : Int) + 1), .int .i64 80]) := by show _ = _; rw [hparse.out, hRe]; rfl
                clear hRe hgrow hown6
                go_wp2_with (at_builtin; go_loud (refine wpList_append_known rfl _ _ _ _ rfl _ _ rfl rfl hrun.out ?_))
                exact bodyPost_ret (v := .tuple #[.string (str []), .int .i64 ((acc.length : Int) + 1), .int .i64 80]) (by simp [results, Tryd.f21, go_sem, str]) rfl ⟨by rw [hfin.out], hB6⟩
              · have hdb : decide (1024 < (size : Int) + 1) = false := by rw [hsl] at hbig; simp; omega
                have hdc : ¬ 1024 < (size : Int) + 1 := by rw [hsl] at hbig; omega
                have hgo := pieces_go (rest := rest) (acc := acc) hrt hbig
                rw [hres] at hgo
                have hsz' : size + 1 ≤ 1024 := by rw [hsl] at hbig; omega
                have hcl := cut_len rest 10
                have hpc := pieces_cut rest
                have hcd := cut_drop rest
                rw [← hpc, hsl] at hgo
                clear hpc
                have hc2 := fun W hE => hcut.out rest W (by omega) hE
                generalize (Lib.cut rest [10]).1 = line2 at *
                generalize (Lib.cut rest [10]).2.1 = rest2 at *
                generalize (Lib.cut rest [10]).2.2 = more2 at *
                have hc3 := Lib.hid (hc2 W6 (hE.below hB6))
                have hown7 : W6.ownsRow w.heap.size 66 4 (.slice (some ⟨gN, 0, none⟩) (acc.length + 1) cN) (acc ++ [(⟨size, o, n⟩ : Ins)]).length (insL (acc ++ [(⟨size, o, n⟩ : Ins)])) := by rw [List.length_append, List.length_singleton]; exact hown6
                have hfin2 : ∀ q, ScanAt w R (.slice (some ⟨gN, 0, none⟩) (acc.length + 1) cN) (acc ++ [(⟨size, o, n⟩ : Ins)]) (size + 1) line2 rest2 more2 (W6.drewN q) := fun q => ⟨own_below hown7 (below_drewQ (Below.refl _ _) q), hgo.symm, hsz', by rw [List.length_append, List.length_singleton]; omega, by omega, by omega, below_drewQ hB6 q⟩
                replace hfin2 := Lib.hid hfin2
                replace hcd := Lib.hid hcd
                replace hbig := Lib.hid hbig
                clear hc2 hgrow hown6 hown7 hgo hres
                go_wp2_with (at_builtin; go_loud (refine wpList_append_known rfl _ _ _ _ rfl _ _ rfl rfl hrun.out ?_))
                refine hc3.out.mono ?_
                rintro e W7 ⟨rfl, q, rfl⟩
                have hfin3 := hfin2.out q
                generalize W6.drewN q = W8 at *
                replace hfin3 := Lib.hid hfin3
                go_wp2_with fail
                refine ⟨⟨_, acc ++ [(⟨size, o, n⟩ : Ins)], size + 1, line2, rest2, more2, rfl, by go_num, rfl, rfl, rfl, (show Hid _ from hfin3.out)⟩, hcd.out⟩
        | true =>
          rw [hlg] at hfd
          have hsl : simLen o = 3 := by unfold simLen; rw [hlg]; rfl
          replace hlg := Lib.hid hlg
          cases right with
          | false =>
            have hRe : R = .inl (acc.length + 1) := by
              rcases hcase.out with ⟨h, _⟩ | ⟨_, _, _, h⟩
              · cases h
              · rw [← hres]
                exact pieces_none (hcond.out.imp id (fun hh => by first | rfl | exact hh)) h
            have hfin : Hid (parV (parse8 s) = .tuple #[.string (str []), .int .i64 ((acc.length : Int) + 1), .int .i64 80]) := by show _ = _; rw [hparse.out, hRe]; rfl
            clear hRe hgrow hown6
            go_wp2_with (at_builtin; go_loud (refine wpList_append_known rfl _ _ _ _ rfl _ _ rfl rfl hrun.out ?_))
            exact bodyPost_ret (v := .tuple #[.string (str []), .int .i64 ((acc.length : Int) + 1), .int .i64 80]) (by simp [results, Tryd.f21, go_sem, str]) rfl ⟨by rw [hfin.out], hB6⟩
          | true =>
            have hrt : readT line = some (o, n) := by
              rcases hcase.out with ⟨_, h⟩ | ⟨h, _⟩
              · exact h
              · cases h
            cases more with
            | false =>
              have hRe : R = .inl (acc.length + 1) := by rw [← hres]; exact pieces_last (by rcases hcond.out with h | h; exact h; cases h)
              have hfin : Hid (parV (parse8 s) = .tuple #[.string (str []), .int .i64 ((acc.length : Int) + 1), .int .i64 80]) := by show _ = _; rw [hparse.out, hRe]; rfl
              clear hRe hgrow hown6
              go_wp2_with (at_builtin; go_loud (refine wpList_append_known rfl _ _ _ _ rfl _ _ rfl rfl hrun.out ?_))
              exact bodyPost_ret (v := .tuple #[.string (str []), .int .i64 ((acc.length : Int) + 1), .int .i64 80]) (by simp [results, Tryd.f21, go_sem, str]) rfl ⟨by rw [hfin.out], hB6⟩
            | true =>
              by_cases hbig : 1024 < size + simLen o
              · have hdb : decide (1024 < (size : Int) + 1 + 2) = true := by rw [hsl] at hbig; simp; omega
                have hdc : 1024 < (size : Int) + 1 + 2 := by rw [hsl] at hbig; omega
                have hRe : R = .inl (acc.length + 1) := by rw [← hres]; exact pieces_big hrt hbig
                replace hbig := Lib.hid hbig
                have hfin : Hid (parV (parse8 s) = .tuple #[.string (str []), .int .i64 ((acc.length : Int) + 1), .int .i64 80]) := by show _ = _; rw [hparse.out, hRe]; rfl
                clear hRe hgrow hown6
                go_wp2_with (at_builtin; go_loud (refine wpList_append_known rfl _ _ _ _ rfl _ _ rfl rfl hrun.out ?_))
                exact bodyPost_ret (v := .tuple #[.string (str []), .int .i64 ((acc.length : Int) + 1), .int .i64 80]) (by simp [results, Tryd.f21, go_sem, str]) rfl ⟨by rw [hfin.out], hB6⟩
              · have hdb : decide (1024 < (size : Int) + 1 + 2) = false := by rw [hsl] at hbig; simp; omega
                have hdc : ¬ 1024 < (size : Int) + 1 + 2 := by rw [hsl] at hbig; omega
                have hgo := pieces_go (rest := rest) (acc := acc) hrt hbig
                rw [hres] at hgo
                have hsz' : size + 3 ≤ 1024 := by rw [hsl] at hbig; omega
                have hcl := cut_len rest 10
                have hpc := pieces_cut rest
                have hcd := cut_drop rest
                rw [← hpc, hsl] at hgo
                clear hpc
                have hc2 := fun W hE => hcut.out rest W (by omega) hE
                generalize (Lib.cut rest [10]).1 = line2 at *
                generalize (Lib.cut rest [10]).2.1 = rest2 at *
                generalize (Lib.cut rest [10]).2.2 = more2 at *
                have hc3 := Lib.hid (hc2 W6 (hE.below hB6))
                have hown7 : W6.ownsRow w.heap.size 66 4 (.slice (some ⟨gN, 0, none⟩) (acc.length + 1) cN) (acc ++ [(⟨size, o, n⟩ : Ins)]).length (insL (acc ++ [(⟨size, o, n⟩ : Ins)])) := by rw [List.length_append, List.length_singleton]; exact hown6
                have hfin2 : ∀ q, ScanAt w R (.slice (some ⟨gN, 0, none⟩) (acc.length + 1) cN) (acc ++ [(⟨size, o, n⟩ : Ins)]) (size + 3) line2 rest2 more2 (W6.drewN q) := fun q => ⟨own_below hown7 (below_drewQ (Below.refl _ _) q), hgo.symm, hsz', by rw [List.length_append, List.length_singleton]; omega, by omega, by omega, below_drewQ hB6 q⟩
                replace hfin2 := Lib.hid hfin2
                replace hcd := Lib.hid hcd
                replace hbig := Lib.hid hbig
                clear hc2 hgrow hown6 hown7 hgo hres
                go_wp2_with (at_builtin; go_loud (refine wpList_append_known rfl _ _ _ _ rfl _ _ rfl rfl hrun.out ?_))
                refine hc3.out.mono ?_
                rintro e W7 ⟨rfl, q, rfl⟩
                have hfin3 := hfin2.out q
                generalize W6.drewN q = W8 at *
                replace hfin3 := Lib.hid hfin3
                go_wp2_with fail
                refine ⟨⟨_, acc ++ [(⟨size, o, n⟩ : Ins)], size + 3, line2, rest2, more2, rfl, by go_num, rfl, rfl, rfl, (show Hid _ from hfin3.out)⟩, hcd.out⟩
end Go.Proofs.YtainohbfcehpoaaDoor
namespace Go.Proofs.YtainohbfcehpoaaDoor
open Go.RowKit

def exT : List UInt8 := [105, 110, 10, 100, 117, 112, 10, 112, 117, 115, 104, 32, 48, 10, 108, 101, 115, 115, 10, 105, 102, 32, 55, 10, 111, 117, 116, 10, 106, 117, 109, 112, 32, 48, 10, 100, 114, 111, 112, 10, 104, 97, 108, 116, 10]
def exC : List UInt8 := [9, 1, 0, 0, 0, 6, 8, 0, 13, 10, 7, 0, 0, 3, 11]
def exL : List Ins := [⟨0, 9, 0⟩, ⟨1, 1, 0⟩, ⟨2, 0, 0⟩, ⟨5, 6, 0⟩, ⟨6, 8, 13⟩, ⟨9, 10, 0⟩, ⟨10, 7, 0⟩, ⟨13, 3, 0⟩, ⟨14, 11, 0⟩]
theorem ex_parse : parse8 exT = (exC, 0, 0) := by decide +kernel
theorem ex_formed : formed exC = some exL := by first | rfl | kernel_rfl
theorem ex_print : print8 exC = (exT, 0) := by
  obtain ⟨_, l, h1, h2⟩ := text_parse ex_parse
  unfold print8
  rw [h1]
  dsimp only
  rw [h2]
theorem ex_parse2 : parse8 [104, 97, 108, 116, 10, 106, 117, 109, 112, 32, 50, 10] = ([], 2, 80) := by decide +kernel
/-- What is reached is marked. -/
theorem dep_of_reach {l : List Ins} (dep : Nat → Option Nat) (h0 : dep 0 = some 0)
    (hc : ∀ i d, dep i = some d → i < l.length ∧ takesOp l[i]!.op ≤ d ∧ afterOp l[i]!.op d ≤ 16 ∧ (l[i]!.op ≠ 7 → l[i]!.op ≠ 11 → dep (i + 1) = some (afterOp l[i]!.op d)) ∧ (∀ j, leadOp l[i]!.op = true → idxOf l l[i]!.opd = some j → dep j = some (afterOp l[i]!.op d))) : ∀ i d, Reach l i d → dep i = some d := by
  intro i d hr
  induction hr with
  | zero => exact h0
  | next _ _ h7 h11 ih => exact (hc _ _ ih).2.2.2.1 h7 h11
  | lead _ _ hl hj ih => exact (hc _ _ ih).2.2.2.2 _ hl hj
def exDep (i : Nat) : Option Nat := [some 0, some 1, some 2, some 3, some 2, some 1, some 0, some 1, some 0].getD i none
theorem ex_closed : ∀ i d, exDep i = some d → i < exL.length ∧ takesOp exL[i]!.op ≤ d ∧ afterOp exL[i]!.op d ≤ 16 ∧ (exL[i]!.op ≠ 7 → exL[i]!.op ≠ 11 → exDep (i + 1) = some (afterOp exL[i]!.op d)) ∧ (∀ j, leadOp exL[i]!.op = true → idxOf exL exL[i]!.opd = some j → exDep j = some (afterOp exL[i]!.op d)) := by
  intro i d h
  have hi : i < 9 := by
    rcases Nat.lt_or_ge i 9 with h1 | h1
    · exact h1
    · unfold exDep at h
      rw [List.getD_eq_getElem?_getD, List.getElem?_eq_none (by simpa using h1)] at h
      cases h
  have h9 : i = 0 ∨ i = 1 ∨ i = 2 ∨ i = 3 ∨ i = 4 ∨ i = 5 ∨ i = 6 ∨ i = 7 ∨ i = 8 := by omega
  rcases h9 with rfl | rfl | rfl | rfl | rfl | rfl | rfl | rfl | rfl
  all_goals
    injection h with h
    subst h
    refine ⟨by decide, by decide, by decide, fun h7 h11 => ?_, fun j hl hj => ?_⟩
  all_goals first
    | rfl
    | exact absurd rfl h7
    | exact absurd rfl h11
    | exact absurd hl (by decide)
    | (have e := hj.symm.trans (show idxOf exL exL[4]!.opd = some 7 from rfl); injection e with e; subst e; rfl)
    | (have e := hj.symm.trans (show idxOf exL exL[6]!.opd = some 0 from rfl); injection e with e; subst e; rfl)
theorem ex_good : Good exL := good_of_closed exDep rfl ex_closed
theorem ex_most : MostOf exL 3 := by
  refine ⟨fun i d hr => ?_, 3, 3, ?_, .inl rfl⟩
  · have h := dep_of_reach exDep rfl ex_closed i d hr
    have hi : i < 9 := by have := (ex_closed i d h).1; exact this
    have h9 : i = 0 ∨ i = 1 ∨ i = 2 ∨ i = 3 ∨ i = 4 ∨ i = 5 ∨ i = 6 ∨ i = 7 ∨ i = 8 := by omega
    rcases h9 with rfl | rfl | rfl | rfl | rfl | rfl | rfl | rfl | rfl
    all_goals
      injection h with h
      subst h
      decide
  · have r1 : Reach exL 1 1 := Reach.next (i := 0) .zero (by decide) (by decide) (by decide)
    have r2 : Reach exL 2 2 := Reach.next (i := 1) r1 (by decide) (by decide) (by decide)
    exact Reach.next (i := 2) r2 (by decide) (by decide) (by decide)
theorem ex_run1 : runOf exL [104, 105] 1000 = some ([104, 105], 21) := by decide +kernel
theorem ex_run2 : runOf exL [104, 105] 20 = none := by decide +kernel
theorem ex_bad1 : ∀ l, formed [4, 11] = some l → ¬ Good l := by
  intro l h
  have e : formed [4, 11] = some [⟨0, 4, 0⟩, ⟨1, 11, 0⟩] := rfl
  rw [e] at h
  injection h with h
  subst h
  exact not_takes (i := 0) (d := 0) .zero (by decide)
theorem ex_bad2 : ∀ l, formed [0, 0, 1, 7, 0, 0] = some l → ¬ Good l := by
  intro l h
  have e : formed [0, 0, 1, 7, 0, 0] = some [⟨0, 0, 1⟩, ⟨3, 7, 0⟩] := rfl
  rw [e] at h
  injection h with h
  subst h
  intro g
  have r1 : Reach [⟨0, 0, 1⟩, ⟨3, 7, 0⟩] 1 1 := Reach.next (i := 0) .zero (by decide) (by decide) (by decide)
  have r2 : Reach [⟨0, 0, 1⟩, ⟨3, 7, 0⟩] 0 1 := Reach.lead (i := 1) r1 (by decide) (by decide) rfl
  exact absurd (g.one 0 0 1 .zero r2) (by decide)
end Go.Proofs.YtainohbfcehpoaaDoor
namespace Go.Proofs.YtainohbfcehpoaaDoor
open Go.RowKit Go.Shelf

/-- What Verify, Run return where it is known whether the program is good. -/
theorem vfy_yes {code : List UInt8} {l : List Ins} {m : Nat} {e : Ending} (h : VfyPost code e) (hf : formed code = some l) (hg : Good l) (hm : MostOf l m) : e = .returned (.tuple #[.int .i64 (m : Int), .int .i64 0]) := by
  rcases h with ⟨l', m', h1, h2, h3, rfl⟩ | ⟨h1, _⟩
  · rw [hf] at h1
    injection h1 with h1
    subst h1
    rw [h3.unique hm]
  · exact absurd hg (h1 l hf)
theorem vfy_no {code : List UInt8} {e : Ending} (h : VfyPost code e) (hn : ∀ l, formed code = some l → ¬ Good l) : e = .returned (.tuple #[.int .i64 0, .int .i64 80]) := by
  rcases h with ⟨l', m', h1, h2, _⟩ | ⟨_, h⟩
  · exact absurd h2 (hn l' h1)
  · exact h
theorem run_yes {code inp : List UInt8} {most : Int} {l : List Ins} {w w' : World} {e : Ending} (h : RunPost code inp most w e w') (hf : formed code = some l) (hg : Good l) (h0 : 0 ≤ most) (h1 : most ≤ 1000000) : e = runE (runOf l inp most.toNat) := by
  rcases h.1 with ⟨l', h2, _, _, _, rfl⟩ | ⟨h2 | h2 | h2, _⟩
  · rw [hf] at h2
    injection h2 with h2
    rw [h2]
  · exact absurd hg (h2 l hf)
  · omega
  · omega
theorem run_no {code inp : List UInt8} {most : Int} {w w' : World} {e : Ending} (h : RunPost code inp most w e w') (hn : (∀ l, formed code = some l → ¬ Good l) ∨ most < 0 ∨ 1000000 < most) : e = runE none := by
  rcases h.1 with ⟨l', h2, h3, h4, h5, rfl⟩ | ⟨_, h⟩
  · rcases hn with hn | hn | hn
    · exact absurd h3 (hn l' h2)
    · omega
    · omega
  · exact h
set_option maxRecDepth 100000 in
set_option maxHeartbeats 4000000 in
theorem sane_any (w : World) (hE : Env w) :
    Calls Tryd.prog 11 #[] w fun e w' => e = .returned (.bool true) ∧ Below w.heap.size w w' := by
  have P1 := fun (w : World) hE => Parse_any exT w (by decide) hE
  have P2 := fun (w : World) hE => (Verify_any exC w (by decide) hE).mono fun e w' (h : _ ∧ _) => And.intro (vfy_yes h.1 ex_formed ex_good ex_most) h.2
  have P3 := fun (w : World) hE => (Run_any exC [104, 105] 1000 w (by decide) (by decide) hE ⟨by decide, by decide⟩).mono fun e w' h => And.intro (run_yes h ex_formed ex_good (by decide) (by decide)) h.2
  have P4 := fun (w : World) hE => (Run_any exC [104, 105] 20 w (by decide) (by decide) hE ⟨by decide, by decide⟩).mono fun e w' h => And.intro (run_yes h ex_formed ex_good (by decide) (by decide)) h.2
  have P5 := fun (w : World) hE => Print_any exC w (by decide) hE
  have P6 := fun (w : World) hE => Parse_any [104, 97, 108, 116, 10, 106, 117, 109, 112, 32, 50, 10] w (by decide) hE
  have P7 := fun (w : World) hE => (Verify_any [4, 11] w (by decide) hE).mono fun e w' (h : _ ∧ _) => And.intro (vfy_no h.1 ex_bad1) h.2
  have P8 := fun (w : World) hE => (Verify_any [0, 0, 1, 7, 0, 0] w (by decide) hE).mono fun e w' (h : _ ∧ _) => And.intro (vfy_no h.1 ex_bad2) h.2
  rw [ex_parse] at P1
  rw [show (1000 : Int).toNat = 1000 from rfl, ex_run1] at P3
  rw [show (20 : Int).toNat = 20 from rfl, ex_run2] at P4
  rw [ex_print] at P5
  rw [ex_parse2] at P6
  unfold parV at P1 P6
  unfold runE at P3 P4
  dsimp only at P1 P3 P4 P5 P6
  rw [show str exT = ⟨#[105, 110, 10, 100, 117, 112, 10, 112, 117, 115, 104, 32, 48, 10, 108, 101, 115, 115, 10, 105, 102, 32, 55, 10, 111, 117, 116, 10, 106, 117, 109, 112, 32, 48, 10, 100, 114, 111, 112, 10, 104, 97, 108, 116, 10]⟩ from rfl] at P1 P5
  rw [show str [104, 105] = ⟨#[104, 105]⟩ from rfl] at P3 P4
  rw [show str [104, 97, 108, 116, 10, 106, 117, 109, 112, 32, 50, 10] = ⟨#[104, 97, 108, 116, 10, 106, 117, 109, 112, 32, 50, 10]⟩ from rfl] at P6
  rw [show str [4, 11] = ⟨#[4, 11]⟩ from rfl] at P7
  rw [show str [0, 0, 1, 7, 0, 0] = ⟨#[0, 0, 1, 7, 0, 0]⟩ from rfl] at P8
  replace P1 := Lib.hid P1
  replace P2 := Lib.hid P2
  replace P3 := Lib.hid P3
  replace P4 := Lib.hid P4
  replace P5 := Lib.hid P5
  replace P6 := Lib.hid P6
  replace P7 := Lib.hid P7
  replace P8 := Lib.hid P8
  go_enter Tryd.func11, Tryd.ntmps11
  go_wp2_with fail
  refine (P1.out _ hE).mono ?_
  rintro e w1 ⟨rfl, hb1⟩
  have hE1 := hE.below hb1
  go_wp2_with fail
  refine (P2.out _ hE1.ops).mono ?_
  rintro e w2 ⟨rfl, hb2⟩
  have hE2 := hE1.below hb2
  have hB2 := hb1.trans (hb2.mono hb1.size)
  go_wp2_with fail
  refine (P3.out _ hE2.ops).mono ?_
  rintro e w3 ⟨rfl, hb3⟩
  have hE3 := hE2.below hb3
  have hB3 := hB2.trans (hb3.mono hB2.size)
  go_wp2_with fail
  refine (P4.out _ hE3.ops).mono ?_
  rintro e w4 ⟨rfl, hb4⟩
  have hE4 := hE3.below hb4
  have hB4 := hB3.trans (hb4.mono hB3.size)
  go_wp2_with fail
  refine (P5.out _ hE4).mono ?_
  rintro e w5 ⟨rfl, hb5⟩
  have hE5 := hE4.below hb5
  have hB5 := hB4.trans (hb5.mono hB4.size)
  go_wp2_with fail
  refine (P6.out _ hE5).mono ?_
  rintro e w6 ⟨rfl, hb6⟩
  have hE6 := hE5.below hb6
  have hB6 := hB5.trans (hb6.mono hB5.size)
  go_wp2_with fail
  refine (P7.out _ hE6.ops).mono ?_
  rintro e w7 ⟨rfl, hb7⟩
  have hE7 := hE6.below hb7
  have hB7 := hB6.trans (hb7.mono hB6.size)
  go_wp2_with fail
  refine (P8.out _ hE7.ops).mono ?_
  rintro e w8 ⟨rfl, hb8⟩
  have hB8 := hB7.trans (hb8.mono hB7.size)
  clear hE hE1 hE2 hE3 hE4 hE5 hE6 hE7 hB2 hB3 hB4 hB5 hB6 hB7 hb1 hb2 hb3 hb4 hb5 hb6 hb7 hb8
  go_wp2_with fail
  go_ret
  exact ⟨rfl, hB8⟩
end Go.Proofs.YtainohbfcehpoaaDoor
namespace Go.Proofs.YtainohbfcehpoaaDoor
open Go.RowKit Go.Shelf

def pickv (c : Int) (n : Nat) : Nat := (if c < 0 then -(c + 1) else c).toNat % n
theorem pickv_lt (c : Int) (n : Nat) (h : 1 ≤ n) : pickv c n < n := Nat.mod_lt _ (by omega)
set_option maxHeartbeats 400000 in
theorem pick_any (c : Int) (n : Nat) (w : World) (hc : I64 c) (h1 : 1 ≤ n) (h2 : n ≤ 1000000000) :
    Calls Tryd.prog 16 #[.int .i64 c, .int .i64 n] w fun e w' => e = .returned (.int .i64 (pickv c n : Nat)) ∧ w' = w := by
  obtain ⟨hc1, hc2⟩ := hc
  by_cases h0 : c < 0
  · have hv : Hid (((pickv c n : Nat) : Int) = (-(c + 1)) % (n : Int)) := by
      show _ = _
      rw [pickv, if_pos h0, Int.natCast_emod, Int.toNat_of_nonneg (by omega)]
    have hd : decide (c < 0) = true := by simpa using h0
    have hnn : 0 ≤ -(c + 1) := by omega
    go_enter Tryd.func16, Tryd.ntmps16
    go_wp2
    go_ret
    exact ⟨ret_i64 (by rw [← Int.neg_tmod, Int.tmod_eq_emod_of_nonneg hnn]; exact hv.out.symm), rfl⟩
  · have hv : Hid (((pickv c n : Nat) : Int) = c % (n : Int)) := by
      show _ = _
      rw [pickv, if_neg h0, Int.natCast_emod, Int.toNat_of_nonneg (by omega)]
    have hd : decide (c < 0) = false := by simpa using h0
    have h0' : 0 ≤ c := by omega
    go_enter Tryd.func16, Tryd.ntmps16
    go_wp2
    go_ret
    exact ⟨ret_i64 hv.out.symm, rfl⟩
set_option maxHeartbeats 400000 in
theorem pickR_any (c : Int) (n : Nat) (w : World) (hc : I64 c) (h1 : 1 ≤ n) (h2 : n ≤ 1000000000) :
    Calls Tryd.prog 25 #[.int .i64 c, .int .i64 n] w fun e w' => e = .returned (.int .i64 (pickv c n : Nat)) ∧ w' = w := by
  obtain ⟨hc1, hc2⟩ := hc
  by_cases h0 : c < 0
  · have hv : Hid (((pickv c n : Nat) : Int) = (-(c + 1)) % (n : Int)) := by
      show _ = _
      rw [pickv, if_pos h0, Int.natCast_emod, Int.toNat_of_nonneg (by omega)]
    have hd : decide (c < 0) = true := by simpa using h0
    have hnn : 0 ≤ -(c + 1) := by omega
    go_enter Tryd.func25, Tryd.ntmps25
    go_wp2
    go_ret
    exact ⟨ret_i64 (by rw [← Int.neg_tmod, Int.tmod_eq_emod_of_nonneg hnn]; exact hv.out.symm), rfl⟩
  · have hv : Hid (((pickv c n : Nat) : Int) = c % (n : Int)) := by
      show _ = _
      rw [pickv, if_neg h0, Int.natCast_emod, Int.toNat_of_nonneg (by omega)]
    have hd : decide (c < 0) = false := by simpa using h0
    have h0' : 0 ≤ c := by omega
    go_enter Tryd.func25, Tryd.ntmps25
    go_wp2
    go_ret
    exact ⟨ret_i64 hv.out.symm, rfl⟩
end Go.Proofs.YtainohbfcehpoaaDoor
namespace Go.Proofs.YtainohbfcehpoaaDoor
open Go.RowKit Go.Shelf

theorem own_other {W w' : World} {B B' s s' n n' : Nat} {e e' : TypeId} {v v' : Value} {xs xs' : List Value} (h2 : W.ownsRow B e s v n xs) (h3 : W.ownsRow B' e' s' v' n' xs') (he : e ≠ e') (hg : W.grownBy w' v.ownBlock) : w'.ownsRow B' e' s' v' n' xs' := by
  refine h3.kept hg ?_
  rcases h3.2 with ⟨rfl, _⟩ | ⟨g3, c3, cur3, rfl, _, hg3, _⟩
  · exact .inl rfl
  · refine .inr fun e1 => ?_
    rcases h2.2 with ⟨rfl, _⟩ | ⟨g2, c2, cur2, rfl, _, hg2, _⟩
    · cases e1
    · injection e1 with e1
      have e2 : g3 = g2 := e1
      rw [e2, hg2] at hg3
      injection hg3 with hg3
      injection hg3 with _ hg3 _
      exact absurd hg3 he
/-- The stack and the output. -/
structure Two (B : Nat) (st : List Int) (out : List UInt8) (sv ov : Value) (W : World) : Prop where
  stk : W.ownsRow B 3 1 sv st.length (intC st.reverse)
  out : W.ownsRow B 5 1 ov out.length (u8C out)
theorem Two.below {B : Nat} {st : List Int} {out : List UInt8} {sv ov : Value} {W W' : World} (h : Two B st out sv ov W) (hb : Below W.heap.size W W') : Two B st out sv ov W' := ⟨own_below h.stk hb, own_below h.out hb⟩
theorem Two.push {B : Nat} {st : List Int} {out : List UInt8} {sv ov : Value} {W : World} (h : Two B st out sv ov W) (vs : List Int) (b : Nat) (hb : Arr W b 3 (intC vs)) (hl : st.length ≤ 100000) (hv : vs.length ≤ 10) (hB : B ≤ W.heap.size) :
    ∃ v' w', (Builtin.append_ #[31, 31] 31 #[sv, .slice (some ⟨b, 0, none⟩) vs.length vs.length]).run Tryd.prog W = .ok v' w' ∧
      (∃ a c, v' = .slice a (st.length + vs.length) c) ∧ Two B (vs.reverse ++ st) out v' ov w' ∧ ∀ w0, Below B w0 W → Below B w0 w' := by
  obtain ⟨i0, hi, hz0, hz1, hz2⟩ := info_parts info_int
  obtain ⟨v', w', hrun, r1, r2, r3, _⟩ := run_append_own_at (P := Tryd.prog) W B 31 31 3 i0 (.int .i64 0) 1 8 Tryd.underlying31 hi hz0 hz1 hz2 rfl (by decide) sv st.length (intC st.reverse) h.stk ⟨b, 0, none⟩ vs.length vs.length (intC vs) (by simp [intC]) (fun j u hu => by rw [Addr.add_mid, Nat.zero_add]; exact hb.cell hu) (fun u hu => by
      obtain ⟨z, _, rfl⟩ := List.mem_map.1 hu
      rfl) (by unfold maxLen; omega) (by omega) hB
  refine ⟨v', w', hrun, own_val r1, ⟨?_, own_other h.stk h.out (by decide) r2⟩, fun w0 h0 => grown_below h0 h.stk r2 (Nat.le_refl _) hB⟩
  have e : intC (vs.reverse ++ st).reverse = intC st.reverse ++ intC vs := by simp [intC]
  have e2 : (vs.reverse ++ st).length = st.length + vs.length := by simp; omega
  rw [e, e2]
  exact r1
theorem Two.write {B : Nat} {st : List Int} {out : List UInt8} {sv ov : Value} {W : World} (h : Two B st out sv ov W) (c : UInt8) (b : Nat) (hb : Arr W b 5 (u8C [c])) (hl : out.length ≤ 100000) (hB : B ≤ W.heap.size) :
    ∃ v' w', (Builtin.append_ #[46, 46] 46 #[ov, .slice (some ⟨b, 0, none⟩) 1 1]).run Tryd.prog W = .ok v' w' ∧
      (∃ a c, v' = .slice a (out.length + 1) c) ∧ Two B st (out ++ [c]) sv v' w' ∧ ∀ w0, Below B w0 W → Below B w0 w' := by
  obtain ⟨v', w', m', hrun, rfl, h1, h2⟩ := append_bytes W B ov out [c] out.length rfl h.out b 1 rfl hb (by omega) (by simp) hB
  refine ⟨v', w', hrun, ?_, ⟨own_other h.out h.stk (by decide) h2, h1⟩, fun w0 h0 => grown_below h0 h.out h2 (Nat.le_refl _) hB⟩
  have := own_val h1
  simpa using this
/-- A number is taken. -/
theorem Two.pop {B : Nat} {st : List Int} {a : Int} {out : List UInt8} {sv ov : Value} {W : World} (h : Two B (a :: st) out sv ov W) :
    ∃ g c, sv = .slice (some ⟨g, 0, none⟩) (st.length + 1) c ∧ st.length + 1 ≤ c ∧ c ≤ maxLen ∧ g < W.heap.size ∧ (∀ j z, (a :: st).reverse[j]? = some z → W.cell? ⟨g, j, none⟩ = some (.int .i64 z)) ∧ Two B st out (.slice (some ⟨g, 0, none⟩) st.length c) ov W := by
  have h2 := h.stk
  rw [List.length_cons] at h2
  obtain ⟨g, c, rfl, hg, hc, hcm, hgl, hcells⟩ := own_cells h2
  exact ⟨g, c, rfl, hc, hcm, hgl, fun j z hz => (hcells j _ (by rw [intC, List.getElem?_map, hz]; rfl)).1, own_popI h2, h.out⟩
theorem Two.nil (B : Nat) (W : World) : Two B [] [] (.slice none 0 0) (.slice none 0 0) W := ⟨World.ownsRow_nil _ _ _ _, World.ownsRow_nil _ _ _ _⟩
theorem Two.sval {B : Nat} {st : List Int} {out : List UInt8} {sv ov : Value} {W : World} (h : Two B st out sv ov W) : (∃ a c, sv = .slice a st.length c) ∧ (∃ a c, ov = .slice a out.length c) := ⟨own_val h.stk, own_val h.out⟩
end Go.Proofs.YtainohbfcehpoaaDoor
