/-
  For the rows of any seat: the last step of a row of which 'Below' is known; a call lifted with the world's shape and a condition on the world at hand.
  For rows whose arguments are only read, whatever their types; slices whose elements are rows of integers.
  What the rows' condition gives at TopPerformed: the library's variables that are read.
  The arguments of TopPerformed, opened: pairs of integers.
-/
import Derived.Test.YtocpnlifmeffkaaGreatDoorUA
import Derived.ProofKit
import Derived.LaidMore
import Derived.OpenShut
import Derived.Stop.Joined
import Derived.Stop.LaidErr
import Derived.Lib.LaidTab
import Derived.Below
import Derived.ChangeSame
import Derived.ChangeStays
import Derived.ChangeOld
import Derived.ReadAgain
import Derived.Test.YtocpnlifmeffkaaGreatDoorUF
import Derived.Lay
namespace Go.Proofs.YtocpnlifmeffkaaGreatDoor
open Go.ChangeShapes Go.WideShapes Go.ChangeAt Go.RowKit

theorem own : ownKnob Tryz.prog.godebug = none := by kernel_rfl
theorem I64.of_wf {a : Int} (h : (Lit.int .i64 a).wf = true) : I64 a := by
  have := h
  simp [Lit.wf, IntKind.min, IntKind.max, IntKind.signed, IntKind.bits] at this
  exact ⟨by omega, by omega⟩

section
variable {H : Type} {enc : TypeId × Value → H} {P : Program}
theorem post_of_below {f : Func} {s : ChangeSpec} {apart fresh handsOn again : Bool} {W W' : World} {args : Array Value} {v : Value} {ds gs : List (DataW H)} {before pa pv : List MemPlace}
    (hW : DataW.Whole enc P f.params.toList s.vars apart W args.toList ds gs before)
    (hres : ∀ (b : Nat) (sp : Nat → Bool) (hd : Bool), DataW.TrodAll enc P W' b sp hd f.resultTypes.toList (v.resultList f.resultTypes.size) (s.fn H (ds ++ gs)).results [])
    (hargs : ∀ sp : Nat → Bool, (∀ p ∈ before, sp p.block = true) → DataW.TrodAll enc P W' 0 sp true f.params.toList args.toList (s.fn H (ds ++ gs)).args pa)
    (hvars : ∀ sp : Nat → Bool, (∀ p ∈ before, sp p.block = true) → DataW.TrodVars enc P W' sp s.vars (s.fn H (ds ++ gs)).vars pv)
    (hps : before = pa ++ pv) (hb : Below W.heap.size W W')
    (hok : ∀ (j : Nat) (t : TypeId) (r : Value), f.resultTypes[j]? = some t → (v.resultList f.resultTypes.size)[j]? = some r → Value.okWide P W' .any 0 t r) :
    s.post enc P f apart fresh handsOn again W args v W' := by
  have hlt : ∀ p ∈ before, p.block < W.heap.size := fun p hp => hW.lt p hp
  have hold : ∀ p ∈ before, (fun b => decide (b < W.heap.size)) p.block = true := fun p hp => by simpa using hlt p hp
  refine ⟨ds, gs, before, [], pa, pv, hW, hres _ _ _, hargs _ hold, hvars _ hold, World.keptBut_mono (fun p hp => ⟨hp, ?_⟩) (hb.frame (· ∈ before)), fun _ => ?_⟩
  · rw [hps, List.mem_append] at hp
    exact Or.inr hp
  · obtain ⟨_, _, _, _, _, hz, hn⟩ := hW
    refine ⟨hok, _, _, ([] ++ pa) ++ pv, ⟨[] ++ pa, pv, trodAll_append (hargs _ (fun _ _ => rfl)) (hres _ _ _), hvars _ (fun _ _ => rfl), rfl, ?_, ?_⟩, ?_⟩
    · intro b off hp
      have hin : MemPlace.cell b off ∈ before := by rw [hps]; simpa using hp
      rw [hb.frozen (hlt _ hin)]
      exact hz b off hin
    · intro ha
      have := hn ha
      rw [hps] at this
      simpa using this
    · intro p hp _
      rw [hps]
      simpa using hp
/-- A row with a condition on the world, its contract proved of every world of the right shape that meets the condition. -/
theorem lift_shaped {C : Checked} {os : Os} {f : FuncId} {fn : Func} {s : ChangeSpec} {fresh handsOn again : Bool} {X : World → Prop} (hX : ∀ w w' : World, w.heap = w'.heap → X w → X w')
    (hown : ownKnob C.prog.godebug = none) (started : os.Started) (noInit : C.prog.inits.idxOf? f = none) (hfn : C.prog.funcs[f]? = some fn)
    (witness : ∃ (w : World) (tape : Tape) (i : Input), w.os = os ∧ (w.forCall tape i).Shaped C.prog ∧ i.vars = [] ∧ Input.okWide C.prog (w.forCall tape i) .any w.heap.size f i ∧
      ((s.pre enc C.prog fn [] false (w.forCall tape i).memory i.args ∧ X (w.forCall tape i).memory) ∧ sizedMet enc C.prog fn (OpenSpec.ofChange s) false (w.forCall tape i).memory i.args) ∧ Assume.holds {} C.prog (lone (Frame.enter C.prog f i.args .normal) [] (w.forCall tape i)))
    (contract : ∀ (W : World) (base : Nat) (args : Array Value) (ds gs : List (DataW H)) (before : List MemPlace),
      (∀ (j : Nat) t v, fn.params[j]? = some t → args[j]? = some v → Value.okWide C.prog W .any base t v) →
      DataW.Whole enc C.prog fn.params.toList s.vars false W args.toList ds gs before → X W → W.ShapedOpen C.prog →
      Calls C.prog f args W fun e W' => ∃ v, e = .returned v ∧ s.post enc C.prog fn false fresh handsOn again W args v W') :
    ReturnsInHanded {} C os f .any (fun w args => (s.pre enc C.prog fn [] false w args ∧ X w) ∧ sizedMet enc C.prog fn (OpenSpec.ofChange s) false w args) (s.post enc C.prog fn false fresh handsOn again) := by
  refine returnsInHanded_of_calls hown started noInit witness ?_
  intro w tape i _ hsh _ hok hpre _
  obtain ⟨_, _, _, fn', hfn', _, _, _, _, hval⟩ := hok
  obtain rfl : fn' = fn := Option.some.inj (hfn'.symm.trans hfn)
  obtain ⟨⟨⟨ds, gs, before, hw, _⟩, hx⟩, _⟩ := hpre
  refine (contract _ _ _ ds gs before hval (DataW.Whole.of_heap (w' := w.forCall tape i) (by rfl) hw) (hX _ _ (by rfl) hx) hsh).mono fun e W' hp => ?_
  obtain ⟨v, rfl, hp⟩ := hp
  exact ChangeSpec.post_blind hp
end
end Go.Proofs.YtocpnlifmeffkaaGreatDoor
namespace Go.Proofs.YtocpnlifmeffkaaGreatDoor
open Go.ChangeShapes Go.WideShapes Go.ChangeAt Go.RowKit

section
variable {H : Type} {enc : TypeId × Value → H} {P : Program} {w w' : World}
theorem sameAt_below (hb : Below w.heap.size w w') {p : MemPlace} (hp : p.block < w.heap.size) : w.sameAt w' p := by
  cases p with
  | cell b off => exact hb.cell (p := ⟨b, off, none⟩) hp
  | map b => exact hb.block b hp
theorem trodAll_stay {T : TypeId → Prop} (K : Kids P T) (hsz : ∀ t e, T t → P.underlying t = some (.slice e) → 0 < P.cellsOf e) {sp' : Nat → Bool} :
    ∀ {ts : List TypeId} {vs : List Value} {ds : List (DataW H)} {ps : List MemPlace}, (∀ t ∈ ts, T t) → DataW.TrodAll enc P w 0 (fun _ => true) true ts vs ds ps → (∀ p ∈ ps, w.sameAt w' p) → (∀ p ∈ ps, sp' p.block = true) → DataW.TrodAll enc P w' 0 sp' true ts vs ds ps
  | [], [], [], _, _, h, _, _ => h
  | _ :: _, _ :: _, _ :: _, _, hT, ⟨p, q, ⟨n, h1⟩, h2, e⟩, hs, hsp =>
    ⟨p, q, ⟨n, DataW.trod_stays K (fun ht hu => hsz _ _ ht hu) (fun h => by cases h) (hT _ (List.mem_cons.2 (Or.inl rfl))) h1 (fun x hx => hs x (by rw [e]; exact List.mem_append_left _ hx)) (fun x hx => hsp x (by rw [e]; exact List.mem_append_left _ hx))⟩,
      trodAll_stay K hsz (fun t ht => hT t (List.mem_cons.2 (Or.inr ht))) h2 (fun x hx => hs x (by rw [e]; exact List.mem_append_right _ hx)) (fun x hx => hsp x (by rw [e]; exact List.mem_append_right _ hx)), e⟩

def intVal : Value → Int | .int _ z => z | _ => 0
theorem row_of_cells {cs : List Value} (h : ∀ i, i < cs.length → ∃ z, cs[i]? = some (.int .i64 z) ∧ I64 z) : ∃ zs : List Int, cs = zs.map (Value.int .i64) ∧ ∀ z ∈ zs, I64 z := by
  refine ⟨cs.map intVal, ?_, ?_⟩
  · refine List.ext_getElem (by simp) (fun i h1 h2 => ?_)
    obtain ⟨z, hz, _⟩ := h i h1
    rw [List.getElem?_eq_getElem h1] at hz
    injection hz with hz
    simp [hz, intVal]
  · intro z hz
    obtain ⟨v, hv, rfl⟩ := List.mem_map.1 hz
    obtain ⟨i, hi, rfl⟩ := List.mem_iff_getElem.1 hv
    obtain ⟨y, hy, hI⟩ := h i hi
    rw [List.getElem?_eq_getElem hi] at hy
    injection hy with hy
    rw [hy]
    exact hI
theorem int_piece {t : TypeId} {fuel i : Nat} {cs : List Value} {x : DataW H × List MemPlace} (ht : P.underlying t = some (.int .i64))
    (h : DataW.trod enc P w 0 (fun _ => true) true fuel t ((cs.drop i).take 1) = some x) : ∃ z, cs[i]? = some (.int .i64 z) ∧ I64 z := by
  obtain ⟨z, e, _, hw⟩ := DataW.trod_int ht h
  refine ⟨z, ?_, I64.of_wf hw⟩
  have := congrArg (fun l => l[0]?) e
  simpa [List.getElem?_take, List.getElem?_drop] using this
theorem array_row {t e : TypeId} {n : Nat} (ht : P.underlying t = some (.array n e)) (he : P.underlying e = some (.int .i64)) (hc : P.cellsOf e = 1) (fuel : Nat) (cs : List Value) (x : DataW H × List MemPlace)
    (hl : cs.length = n) (h : DataW.trod enc P w 0 (fun _ => true) true fuel t cs = some x) : ∃ zs : List Int, cs = zs.map (Value.int .i64) ∧ ∀ z ∈ zs, I64 z := by
  obtain ⟨xs, m, _, _, _, hx, hel⟩ := DataW.trod_array ht h
  refine row_of_cells fun i hi => ?_
  have hi' : i < n := by omega
  have := hel i hi'
  rw [hc, Nat.mul_one, List.getElem?_eq_getElem (by omega)] at this
  exact int_piece he this
theorem struct_row {t e : TypeId} {fs : Array Field} (ht : P.underlying t = some (.struct fs)) (he : P.underlying e = some (.int .i64)) (hc : P.cellsOf e = 1) (hf : ∀ (i : Nat) (f : Field), fs[i]? = some f → f.type = e ∧ f.offset = i) (fuel : Nat) (cs : List Value) (x : DataW H × List MemPlace)
    (hl : cs.length = fs.size) (h : DataW.trod enc P w 0 (fun _ => true) true fuel t cs = some x) : ∃ zs : List Int, cs = zs.map (Value.int .i64) ∧ ∀ z ∈ zs, I64 z := by
  obtain ⟨xs, m, _, _, _, hx, hel⟩ := DataW.trod_struct ht h
  refine row_of_cells fun i hi => ?_
  have hi' : i < fs.size := by omega
  obtain ⟨f, hff⟩ : ∃ f, fs[i]? = some f := ⟨_, Array.getElem?_eq_getElem hi'⟩
  have := hel i f hff
  obtain ⟨h1, h2⟩ := hf i f hff
  rw [h1, h2, hc, List.getElem?_eq_getElem (by omega)] at this
  exact int_piece he this

theorem open_introws {t e : TypeId} {k : Nat} (ht : P.underlying t = some (.slice e)) (hc : P.cellsOf e = k)
    (hrow : ∀ (fuel : Nat) (cs : List Value) (x : DataW H × List MemPlace), cs.length = k → DataW.trod enc P w 0 (fun _ => true) true fuel e cs = some x → ∃ zs : List Int, cs = zs.map (Value.int .i64) ∧ ∀ z ∈ zs, I64 z)
    (hk : 0 < k) {r : Reach} {b0 : Nat} {v : Value} {d : DataW H} {ps : List MemPlace} (hval : Value.okWide P w r b0 t v) (hd : DataW.Trod enc P w 0 (fun _ => true) true t v d ps) :
    ∃ (n : Nat) (zs : List Int), zs.length = n * k ∧ (∀ z ∈ zs, I64 z) ∧ SliceAt w w.heap.size v n (zs.map (Value.int .i64)) := by
  obtain ⟨a, len, cap, rfl⟩ := okWide_slice ht hval
  obtain ⟨fuel, hf⟩ := hd
  rcases DataW.trod_slice ht hf with ⟨h0, _⟩ | ⟨a', len', cap', elems, rest, n, _, hcs, _, _, hl, hm, hlen, hel, _, _⟩
  · have h0' : [Value.slice a len cap] = [.slice none 0 0] := h0
    injection h0' with h0' _
    injection h0' with e1 e2 e3
    subst e1 e2 e3
    exact ⟨0, [], by simp, by simp, none, 0, rfl, Nat.le_refl _, Nat.zero_le _, fun h => absurd h (Nat.lt_irrefl 0)⟩
  · have hcs' : [Value.slice a len cap] = [.slice (some a') len' cap'] := hcs
    injection hcs' with hcs' _
    injection hcs' with e1 e2 e3
    subst e1 e2 e3
    have piece : ∀ i, i < len → ∃ zs : List Int, zs.length = k ∧ (∀ z ∈ zs, I64 z) ∧ ∀ j, j < k → w.cell? ((a'.add (i * k)).add j) = (zs.map (Value.int .i64))[j]? := fun i hi => by
      have h1 := hel i hi
      rw [hc, List.getElem?_eq_getElem (by omega), Option.bind_eq_some_iff] at h1
      obtain ⟨cs', hcc, hy⟩ := h1
      obtain ⟨_, h2, h3⟩ := World.cells?_some hcc
      obtain ⟨zs, rfl, hI⟩ := hrow _ _ _ h2 hy
      exact ⟨zs, by simpa using h2, hI, h3⟩
    rcases Nat.eq_zero_or_pos len with h0 | h0
    · subst h0
      exact ⟨0, [], by simp, by simp, some a', cap, rfl, hl, hm, fun h => absurd h (Nat.lt_irrefl 0)⟩
    · obtain ⟨b, off, spot⟩ := a'
      have hspot : spot = none := by
        obtain ⟨zs, hz, _, h3⟩ := piece 0 h0
        have := h3 0 hk
        rw [List.getElem?_eq_getElem (by simp; omega)] at this
        simpa [Addr.add] using World.cell?_spot this
      subst hspot
      have hall : ∀ m, m ≤ len → ∃ zs : List Int, zs.length = m * k ∧ (∀ z ∈ zs, I64 z) ∧ ∀ j u, (zs.map (Value.int .i64))[j]? = some u → w.cell? ⟨b, off + j, none⟩ = some u := by
        intro m
        induction m with
        | zero => exact fun _ => ⟨[], by simp, by simp, by simp⟩
        | succ m ih =>
          intro hm'
          obtain ⟨zs, h1, h2, h3⟩ := ih (by omega)
          obtain ⟨ys, g1, g2, g3⟩ := piece m (by omega)
          refine ⟨zs ++ ys, by rw [List.length_append, h1, g1, Nat.succ_mul], fun z hz => ?_, fun j u hu => ?_⟩
          · rcases List.mem_append.1 hz with hz | hz
            · exact h2 z hz
            · exact g2 z hz
          · rw [List.map_append] at hu
            by_cases hj : j < m * k
            · rw [List.getElem?_append_left (by simp; omega)] at hu
              exact h3 j u hu
            · have hj2 : j < m * k + k := by
                have := (List.getElem?_eq_some_iff.1 hu).1
                simp at this
                omega
              rw [List.getElem?_append_right (by simp; omega)] at hu
              have := g3 (j - m * k) (by omega)
              rw [Addr.add_mid, Addr.add_mid, show off + m * k + (j - m * k) = off + j from by omega] at this
              rw [this]
              simpa [h1] using hu
      obtain ⟨zs, h1, h2, h3⟩ := hall len (Nat.le_refl _)
      refine ⟨len, zs, h1, h2, some ⟨b, off, none⟩, cap, rfl, hl, hm, fun _ => ⟨b, off, rfl, ?_, h3⟩⟩
      have h00 : (zs.map (Value.int .i64))[0]? = some (Value.int .i64 (zs.getD 0 0)) := by
        have : 0 < zs.length := by rw [h1]; exact Nat.mul_pos h0 hk
        rw [List.getElem?_map, List.getD_eq_getElem?_getD, List.getElem?_eq_getElem this]
        rfl
      exact World.block_lt_of_cell? w _ (h3 0 _ h00)
end
end Go.Proofs.YtocpnlifmeffkaaGreatDoor
namespace Go.Proofs.YtocpnlifmeffkaaGreatDoor
open Go.ChangeShapes Go.WideShapes Go.ChangeAt Go.RowKit

abbrev laid12 : List (String × DataW Unit) := [("math/bits.deBruijn32tab", Rows.laid_math_bits_deBruijn32tab), ("math/bits.deBruijn64tab", Rows.laid_math_bits_deBruijn64tab), ("internal/strconv.uint64pow10", Rows.laid_internal_strconv_uint64pow10), ("unicode/utf8.acceptRanges", Rows.laid_unicode_utf8_acceptRanges), ("strconv.ErrRange", Rows.laid_strconv_ErrRange), ("strconv.ErrSyntax", Rows.laid_strconv_ErrSyntax), ("unicode.White_Space", Rows.laid_unicode_White_Space), ("strings.asciiSpace", Rows.laid_strings_asciiSpace), ("unicode.CaseRanges", Rows.laid_unicode_CaseRanges), ("unicode/utf8.first", Rows.laid_unicode_utf8_first)]
theorem shape12 (os : Os) : (World.laidAll Tryz.prog os laid12).Shaped Tryz.prog := World.shaped_of_ZipB (by kernel_rfl) (by kernel_rfl)
theorem door_met12 (os : Os) (args : Array Value) : laidMetH Tryz.prog laid12 ((World.laidAll Tryz.prog os laid12).forCall (fun _ _ => 0) ⟨#[], args, []⟩).memory := by
  rw [MakeChecks.laidMetH_plain _ _ _ (by kernel_rfl)]; exact laidMet_laidAll _ (by kernel_rfl) (by kernel_rfl)
theorem pow_data : (Rows.laid_internal_strconv_uint64pow10 : DataW Unit) = Lib.tabData .u64 Lib.pow10Tab := by rfl
theorem sp_data : (Rows.laid_strings_asciiSpace : DataW Unit) = Lib.tabData .u8 Lib.asciiSpaceTab := by kernel_rfl
theorem gPow : Tryz.prog.globalNamed "internal/strconv.uint64pow10" = some 5 := by kernel_rfl
theorem gSp : Tryz.prog.globalNamed "strings.asciiSpace" = some 0 := by kernel_rfl
theorem gSyn : Tryz.prog.globalNamed "strconv.ErrSyntax" = some 3 := by kernel_rfl
theorem gRng : Tryz.prog.globalNamed "strconv.ErrRange" = some 4 := by kernel_rfl
theorem sentinel_cell {P : Program} {n nm : String} {d : DataW Unit} {r : List (String × DataW Unit)} {W : World} {g : Nat} {ti : TypeId} {ms : Array (String × TypeId)}
    (h : laidMet P ((n, .iface nm d) :: r) W) (hg : P.globalNamed n = some g) (ht : (P.globals[g]?).map (·.type) = some ti) (hi : P.underlying ti = some (.interface ms)) :
    ∃ u v, W.cell? ⟨g, 0, none⟩ = some (.iface u v) := by
  obtain ⟨ps, ⟨g0, t0, cs0, f0, p0, q0, hg0, ht0, hv0, hd0, _, e0⟩, _, _⟩ := h
  obtain rfl := Option.some.inj (hg.symm.trans hg0)
  obtain rfl := Option.some.inj (ht.symm.trans ht0)
  obtain ⟨l0⟩ := cs0
  obtain ⟨_, u, v, hl, _, _⟩ := iface_of_trod hi hd0
  obtain rfl : l0 = [.iface u v] := hl
  exact ⟨u, v, by simpa using World.var?_cell hg0 hv0 0⟩
theorem env_of_laid {W : World} (h : laidMetH Tryz.prog laid12 W) (hsh : W.ShapedOpen Tryz.prog) : Env W := by
  rw [MakeChecks.laidMetH_plain _ _ _ (by kernel_rfl)] at h
  unfold laid12 at h
  rw [pow_data, sp_data] at h
  have h1 := h.tail.tail
  have h4 := h1.tail.tail
  have h5 := h4.tail
  have h7 := h5.tail.tail
  refine ⟨Lib.tabIs_of_head gPow (t := 282) (by kernel_rfl) Tryz.underlying282 Tryz.underlying154 (by kernel_rfl) (by kernel_rfl) h1,
    Lib.tabIs_of_head gSp (t := 66) (by kernel_rfl) Tryz.underlying66 Tryz.underlying5 (by kernel_rfl) (by kernel_rfl) h7, Tryz.laysM146.s1_3 W hsh, ?_, ?_⟩
  · exact sentinel_cell h5 gSyn (by kernel_rfl) Tryz.underlying80
  · exact sentinel_cell h4 gRng (by kernel_rfl) Tryz.underlying80
end Go.Proofs.YtocpnlifmeffkaaGreatDoor
namespace Go.Proofs.YtocpnlifmeffkaaGreatDoor
open Go.ChangeShapes Go.WideShapes Go.ChangeAt Go.RowKit

theorem Tryz.kids : Kids Tryz.prog (· < Tryz.prog.types.size) := kids_rows (by kernel_rfl) (by kernel_rfl)
theorem Tryz.full : ∀ t e, t < Tryz.prog.types.size → Tryz.prog.underlying t = some (.slice e) → 0 < Tryz.prog.cellsOf e := slices_full_of Tryz.prog (by kernel_rfl)
section
variable {H : Type} {enc : TypeId × Value → H} {w : World} {r : Reach} {b0 : Nat} {v : Value} {d : DataW H} {ps : List MemPlace}
set_option maxRecDepth 100000 in
theorem open_pairs (hval : Value.okWide Tryz.prog w r b0 22 v) (hd : DataW.Trod enc Tryz.prog w 0 (fun _ => true) true 22 v d ps) : ∃ (n : Nat) (zs : List Int), zs.length = n * 2 ∧ (∀ z ∈ zs, I64 z) ∧ SliceAt w w.heap.size v n (zs.map (Value.int .i64)) :=
  open_introws Tryz.underlying22 (k := 2) (by kernel_rfl) (array_row Tryz.underlying58 Tryz.underlying3 (by kernel_rfl)) (Nat.zero_lt_succ _) hval hd
end
end Go.Proofs.YtocpnlifmeffkaaGreatDoor
