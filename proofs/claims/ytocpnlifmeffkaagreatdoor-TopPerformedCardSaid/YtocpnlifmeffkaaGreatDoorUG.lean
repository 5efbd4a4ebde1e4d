/-
  Reading a line: plain laws.
  The contract of computer.read.
  The contract of computer.Parse.
-/
import Derived.Test.YtocpnlifmeffkaaGreatDoorUE
import Derived.Lib.ParseIntBCases
import Derived.Lib.SlBy
import Derived.Test.YtocpnlifmeffkaaGreatDoorUF
namespace Go.Proofs.YtocpnlifmeffkaaGreatDoor
open Go.Lib

/-- What strconv.ParseUint(s, 10, 8) gives as a byte. -/
def numB (l : List UInt8) : Nat := match parseUintB 8 l with
  | .ok u => u
  | .range => 255
  | _ => 0
theorem parseM_dec (M : Nat) (hM : M < 1844674407370955162) : ∀ (l : List UInt8) (acc n : Nat), decFrom acc l = some n → n ≤ M → acc ≤ n ∧ parseUintM M acc l = .ok n
  | [], acc, n, h, _ => by
    simp only [decFrom, Option.some.injEq] at h
    subst h
    exact ⟨Nat.le_refl _, rfl⟩
  | c :: r, acc, n, h, hn => by
    simp only [decFrom] at h
    unfold digitVal at h
    split at h
    · rename_i d hd
      split at hd
      · rename_i hc
        injection hd with hd
        subst hd
        obtain ⟨h1, h2⟩ := parseM_dec M hM r _ n h hn
        refine ⟨by omega, ?_⟩
        rw [parseUintM, if_pos hc, if_neg (by omega), if_neg (by omega), h2]
      · cases hd
    · cases h
theorem numB_dec {n : Nat} (h : n < 256) : numB (decDigits n) = n := by
  have h1 := (parseM_dec 255 (by decide) (decDigits n) 0 n (decFrom_decDigits n) (by omega)).2
  unfold numB parseUintB
  rw [if_neg (decDigits_ne n)]
  simp only [Nat.reducePow, Nat.reduceSub, h1]
theorem numB_lt (l : List UInt8) : numB l < 256 := by
  unfold numB
  cases h : parseUintB 8 l with
  | ok u =>
    unfold parseUintB at h
    split at h
    · cases h
    · have := parseUintM_le (2 ^ 8 - 1) l 0 u (by omega) h
      dsimp only
      omega
  | range => simp
  | _ => simp

def eqBytes (x y : ByteArray) : Bool := x.toList == y.toList
theorem toList_mk (l : List UInt8) : (⟨l.toArray⟩ : ByteArray).toList = l := Go.Lib.toList_data _
def namesB : List ByteArray := opNames.map fun l => ⟨l.toArray⟩
/-- Which operation has this name; -1: none. -/
def opIdx (l : List UInt8) : Int := idxBy eqBytes (namesB.take 17) ⟨l.toArray⟩
theorem eqBytes_mk (a b : List UInt8) : eqBytes ⟨a.toArray⟩ ⟨b.toArray⟩ = (a == b) := by
  unfold eqBytes; rw [toList_mk, toList_mk]
theorem namesB_at {j : Nat} (h : j < 17) : namesB[j]! = ⟨(opNames.getD j []).toArray⟩ := by
  unfold namesB
  rw [getElem!_pos _ _ (by rw [List.length_map, opNames_len]; exact h), List.getElem_map, List.getD_eq_getElem?_getD, List.getElem?_eq_getElem (by rw [opNames_len]; exact h)]
  rfl
theorem namesB_len : namesB.length = 17 := rfl
theorem opIdx_name {o : Nat} (h : o < 17) : opIdx (opNames.getD o []) = o := by
  refine idxBy_hit eqBytes namesB 17 o _ h (Nat.le_of_eq namesB_len.symm) ?_ (fun j hj => ?_)
  · rw [namesB_at h, eqBytes_mk]; simp
  · rw [namesB_at (by omega), eqBytes_mk]
    rw [beq_eq_false_iff_ne]
    intro e
    have := opNames_inj o h j (by omega) e
    omega
theorem opIdx_none {l : List UInt8} (h : ∀ j, j < 17 → opNames.getD j [] ≠ l) : opIdx l = -1 := by
  refine idxBy_miss eqBytes namesB 17 _ (fun j hj => ?_)
  rw [namesB_at hj, eqBytes_mk, beq_eq_false_iff_ne]
  exact fun e => h j hj e.symm
theorem opIdx_cases (l : List UInt8) : opIdx l = -1 ∨ ∃ o : Nat, o < 17 ∧ opIdx l = o := by
  by_cases h : ∃ j, j < 17 ∧ opNames.getD j [] = l
  · obtain ⟨j, hj, rfl⟩ := h
    exact .inr ⟨j, hj, opIdx_name hj⟩
  · exact .inl (opIdx_none fun j hj e => h ⟨j, hj, e⟩)
/-- The word i of a line, or its last one. -/
def wordAt (s : List UInt8) (i : Nat) : List UInt8 := (cutAll 32 s).getD (min i ((cutAll 32 s).length - 1)) []
def readOp (s : List UInt8) : Nat := if 0 ≤ opIdx (wordAt s 0) then (opIdx (wordAt s 0)).toNat else numB (wordAt s 1)
def readNum (s : List UInt8) : Nat := if 0 ≤ opIdx (wordAt s 0) then numB (wordAt s 1) else numB (wordAt s 2)
def readOk (s : List UInt8) : Bool := lineB (readOp s) (readNum s) == s
theorem readOp_lt (s : List UInt8) : readOp s < 256 := by
  unfold readOp
  split
  · rcases opIdx_cases (wordAt s 0) with h | ⟨o, ho, h⟩ <;> rw [h] <;> omega
  · exact numB_lt _
theorem readNum_lt (s : List UInt8) : readNum s < 256 := by
  unfold readNum
  split <;> exact numB_lt _
theorem read_line {o n : Nat} (ho : o < 256) (hn : n < 256) : readOp (lineB o n) = o ∧ readNum (lineB o n) = n := by
  unfold readOp readNum wordAt
  by_cases h : o < 17
  · rw [words_low h]
    have h1 : ([opNames.getD o [], decDigits n] : List (List UInt8)).getD (min 0 ([opNames.getD o [], decDigits n].length - 1)) [] = opNames.getD o [] := rfl
    have h2 : ([opNames.getD o [], decDigits n] : List (List UInt8)).getD (min 1 ([opNames.getD o [], decDigits n].length - 1)) [] = decDigits n := rfl
    rw [h1, h2, opIdx_name h, if_pos (by omega), if_pos (by omega), numB_dec hn]
    simp
  · rw [words_high (by omega)]
    have h1 : ([rawB, decDigits o, decDigits n] : List (List UInt8)).getD (min 0 ([rawB, decDigits o, decDigits n].length - 1)) [] = rawB := rfl
    have h2 : ([rawB, decDigits o, decDigits n] : List (List UInt8)).getD (min 1 ([rawB, decDigits o, decDigits n].length - 1)) [] = decDigits o := rfl
    have h3 : ([rawB, decDigits o, decDigits n] : List (List UInt8)).getD (min 2 ([rawB, decDigits o, decDigits n].length - 1)) [] = decDigits n := rfl
    rw [h1, h2, h3, opIdx_none opNames_raw, if_neg (by omega), if_neg (by omega), numB_dec ho, numB_dec hn]
    simp
theorem findB_read (s : List UInt8) : findB s = if readOk s then some (readOp s, readNum s) else none := by
  unfold readOk
  split
  · rename_i h
    exact findB_some.2 ⟨readOp_lt s, readNum_lt s, by simpa using h⟩
  · rename_i h
    refine findB_none fun o n ho hn e => h ?_
    obtain ⟨h1, h2⟩ := read_line ho hn
    rw [e] at h1 h2
    rw [h1, h2, e]
    simp
end Go.Proofs.YtocpnlifmeffkaaGreatDoor
namespace Go.Proofs.YtocpnlifmeffkaaGreatDoor
open Go.RowKit Go.Shelf

theorem parse8_any (l : List UInt8) (w : World) (hl : l.length ≤ 10000) (hE : Env w) :
    Calls Tryz.prog 70 #[.string (str l), .int .i64 10, .int .i64 8] w fun e w' => (∃ x, e = .returned (.tuple #[.int .u64 (numB l : Nat), x])) ∧ Below w.heap.size w w' := by
  have hs : (str l).size = l.length := str_size l
  obtain ⟨ts, ps, hsyn⟩ := hE.syn
  obtain ⟨tr, pr, hrng⟩ := hE.rng
  unfold numB
  cases h : Lib.parseUintB 8 l with
  | ok u =>
    refine (Any.strconv_ParseUint_10_at8_ok Tryz.laysPu14 (str l) (by omega) u h w).mono ?_
    rintro e w' ⟨rfl, hw⟩
    refine ⟨⟨_, rfl⟩, ?_⟩
    rcases hw with rfl | rfl
    · exact Below.refl _ _
    · exact ⟨rfl, rfl, rfl, by rw [Lib.bytesWorld_size]; omega, fun k hk => Lib.bytesWorld_at_old _ _ _ k hk⟩
  | range =>
    refine (Any.strconv_ParseUint_10_at8_range Tryz.laysPu14 (str l) (by omega) h (.iface tr pr) w hrng (Or.inr ⟨tr, pr, rfl⟩)).mono ?_
    rintro e w' ⟨N, rfl, _, _, hb⟩
    exact ⟨⟨_, rfl⟩, hb⟩
  | _ =>
    refine (Any.strconv_ParseUint_10_at8_syntax Tryz.laysPu14 (str l) (by omega) h (.iface ts ps) w hsyn (Or.inr ⟨ts, ps, rfl⟩)).mono ?_
    rintro e w' ⟨N, rfl, _, _, hb⟩
    exact ⟨⟨_, rfl⟩, hb⟩
def wordCells (ws : List (List UInt8)) : List Value := ws.map fun l => .string (str l)
theorem wordCell {ws : List (List UInt8)} {j : Nat} (h : j < ws.length) : (wordCells ws)[j]? = some (.string (str (ws.getD j []))) := by
  unfold wordCells
  rw [List.getElem?_map, List.getD_eq_getElem?_getD, List.getElem?_eq_getElem h]
  rfl

set_option maxRecDepth 100000 in
set_option maxHeartbeats 2000000 in
theorem number_any (i box g : Nat) (ws : List (List UInt8)) (w : World) (hi : i ≤ 2) (hne : ws.length ≠ 0) (hn : ws.length ≤ 10000) (hl : ∀ p ∈ ws, p.length ≤ 10000)
    (hbox : Arr w box 85 [.slice (some ⟨g, 0, none⟩) ws.length ws.length]) (hg : Arr w g 9 (wordCells ws)) (hE : Env w) :
    Calls Tryz.prog 69 #[.int .i64 i, .pointer (some ⟨box, 0, none⟩)] w fun e w' => e = .returned (.int .u8 (numB (ws.getD (min i (ws.length - 1)) []) : Nat)) ∧ Below w.heap.size w w' := by
  obtain ⟨n, hnn⟩ : ∃ n, n = ws.length := ⟨_, rfl⟩
  obtain ⟨j, hj⟩ : ∃ j, j = min i (n - 1) := ⟨_, rfl⟩
  have hjn : j < n := by omega
  have hc := hg.cell (wordCell (by rw [← hnn]; exact hjn))
  have c0 := hbox.cell (j := 0) rfl
  rw [← hnn] at hne hn c0 ⊢
  rw [← hj]
  have hmem : (ws.getD j []).length ≤ 10000 := by
    rw [List.getD_eq_getElem?_getD, List.getElem?_eq_getElem (by omega)]
    exact hl _ (List.getElem_mem _)
  have hw1 : IntKind.i64.wrap ((n : Int) - 1) = (n : Int) - 1 := IntWalk.i64_in _ (by omega)
  have hm : min (i : Int) ((n : Int) - 1) = (j : Int) := by omega
  have i1 : (0 : Int) ≤ (j : Int) := by omega
  have i2 : (j : Int) < (n : Int) := by omega
  have i3 : j < n := hjn
  generalize ws.getD j [] = wd at *
  have hP := parse8_any wd w hmem hE
  have hlt := numB_lt wd
  have hwr : IntKind.u8.wrap ((numB wd : Nat) : Int) = (numB wd : Nat) := by simp [IntKind.wrap, IntKind.bits, IntKind.signed]; omega
  generalize numB wd = nb at *
  replace hP := Lib.hid hP
  clear hg hbox hl hnn hj hmem hE
  go_enter Tryz.func69, Tryz.ntmps69
  go_wp2_with fail
  refine hP.out.mono ?_
  rintro e w1 ⟨⟨x, rfl⟩, hb1⟩
  go_wp2_with fail
  go_ret
  exact ⟨rfl, hb1⟩
theorem wordCells_of (l : List ByteArray) : l.map Value.string = wordCells (l.map (·.data.toList)) := by
  unfold wordCells
  rw [List.map_map]
  exact List.map_congr_left fun x _ => by show _ = Value.string (str x.data.toList); rw [str_of]
theorem Split_any (s : ByteArray) (c : UInt8) (w : World) (hs : s.size ≤ 100000) (hE : Env w) :
    Calls Tryz.prog 29 #[.string s, .string ⟨#[c]⟩] w fun e w' =>
      ∃ g, e = .returned (.slice (some ⟨g, 0, none⟩) (cutAll c s.data.toList).length (cutAll c s.data.toList).length) ∧ w.heap.size ≤ g ∧ Arr w' g 9 (wordCells (cutAll c s.data.toList)) ∧ Below w.heap.size w w' := by
  obtain ⟨m, hm⟩ := hE.max
  have h := Any.strings_Split { Tryz.laysM146 with } Tryz.laysM146.i9 s ⟨#[c]⟩ m w (by omega) hm (Nat.le_refl 1)
  have hd := Lib.splitB_data ⟨#[c]⟩ 0 (Lib.countB s ⟨#[c]⟩) s
  have hk : Lib.splitK (⟨#[c]⟩ : ByteArray).data.toList 0 (Lib.countB s ⟨#[c]⟩) s.data.toList = cutAll c s.data.toList := splitK_one c s.data.toList
  rw [hk] at hd
  have hall := Lib.splitB_all ⟨#[c]⟩ (Nat.le_refl 1) 0 (Lib.countB s ⟨#[c]⟩) s rfl
  have hlen : Lib.countB s ⟨#[c]⟩ + 1 = (cutAll c s.data.toList).length := by rw [← hall, ← hd, List.length_map]
  rw [hlen, wordCells_of, hd] at h
  refine Calls.mono h ?_
  rintro e w' ⟨rfl, rfl⟩
  exact ⟨_, rfl, Nat.le_refl _, Arr.new rfl rfl, (Below.refl _ _).alloc (Nat.le_refl _) _⟩
theorem nameCells_of (w : World) (g : Nat) (h : Arr w g 9 nameCells) : ∀ j, j < namesB.length → w.cell? ⟨g, 0 + j, none⟩ = some (.string namesB[j]!) := fun j hj => by
  rw [Nat.zero_add]
  refine h.cell ?_
  rw [namesB_len] at hj
  rw [nameCell hj, namesB_at hj]
  rfl
theorem Index_any (g : Nat) (l : List UInt8) (w : World) (h : Arr w g 9 nameCells) :
    Calls Tryz.prog 71 #[.slice (some ⟨g, 0, none⟩) 17 17, .string (str l)] w fun e w' => e = .returned (.int .i64 (opIdx l)) ∧ w' = w :=
  AnyE.slices_Index Tryz.laysE29 Value.string eqBytes (EqlAt.string _ _) g 0 17 17 namesB (str l) w (Nat.le_of_eq namesB_len.symm) (by decide) (nameCells_of w g h)

theorem Index_b (g : Nat) (l : List UInt8) (w : World) (h : Arr w g 9 nameCells) :
    Calls Tryz.prog 71 #[.slice (some ⟨g, 0, none⟩) 17 17, .string (str l)] w fun e w' => e = .returned (.int .i64 (opIdx l)) ∧ Below w.heap.size w w' :=
  (Index_any g l w h).mono fun _ _ ⟨h1, h2⟩ => ⟨h1, h2 ▸ Below.refl _ _⟩

set_option maxRecDepth 100000 in
set_option maxHeartbeats 4000000 in
theorem read_any (s : ByteArray) (w : World) (hs : s.size ≤ 5000) (hE : Env w) :
    Calls Tryz.prog 30 #[.string s] w fun e w' => e = .returned (.tuple #[.int .u8 (readOp s.data.toList : Nat), .int .u8 (readNum s.data.toList : Nat), .bool (readOk s.data.toList)]) ∧ Below w.heap.size w w' := by
  have hB : Below w.heap.size w w := Below.refl _ _
  have hsl : s.data.toList.length = s.size := by simp
  have hS := Split_any s 32 w (by omega) hE
  have hF := Lib.hid (fun w hE => Fields_names w hE)
  have hmf : ∀ (fn : Fn) (first cap : Array Value) (w : World), (Instr.makeFunc fn first cap).run Tryz.prog w = .ok (.func fn first cap) w := fun _ _ _ _ => rfl
  have hwl : ∀ p ∈ cutAll 32 s.data.toList, p.length ≤ 10000 := fun p hp => by have := cutAll_le 32 s.data.toList p hp; omega
  have hwn := cutAll_len 32 s.data.toList
  have hne := cutAll_ne 32 s.data.toList
  have hop := readOp_lt s.data.toList
  have hnm := readNum_lt s.data.toList
  have e1 : readOp s.data.toList = if 0 ≤ opIdx (wordAt s.data.toList 0) then (opIdx (wordAt s.data.toList 0)).toNat else numB (wordAt s.data.toList 1) := rfl
  have e2 : readNum s.data.toList = if 0 ≤ opIdx (wordAt s.data.toList 0) then numB (wordAt s.data.toList 1) else numB (wordAt s.data.toList 2) := rfl
  have e3 : readOk s.data.toList = (lineB (readOp s.data.toList) (readNum s.data.toList) == s.data.toList) := rfl
  have ew0 : wordAt s.data.toList 0 = (cutAll 32 s.data.toList).getD 0 [] := by unfold wordAt; rw [Nat.zero_min]
  have ew1 : wordAt s.data.toList 1 = (cutAll 32 s.data.toList).getD (min 1 ((cutAll 32 s.data.toList).length - 1)) [] := rfl
  have ew2 : wordAt s.data.toList 2 = (cutAll 32 s.data.toList).getD (min 2 ((cutAll 32 s.data.toList).length - 1)) [] := rfl
  have hneq : (lineB (readOp s.data.toList) (readNum s.data.toList) == s.data.toList) = ((str (lineB (readOp s.data.toList) (readNum s.data.toList))).toList == s.toList) := by rw [Lib.toList_data, Lib.toList_data]; rfl
  have hL := fun w hE => line_any (readOp s.data.toList) (readNum s.data.toList) hop hnm w hE
  generalize lineB (readOp s.data.toList) (readNum s.data.toList) = ln at *
  generalize readOk s.data.toList = ok at *
  generalize readOp s.data.toList = o at *
  generalize readNum s.data.toList = n at *
  generalize wordAt s.data.toList 0 = w0 at *
  generalize wordAt s.data.toList 1 = w1 at *
  generalize wordAt s.data.toList 2 = w2 at *
  generalize cutAll 32 s.data.toList = ws at *
  have hN := fun (i : Nat) (box g : Nat) (W : World) h1 h2 h3 h4 => number_any i box g ws W h1 (fun e => hne (List.length_eq_zero_iff.1 e)) (by omega) hwl h2 h3 h4
  have hw0 : (wordCells ws)[0]? = some (.string (str w0)) := by rw [ew0]; exact wordCell (by have : ws.length ≠ 0 := fun e => hne (List.length_eq_zero_iff.1 e); omega)
  have hn0 : 0 < ws.length := by have : ws.length ≠ 0 := fun e => hne (List.length_eq_zero_iff.1 e); omega
  have hid := opIdx_cases w0
  replace hS := Lib.hid hS
  replace hL := Lib.hid hL
  replace hN := Lib.hid hN
  replace e1 := Lib.hid e1
  replace e2 := Lib.hid e2
  replace e3 := Lib.hid e3
  replace ew0 := Lib.hid ew0
  replace ew1 := Lib.hid ew1
  replace ew2 := Lib.hid ew2
  replace hsl := Lib.hid hsl
  replace hw0 := Lib.hid hw0
  clear hwl hne
  go_enter Tryz.func30, Tryz.ntmps30
  go_wp2_with fail
  refine hS.out.mono ?_
  rintro e v1 ⟨g, rfl, hg, hA, hb1⟩
  have hE1 := hE.below hb1
  replace hB := hB.trans (hb1.mono hB.size)
  clear hS hb1 hE
  go_wp2_with fail
  refine name_wp ?_
  intro v2 hv2
  have hbx : Arr v2 v1.heap.size 85 [.slice (some ⟨g, 0, none⟩) ws.length ws.length] := by rw [hv2]; exact Arr.new rfl rfl
  have hA2 : Arr v2 g 9 (wordCells ws) := by rw [hv2]; exact hA.alloc _
  have hb2 : Below v1.heap.size v1 v2 := by rw [hv2]; exact (Below.refl _ _).alloc (Nat.le_refl _) _
  have hE2 := hE1.below hb2
  replace hB := hB.trans (hb2.mono hB.size)
  clear hv2 hb2 hA hE1
  replace hg := Lib.hid hg
  generalize v1.heap.size = bx at *
  have m1 := hbx.mine (j := 0) rfl
  have m2 := hA2.mine hw0.out
  have hsz : w.heap.size ≤ v2.drew.heap.size := hB.size
  have c1 := m1.cell
  have f1 := m1.free
  have l1 := m1.lt
  have c2 := m2.cell
  have f2 := m2.free
  have l2 := m2.lt
  refine wp_region_held_drew (S := fun w' => w'.cell? ⟨bx, 0, none⟩ = some (.slice (some ⟨g, 0, none⟩) ws.length ws.length) ∧ w'.cell? ⟨g, 0, none⟩ = some (.string (str w0))) (by kernel_rfl) (by first | (dsimp only; go_keep) | go_keep) (fun hHeld => ?_)
  refine take_l (i := 1) (v := ?_) rfl (by kernel_rfl) (by kernel_rfl) (by kernel_rfl) (fun _ _ _ h => h) (Or.inl ⟨by kernel_rfl, ?_⟩) (by assumption) ?_
  rotate_left
  · intro w hSw; (try dsimp only at hSw); go_simp; (try with_reducible rfl)
  (try simp only [Act.put, List.setIfInBounds_toArray, List.set_cons_zero, List.set_cons_succ])
  refine take_l (i := 2) (v := ?_) rfl (by kernel_rfl) (by kernel_rfl) (by kernel_rfl) (fun _ _ _ h => h) (Or.inl ⟨by kernel_rfl, ?_⟩) (by assumption) ?_
  rotate_left
  · intro w hSw; (try dsimp only at hSw); go_simp; (try with_reducible rfl)
  (try simp only [Act.put, List.setIfInBounds_toArray, List.set_cons_zero, List.set_cons_succ])
  refine take_l (i := 3) (v := ?_) rfl (by kernel_rfl) (by kernel_rfl) (by kernel_rfl) (fun _ _ _ h => h) (Or.inl ⟨by kernel_rfl, ?_⟩) (by assumption) ?_
  rotate_left
  · intro w hSw; (try dsimp only at hSw); go_simp; (try with_reducible rfl)
  (try simp only [Act.put, List.setIfInBounds_toArray, List.set_cons_zero, List.set_cons_succ])
  refine wpAnyH_ready (rs := [0]) (by kernel_rfl) (by simp) ?_
  refine ready_l rfl (fun K hK => ?_) AllReadyH.nil
  go_simp
  first | (go_at_call 66; refine (hF.out _ (hE2.below (Below.drew (Below.refl _ _)))).mono ?_; rintro e vF ⟨gF, rfl, hgF, hAF, hbvF⟩; have n1vF : Mine vF bx 0 (.slice (some ⟨g, 0, none⟩) ws.length ws.length) := Mine.below (by (repeat first | with_reducible assumption | with_reducible refine Mine.drew ?_ | with_reducible refine Mine.drewN ?_ _ | ((with_reducible refine Mine.new ?_); rfl) | ((with_reducible refine Mine.newAt ?_ ?_) <;> first | rfl | (simp; done) | (simp only [World.size_alloc]; rfl)) | ((with_reducible refine Mine.set ?_ _); repeat first | exact Mine.slot (by with_reducible assumption) | with_reducible refine MineS.drew ?_ | with_reducible refine MineS.drewN ?_ _ | ((with_reducible refine MineS.new ?_); decide) | ((with_reducible refine MineS.newAt ?_ ?_) <;> first | decide | (simp; done)) | with_reducible refine MineS.set ?_ _ _ _ | with_reducible refine MineS.alloc ?_ _) | with_reducible refine Mine.other ?_ _ (by first | (left; omega) | (right; omega) | (simp; done) | (simp; omega)) | with_reducible refine Mine.alloc ?_ _)) hbvF; have g1vF := n1vF.cell; have gf1vF := n1vF.free; have n2vF : Mine vF g 0 (.string (str w0)) := Mine.below (by (repeat first | with_reducible assumption | with_reducible refine Mine.drew ?_ | with_reducible refine Mine.drewN ?_ _ | ((with_reducible refine Mine.new ?_); rfl) | ((with_reducible refine Mine.newAt ?_ ?_) <;> first | rfl | (simp; done) | (simp only [World.size_alloc]; rfl)) | ((with_reducible refine Mine.set ?_ _); repeat first | exact Mine.slot (by with_reducible assumption) | with_reducible refine MineS.drew ?_ | with_reducible refine MineS.drewN ?_ _ | ((with_reducible refine MineS.new ?_); decide) | ((with_reducible refine MineS.newAt ?_ ?_) <;> first | decide | (simp; done)) | with_reducible refine MineS.set ?_ _ _ _ | with_reducible refine MineS.alloc ?_ _) | with_reducible refine Mine.other ?_ _ (by first | (left; omega) | (right; omega) | (simp; done) | (simp; omega)) | with_reducible refine Mine.alloc ?_ _)) hbvF; have g2vF := n2vF.cell; have gf2vF := n2vF.free; have hBvF : Below w.heap.size w vF := Below.trans (by repeat first | with_reducible exact Below.refl _ _ | with_reducible assumption | with_reducible refine below_drewN ?_ _ | with_reducible refine Below.drew ?_ | with_reducible refine Below.setCell ?_ (by first | exact Nat.le_refl _ | (simp; done) | (simp; omega) | omega) _ | with_reducible refine Below.alloc ?_ (by first | exact Nat.le_refl _ | (simp; done) | (simp; omega) | omega) _ | exact Below.refl _ _ | assumption) (hbvF.mono (by first | exact Nat.le_refl _ | assumption | (simp; done) | (simp; omega) | omega)); have hzvF := hbvF.size; ) | (go_at_call 71; refine (Index_b gF w0 _ hAF).mono ?_; rintro e vI ⟨rfl, hbvI⟩; have n1vI : Mine vI bx 0 (.slice (some ⟨g, 0, none⟩) ws.length ws.length) := Mine.below (by (repeat first | with_reducible assumption | with_reducible refine Mine.drew ?_ | with_reducible refine Mine.drewN ?_ _ | ((with_reducible refine Mine.new ?_); rfl) | ((with_reducible refine Mine.newAt ?_ ?_) <;> first | rfl | (simp; done) | (simp only [World.size_alloc]; rfl)) | ((with_reducible refine Mine.set ?_ _); repeat first | exact Mine.slot (by with_reducible assumption) | with_reducible refine MineS.drew ?_ | with_reducible refine MineS.drewN ?_ _ | ((with_reducible refine MineS.new ?_); decide) | ((with_reducible refine MineS.newAt ?_ ?_) <;> first | decide | (simp; done)) | with_reducible refine MineS.set ?_ _ _ _ | with_reducible refine MineS.alloc ?_ _) | with_reducible refine Mine.other ?_ _ (by first | (left; omega) | (right; omega) | (simp; done) | (simp; omega)) | with_reducible refine Mine.alloc ?_ _)) hbvI; have g1vI := n1vI.cell; have gf1vI := n1vI.free; have n2vI : Mine vI g 0 (.string (str w0)) := Mine.below (by (repeat first | with_reducible assumption | with_reducible refine Mine.drew ?_ | with_reducible refine Mine.drewN ?_ _ | ((with_reducible refine Mine.new ?_); rfl) | ((with_reducible refine Mine.newAt ?_ ?_) <;> first | rfl | (simp; done) | (simp only [World.size_alloc]; rfl)) | ((with_reducible refine Mine.set ?_ _); repeat first | exact Mine.slot (by with_reducible assumption) | with_reducible refine MineS.drew ?_ | with_reducible refine MineS.drewN ?_ _ | ((with_reducible refine MineS.new ?_); decide) | ((with_reducible refine MineS.newAt ?_ ?_) <;> first | decide | (simp; done)) | with_reducible refine MineS.set ?_ _ _ _ | with_reducible refine MineS.alloc ?_ _) | with_reducible refine Mine.other ?_ _ (by first | (left; omega) | (right; omega) | (simp; done) | (simp; omega)) | with_reducible refine Mine.alloc ?_ _)) hbvI; have g2vI := n2vI.cell; have gf2vI := n2vI.free; have hBvI : Below w.heap.size w vI := Below.trans (by repeat first | with_reducible exact Below.refl _ _ | with_reducible assumption | with_reducible refine below_drewN ?_ _ | with_reducible refine Below.drew ?_ | with_reducible refine Below.setCell ?_ (by first | exact Nat.le_refl _ | (simp; done) | (simp; omega) | omega) _ | with_reducible refine Below.alloc ?_ (by first | exact Nat.le_refl _ | (simp; done) | (simp; omega) | omega) _ | exact Below.refl _ _ | assumption) (hbvI.mono (by first | exact Nat.le_refl _ | assumption | (simp; done) | (simp; omega) | omega)); have hzvI := hbvI.size; )
  refine hK.out _ _ (by first | (dsimp only; go_keep) | go_keep) (fun hHeld => ?_)
  clear hK K
  (try simp only [Act.put, List.setIfInBounds_toArray, List.set_cons_zero, List.set_cons_succ])
  refine wpAnyH_ready (rs := [4]) (by kernel_rfl) (by simp) ?_
  refine ready_l rfl (fun K hK => ?_) AllReadyH.nil
  go_simp
  first | (go_at_call 66; refine (hF.out _ (hE2.below (Below.drew (Below.refl _ _)))).mono ?_; rintro e vF ⟨gF, rfl, hgF, hAF, hbvF⟩; have n1vF : Mine vF bx 0 (.slice (some ⟨g, 0, none⟩) ws.length ws.length) := Mine.below (by (repeat first | with_reducible assumption | with_reducible refine Mine.drew ?_ | with_reducible refine Mine.drewN ?_ _ | ((with_reducible refine Mine.new ?_); rfl) | ((with_reducible refine Mine.newAt ?_ ?_) <;> first | rfl | (simp; done) | (simp only [World.size_alloc]; rfl)) | ((with_reducible refine Mine.set ?_ _); repeat first | exact Mine.slot (by with_reducible assumption) | with_reducible refine MineS.drew ?_ | with_reducible refine MineS.drewN ?_ _ | ((with_reducible refine MineS.new ?_); decide) | ((with_reducible refine MineS.newAt ?_ ?_) <;> first | decide | (simp; done)) | with_reducible refine MineS.set ?_ _ _ _ | with_reducible refine MineS.alloc ?_ _) | with_reducible refine Mine.other ?_ _ (by first | (left; omega) | (right; omega) | (simp; done) | (simp; omega)) | with_reducible refine Mine.alloc ?_ _)) hbvF; have g1vF := n1vF.cell; have gf1vF := n1vF.free; have n2vF : Mine vF g 0 (.string (str w0)) := Mine.below (by (repeat first | with_reducible assumption | with_reducible refine Mine.drew ?_ | with_reducible refine Mine.drewN ?_ _ | ((with_reducible refine Mine.new ?_); rfl) | ((with_reducible refine Mine.newAt ?_ ?_) <;> first | rfl | (simp; done) | (simp only [World.size_alloc]; rfl)) | ((with_reducible refine Mine.set ?_ _); repeat first | exact Mine.slot (by with_reducible assumption) | with_reducible refine MineS.drew ?_ | with_reducible refine MineS.drewN ?_ _ | ((with_reducible refine MineS.new ?_); decide) | ((with_reducible refine MineS.newAt ?_ ?_) <;> first | decide | (simp; done)) | with_reducible refine MineS.set ?_ _ _ _ | with_reducible refine MineS.alloc ?_ _) | with_reducible refine Mine.other ?_ _ (by first | (left; omega) | (right; omega) | (simp; done) | (simp; omega)) | with_reducible refine Mine.alloc ?_ _)) hbvF; have g2vF := n2vF.cell; have gf2vF := n2vF.free; have hBvF : Below w.heap.size w vF := Below.trans (by repeat first | with_reducible exact Below.refl _ _ | with_reducible assumption | with_reducible refine below_drewN ?_ _ | with_reducible refine Below.drew ?_ | with_reducible refine Below.setCell ?_ (by first | exact Nat.le_refl _ | (simp; done) | (simp; omega) | omega) _ | with_reducible refine Below.alloc ?_ (by first | exact Nat.le_refl _ | (simp; done) | (simp; omega) | omega) _ | exact Below.refl _ _ | assumption) (hbvF.mono (by first | exact Nat.le_refl _ | assumption | (simp; done) | (simp; omega) | omega)); have hzvF := hbvF.size; ) | (go_at_call 71; refine (Index_b gF w0 _ hAF).mono ?_; rintro e vI ⟨rfl, hbvI⟩; have n1vI : Mine vI bx 0 (.slice (some ⟨g, 0, none⟩) ws.length ws.length) := Mine.below (by (repeat first | with_reducible assumption | with_reducible refine Mine.drew ?_ | with_reducible refine Mine.drewN ?_ _ | ((with_reducible refine Mine.new ?_); rfl) | ((with_reducible refine Mine.newAt ?_ ?_) <;> first | rfl | (simp; done) | (simp only [World.size_alloc]; rfl)) | ((with_reducible refine Mine.set ?_ _); repeat first | exact Mine.slot (by with_reducible assumption) | with_reducible refine MineS.drew ?_ | with_reducible refine MineS.drewN ?_ _ | ((with_reducible refine MineS.new ?_); decide) | ((with_reducible refine MineS.newAt ?_ ?_) <;> first | decide | (simp; done)) | with_reducible refine MineS.set ?_ _ _ _ | with_reducible refine MineS.alloc ?_ _) | with_reducible refine Mine.other ?_ _ (by first | (left; omega) | (right; omega) | (simp; done) | (simp; omega)) | with_reducible refine Mine.alloc ?_ _)) hbvI; have g1vI := n1vI.cell; have gf1vI := n1vI.free; have n2vI : Mine vI g 0 (.string (str w0)) := Mine.below (by (repeat first | with_reducible assumption | with_reducible refine Mine.drew ?_ | with_reducible refine Mine.drewN ?_ _ | ((with_reducible refine Mine.new ?_); rfl) | ((with_reducible refine Mine.newAt ?_ ?_) <;> first | rfl | (simp; done) | (simp only [World.size_alloc]; rfl)) | ((with_reducible refine Mine.set ?_ _); repeat first | exact Mine.slot (by with_reducible assumption) | with_reducible refine MineS.drew ?_ | with_reducible refine MineS.drewN ?_ _ | ((with_reducible refine MineS.new ?_); decide) | ((with_reducible refine MineS.newAt ?_ ?_) <;> first | decide | (simp; done)) | with_reducible refine MineS.set ?_ _ _ _ | with_reducible refine MineS.alloc ?_ _) | with_reducible refine Mine.other ?_ _ (by first | (left; omega) | (right; omega) | (simp; done) | (simp; omega)) | with_reducible refine Mine.alloc ?_ _)) hbvI; have g2vI := n2vI.cell; have gf2vI := n2vI.free; have hBvI : Below w.heap.size w vI := Below.trans (by repeat first | with_reducible exact Below.refl _ _ | with_reducible assumption | with_reducible refine below_drewN ?_ _ | with_reducible refine Below.drew ?_ | with_reducible refine Below.setCell ?_ (by first | exact Nat.le_refl _ | (simp; done) | (simp; omega) | omega) _ | with_reducible refine Below.alloc ?_ (by first | exact Nat.le_refl _ | (simp; done) | (simp; omega) | omega) _ | exact Below.refl _ _ | assumption) (hbvI.mono (by first | exact Nat.le_refl _ | assumption | (simp; done) | (simp; omega) | omega)); have hzvI := hbvI.size; )
  refine hK.out _ _ (by first | (dsimp only; go_keep) | go_keep) (fun hHeld => ?_)
  clear hK K
  (try simp only [Act.put, List.setIfInBounds_toArray, List.set_cons_zero, List.set_cons_succ])
  refine take_l (i := 5) (v := ?_) rfl (by kernel_rfl) (by kernel_rfl) (by kernel_rfl) (fun _ _ _ h => h) (Or.inl ⟨by kernel_rfl, ?_⟩) (by assumption) ?_
  rotate_left
  · intro w hSw; (try dsimp only at hSw); go_simp; (try with_reducible rfl)
  (try simp only [Act.put, List.setIfInBounds_toArray, List.set_cons_zero, List.set_cons_succ])
  refine wpAnyH_done (by kernel_rfl) ?_ _
  have hE3 : Env vI := ((hE2.below (Below.drew (Below.refl _ _))).below hbvF).below hbvI
  have hbx3 : Arr vI bx 85 [.slice (some ⟨g, 0, none⟩) ws.length ws.length] := ((hbx.drew).below hbvF).below hbvI
  have hA3 : Arr vI g 9 (wordCells ws) := ((hA2.drew).below hbvF).below hbvI
  have hBx : Below w.heap.size w vI := hBvI
  clear m1 m2 c1 f1 l1 c2 f2 l2 n1vF g1vF gf1vF n2vF g2vF gf2vF hBvF hzvF n1vI g1vI gf1vI n2vI g2vI gf2vI hzvI hAF hbvF hbvI hsz hE2 hbx hA2 hBvI hB
  have hlast : ∀ (W : World), ((str ln).toList == s.toList) = ok := fun _ => by rw [← hneq]; exact e3.out.symm
  have i1 : (0 : Int) ≤ (o : Int) := by omega
  rcases hid with hid | ⟨k, hk, hid⟩
  · have ho : o = numB w1 := by have := e1.out; rw [hid] at this; simpa using this
    have hn : n = numB w2 := by have := e2.out; rw [hid] at this; simpa using this
    rw [hid]
    replace hid := Lib.hid hid
    have h1 := hN.out 1 bx g vI (by omega) hbx3 hA3 hE3
    rw [← ew1.out, ← ho] at h1
    have h2 := fun (W : World) (hb : Below vI.heap.size vI W) => hN.out 2 bx g W (by omega) (hbx3.below hb) (hA3.below hb) (hE3.below hb)
    rw [← ew2.out, ← hn] at h2
    replace h1 := Lib.hid h1
    replace h2 := Lib.hid h2
    replace ho := Lib.hid ho
    replace hn := Lib.hid hn
    have hl0 := hlast vI
    clear hbx3 hA3 hN hneq
    go_wp2_with fail
    refine h1.out.mono ?_
    rintro e v4 ⟨rfl, hb4⟩
    go_wp2_with fail
    refine (h2.out v4 hb4).mono ?_
    rintro e v5 ⟨rfl, hb5⟩
    have hb6 := hb4.trans (hb5.mono hb4.size)
    go_wp2_with fail
    refine (hL.out v5 (hE3.below hb6)).mono ?_
    rintro e v7 ⟨rfl, hb7⟩
    go_wp2_with fail
    exact bodyPost_ret (v := .tuple #[.int .u8 o, .int .u8 n, .bool ok]) (by simp [results, Tryz.f30, go_sem]) rfl ⟨rfl, (hBx.trans (hb6.mono hBx.size)).trans (hb7.mono (Nat.le_trans hBx.size hb6.size))⟩
  · have ho : o = k := by have := e1.out; rw [hid, if_pos (by omega)] at this; simpa using this
    have hn : n = numB w1 := by have := e2.out; rw [hid, if_pos (by omega)] at this; exact this
    rw [hid]
    replace hid := Lib.hid hid
    subst ho
    have h1 := hN.out 1 bx g vI (by omega) hbx3 hA3 hE3
    rw [← ew1.out, ← hn] at h1
    replace h1 := Lib.hid h1
    replace hn := Lib.hid hn
    have hl0 := hlast vI
    have hd : decide ((o : Int) ≥ 0) = true := by simp
    have hwr : IntKind.u8.wrap (o : Int) = (o : Int) := by simp [IntKind.wrap, IntKind.bits, IntKind.signed]; omega
    clear hbx3 hA3 hN hneq
    go_wp2_with fail
    refine h1.out.mono ?_
    rintro e v4 ⟨rfl, hb4⟩
    go_wp2_with fail
    refine (hL.out v4 (hE3.below hb4)).mono ?_
    rintro e v7 ⟨rfl, hb7⟩
    go_wp2_with fail
    exact bodyPost_ret (v := .tuple #[.int .u8 o, .int .u8 n, .bool ok]) (by simp [results, Tryz.f30, go_sem]) rfl ⟨rfl, (hBx.trans (hb4.mono hBx.size)).trans (hb7.mono (Nat.le_trans hBx.size hb4.size))⟩
end Go.Proofs.YtocpnlifmeffkaaGreatDoor
namespace Go.Proofs.YtocpnlifmeffkaaGreatDoor
open Go.RowKit Go.Shelf

theorem bytesOf_toNat (l : List UInt8) : bytesOf (l.map (·.toNat)) = l := by
  unfold bytesOf
  rw [List.map_map]
  conv => rhs; rw [← List.map_id l]
  exact List.map_congr_left fun x _ => by simp
theorem conv_own {w : World} {B : Nat} {v : Value} {out : List UInt8} (h : w.ownsRow B 5 1 v out.length (Lib.byteCells out)) :
    (convert 57 9 v).run Tryz.prog w = .ok (.string (str out)) w := by
  cases out with
  | nil =>
    rcases h.2 with ⟨rfl, _⟩ | ⟨g, cap, cur, rfl, _⟩
    · exact run_convert_bytes_nil (P := Tryz.prog) (w := w) 57 5 Tryz.underlying57 Tryz.underlying5 0 0 9 Tryz.underlying9
    · have := run_convert_bytes_arg (P := Tryz.prog) w 57 5 Tryz.underlying57 Tryz.underlying5 g 0 0 cap [] rfl (fun j hj => by omega) 9 Tryz.underlying9
      exact this
  | cons a r =>
    obtain ⟨g, cap, rfl, _, _, _, _, hc⟩ := own_cells h
    have := run_convert_bytes_arg (P := Tryz.prog) w 57 5 Tryz.underlying57 Tryz.underlying5 g 0 (a :: r).length cap (((a :: r).map (·.toNat)).map fun n : Nat => (n : Int)) (by simp) (fun j hj => by
      rw [Nat.zero_add]
      refine (hc j _ ?_).1
      have e : (((a :: r).map (·.toNat)).map fun n : Nat => (n : Int)).getD j 0 = ((a :: r)[j].toNat : Int) := by
        rw [List.getD_eq_getElem?_getD, List.getElem?_map, List.getElem?_map, List.getElem?_eq_getElem hj]
        rfl
      rw [e]
      unfold Lib.byteCells
      rw [List.getElem?_map, List.getElem?_eq_getElem hj]
      rfl) 9 Tryz.underlying9
    rw [strOfNums_nums, bytesOf_toNat] at this
    exact this
theorem info_byte4 : (Tryz.prog.info? 5).map (fun i => (i.zero, i.size, i.bytes)) = some (some (.int .u8 0), 1, 1) := by kernel_rfl
theorem own_val {w : World} {B n s : Nat} {e : TypeId} {v : Value} {xs : List Value} (h : w.ownsRow B e s v n xs) : ∃ a cap, v = .slice a n cap := by
  obtain ⟨_, h⟩ := h
  rcases h with ⟨rfl, rfl⟩ | ⟨g, cap, _, rfl, _⟩
  · exact ⟨_, _, rfl⟩
  · exact ⟨_, _, rfl⟩
theorem drop_getD {α : Type} (l : List α) (k : Nat) (d : α) (h : k < l.length) : l.drop k = l.getD k d :: l.drop (k + 1) := by
  rw [List.getD_eq_getElem?_getD, List.getElem?_eq_getElem h, List.drop_eq_getElem_cons h]
  rfl
/-- How far the lines are parsed. -/
def ParI (w wr : World) (ls : List (List UInt8)) (R : List UInt8 × Nat × Int) (k : Nat) (out : List UInt8) (v : Value) : Prop :=
  Below w.heap.size w wr ∧ wr.ownsRow w.heap.size 5 1 v out.length (Lib.byteCells out) ∧ parseL (ls.drop k) k out = R

set_option maxRecDepth 100000 in
set_option maxHeartbeats 4000000 in
/-- P12.5: computer.Parse. -/
theorem Parse_any (s : ByteArray) (w : World) (hs : s.size ≤ 5000) (hE : Env w) :
    Calls Tryz.prog 10 #[.string s] w fun e w' => e = .returned (.tuple #[.string (str (parseB s.data.toList).1), .int .i64 ((parseB s.data.toList).2.1 : Nat), .int .i64 (parseB s.data.toList).2.2]) ∧ Below w.heap.size w w' := by
  obtain ⟨i0, hi, hz0, hz1, hz2⟩ := info_parts info_byte4
  have hB : Below w.heap.size w w := Below.refl _ _
  have hsl : s.data.toList.length = s.size := by simp
  have hS := Split_any s 10 w (by omega) hE
  have hwl : ∀ p ∈ cutAll 10 s.data.toList, p.length ≤ 5000 := fun p hp => by have := cutAll_le 10 s.data.toList p hp; omega
  have hwn := cutAll_len 10 s.data.toList
  have hne := cutAll_ne 10 s.data.toList
  have hR : parseB s.data.toList = parseL (cutAll 10 s.data.toList) 0 [] := rfl
  generalize parseB s.data.toList = R at *
  generalize cutAll 10 s.data.toList = ls at *
  have hn0 : 0 < ls.length := by have : ls.length ≠ 0 := fun e => hne (List.length_eq_zero_iff.1 e); omega
  have hnb : ls.length ≤ 5001 := by omega
  replace hS := Lib.hid hS
  replace hR := Lib.hid hR
  clear hsl hwn hne
  go_enter Tryz.func10, Tryz.ntmps10
  go_wp2_with fail
  refine hS.out.mono ?_
  rintro e v1 ⟨g, rfl, hg, hA, hb1⟩
  replace hB := hB.trans (hb1.mono hB.size)
  clear hS hb1
  replace hg := Lib.hid hg
  go_wp2_with fail
  go_loopw [16, 6] (fun i v wr => ∃ (k : Nat) (out : List UInt8), k ≤ ls.length ∧ i = .int .i64 k ∧ out.length ≤ 258 ∧ Hid (ParI w wr ls R k out v) ∧ Aside (Arr wr g 9 (wordCells ls))) (fun i _ _ => ls.length - (intOf i).toNat)
  case atStart => exact ⟨0, [], Nat.zero_le _, rfl, by simp, (show ParI _ _ _ _ _ _ _ from ⟨hB, World.ownsRow_nil _ _ _ _, hR.out.symm⟩), hA⟩
  case round =>
    obtain ⟨k, out, hk, rfl, hol, hI, hAr⟩ := hrel
    clear hB hA
    obtain ⟨ao, vc, rfl⟩ := own_val hI.out.2.1
    have hconv := conv_own hI.out.2.1
    have hwn : IntKind.i64.wrap ((ls.length : Int) - 1) = (ls.length : Int) - 1 := IntWalk.i64_in _ (by omega)
    by_cases hlt : k < ls.length
    · have hd : decide ((k : Int) < (ls.length : Int)) = true := by simpa using hlt
      have hcell := hAr.out.cell (wordCell hlt)
      have hdrop := drop_getD ls k [] hlt
      have htl : (ls.getD k []).length ≤ 5000 := by
        rw [List.getD_eq_getElem?_getD, List.getElem?_eq_getElem hlt]
        exact hwl _ (List.getElem_mem _)
      have hP := hI.out.2.2
      rw [hdrop] at hP
      generalize ls.getD k [] = t at *
      have hrd := read_any (str t) wr (by rw [str_size]; omega) (hE.below hI.out.1)
      rw [str_list] at hrd
      by_cases hlast : k + 1 = ls.length
      · have hdn : ls.drop (k + 1) = [] := by rw [List.drop_eq_nil_iff]; omega
        rw [hdn] at hP
        clear hdrop hdn
        have hq : ((k : Int) == (ls.length : Int) - 1) = true := by rw [beq_iff_eq]; omega
        cases t with
        | nil =>
          have hRe : R = (out, 0, 0) := by rw [← hP]; rfl
          replace hP := Lib.hid hP
          replace hRe := Lib.hid hRe
          rw [show str [] = ⟨#[]⟩ from rfl] at hcell
          clear hrd
          go_wp2_with fail
          exact bodyPost_ret (v := .tuple #[.string (str out), .int .i64 0, .int .i64 0]) (by simp [results, Tryz.f10, go_sem]) rfl ⟨by rw [hRe.out]; rfl, hI.out.1⟩
        | cons a r =>
          have hRe : R = ([], k + 1, 120) := by rw [← hP]; rfl
          have hts : (str (a :: r)).toList = a :: r := Lib.toList_data _
          have hw1 : IntKind.i64.wrap ((k : Int) + 1) = (k : Int) + 1 := IntWalk.i64_in _ (by omega)
          replace hP := Lib.hid hP
          replace hRe := Lib.hid hRe
          have hBw := hI.out.1
          cases hok : readOk (a :: r) with
          | true =>
            rw [hok] at hrd
            replace hrd := Lib.hid hrd
            replace hok := Lib.hid hok
            go_wp2_with fail
            refine hrd.out.mono ?_
            rintro e w3 ⟨rfl, hb3⟩
            go_wp2_with fail
            exact bodyPost_ret (v := .tuple #[.string ⟨#[]⟩, .int .i64 ((k : Int) + 1), .int .i64 120]) (by simp [results, Tryz.f10, go_sem]) rfl ⟨by rw [hRe.out]; rfl, hBw.trans (hb3.mono hBw.size)⟩
          | false =>
            rw [hok] at hrd
            replace hrd := Lib.hid hrd
            replace hok := Lib.hid hok
            go_wp2_with fail
            refine hrd.out.mono ?_
            rintro e w3 ⟨rfl, hb3⟩
            go_wp2_with fail
            exact bodyPost_ret (v := .tuple #[.string ⟨#[]⟩, .int .i64 ((k : Int) + 1), .int .i64 120]) (by simp [results, Tryz.f10, go_sem]) rfl ⟨by rw [hRe.out]; rfl, hBw.trans (hb3.mono hBw.size)⟩
      · have hq : ((k : Int) == (ls.length : Int) - 1) = false := by rw [beq_eq_false_iff_ne]; omega
        have hw1 : IntKind.i64.wrap ((k : Int) + 1) = (k : Int) + 1 := IntWalk.i64_in _ (by omega)
        have hrest : ∃ q r, ls.drop (k + 1) = q :: r := by
          cases hd : ls.drop (k + 1) with
          | nil => rw [List.drop_eq_nil_iff] at hd; omega
          | cons q r => exact ⟨q, r, rfl⟩
        obtain ⟨q, r, hqr⟩ := hrest
        rw [hqr, parseL, findB_read, ← hqr] at hP
        clear hqr hdrop
        have hBw := hI.out.1
        cases hok : readOk t with
        | false =>
          have hRe : R = ([], k + 1, 120) := by rw [← hP, hok]; rfl
          rw [hok] at hrd
          replace hrd := Lib.hid hrd
          replace hok := Lib.hid hok
          replace hP := Lib.hid hP
          replace hRe := Lib.hid hRe
          go_wp2_with fail
          refine hrd.out.mono ?_
          rintro e w3 ⟨rfl, hb3⟩
          go_wp2_with fail
          exact bodyPost_ret (v := .tuple #[.string ⟨#[]⟩, .int .i64 ((k : Int) + 1), .int .i64 120]) (by simp [results, Tryz.f10, go_sem]) rfl ⟨by rw [hRe.out]; rfl, hBw.trans (hb3.mono hBw.size)⟩
        | true =>
          rw [hok, if_pos rfl, stepP] at hP
          rw [hok] at hrd
          have hop := readOp_lt t
          have hnm := readNum_lt t
          generalize readOp t = o at *
          generalize readNum t = n at *
          replace hrd := Lib.hid hrd
          replace hok := Lib.hid hok
          by_cases hfull : 256 ≤ out.length
          · have hRe : R = ([], k + 1, 120) := by rw [← hP, if_pos hfull]
            have hd3 : decide ((out.length : Int) ≥ 256) = true := by simp; omega
            replace hP := Lib.hid hP
            replace hRe := Lib.hid hRe
            go_wp2_with fail
            refine hrd.out.mono ?_
            rintro e w3 ⟨rfl, hb3⟩
            go_wp2_with fail
            exact bodyPost_ret (v := .tuple #[.string ⟨#[]⟩, .int .i64 ((k : Int) + 1), .int .i64 120]) (by simp [results, Tryz.f10, go_sem]) rfl ⟨by rw [hRe.out]; rfl, hBw.trans (hb3.mono hBw.size)⟩
          · rw [if_neg hfull] at hP
            have hd3 : decide ((out.length : Int) ≥ 256) = false := by simp; omega
            replace hP := Lib.hid hP
            have hor := hI.out.2.1
            replace hor := Lib.hid hor
            clear hI hconv
            go_wp2_with fail
            refine hrd.out.mono ?_
            rintro e w3 ⟨rfl, hb3⟩
            have hor3 := own_below (own_below hor.out hb3) ((Below.refl w3.heap.size w3).alloc (Nat.le_refl _) (.cells #[.int .u8 (o : Int), .int .u8 (n : Int)] 5))
            have hA3 := (hAr.out.below hb3).alloc (.cells #[.int .u8 (o : Int), .int .u8 (n : Int)] 5)
            have hBw3 := hBw.trans (hb3.mono hBw.size)
            have hnew : Arr (w3.alloc (.cells #[.int .u8 (o : Int), .int .u8 (n : Int)] 5)) w3.heap.size 5 [.int .u8 (o : Int), .int .u8 (n : Int)] := Arr.new rfl rfl
            have hnc : ∀ j u, [Value.int .u8 (o : Int), .int .u8 (n : Int)][j]? = some u → (w3.alloc (.cells #[.int .u8 (o : Int), .int .u8 (n : Int)] 5)).cell? ((⟨w3.heap.size, 0, none⟩ : Addr).add j) = some u := fun j u hu => by rw [Addr.add_mid, Nat.zero_add]; exact hnew.cell hu
            replace hor3 := Lib.hid hor3
            replace hA3 := Lib.hid hA3
            replace hBw3 := Lib.hid hBw3
            replace hnc := Lib.hid hnc
            have hgw3 := hA3.out.lt
            clear hnew hb3 hBw hor hcell hrd
            go_wp2_with (at_builtin; go_loud (refine wpList_append_own _ rfl _ _ 57 rfl w.heap.size 5 i0 (.int .u8 0) 1 1 Tryz.underlying57 hi hz0 hz1 hz2 rfl (by decide) (.slice ao out.length vc) out.length (Lib.byteCells out) rfl hor3.out _ 2 2 [.int .u8 (o : Int), .int .u8 (n : Int)] rfl rfl hnc.out (by simp [Value.oneCell']) (by unfold maxLen; omega) (by omega) (by have := hBw3.out.size; simp; omega) ?_; intro v' w4 hown' hgrow hnil))
            have hA4 : Arr w4 g 9 (wordCells ls) := (hgrow.block g hgw3 (fun e => Lib.ownBlock_ne hor3.out hA3.out (by decide) e.symm)).trans hA3.out
            have hB4 : Below w.heap.size w w4 := (hBw3.out.alloc hBw3.out.size _).grown hgrow (by have := hBw3.out.size; simp; omega) (fun j e => (hor3.out.lt j e).1)
            have hcs : Lib.byteCells out ++ [Value.int .u8 (o : Int), .int .u8 (n : Int)] = Lib.byteCells (out ++ [UInt8.ofNat o, UInt8.ofNat n]) := by
              simp [Lib.byteCells, Nat.mod_eq_of_lt hop, Nat.mod_eq_of_lt hnm]
            rw [hcs] at hown'
            have hI4 : ParI w w4 ls R (k + 1) (out ++ [UInt8.ofNat o, UInt8.ofNat n]) v' := ⟨hB4, by rw [List.length_append]; exact hown', hP.out⟩
            replace hw1 := Lib.hid hw1
            exact ⟨⟨k + 1, out ++ [UInt8.ofNat o, UInt8.ofNat n], by omega, by go_num, by simp; omega, hI4, hA4⟩, by simp [intOf]; omega⟩
    · have hke : k = ls.length := by omega
      subst hke
      have hd : decide ((ls.length : Int) < (ls.length : Int)) = false := by simp
      have hRe : R = (out, 0, 0) := by rw [← hI.out.2.2, List.drop_length]; rfl
      replace hRe := Lib.hid hRe
      go_wp2_with fail
      exact bodyPost_ret (v := .tuple #[.string (str out), .int .i64 0, .int .i64 0]) (by simp [results, Tryz.f10, go_sem]) rfl ⟨by rw [hRe.out]; rfl, hI.out.1⟩
end Go.Proofs.YtocpnlifmeffkaaGreatDoor
