/-
 Routes of chapter 11: route.Best.
 Routes of chapter 11: route.Of.
-/
import Derived.Test.YtpeandbcdaikbaaGreatDoorYN
namespace Go.Proofs.YtpeandbcdaikbaaGreatDoor
open Go.RowKit Go.Shelf Go.Maps

attribute [local go_sem] Oper.semAt_some

theorem RoutesT.below {w w' : World} {v : Value} {zs : List RouM} (h : RoutesT w v zs) (hb : Below w.heap.size w w') : RoutesT w' v zs := ⟨h.1.below hb, fun z hz => (h.2 z hz).below hb⟩
theorem RoutesT.len {w : World} {v : Value} {zs : List RouM} (h : RoutesT w v zs) : ∃ a c, v = .slice a zs.length c ∧ zs.length ≤ maxLen := h.1.len
theorem RoutesT.cells {w : World} {v : Value} {zs : List RouM} (h : RoutesT w v zs) {i : Nat} (hi : i < zs.length) : ∃ b o c, v = .slice (some ⟨b, o, none⟩) zs.length c ∧ b < w.heap.size ∧ w.cell? ⟨b, o + i * 4, none⟩ = some (zs[i]!).ev ∧ w.cell? ⟨b, o + i * 4 + 1, none⟩ = some (.int .i64 (zs[i]!).r.cost) ∧ w.cell? ⟨b, o + i * 4 + 2, none⟩ = some (.int .i64 (zs[i]!).r.life) ∧ w.cell? ⟨b, o + i * 4 + 3, none⟩ = some (zs[i]!).cv := by
 obtain ⟨a, c, hv, _, _, hc⟩ := h.1.at
 obtain ⟨b, o, rfl, hb, hx⟩ := hc (by omega)
 have p := fun j hj => rouCells_at zs i j hi hj
 exact ⟨b, o, c, hv, hb, hx (i * 4) _ (p 0 (by omega)), hx (i * 4 + 1) _ (p 1 (by omega)), hx (i * 4 + 2) _ (p 2 (by omega)), hx (i * 4 + 3) _ (p 3 (by omega))⟩
theorem RoutesT.ok {w : World} {v : Value} {zs : List RouM} (h : RoutesT w v zs) {i : Nat} (hi : i < zs.length) : OkR zs[i]! w := h.2 _ (by rw [getElem!_pos zs i hi]; exact List.getElem_mem hi)
theorem OkR.shape {z : RouM} {w : World} (h : OkR z w) : ∃ ea ec ca cc, z.ev = .slice ea z.r.edges.length ec ∧ z.cv = .slice ca z.r.claims.length cc := by
 obtain ⟨a, c, h1, _⟩ := h.1.len
 obtain ⟨_, _, ⟨b, d, h2, _⟩, _⟩ := h.2
 exact ⟨a, c, b, d, h1, h2⟩
theorem validE_parts {l : List Edg} (h : validE l = true) : l.length ≤ 40 ∧ ∀ e ∈ l, okE e = true := by
 unfold validE at h
 rw [Bool.and_eq_true, decide_eq_true_eq, List.all_eq_true] at h
 exact h
theorem take_filter {d : List Rou} (p : Rou → Bool) {i : Nat} (hi : i < d.length) : (d.take (i + 1)).filter p = (d.take i).filter p ++ if p d[i]! then [d[i]!] else [] := by
 rw [List.take_add_one, List.filter_append, List.getElem?_eq_getElem hi, getElem!_pos d i hi]
 cases hp : p d[i] <;> simp [hp]
/-- What Best's inner loop has seen. -/
def SeenB (d : List Rou) (r : Rou) (i k : Nat) : Prop := ∀ k', k' < k → ¬(k' ≠ i ∧ betterP d[k']! r = true ∧ (k' < i ∨ betterP r d[k']! = false))
theorem SeenB.zero (d : List Rou) (r : Rou) (i : Nat) : SeenB d r i 0 := fun _ h => absurd h (Nat.not_lt_zero _)
theorem SeenB.next {d : List Rou} {r : Rou} {i k : Nat} (h : SeenB d r i k) (hk : ¬(k ≠ i ∧ betterP d[k]! r = true ∧ (k < i ∨ betterP r d[k]! = false))) : SeenB d r i (k + 1) := fun k' h' => by
 by_cases e : k' = k
 ·
  subst e; exact hk
 ·
  exact h k' (by omega)
/-- What Best has gathered. -/
def Gath (B : Nat) (w : World) (zs : List RouM) (p : Rou → Bool) (ov : Value) (i : Nat) (wr : World) : Prop :=
 ∃ zo : List RouM, wr.ownsRow B 33 4 ov zo.length (rouCells zo) ∧ zo.map RouM.r = ((zs.map RouM.r).take i).filter p ∧ (∀ z ∈ zo, z ∈ zs) ∧ Below B w wr
theorem Gath.skip {B : Nat} {w : World} {zs : List RouM} {p : Rou → Bool} {ov : Value} {i : Nat} {wr wq : World} (h : Gath B w zs p ov i wr) (hB : B ≤ w.heap.size) (hb : Below wr.heap.size wr wq) (hi : i < zs.length) (hn : p (zs.map RouM.r)[i]! = false) : Gath B w zs p ov (i + 1) wq := by
 obtain ⟨zo, h1, h2, h3, h4⟩ := h
 refine ⟨zo, own_below h1 hb, ?_, h3, h4.trans (hb.mono (Nat.le_trans hB h4.size))⟩
 rw [take_filter p (by simpa using hi), hn, h2]
 simp
set_option maxRecDepth 100000 in
set_option maxHeartbeats 4000000 in
/-- All ways' routes, in order. -/
theorem all_seq (l : List Edg) (life : List Int) (frm day hops : Int) (pa la : Option Addr) (pc lc : Nat) (fv cv : Value) (bp bw bh : Nat) (w : World) (hI : ∀ e ∈ l, MigIn e.does) (hv : validE l = true)
  (hE : EdgesAt w w.heap.size (.slice pa l.length pc) l) (hL : NumsAt w w.heap.size (.slice la life.length lc) life) (hW : WayT w fv (.slice none 0 0) cv (beginP frm))
  (hp : Arr w bp 80 [.slice pa l.length pc, .slice la life.length lc, .int .i64 day]) (hw : Arr w bw 82 [fv, .slice none 0 0, .int .i64 0, .int .i64 0, cv]) (hh : Arr w bh 3 [.int .i64 ((min hops 6).toNat : Int)]) :
  SeqAllR Fence.wide 3 Tryz.prog 78 #[.pointer (some ⟨bp, 0, none⟩), .pointer (some ⟨bw, 0, none⟩), .pointer (some ⟨bh, 0, none⟩)] encR (KpR w.heap.size) (fun xs => xs.map RouM.r = allP l life frm day hops) (allP l life frm day hops).length OkR w :=
 from1_all hI (validE_parts hv).2 (validE_parts hv).1 (min hops 6).toNat (by omega) (beginP frm) fv (.slice none 0 0) cv bp bw bh w ⟨Nat.le_refl _, hp, hw, hh, hE, hL, hW⟩
set_option maxRecDepth 100000 in
set_option maxHeartbeats 4000000 in
theorem Best_any (l : List Edg) (life : List Int) (frm day hops : Int) (pev plv : Value) (w : World) (hI : ∀ e ∈ l, MigIn e.does) (hE : EdgesAt w w.heap.size pev l) (hL : NumsAt w w.heap.size plv life) :
  Calls Tryz.prog 19 #[pev, plv, .int .i64 frm, .int .i64 day, .int .i64 hops] w fun e w' => ∃ v zs, e = .returned v ∧ zs.map RouM.r = bestP l life frm day hops ∧ RoutesT w' v zs ∧ Below w.heap.size w w' := by
 obtain ⟨_, _, ⟨pa, pc, rfl, _, _, _⟩, _⟩ := id hE
 obtain ⟨la, lc, rfl, _, _, _⟩ := id hL
 obtain ⟨i0, hi, hz0, hz1, hz2⟩ := info_parts Tryz.info_route
 have hva := Lib.hid (rValid_any _ l w hE hI)
 go_enter Tryz.func19, Tryz.ntmps19
 go_wp2_with fail
 refine wp_scope_straight ?_
 go_wp2_with fail
 refine hva.out.mono ?_
 rintro e w1 ⟨rfl, hb1⟩
 cases hv : validE l with
 | false =>
  go_wp2_with fail
  dsimp only [Exit.noGoto]
  go_ret
  exact ⟨_, [], rfl, by rw [bestP, if_neg (by rw [hv]; simp)]; rfl, ⟨⟨none, 0, rfl, Nat.le_refl _, Nat.zero_le _, fun h => absurd h (Nat.lt_irrefl 0)⟩, fun z hz => absurd hz (by simp)⟩, hb1⟩
 | true =>
  by_cases h0 : hops < 0
  ·
   have hd : decide (hops < 0) = true := by simpa using h0
   go_wp2_with fail
   dsimp only [Exit.noGoto]
   go_ret
   exact ⟨_, [], rfl, by rw [bestP, if_neg (by omega)]; rfl, ⟨⟨none, 0, rfl, Nat.le_refl _, Nat.zero_le _, fun h => absurd h (Nat.lt_irrefl 0)⟩, fun z hz => absurd hz (by simp)⟩, hb1⟩
  ·
   have hd : decide (hops < 0) = false := by simpa using h0
   have hbg := Lib.hid (begin_any frm w1)
   go_wp2_with fail
   refine hbg.out.mono ?_
   rintro e w2 ⟨fv, cv, rfl, hway, hb2⟩
   have hb12 := hb1.trans (hb2.mono hb1.size)
   obtain ⟨fa, fc, rfl, _⟩ := hway.formats.len
   obtain ⟨_, _, ⟨ca, cc, rfl, _, _, _⟩, _⟩ := id hway.claims
   have hmin : (((min hops 6).toNat : Nat) : Int) = min hops 6 := by omega
   have hfr := from_any (.slice pa l.length pc) (.slice la life.length lc) (.slice fa (beginP frm).formats.length fc) (.slice none 0 0) (.slice ca (beginP frm).rou.claims.length cc) day (beginP frm) (min hops 6).toNat w2 ⟨_, _, _, rfl⟩ ⟨_, _, _, rfl⟩ ⟨_, _, _, rfl⟩ ⟨_, _, _, rfl⟩ ⟨_, _, _, rfl⟩
   rw [hmin] at hfr
   replace hfr := Lib.hid hfr
   replace hway := Lib.hid hway
   replace hmin := Lib.hid hmin
   go_wp2_with fail
   refine hfr.out.mono ?_
   rintro e w3 ⟨np, nw, nh, rfl, hNp, hNw, hNh, hb3⟩
   have hb13 := hb12.trans (hb3.mono hb12.size)
   rw [← hmin.out] at hNh
   have hsq := all_seq l life frm day hops pa la pc lc _ _ np nw nh w3 hI hv (hE.later hb13) (hL.later hb13) (hway.out.below hb3) hNp hNw hNh
   have hSo := Lib.hid (SortedR_any _ _ (enters_of Tryz.func78 (by kernel_rfl) rfl) _ (all_len hv life frm day hops) w3 hsq)
   clear hsq hNp hNw hNh hfr hway hmin
   go_wp2_with fail
   refine hSo.out.mono ?_
   rintro e w4 ⟨va, zs, rfl, hperm, hsort, hZ, hb4⟩
   have hb14 := hb13.trans (hb4.mono hb13.size)
   obtain ⟨za, zc, rfl, hzm⟩ := hZ.len
   have hlen := all_len hv life frm day hops
   rw [← hperm.length_eq, List.length_map] at hlen
   have hrow := best_row hv (by omega) hperm hsort
   have hisb := fun i (hi : i < (zs.map RouM.r).length) => isBest_row hv hperm hsort hi
   have hgood : ∀ i, i < zs.length → (zs.map RouM.r)[i]! = (zs[i]!).r := fun i hi => by
    rw [getElem!_pos (zs.map RouM.r) i (by simpa using hi), getElem!_pos zs i hi, List.getElem_map]
   clear hperm hsort hSo
   replace hrow := Lib.hid hrow
   replace hisb := Lib.hid hisb
   replace hgood := Lib.hid hgood
   replace hZ := Lib.hid hZ
   go_wp2_with fail
   refine wp_label ?_
   go_wp2_with fail
   have hstart : Hid (Gath w4.heap.size w4 zs (isBest (allP l life frm day hops)) (.slice none 0 0) 0 w4) := ⟨[], World.ownsRow_nil _ _ _ _, rfl, fun z hz => absurd hz (by simp), Below.refl _ _⟩
   replace hb14 := Lib.hid hb14
   clear hb1 hb2 hb3 hb4 hb12 hb13 hbg hva
   go_loopw [12, 36] (fun ov iv wr => ∃ i : Nat, i ≤ zs.length ∧ iv = .int .i64 (i : Int) ∧ Hid (Gath w4.heap.size w4 zs (isBest (allP l life frm day hops)) ov i wr)) (fun _ iv _ => zs.length - (intOf iv).toNat)
   case atStart => exact ⟨0, Nat.zero_le _, rfl, hstart⟩
   case round =>
    obtain ⟨wo, hwo⟩ : ∃ wo, wo = wr := ⟨_, rfl⟩
    subst hwo
    obtain ⟨i, hi', rfl, hall⟩ := hrel
    clear hstart
    by_cases hlt : i < zs.length
    ·
     have hyes : decide ((i : Int) < (zs.length : Int)) = true := decide_eq_true (by omega)
     have hbr : Below w4.heap.size w4 wo := by obtain ⟨_, _, _, _, h⟩ := hall.out; exact h
     have hZr := hZ.out.below hbr
     have hokz := hZr.ok hlt
     obtain ⟨b, o, zc', hza, hblt, x0, x1, x2, x3⟩ := hZr.cells hlt
     cases hza
     obtain ⟨ea, ec, ca, cc, he, hc⟩ := hokz.shape
     have hgz := hgood.out i hlt
     have hbst := hisb.out i (by simpa using hlt)
     rw [hgz] at hbst
     generalize hzi : zs[i]! = z at x0 x1 x2 x3 hokz he hc hgz hbst
     obtain ⟨r, ev, cv⟩ := z
     dsimp only at x0 x1 x2 x3 he hc hgz hbst
     subst he hc
     have hskip : ∀ k, k < zs.length → k ≠ i → betterP ((zs.map RouM.r)[k]!) r = true → (k < i ∨ betterP r ((zs.map RouM.r)[k]!) = false) → isBest (allP l life frm day hops) (zs.map RouM.r)[i]! = false := fun k h1 h2 h3 h4 => by
      rw [hgz]
      cases hp : isBest (allP l life frm day hops) r with
      | false => rfl
      | true => exact absurd ⟨h2, h3, h4⟩ (hbst.1 hp k (by simpa using h1))
     replace hskip := Lib.hid hskip
     replace hzi := Lib.hid hzi
     replace hgz := Lib.hid hgz
     replace hbst := Lib.hid hbst
     replace hbr := Lib.hid hbr
     replace hZr := Lib.hid hZr
     replace hokz := Lib.hid hokz
     have hw1 : IntKind.i64.wrap ((i : Int) + 1) = (i : Int) + 1 := IntWalk.i64_in _ (by unfold maxLen at hzm; omega)
     go_wp2_with fail
     obtain ⟨w5, hw5⟩ : ∃ w5, w5 = wo.alloc (.cells #[.slice ea r.edges.length ec, .int .i64 r.cost, .int .i64 r.life, .slice ca r.claims.length cc] 33) := ⟨_, rfl⟩
     have hA5 : Arr w5 wo.heap.size 33 [.slice ea r.edges.length ec, .int .i64 r.cost, .int .i64 r.life, .slice ca r.claims.length cc] := by rw [hw5]; exact Arr.new rfl rfl
     have hb5 : Below wo.heap.size wo w5 := by rw [hw5]; exact (Below.refl _ _).alloc (Nat.le_refl _) _
     rw [← hw5]
     clear hw5
     have hst5 : Hid (SeenB (zs.map RouM.r) r i 0) := SeenB.zero _ _ _
     have hb55 := Lib.hid (Below.refl w5.heap.size w5)
     go_loopw [43] (fun kv wq => ∃ k : Nat, k ≤ zs.length ∧ kv = .int .i64 (k : Int) ∧ Hid (SeenB (zs.map RouM.r) r i k) ∧ Hid (Below w5.heap.size w5 wq)) (fun kv _ => zs.length - (intOf kv).toNat)
     case atStart => exact ⟨0, Nat.zero_le _, rfl, hst5, hb55⟩
     case round =>
      obtain ⟨k, hk', rfl, hno, hbq⟩ := hrel
      clear hst5 hb55
      have hb5r := hb5.trans (hbq.out.mono hb5.size)
      by_cases hkl : k < zs.length
      ·
       have hkyes : decide ((k : Int) < (zs.length : Int)) = true := decide_eq_true (by omega)
       have hZq := hZr.out.below hb5r
       have hoky := hZq.ok hkl
       obtain ⟨b', o', zc', hza, hblt', y0, y1, y2, y3⟩ := hZq.cells hkl
       cases hza
       obtain ⟨ea', ec', ca', cc', he, hc⟩ := hoky.shape
       have hgy := hgood.out k hkl
       generalize hyk : zs[k]! = y at y0 y1 y2 y3 hoky he hc hgy
       obtain ⟨s, ev, cv⟩ := y
       dsimp only at y0 y1 y2 y3 he hc hgy
       subst he hc
       have hw2 : IntKind.i64.wrap ((k : Int) + 1) = (k : Int) + 1 := IntWalk.i64_in _ (by unfold maxLen at hzm; omega)
       have hnext : ¬(k ≠ i ∧ betterP s r = true ∧ (k < i ∨ betterP r s = false)) → Hid (SeenB (zs.map RouM.r) r i (k + 1)) := fun h => hno.out.next (by rw [hgy]; exact h)
       have hskip2 := Lib.hid (hskip.out k hkl)
       rw [hgy] at hskip2
       have hb6 : Below wr.heap.size wr (wr.alloc (.cells #[.slice ea' s.edges.length ec', .int .i64 s.cost, .int .i64 s.life, .slice ca' s.claims.length cc'] 33)) := (Below.refl _ _).alloc (Nat.le_refl _) _
       replace hyk := Lib.hid hyk
       replace hgy := Lib.hid hgy
       replace hnext := Lib.hid hnext
       replace hoky := Lib.hid hoky
       clear hZq
       go_upto_region 11 with fail
       obtain ⟨w6, hw6⟩ : ∃ w6, w6 = wr.alloc (.cells #[.slice ea' s.edges.length ec', .int .i64 s.cost, .int .i64 s.life, .slice ca' s.claims.length cc'] 33) := ⟨_, rfl⟩
       have hA6 : Arr w6 wr.heap.size 33 [.slice ea' s.edges.length ec', .int .i64 s.cost, .int .i64 s.life, .slice ca' s.claims.length cc'] := by rw [hw6]; exact Arr.new rfl rfl
       rw [← hw6] at hb6 ⊢
       clear hw6
       have hA5q := (hA5.below hbq.out).below hb6
       have hb56 := hbq.out.trans (hb6.mono hbq.out.size)
       have hbo6 := hb5.trans (hb56.mono hb5.size)
       have a0 := hA5q.cell (j := 0) rfl
       have a1 := hA5q.cell (j := 1) rfl
       have a2 := hA5q.cell (j := 2) rfl
       have a3 := hA5q.cell (j := 3) rfl
       have b0 := hA6.cell (j := 0) rfl
       have b1 := hA6.cell (j := 1) rfl
       have b2 := hA6.cell (j := 2) rfl
       have b3 := hA6.cell (j := 3) rfl
       have hok1 := Lib.hid (hokz.out.below hbo6)
       have hok2 := Lib.hid (hoky.out.below hb6)
       by_cases hki : k = i
       ·
        have hn := hnext.out (fun h => h.1 hki)
        subst hki
        replace hb56 := Lib.hid hb56
        go_wp2_with fail
        exact ⟨⟨k + 1, by omega, rfl, hn, hb56⟩, by simp [intOf]; omega⟩
       ·
        have e1 : ((k : Int) == (i : Int)) = false := beq_false_of_ne (by omega)
        have e2 : decide ((k : Int) = (i : Int)) = false := by simp; omega
        have hbt := Lib.hid (Better_any s r ea' ea s.edges.length r.edges.length ec' ec (.slice ca' s.claims.length cc') (.slice ca r.claims.length cc) w6 hok2.out.2.at hok1.out.2.at)
        go_wp2_with fail
        refine hbt.out.mono ?_
        rintro e w7 ⟨rfl, hb7⟩
        have hb57 := Lib.hid (hb56.trans (hb7.mono hb56.size))
        have hbo7 := hbo6.trans (hb7.mono hbo6.size)
        have hA5s := hA5q.below hb7
        have hA6s := hA6.below hb7
        have a0 := hA5s.cell (j := 0) rfl
        have a1 := hA5s.cell (j := 1) rfl
        have a2 := hA5s.cell (j := 2) rfl
        have a3 := hA5s.cell (j := 3) rfl
        have b0 := hA6s.cell (j := 0) rfl
        have b1 := hA6s.cell (j := 1) rfl
        have b2 := hA6s.cell (j := 2) rfl
        have b3 := hA6s.cell (j := 3) rfl
        have hbt2 := Lib.hid (Better_any r s ea ea' r.edges.length s.edges.length ec ec' (.slice ca r.claims.length cc) (.slice ca' s.claims.length cc') w7 (hok1.out.below hb7).2.at (hok2.out.below hb7).2.at)
        have hsk := fun h1 h2 W (hW : Below w7.heap.size w7 W) => Lib.hid (hall.out.skip (Nat.le_refl _) (hbo7.trans (hW.mono hbo7.size)) hlt (hskip2.out hki h1 h2))
        replace hsk := Lib.hid hsk
        clear hbt
        cases hB : betterP s r with
        | false =>
         have hn := hnext.out (fun h => by rw [hB] at h; cases h.2.1)
         go_wp2_with fail
         exact ⟨⟨k + 1, by omega, rfl, hn, hb57⟩, by simp [intOf]; omega⟩
        | true =>
         by_cases hki' : k < i
         ·
          have e3 : decide ((k : Int) < (i : Int)) = true := decide_eq_true (by omega)
          have hend := hsk.out hB (.inl hki') w7 (Below.refl _ _)
          go_wp2_with fail
          exact ⟨⟨i + 1, by omega, rfl, hend⟩, by simp [intOf]; omega⟩
         ·
          have e3 : decide ((k : Int) < (i : Int)) = false := decide_eq_false (by omega)
          go_wp2_with fail
          refine hbt2.out.mono ?_
          rintro e w8 ⟨rfl, hb8⟩
          have hb58 := Lib.hid (hb57.out.trans (hb8.mono hb57.out.size))
          cases hB2 : betterP r s with
          | true =>
           have hn := hnext.out (fun h => h.2.2.elim hki' (fun e => by rw [hB2] at e; cases e))
           go_wp2_with fail
           exact ⟨⟨k + 1, by omega, rfl, hn, hb58⟩, by simp [intOf]; omega⟩
          | false =>
           have hend := hsk.out hB (.inr hB2) w8 hb8
           go_wp2_with fail
           exact ⟨⟨i + 1, by omega, rfl, hend⟩, by simp [intOf]; omega⟩
      ·
       have hkno : decide ((k : Int) < (zs.length : Int)) = false := decide_eq_false (by omega)
       obtain rfl : k = zs.length := by omega
       have hA5q := hA5.below hbq.out
       have a0 := hA5q.cell (j := 0) rfl
       have a1 := hA5q.cell (j := 1) rfl
       have a2 := hA5q.cell (j := 2) rfl
       have a3 := hA5q.cell (j := 3) rfl
       obtain ⟨zo, hown, hzo, hmem, hbB⟩ := hall.out
       have hzl : zo.length ≤ zs.length := by
        have e1 := congrArg List.length hzo
        have e2 := List.length_filter_le (isBest (allP l life frm day hops)) ((zs.map RouM.r).take i)
        rw [List.length_map] at e1
        rw [List.length_take, List.length_map] at e2
        omega
       have hone := Lib.hid hokz.out.one
       have hba : Below wr.heap.size wr (wr.alloc (.cells #[.slice ea r.edges.length ec, .int .i64 r.cost, .int .i64 r.life, .slice ca r.claims.length cc] 33)) := (Below.refl _ _).alloc (Nat.le_refl _) _
       have hown3 := Lib.hid (own_below (own_below hown hb5r) hba)
       have hbW := hbB.trans ((hb5r.trans (hba.mono hb5r.size)).mono hbB.size)
       have hnews : ∀ j x, (RouM.cells ⟨r, .slice ea r.edges.length ec, .slice ca r.claims.length cc⟩)[j]? = some x → (wr.alloc (.cells #[.slice ea r.edges.length ec, .int .i64 r.cost, .int .i64 r.life, .slice ca r.claims.length cc] 33)).cell? ((⟨wr.heap.size, 0, none⟩ : Addr).add j) = some x := fun j x hx => cells_new wr (RouM.cells ⟨r, .slice ea r.edges.length ec, .slice ca r.claims.length cc⟩) 33 j x hx
       have hsz4 : w4.heap.size ≤ wr.heap.size := by have := hbB.size; have := hb5r.size; omega
       replace hzo := Lib.hid hzo
       replace hmem := Lib.hid hmem
       clear hall hown
       go_wp2_with (at_builtin; refine wpList_append_own _ rfl _ _ 48 rfl w4.heap.size 33 i0 (.agg #[.slice none 0 0, .int .i64 0, .int .i64 0, .slice none 0 0]) 4 64 Tryz.underlying48 hi hz0 hz1 hz2 rfl (by decide) _ zo.length _ rfl hown3.out ⟨wr.heap.size, 0, none⟩ 1 1 (RouM.cells ⟨r, .slice ea r.edges.length ec, .slice ca r.claims.length cc⟩) rfl rfl hnews hone.out ?qa ?qb ?qc ?_)
       case qa => unfold maxLen; omega
       case qb => omega
       case qc => simp only [World.size_alloc]; omega
       intro v' wn hown4 hgrow hnil
       have hgath : Hid (Gath w4.heap.size w4 zs (isBest (allP l life frm day hops)) v' (i + 1) wn) := by
        refine ⟨zo ++ [⟨r, .slice ea r.edges.length ec, .slice ca r.claims.length cc⟩], ?_, ?_, ?_, ?_⟩
        ·
         rw [rouCells_snoc, List.length_append]
         exact hown4
        ·
         rw [take_filter _ (by simpa using hlt), hgz.out, if_pos (hbst.out.2 (fun k hk => hno.out k (by simpa using hk))), List.map_append, hzo.out]
         rfl
        ·
         intro z hz
         rcases List.mem_append.1 hz with hz | hz
         ·
          exact hmem.out z hz
         ·
          obtain rfl := List.mem_singleton.1 hz
          rw [← hzi.out, getElem!_pos zs i hlt]
          exact List.getElem_mem hlt
        ·
         exact hbW.grown hgrow (by simp only [World.size_alloc]; omega) (fun g hg => (own_block hown3.out hg).2.1)
       clear hown3 hown4 hgrow hnil hnews
       go_wp2_with fail
       exact ⟨⟨i + 1, by omega, rfl, hgath⟩, by simp [intOf]; omega⟩
    ·
     have hno : decide ((i : Int) < (zs.length : Int)) = false := decide_eq_false (by omega)
     obtain rfl : i = zs.length := by omega
     obtain ⟨zo, hown, hzo, hmem, hbB⟩ := hall.out
     have hz2 := hZ.out.below hbB
     have hfin : zo.map RouM.r = bestP l life frm day hops := by
      rw [hzo, ← hrow.out, List.take_of_length_le (by simp)]
     have hrt := Lib.hid (⟨RowT.of_own hown, fun z hz => hz2.2 z (hmem z hz)⟩ : RoutesT wo u12 zo)
     replace hfin := Lib.hid hfin
     have hbz := Lib.hid (hb14.out.trans (hbB.mono hb14.out.size))
     clear hzo hmem hown hall
     go_wp2_with fail
     dsimp only [Exit.noGoto]
     go_ret
     exact ⟨_, zo, rfl, hfin.out, hrt.out, hbz.out⟩
end Go.Proofs.YtpeandbcdaikbaaGreatDoor
namespace Go.Proofs.YtpeandbcdaikbaaGreatDoor
open Go.RowKit Go.Shelf Go.Maps

attribute [local go_sem] Oper.semAt_some

def ofE (o : Option Rou) : Int := if o.isSome then 0 else 110
theorem ons_next {l : List Edg} {day : Int} {x0 x : Way} {es : List Int} {i : Nat} (hi : i < es.length) (h : onsP l day x0 (es.take i) = some x) : onsP l day x0 (es.take (i + 1)) = onP l day x es[i]! := by
 rw [List.take_add_one, List.getElem?_eq_getElem hi, getElem!_pos es i hi, ons_app, h]
 show onsP l day x [es[i]] = _
 rw [onsP]
 cases onP l day x es[i] with
 | none => rfl
 | some n => rfl
theorem ons_none {l : List Edg} {day : Int} {x0 : Way} {es : List Int} {i : Nat} (h : onsP l day x0 (es.take i) = none) : onsP l day x0 es = none := by
 have e : es = es.take i ++ es.drop i := (List.take_append_drop i es).symm
 rw [e, ons_app, h]
 rfl
set_option maxRecDepth 100000 in
set_option maxHeartbeats 4000000 in
theorem Of_any (l : List Edg) (life : List Int) (frm day : Int) (es : List Int) (pev plv eev : Value) (w : World) (hI : ∀ e ∈ l, MigIn e.does) (hE : EdgesAt w w.heap.size pev l) (hL : NumsAt w w.heap.size plv life) (hes : NumsAt w w.heap.size eev es) :
  Calls Tryz.prog 17 #[pev, plv, .int .i64 frm, .int .i64 day, eev] w fun e w' => ∃ z : RouM, e = .returned (.tuple #[z.agg, .int .i64 (ofE (ofP l life frm day es))]) ∧ z.r = (ofP l life frm day es).getD zeroRou ∧ OkR z w' ∧ Below w.heap.size w w' := by
 obtain ⟨_, _, ⟨pa, pc, rfl, _, _, _⟩, _⟩ := id hE
 obtain ⟨la, lc, rfl, _, _, _⟩ := id hL
 have hcell := Lib.hid fun i (hi : i < es.length) => NumsAt.cells hes hi
 obtain ⟨ea, ec, rfl, _, hem, _⟩ := hes
 obtain ⟨W, hW⟩ : ∃ W, W = w.alloc (.cells #[.slice none 0 0, .int .i64 0, .int .i64 0, .slice none 0 0] 33) := ⟨_, rfl⟩
 have hA : Arr W w.heap.size 33 [.slice none 0 0, .int .i64 0, .int .i64 0, .slice none 0 0] := by rw [hW]; exact Arr.new rfl rfl
 have hbW : Below w.heap.size w W := by rw [hW]; exact (Below.refl _ _).alloc (Nat.le_refl _) _
 have hva := Lib.hid (rValid_any _ l W (hE.later hbW) hI)
 obtain ⟨R, hR⟩ : ∃ R, ofP l life frm day es = R := ⟨_, rfl⟩
 have hofP : R = if validE l then (onsP l day (beginP frm) es).bind (arrivedP life day) else none := by rw [← hR]; rfl
 rw [hR]
 clear hR
 go_enter Tryz.func17, Tryz.ntmps17
 go_upto_region 1 with fail
 rw [← hW]
 clear hW
 go_wp2_with fail
 refine hva.out.mono ?_
 rintro e w1 ⟨rfl, hb1⟩
 have hbw1 := hbW.trans (hb1.mono hbW.size)
 have hA1 := Lib.hid (hA.below hb1)
 cases hv : validE l with
 | false =>
  obtain rfl : R = none := by rw [hofP, hv]; rfl
  clear hofP
  go_wp2_with (refine arr_store rfl 33 _ _ rfl w.heap.size rfl (vs := [.slice none 0 0, .int .i64 0, .int .i64 0, .slice none 0 0]) rfl hA1.out (n := 4) (by kernel_rfl) rfl rfl rfl ?_)
  refine bodyPost_ret (arr_result2 (p := 10) (ty := 33) (u := 11) (n := 4) (by kernel_rfl) _ (hA1.out.setAll (vs := [.slice none 0 0, .int .i64 0, .int .i64 0, .slice none 0 0]) rfl) rfl Tryz.underlying33 rfl (by kernel_rfl) rfl) rfl ?_
  exact ⟨zeroM, rfl, rfl, zeroM_ok _, Below.setCells _ _ _ _ hbw1 (Nat.le_refl _)⟩
 | true =>
  rw [hv, if_pos rfl] at hofP
  have hbg := Lib.hid (begin_any frm w1)
  go_wp2_with fail
  refine hbg.out.mono ?_
  rintro e w2 ⟨fv, cv, rfl, hway, hb2⟩
  obtain ⟨fa, fc, rfl, _⟩ := hway.formats.len
  obtain ⟨_, _, ⟨ca, cc, rfl, _, _, _⟩, _⟩ := id hway.claims
  replace hway := Lib.hid hway
  replace hofP := Lib.hid hofP
  go_upto_region 4 with fail
  obtain ⟨w3, hw3⟩ : ∃ w3, w3 = (w2.alloc (.cells #[.slice pa l.length pc, .slice la life.length lc, .int .i64 day] 80)).alloc (.cells #[.slice fa (beginP frm).formats.length fc, .slice none 0 0, .int .i64 0, .int .i64 0, .slice ca (beginP frm).rou.claims.length cc] 82) := ⟨_, rfl⟩
  have hP3 : Arr w3 w2.heap.size 80 [.slice pa l.length pc, .slice la life.length lc, .int .i64 day] := by rw [hw3]; exact (Arr.new rfl rfl).alloc _
  have hY3 : Arr w3 (w2.heap.size + 1) 82 [.slice fa (beginP frm).formats.length fc, .slice none 0 0, .int .i64 0, .int .i64 0, .slice ca (beginP frm).rou.claims.length cc] := by rw [hw3]; exact Arr.new rfl (by simp)
  have hb3 : Below w2.heap.size w2 w3 := by rw [hw3]; exact ((Below.refl _ _).alloc (Nat.le_refl _) _).alloc (by simp) _
  rw [← hw3]
  clear hw3
  have hbw2 := hbw1.trans (hb2.mono hbw1.size)
  have hsz2 := hbw2.size
  have hstart : Hid (∃ x fv ev cv, onsP l day (beginP frm) (es.take 0) = some x ∧ WayT w3 fv ev cv x ∧ Arr w3 w.heap.size 33 [.slice none 0 0, .int .i64 0, .int .i64 0, .slice none 0 0] ∧ Arr w3 w2.heap.size 80 [.slice pa l.length pc, .slice la life.length lc, .int .i64 day] ∧ Arr w3 (w2.heap.size + 1) 82 [fv, ev, .int .i64 x.rou.cost, .int .i64 x.rou.life, cv] ∧ Below w.heap.size w w3) :=
   ⟨_, _, _, _, rfl, hway.out.below hb3, (hA1.out.below hb2).below hb3, hP3, hY3, hbw2.trans (hb3.mono hbw2.size)⟩
  clear hP3 hY3 hb3 hbw2 hbw1 hb2 hway hA1 hb1 hbW hA hva hbg
  go_wp2_with fail
  go_loopw [32] (fun iv wr => ∃ i : Nat, i ≤ es.length ∧ iv = .int .i64 (i : Int) ∧ Hid (∃ x fv ev cv, onsP l day (beginP frm) (es.take i) = some x ∧ WayT wr fv ev cv x ∧ Arr wr w.heap.size 33 [.slice none 0 0, .int .i64 0, .int .i64 0, .slice none 0 0] ∧ Arr wr w2.heap.size 80 [.slice pa l.length pc, .slice la life.length lc, .int .i64 day] ∧ Arr wr (w2.heap.size + 1) 82 [fv, ev, .int .i64 x.rou.cost, .int .i64 x.rou.life, cv] ∧ Below w.heap.size w wr)) (fun iv _ => es.length - (intOf iv).toNat)
  case atStart => exact ⟨0, Nat.zero_le _, rfl, hstart⟩
  case round =>
   obtain ⟨i, hi', rfl, hall⟩ := hrel
   clear hstart
   obtain ⟨x, fv, ev, cv, hx, hwt, hA, hP, hY, hb⟩ := hall.out
   clear hall
   obtain ⟨fa', fc', rfl, _⟩ := hwt.formats.len
   obtain ⟨ea', ec', rfl, _⟩ := hwt.edges.len
   obtain ⟨_, _, ⟨ca', cc', rfl, _, _, _⟩, _⟩ := id hwt.claims
   have p0 := hP.cell (j := 0) rfl
   have p1 := hP.cell (j := 1) rfl
   have p2 := hP.cell (j := 2) rfl
   have y0 := hY.cell (j := 0) rfl
   have y1 := hY.cell (j := 1) rfl
   have y2 := hY.cell (j := 2) rfl
   have y3 := hY.cell (j := 3) rfl
   have y4 := hY.cell (j := 4) rfl
   replace hx := Lib.hid hx
   replace hA := Lib.hid hA
   replace hP := Lib.hid hP
   replace hY := Lib.hid hY
   by_cases hlt : i < es.length
   ·
    have hyes : decide ((i : Int) < (es.length : Int)) = true := decide_eq_true (by omega)
    obtain ⟨b, o, cap, hq, hbl, xe⟩ := hcell.out i hlt
    cases hq
    have xe' := (hb.cell (p := ⟨b, o + i, none⟩) hbl).trans xe
    have hon := Lib.hid (on_any l day (.slice pa l.length pc) (.slice la life.length lc) _ _ _ x es[i]! wr (hE.later hb) ⟨_, _, _, rfl⟩ hwt hI (validE_parts hv).2)
    have hnx := ons_next hlt hx.out
    have hw1 : IntKind.i64.wrap ((i : Int) + 1) = (i : Int) + 1 := IntWalk.i64_in _ (by unfold maxLen at hem; omega)
    generalize es[i]! = ed at xe xe' hon hnx
    replace hwt := Lib.hid hwt
    replace hb := Lib.hid hb
    replace hnx := Lib.hid hnx
    go_wp2_with fail
    refine hon.out.mono ?_
    rintro e w4 ⟨he, hb4⟩
    have hb04 := hb.out.trans (hb4.mono hb.out.size)
    cases ho : onP l day x ed with
    | none =>
     rw [ho] at he
     subst he
     obtain rfl : R = none := by
      rw [hofP.out, ons_none (i := i + 1) (hnx.out.trans ho)]
      rfl
     clear hofP
     dsimp only [zeroWayV]
     have hba : Below w4.heap.size w4 (w4.alloc (.cells #[.slice none 0 0, .slice none 0 0, .int .i64 0, .int .i64 0, .slice none 0 0] 82)) := (Below.refl _ _).alloc (Nat.le_refl _) _
     have hA5 := Lib.hid ((hA.out.below hb4).below hba)
     have hb05 := Lib.hid (hb04.trans (hba.mono hb04.size))
     clear hba
     go_wp2_with (refine arr_store rfl 33 _ _ rfl w.heap.size rfl (vs := [.slice none 0 0, .int .i64 0, .int .i64 0, .slice none 0 0]) rfl hA5.out (n := 4) (by kernel_rfl) rfl rfl rfl ?_)
     refine bodyPost_ret (arr_result2 (p := 10) (ty := 33) (u := 11) (n := 4) (by kernel_rfl) _ (hA5.out.setAll (vs := [.slice none 0 0, .int .i64 0, .int .i64 0, .slice none 0 0]) rfl) rfl Tryz.underlying33 rfl (by kernel_rfl) rfl) rfl ?_
     exact ⟨zeroM, rfl, rfl, zeroM_ok _, Below.setCells _ _ _ _ hb05.out (Nat.le_refl _)⟩
    | some nx =>
     rw [ho] at he
     obtain ⟨fv', ev', cv', rfl, hway⟩ := he
     obtain ⟨fa'', fc'', rfl, _⟩ := hway.formats.len
     obtain ⟨ea'', ec'', rfl, _⟩ := hway.edges.len
     obtain ⟨_, _, ⟨ca'', cc'', rfl, _, _, _⟩, _⟩ := id hway.claims
     dsimp only [wayV]
     go_upto_region 8 with fail
     obtain ⟨w5, hw5⟩ : ∃ w5, w5 = w4.alloc (.cells #[.slice fa'' nx.formats.length fc'', .slice ea'' nx.rou.edges.length ec'', .int .i64 nx.rou.cost, .int .i64 nx.rou.life, .slice ca'' nx.rou.claims.length cc''] 82) := ⟨_, rfl⟩
     have hN5 : Arr w5 w4.heap.size 82 [.slice fa'' nx.formats.length fc'', .slice ea'' nx.rou.edges.length ec'', .int .i64 nx.rou.cost, .int .i64 nx.rou.life, .slice ca'' nx.rou.claims.length cc''] := by rw [hw5]; exact Arr.new rfl rfl
     have hb5 : Below w4.heap.size w4 w5 := by rw [hw5]; exact (Below.refl _ _).alloc (Nat.le_refl _) _
     rw [← hw5]
     clear hw5
     have n0 := hN5.cell (j := 0) rfl
     have n1 := hN5.cell (j := 1) rfl
     have n2 := hN5.cell (j := 2) rfl
     have n3 := hN5.cell (j := 3) rfl
     have n4 := hN5.cell (j := 4) rfl
     have hA5 := Lib.hid ((hA.out.below hb4).below hb5)
     have hP5 := Lib.hid ((hP.out.below hb4).below hb5)
     have hY5 := Lib.hid ((hY.out.below hb4).below hb5)
     have hb05 := hb04.trans (hb5.mono hb04.size)
     have hst : Hid (∃ x fv ev cv, onsP l day (beginP frm) (es.take (i + 1)) = some x ∧ WayT (w5.setCells (w2.heap.size + 1) 0 [.slice fa'' nx.formats.length fc'', .slice ea'' nx.rou.edges.length ec'', .int .i64 nx.rou.cost, .int .i64 nx.rou.life, .slice ca'' nx.rou.claims.length cc'']) fv ev cv x ∧ Arr (w5.setCells (w2.heap.size + 1) 0 [.slice fa'' nx.formats.length fc'', .slice ea'' nx.rou.edges.length ec'', .int .i64 nx.rou.cost, .int .i64 nx.rou.life, .slice ca'' nx.rou.claims.length cc'']) w.heap.size 33 [.slice none 0 0, .int .i64 0, .int .i64 0, .slice none 0 0] ∧ Arr (w5.setCells (w2.heap.size + 1) 0 [.slice fa'' nx.formats.length fc'', .slice ea'' nx.rou.edges.length ec'', .int .i64 nx.rou.cost, .int .i64 nx.rou.life, .slice ca'' nx.rou.claims.length cc'']) w2.heap.size 80 [.slice pa l.length pc, .slice la life.length lc, .int .i64 day] ∧ Arr (w5.setCells (w2.heap.size + 1) 0 [.slice fa'' nx.formats.length fc'', .slice ea'' nx.rou.edges.length ec'', .int .i64 nx.rou.cost, .int .i64 nx.rou.life, .slice ca'' nx.rou.claims.length cc'']) (w2.heap.size + 1) 82 [fv, ev, .int .i64 x.rou.cost, .int .i64 x.rou.life, cv] ∧ Below w.heap.size w (w5.setCells (w2.heap.size + 1) 0 [.slice fa'' nx.formats.length fc'', .slice ea'' nx.rou.edges.length ec'', .int .i64 nx.rou.cost, .int .i64 nx.rou.life, .slice ca'' nx.rou.claims.length cc''])) := by
      have hks := fun vs => KeepTy.setArrs (X := [82]) hY5.out (by decide) 0 vs
      have hs5 := hY5.out.setAll (vs := [.slice fa'' nx.formats.length fc'', .slice ea'' nx.rou.edges.length ec'', .int .i64 nx.rou.cost, .int .i64 nx.rou.life, .slice ca'' nx.rou.claims.length cc'']) rfl
      exact ⟨nx, .slice fa'' nx.formats.length fc'', .slice ea'' nx.rou.edges.length ec'', .slice ca'' nx.rou.claims.length cc'', hnx.out.trans ho, (hway.below hb5).keepTy (by decide) (by decide) (by decide) (hks _), arr_keepTy hA5.out (by decide) (hks _), arr_keepTy hP5.out (by decide) (hks _), hs5, Below.setCells _ _ _ _ hb05 (by omega)⟩
     clear hway hN5 hb5 hb05 hb4 hb04 hon hwt hnx
     go_upto_region 11 with (refine arr_store rfl 82 _ _ rfl (w2.heap.size + 1) rfl (vs := [.slice fa'' nx.formats.length fc'', .slice ea'' nx.rou.edges.length ec'', .int .i64 nx.rou.cost, .int .i64 nx.rou.life, .slice ca'' nx.rou.claims.length cc'']) rfl hY5.out (n := 5) (by kernel_rfl) rfl rfl rfl ?_)
     generalize w5.setCells (w2.heap.size + 1) 0 [.slice fa'' nx.formats.length fc'', .slice ea'' nx.rou.edges.length ec'', .int .i64 nx.rou.cost, .int .i64 nx.rou.life, .slice ca'' nx.rou.claims.length cc''] = wz at hst ⊢
     go_wp2_with fail
     exact ⟨⟨i + 1, by omega, rfl, hst⟩, by simp [intOf]; omega⟩
   ·
    have hno : decide ((i : Int) < (es.length : Int)) = false := decide_eq_false (by omega)
    obtain rfl : i = es.length := by omega
    have hR : R = arrivedP life day x := by
     have h1 := hx.out
     rw [List.take_length] at h1
     rw [hofP.out, h1]
     rfl
    clear hofP hx
    have har := arrived_any life day (.slice pa l.length pc) (.slice la life.length lc) _ _ _ x wr ⟨_, _, _, rfl⟩ (hL.later hb) hwt
    rw [← hR] at har
    replace har := Lib.hid har
    have hRr : Hid (∀ r, R = some r → r.edges = x.rou.edges ∧ r.claims = x.rou.claims) := Lib.hid fun r hr => by
     obtain ⟨_, e⟩ := arrived_some.1 (hR.symm.trans hr)
     rw [e]
     exact ⟨rfl, rfl⟩
    clear hR
    replace hwt := Lib.hid hwt
    replace hb := Lib.hid hb
    go_wp2_with fail
    refine har.out.mono ?_
    rintro e w4 ⟨he, hb4⟩
    have hb04 := hb.out.trans (hb4.mono hb.out.size)
    cases R with
    | none =>
     dsimp only at he
     subst he
     have hba : Below w4.heap.size w4 (w4.alloc (.cells #[.slice none 0 0, .int .i64 0, .int .i64 0, .slice none 0 0] 33)) := (Below.refl _ _).alloc (Nat.le_refl _) _
     have hA5 := Lib.hid ((hA.out.below hb4).below hba)
     have hb05 := Lib.hid (hb04.trans (hba.mono hb04.size))
     clear hba har
     go_wp2_with (refine arr_store rfl 33 _ _ rfl w.heap.size rfl (vs := [.slice none 0 0, .int .i64 0, .int .i64 0, .slice none 0 0]) rfl hA5.out (n := 4) (by kernel_rfl) rfl rfl rfl ?_)
     refine bodyPost_ret (arr_result2 (p := 10) (ty := 33) (u := 11) (n := 4) (by kernel_rfl) _ (hA5.out.setAll (vs := [.slice none 0 0, .int .i64 0, .int .i64 0, .slice none 0 0]) rfl) rfl Tryz.underlying33 rfl (by kernel_rfl) rfl) rfl ?_
     exact ⟨zeroM, rfl, rfl, zeroM_ok _, Below.setCells _ _ _ _ hb05.out (Nat.le_refl _)⟩
    | some r =>
     dsimp only at he
     subst he
     obtain ⟨hre, hrc⟩ := hRr.out r rfl
     obtain ⟨w5, hw5⟩ : ∃ w5, w5 = w4.alloc (.cells #[.slice ea' x.rou.edges.length ec', .int .i64 r.cost, .int .i64 r.life, .slice ca' x.rou.claims.length cc'] 33) := ⟨_, rfl⟩
     have hN5 : Arr w5 w4.heap.size 33 [.slice ea' x.rou.edges.length ec', .int .i64 r.cost, .int .i64 r.life, .slice ca' x.rou.claims.length cc'] := by rw [hw5]; exact Arr.new rfl rfl
     have hb5 : Below w4.heap.size w4 w5 := by rw [hw5]; exact (Below.refl _ _).alloc (Nat.le_refl _) _
     go_upto_region 13 with fail
     rw [← hw5]
     clear hw5
     have n0 := hN5.cell (j := 0) rfl
     have n1 := hN5.cell (j := 1) rfl
     have n2 := hN5.cell (j := 2) rfl
     have n3 := hN5.cell (j := 3) rfl
     have hA5 := Lib.hid ((hA.out.below hb4).below hb5)
     have hb05 := Lib.hid (hb04.trans (hb5.mono hb04.size))
     have hok5 : OkR ⟨r, .slice ea' x.rou.edges.length ec', .slice ca' x.rou.claims.length cc'⟩ w5 := by
      have h1 := (hwt.out.below hb4).below hb5
      exact ⟨by rw [hre]; exact h1.edges, by rw [hrc]; exact h1.claims⟩
     have hok6 := Lib.hid (hok5.keepTy (w' := w5.setCells w.heap.size 0 [.slice ea' x.rou.edges.length ec', .int .i64 r.cost, .int .i64 r.life, .slice ca' x.rou.claims.length cc']) (KeepTy.setArrs hA5.out (by decide) _ _))
     clear har hok5 hb5 hb4 hN5 hre hrc hRr
     go_wp2_with (refine arr_store rfl 33 _ _ rfl w.heap.size rfl (vs := [.slice ea' x.rou.edges.length ec', .int .i64 r.cost, .int .i64 r.life, .slice ca' x.rou.claims.length cc']) rfl hA5.out (n := 4) (by kernel_rfl) rfl rfl rfl ?_)
     refine bodyPost_ret (arr_result2 (p := 10) (ty := 33) (u := 11) (n := 4) (by kernel_rfl) _ (hA5.out.setAll (vs := [.slice ea' x.rou.edges.length ec', .int .i64 r.cost, .int .i64 r.life, .slice ca' x.rou.claims.length cc']) rfl) rfl Tryz.underlying33 rfl (by kernel_rfl) rfl) rfl ?_
     exact ⟨_, rfl, rfl, hok6.out, Below.setCells _ _ _ _ hb05.out (Nat.le_refl _)⟩
end Go.Proofs.YtpeandbcdaikbaaGreatDoor
