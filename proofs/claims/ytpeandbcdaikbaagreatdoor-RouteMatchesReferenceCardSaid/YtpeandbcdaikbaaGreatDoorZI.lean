/-
 The arguments of RouteMatchesReference, opened: edges, routes, claims.
-/
import Derived.Test.YtpeandbcdaikbaaGreatDoorYU
import Derived.Test.YtpeandbcdaikbaaGreatDoorYH
namespace Go.Proofs.YtpeandbcdaikbaaGreatDoor
open Go.ChangeShapes Go.WideShapes Go.ChangeAt Go.RowKit

section
variable {H : Type} {enc : TypeId × Value → H} {w : World}
set_option maxRecDepth 100000 in
theorem trod_steps {fuel : Nat} {cs : List Value} {x : DataW H × List MemPlace} (hf : DataW.trod enc Tryz.prog w 0 (fun _ => true) true fuel 55 cs = some x) : ∃ (v : Value) (l : List Stp), cs = [v] ∧ StepsAt w w.heap.size v l := by
 obtain ⟨v, ys, e, _, hat⟩ := open_rows Tryz.underlying55 (k := 2) (by kernel_rfl) (Nat.zero_lt_succ _) stC (fun _ => True) (fun _ => rfl) (fun fuel cs x hl h => by
  obtain ⟨l0, l1, rfl⟩ : ∃ a b, cs = [a, b] := by match cs, hl with | [a, b], _ => exact ⟨a, b, rfl⟩
  obtain ⟨xs, m, _, _, _, hx, hel⟩ := DataW.trod_struct Tryz.underlying73 h
  have h0 : DataW.trod enc Tryz.prog w 0 (fun _ => true) true m 3 (([l0, l1].drop 0).take (Tryz.prog.cellsOf 3)) = xs[0]? := hel 0 _ rfl
  have h1 : DataW.trod enc Tryz.prog w 0 (fun _ => true) true m 3 (([l0, l1].drop 1).take (Tryz.prog.cellsOf 3)) = xs[1]? := hel 1 _ rfl
  have hx2 : xs.length = 2 := hx
  rw [show Tryz.prog.cellsOf 3 = 1 from by kernel_rfl, List.getElem?_eq_getElem (by omega)] at h0 h1
  obtain ⟨z0, q0, _, _⟩ := DataW.trod_int Tryz.underlying3 h0
  obtain ⟨z1, q1, _, _⟩ := DataW.trod_int Tryz.underlying3 h1
  simp at q0 q1
  subst q0 q1
  exact ⟨⟨z0, z1⟩, rfl, trivial⟩) hf
 exact ⟨v, ys, e, hat⟩
theorem clC_flat : ∀ ys : List ((Int × List Stp) × Value), (ys.flatMap fun y => [Value.int .i64 y.1.1, y.2]) = clC (ys.map (·.1)) (ys.map (·.2))
 | [] => rfl
 | y :: ys => by rw [List.flatMap_cons, clC_flat ys]; rfl
theorem claims_of {v : Value} {ys : List ((Int × List Stp) × Value)} (hok : ∀ y ∈ ys, I64 y.1.1 ∧ StepsAt w w.heap.size y.2 y.1.2) (hat : SliceAt w w.heap.size v ys.length (ys.flatMap fun y => [Value.int .i64 y.1.1, y.2])) : ClaimsAt w w.heap.size v (ys.map (·.1)) ∧ ∀ c ∈ ys.map (·.1), I64 c.1 := by
 refine ⟨⟨ys.map (·.2), by simp, ?_, fun i hi => ?_⟩, fun c hc => ?_⟩
 ·
  rw [List.length_map, ← clC_flat]; exact hat
 ·
  rw [List.length_map] at hi
  rw [getElem!_pos (ys.map (·.2)) i (by simpa using hi), getElem!_pos (ys.map (·.1)) i (by simpa using hi), List.getElem_map, List.getElem_map]
  exact (hok _ (List.getElem_mem hi)).2
 ·
  obtain ⟨y, hy, rfl⟩ := List.mem_map.1 hc
  exact (hok y hy).1
set_option maxRecDepth 100000 in
theorem trod_claims {fuel : Nat} {cs : List Value} {x : DataW H × List MemPlace} (hf : DataW.trod enc Tryz.prog w 0 (fun _ => true) true fuel 31 cs = some x) : ∃ (v : Value) (l : Clms), cs = [v] ∧ ClaimsAt w w.heap.size v l ∧ ∀ c ∈ l, I64 c.1 := by
 obtain ⟨v, ys, e, hok, hat⟩ := open_rows Tryz.underlying31 (k := 2) (by kernel_rfl) (Nat.zero_lt_succ _) (fun y : (Int × List Stp) × Value => [.int .i64 y.1.1, y.2]) (fun y => I64 y.1.1 ∧ StepsAt w w.heap.size y.2 y.1.2) (fun _ => rfl) (fun fuel cs x hl h => by
  obtain ⟨l0, l1, rfl⟩ : ∃ a b, cs = [a, b] := by match cs, hl with | [a, b], _ => exact ⟨a, b, rfl⟩
  obtain ⟨xs, m, _, _, _, hx, hel⟩ := DataW.trod_struct Tryz.underlying59 h
  have h0 : DataW.trod enc Tryz.prog w 0 (fun _ => true) true m 3 (([l0, l1].drop 0).take (Tryz.prog.cellsOf 3)) = xs[0]? := hel 0 _ rfl
  have h1 : DataW.trod enc Tryz.prog w 0 (fun _ => true) true m 55 (([l0, l1].drop 1).take (Tryz.prog.cellsOf 55)) = xs[1]? := hel 1 _ rfl
  have hx2 : xs.length = 2 := hx
  rw [show Tryz.prog.cellsOf 3 = 1 from by kernel_rfl, List.getElem?_eq_getElem (by omega)] at h0
  rw [show Tryz.prog.cellsOf 55 = 1 from by kernel_rfl, List.getElem?_eq_getElem (by omega)] at h1
  obtain ⟨z0, q0, _, w0⟩ := DataW.trod_int Tryz.underlying3 h0
  obtain ⟨v1, s1, q1, hs⟩ := trod_steps h1
  simp at q0 q1
  subst q0 q1
  exact ⟨((z0, s1), l1), rfl, I64.of_wf w0, hs⟩) hf
 have := claims_of hok hat
 exact ⟨v, _, e, this.1, this.2⟩
set_option maxRecDepth 100000 in
theorem trod_keeps {fuel : Nat} {cs : List Value} {x : DataW H × List MemPlace} (hf : DataW.trod enc Tryz.prog w 0 (fun _ => true) true fuel 26 cs = some x) : ∃ (v : Value) (l : Clms), cs = [v] ∧ ClaimsAt w w.heap.size v l ∧ ∀ c ∈ l, I64 c.1 := by
 obtain ⟨v, ys, e, hok, hat⟩ := open_rows Tryz.underlying26 (k := 2) (by kernel_rfl) (Nat.zero_lt_succ _) (fun y : (Int × List Stp) × Value => [.int .i64 y.1.1, y.2]) (fun y => I64 y.1.1 ∧ StepsAt w w.heap.size y.2 y.1.2) (fun _ => rfl) (fun fuel cs x hl h => by
  obtain ⟨l0, l1, rfl⟩ : ∃ a b, cs = [a, b] := by match cs, hl with | [a, b], _ => exact ⟨a, b, rfl⟩
  obtain ⟨xs, m, _, _, _, hx, hel⟩ := DataW.trod_struct Tryz.underlying104 h
  have h0 : DataW.trod enc Tryz.prog w 0 (fun _ => true) true m 3 (([l0, l1].drop 0).take (Tryz.prog.cellsOf 3)) = xs[0]? := hel 0 _ rfl
  have h1 : DataW.trod enc Tryz.prog w 0 (fun _ => true) true m 55 (([l0, l1].drop 1).take (Tryz.prog.cellsOf 55)) = xs[1]? := hel 1 _ rfl
  have hx2 : xs.length = 2 := hx
  rw [show Tryz.prog.cellsOf 3 = 1 from by kernel_rfl, List.getElem?_eq_getElem (by omega)] at h0
  rw [show Tryz.prog.cellsOf 55 = 1 from by kernel_rfl, List.getElem?_eq_getElem (by omega)] at h1
  obtain ⟨z0, q0, _, w0⟩ := DataW.trod_int Tryz.underlying3 h0
  obtain ⟨v1, s1, q1, hs⟩ := trod_steps h1
  simp at q0 q1
  subst q0 q1
  exact ⟨((z0, s1), l1), rfl, I64.of_wf w0, hs⟩) hf
 have := claims_of hok hat
 exact ⟨v, _, e, this.1, this.2⟩
theorem ClaimsAt.sliced {v : Value} {l : Clms} (h : ClaimsAt w w.heap.size v l) : ∃ a cap, v = .slice a l.length cap := by
 obtain ⟨_, _, ⟨a, cap, h, _⟩, _⟩ := h
 exact ⟨a, cap, h⟩
set_option maxRecDepth 100000 in
theorem open_claims {r : Reach} {b0 : Nat} {v : Value} {d : DataW H} {ps : List MemPlace} (hval : Value.okWide Tryz.prog w r b0 31 v) (hd : DataW.Trod enc Tryz.prog w 0 (fun _ => true) true 31 v d ps) : ∃ l : Clms, ClaimsAt w w.heap.size v l ∧ ∀ c ∈ l, I64 c.1 := by
 obtain ⟨a, len, cap, rfl⟩ := okWide_slice Tryz.underlying31 hval
 obtain ⟨fuel, hf⟩ := hd
 obtain ⟨v, ls, e, hn, hI⟩ := trod_claims hf
 have e' : [Value.slice a len cap] = [v] := e
 injection e' with e1 _
 subst e1
 exact ⟨ls, hn, hI⟩
theorem seven_of {l : List Value} (h : l.length = 7) : ∃ a b c d e f g, l = [a, b, c, d, e, f, g] := by
 match l, h with
 | [a, b, c, d, e, f, g], _ => exact ⟨a, b, c, d, e, f, g, rfl⟩
theorem four_of {l : List Value} (h : l.length = 4) : ∃ a b c d, l = [a, b, c, d] := by
 match l, h with
 | [a, b, c, d], _ => exact ⟨a, b, c, d, rfl⟩
set_option maxRecDepth 100000 in
theorem open_edge {r : Reach} {b0 : Nat} {v : Value} {d : DataW H} {ps : List MemPlace} (hval : Value.okWide Tryz.prog w r b0 30 v) (hd : DataW.Trod enc Tryz.prog w 0 (fun _ => true) true 30 v d ps) : ∃ (o : Edg) (ka : Option Addr) (kc : Nat), v = .agg #[.int .i64 o.cost, .int .i64 o.until_, .int .i64 o.does.id, .int .i64 o.does.frm, .int .i64 o.does.to, .bool o.does.back, .slice ka o.does.keep.length kc] ∧ ClaimsAt w w.heap.size (.slice ka o.does.keep.length kc) o.does.keep ∧ MigIn o.does := by
 obtain ⟨cs, rfl, hsz⟩ := okWide_struct Tryz.underlying30 hval
 rw [show Tryz.prog.cellsOf 30 = 7 from by kernel_rfl] at hsz
 obtain ⟨fuel, hf⟩ := hd
 obtain ⟨l⟩ := cs
 obtain ⟨a, b, c, d, e, f, g, rfl⟩ := seven_of (l := l) hsz
 obtain ⟨xs, m, _, _, _, hx, hel⟩ := DataW.trod_struct Tryz.underlying30 hf
 have h0 : DataW.trod enc Tryz.prog w 0 (fun _ => true) true m 3 (([a, b, c, d, e, f, g].drop 0).take (Tryz.prog.cellsOf 3)) = xs[0]? := hel 0 _ rfl
 have h1 : DataW.trod enc Tryz.prog w 0 (fun _ => true) true m 3 (([a, b, c, d, e, f, g].drop 1).take (Tryz.prog.cellsOf 3)) = xs[1]? := hel 1 _ rfl
 have h2 : DataW.trod enc Tryz.prog w 0 (fun _ => true) true m 28 (([a, b, c, d, e, f, g].drop 2).take (Tryz.prog.cellsOf 28)) = xs[2]? := hel 2 _ rfl
 have hx3 : xs.length = 3 := hx
 rw [show Tryz.prog.cellsOf 3 = 1 from by kernel_rfl, List.getElem?_eq_getElem (by omega)] at h0 h1
 rw [show Tryz.prog.cellsOf 28 = 5 from by kernel_rfl, List.getElem?_eq_getElem (by omega)] at h2
 obtain ⟨z0, q0, _, _⟩ := DataW.trod_int Tryz.underlying3 h0
 obtain ⟨z1, q1, _, _⟩ := DataW.trod_int Tryz.underlying3 h1
 have h2' : DataW.trod enc Tryz.prog w 0 (fun _ => true) true m 28 [c, d, e, f, g] = some xs[2] := h2
 obtain ⟨ys, m', _, _, _, hy, hel⟩ := DataW.trod_struct Tryz.underlying28 h2'
 have k0 : DataW.trod enc Tryz.prog w 0 (fun _ => true) true m' 3 (([c, d, e, f, g].drop 0).take (Tryz.prog.cellsOf 3)) = ys[0]? := hel 0 _ rfl
 have k1 : DataW.trod enc Tryz.prog w 0 (fun _ => true) true m' 3 (([c, d, e, f, g].drop 1).take (Tryz.prog.cellsOf 3)) = ys[1]? := hel 1 _ rfl
 have k2 : DataW.trod enc Tryz.prog w 0 (fun _ => true) true m' 3 (([c, d, e, f, g].drop 2).take (Tryz.prog.cellsOf 3)) = ys[2]? := hel 2 _ rfl
 have k3 : DataW.trod enc Tryz.prog w 0 (fun _ => true) true m' 4 (([c, d, e, f, g].drop 3).take (Tryz.prog.cellsOf 4)) = ys[3]? := hel 3 _ rfl
 have k4 : DataW.trod enc Tryz.prog w 0 (fun _ => true) true m' 26 (([c, d, e, f, g].drop 4).take (Tryz.prog.cellsOf 26)) = ys[4]? := hel 4 _ rfl
 have hy5 : ys.length = 5 := hy
 rw [show Tryz.prog.cellsOf 3 = 1 from by kernel_rfl, List.getElem?_eq_getElem (by omega)] at k0 k1 k2
 rw [show Tryz.prog.cellsOf 4 = 1 from by kernel_rfl, List.getElem?_eq_getElem (by omega)] at k3
 rw [show Tryz.prog.cellsOf 26 = 1 from by kernel_rfl, List.getElem?_eq_getElem (by omega)] at k4
 obtain ⟨y0, r0, _, w0⟩ := DataW.trod_int Tryz.underlying3 k0
 obtain ⟨y1, r1, _, w1⟩ := DataW.trod_int Tryz.underlying3 k1
 obtain ⟨y2, r2, _, w2⟩ := DataW.trod_int Tryz.underlying3 k2
 obtain ⟨y3, r3, _⟩ := DataW.trod_bool Tryz.underlying4 k3
 obtain ⟨y4, kl, r4, hk, hI⟩ := trod_keeps k4
 obtain ⟨ka, kc, rfl⟩ := hk.sliced
 simp at q0 q1 r0 r1 r2 r3 r4
 subst q0 q1 r0 r1 r2 r3 r4
 exact ⟨⟨z0, z1, ⟨y0, y1, y2, y3, kl⟩⟩, ka, kc, rfl, hk, I64.of_wf w0, I64.of_wf w1, I64.of_wf w2, hI⟩
set_option maxRecDepth 100000 in
theorem open_route {r : Reach} {b0 : Nat} {v : Value} {d : DataW H} {ps : List MemPlace} (hval : Value.okWide Tryz.prog w r b0 33 v) (hd : DataW.Trod enc Tryz.prog w 0 (fun _ => true) true 33 v d ps) : ∃ (o : Rou) (ea : Option Addr) (en ec : Nat) (ca : Option Addr) (cc : Nat), v = .agg #[.slice ea en ec, .int .i64 o.cost, .int .i64 o.life, .slice ca o.claims.length cc] ∧ ClaimsAt w w.heap.size (.slice ca o.claims.length cc) o.claims := by
 obtain ⟨cs, rfl, hsz⟩ := okWide_struct Tryz.underlying33 hval
 rw [show Tryz.prog.cellsOf 33 = 4 from by kernel_rfl] at hsz
 obtain ⟨fuel, hf⟩ := hd
 obtain ⟨l⟩ := cs
 obtain ⟨a, b, c, d, rfl⟩ := four_of (l := l) hsz
 obtain ⟨xs, m, _, _, _, hx, hel⟩ := DataW.trod_struct Tryz.underlying33 hf
 have h0 : DataW.trod enc Tryz.prog w 0 (fun _ => true) true m 23 (([a, b, c, d].drop 0).take (Tryz.prog.cellsOf 23)) = xs[0]? := hel 0 _ rfl
 have h1 : DataW.trod enc Tryz.prog w 0 (fun _ => true) true m 3 (([a, b, c, d].drop 1).take (Tryz.prog.cellsOf 3)) = xs[1]? := hel 1 _ rfl
 have h2 : DataW.trod enc Tryz.prog w 0 (fun _ => true) true m 3 (([a, b, c, d].drop 2).take (Tryz.prog.cellsOf 3)) = xs[2]? := hel 2 _ rfl
 have h3 : DataW.trod enc Tryz.prog w 0 (fun _ => true) true m 31 (([a, b, c, d].drop 3).take (Tryz.prog.cellsOf 31)) = xs[3]? := hel 3 _ rfl
 have hx4 : xs.length = 4 := hx
 rw [show Tryz.prog.cellsOf 3 = 1 from by kernel_rfl, List.getElem?_eq_getElem (by omega)] at h1 h2
 rw [show Tryz.prog.cellsOf 23 = 1 from by kernel_rfl, List.getElem?_eq_getElem (by omega)] at h0
 rw [show Tryz.prog.cellsOf 31 = 1 from by kernel_rfl, List.getElem?_eq_getElem (by omega)] at h3
 obtain ⟨v0, ls, q0, _, hnu⟩ := trod_ints h0
 obtain ⟨z1, q1, _, _⟩ := DataW.trod_int Tryz.underlying3 h1
 obtain ⟨z2, q2, _, _⟩ := DataW.trod_int Tryz.underlying3 h2
 obtain ⟨v3, kl, q3, hk, _⟩ := trod_claims h3
 obtain ⟨ca, cc, rfl⟩ := hk.sliced
 obtain ⟨ea, ec, rfl, _⟩ := hnu
 simp at q0 q1 q2 q3
 subst q0 q1 q2 q3
 exact ⟨⟨[], z1, z2, kl⟩, ea, _, ec, ca, cc, rfl, hk⟩
end
end Go.Proofs.YtpeandbcdaikbaaGreatDoor
