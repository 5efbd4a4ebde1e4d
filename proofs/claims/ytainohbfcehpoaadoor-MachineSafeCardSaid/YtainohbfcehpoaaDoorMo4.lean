/-
  MachineSafe: what an operation begins and ends with; frames of 363 slots. (Printed by genmo4.py.)
-/
import Derived.Test.YtainohbfcehpoaaDoorMo3
import Derived.Test.YtainohbfcehpoaaDoorFrm
namespace Go.Proofs.YtainohbfcehpoaaDoor
open Go.RowKit Go.Shelf

def keepI : List Nat := [0, 1, 2, 3, 4, 5, 6, 7, 8, 9, 10, 11, 12, 13, 14, 15, 16, 17, 18, 19, 30, 31, 32, 33, 34, 35, 36, 37, 38, 39, 40, 41, 42, 43, 44, 45, 46, 47, 48, 49, 50, 51, 52, 53, 54, 55, 56, 57, 58, 59, 60, 61, 62, 63, 64, 65, 66, 67, 68, 69, 70, 71, 72, 73, 74, 75, 76, 77, 78, 79, 80, 81, 82, 83, 84, 85, 86, 87, 88, 89, 90, 91, 92, 321, 322, 323, 324, 325, 326, 327, 328, 329, 330, 331, 332, 333, 334, 335, 336, 337, 338, 339, 340, 341, 342, 343, 344, 345, 346, 347, 348, 349, 350, 351, 352, 353, 354, 355, 356, 357, 358, 359, 360, 361, 362]
def keepO : List Nat := [0, 1, 2, 3, 4, 5, 6, 7, 8, 9, 10, 11, 12, 13, 14, 15, 16, 17, 18, 19, 30, 31, 32, 33, 34, 35, 36, 37, 38, 39, 40, 41, 42, 43, 44, 45, 46, 47, 48, 49, 50, 51, 52, 53, 54, 55, 56, 57, 58, 59, 60, 61, 62, 63, 64, 65, 66, 67, 68, 69, 70, 71, 72, 73, 74, 75, 76, 77, 78, 79, 80, 81, 82, 83, 84, 85, 86, 87, 88, 89, 90, 91, 92, 321, 322, 323, 324, 325, 326, 327, 328, 329, 330, 331, 332, 333, 334, 335, 336, 337, 338, 339, 340, 341, 342, 343, 344, 345, 346, 347, 348, 349, 350, 351, 352, 353, 354, 355, 356, 357, 358, 359, 360, 361, 362, 23, 24]
set_option maxRecDepth 100000 in
theorem frame363 (u : Nat → Value) : frameOf 363 u = ⟨#[u 0, u 1, u 2, u 3, u 4, u 5, u 6, u 7, u 8, u 9, u 10, u 11, u 12, u 13, u 14, u 15, u 16, u 17, u 18, u 19, u 20, u 21, u 22, u 23, u 24, u 25, u 26, u 27, u 28, u 29, u 30, u 31, u 32, u 33, u 34, u 35, u 36, u 37, u 38, u 39, u 40, u 41, u 42, u 43, u 44, u 45, u 46, u 47, u 48, u 49, u 50, u 51, u 52, u 53, u 54, u 55, u 56, u 57, u 58, u 59, u 60, u 61, u 62, u 63, u 64, u 65, u 66, u 67, u 68, u 69, u 70, u 71, u 72, u 73, u 74, u 75, u 76, u 77, u 78, u 79, u 80, u 81, u 82, u 83, u 84, u 85, u 86, u 87, u 88, u 89, u 90, u 91, u 92, u 93, u 94, u 95, u 96, u 97, u 98, u 99, u 100, u 101, u 102, u 103, u 104, u 105, u 106, u 107, u 108, u 109, u 110, u 111, u 112, u 113, u 114, u 115, u 116, u 117, u 118, u 119, u 120, u 121, u 122, u 123, u 124, u 125, u 126, u 127, u 128, u 129, u 130, u 131, u 132, u 133, u 134, u 135, u 136, u 137, u 138, u 139, u 140, u 141, u 142, u 143, u 144, u 145, u 146, u 147, u 148, u 149, u 150, u 151, u 152, u 153, u 154, u 155, u 156, u 157, u 158, u 159, u 160, u 161, u 162, u 163, u 164, u 165, u 166, u 167, u 168, u 169, u 170, u 171, u 172, u 173, u 174, u 175, u 176, u 177, u 178, u 179, u 180, u 181, u 182, u 183, u 184, u 185, u 186, u 187, u 188, u 189, u 190, u 191, u 192, u 193, u 194, u 195, u 196, u 197, u 198, u 199, u 200, u 201, u 202, u 203, u 204, u 205, u 206, u 207, u 208, u 209, u 210, u 211, u 212, u 213, u 214, u 215, u 216, u 217, u 218, u 219, u 220, u 221, u 222, u 223, u 224, u 225, u 226, u 227, u 228, u 229, u 230, u 231, u 232, u 233, u 234, u 235, u 236, u 237, u 238, u 239, u 240, u 241, u 242, u 243, u 244, u 245, u 246, u 247, u 248, u 249, u 250, u 251, u 252, u 253, u 254, u 255, u 256, u 257, u 258, u 259, u 260, u 261, u 262, u 263, u 264, u 265, u 266, u 267, u 268, u 269, u 270, u 271, u 272, u 273, u 274, u 275, u 276, u 277, u 278, u 279, u 280, u 281, u 282, u 283, u 284, u 285, u 286, u 287, u 288, u 289, u 290, u 291, u 292, u 293, u 294, u 295, u 296, u 297, u 298, u 299, u 300, u 301, u 302, u 303, u 304, u 305, u 306, u 307, u 308, u 309, u 310, u 311, u 312, u 313, u 314, u 315, u 316, u 317, u 318, u 319, u 320, u 321, u 322, u 323, u 324, u 325, u 326, u 327, u 328, u 329, u 330, u 331, u 332, u 333, u 334, u 335, u 336, u 337, u 338, u 339, u 340, u 341, u 342, u 343, u 344, u 345, u 346, u 347, u 348, u 349, u 350, u 351, u 352, u 353, u 354, u 355, u 356, u 357, u 358, u 359, u 360, u 361, u 362], []⟩ := by kernel_rfl
set_option maxRecDepth 100000 in
theorem keepO_eq (u : Nat → Value) : keepO.map u = [u 0, u 1, u 2, u 3, u 4, u 5, u 6, u 7, u 8, u 9, u 10, u 11, u 12, u 13, u 14, u 15, u 16, u 17, u 18, u 19, u 30, u 31, u 32, u 33, u 34, u 35, u 36, u 37, u 38, u 39, u 40, u 41, u 42, u 43, u 44, u 45, u 46, u 47, u 48, u 49, u 50, u 51, u 52, u 53, u 54, u 55, u 56, u 57, u 58, u 59, u 60, u 61, u 62, u 63, u 64, u 65, u 66, u 67, u 68, u 69, u 70, u 71, u 72, u 73, u 74, u 75, u 76, u 77, u 78, u 79, u 80, u 81, u 82, u 83, u 84, u 85, u 86, u 87, u 88, u 89, u 90, u 91, u 92, u 321, u 322, u 323, u 324, u 325, u 326, u 327, u 328, u 329, u 330, u 331, u 332, u 333, u 334, u 335, u 336, u 337, u 338, u 339, u 340, u 341, u 342, u 343, u 344, u 345, u 346, u 347, u 348, u 349, u 350, u 351, u 352, u 353, u 354, u 355, u 356, u 357, u 358, u 359, u 360, u 361, u 362, u 23, u 24] := by kernel_rfl
set_option maxRecDepth 100000 in
theorem keepI_eq (u : Nat → Value) : keepI.map u = [u 0, u 1, u 2, u 3, u 4, u 5, u 6, u 7, u 8, u 9, u 10, u 11, u 12, u 13, u 14, u 15, u 16, u 17, u 18, u 19, u 30, u 31, u 32, u 33, u 34, u 35, u 36, u 37, u 38, u 39, u 40, u 41, u 42, u 43, u 44, u 45, u 46, u 47, u 48, u 49, u 50, u 51, u 52, u 53, u 54, u 55, u 56, u 57, u 58, u 59, u 60, u 61, u 62, u 63, u 64, u 65, u 66, u 67, u 68, u 69, u 70, u 71, u 72, u 73, u 74, u 75, u 76, u 77, u 78, u 79, u 80, u 81, u 82, u 83, u 84, u 85, u 86, u 87, u 88, u 89, u 90, u 91, u 92, u 321, u 322, u 323, u 324, u 325, u 326, u 327, u 328, u 329, u 330, u 331, u 332, u 333, u 334, u 335, u 336, u 337, u 338, u 339, u 340, u 341, u 342, u 343, u 344, u 345, u 346, u 347, u 348, u 349, u 350, u 351, u 352, u 353, u 354, u 355, u 356, u 357, u 358, u 359, u 360, u 361, u 362] := by kernel_rfl
noncomputable def sw4 : Code := (Tryd.f5.body.bind (blockAt 4)).getD .skip
/-- What the loop's own machine needs to know, and what lies in the slots that the loop leaves. -/
structure SafeCtx (L : List Ins) (inp : List UInt8) (P : ByteArray) (w4 : World) (gL cap m : Nat) (u : Nat → Value) : Prop where
  s4 : u 4 = .string P
  s15 : u 15 = .int .i64 (m : Int)
  s17 : u 17 = .slice (some ⟨gL, 0, none⟩) L.length cap
  s19 : u 19 = .slice (some ⟨w4.heap.size, 0, none⟩) L.length L.length
  psz : P.size = inp.length
  pg : ∀ j (h : j < P.size), ((P[j].toNat : Nat) : Int) = (inp[j]!.toNat : Nat)
  row : RefRow w4 gL 0 L
  gl : gL < w4.heap.size
  len : L.length ≤ 1024
  form : Form L
  good : Good L
  il : inp.length ≤ 30
theorem Two.drewN {B : Nat} {st : List Int} {out : List UInt8} {sv ov : Value} {W : World} (h : Two B st out sv ov W) (n : Nat) : Two B st out sv ov (W.drewN n) := ⟨h.stk, h.out⟩
theorem Two.drew {B : Nat} {st : List Int} {out : List UInt8} {sv ov : Value} {W : World} (h : Two B st out sv ov W) : Two B st out sv ov W.drew := ⟨h.stk, h.out⟩
/-- Where an operation begins. -/
structure OpAt (L : List Ins) (inp : List UInt8) (w4 : World) (gL rd n pc : Nat) (st : List Int) (ip out : List UInt8) (sn' : List Int) (zo zp zd : Nat) (yB : Nat) (sa : Option Addr) (sc : Nat) (u : Nat → Value) (V : World) : Prop where
  s20 : u 20 = .slice sa st.length sc
  s21 : u 21 = .string (str out)
  s22 : u 22 = .int .i64 (rd : Int)
  s25 : u 25 = .pointer (some ⟨yB, 0, none⟩)
  s26 : u 26 = .int .i64 ((pc : Int) + 1)
  s27 : u 27 = .int .i64 ((st.length : Int) - 1)
  s158 : u 158 = .int .i64 (zp : Int)
  y2 : V.cell? ⟨yB, 2, none⟩ = some (.int .i64 (zd : Int))
  two : Two (w4.heap.size + 1) st [] (.slice sa st.length sc) (.slice none 0 0) V
  row : RefRow V gL 0 L
  siz : w4.heap.size + 1 ≤ V.heap.size
  ins : L[pc]! = ⟨zo, zp, zd⟩
  pcl : pc < L.length
  tak : takesOp zp ≤ st.length
  l16 : st.length ≤ 16
  ol : out.length ≤ n
  n15 : n < 1500
  rle : rd ≤ inp.length
  inq : inp.drop rd = ip
  next : ∀ rd' c' sv' W', Below (w4.heap.size + 1) V W' → Two (w4.heap.size + 1) c'.st [] sv' (.slice none 0 0) W' → stepM L ⟨pc, st, ip, out⟩ = .go c' → inp.drop rd' = c'.inp → rd' ≤ inp.length → c'.out.length ≤ n + 1 → SafeAt L w4 inp rd' (n + 1) c' sv' sn' W'
/-- Where an operation ends. -/
def OpR (L : List Ins) (inp : List UInt8) (w4 : World) (n : Nat) (sn' : List Int) (u : Nat → Value) (W : World) : Prop :=
  ∃ (rd' : Nat) (c' : Conf) (sv' : Value), u 20 = sv' ∧ u 21 = .string (str c'.out) ∧ u 22 = .int .i64 (rd' : Int) ∧ u 26 = .int .i64 (c'.pc : Int) ∧ SafeAt L w4 inp rd' (n + 1) c' sv' sn' W
end Go.Proofs.YtainohbfcehpoaaDoor
