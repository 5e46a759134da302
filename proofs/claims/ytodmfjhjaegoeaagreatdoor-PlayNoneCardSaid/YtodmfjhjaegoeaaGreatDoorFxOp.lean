/- An operation that is handed in, as the laws' rows read it. -/
import Derived.Test.YtodmfjhjaegoeaaGreatDoorAmTop
import Derived.Test.YtodmfjhjaegoeaaGreatDoorAmFrame
import Derived.Test.YtodmfjhjaegoeaaGreatDoorRows
import Derived.ProofKit
set_option maxRecDepth 20000
set_option linter.unusedVariables false
set_option linter.unusedSimpArgs false
namespace Go.Proofs.Fx
open Go Go.Am Go.ChangeShapes Go.WideShapes Go.RowKit

variable {H : Type} {enc : TypeId × Value → H} {W : World}
theorem c3 : Tryz.prog.cellsOf 3 = 1 := by kernel_rfl
theorem c9 : Tryz.prog.cellsOf 9 = 1 := by kernel_rfl
theorem c22 : Tryz.prog.cellsOf 22 = 1 := by kernel_rfl
theorem c23 : Tryz.prog.cellsOf 23 = 1 := by kernel_rfl
theorem cu8 : Tryz.prog.cellsOf 5 = 1 := by kernel_rfl
theorem c25 : Tryz.prog.cellsOf 25 = 3 := by kernel_rfl
theorem c27 : Tryz.prog.cellsOf 27 = 7 := by kernel_rfl

theorem slice_ref {t e : TypeId} (ht : Tryz.prog.underlying t = some (.slice e)) {fuel : Nat} {cs : List Value} {x : DataW H × List MemPlace} (h : DataW.trod enc Tryz.prog W 0 (fun _ => true) true fuel t cs = some x) : ∃ a, cs = [a] ∧ refLike a = true := by
  rcases DataW.trod_slice ht h with ⟨rfl, _⟩ | ⟨a, len, cap, _, _, _, _, rfl, _⟩
  · exact ⟨_, rfl, rfl⟩
  · exact ⟨_, rfl, rfl⟩

theorem op_cells {fuel : Nat} {cs : List Value} {x : DataW H × List MemPlace} (h : DataW.trod enc Tryz.prog W 0 (fun _ => true) true fuel 27 cs = some x) :
    ∃ (k n m u : Int) (s : ByteArray) (a b : Value), cs = [.int .i64 k, .string s, a, .int .i64 n, b, .int .i64 m, .int .u8 u] ∧ refLike a = true ∧ refLike b = true := by
  obtain ⟨xs, n, rfl, _, hl, hn, hf⟩ := DataW.trod_struct Tryz.underlying27 h
  rw [c27] at hl
  match cs, hl with
  | [q0, q1, q2, q3, q4, q5, q6], _ =>
  match xs, hn with
  | [x0, x1, x2, x3, x4], _ =>
  have e0 := hf 0 _ rfl
  have e1 := hf 1 _ rfl
  have e2 := hf 2 _ rfl
  have e3 := hf 3 _ rfl
  have e4 := hf 4 _ rfl
  simp only [c3, c9, c22, c25, List.drop_zero, List.drop_succ_cons, List.take_succ_cons, List.take_zero, List.getElem?_cons_zero, List.getElem?_cons_succ] at e0 e1 e2 e3 e4
  obtain ⟨k, ze0, _⟩ := DataW.trod_int Tryz.underlying3 e0
  obtain ⟨s, ze1, _⟩ := DataW.trod_string Tryz.underlying9 e1
  obtain ⟨a, ze2, ha⟩ := slice_ref Tryz.underlying22 e2
  obtain ⟨l, ze3, _⟩ := DataW.trod_int Tryz.underlying3 e3
  obtain ⟨ys, n', rfl, _, _, hn', hf'⟩ := DataW.trod_struct Tryz.underlying25 e4
  match ys, hn' with
  | [y0, y1, y2], _ =>
  have g0 := hf' 0 _ rfl
  have g1 := hf' 1 _ rfl
  have g2 := hf' 2 _ rfl
  simp only [c3, c23, cu8, List.drop_zero, List.drop_succ_cons, List.take_succ_cons, List.take_zero, List.getElem?_cons_zero, List.getElem?_cons_succ] at g0 g1 g2
  obtain ⟨b, zg0, hb⟩ := slice_ref Tryz.underlying23 g0
  obtain ⟨m, zg1, _⟩ := DataW.trod_int Tryz.underlying3 g1
  obtain ⟨u, zg2, _⟩ := DataW.trod_int Tryz.underlying5 g2
  cases ze0; cases ze1; cases ze2; cases ze3; cases zg0; cases zg1; cases zg2
  exact ⟨_, _, _, _, _, _, _, rfl, ha, hb⟩

def opV (k n m u : Int) (s : ByteArray) : Value := .agg #[.int .i64 k, .string s, .chan (some 0), .int .i64 n, .chan (some 0), .int .i64 m, .int .u8 u]
theorem op_rel (G : Gh) {k n m u : Int} {s : ByteArray} {a b : Value} (ha : refLike a = true) (hb : refLike b = true) : VR G (opV k n m u s) (.agg #[.int .i64 k, .string s, a, .int .i64 n, b, .int .i64 m, .int .u8 u]) := by
  obtain ⟨h1, h2⟩ := arrays_of_vl (G := G) (xs := #[.int .i64 k, .string s, .chan (some 0), .int .i64 n, .chan (some 0), .int .i64 m, .int .u8 u]) (ys := #[.int .i64 k, .string s, a, .int .i64 n, b, .int .i64 m, .int .u8 u])
    (VL.cons (.plain rfl) (VL.cons (.plain rfl) (VL.cons (.top ha) (VL.cons (.plain rfl) (VL.cons (.top hb) (VL.cons (.plain rfl) (VL.cons (.plain rfl) (VL.nil G))))))))
  refine .agg h1 (fun i hi => ?_) h2
  have : i = 0 ∨ i = 1 ∨ i = 2 ∨ i = 3 ∨ i = 4 ∨ i = 5 ∨ i = 6 := by simp at hi; omega
  rcases this with rfl | rfl | rfl | rfl | rfl | rfl | rfl <;> rfl
end Go.Proofs.Fx
