/- Acts of law 6 that are read as data, opened. -/
import Derived.Test.YtnfceboppdcfdaaDoorR4
import Derived.Test.YtnfceboppdcfdaaDoorS6a
namespace Go.Proofs.YtnfceboppdcfdaaDoor
open Go.ChangeShapes Go.WideShapes Go.RowKit Go.Deep
set_option maxRecDepth 100000
section
variable {H : Type} {enc : TypeId × Value → H} {w : World} {base : Nat} {spare : Nat → Bool} {held : Bool}
theorem op_act6 : OpensTo enc Tryd.prog w base spare held 51 fun cs (x : Act6) => cs = [.int .i64 x.kind, .int .i64 x.n, .int .i64 x.drive] := fun fuel cs x h hw => by
  obtain ⟨hl, hf⟩ := op_fields Tryd.underlying51 h hw
  rw [show Tryd.prog.cellsOf 51 = 3 by kernel_rfl] at hl
  obtain ⟨a, b, c, rfl⟩ := len3 hl
  obtain ⟨n0, y0, t0, w0⟩ := hf 0 _ rfl
  replace t0 : DataW.trod enc Tryd.prog w base spare held n0 3 (([a, b, c].drop 0).take (Tryd.prog.cellsOf 3)) = some y0 := t0
  rw [show Tryd.prog.cellsOf 3 = 1 by kernel_rfl] at t0
  obtain ⟨n1, y1, t1, w1⟩ := hf 1 _ rfl
  replace t1 : DataW.trod enc Tryd.prog w base spare held n1 3 (([a, b, c].drop 1).take (Tryd.prog.cellsOf 3)) = some y1 := t1
  rw [show Tryd.prog.cellsOf 3 = 1 by kernel_rfl] at t1
  obtain ⟨n2, y2, t2, w2⟩ := hf 2 _ rfl
  replace t2 : DataW.trod enc Tryd.prog w base spare held n2 3 (([a, b, c].drop 2).take (Tryd.prog.cellsOf 3)) = some y2 := t2
  rw [show Tryd.prog.cellsOf 3 = 1 by kernel_rfl] at t2
  obtain ⟨r0, e0, _⟩ := op_int Tryd.underlying3 _ _ _ t0 w0
  obtain ⟨r1, e1, _⟩ := op_int Tryd.underlying3 _ _ _ t1 w1
  obtain ⟨r2, e2, _⟩ := op_int Tryd.underlying3 _ _ _ t2 w2
  simp at e0 e1 e2
  exact ⟨⟨r0, r1, r2⟩, by rw [e0, e1, e2]⟩
theorem op_act6s : OpensTo enc Tryd.prog w base spare held 46 fun cs (l : List Act6) => ∃ v, cs = [v] ∧ SlAct6 w v l := fun fuel cs x h hw => by
  obtain ⟨l, v, e, hq⟩ := op_slice (sz := 3) Tryd.underlying46 (by kernel_rfl) (by decide) (by rw [show Tryd.prog.bytesOf 51 = 24 by kernel_rfl]; decide) op_act6 fuel cs x h hw
  obtain ⟨c, h1, hl, h2⟩ := hq
  refine ⟨l, v, e, h1.congr fun j hj => ?_⟩
  have hi : j / 3 < l.length := by omega
  have := h2 _ hi
  simp only [List.range_succ, List.range_zero, List.nil_append, List.map_cons, List.map_nil, List.cons_append, List.cons.injEq, and_true] at this
  have hg : gA6 l (j / 3) = l[j / 3] := by simp [gA6, List.getD_eq_getElem?_getD, hi]
  unfold act6Cell
  rw [hg]
  obtain ⟨q0, q1, q2⟩ := this
  have h3 : j % 3 = 0 ∨ j % 3 = 1 ∨ j % 3 = 2 := by omega
  rcases h3 with e | e | e
  · rw [if_pos e, ← q0]; congr 1; omega
  · rw [if_neg (by omega), if_pos e, ← q1]; congr 1; omega
  · rw [if_neg (by omega), if_neg (by omega), ← q2]; congr 1; omega
end
end Go.Proofs.YtnfceboppdcfdaaDoor
