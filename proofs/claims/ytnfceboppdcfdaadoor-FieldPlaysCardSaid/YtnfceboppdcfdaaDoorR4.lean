/- A layout that is read as data, opened. -/
import Derived.Test.YtnfceboppdcfdaaDoorR1
import Derived.Test.YtnfceboppdcfdaaDoorProg
namespace Go.Proofs.YtnfceboppdcfdaaDoor
open Go.ChangeShapes Go.WideShapes Go.RowKit Go.Deep
set_option maxRecDepth 100000

section
variable {H : Type} {enc : TypeId × Value → H} {w : World} {base : Nat} {spare : Nat → Bool} {held : Bool}
theorem len1 {l : List Value} (h : l.length = 1) : ∃ a, l = [a] := by
  match l, h with | [a], _ => exact ⟨a, rfl⟩
theorem len2 {l : List Value} (h : l.length = 2) : ∃ a b, l = [a, b] := by
  match l, h with | [a, b], _ => exact ⟨a, b, rfl⟩
theorem len3 {l : List Value} (h : l.length = 3) : ∃ a b c, l = [a, b, c] := by
  match l, h with | [a, b, c], _ => exact ⟨a, b, c, rfl⟩
theorem len4 {l : List Value} (h : l.length = 4) : ∃ a b c d, l = [a, b, c, d] := by
  match l, h with | [a, b, c, d], _ => exact ⟨a, b, c, d, rfl⟩
theorem len5 {l : List Value} (h : l.length = 5) : ∃ a b c d e, l = [a, b, c, d, e] := by
  match l, h with | [a, b, c, d, e], _ => exact ⟨a, b, c, d, e, rfl⟩
theorem len6 {l : List Value} (h : l.length = 6) : ∃ a b c d e f, l = [a, b, c, d, e, f] := by
  match l, h with | [a, b, c, d, e, f], _ => exact ⟨a, b, c, d, e, f, rfl⟩
theorem slq_ints {v : Value} {l : List Int} (h : SlQ w (fun cs (n : Int) => cs = [.int .i64 n] ∧ (Lit.int .i64 n).wf = true) 1 v l) : SlInts w v l := by
  obtain ⟨c, h1, _, h2⟩ := h
  refine h1.congr fun j hj => ?_
  rw [Nat.mul_one] at hj
  have := (h2 j hj).1
  simp only [List.range_one, List.map_cons, List.map_nil, Nat.mul_one, Nat.add_zero, List.cons.injEq, and_true] at this
  rw [this]; simp [gi, List.getD_eq_getElem?_getD, hj]
theorem slq_bools {v : Value} {l : List Bool} (h : SlQ w (fun cs (n : Bool) => cs = [.bool n]) 1 v l) : SlBools w v l := by
  obtain ⟨c, h1, _, h2⟩ := h
  refine h1.congr fun j hj => ?_
  rw [Nat.mul_one] at hj
  have := h2 j hj
  simp only [List.range_one, List.map_cons, List.map_nil, Nat.mul_one, Nat.add_zero, List.cons.injEq, and_true] at this
  rw [this]; simp [gb, List.getD_eq_getElem?_getD, hj]
theorem slq_strs {v : Value} {l : List ByteArray} (h : SlQ w (fun cs (s : ByteArray) => cs = [.string s] ∧ s.size ≤ reachBytes) 1 v l) : SlStrs w v l ∧ ∀ i, i < l.length → (gs l i).size ≤ reachBytes := by
  obtain ⟨c, h1, _, h2⟩ := h
  refine ⟨h1.congr fun j hj => ?_, fun i hi => ?_⟩
  · rw [Nat.mul_one] at hj
    have := (h2 j hj).1
    simp only [List.range_one, List.map_cons, List.map_nil, Nat.mul_one, Nat.add_zero, List.cons.injEq, and_true] at this
    rw [this]; simp [gs, List.getD_eq_getElem?_getD, hj]
  · have := (h2 i hi).2
    simpa [gs, List.getD_eq_getElem?_getD, hi] using this
theorem op_ints : OpensTo enc Tryd.prog w base spare held 29 fun cs (l : List Int) => ∃ v, cs = [v] ∧ SlInts w v l ∧ l.length ≤ reachBytes := fun fuel cs x h hw => by
  obtain ⟨l, v, e, hq⟩ := op_slice (sz := 1) Tryd.underlying29 (by kernel_rfl) (by decide) (by rw [show Tryd.prog.bytesOf 3 = 8 by kernel_rfl]; decide) (op_int Tryd.underlying3) fuel cs x h hw
  have := hq
  obtain ⟨_, _, hl, _⟩ := this
  exact ⟨l, v, e, slq_ints hq, hl⟩
theorem op_strs : OpensTo enc Tryd.prog w base spare held 22 fun cs (l : List ByteArray) => ∃ v, cs = [v] ∧ SlStrs w v l ∧ l.length ≤ reachBytes ∧ ∀ i, i < l.length → (gs l i).size ≤ reachBytes := fun fuel cs x h hw => by
  obtain ⟨l, v, e, hq⟩ := op_slice (sz := 1) Tryd.underlying22 (by kernel_rfl) (by decide) (by rw [show Tryd.prog.bytesOf 9 = 16 by kernel_rfl]; decide) (op_str Tryd.underlying9) fuel cs x h hw
  have := hq
  obtain ⟨_, _, hl, _⟩ := this
  exact ⟨l, v, e, (slq_strs hq).1, hl, (slq_strs hq).2⟩
theorem op_need : OpensTo enc Tryd.prog w base spare held 121 fun cs (x : Need) => cs = [.int .i64 x.p, .bool x.r] := fun fuel cs x h hw => by
  obtain ⟨hl, hf⟩ := op_fields Tryd.underlying121 h hw
  rw [show Tryd.prog.cellsOf 121 = 2 by kernel_rfl] at hl
  obtain ⟨a, b, rfl⟩ := len2 hl
  obtain ⟨n0, y0, t0, w0⟩ := hf 0 _ rfl
  replace t0 : DataW.trod enc Tryd.prog w base spare held n0 3 (([a, b].drop 0).take (Tryd.prog.cellsOf 3)) = some y0 := t0
  rw [show Tryd.prog.cellsOf 3 = 1 by kernel_rfl] at t0
  obtain ⟨n1, y1, t1, w1⟩ := hf 1 _ rfl
  replace t1 : DataW.trod enc Tryd.prog w base spare held n1 4 (([a, b].drop 1).take (Tryd.prog.cellsOf 4)) = some y1 := t1
  rw [show Tryd.prog.cellsOf 4 = 1 by kernel_rfl] at t1
  obtain ⟨p, e0, _⟩ := op_int Tryd.underlying3 _ _ _ t0 w0
  obtain ⟨r, e1⟩ := op_bool Tryd.underlying4 _ _ _ t1 w1
  simp at e0 e1
  exact ⟨⟨p, r⟩, by rw [e0, e1]⟩
theorem op_needs : OpensTo enc Tryd.prog w base spare held 31 fun cs (l : List Need) => ∃ v, cs = [v] ∧ SlNeeds w v l ∧ l.length ≤ reachBytes := fun fuel cs x h hw => by
  obtain ⟨l, v, e, hq⟩ := op_slice (sz := 2) Tryd.underlying31 (by kernel_rfl) (by decide) (by rw [show Tryd.prog.bytesOf 121 = 16 by kernel_rfl]; decide) op_need fuel cs x h hw
  obtain ⟨c, h1, hl, h2⟩ := hq
  refine ⟨l, v, e, h1.congr fun j hj => ?_, hl⟩
  have hi : j / 2 < l.length := by omega
  have := h2 _ hi
  simp only [List.range_succ, List.range_zero, List.nil_append, List.map_cons, List.map_nil, List.cons_append, List.cons.injEq, and_true] at this
  have hg : gN l (j / 2) = l[j / 2] := by simp [gN, List.getD_eq_getElem?_getD, hi]
  unfold needCell
  rw [hg]
  have h2' : j % 2 = 0 ∨ j % 2 = 1 := by omega
  rcases h2' with e | e
  · rw [if_pos e, ← this.1]; congr 1; omega
  · rw [if_neg (by omega), ← this.2]; congr 1; omega
theorem op_pt : OpensTo enc Tryd.prog w base spare held 113 fun cs (x : Pt) => cs = [.string x.name, .int .i64 x.sec] ∧ x.name.size ≤ reachBytes := fun fuel cs x h hw => by
  obtain ⟨hl, hf⟩ := op_fields Tryd.underlying113 h hw
  rw [show Tryd.prog.cellsOf 113 = 2 by kernel_rfl] at hl
  obtain ⟨a, b, rfl⟩ := len2 hl
  obtain ⟨n0, y0, t0, w0⟩ := hf 0 _ rfl
  replace t0 : DataW.trod enc Tryd.prog w base spare held n0 9 (([a, b].drop 0).take (Tryd.prog.cellsOf 9)) = some y0 := t0
  rw [show Tryd.prog.cellsOf 9 = 1 by kernel_rfl] at t0
  obtain ⟨n1, y1, t1, w1⟩ := hf 1 _ rfl
  replace t1 : DataW.trod enc Tryd.prog w base spare held n1 3 (([a, b].drop 1).take (Tryd.prog.cellsOf 3)) = some y1 := t1
  rw [show Tryd.prog.cellsOf 3 = 1 by kernel_rfl] at t1
  obtain ⟨s, e0, hs⟩ := op_str Tryd.underlying9 _ _ _ t0 w0
  obtain ⟨r, e1, _⟩ := op_int Tryd.underlying3 _ _ _ t1 w1
  simp at e0 e1
  exact ⟨⟨s, r⟩, by rw [e0, e1], hs⟩
theorem op_pts : OpensTo enc Tryd.prog w base spare held 23 fun cs (l : List Pt) => ∃ v, cs = [v] ∧ SlPts w v l ∧ l.length ≤ reachBytes ∧ ∀ i, i < l.length → (gP l i).name.size ≤ reachBytes := fun fuel cs x h hw => by
  obtain ⟨l, v, e, hq⟩ := op_slice (sz := 2) Tryd.underlying23 (by kernel_rfl) (by decide) (by rw [show Tryd.prog.bytesOf 113 = 24 by kernel_rfl]; decide) op_pt fuel cs x h hw
  obtain ⟨c, h1, hl, h2⟩ := hq
  refine ⟨l, v, e, h1.congr fun j hj => ?_, hl, fun i hi => ?_⟩
  · have hi : j / 2 < l.length := by omega
    have := (h2 _ hi).1
    simp only [List.range_succ, List.range_zero, List.nil_append, List.map_cons, List.map_nil, List.cons_append, List.cons.injEq, and_true] at this
    have hg : gP l (j / 2) = l[j / 2] := by simp [gP, List.getD_eq_getElem?_getD, hi]
    unfold ptCell
    rw [hg]
    have h2' : j % 2 = 0 ∨ j % 2 = 1 := by omega
    rcases h2' with e | e
    · rw [if_pos e, ← this.1]; congr 1; omega
    · rw [if_neg (by omega), ← this.2]; congr 1; omega
  · have hg : gP l i = l[i] := by simp [gP, List.getD_eq_getElem?_getD, hi]
    rw [hg]; exact (h2 i hi).2
def RtOk (w : World) (cs : List Value) (r : Route) : Prop := ∃ a b c, cs = [.string r.name, .int .i64 r.frm, .int .i64 r.to, a, b, c] ∧ SlInts w a r.path ∧ SlNeeds w b r.pts ∧ SlNeeds w c r.flk ∧ r.name.size ≤ reachBytes ∧ r.path.length ≤ reachBytes ∧ r.pts.length ≤ reachBytes ∧ r.flk.length ≤ reachBytes
theorem op_rt : OpensTo enc Tryd.prog w base spare held 33 (RtOk w) := fun fuel cs x h hw => by
  obtain ⟨hl, hf⟩ := op_fields Tryd.underlying33 h hw
  rw [show Tryd.prog.cellsOf 33 = 6 by kernel_rfl] at hl
  obtain ⟨a, b, c, d, e, f, rfl⟩ := len6 hl
  obtain ⟨n0, y0, t0, w0⟩ := hf 0 _ rfl
  replace t0 : DataW.trod enc Tryd.prog w base spare held n0 9 (([a, b, c, d, e, f].drop 0).take (Tryd.prog.cellsOf 9)) = some y0 := t0
  rw [show Tryd.prog.cellsOf 9 = 1 by kernel_rfl] at t0
  obtain ⟨n1, y1, t1, w1⟩ := hf 1 _ rfl
  replace t1 : DataW.trod enc Tryd.prog w base spare held n1 3 (([a, b, c, d, e, f].drop 1).take (Tryd.prog.cellsOf 3)) = some y1 := t1
  rw [show Tryd.prog.cellsOf 3 = 1 by kernel_rfl] at t1
  obtain ⟨n2, y2, t2, w2⟩ := hf 2 _ rfl
  replace t2 : DataW.trod enc Tryd.prog w base spare held n2 3 (([a, b, c, d, e, f].drop 2).take (Tryd.prog.cellsOf 3)) = some y2 := t2
  rw [show Tryd.prog.cellsOf 3 = 1 by kernel_rfl] at t2
  obtain ⟨n3, y3, t3, w3⟩ := hf 3 _ rfl
  replace t3 : DataW.trod enc Tryd.prog w base spare held n3 29 (([a, b, c, d, e, f].drop 3).take (Tryd.prog.cellsOf 29)) = some y3 := t3
  rw [show Tryd.prog.cellsOf 29 = 1 by kernel_rfl] at t3
  obtain ⟨n4, y4, t4, w4⟩ := hf 4 _ rfl
  replace t4 : DataW.trod enc Tryd.prog w base spare held n4 31 (([a, b, c, d, e, f].drop 4).take (Tryd.prog.cellsOf 31)) = some y4 := t4
  rw [show Tryd.prog.cellsOf 31 = 1 by kernel_rfl] at t4
  obtain ⟨n5, y5, t5, w5⟩ := hf 5 _ rfl
  replace t5 : DataW.trod enc Tryd.prog w base spare held n5 31 (([a, b, c, d, e, f].drop 5).take (Tryd.prog.cellsOf 31)) = some y5 := t5
  rw [show Tryd.prog.cellsOf 31 = 1 by kernel_rfl] at t5
  obtain ⟨s, e0, hs⟩ := op_str Tryd.underlying9 _ _ _ t0 w0
  obtain ⟨r1, e1, _⟩ := op_int Tryd.underlying3 _ _ _ t1 w1
  obtain ⟨r2, e2, _⟩ := op_int Tryd.underlying3 _ _ _ t2 w2
  obtain ⟨l3, v3, e3, h3, k3⟩ := op_ints _ _ _ t3 w3
  obtain ⟨l4, v4, e4, h4, k4⟩ := op_needs _ _ _ t4 w4
  obtain ⟨l5, v5, e5, h5, k5⟩ := op_needs _ _ _ t5 w5
  simp at e0 e1 e2 e3 e4 e5
  exact ⟨⟨s, r1, r2, l3, l4, l5⟩, v3, v4, v5, by rw [e0, e1, e2, e3, e4, e5], h3, h4, h5, hs, k3, k4, k5⟩
theorem op_rts : OpensTo enc Tryd.prog w base spare held 24 fun cs (l : List Route) => ∃ v, cs = [v] ∧ SlRts w v l ∧ l.length ≤ reachBytes ∧ ∀ i, i < l.length → (gR l i).name.size ≤ reachBytes ∧ (gR l i).path.length ≤ reachBytes ∧ (gR l i).pts.length ≤ reachBytes ∧ (gR l i).flk.length ≤ reachBytes := fun fuel cs x h hw => by
  obtain ⟨l, v, e, hq⟩ := op_slice (sz := 6) Tryd.underlying24 (by kernel_rfl) (by decide) (by rw [show Tryd.prog.bytesOf 33 = 104 by kernel_rfl]; decide) op_rt fuel cs x h hw
  obtain ⟨c, h1, hl, h2⟩ := hq
  refine ⟨l, v, e, ⟨c, h1, fun i hi => ?_⟩, hl, fun i hi => ?_⟩
  · have hg : gR l i = l[i] := by simp [gR, List.getD_eq_getElem?_getD, hi]
    rw [hg]
    obtain ⟨a, b, d, e, h3, h4, h5, _⟩ := h2 i hi
    simp only [List.range_succ, List.range_zero, List.nil_append, List.map_cons, List.map_nil, List.cons_append, List.cons.injEq, and_true] at e
    obtain ⟨e0, e1, e2, e3, e4, e5⟩ := e
    exact ⟨e0, e1, e2, by rw [e3]; exact h3, by rw [e4]; exact h4, by rw [e5]; exact h5⟩
  · have hg : gR l i = l[i] := by simp [gR, List.getD_eq_getElem?_getD, hi]
    rw [hg]
    obtain ⟨_, _, _, _, _, _, _, h⟩ := h2 i hi
    exact h
theorem op_layout : OpensTo enc Tryd.prog w base spare held 26 fun cs (L : Layout) => cs.length = 4 ∧ LayAt w (.agg cs.toArray) L ∧ LReach L := fun fuel cs x h hw => by
  obtain ⟨hl, hf⟩ := op_fields Tryd.underlying26 h hw
  rw [show Tryd.prog.cellsOf 26 = 4 by kernel_rfl] at hl
  obtain ⟨a, b, c, d, rfl⟩ := len4 hl
  obtain ⟨n0, y0, t0, w0⟩ := hf 0 _ rfl
  replace t0 : DataW.trod enc Tryd.prog w base spare held n0 22 (([a, b, c, d].drop 0).take (Tryd.prog.cellsOf 22)) = some y0 := t0
  rw [show Tryd.prog.cellsOf 22 = 1 by kernel_rfl] at t0
  obtain ⟨n1, y1, t1, w1⟩ := hf 1 _ rfl
  replace t1 : DataW.trod enc Tryd.prog w base spare held n1 23 (([a, b, c, d].drop 1).take (Tryd.prog.cellsOf 23)) = some y1 := t1
  rw [show Tryd.prog.cellsOf 23 = 1 by kernel_rfl] at t1
  obtain ⟨n2, y2, t2, w2⟩ := hf 2 _ rfl
  replace t2 : DataW.trod enc Tryd.prog w base spare held n2 22 (([a, b, c, d].drop 2).take (Tryd.prog.cellsOf 22)) = some y2 := t2
  rw [show Tryd.prog.cellsOf 22 = 1 by kernel_rfl] at t2
  obtain ⟨n3, y3, t3, w3⟩ := hf 3 _ rfl
  replace t3 : DataW.trod enc Tryd.prog w base spare held n3 24 (([a, b, c, d].drop 3).take (Tryd.prog.cellsOf 24)) = some y3 := t3
  rw [show Tryd.prog.cellsOf 24 = 1 by kernel_rfl] at t3
  obtain ⟨l0, v0, e0, h0, k0, b0⟩ := op_strs _ _ _ t0 w0
  obtain ⟨l1, v1, e1, h1, k1, b1⟩ := op_pts _ _ _ t1 w1
  obtain ⟨l2, v2, e2, h2, k2, b2⟩ := op_strs _ _ _ t2 w2
  obtain ⟨l3, v3, e3, h3, k3, b3⟩ := op_rts _ _ _ t3 w3
  simp at e0 e1 e2 e3
  subst e0; subst e1; subst e2; subst e3
  have hR : reachBytes ≤ 281474976710656 := by decide
  exact ⟨⟨l0, l1, l2, l3⟩, rfl, ⟨_, _, _, _, rfl, h0, h1, h2, h3⟩, ⟨⟨Nat.le_trans k0 hR, Nat.le_trans k1 hR, Nat.le_trans k2 hR, Nat.le_trans k3 hR⟩, fun i hi => Nat.le_trans (b0 i hi) hR, fun i hi => Nat.le_trans (b1 i hi) hR, fun i hi => Nat.le_trans (b2 i hi) hR, fun i hi => by
    obtain ⟨q1, q2, q3, q4⟩ := b3 i hi
    exact ⟨Nat.le_trans q1 hR, Nat.le_trans q2 hR, Nat.le_trans q3 hR, Nat.le_trans q4 hR⟩⟩⟩
end
end Go.Proofs.YtnfceboppdcfdaaDoor
