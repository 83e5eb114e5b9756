/- What make lays. -/
import Derived.Test.YtnfceboppdcfdaaDoorC4
import Derived.Laws.MakeOwn
namespace Go.Proofs.YtnfceboppdcfdaaDoor
open Go.RowKit

theorem mk_run {P : Program} {t e : TypeId} {i : TypeInfo} {z : Value} (ht : P.underlying t = some (.slice e)) (hi : P.info? e = some i) (hz : i.zero = some z) (n : Nat) (hn : n ≤ 100000) (hb : i.bytes ≤ 1000) (w : World) :
    (Instr.makeSlice t (.int .i64 (n : Int)) (.int .i64 (n : Int))).run P w = .ok (.slice (some ⟨w.heap.size, 0, none⟩) n n) (w.alloc (.cells (madeCells z.cells (n * i.size)) e)) := by
  have h := run_make (P := P) w t e i z ht hi hz .i64 .i64 n n (by omega) (Int.le_refl _) (by
    have : i.bytes * n ≤ 1000 * 100000 := Nat.mul_le_mul hb hn
    have h2 : ((i.bytes * n : Nat) : Int) ≤ 281474976710656 := by omega
    rwa [Int.natCast_mul] at h2) (by omega)
  simpa using h
theorem made_at (z : Array Value) (N j : Nat) (h : j < N) : (madeCells z N)[j]? = some (z[j % z.size]!) := by simp [madeCells, h]
theorem mut_made_bools {Z : Nat → Prop} {w : World} {b n : Nat} {t : TypeId} (h : w.heap[b]? = some (.cells (madeCells #[.bool false] n) t (0, 0))) (hz : Z b) (hn : n ≤ 100000) :
    MutAt Z w (.slice (some ⟨b, 0, none⟩) n n) (List.replicate n false).length 1 (boolCell (List.replicate n false)) := by
  rw [List.length_replicate]
  refine mut_blk h hz (by omega) fun j hj => ?_
  rw [made_at _ _ _ (by omega)]
  simp [boolCell, gb_replicate, Nat.mod_one]
theorem mut_made_ints {Z : Nat → Prop} {w : World} {b n : Nat} {t : TypeId} (h : w.heap[b]? = some (.cells (madeCells #[.int .i64 0] n) t (0, 0))) (hz : Z b) (hn : n ≤ 100000) :
    MutAt Z w (.slice (some ⟨b, 0, none⟩) n n) (List.replicate n (0 : Int)).length 1 (intCell (List.replicate n 0)) := by
  rw [List.length_replicate]
  refine mut_blk h hz (by omega) fun j hj => ?_
  rw [made_at _ _ _ (by omega)]
  simp [intCell, gi_replicate, Nat.mod_one]
theorem gRS_rep (n j : Nat) : gRS (List.replicate n idle0) j = idle0 := by
  simp only [gRS, List.getD_eq_getElem?_getD, List.getElem?_replicate]; split <;> rfl
theorem mut_made_rs {Z : Nat → Prop} {w : World} {b n : Nat} {t : TypeId} (h : w.heap[b]? = some (.cells (madeCells #[.int .i64 0, .int .i64 0, .int .i64 0, .bool false] (n * 4)) t (0, 0))) (hz : Z b) (hn : n ≤ 100000) :
    MutAt Z w (.slice (some ⟨b, 0, none⟩) n n) (List.replicate n idle0).length 4 (rsCell (List.replicate n idle0)) := by
  rw [List.length_replicate]
  refine mut_blk h hz (by omega) fun j hj => ?_
  rw [made_at _ _ _ hj]
  unfold rsCell
  rw [gRS_rep]
  have h4 : j % 4 = 0 ∨ j % 4 = 1 ∨ j % 4 = 2 ∨ j % 4 = 3 := by omega
  rcases h4 with e | e | e | e <;> simp [e, idle0]
/-- Rows of points. -/
def fpVals (l : List FP) : List Value := l.flatMap fun x => [.int .i64 x.lies, .int .i64 x.to, .int .i64 x.steps]
theorem fpVals_snoc (l : List FP) (x : FP) : fpVals (l ++ [x]) = fpVals l ++ [.int .i64 x.lies, .int .i64 x.to, .int .i64 x.steps] := by simp [fpVals]
theorem fpVals_at (l : List FP) (j : Nat) (hj : j < l.length * 3) : (fpVals l)[j]? = some (fpCell l j) := by
  induction l generalizing j with
  | nil => simp at hj
  | cons a l ih =>
    unfold fpVals
    rw [List.flatMap_cons]
    by_cases h : j < 3
    · have h3 : j = 0 ∨ j = 1 ∨ j = 2 := by omega
      rcases h3 with rfl | rfl | rfl <;> rfl
    · rw [List.getElem?_append_right (by simp; omega)]
      have := ih (j - 3) (by simp at hj; omega)
      unfold fpVals at this
      simp only [List.length_cons, List.length_nil, Nat.zero_add, Nat.reduceAdd]
      rw [this]
      have e1 : (j - 3) % 3 = j % 3 := by omega
      have e2 : gF (a :: l) (j / 3) = gF l ((j - 3) / 3) := by
        rw [show j / 3 = (j - 3) / 3 + 1 by omega]; rfl
      unfold fpCell
      rw [e1, e2]
theorem mut_fp_own {Z : Nat → Prop} {w : World} {base e : Nat} {v : Value} {l : List FP} (h : w.ownsRow base e 3 v l.length (fpVals l)) (hz : ∀ b, base ≤ b → b < w.heap.size → Z b) : MutAt Z w v l.length 3 (fpCell l) :=
  (mut_of_own h hz).congr fun j hj => by rw [List.getD_eq_getElem?_getD, fpVals_at l j hj]; rfl
theorem rep_snoc {α : Type} (n : Nat) (x : α) : List.replicate n x ++ [x] = List.replicate (n + 1) x := (List.replicate_succ' ..).symm
end Go.Proofs.YtnfceboppdcfdaaDoor
