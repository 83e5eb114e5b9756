/- What chapter 6 (field) comes to: plain functions. -/
import Derived.Test.YtnfceboppdcfdaaDoorP5
namespace Go.Proofs.YtnfceboppdcfdaaDoor
open Go.RowKit

/-- Where a point lies, and where to, and for how long, it was driven. -/
structure FP where
  lies : Int
  to : Int
  steps : Int
def gF (l : List FP) (j : Nat) : FP := l.getD j ⟨0, 0, 0⟩
theorem gF_set (l : List FP) (r j : Nat) (x : FP) (h : r < l.length) : gF (l.set r x) j = if j = r then x else gF l j := by
  simp only [gF, List.getD_eq_getElem?_getD, List.getElem?_set]
  by_cases e : r = j
  · subst e; simp [h]
  · simp [e, Ne.symm e]
def upF (p : FP) (d : Int) : Int := if d == p.to then p.steps + 1 else 1
def drivenF (p : FP) (d : Int) : FP := if d == 0 || d == p.lies then ⟨p.lies, 0, 0⟩ else if decide (3 ≤ upF p d) then ⟨d, 0, 0⟩ else ⟨0, d, upF p d⟩
def stepF (l : List FP) (d : List Int) : List FP := tab (fun j => if j < d.length then drivenF (gF l j) (gi d j) else gF l j) l.length
def trainF (occ : List Bool) (n : Int) : Int × List Bool := if decide (n < 0) || decide ((occ.length : Int) ≤ n) then (5, occ) else (0, occ.set n.toNat (!gb occ n.toNat))
def stickF (l : List FP) (n : Int) : Int × List FP := if decide (n < 0) || decide ((l.length : Int) ≤ n) then (5, l) else (0, l.set n.toNat ⟨0, 0, 0⟩)
def liesOf (l : List FP) : List Int := l.map (·.lies)
theorem liesOf_len (l : List FP) : (liesOf l).length = l.length := by simp [liesOf]
theorem gi_liesOf (l : List FP) (j : Nat) (h : j < l.length) : gi (liesOf l) j = (gF l j).lies := by simp [gi, liesOf, gF, List.getD_eq_getElem?_getD, h]
theorem liesOf_snoc (l : List FP) (k : Nat) (h : k < l.length) : liesOf (l.take k) ++ [(gF l k).lies] = liesOf (l.take (k + 1)) := by
  rw [List.take_succ_eq_append_getElem h]
  simp only [liesOf, gF, List.getD_eq_getElem?_getD, List.getElem?_eq_getElem h, Option.getD_some, List.map_append, List.map_cons, List.map_nil]
/-- A field's points, as they may be. -/
def FOk (l : List FP) : Prop := ∀ j, j < l.length → 0 ≤ (gF l j).steps ∧ (gF l j).steps < 3
def newF (L : Layout) : List FP := List.replicate L.pts.length ⟨1, 0, 0⟩
theorem gF_new (L : Layout) (j : Nat) (h : j < L.pts.length) : gF (newF L) j = ⟨1, 0, 0⟩ := by simp [gF, newF, List.getD_eq_getElem?_getD, h]
theorem fok_new (L : Layout) : FOk (newF L) := fun j h => by
  have : j < L.pts.length := by simpa [newF] using h
  rw [gF_new L j this]; exact ⟨by decide, by decide⟩
theorem fok_driven {p : FP} {d : Int} (h : 0 ≤ p.steps ∧ p.steps < 3) : 0 ≤ (drivenF p d).steps ∧ (drivenF p d).steps < 3 := by
  unfold drivenF
  split
  · exact ⟨Int.le_refl 0, (by decide : (0 : Int) < 3)⟩
  split
  · exact ⟨Int.le_refl 0, (by decide : (0 : Int) < 3)⟩
  · rename_i h1
    simp only [decide_eq_true_eq] at h1
    refine ⟨?_, by simp only; omega⟩
    unfold upF; split
    · simp only; omega
    · exact (by decide : (0 : Int) ≤ 1)
theorem stepF_len (l : List FP) (d : List Int) : (stepF l d).length = l.length := tab_length _ _
theorem gF_step (l : List FP) (d : List Int) (j : Nat) (h : j < l.length) : gF (stepF l d) j = if j < d.length then drivenF (gF l j) (gi d j) else gF l j := tab_getD _ _ _ _ h
theorem fok_step {l : List FP} {d : List Int} (h : FOk l) : FOk (stepF l d) := fun j hj => by
  rw [stepF_len] at hj
  rw [gF_step _ _ _ hj]
  split
  · exact fok_driven (h j hj)
  · exact h j hj
theorem stickF_len (l : List FP) (n : Int) : (stickF l n).2.length = l.length := by unfold stickF; split <;> simp
theorem fok_stick {l : List FP} {n : Int} (h : FOk l) : FOk (stickF l n).2 := fun j hj => by
  rw [stickF_len] at hj
  unfold stickF
  split
  · exact h j hj
  · rename_i hn
    simp only [Bool.not_eq_true, Bool.or_eq_false_iff, decide_eq_false_iff_not] at hn
    simp only
    rw [gF_set _ _ _ _ (by omega)]
    split
    · exact ⟨by decide, by decide⟩
    · exact h j hj
theorem trainF_len (l : List Bool) (n : Int) : (trainF l n).2.length = l.length := by unfold trainF; split <;> simp
/-- Cells of such rows. -/
def fpCell (l : List FP) (j : Nat) : Value := if j % 3 = 0 then .int .i64 (gF l (j / 3)).lies else if j % 3 = 1 then .int .i64 (gF l (j / 3)).to else .int .i64 (gF l (j / 3)).steps
def boolCell (l : List Bool) (j : Nat) : Value := .bool (gb l j)
def intCell (l : List Int) (j : Nat) : Value := .int .i64 (gi l j)
def rsCell (l : List RS) (j : Nat) : Value :=
  if j % 4 = 0 then .int .i64 (gRS l (j / 4)).mode else if j % 4 = 1 then .int .i64 (gRS l (j / 4)).timer else if j % 4 = 2 then .int .i64 (gRS l (j / 4)).gone else .bool (gRS l (j / 4)).seen
end Go.Proofs.YtnfceboppdcfdaaDoor
