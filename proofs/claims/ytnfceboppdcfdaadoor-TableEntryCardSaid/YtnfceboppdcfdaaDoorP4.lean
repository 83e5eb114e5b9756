/- Plain laws of chapter 4: where routes begin. -/
import Derived.Test.YtnfceboppdcfdaaDoorK4e
namespace Go.Proofs.YtnfceboppdcfdaaDoor
open Go.RowKit

theorem gi_left {a b : List Int} {i : Nat} (h : i < a.length) : gi (a ++ b) i = gi a i := by
  simp [gi, List.getD_eq_getElem?_getD, List.getElem?_append_left h]
theorem gi_last {a : List Int} {x : Int} : gi (a ++ [x]) a.length = x := by
  simp [gi, List.getD_eq_getElem?_getD]
theorem picks_at (p : Nat → Bool) (n : Nat) : ∀ i, i < (picks p n).length → ∃ r : Nat, gi (picks p n) i = (r : Int) ∧ r < n ∧ p r = true := by
  induction n with
  | zero => intro i h; simp [picks] at h
  | succ n ih =>
    intro i h
    cases hp : p n
    · have e : picks p (n + 1) = picks p n := by simp [picks, hp]
      rw [e] at h ⊢
      obtain ⟨r, h1, h2, h3⟩ := ih i h
      exact ⟨r, h1, by omega, h3⟩
    · have e : picks p (n + 1) = picks p n ++ [(n : Int)] := by simp [picks, hp]
      rw [e] at h ⊢
      rcases Nat.lt_or_ge i (picks p n).length with h1 | h1
      · rw [gi_left h1]
        obtain ⟨r, h1, h2, h3⟩ := ih i h1
        exact ⟨r, h1, by omega, h3⟩
      · obtain rfl : i = (picks p n).length := by simp at h; omega
        rw [gi_last]
        exact ⟨n, rfl, by omega, hp⟩
theorem picks_up (p : Nat → Bool) (n : Nat) : ∀ i, i + 1 < (picks p n).length → gi (picks p n) i < gi (picks p n) (i + 1) := by
  induction n with
  | zero => intro i h; simp [picks] at h
  | succ n ih =>
    intro i h
    cases hp : p n
    · have e : picks p (n + 1) = picks p n := by simp [picks, hp]
      rw [e] at h ⊢
      exact ih i h
    · have e : picks p (n + 1) = picks p n ++ [(n : Int)] := by simp [picks, hp]
      rw [e] at h ⊢
      rcases Nat.lt_or_ge (i + 1) (picks p n).length with h1 | h1
      · rw [gi_left h1, gi_left (by omega)]
        exact ih i h1
      · have e : i + 1 = (picks p n).length := by simp at h; omega
        rw [e, gi_last, gi_left (by omega)]
        obtain ⟨r, h2, h3, h4⟩ := picks_at p n i (by omega)
        rw [h2]; omega
/-- How many routes begin at the first so many signals. -/
def begun (L : Layout) : Nat → Nat | 0 => 0 | s + 1 => begun L s + (entryL L s).length
theorem picks_length (p : Nat → Bool) (n : Nat) : (picks p n).length = cntB p n := by
  induction n with
  | zero => rfl
  | succ n ih => simp only [picks, cntB, List.length_append, ih]; split <;> rfl
def before (L : Layout) (s n : Nat) : Nat := cntB (fun i => decide (0 ≤ (gR L.rts i).frm) && decide ((gR L.rts i).frm < (s : Int))) n
theorem begun_is (L : Layout) (s : Nat) : begun L s = before L s L.rts.length := by
  have key : ∀ s n : Nat, cntB (entryP L (s : Int)) n + before L s n = before L (s + 1) n := by
    intro s n
    induction n with
    | zero => rfl
    | succ n ih =>
      have ih' := ih
      unfold before at ih' ⊢
      simp only [cntB]
      have : (if entryP L (s : Int) n = true then 1 else 0) + (if (decide (0 ≤ (gR L.rts n).frm) && decide ((gR L.rts n).frm < (s : Int))) = true then 1 else 0) = (if (decide (0 ≤ (gR L.rts n).frm) && decide ((gR L.rts n).frm < ((s + 1 : Nat) : Int))) = true then 1 else 0 : Nat) := by
        unfold entryP
        simp only [Bool.and_eq_true, decide_eq_true_eq, beq_iff_eq]
        repeat' split
        all_goals omega
      omega
  induction s with
  | zero =>
    unfold begun before
    have : ∀ n, cntB (fun i => decide (0 ≤ (gR L.rts i).frm) && decide ((gR L.rts i).frm < ((0 : Nat) : Int))) n = 0 := by
      intro n
      induction n with
      | zero => rfl
      | succ n ih =>
        simp only [cntB, ih]
        rw [if_neg (by simp only [Bool.and_eq_true, decide_eq_true_eq]; omega)]
    exact (this _).symm
  | succ s ih =>
    have := key s L.rts.length
    unfold begun
    rw [ih]
    unfold entryL
    rw [picks_length]
    omega
theorem cntB_all {p : Nat → Bool} {n : Nat} (h : ∀ i, i < n → p i = true) : cntB p n = n := by
  induction n with
  | zero => rfl
  | succ n ih => simp only [cntB]; rw [ih fun i hi => h i (by omega), if_pos (h n (by omega))]
theorem layOk_parts {L : Layout} (h : layOk L = true) : (1 ≤ L.secs.length ∧ L.secs.length ≤ 10) ∧ (1 ≤ L.sigs.length ∧ L.sigs.length ≤ 6) ∧ L.pts.length ≤ 5 ∧ L.rts.length ≤ 6 ∧
    (∀ i, i < L.pts.length → 0 ≤ (gP L.pts i).sec ∧ (gP L.pts i).sec < L.secs.length) ∧ (∀ i, i < L.rts.length → routeOk L.secs.length L.pts.length L.pts L.sigs.length (gR L.rts i) = true) := by
  simp only [layOk, Bool.and_eq_true, decide_eq_true_eq, isInB, Bool.not_eq_true'] at h
  obtain ⟨⟨⟨⟨⟨⟨⟨⟨⟨h1, h2⟩, h3⟩, h4⟩, h5⟩, h6⟩, _⟩, _⟩, _⟩, _⟩ := h
  refine ⟨by omega, by omega, h3, h4, fun i hi => ?_, fun i hi => ?_⟩
  · have := (anyB_false.1 h5) i hi
    simp only [secBad, isInB, Bool.not_eq_false', Bool.and_eq_true, decide_eq_true_eq] at this
    omega
  · have := (anyB_false.1 h6) i hi
    simpa [rtBad] using this
theorem begun_all {L : Layout} (h : layOk L = true) : begun L L.sigs.length = L.rts.length := by
  rw [begun_is]
  refine cntB_all fun i hi => ?_
  have := (layOk_parts h).2.2.2.2.2 i hi
  simp only [routeOk, Bool.and_eq_true, decide_eq_true_eq, isInB] at this
  simp only [Bool.and_eq_true, decide_eq_true_eq]
  omega
theorem begun_le (L : Layout) (s : Nat) : begun L s ≤ L.rts.length := by
  rw [begun_is]; exact cntB_le _ _
end Go.Proofs.YtnfceboppdcfdaaDoor
