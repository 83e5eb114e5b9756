/- Plain laws of chapter 5, more: what is busy; danger; what errs changes nothing. -/
import Derived.Test.YtnfceboppdcfdaaDoorP5
namespace Go.Proofs.YtnfceboppdcfdaaDoor
open Go.RowKit

/-- Layouts that may be, in parts. -/
structure LOk (L : Layout) : Prop where
  secs : 1 ≤ L.secs.length ∧ L.secs.length ≤ 10
  sigs : 1 ≤ L.sigs.length ∧ L.sigs.length ≤ 6
  pts : L.pts.length ≤ 5
  rts : L.rts.length ≤ 6
  sec : ∀ p, p < L.pts.length → 0 ≤ (gP L.pts p).sec ∧ (gP L.pts p).sec < L.secs.length
  frm : ∀ r, r < L.rts.length → 0 ≤ (gR L.rts r).frm ∧ (gR L.rts r).frm < L.sigs.length
  path : ∀ r, r < L.rts.length → 1 ≤ (pathOf L r).length ∧ (pathOf L r).length ≤ 5
  sect : ∀ r, r < L.rts.length → ∀ j, j < (pathOf L r).length → 0 ≤ gi (pathOf L r) j ∧ gi (pathOf L r) j < L.secs.length
  need : ∀ r, r < L.rts.length → ∀ j, j < (needsOf L r).length → 0 ≤ (gN (needsOf L r) j).p ∧ (gN (needsOf L r) j).p < L.pts.length
theorem gN_append (a b : List Need) (j : Nat) : gN (a ++ b) j = if j < a.length then gN a j else gN b (j - a.length) := by
  simp only [gN, List.getD_eq_getElem?_getD, List.getElem?_append]; split <;> rfl
theorem lok {L : Layout} (h : layOk L = true) : LOk L := by
  unfold layOk at h
  simp only [Bool.and_eq_true, decide_eq_true_eq, Bool.not_eq_true', anyB_false] at h
  obtain ⟨⟨⟨⟨⟨⟨⟨⟨⟨h1, h2⟩, h3⟩, h4⟩, h5⟩, h6⟩, -⟩, -⟩, -⟩, -⟩ := h
  have hin : ∀ n lo hi : Int, isInB n lo hi = true → lo ≤ n ∧ n ≤ hi := fun n lo hi h => by simpa [isInB] using h
  have k1 := hin _ _ _ h1
  have k2 := hin _ _ _ h2
  have hrt : ∀ r, r < L.rts.length → routeOk L.secs.length L.pts.length L.pts L.sigs.length (gR L.rts r) = true := fun r hr => by
    have := h6 r hr; unfold rtBad at this; simpa using this
  have hneed : ∀ (l : List Need) (path : List Int) (wi : Bool), needsOk L.pts l path wi = true → ∀ j, j < l.length → 0 ≤ (gN l j).p ∧ (gN l j).p < L.pts.length := fun l path wi h j hj => by
    unfold needsOk at h
    simp only [Bool.not_eq_true', anyB_false] at h
    have := h j hj
    unfold needBad at this
    simp only [Bool.or_eq_false_iff, Bool.not_eq_false'] at this
    have := hin _ _ _ this.1.1
    omega
  refine ⟨by omega, by omega, h3, h4, fun p hp => ?_, fun r hr => ?_, fun r hr => ?_, fun r hr j hj => ?_, fun r hr j hj => ?_⟩
  · have := h5 p hp
    unfold secBad at this
    have := hin _ _ _ (by simpa using this)
    omega
  · have := hrt r hr
    unfold routeOk at this
    simp only [Bool.and_eq_true] at this
    have := hin _ _ _ this.1.1.1.1.1.1
    omega
  · have := hrt r hr
    unfold routeOk pathOk at this
    simp only [Bool.and_eq_true] at this
    have := hin _ _ _ this.1.1.1.2.2
    unfold pathOf
    omega
  · have := hrt r hr
    unfold routeOk pathOk at this
    simp only [Bool.and_eq_true, Bool.not_eq_true', anyB_false] at this
    have := this.1.1.1.2.1 j hj
    unfold pathBad at this
    simp only [Bool.or_eq_false_iff, Bool.not_eq_false'] at this
    have := hin _ _ _ this.1
    unfold pathOf
    omega
  · have := hrt r hr
    unfold routeOk at this
    simp only [Bool.and_eq_true] at this
    unfold needsOf at hj ⊢
    rw [gN_append]
    split
    · rename_i h; exact hneed _ _ _ this.1.1.2 _ h
    · rename_i h; exact hneed _ _ _ this.1.2 _ (by simp at hj; omega)
theorem idles_fine (L : Layout) : Fine L (List.replicate L.rts.length idle0) := by
  have hg : ∀ j, gRS (List.replicate L.rts.length idle0) j = idle0 := fun j => by
    simp only [gRS, List.getD_eq_getElem?_getD, List.getElem?_replicate]; split <;> rfl
  exact ⟨⟨by simp, fun r _ => by rw [hg]; rfl⟩, fun r s _ _ _ m1 _ => by rw [hg] at m1; exact absurd rfl m1⟩

/-- A field that is clear, all points lying nowhere. -/
def blank (L : Layout) : Fd := ⟨List.replicate L.secs.length false, List.replicate L.pts.length 0⟩
theorem may_blank (L : Layout) : mayIn L (blank L) = true := by
  unfold mayIn blank
  simp only [List.length_replicate, beq_self_eq_true, Bool.true_and, Bool.not_eq_true', anyB_false]
  intro j _
  unfold lieBad
  simp only [gi_replicate]; rfl
theorem holder_idle {L : Layout} {rs : List RS} {sec : Int} (h : ∀ r, r < rs.length → (gRS rs r).mode = 0) : holder L rs sec = -1 := by
  refine findB_none (anyB_false.2 fun r hr => ?_)
  rw [← Bool.not_eq_true]
  intro hh
  exact (held_in hh).1 (h r hr)
theorem free_blank {L : Layout} {rs : List RS} {r : Nat} (h : ∀ s, s < rs.length → (gRS rs s).mode = 0) : isFree L rs (blank L) r = true := by
  unfold isFree
  simp only [Bool.and_eq_true, Bool.not_eq_true', anyB_false]
  refine ⟨⟨fun s hs => ?_, fun j hj => ?_⟩, ?_⟩
  · unfold busyWith; simp [h s hs]
  · unfold busyAt
    rw [holder_idle h]
    simp [blank, gb_replicate]
  · unfold clearB occP
    simp only [Bool.not_eq_true', anyB_false]
    intro j _
    simp [blank, gb_replicate]
theorem gRS_idles (n j : Nat) : gRS (List.replicate n idle0) j = idle0 := by
  simp only [gRS, List.getD_eq_getElem?_getD, List.getElem?_replicate]; split <;> rfl
theorem cmd_call {L : Layout} {rs : List RS} {i : Fd} {r : Nat} (hm : mayIn L i = true) (hr : r < rs.length) : commandR L rs i 1 (r : Int) = callR L rs i r := by
  unfold commandR
  rw [if_neg (by simp [hm]), if_neg (by simp; omega), if_pos (by decide)]
  rfl
theorem cmd_cancel {L : Layout} {rs : List RS} {i : Fd} {r : Nat} (hm : mayIn L i = true) (hr : r < rs.length) : commandR L rs i 2 (r : Int) = cancelR rs r := by
  unfold commandR
  rw [if_neg (by simp [hm]), if_neg (by simp; omega), if_neg (by decide)]
  rfl
/-- LockBusy, in plain words: a call; another one; a cancel; the other one again. -/
theorem busy_law {L : Layout} {r s : Nat} (hr : r < L.rts.length) (hs : s < L.rts.length) (hne : r ≠ s) :
    let rs0 := List.replicate L.rts.length idle0
    let rs1 := rs0.set r ⟨1, 0, 0, false⟩
    commandR L rs0 (blank L) 1 r = (0, rs1) ∧
    (conflict L r s = true → commandR L rs1 (blank L) 1 s = (8, rs1) ∧ commandR L rs1 (blank L) 2 r = (0, rs0) ∧ (commandR L rs0 (blank L) 1 s).1 = 0) ∧
    ((commandR L rs1 (blank L) 1 s).1 = 0 ∨ (commandR L rs1 (blank L) 1 s).1 = 8) := by
  intro rs0 rs1
  have hl : rs0.length = L.rts.length := by simp [rs0]
  have hl1 : rs1.length = L.rts.length := by simp [rs1, hl]
  have g0 : ∀ j, gRS rs0 j = idle0 := gRS_idles _
  have c0 : ∀ k, k < L.rts.length → callR L rs0 (blank L) k = (0, rs0.set k ⟨1, 0, 0, false⟩) := fun k _ => by
    unfold callR
    rw [g0, if_neg (by decide), free_blank fun j _ => by rw [g0]; rfl]
    rfl
  have g1 : ∀ j, gRS rs1 j = if j = r then ⟨1, 0, 0, false⟩ else idle0 := fun j => by
    simp only [rs1]; rw [gRS_set _ _ _ _ (by omega), g0]
  have e1 : commandR L rs1 (blank L) 1 s = callR L rs1 (blank L) s := cmd_call (may_blank L) (by omega)
  refine ⟨by rw [cmd_call (may_blank L) (by omega), c0 r hr], fun hc => ⟨?_, ?_, ?_⟩, ?_⟩
  · rw [e1]
    unfold callR
    rw [g1, if_neg (Ne.symm hne), if_neg (by decide), if_pos]
    simp only [Bool.not_eq_true']
    unfold isFree
    rw [anyB_true (p := busyWith L rs1 s) (k := r) (by omega)]
    · rfl
    · unfold busyWith
      rw [g1, if_pos rfl, conflict_comm, hc]; rfl
  · rw [cmd_cancel (may_blank L) (by omega)]
    unfold cancelR
    rw [g1, if_pos rfl, if_pos (by decide)]
    simp only [rs1, List.set_set]
    congr 1
    apply List.ext_getElem
    · simp
    · intro j h1 h2
      simp only [rs0, List.getElem_set, List.getElem_replicate]
      split <;> rfl
  · rw [cmd_call (may_blank L) (by omega), c0 s hs]
  · rw [e1]
    unfold callR
    rw [g1, if_neg (Ne.symm hne), if_neg (by decide)]
    split
    · exact .inr rfl
    · exact .inl rfl
/-- What errs changes nothing. -/
theorem cmd_errs {L : Layout} {rs : List RS} {i : Fd} {kind route : Int} (h : (commandR L rs i kind route).1 ≠ 0) : (commandR L rs i kind route).2 = rs := by
  unfold commandR at h ⊢
  split
  · rfl
  rename_i h1
  rw [if_neg h1] at h
  split
  · rfl
  rename_i h2
  rw [if_neg h2] at h
  split
  · rename_i h3
    rw [if_pos h3] at h
    unfold callR at h ⊢
    split
    · rfl
    rename_i h4
    rw [if_neg h4] at h
    split
    · rfl
    rename_i h5
    rw [if_neg h5] at h
    exact absurd rfl h
  · rename_i h3
    rw [if_neg h3] at h
    unfold cancelR at h ⊢
    split
    · rename_i h4
      rw [if_pos h4] at h
      exact absurd rfl h
    rename_i h4
    rw [if_neg h4] at h
    split
    · rename_i h5
      rw [if_pos h5] at h
      exact absurd rfl h
    · rfl

/-- The layout of two routes. -/
def lineL : Layout := ⟨[⟨#[97]⟩, ⟨#[98]⟩, ⟨#[99]⟩], [⟨⟨#[112]⟩, 1⟩], [⟨#[115]⟩, ⟨#[116]⟩, ⟨#[117]⟩], [⟨⟨#[114]⟩, 0, 1, [0, 1], [⟨0, false⟩], []⟩, ⟨⟨#[113]⟩, 1, 2, [2], [], []⟩]⟩
theorem line_ok : layOk lineL = true := by decide +kernel
def lineS : List RS := [⟨2, 0, 0, false⟩, idle0]
theorem line_call : commandR lineL [idle0, idle0] ⟨[false, false, false], [1]⟩ 1 0 = (0, [⟨1, 0, 0, false⟩, idle0]) := by decide +kernel
theorem line_first : cycleR lineL [⟨1, 0, 0, false⟩, idle0] ⟨[false, false, false], [1]⟩ = (⟨[0], [true, false, false]⟩, lineS) := by decide +kernel
theorem line_next (a : Bool) (z : Int) (hz : z = 0 ∨ z = 1 ∨ z = 2) : cycleR lineL lineS ⟨[false, a, false], [z]⟩ = (⟨[0], [(z == 1) && !a, false, false]⟩, lineS) := by
  rcases hz with rfl | rfl | rfl <;> cases a <;> decide +kernel
end Go.Proofs.YtnfceboppdcfdaaDoor
