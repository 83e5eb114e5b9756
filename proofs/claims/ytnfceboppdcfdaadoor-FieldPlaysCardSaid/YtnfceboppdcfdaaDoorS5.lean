/- What chapter 5 (lock) comes to: plain functions. -/
import Derived.Test.YtnfceboppdcfdaaDoorS4
namespace Go.Proofs.YtnfceboppdcfdaaDoor
open Go.RowKit

/-- How a route stands. -/
structure RS where
  mode : Int
  timer : Int
  gone : Int
  seen : Bool
  deriving DecidableEq
/-- What the field tells. -/
structure Fd where
  occ : List Bool
  lies : List Int
  deriving DecidableEq
def idle0 : RS := ⟨0, 0, 0, false⟩
def gRS (l : List RS) (j : Nat) : RS := l.getD j idle0
theorem gRS_set (l : List RS) (r j : Nat) (x : RS) (h : r < l.length) : gRS (l.set r x) j = if j = r then x else gRS l j := by
  simp only [gRS, List.getD_eq_getElem?_getD, List.getElem?_set]
  by_cases e : r = j
  · subst e; simp [h]
  · simp [e, Ne.symm e]

def lieBad (i : Fd) (j : Nat) : Bool := decide (gi i.lies j < 0) || decide (2 < gi i.lies j)
def mayIn (L : Layout) (i : Fd) : Bool := (i.occ.length == L.secs.length) && (i.lies.length == L.pts.length) && !anyB (lieBad i) i.lies.length
def sideOf (x : Need) : Int := if x.r then 2 else 1
def liesB (i : Fd) (x : Need) : Bool := gi i.lies x.p.toNat == sideOf x
def rightB (L : Layout) (i : Fd) (r : Nat) : Bool := !anyB (fun j => !liesB i (gN (needsOf L r) j)) (needsOf L r).length
def occP (i : Fd) (path : List Int) : Bool := anyB (fun j => gb i.occ (gi path j).toNat) path.length
def pathOf (L : Layout) (r : Nat) : List Int := (gR L.rts r).path
def clearB (L : Layout) (i : Fd) (r : Nat) : Bool := !occP i (pathOf L r)
/-- The sections that a route that stands so holds. -/
def heldP (path : List Int) (x : RS) : List Int :=
  if x.mode == 1 || x.mode == 2 || x.mode == 4 then path else if x.mode == 3 then path.drop x.gone.toNat else []
def holdsB (L : Layout) (rs : List RS) (sec : Int) (r : Nat) : Bool := inI (heldP (pathOf L r) (gRS rs r)) sec
/-- The first number below n of which p holds; n: of none. -/
def firstB (p : Nat → Bool) : Nat → Nat → Nat | 0, k => k | d + 1, k => if p k then k else firstB p d (k + 1)
def findB (p : Nat → Bool) (n : Nat) : Int := if firstB p n 0 < n then (firstB p n 0 : Int) else -1
def holder (L : Layout) (rs : List RS) (sec : Int) : Int := findB (holdsB L rs sec) rs.length
def secOf (L : Layout) (x : Need) : Int := (gP L.pts x.p.toNat).sec
def busyWith (L : Layout) (rs : List RS) (r s : Nat) : Bool := !((gRS rs s).mode == 0) && conflict L r s
def busyAt (L : Layout) (rs : List RS) (i : Fd) (x : Need) : Bool := !liesB i x && (gb i.occ (secOf L x).toNat || decide (0 ≤ holder L rs (secOf L x)))
def isFree (L : Layout) (rs : List RS) (i : Fd) (r : Nat) : Bool :=
  !anyB (busyWith L rs r) rs.length && !anyB (fun j => busyAt L rs i (gN (needsOf L r) j)) (needsOf L r).length && clearB L i r
def callR (L : Layout) (rs : List RS) (i : Fd) (r : Nat) : Int × List RS :=
  if !((gRS rs r).mode == 0) then (7, rs) else if !isFree L rs i r then (8, rs) else (0, rs.set r ⟨1, 0, 0, false⟩)
def cancelR (rs : List RS) (r : Nat) : Int × List RS :=
  if (gRS rs r).mode == 1 then (0, rs.set r idle0) else if (gRS rs r).mode == 2 then (0, rs.set r ⟨4, 0, 0, false⟩) else (7, rs)
def commandR (L : Layout) (rs : List RS) (i : Fd) (kind route : Int) : Int × List RS :=
  if !mayIn L i || (!(kind == 1) && !(kind == 2)) then (1, rs)
  else if decide (route < 0) || decide ((rs.length : Int) ≤ route) then (5, rs)
  else if kind == 1 then callR L rs i route.toNat else cancelR rs route.toNat
/-- A route's step. -/
def usedR (path : List Int) (i : Fd) (x : RS) : RS :=
  if gb i.occ (gi path x.gone.toNat).toNat then { x with seen := true }
  else if x.seen then (if (path.length : Int) ≤ x.gone + 1 then idle0 else { x with gone := x.gone + 1, seen := false }) else x
def laterR (x : RS) (most : Int) : RS := if most < x.timer + 1 then idle0 else { x with timer := x.timer + 1 }
def stepR (L : Layout) (i : Fd) (r : Nat) (x : RS) : RS :=
  if x.mode == 1 then (if rightB L i r then ⟨2, 0, 0, false⟩ else laterR x 8)
  else if x.mode == 2 || x.mode == 4 then
    (if gb i.occ (gi (pathOf L r) 0).toNat then ⟨3, 0, 0, true⟩ else if x.mode == 4 then laterR x 5 else x)
  else if x.mode == 3 then usedR (pathOf L r) i x else x
/-- Numbers below n, mapped. -/
def tab {α : Type} (f : Nat → α) : Nat → List α | 0 => [] | n + 1 => tab f n ++ [f n]
theorem tab_length {α : Type} (f : Nat → α) (n : Nat) : (tab f n).length = n := by
  induction n with
  | zero => rfl
  | succ n ih => simp [tab, ih]
theorem tab_getD {α : Type} (f : Nat → α) (d : α) (n j : Nat) (h : j < n) : (tab f n).getD j d = f j := by
  induction n with
  | zero => omega
  | succ n ih =>
    simp only [tab, List.getD_eq_getElem?_getD, List.getElem?_append, tab_length]
    by_cases e : j < n
    · rw [if_pos e]; have := ih e; rwa [List.getD_eq_getElem?_getD] at this
    · have : j = n := by omega
      subst this; simp
def stepsR (L : Layout) (i : Fd) (rs : List RS) : List RS := tab (fun r => stepR L i r (gRS rs r)) rs.length
def drv1 (L : Layout) (rs : List RS) (i : Fd) (r : Nat) (l : List Int) (x : Need) : List Int :=
  if !liesB i x && (!gb i.occ (secOf L x).toNat && (decide (holder L rs (secOf L x) < 0) || (holder L rs (secOf L x) == (r : Int)))) then l.set x.p.toNat (sideOf x) else l
def drvK (L : Layout) (rs : List RS) (i : Fd) (r : Nat) (l : List Int) : Nat → List Int | 0 => l | n + 1 => drv1 L rs i r (drvK L rs i r l n) (gN (needsOf L r) n)
def drvR (L : Layout) (rs : List RS) (i : Fd) (l : List Int) : Nat → List Int
  | 0 => l
  | n + 1 => if (gRS rs n).mode == 1 then drvK L rs i n (drvR L rs i l n) (needsOf L n).length else drvR L rs i l n
def goB (L : Layout) (rs : List RS) (i : Fd) (r : Nat) : Bool := (gRS rs r).mode == 2 && clearB L i r && rightB L i r
def proR (L : Layout) (rs : List RS) (i : Fd) (l : List Bool) : Nat → List Bool
  | 0 => l
  | n + 1 => if goB L rs i n then (proR L rs i l n).set (gR L.rts n).frm.toNat true else proR L rs i l n
/-- What the field is told. -/
structure Ot where
  drv : List Int
  pro : List Bool
  deriving DecidableEq
def safeO (L : Layout) : Ot := ⟨List.replicate L.pts.length 0, List.replicate L.sigs.length false⟩
def outR (L : Layout) (rs : List RS) (i : Fd) : Ot := ⟨drvR L rs i (safeO L).drv rs.length, proR L rs i (safeO L).pro rs.length⟩
def cycleR (L : Layout) (rs : List RS) (i : Fd) : Ot × List RS := if mayIn L i then (outR L (stepsR L i rs) i, stepsR L i rs) else (safeO L, rs)
/-- May a route stand so? -/
def oneOk (path : List Int) (x : RS) : Bool :=
  if x.mode == 1 then decide (0 ≤ x.timer) && decide (x.timer ≤ 8) && (x.gone == 0) && !x.seen
  else if x.mode == 4 then decide (0 ≤ x.timer) && decide (x.timer < 6) && (x.gone == 0) && !x.seen
  else if x.mode == 3 then (x.timer == 0) && decide (0 ≤ x.gone) && decide (x.gone < path.length)
  else if x.mode == 0 || x.mode == 2 then (x.timer == 0) && (x.gone == 0) && !x.seen else false
def pairBad (L : Layout) (rs : List RS) (r s : Nat) : Bool := !((gRS rs r).mode == 0) && (!((gRS rs s).mode == 0) && conflict L r s)
def rowBad (L : Layout) (rs : List RS) (r : Nat) : Bool := !oneOk (pathOf L r) (gRS rs r) || anyB (pairBad L rs r) r
def mayR (L : Layout) (rs : List RS) : Bool := (rs.length == L.rts.length) && !anyB (rowBad L rs) rs.length

/-- A Lock that stands as it may. -/
structure Stands (L : Layout) (rs : List RS) : Prop where
  len : rs.length = L.rts.length
  one : ∀ r, r < rs.length → oneOk (pathOf L r) (gRS rs r) = true
theorem firstB_spec (p : Nat → Bool) : ∀ (d k : Nat), (firstB p d k = k + d ∧ ∀ j, k ≤ j → j < k + d → p j = false) ∨ (k ≤ firstB p d k ∧ firstB p d k < k + d ∧ p (firstB p d k) = true ∧ ∀ j, k ≤ j → j < firstB p d k → p j = false)
  | 0, k => .inl ⟨rfl, fun j h h' => by omega⟩
  | d + 1, k => by
    unfold firstB
    split
    · rename_i h; exact .inr ⟨Nat.le_refl _, by omega, h, fun j h h' => by omega⟩
    · rename_i h
      have hk : p k = false := by simpa using h
      rcases firstB_spec p d (k + 1) with ⟨h1, h2⟩ | ⟨h1, h2, h3, h4⟩
      · refine .inl ⟨by omega, fun j hj hj' => ?_⟩
        rcases Nat.lt_or_ge k j with h | h
        · exact h2 j h (by omega)
        · obtain rfl : j = k := by omega
          exact hk
      · refine .inr ⟨by omega, by omega, h3, fun j hj hj' => ?_⟩
        rcases Nat.lt_or_ge k j with h | h
        · exact h4 j h hj'
        · obtain rfl : j = k := by omega
          exact hk
theorem findB_at {p : Nat → Bool} {n k : Nat} (h0 : anyB p k = false) (h1 : p k = true) (hk : k < n) : findB p n = k := by
  have h0' := anyB_false.1 h0
  unfold findB
  rcases firstB_spec p n 0 with ⟨h2, h3⟩ | ⟨h2, h3, h4, h5⟩
  · rw [h3 k (by omega) (by omega)] at h1; cases h1
  · rw [if_pos (by omega)]
    have : firstB p n 0 = k := by
      rcases Nat.lt_trichotomy (firstB p n 0) k with h | h | h
      · rw [h0' _ h] at h4; cases h4
      · exact h
      · rw [h5 k (by omega) h] at h1; cases h1
    rw [this]
theorem findB_none {p : Nat → Bool} {n : Nat} (h0 : anyB p n = false) : findB p n = -1 := by
  have h0' := anyB_false.1 h0
  unfold findB
  rcases firstB_spec p n 0 with ⟨h2, h3⟩ | ⟨h2, h3, h4, h5⟩
  · rw [if_neg (by omega)]
  · rw [h0' _ (by omega)] at h4; cases h4
theorem findB_cases (p : Nat → Bool) (n : Nat) : (findB p n = -1 ∧ anyB p n = false) ∨ (∃ k, k < n ∧ findB p n = (k : Int) ∧ p k = true ∧ anyB p k = false) := by
  rcases firstB_spec p n 0 with ⟨h2, h3⟩ | ⟨h2, h3, h4, h5⟩
  · exact .inl ⟨by unfold findB; rw [if_neg (by omega)], anyB_false.2 fun k hk => h3 k (by omega) (by omega)⟩
  · exact .inr ⟨_, by omega, by unfold findB; rw [if_pos (by omega)], h4, anyB_false.2 fun k hk => h5 k (by omega) hk⟩
end Go.Proofs.YtnfceboppdcfdaaDoor
