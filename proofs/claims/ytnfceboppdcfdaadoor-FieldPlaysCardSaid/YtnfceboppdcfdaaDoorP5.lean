/- Plain laws of chapter 5: routes that exclude one another are never both not idle; what the field is told. -/
import Derived.Test.YtnfceboppdcfdaaDoorS5
namespace Go.Proofs.YtnfceboppdcfdaaDoor
open Go.RowKit

theorem inI_iff {l : List Int} {n : Int} : inI l n = true ↔ ∃ k, k < l.length ∧ gi l k = n := by
  unfold inI; rw [anyB_iff]; simp
theorem inN_iff {l : List Need} {p : Int} {r : Bool} : inN l p r = true ↔ ∃ k, k < l.length ∧ (gN l k).p = p ∧ (gN l k).r = r := by
  unfold inN; rw [anyB_iff]; simp
theorem shares_iff {L : Layout} {r s : Nat} : sharesB L r s = true ↔ ∃ j k, j < (gR L.rts r).path.length ∧ k < (gR L.rts s).path.length ∧ gi (gR L.rts s).path k = gi (gR L.rts r).path j := by
  unfold sharesB; rw [anyB_iff]
  constructor
  · rintro ⟨j, hj, h⟩; obtain ⟨k, hk, e⟩ := inI_iff.1 h; exact ⟨j, k, hj, hk, e⟩
  · rintro ⟨j, k, hj, hk, e⟩; exact ⟨j, hj, inI_iff.2 ⟨k, hk, e⟩⟩
theorem unlike_iff {L : Layout} {r s : Nat} : unlikeB L r s = true ↔ ∃ j k, j < (needsOf L r).length ∧ k < (needsOf L s).length ∧ (gN (needsOf L s) k).p = (gN (needsOf L r) j).p ∧ (gN (needsOf L s) k).r = !(gN (needsOf L r) j).r := by
  unfold unlikeB; rw [anyB_iff]
  constructor
  · rintro ⟨j, hj, h⟩; obtain ⟨k, hk, e, f⟩ := inN_iff.1 h; exact ⟨j, k, hj, hk, e, f⟩
  · rintro ⟨j, k, hj, hk, e, f⟩; exact ⟨j, hj, inN_iff.2 ⟨k, hk, e, f⟩⟩
theorem conflict_comm (L : Layout) (r s : Nat) : conflict L r s = conflict L s r := by
  have h1 : sharesB L r s = sharesB L s r := by
    rw [Bool.eq_iff_iff, shares_iff, shares_iff]
    constructor <;> (rintro ⟨j, k, hj, hk, e⟩; exact ⟨k, j, hk, hj, e.symm⟩)
  have h2 : unlikeB L r s = unlikeB L s r := by
    rw [Bool.eq_iff_iff, unlike_iff, unlike_iff]
    constructor <;> (rintro ⟨j, k, hj, hk, e, f⟩; exact ⟨k, j, hk, hj, e.symm, by rw [f, Bool.not_not]⟩)
  unfold conflict
  rw [h1, h2, Bool.beq_comm (a := r), Bool.beq_comm (a := (gR L.rts r).frm)]
theorem conflict_shares {L : Layout} {r s : Nat} (h : sharesB L r s = true) : conflict L r s = true := by unfold conflict; rw [h]; simp

/-- No two that exclude one another are both not idle. -/
def Apart (L : Layout) (rs : List RS) : Prop := ∀ r s, r < rs.length → s < rs.length → r ≠ s → (gRS rs r).mode ≠ 0 → (gRS rs s).mode ≠ 0 → conflict L r s = false
theorem may_iff {L : Layout} {rs : List RS} : mayR L rs = true ↔ Stands L rs ∧ Apart L rs := by
  unfold mayR
  simp only [Bool.and_eq_true, beq_iff_eq, Bool.not_eq_true', anyB_false, rowBad, Bool.or_eq_false_iff]
  constructor
  · rintro ⟨h1, h2⟩
    refine ⟨⟨h1, fun r hr => by simpa using (h2 r hr).1⟩, fun r s hr hs hne m1 m2 => ?_⟩
    rcases Nat.lt_trichotomy r s with h | h | h
    · have := (h2 s hs).2 r h
      simp only [pairBad] at this
      rw [conflict_comm]
      simpa [m1, m2] using this
    · exact absurd h hne
    · have := (h2 r hr).2 s h
      simp only [pairBad] at this
      simpa [m1, m2] using this
  · rintro ⟨h1, h2⟩
    refine ⟨h1.len, fun r hr => ⟨by simp [h1.one r hr], fun s hs => ?_⟩⟩
    unfold pairBad
    by_cases m1 : (gRS rs r).mode = 0
    · simp [m1]
    by_cases m2 : (gRS rs s).mode = 0
    · simp [m2]
    rw [h2 r s hr (by omega) (by omega) m1 m2]; simp

theorem one_idle (path : List Int) : oneOk path idle0 = true := rfl
theorem stands_set {L : Layout} {rs : List RS} {r : Nat} {x : RS} (h : Stands L rs) (hx : oneOk (pathOf L r) x = true) : Stands L (rs.set r x) := by
  refine ⟨by rw [List.length_set]; exact h.len, fun j hj => ?_⟩
  rw [List.length_set] at hj
  by_cases hr : r < rs.length
  · rw [gRS_set _ _ _ _ hr]
    split
    · rename_i e; rw [e]; exact hx
    · exact h.one j hj
  · rw [List.set_eq_of_length_le (by omega)]; exact h.one j hj
theorem apart_set {L : Layout} {rs : List RS} {r : Nat} {x : RS} (h : Apart L rs) (hr : r < rs.length) (hx : (gRS rs r).mode = 0 → x.mode ≠ 0 → ∀ s, s < rs.length → (gRS rs s).mode ≠ 0 → conflict L r s = false) : Apart L (rs.set r x) := by
  intro a b ha hb hne
  rw [List.length_set] at ha hb
  rw [gRS_set _ _ _ _ hr, gRS_set _ _ _ _ hr]
  by_cases ea : a = r
  · subst ea
    rw [if_pos rfl, if_neg (Ne.symm hne)]
    intro m1 m2
    by_cases m0 : (gRS rs a).mode = 0
    · exact hx m0 m1 b hb m2
    · exact h a b ha hb hne m0 m2
  · rw [if_neg ea]
    by_cases eb : b = r
    · subst eb
      rw [if_pos rfl]
      intro m1 m2
      rw [conflict_comm]
      by_cases m0 : (gRS rs b).mode = 0
      · exact hx m0 m2 a ha m1
      · exact h b a hb ha (Ne.symm hne) m0 m1
    · rw [if_neg eb]; exact h a b ha hb hne
/-- Stands as it may, and all apart. -/
structure Fine (L : Layout) (rs : List RS) : Prop where
  st : Stands L rs
  ap : Apart L rs
theorem Fine.may {L : Layout} {rs : List RS} (h : Fine L rs) : mayR L rs = true := may_iff.2 ⟨h.st, h.ap⟩
theorem fine_of_may {L : Layout} {rs : List RS} (h : mayR L rs = true) : Fine L rs := ⟨(may_iff.1 h).1, (may_iff.1 h).2⟩
theorem free_conflict {L : Layout} {rs : List RS} {i : Fd} {r : Nat} (h : isFree L rs i r = true) : ∀ s, s < rs.length → (gRS rs s).mode ≠ 0 → conflict L r s = false := by
  unfold isFree at h
  simp only [Bool.and_eq_true, Bool.not_eq_true', anyB_false] at h
  intro s hs hm
  have := h.1.1 s hs
  unfold busyWith at this
  simpa [hm] using this
theorem one_mode {path : List Int} {x : RS} (h : oneOk path x = true) : x.mode = 0 ∨ x.mode = 1 ∨ x.mode = 2 ∨ x.mode = 3 ∨ x.mode = 4 := by
  unfold oneOk at h
  by_cases h1 : x.mode = 1
  · exact .inr (.inl h1)
  by_cases h4 : x.mode = 4
  · exact .inr (.inr (.inr (.inr h4)))
  by_cases h3 : x.mode = 3
  · exact .inr (.inr (.inr (.inl h3)))
  simp [h1, h4, h3] at h
  rcases h.1 with h | h
  · exact .inl h
  · exact .inr (.inr (.inl h))
theorem cmd_fine {L : Layout} {rs : List RS} {i : Fd} {kind route : Int} (h : Fine L rs) : Fine L (commandR L rs i kind route).2 := by
  unfold commandR
  split
  · exact h
  split
  · exact h
  rename_i _ hr
  have hr' : route.toNat < rs.length := by
    simp only [Bool.not_eq_true, Bool.or_eq_false_iff, decide_eq_false_iff_not] at hr
    omega
  split
  · unfold callR
    split
    · exact h
    split
    · exact h
    rename_i _ hf
    have hf : isFree L rs i route.toNat = true := by simpa using hf
    exact ⟨stands_set h.st rfl, apart_set h.ap hr' fun _ _ => free_conflict hf⟩
  · unfold cancelR
    split
    · exact ⟨stands_set h.st rfl, apart_set h.ap hr' fun _ hx => absurd rfl hx⟩
    split
    · rename_i _ hm
      have hm : (gRS rs route.toNat).mode = 2 := by simpa using hm
      exact ⟨stands_set h.st rfl, apart_set h.ap hr' fun h0 => by rw [hm] at h0; cases h0⟩
    · exact h
theorem later_one {path : List Int} {x : RS} {most : Int} (hm : (x.mode = 1 ∧ most = 8) ∨ (x.mode = 4 ∧ most = 5)) (h : oneOk path x = true) : oneOk path (laterR x most) = true := by
  unfold laterR
  split
  · rfl
  rename_i hl
  unfold oneOk at h ⊢
  rcases hm with ⟨hm, rfl⟩ | ⟨hm, rfl⟩
  · simp [hm] at h ⊢
    exact ⟨⟨⟨by omega, by omega⟩, h.1.2⟩, h.2⟩
  · simp [hm] at h ⊢
    exact ⟨⟨⟨by omega, by omega⟩, h.1.2⟩, h.2⟩
theorem used_one {path : List Int} {i : Fd} {x : RS} (hm : x.mode = 3) (h : oneOk path x = true) : oneOk path (usedR path i x) = true := by
  unfold usedR
  unfold oneOk at h
  simp [hm] at h
  split
  · unfold oneOk; simp [hm]; omega
  split
  · split
    · rfl
    · unfold oneOk; simp [hm]; omega
  · unfold oneOk; simp [hm]; omega
theorem step_one {L : Layout} {i : Fd} {r : Nat} {x : RS} (hp : 1 ≤ (pathOf L r).length) (h : oneOk (pathOf L r) x = true) : oneOk (pathOf L r) (stepR L i r x) = true := by
  unfold stepR
  split
  · rename_i hm
    split
    · rfl
    · exact later_one (.inl ⟨by simpa using hm, rfl⟩) h
  split
  · rename_i hm
    split
    · simp [oneOk]; omega
    split
    · rename_i hm4
      exact later_one (.inr ⟨by simpa using hm4, rfl⟩) h
    · exact h
  split
  · rename_i hm
    exact used_one (by simpa using hm) h
  · exact h
theorem step_idle {L : Layout} {i : Fd} {r : Nat} {x : RS} (h : x.mode = 0) : stepR L i r x = x := by
  unfold stepR; simp [h]
theorem gRS_steps {L : Layout} {i : Fd} {rs : List RS} {r : Nat} (h : r < rs.length) : gRS (stepsR L i rs) r = stepR L i r (gRS rs r) := tab_getD _ _ _ _ h
theorem steps_length (L : Layout) (i : Fd) (rs : List RS) : (stepsR L i rs).length = rs.length := tab_length _ _
theorem steps_fine {L : Layout} {rs : List RS} {i : Fd} (hp : ∀ r, r < L.rts.length → 1 ≤ (pathOf L r).length) (h : Fine L rs) : Fine L (stepsR L i rs) := by
  refine ⟨⟨by rw [steps_length]; exact h.st.len, fun r hr => ?_⟩, fun r s hr hs hne m1 m2 => ?_⟩
  · rw [steps_length] at hr
    rw [gRS_steps hr]
    exact step_one (hp r (by rw [← h.st.len]; exact hr)) (h.st.one r hr)
  · rw [steps_length] at hr hs
    rw [gRS_steps hr] at m1
    rw [gRS_steps hs] at m2
    refine h.ap r s hr hs hne (fun e => m1 ?_) (fun e => m2 ?_)
    · rw [step_idle e]; exact e
    · rw [step_idle e]; exact e
theorem cycle_fine {L : Layout} {rs : List RS} {i : Fd} (hp : ∀ r, r < L.rts.length → 1 ≤ (pathOf L r).length) (h : Fine L rs) : Fine L (cycleR L rs i).2 := by
  unfold cycleR; split
  · exact steps_fine hp h
  · exact h

theorem gi_drop (l : List Int) (n k : Nat) : gi (l.drop n) k = gi l (n + k) := by simp [gi, List.getD_eq_getElem?_getD]
theorem held_in {path : List Int} {x : RS} {sec : Int} (h : inI (heldP path x) sec = true) : x.mode ≠ 0 ∧ inI path sec = true := by
  unfold heldP at h
  split at h
  · rename_i hm
    refine ⟨fun e => ?_, h⟩
    simp [e] at hm
  split at h
  · rename_i hm
    refine ⟨fun e => by simp [e] at hm, ?_⟩
    obtain ⟨k, hk, e⟩ := inI_iff.1 h
    rw [gi_drop] at e
    exact inI_iff.2 ⟨_, by simp at hk; omega, e⟩
  · simp [inI, anyB] at h
theorem holds_one {L : Layout} {rs : List RS} {sec : Int} (h : Apart L rs) {r s : Nat} (hr : r < rs.length) (hs : s < rs.length) (h1 : holdsB L rs sec r = true) (h2 : holdsB L rs sec s = true) : r = s := by
  obtain ⟨m1, p1⟩ := held_in h1
  obtain ⟨m2, p2⟩ := held_in h2
  by_cases e : r = s
  · exact e
  obtain ⟨j, hj, ej⟩ := inI_iff.1 p1
  obtain ⟨k, hk, ek⟩ := inI_iff.1 p2
  have := h r s hr hs e m1 m2
  rw [conflict_shares (shares_iff.2 ⟨j, k, hj, hk, by unfold pathOf at ej ek; rw [ej, ek]⟩)] at this
  cases this
theorem cntB_zero {p : Nat → Bool} {n : Nat} (h : anyB p n = false) : cntB p n = 0 := by
  induction n with
  | zero => rfl
  | succ n ih =>
    simp only [anyB, Bool.or_eq_false_iff] at h
    simp [cntB, ih h.1, h.2]
theorem cntB_one {p : Nat → Bool} {n k : Nat} (hk : k < n) (h : p k = true) (hu : ∀ j, j < n → p j = true → j = k) : cntB p n = 1 := by
  induction n with
  | zero => omega
  | succ n ih =>
    simp only [cntB]
    by_cases e : k = n
    · subst e
      rw [if_pos h, cntB_zero (anyB_false.2 fun j hj => ?_)]
      rw [← Bool.not_eq_true]
      intro hp
      have := hu j (by omega) hp
      omega
    · rw [ih (by omega) fun j hj => hu j (by omega), if_neg]
      intro hp
      exact e (hu n (by omega) hp).symm
/-- One holder at most. -/
theorem holders {L : Layout} {rs : List RS} {sec : Int} (h : Apart L rs) : cntB (holdsB L rs sec) rs.length ≤ 1 ∧ (decide (0 ≤ holder L rs sec) = decide (cntB (holdsB L rs sec) rs.length = 1)) := by
  rcases findB_cases (holdsB L rs sec) rs.length with ⟨h1, h2⟩ | ⟨k, hk, h1, h2, h3⟩
  · unfold holder
    rw [h1, cntB_zero h2]; simp
  · unfold holder
    rw [h1, cntB_one hk h2 fun j hj hp => holds_one h hj hk hp h2]; simp
theorem holder_of {L : Layout} {rs : List RS} {sec : Int} (h : Apart L rs) {r : Nat} (hr : r < rs.length) (h1 : holdsB L rs sec r = true) : holder L rs sec = r := by
  rcases findB_cases (holdsB L rs sec) rs.length with ⟨_, h2⟩ | ⟨k, hk, h2, h3, h4⟩
  · rw [anyB_false.1 h2 r hr] at h1; cases h1
  · unfold holder; rw [h2, holds_one h hk hr h3 h1]

theorem gi_set (l : List Int) (k : Nat) (v : Int) (j : Nat) : gi (l.set k v) j = if j = k ∧ k < l.length then v else gi l j := by
  simp only [gi, List.getD_eq_getElem?_getD, List.getElem?_set]
  by_cases e : k = j
  · subst e
    by_cases h : k < l.length
    · simp [h]
    · simp [h]
  · simp [e, Ne.symm e]
theorem gb_set (l : List Bool) (k : Nat) (v : Bool) (j : Nat) : gb (l.set k v) j = if j = k ∧ k < l.length then v else gb l j := by
  simp only [gb, List.getD_eq_getElem?_getD, List.getElem?_set]
  by_cases e : k = j
  · subst e
    by_cases h : k < l.length
    · simp [h]
    · simp [h]
  · simp [e, Ne.symm e]
theorem drvK_length (L : Layout) (rs : List RS) (i : Fd) (r : Nat) (l : List Int) (n : Nat) : (drvK L rs i r l n).length = l.length := by
  induction n with
  | zero => rfl
  | succ n ih => simp only [drvK, drv1]; split <;> simp [ih]
theorem drvR_length (L : Layout) (rs : List RS) (i : Fd) (l : List Int) (n : Nat) : (drvR L rs i l n).length = l.length := by
  induction n with
  | zero => rfl
  | succ n ih => simp only [drvR]; split <;> simp [drvK_length, ih]
theorem proR_length (L : Layout) (rs : List RS) (i : Fd) (l : List Bool) (n : Nat) : (proR L rs i l n).length = l.length := by
  induction n with
  | zero => rfl
  | succ n ih => simp only [proR]; split <;> simp [ih]
/-- A point is driven by a route that is Setting, and may. -/
def Driven (L : Layout) (rs : List RS) (i : Fd) (p : Nat) (v : Int) : Prop :=
  ∃ r j, r < rs.length ∧ (gRS rs r).mode = 1 ∧ j < (needsOf L r).length ∧ (gN (needsOf L r) j).p.toNat = p ∧ v = sideOf (gN (needsOf L r) j) ∧ liesB i (gN (needsOf L r) j) = false ∧
    gb i.occ (secOf L (gN (needsOf L r) j)).toNat = false ∧ (holder L rs (secOf L (gN (needsOf L r) j)) < 0 ∨ holder L rs (secOf L (gN (needsOf L r) j)) = r)
theorem drv_why {L : Layout} {rs : List RS} {i : Fd} {l : List Int} (hl : ∀ p, gi l p ≠ 0 → Driven L rs i p (gi l p)) (n : Nat) (hn : n ≤ rs.length) : ∀ p, gi (drvR L rs i l n) p ≠ 0 → Driven L rs i p (gi (drvR L rs i l n) p) := by
  induction n with
  | zero => exact hl
  | succ n ih =>
    have ih := ih (by omega)
    simp only [drvR]
    split
    · rename_i hm
      have hm : (gRS rs n).mode = 1 := by simpa using hm
      have key : ∀ k, k ≤ (needsOf L n).length → ∀ p, gi (drvK L rs i n (drvR L rs i l n) k) p ≠ 0 → Driven L rs i p (gi (drvK L rs i n (drvR L rs i l n) k) p) := by
        intro k
        induction k with
        | zero => intro _; exact ih
        | succ k ik =>
          intro hk p
          simp only [drvK, drv1]
          split
          · rename_i hc
            simp only [Bool.and_eq_true, Bool.or_eq_true, Bool.not_eq_true', decide_eq_true_eq, beq_iff_eq] at hc
            rw [gi_set]
            split
            · rename_i hp
              intro _
              exact ⟨n, k, by omega, hm, by omega, hp.1.symm, rfl, hc.1, hc.2.1, hc.2.2⟩
            · exact ik (by omega) p
          · exact ik (by omega) p
      exact key _ (Nat.le_refl _)
    · exact ih
theorem pro_why {L : Layout} {rs : List RS} {i : Fd} {l : List Bool} (n : Nat) : ∀ s, gb (proR L rs i l n) s = true → gb l s = true ∨ ∃ r, r < n ∧ goB L rs i r = true ∧ (gR L.rts r).frm.toNat = s := by
  induction n with
  | zero => intro s h; exact .inl h
  | succ n ih =>
    intro s
    simp only [proR]
    split
    · rename_i hg
      rw [gb_set]
      split
      · rename_i hp
        intro _
        exact .inr ⟨n, by omega, hg, hp.1.symm⟩
      · intro h
        rcases ih s h with h | ⟨r, h1, h2⟩
        · exact .inl h
        · exact .inr ⟨r, by omega, h2⟩
    · intro h
      rcases ih s h with h | ⟨r, h1, h2⟩
      · exact .inl h
      · exact .inr ⟨r, by omega, h2⟩
theorem gi_replicate (n j : Nat) : gi (List.replicate n 0) j = 0 := by
  simp only [gi, List.getD_eq_getElem?_getD, List.getElem?_replicate]; split <;> rfl
theorem gb_replicate (n j : Nat) : gb (List.replicate n false) j = false := by
  simp only [gb, List.getD_eq_getElem?_getD, List.getElem?_replicate]; split <;> rfl
/-- What the field is told is no more than may be: the law's own words. -/
def wayFor (L : Layout) (i : Fd) (rs : List RS) (s : Nat) (j : Nat) : Bool := (gRS rs j).mode == 2 && ((gR L.rts j).frm == (s : Int) && (clearB L i j && rightB L i j))
def sigBad (L : Layout) (i : Fd) (o : Ot) (rs : List RS) (s : Nat) : Bool := gb o.pro s && !anyB (wayFor L i rs s) rs.length
def underB (L : Layout) (rs : List RS) (p j : Nat) : Bool := holdsB L rs (gP L.pts p).sec j && !((gRS rs j).mode == 1)
def drvBad (L : Layout) (i : Fd) (o : Ot) (rs : List RS) (p : Nat) : Bool :=
  !(gi o.drv p == 0) && ((gb i.occ (gP L.pts p).sec.toNat || gi o.drv p == gi i.lies p) || anyB (underB L rs p) rs.length)
def tellsR (L : Layout) (i : Fd) (o : Ot) (rs : List RS) : Bool := !anyB (sigBad L i o rs) L.sigs.length && !anyB (drvBad L i o rs) L.pts.length
theorem tells_out {L : Layout} {rs : List RS} {i : Fd} (h : Fine L rs) (hf : ∀ r, r < L.rts.length → 0 ≤ (gR L.rts r).frm) : tellsR L i (outR L rs i) rs = true := by
  unfold tellsR
  simp only [Bool.and_eq_true, Bool.not_eq_true', anyB_false]
  constructor
  · intro s _
    unfold sigBad
    cases hp : gb (outR L rs i).pro s
    · rfl
    rcases pro_why rs.length s hp with h0 | ⟨r, hr, hg, he⟩
    · unfold safeO at h0; simp only [gb_replicate] at h0; cases h0
    · have := hf r (by rw [← h.st.len]; exact hr)
      rw [anyB_true (p := wayFor L i rs s) hr]; rfl
      unfold goB at hg
      unfold wayFor
      simp only [Bool.and_eq_true] at hg ⊢
      exact ⟨hg.1.1, by rw [beq_iff_eq]; omega, hg.1.2, hg.2⟩
  · intro p _
    unfold drvBad
    by_cases hz : gi (outR L rs i).drv p = 0
    · simp [hz]
    have := drv_why (L := L) (rs := rs) (i := i) (l := (safeO L).drv) (fun p hp => absurd (gi_replicate _ p) hp) rs.length (Nat.le_refl _) p hz
    obtain ⟨r, j, hr, hm, hj, hp, hv, hl, ho, hh⟩ := this
    have hv : gi (outR L rs i).drv p = sideOf (gN (needsOf L r) j) := hv
    simp only [Bool.and_eq_false_iff, Bool.or_eq_false_iff]
    right
    unfold secOf at ho hh
    rw [hp] at ho hh
    unfold liesB at hl
    rw [hp] at hl
    refine ⟨⟨ho, ?_⟩, ?_⟩
    · rw [hv, Bool.beq_comm (a := sideOf _)]; exact hl
    · rw [anyB_false]
      intro k hk
      unfold underB
      cases hq : holdsB L rs (gP L.pts p).sec k
      · rfl
      have e := holder_of h.ap hk hq
      rcases hh with hh | hh
      · omega
      · have : k = r := by omega
        subst this
        simp [hm]
end Go.Proofs.YtnfceboppdcfdaaDoor
