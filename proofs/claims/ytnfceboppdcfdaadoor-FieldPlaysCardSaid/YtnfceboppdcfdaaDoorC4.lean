/- Rows of numbers, truths, points, routes' states that are written; objects in blocks. -/
import Derived.Test.YtnfceboppdcfdaaDoorC3
import Derived.Test.YtnfceboppdcfdaaDoorS6
namespace Go.Proofs.YtnfceboppdcfdaaDoor
open Go.RowKit

theorem boolCell_set (l : List Bool) (k : Nat) (u : Bool) (j : Nat) (hk : k < l.length) : boolCell (l.set k u) j = if j = k then .bool u else boolCell l j := by
  unfold boolCell; rw [gb_set]; by_cases e : j = k <;> simp [e, hk]
theorem intCell_set (l : List Int) (k : Nat) (u : Int) (j : Nat) (hk : k < l.length) : intCell (l.set k u) j = if j = k then .int .i64 u else intCell l j := by
  unfold intCell; rw [gi_set]; by_cases e : j = k <;> simp [e, hk]
theorem mut_bool {Z : Nat → Prop} {w : World} {b off cap n : Nat} {l : List Bool} (h : MutAt Z w (.slice (some ⟨b, off, none⟩) n cap) l.length 1 (boolCell l)) (k : Nat) (hk : k < l.length) (u : Bool) :
    MutAt Z (w.setCell ⟨b, off + k, none⟩ (.bool u)) (.slice (some ⟨b, off, none⟩) n cap) (l.set k u).length 1 (boolCell (l.set k u)) := by
  obtain rfl := SlAt.inj h.at
  rw [List.length_set]
  exact (h.store k (.bool u)).congr fun j _ => (boolCell_set l k u j hk).symm
theorem mut_int {Z : Nat → Prop} {w : World} {b off cap n : Nat} {l : List Int} (h : MutAt Z w (.slice (some ⟨b, off, none⟩) n cap) l.length 1 (intCell l)) (k : Nat) (hk : k < l.length) (u : Int) :
    MutAt Z (w.setCell ⟨b, off + k, none⟩ (.int .i64 u)) (.slice (some ⟨b, off, none⟩) n cap) (l.set k u).length 1 (intCell (l.set k u)) := by
  obtain rfl := SlAt.inj h.at
  rw [List.length_set]
  exact (h.store k (.int .i64 u)).congr fun j _ => (intCell_set l k u j hk).symm
theorem mut_fp {Z : Nat → Prop} {w : World} {b off cap n : Nat} {l : List FP} (h : MutAt Z w (.slice (some ⟨b, off, none⟩) n cap) l.length 3 (fpCell l)) (k : Nat) (hk : k < l.length) (x : FP) :
    MutAt Z (((w.setCell ⟨b, off + k * 3, none⟩ (.int .i64 x.lies)).setCell ⟨b, off + k * 3 + 1, none⟩ (.int .i64 x.to)).setCell ⟨b, off + k * 3 + 2, none⟩ (.int .i64 x.steps)) (.slice (some ⟨b, off, none⟩) n cap) (l.set k x).length 3 (fpCell (l.set k x)) := by
  obtain rfl := SlAt.inj h.at
  rw [List.length_set]
  refine (((h.store (k * 3) _).store (k * 3 + 1) _).store (k * 3 + 2) _).congr fun j _ => ?_
  unfold fpCell
  rw [gF_set _ _ _ _ hk]
  by_cases e : j / 3 = k
  · rw [if_pos e]
    have h3 : j = k * 3 ∨ j = k * 3 + 1 ∨ j = k * 3 + 2 := by omega
    rcases h3 with rfl | rfl | rfl
    · rw [if_neg (by omega), if_neg (by omega), if_pos rfl, if_pos (by omega)]
    · rw [if_neg (by omega), if_pos rfl, if_neg (by omega), if_pos (by omega)]
    · rw [if_pos rfl, if_neg (by omega), if_neg (by omega)]
  · rw [if_neg e, if_neg (by omega), if_neg (by omega), if_neg (by omega)]
theorem mut_rs {Z : Nat → Prop} {w : World} {b off cap n : Nat} {l : List RS} (h : MutAt Z w (.slice (some ⟨b, off, none⟩) n cap) l.length 4 (rsCell l)) (k : Nat) (hk : k < l.length) (x : RS) :
    MutAt Z ((((w.setCell ⟨b, off + k * 4, none⟩ (.int .i64 x.mode)).setCell ⟨b, off + k * 4 + 1, none⟩ (.int .i64 x.timer)).setCell ⟨b, off + k * 4 + 2, none⟩ (.int .i64 x.gone)).setCell ⟨b, off + k * 4 + 3, none⟩ (.bool x.seen)) (.slice (some ⟨b, off, none⟩) n cap) (l.set k x).length 4 (rsCell (l.set k x)) := by
  obtain rfl := SlAt.inj h.at
  rw [List.length_set]
  refine ((((h.store (k * 4) _).store (k * 4 + 1) _).store (k * 4 + 2) _).store (k * 4 + 3) _).congr fun j _ => ?_
  unfold rsCell
  rw [gRS_set _ _ _ _ hk]
  by_cases e : j / 4 = k
  · rw [if_pos e]
    have h3 : j = k * 4 ∨ j = k * 4 + 1 ∨ j = k * 4 + 2 ∨ j = k * 4 + 3 := by omega
    rcases h3 with rfl | rfl | rfl | rfl
    · rw [if_neg (by omega), if_neg (by omega), if_neg (by omega), if_pos rfl, if_pos (by omega)]
    · rw [if_neg (by omega), if_neg (by omega), if_pos rfl, if_neg (by omega), if_pos (by omega)]
    · rw [if_neg (by omega), if_pos rfl, if_neg (by omega), if_neg (by omega), if_pos (by omega)]
    · rw [if_pos rfl, if_neg (by omega), if_neg (by omega), if_neg (by omega)]
  · rw [if_neg e, if_neg (by omega), if_neg (by omega), if_neg (by omega), if_neg (by omega)]
/-- What is read of such rows. -/
theorem el_bool {Z : Nat → Prop} {w : World} {A : Option Addr} {n cap : Nat} {l : List Bool} (h : MutAt Z w (.slice A n cap) l.length 1 (boolCell l)) {k : Nat} (hk : k < l.length) :
    ∃ b off, A = some ⟨b, off, none⟩ ∧ Z b ∧ (∀ o, w.frozen? ⟨b, o, none⟩ = false) ∧ w.cell? ⟨b, off + k, none⟩ = some (.bool (gb l k)) := by
  obtain ⟨b, off, e, hz, hf, hj⟩ := h.el (by omega)
  exact ⟨b, off, e, hz, hf, by simpa [boolCell] using hj k hk 0 (by omega)⟩
theorem el_int {Z : Nat → Prop} {w : World} {A : Option Addr} {n cap : Nat} {l : List Int} (h : MutAt Z w (.slice A n cap) l.length 1 (intCell l)) {k : Nat} (hk : k < l.length) :
    ∃ b off, A = some ⟨b, off, none⟩ ∧ Z b ∧ (∀ o, w.frozen? ⟨b, o, none⟩ = false) ∧ w.cell? ⟨b, off + k, none⟩ = some (.int .i64 (gi l k)) := by
  obtain ⟨b, off, e, hz, hf, hj⟩ := h.el (by omega)
  exact ⟨b, off, e, hz, hf, by simpa [intCell] using hj k hk 0 (by omega)⟩
theorem fpCell_0 (l : List FP) (k : Nat) : fpCell l (k * 3 + 0) = .int .i64 (gF l k).lies := by unfold fpCell; rw [if_pos (by omega), show (k * 3 + 0) / 3 = k by omega]
theorem fpCell_1 (l : List FP) (k : Nat) : fpCell l (k * 3 + 1) = .int .i64 (gF l k).to := by unfold fpCell; rw [if_neg (by omega), if_pos (by omega), show (k * 3 + 1) / 3 = k by omega]
theorem fpCell_2 (l : List FP) (k : Nat) : fpCell l (k * 3 + 2) = .int .i64 (gF l k).steps := by unfold fpCell; rw [if_neg (by omega), if_neg (by omega), show (k * 3 + 2) / 3 = k by omega]
theorem el_fp {Z : Nat → Prop} {w : World} {A : Option Addr} {n cap : Nat} {l : List FP} (h : MutAt Z w (.slice A n cap) l.length 3 (fpCell l)) {k : Nat} (hk : k < l.length) :
    ∃ b off, A = some ⟨b, off, none⟩ ∧ Z b ∧ (∀ o, w.frozen? ⟨b, o, none⟩ = false) ∧ w.cell? ⟨b, off + k * 3, none⟩ = some (.int .i64 (gF l k).lies) ∧ w.cell? ⟨b, off + k * 3 + 1, none⟩ = some (.int .i64 (gF l k).to) ∧ w.cell? ⟨b, off + k * 3 + 2, none⟩ = some (.int .i64 (gF l k).steps) := by
  obtain ⟨b, off, e, hz, hf, hj⟩ := h.el (by omega)
  refine ⟨b, off, e, hz, hf, ?_, ?_, ?_⟩
  · have := hj k hk 0 (by omega); rw [fpCell_0] at this; exact this
  · have := hj k hk 1 (by omega); rw [fpCell_1] at this; exact this
  · have := hj k hk 2 (by omega); rw [fpCell_2] at this; exact this
theorem rsCell_0 (l : List RS) (k : Nat) : rsCell l (k * 4 + 0) = .int .i64 (gRS l k).mode := by unfold rsCell; rw [if_pos (by omega), show (k * 4 + 0) / 4 = k by omega]
theorem rsCell_1 (l : List RS) (k : Nat) : rsCell l (k * 4 + 1) = .int .i64 (gRS l k).timer := by unfold rsCell; rw [if_neg (by omega), if_pos (by omega), show (k * 4 + 1) / 4 = k by omega]
theorem rsCell_2 (l : List RS) (k : Nat) : rsCell l (k * 4 + 2) = .int .i64 (gRS l k).gone := by unfold rsCell; rw [if_neg (by omega), if_neg (by omega), if_pos (by omega), show (k * 4 + 2) / 4 = k by omega]
theorem rsCell_3 (l : List RS) (k : Nat) : rsCell l (k * 4 + 3) = .bool (gRS l k).seen := by unfold rsCell; rw [if_neg (by omega), if_neg (by omega), if_neg (by omega), show (k * 4 + 3) / 4 = k by omega]
theorem el_rs {Z : Nat → Prop} {w : World} {A : Option Addr} {n cap : Nat} {l : List RS} (h : MutAt Z w (.slice A n cap) l.length 4 (rsCell l)) {k : Nat} (hk : k < l.length) :
    ∃ b off, A = some ⟨b, off, none⟩ ∧ Z b ∧ (∀ o, w.frozen? ⟨b, o, none⟩ = false) ∧ w.cell? ⟨b, off + k * 4, none⟩ = some (.int .i64 (gRS l k).mode) ∧ w.cell? ⟨b, off + k * 4 + 1, none⟩ = some (.int .i64 (gRS l k).timer) ∧ w.cell? ⟨b, off + k * 4 + 2, none⟩ = some (.int .i64 (gRS l k).gone) ∧ w.cell? ⟨b, off + k * 4 + 3, none⟩ = some (.bool (gRS l k).seen) := by
  obtain ⟨b, off, e, hz, hf, hj⟩ := h.el (by omega)
  refine ⟨b, off, e, hz, hf, ?_, ?_, ?_, ?_⟩
  · have := hj k hk 0 (by omega); rw [rsCell_0] at this; exact this
  · have := hj k hk 1 (by omega); rw [rsCell_1] at this; exact this
  · have := hj k hk 2 (by omega); rw [rsCell_2] at this; exact this
  · have := hj k hk 3 (by omega); rw [rsCell_3] at this; exact this
/-- Slices of routes' states that are read. -/
def SlRS (w : World) (v : Value) (l : List RS) : Prop := SlAt w v l.length 4 (rsCell l)
theorem SlRS.gr {w w' : World} {v : Value} {l : List RS} (h : SlRS w v l) (g : Gr w w') : SlRS w' v l := SlAt.gr h g
theorem SlRS.el {w : World} {A : Option Addr} {n cap : Nat} {l : List RS} (h : SlRS w (.slice A n cap) l) {k : Nat} (hk : k < l.length) :
    ∃ b off, A = some ⟨b, off, none⟩ ∧ w.cell? ⟨b, off + k * 4, none⟩ = some (.int .i64 (gRS l k).mode) ∧ w.cell? ⟨b, off + k * 4 + 1, none⟩ = some (.int .i64 (gRS l k).timer) ∧ w.cell? ⟨b, off + k * 4 + 2, none⟩ = some (.int .i64 (gRS l k).gone) ∧ w.cell? ⟨b, off + k * 4 + 3, none⟩ = some (.bool (gRS l k).seen) := by
  obtain ⟨b, off, hA, hj⟩ := SlAt.el h hk
  refine ⟨b, off, hA, ?_, ?_, ?_, ?_⟩
  · have := hj 0 (by omega); rw [rsCell_0] at this; exact this
  · have := hj 1 (by omega); rw [rsCell_1] at this; exact this
  · have := hj 2 (by omega); rw [rsCell_2] at this; exact this
  · have := hj 3 (by omega); rw [rsCell_3] at this; exact this

/-- Rows are mapped in place, number by number. -/
def setK {α : Type} (f : Nat → α) (l : List α) : Nat → List α | 0 => l | k + 1 => (setK f l k).set k (f k)
theorem setK_length {α : Type} (f : Nat → α) (l : List α) (k : Nat) : (setK f l k).length = l.length := by
  induction k with
  | zero => rfl
  | succ k ih => simp [setK, ih]
theorem setK_getD {α : Type} (f : Nat → α) (l : List α) (d : α) (k j : Nat) : (setK f l k).getD j d = if j < k ∧ j < l.length then f j else l.getD j d := by
  induction k with
  | zero => simp [setK]
  | succ k ih =>
    simp only [setK, List.getD_eq_getElem?_getD, List.getElem?_set, setK_length] at ih ⊢
    by_cases e : k = j
    · subst e
      by_cases h : k < l.length
      · simp [h]
      · simp [h]
    · rw [if_neg e, ih]
      by_cases h : j < k
      · simp [h, show j < k + 1 by omega]
      · simp [h, show ¬ j < k + 1 by omega]
theorem setK_all {α : Type} (f : Nat → α) (l : List α) : setK f l l.length = tab f l.length := by
  apply List.ext_getElem?
  intro j
  by_cases h : j < l.length
  · have h1 : j < (setK f l l.length).length := by rw [setK_length]; exact h
    have h2 : j < (tab f l.length).length := by rw [tab_length]; exact h
    rw [List.getElem?_eq_getElem h1, List.getElem?_eq_getElem h2]
    have e1 := setK_getD f l (f j) l.length j
    have e2 := tab_getD f (f j) l.length j h
    rw [if_pos ⟨h, h⟩, List.getD_eq_getElem?_getD, List.getElem?_eq_getElem h1] at e1
    rw [List.getD_eq_getElem?_getD, List.getElem?_eq_getElem h2] at e2
    simp only [Option.getD_some] at e1 e2
    rw [e1, e2]
  · rw [List.getElem?_eq_none (by rw [setK_length]; omega), List.getElem?_eq_none (by rw [tab_length]; omega)]

theorem setK_id {α : Type} (f : Nat → α) (l : List α) (d : α) (k : Nat) (h : k < l.length) (e : f k = l.getD k d) : setK f l (k + 1) = setK f l k := by
  simp only [setK]
  have h1 : k < (setK f l k).length := by rw [setK_length]; exact h
  have e1 := setK_getD f l d k k
  rw [if_neg (by omega), ← e, List.getD_eq_getElem?_getD, List.getElem?_eq_getElem h1] at e1
  simp only [Option.getD_some] at e1
  rw [← e1, List.set_getElem_self]
/-- A field, as an object, in parts. -/
structure FParts (Z Zo Zp : Nat → Prop) (bf : Nat) (vo vp : Value) (T : TypeId) (w : World) (occ : List Bool) (pts : List FP) : Prop where
  blk : w.heap[bf]? = some (.cells #[vo, vp] T (0, 0))
  occ : MutAt Zo w vo occ.length 1 (boolCell occ)
  pts : MutAt Zp w vp pts.length 3 (fpCell pts)
  zf : Z bf
  nof : ¬ Zo bf
  npf : ¬ Zp bf
  zo : ∀ b, Zo b → Z b ∧ ¬ Zp b
  zp : ∀ b, Zp b → Z b
theorem FParts.keep {Z Zo Zp : Nat → Prop} {bf : Nat} {vo vp : Value} {T : TypeId} {w w' : World} {occ : List Bool} {pts : List FP} (h : FParts Z Zo Zp bf vo vp T w occ pts) (k : Keep Z w w') : FParts Z Zo Zp bf vo vp T w' occ pts :=
  ⟨by rw [k.block bf h.zf (lt_of_block h.blk)]; exact h.blk, h.occ.keep (k.mono fun i hi => (h.zo i hi).1), h.pts.keep (k.mono h.zp), h.zf, h.nof, h.npf, h.zo, h.zp⟩
theorem FParts.occ_set {Z Zo Zp : Nat → Prop} {bf b off n cap k : Nat} {vp : Value} {T : TypeId} {w : World} {occ : List Bool} {pts : List FP} (h : FParts Z Zo Zp bf (.slice (some ⟨b, off, none⟩) n cap) vp T w occ pts) (hz : Zo b) (hk : k < occ.length) (u : Bool) :
    FParts Z Zo Zp bf (.slice (some ⟨b, off, none⟩) n cap) vp T (w.setCell ⟨b, off + k, none⟩ (.bool u)) (occ.set k u) pts := by
  have hne : bf ≠ b := fun e => h.nof (e ▸ hz)
  have hc : ChgZ Zo w (w.setCell ⟨b, off + k, none⟩ (.bool u)) := (ChgZ.refl Zo w).setCell (.inl hz) _
  exact ⟨by rw [Below.heap_setCell _ _ _ _ hne]; exact h.blk, mut_bool h.occ k hk u, h.pts.keep (.of_chg hc fun i hi ho => (h.zo i ho).2 hi), h.zf, h.nof, h.npf, h.zo, h.zp⟩
theorem FParts.pts_set {Z Zo Zp : Nat → Prop} {bf b off n cap k : Nat} {vo : Value} {T : TypeId} {w : World} {occ : List Bool} {pts : List FP} (h : FParts Z Zo Zp bf vo (.slice (some ⟨b, off, none⟩) n cap) T w occ pts) (hz : Zp b) (hk : k < pts.length) (x : FP) :
    FParts Z Zo Zp bf vo (.slice (some ⟨b, off, none⟩) n cap) T (((w.setCell ⟨b, off + k * 3, none⟩ (.int .i64 x.lies)).setCell ⟨b, off + k * 3 + 1, none⟩ (.int .i64 x.to)).setCell ⟨b, off + k * 3 + 2, none⟩ (.int .i64 x.steps)) occ (pts.set k x) := by
  have hne : bf ≠ b := fun e => h.npf (e ▸ hz)
  have hc : ChgZ Zp w (((w.setCell ⟨b, off + k * 3, none⟩ (.int .i64 x.lies)).setCell ⟨b, off + k * 3 + 1, none⟩ (.int .i64 x.to)).setCell ⟨b, off + k * 3 + 2, none⟩ (.int .i64 x.steps)) := (((ChgZ.refl Zp w).setCell (.inl hz) _).setCell (.inl hz) _).setCell (.inl hz) _
  refine ⟨?_, h.occ.keep (.of_chg hc fun i hi ho => (h.zo i hi).2 ho), mut_fp h.pts k hk x, h.zf, h.nof, h.npf, h.zo, h.zp⟩
  rw [Below.heap_setCell _ _ _ _ hne, Below.heap_setCell _ _ _ _ hne, Below.heap_setCell _ _ _ _ hne]; exact h.blk
/-- A field, as an object. -/
def FieldAt (Z : Nat → Prop) (w : World) (p : Value) (occ : List Bool) (pts : List FP) : Prop :=
  ∃ bf vo vp T Zo Zp, p = .pointer (some ⟨bf, 0, none⟩) ∧ FParts Z Zo Zp bf vo vp T w occ pts
theorem FieldAt.keep {Z : Nat → Prop} {w w' : World} {p : Value} {occ : List Bool} {pts : List FP} (h : FieldAt Z w p occ pts) (k : Keep Z w w') : FieldAt Z w' p occ pts := by
  obtain ⟨bf, vo, vp, T, Zo, Zp, e, h⟩ := h
  exact ⟨bf, vo, vp, T, Zo, Zp, e, h.keep k⟩
/-- What the field tells, as a value. -/
def InF (F : Nat → Prop) (w : World) (v : Value) (i : Fd) : Prop := ∃ vo vl, v = .agg #[vo, vl] ∧ SlF F w vo i.occ.length 1 (boolCell i.occ) ∧ SlF F w vl i.lies.length 1 (intCell i.lies)
theorem InF.keep {F : Nat → Prop} {w w' : World} {v : Value} {i : Fd} (h : InF F w v i) (k : Keep F w w') : InF F w' v i := by
  obtain ⟨vo, vl, e, h1, h2⟩ := h
  exact ⟨vo, vl, e, h1.keep k, h2.keep k⟩
theorem InF.mono {F F' : Nat → Prop} {w : World} {v : Value} {i : Fd} (h : InF F w v i) (hf : ∀ b, F b → F' b) : InF F' w v i := by
  obtain ⟨vo, vl, e, h1, h2⟩ := h
  exact ⟨vo, vl, e, h1.mono hf, h2.mono hf⟩
def InAt (w : World) (v : Value) (i : Fd) : Prop := ∃ vo vl, v = .agg #[vo, vl] ∧ SlBools w vo i.occ ∧ SlInts w vl i.lies
theorem InF.at {F : Nat → Prop} {w : World} {v : Value} {i : Fd} (h : InF F w v i) : InAt w v i := by
  obtain ⟨vo, vl, e, h1, h2⟩ := h
  exact ⟨vo, vl, e, h1.at, h2.at⟩
theorem InAt.gr {w w' : World} {v : Value} {i : Fd} (h : InAt w v i) (g : Gr w w') : InAt w' v i := by
  obtain ⟨vo, vl, e, h1, h2⟩ := h
  exact ⟨vo, vl, e, h1.gr g, h2.gr g⟩
theorem intVals_getD (l : List Int) (j : Nat) (h : j < l.length) : (intVals l).getD j undef = intCell l j := by simp [intVals, intCell, gi, List.getD_eq_getElem?_getD, h]
theorem ints_slf {F : Nat → Prop} {w : World} {base e : Nat} {v : Value} {l : List Int} (h : w.ownsRow base e 1 v l.length (intVals l)) (hf : ∀ b, base ≤ b → b < w.heap.size → F b) : SlF F w v l.length 1 (intCell l) :=
  (own_slf h hf).congr fun j hj => intVals_getD l j (by omega)
end Go.Proofs.YtnfceboppdcfdaaDoor
