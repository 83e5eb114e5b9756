/- The reference's field, as an object. -/
import Derived.Test.YtnfceboppdcfdaaDoorC6
namespace Go.Proofs.YtnfceboppdcfdaaDoor
open Go.RowKit

def toOf (l : List FP) : List Int := l.map (·.to)
def stepsOf (l : List FP) : List Int := l.map (·.steps)
theorem liesOf_set (l : List FP) (k : Nat) (x : FP) : liesOf (l.set k x) = (liesOf l).set k x.lies := by simp [liesOf, List.map_set]
theorem toOf_set (l : List FP) (k : Nat) (x : FP) : toOf (l.set k x) = (toOf l).set k x.to := by simp [toOf, List.map_set]
theorem stepsOf_set (l : List FP) (k : Nat) (x : FP) : stepsOf (l.set k x) = (stepsOf l).set k x.steps := by simp [stepsOf, List.map_set]
theorem toOf_len (l : List FP) : (toOf l).length = l.length := by simp [toOf]
theorem stepsOf_len (l : List FP) : (stepsOf l).length = l.length := by simp [stepsOf]
theorem gi_toOf (l : List FP) (j : Nat) (h : j < l.length) : gi (toOf l) j = (gF l j).to := by simp [gi, toOf, gF, List.getD_eq_getElem?_getD, h]
theorem gi_stepsOf (l : List FP) (j : Nat) (h : j < l.length) : gi (stepsOf l) j = (gF l j).steps := by simp [gi, stepsOf, gF, List.getD_eq_getElem?_getD, h]
theorem set_same (l : List Int) (k : Nat) (v : Int) (hk : k < l.length) (h : gi l k = v) : l.set k v = l := by
  have : l[k] = v := by rw [← h]; simp [gi, List.getD_eq_getElem?_getD, hk]
  rw [← this, List.set_getElem_self]

/-- Its parts: what it tells, and of each point where it was driven, and in how many steps. -/
structure R6 (Z Zo Zl Zt Zd : Nat → Prop) (bf : Nat) (vo vl vt vd : Value) (T : TypeId) (w : World) (occ : List Bool) (lies to stp : List Int) : Prop where
  blk : w.heap[bf]? = some (.cells #[vo, vl, vt, vd] T (0, 0))
  occ : MutAt Zo w vo occ.length 1 (boolCell occ)
  lies : MutAt Zl w vl lies.length 1 (intCell lies)
  to : MutAt Zt w vt to.length 1 (intCell to)
  stp : MutAt Zd w vd stp.length 1 (intCell stp)
  zf : Z bf
  zo : ∀ b, Zo b → Z b ∧ b ≠ bf ∧ ¬ Zl b ∧ ¬ Zt b ∧ ¬ Zd b
  zl : ∀ b, Zl b → Z b ∧ b ≠ bf ∧ ¬ Zo b ∧ ¬ Zt b ∧ ¬ Zd b
  zt : ∀ b, Zt b → Z b ∧ b ≠ bf ∧ ¬ Zo b ∧ ¬ Zl b ∧ ¬ Zd b
  zd : ∀ b, Zd b → Z b ∧ b ≠ bf ∧ ¬ Zo b ∧ ¬ Zl b ∧ ¬ Zt b
section
variable {Z Zo Zl Zt Zd : Nat → Prop} {bf b off n cap k : Nat} {vo vl vt vd : Value} {T : TypeId} {w w' : World} {occ : List Bool} {lies to stp : List Int}
theorem R6.keep (h : R6 Z Zo Zl Zt Zd bf vo vl vt vd T w occ lies to stp) (g : Keep Z w w') : R6 Z Zo Zl Zt Zd bf vo vl vt vd T w' occ lies to stp :=
  ⟨by rw [g.block bf h.zf (blk_lt h.blk)]; exact h.blk, h.occ.keep (g.mono fun i hi => (h.zo i hi).1), h.lies.keep (g.mono fun i hi => (h.zl i hi).1), h.to.keep (g.mono fun i hi => (h.zt i hi).1), h.stp.keep (g.mono fun i hi => (h.zd i hi).1), h.zf, h.zo, h.zl, h.zt, h.zd⟩
theorem keep_cell {F : Nat → Prop} {b o : Nat} {u : Value} (h : ¬ F b) : Keep F w (w.setCell ⟨b, o, none⟩ u) :=
  .of_chg (Z := fun i => i = b) ((ChgZ.refl (fun i => i = b) w).setCell (p := ⟨b, o, none⟩) (.inl rfl) u) fun i hi e => h (by rw [← (e : i = b)]; exact hi)
theorem R6.occ_set (h : R6 Z Zo Zl Zt Zd bf (.slice (some ⟨b, off, none⟩) n cap) vl vt vd T w occ lies to stp) (hz : Zo b) (hk : k < occ.length) (u : Bool) :
    R6 Z Zo Zl Zt Zd bf (.slice (some ⟨b, off, none⟩) n cap) vl vt vd T (w.setCell ⟨b, off + k, none⟩ (.bool u)) (occ.set k u) lies to stp := by
  obtain ⟨q1, q2, q3, q4, q5⟩ := h.zo b hz
  exact ⟨blk_off h.blk (Ne.symm q2), mut_bool h.occ k hk u, h.lies.keep (keep_cell q3), h.to.keep (keep_cell q4), h.stp.keep (keep_cell q5), h.zf, h.zo, h.zl, h.zt, h.zd⟩
theorem R6.lies_set (h : R6 Z Zo Zl Zt Zd bf vo (.slice (some ⟨b, off, none⟩) n cap) vt vd T w occ lies to stp) (hz : Zl b) (hk : k < lies.length) (u : Int) :
    R6 Z Zo Zl Zt Zd bf vo (.slice (some ⟨b, off, none⟩) n cap) vt vd T (w.setCell ⟨b, off + k, none⟩ (.int .i64 u)) occ (lies.set k u) to stp := by
  obtain ⟨q1, q2, q3, q4, q5⟩ := h.zl b hz
  exact ⟨blk_off h.blk (Ne.symm q2), h.occ.keep (keep_cell q3), mut_int h.lies k hk u, h.to.keep (keep_cell q4), h.stp.keep (keep_cell q5), h.zf, h.zo, h.zl, h.zt, h.zd⟩
theorem R6.to_set (h : R6 Z Zo Zl Zt Zd bf vo vl (.slice (some ⟨b, off, none⟩) n cap) vd T w occ lies to stp) (hz : Zt b) (hk : k < to.length) (u : Int) :
    R6 Z Zo Zl Zt Zd bf vo vl (.slice (some ⟨b, off, none⟩) n cap) vd T (w.setCell ⟨b, off + k, none⟩ (.int .i64 u)) occ lies (to.set k u) stp := by
  obtain ⟨q1, q2, q3, q4, q5⟩ := h.zt b hz
  exact ⟨blk_off h.blk (Ne.symm q2), h.occ.keep (keep_cell q3), h.lies.keep (keep_cell q4), mut_int h.to k hk u, h.stp.keep (keep_cell q5), h.zf, h.zo, h.zl, h.zt, h.zd⟩
theorem R6.stp_set (h : R6 Z Zo Zl Zt Zd bf vo vl vt (.slice (some ⟨b, off, none⟩) n cap) T w occ lies to stp) (hz : Zd b) (hk : k < stp.length) (u : Int) :
    R6 Z Zo Zl Zt Zd bf vo vl vt (.slice (some ⟨b, off, none⟩) n cap) T (w.setCell ⟨b, off + k, none⟩ (.int .i64 u)) occ lies to (stp.set k u) := by
  obtain ⟨q1, q2, q3, q4, q5⟩ := h.zd b hz
  exact ⟨blk_off h.blk (Ne.symm q2), h.occ.keep (keep_cell q3), h.lies.keep (keep_cell q4), h.to.keep (keep_cell q5), mut_int h.stp k hk u, h.zf, h.zo, h.zl, h.zt, h.zd⟩
end
/-- The reference's field. -/
def R6At (Z : Nat → Prop) (w : World) (p : Value) (occ : List Bool) (pts : List FP) : Prop :=
  ∃ bf vo vl vt vd T Zo Zl Zt Zd, p = .pointer (some ⟨bf, 0, none⟩) ∧ R6 Z Zo Zl Zt Zd bf vo vl vt vd T w occ (liesOf pts) (toOf pts) (stepsOf pts)
theorem R6At.keep {Z : Nat → Prop} {w w' : World} {p : Value} {occ : List Bool} {pts : List FP} (h : R6At Z w p occ pts) (g : Keep Z w w') : R6At Z w' p occ pts := by
  obtain ⟨bf, vo, vl, vt, vd, T, Zo, Zl, Zt, Zd, e, h⟩ := h
  exact ⟨bf, vo, vl, vt, vd, T, Zo, Zl, Zt, Zd, e, h.keep g⟩
end Go.Proofs.YtnfceboppdcfdaaDoor
