/- Arguments that are read as data, opened: what lies in their cells. -/
import Derived.Test.YtnfceboppdcfdaaDoorS4z
import Derived.Test.YtnfceboppdcfdaaDoorC4
import Derived.Deep.Slices
import Derived.Deep.Fields
import Derived.ProofKit
namespace Go.Proofs.YtnfceboppdcfdaaDoor
open Go.ChangeShapes Go.WideShapes Go.RowKit Go.Deep

section
variable {H : Type} {enc : TypeId × Value → H} {P : Program} {w : World} {base : Nat} {spare : Nat → Bool} {held : Bool}
/-- Whatever can be read as data of a type has such cells. -/
def OpensTo {H : Type} (enc : TypeId × Value → H) (P : Program) (w : World) (base : Nat) (spare : Nat → Bool) (held : Bool) (t : TypeId) {α : Type} (Q : List Value → α → Prop) : Prop :=
  ∀ (fuel : Nat) (cs : List Value) (x : DataW H × List MemPlace), DataW.trod enc P w base spare held fuel t cs = some x → (x.1.weights P t).all (· ≤ reachBytes) = true → ∃ a, Q cs a
theorem op_int {t : TypeId} (ht : P.underlying t = some (.int .i64)) : OpensTo enc P w base spare held t fun cs (n : Int) => cs = [.int .i64 n] ∧ (Lit.int .i64 n).wf = true := fun fuel cs x h _ => by
  obtain ⟨n, e, _, hw⟩ := DataW.trod_int ht h
  exact ⟨n, e, hw⟩
theorem op_byte {t : TypeId} (ht : P.underlying t = some (.int .u8)) : OpensTo enc P w base spare held t fun cs (n : Int) => cs = [.int .u8 n] ∧ (Lit.int .u8 n).wf = true := fun fuel cs x h _ => by
  obtain ⟨n, e, _, hw⟩ := DataW.trod_int ht h
  exact ⟨n, e, hw⟩
theorem op_bool {t : TypeId} (ht : P.underlying t = some .bool) : OpensTo enc P w base spare held t fun cs (b : Bool) => cs = [.bool b] := fun fuel cs x h _ => by
  obtain ⟨b, e, _⟩ := DataW.trod_bool ht h
  exact ⟨b, e⟩
theorem op_str {t : TypeId} (ht : P.underlying t = some .string) : OpensTo enc P w base spare held t fun cs (s : ByteArray) => cs = [.string s] ∧ s.size ≤ reachBytes := fun fuel cs x h hw => by
  obtain ⟨s, e, hx, _⟩ := DataW.trod_string ht h
  refine ⟨s, e, ?_⟩
  rw [hx] at hw
  simpa [DataW.weights] using hw
/-- A slice whose elements open so. -/
def SlQ {α : Type} (w : World) (Q : List Value → α → Prop) (sz : Nat) (v : Value) (l : List α) : Prop :=
  ∃ c : Nat → Value, SlAt w v l.length sz c ∧ l.length ≤ reachBytes ∧ ∀ (i : Nat) (h : i < l.length), Q ((List.range sz).map fun j => c (i * sz + j)) l[i]
theorem weightsAll_at {e : TypeId} {ds : List (DataW H)} (h : (DataW.weightsAll P e ds).all (· ≤ reachBytes) = true) : ∀ d ∈ ds, (d.weights P e).all (· ≤ reachBytes) = true := by
  induction ds with
  | nil => intro d hd; cases hd
  | cons a r ih =>
    simp only [DataW.weightsAll, List.all_append, Bool.and_eq_true] at h
    intro d hd
    rcases List.mem_cons.1 hd with rfl | hd
    · exact h.1
    · exact ih h.2 d hd
theorem weightsEach_at {ts : List TypeId} {ds : List (DataW H)} (h : (DataW.weightsEach P ts ds).all (· ≤ reachBytes) = true) : ∀ (i : Nat) (t : TypeId) (d : DataW H), ts[i]? = some t → ds[i]? = some d → (d.weights P t).all (· ≤ reachBytes) = true := by
  induction ts generalizing ds with
  | nil => intro i t d ht; simp at ht
  | cons a r ih =>
    cases ds with
    | nil => intro i t d _ hd; simp at hd
    | cons b s =>
      simp only [DataW.weightsEach, List.all_append, Bool.and_eq_true] at h
      intro i t d ht hd
      cases i with
      | zero => simp at ht hd; subst ht; subst hd; exact h.1
      | succ i => exact ih h.2 i t d (by simpa using ht) (by simpa using hd)
theorem op_slice {α : Type} {Q : List Value → α → Prop} {t e : TypeId} {sz : Nat} (ht : P.underlying t = some (.slice e)) (hsz : P.cellsOf e = sz) (hpos : 0 < sz) (hby : 0 < P.bytesOf e) (hQ : OpensTo enc P w base spare held e Q) :
    OpensTo enc P w base spare held t fun cs (l : List α) => ∃ v, cs = [v] ∧ SlQ w Q sz v l := fun fuel cs x h hw => by
  rcases open_slice ht h with ⟨rfl, _⟩ | ⟨a, len, cap, m, n, D, Pl, rfl, hb, hl, hm, hmm, rfl, hi⟩
  · exact ⟨[], _, rfl, fun _ => undef, ⟨none, 0, rfl, Nat.le_refl _, ⟨by omega, fun _ => rfl⟩, fun h => by simp at h⟩, by simp, fun i h => by simp at h⟩
  · subst hsz
    simp only [DataW.weights, ht, List.all_cons, List.all_append, Bool.and_eq_true, decide_eq_true_eq, List.length_map, List.length_range] at hw
    obtain ⟨hw1, hw2, hw3⟩ := hw
    have hlm : len ≤ m := by rw [hmm]; split <;> omega
    have hreach : len ≤ reachBytes := Nat.le_trans (Nat.le_trans (Nat.le_add_right len (m - len)) (Nat.le_mul_of_pos_right _ hby)) hw1
    have key : ∀ i, i < len → ∃ cs', w.cells? base (a.add (i * P.cellsOf e)) (P.cellsOf e) = some cs' ∧ ∃ y, Q cs' y := fun i hil => by
      obtain ⟨cs', hc, ht'⟩ := hi i (by omega)
      exact ⟨cs', hc, hQ n cs' _ ht' (weightsAll_at hw2 _ (List.mem_map.2 ⟨i, List.mem_range.2 hil, rfl⟩))⟩
    have ⟨C, hC⟩ : ∃ C : Nat → List Value, ∀ i, i < len → w.cells? base (a.add (i * P.cellsOf e)) (P.cellsOf e) = some (C i) ∧ ∃ y, Q (C i) y := by
      refine ⟨fun i => if h : i < len then (key i h).choose else [], fun i hil => ?_⟩
      simp only [dif_pos hil]
      exact (key i hil).choose_spec
    have ⟨Y, hY⟩ : ∃ Y : (i : Nat) → i < len → α, ∀ i h, Q (C i) (Y i h) := ⟨fun i h => (hC i h).2.choose, fun i h => (hC i h).2.choose_spec⟩
    refine ⟨(List.range len).pmap (fun i h => Y i h) (fun i h => List.mem_range.1 h), _, rfl, fun j => (C (j / P.cellsOf e)).getD (j % P.cellsOf e) undef, ?_, by simpa using hreach, fun i h => ?_⟩
    · have hll : ((List.range len).pmap (fun i h => Y i h) (fun i h => List.mem_range.1 h)).length = len := by simp
      rw [hll]
      refine ⟨some a, cap, rfl, hl, ⟨by simpa [maxLen] using hm, fun e => by cases e⟩, fun h0 => ?_⟩
      have hsp : a.spot = none := by
        obtain ⟨_, hcl, hat⟩ := World.cells?_some (hC 0 h0).1
        have h1 := hat 0 hpos
        rw [List.getElem?_eq_getElem (by omega)] at h1
        simp only [Nat.zero_mul, Addr.add, if_true] at h1
        cases hs : a.spot with
        | none => rfl
        | some q =>
          simp only [World.cell?, hs] at h1
          split at h1 <;> simp at h1
      obtain ⟨ab, ao, asp⟩ := a
      simp only at hsp
      subst hsp
      refine ⟨ab, ao, rfl, fun j hj => ?_⟩
      have hjl : j / P.cellsOf e < len := by rw [Nat.div_lt_iff_lt_mul hpos]; exact hj
      obtain ⟨_, hcl, hat⟩ := World.cells?_some (hC _ hjl).1
      have hr : j % P.cellsOf e < P.cellsOf e := Nat.mod_lt _ hpos
      have h1 := hat _ hr
      rw [Go.Deep.add_add] at h1
      have e1 : j / P.cellsOf e * P.cellsOf e + j % P.cellsOf e = j := by rw [Nat.mul_comm]; exact Nat.div_add_mod j _
      rw [e1] at h1
      have e2 : (⟨ab, ao, none⟩ : Addr).add j = ⟨ab, ao + j, none⟩ := by unfold Addr.add; split <;> simp_all
      rw [e2, List.getElem?_eq_getElem (by omega)] at h1
      rw [h1]; simp only [List.getD_eq_getElem?_getD]; rw [List.getElem?_eq_getElem (by omega)]; rfl
    · have hil : i < len := by simpa using h
      have e1 : ((List.range (P.cellsOf e)).map fun j => (C ((i * P.cellsOf e + j) / P.cellsOf e)).getD ((i * P.cellsOf e + j) % P.cellsOf e) undef) = C i := by
        obtain ⟨_, hcl, _⟩ := World.cells?_some (hC i hil).1
        apply List.ext_getElem
        · simp [hcl]
        · intro j h1 h2
          have hj : j < P.cellsOf e := by simpa using h1
          have e2 : (i * P.cellsOf e + j) / P.cellsOf e = i := by rw [Nat.mul_comm, Nat.mul_add_div hpos, Nat.div_eq_of_lt hj, Nat.add_zero]
          have e3 : (i * P.cellsOf e + j) % P.cellsOf e = j := by rw [Nat.mul_comm, Nat.mul_add_mod, Nat.mod_eq_of_lt hj]
          simp only [List.getElem_map, List.getElem_range, e2, e3]
          rw [List.getD_eq_getElem?_getD, List.getElem?_eq_getElem h2]; rfl
      show Q ((List.range (P.cellsOf e)).map fun j => (C ((i * P.cellsOf e + j) / P.cellsOf e)).getD ((i * P.cellsOf e + j) % P.cellsOf e) undef) _
      simp only [List.getElem_pmap, List.getElem_range]
      rw [e1]
      exact hY i hil
/-- A struct's fields, each read. -/
theorem op_fields {t : TypeId} {fs : Array Field} {fuel : Nat} {cs : List Value} {x : DataW H × List MemPlace} (ht : P.underlying t = some (.struct fs)) (h : DataW.trod enc P w base spare held fuel t cs = some x) (hw : (x.1.weights P t).all (· ≤ reachBytes) = true) :
    cs.length = P.cellsOf t ∧ ∀ (i : Nat) (f : Field), fs[i]? = some f → ∃ n y, DataW.trod enc P w base spare held n f.type ((cs.drop f.offset).take (P.cellsOf f.type)) = some y ∧ (y.1.weights P f.type).all (· ≤ reachBytes) = true := by
  obtain ⟨xs, n, rfl, rfl, hcl, hxl, hf⟩ := DataW.trod_struct ht h
  refine ⟨hcl, fun i f hi => ?_⟩
  have hil : i < xs.length := by rw [hxl]; exact (Array.getElem?_eq_some_iff.1 hi).1
  have h1 := hf i f hi
  rw [List.getElem?_eq_getElem hil] at h1
  refine ⟨n, xs[i], h1, ?_⟩
  simp only [DataW.weights, ht] at hw
  exact weightsEach_at hw i f.type _ (by rw [List.getElem?_map, Array.getElem?_toList, hi]; rfl) (by rw [List.getElem?_map, List.getElem?_eq_getElem hil]; rfl)
end
end Go.Proofs.YtnfceboppdcfdaaDoor
