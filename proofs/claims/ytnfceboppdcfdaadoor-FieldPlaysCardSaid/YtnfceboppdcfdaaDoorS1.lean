/- What chapter 1 (glyph) comes to, as far as names go: plain functions. -/
import Derived.Test.YtnfceboppdcfdaaDoorC1
import Derived.Lib.RuneCountTail
import Derived.Lib.RuneCount
import Derived.Lib.QuoteLoop
import Derived.Lib.OthersKept
import Derived.Shelf.Unicode.DecodeSlow
namespace Go.Proofs.YtnfceboppdcfdaaDoor
open Go.RowKit

def letterB (r : Nat) : Bool := (decide (97 ≤ r) && decide (r ≤ 122)) || (decide (65 ≤ r) && decide (r ≤ 90)) || (decide (192 ≤ r) && decide (r ≤ 591) && !(r == 215) && !(r == 247))
def digitB (r : Nat) : Bool := decide (48 ≤ r) && decide (r ≤ 57)
def runeBad (s : ByteArray) (pos : Nat) : Bool := (Utf8.decode s pos).1 == 65533 && (Utf8.decode s pos).2 == 1
def stepBad (s : ByteArray) (pos : Nat) : Bool := runeBad s pos || (!letterB (Utf8.decode s pos).1 && !(digitB (Utf8.decode s pos).1 && decide (0 < pos)))
/-- From a place on, behind n runes, by at most so many more. -/
def nameFrom (s : ByteArray) : Nat → Nat → Nat → Bool
  | 0, _, n => decide (1 ≤ n) && decide (n ≤ 8)
  | f + 1, pos, n => if pos < s.size then (if stepBad s pos then false else nameFrom s f (pos + (Utf8.decode s pos).2) (n + 1)) else decide (1 ≤ n) && decide (n ≤ 8)
def isNameB (s : ByteArray) : Bool := nameFrom s s.size 0 0

theorem nameFrom_end (s : ByteArray) (f pos n : Nat) (h : ¬ pos < s.size) : nameFrom s f pos n = (decide (1 ≤ n) && decide (n ≤ 8)) := by
  cases f with
  | zero => rfl
  | succ f => simp [nameFrom, h]
theorem width_pos (s : ByteArray) (pos : Nat) (h : pos < s.size) : 1 ≤ (Utf8.decode s pos).2 := Lib.decode_width_pos s pos h
theorem width_le (s : ByteArray) (pos : Nat) (h : pos < s.size) : pos + (Utf8.decode s pos).2 ≤ s.size := by
  have h1 := Lib.tail_decode s pos 0
  rw [Nat.add_zero] at h1
  rw [← h1]
  have h2 : (s.extract pos s.size).size = s.size - pos := by simp
  have := Lib.width_le (s.extract pos s.size) (by omega)
  omega
theorem decode_tail (s : ByteArray) (pos : Nat) (h : pos < s.size) : Lib.decodeGo (s.extract pos s.size) = Utf8.decode s pos := by
  have h2 : (s.extract pos s.size).size = s.size - pos := by simp
  unfold Lib.decodeGo
  rw [if_neg (by omega), Lib.tail_decode s pos 0, Nat.add_zero]

/-- The runes of a text from a place on: each with its width. -/
def runesFrom (s : ByteArray) : Nat → Nat → List (Nat × Nat)
  | 0, _ => []
  | f + 1, pos => if pos < s.size then Utf8.decode s pos :: runesFrom s f (pos + (Utf8.decode s pos).2) else []
def runesOf (s : ByteArray) : List (Nat × Nat) := runesFrom s s.size 0
theorem runesFrom_end (s : ByteArray) (f pos : Nat) (h : ¬ pos < s.size) : runesFrom s f pos = [] := by
  cases f with
  | zero => rfl
  | succ f => simp [runesFrom, h]
theorem runesFrom_len (s : ByteArray) (f : Nat) : ∀ pos, (runesFrom s f pos).length ≤ f := by
  induction f with
  | zero => intro pos; simp [runesFrom]
  | succ f ih =>
    intro pos
    simp only [runesFrom]
    split
    · simp only [List.length_cons]; have := ih (pos + (Utf8.decode s pos).2); omega
    · simp
def gr2 (l : List (Nat × Nat)) (i : Nat) : Nat × Nat := l.getD i (0, 0)
def badR (d : Nat × Nat) : Bool := d.1 == 65533 && d.2 == 1
def runeOut (l : List (Nat × Nat)) (i : Nat) : Bool := badR (gr2 l i) || (!letterB (gr2 l i).1 && (i == 0 || !digitB (gr2 l i).1))
def isNameL (l : List (Nat × Nat)) : Bool := !anyB (runeOut l) l.length && (decide (1 ≤ l.length) && decide (l.length ≤ 8))
theorem gr2_append (a : List (Nat × Nat)) (d : Nat × Nat) (b : List (Nat × Nat)) : gr2 (a ++ d :: b) a.length = d := by simp [gr2, List.getD_eq_getElem?_getD]
theorem isName_list (s : ByteArray) (f : Nat) : ∀ (acc : List (Nat × Nat)) (pos : Nat), (acc = [] ↔ pos = 0) → s.size ≤ pos + f → anyB (runeOut (acc ++ runesFrom s f pos)) acc.length = false →
    nameFrom s f pos acc.length = isNameL (acc ++ runesFrom s f pos) := by
  induction f with
  | zero =>
    intro acc pos h0 hf ha
    simp only [runesFrom, List.append_nil] at ha ⊢
    simp [nameFrom, isNameL, ha]
  | succ f ih =>
    intro acc pos h0 hf ha
    by_cases hp : pos < s.size
    · have hw := width_pos s pos hp
      have e : runesFrom s (f + 1) pos = Utf8.decode s pos :: runesFrom s f (pos + (Utf8.decode s pos).2) := by simp [runesFrom, hp]
      rw [e] at ha ⊢
      have e2 : acc ++ Utf8.decode s pos :: runesFrom s f (pos + (Utf8.decode s pos).2) = (acc ++ [Utf8.decode s pos]) ++ runesFrom s f (pos + (Utf8.decode s pos).2) := by simp
      have hz : (acc.length == 0) = !decide (0 < pos) := by
        rw [Bool.eq_iff_iff]; simp only [beq_iff_eq, Bool.not_eq_true', decide_eq_false_iff_not, List.length_eq_zero_iff]
        constructor
        · intro h; have := h0.1 h; omega
        · intro h; exact h0.2 (by omega)
      have ho : runeOut (acc ++ Utf8.decode s pos :: runesFrom s f (pos + (Utf8.decode s pos).2)) acc.length = stepBad s pos := by
        unfold runeOut stepBad badR runeBad
        rw [gr2_append, hz]
        cases (digitB (Utf8.decode s pos).1) <;> cases (decide (0 < pos)) <;> simp
      simp only [nameFrom, if_pos hp]
      split
      · rename_i hb
        rw [hb] at ho
        have := anyB_true (p := runeOut (acc ++ Utf8.decode s pos :: runesFrom s f (pos + (Utf8.decode s pos).2))) (n := (acc ++ Utf8.decode s pos :: runesFrom s f (pos + (Utf8.decode s pos).2)).length) (k := acc.length) (by simp) ho
        unfold isNameL; rw [this]; rfl
      · rename_i hb
        have hb : stepBad s pos = false := by simpa using hb
        rw [hb] at ho
        have h1 := anyB_step ha ho
        rw [e2] at h1 ⊢
        have := ih (acc ++ [Utf8.decode s pos]) (pos + (Utf8.decode s pos).2) (by simp; omega) (by omega) (by simpa using h1)
        simpa using this
    · rw [runesFrom_end s _ pos hp, List.append_nil] at ha ⊢
      rw [nameFrom_end s _ pos _ hp]
      simp [isNameL, ha]
theorem isName_runes (s : ByteArray) : isNameL (runesOf s) = isNameB s := by
  have := isName_list s s.size [] 0 (by simp) (by omega) rfl
  exact this.symm
theorem runesFrom_small (s : ByteArray) (f : Nat) : ∀ pos, ∀ d ∈ runesFrom s f pos, d.1 ≤ 2147483647 := by
  induction f with
  | zero => intro pos d hd; simp [runesFrom] at hd
  | succ f ih =>
    intro pos d hd
    simp only [runesFrom] at hd
    split at hd
    · rcases List.mem_cons.1 hd with rfl | hd
      · exact decode_le s pos
      · exact ih _ d hd
    · simp at hd
theorem runes_small (s : ByteArray) : ∀ i, i < (runesOf s).length → (gr2 (runesOf s) i).1 ≤ 2147483647 := by
  intro i hi
  have : gr2 (runesOf s) i = (runesOf s)[i] := by simp [gr2, List.getD_eq_getElem?_getD, hi]
  rw [this]
  exact runesFrom_small s _ _ _ (List.getElem_mem hi)
def runeCell (l : List (Nat × Nat)) (j : Nat) : Value :=
  if j % 3 = 0 then .int .i32 (gr2 l (j / 3)).1 else if j % 3 = 1 then .int .i64 (gr2 l (j / 3)).2 else .bool (badR (gr2 l (j / 3)))
def SlRunes (w : World) (v : Value) (l : List (Nat × Nat)) : Prop := SlAt w v l.length 3 (runeCell l)
def runeVals (l : List (Nat × Nat)) : List Value := l.flatMap fun d => [.int .i32 d.1, .int .i64 d.2, .bool (badR d)]
theorem runeVals_snoc (l : List (Nat × Nat)) (d : Nat × Nat) : runeVals (l ++ [d]) = runeVals l ++ [.int .i32 d.1, .int .i64 d.2, .bool (badR d)] := by simp [runeVals]
theorem flat3 {α : Type} (f : α → List Value) (hf : ∀ a, (f a).length = 3) (l : List α) : ∀ (i r : Nat) (h : i < l.length), r < 3 → (l.flatMap f)[i * 3 + r]? = (f l[i])[r]? := by
  induction l with
  | nil => intro i r h; simp at h
  | cons a l ih =>
    intro i r h hr
    rw [List.flatMap_cons]
    cases i with
    | zero => rw [List.getElem?_append_left (by rw [hf]; omega)]; simp
    | succ i =>
      rw [List.getElem?_append_right (by rw [hf]; omega), hf, show (i + 1) * 3 + r - 3 = i * 3 + r by omega]
      have := ih i r (by simpa using h) hr
      rw [this]; simp
theorem runes_slat {w : World} {base e : Nat} {v : Value} {l : List (Nat × Nat)} (h : w.ownsRow base e 3 v l.length (runeVals l)) : SlRunes w v l := by
  refine (own_slat h).congr fun j hj => ?_
  have hi : j / 3 < l.length := by omega
  have hj3 : j = j / 3 * 3 + j % 3 := by omega
  have := flat3 (fun d : Nat × Nat => [Value.int .i32 d.1, .int .i64 d.2, .bool (badR d)]) (fun _ => rfl) l (j / 3) (j % 3) hi (by omega)
  rw [List.getD_eq_getElem?_getD]
  unfold runeVals
  rw [hj3, this]
  unfold runeCell
  have hg : gr2 l (j / 3) = l[j / 3] := by simp [gr2, List.getD_eq_getElem?_getD, hi]
  rw [← hj3, hg]
  have h3 : j % 3 = 0 ∨ j % 3 = 1 ∨ j % 3 = 2 := by omega
  rcases h3 with h3 | h3 | h3 <;> simp [h3]
theorem SlRunes.el {w : World} {A : Option Addr} {n cap : Nat} {l : List (Nat × Nat)} (h : SlRunes w (.slice A n cap) l) {k : Nat} (hk : k < l.length) :
    ∃ b off, A = some ⟨b, off, none⟩ ∧ w.cell? ⟨b, off + k * 3, none⟩ = some (.int .i32 (gr2 l k).1) ∧ w.cell? ⟨b, off + k * 3 + 1, none⟩ = some (.int .i64 (gr2 l k).2) ∧ w.cell? ⟨b, off + k * 3 + 2, none⟩ = some (.bool (badR (gr2 l k))) := by
  obtain ⟨b, off, hA, hj⟩ := SlAt.el h hk
  refine ⟨b, off, hA, ?_, ?_, ?_⟩
  · rw [show off + k * 3 = off + (k * 3 + 0) by omega, hj 0 (by omega)]; unfold runeCell; rw [if_pos (by omega), show (k * 3 + 0) / 3 = k by omega]
  · rw [show off + k * 3 + 1 = off + (k * 3 + 1) by omega, hj 1 (by omega)]; unfold runeCell; rw [if_neg (by omega), if_pos (by omega), show (k * 3 + 1) / 3 = k by omega]
  · rw [show off + k * 3 + 2 = off + (k * 3 + 2) by omega, hj 2 (by omega)]; unfold runeCell; rw [if_neg (by omega), if_neg (by omega), show (k * 3 + 2) / 3 = k by omega]
end Go.Proofs.YtnfceboppdcfdaaDoor
