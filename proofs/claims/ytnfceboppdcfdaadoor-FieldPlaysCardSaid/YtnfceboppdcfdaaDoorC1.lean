/- Slices that are read: what lies in their cells. -/
import Derived.Test.YtnfceboppdcfdaaDoorC0
namespace Go.Proofs.YtnfceboppdcfdaaDoor
open Go.RowKit

/-- The value v is a slice of n elements, each of sz cells; cell number j (of n * sz) holds c j. -/
def SlAt (w : World) (v : Value) (n sz : Nat) (c : Nat → Value) : Prop :=
  ∃ (A : Option Addr) (cap : Nat), v = .slice A n cap ∧ n ≤ cap ∧ (cap ≤ 9223372036854775807 ∧ (A = none → cap = 0)) ∧
    (0 < n → ∃ b off, A = some ⟨b, off, none⟩ ∧ ∀ j, j < n * sz → w.cell? ⟨b, off + j, none⟩ = some (c j))

theorem SlAt.gr {w w' : World} {v : Value} {n sz : Nat} {c : Nat → Value} (h : SlAt w v n sz c) (g : Gr w w') : SlAt w' v n sz c := by
  obtain ⟨A, cap, hv, hn, hc, hh⟩ := h
  refine ⟨A, cap, hv, hn, hc, fun h0 => ?_⟩
  obtain ⟨b, off, hA, hj⟩ := hh h0
  exact ⟨b, off, hA, fun j hjj => g.cell (hj j hjj)⟩

/-- What is at a place of a list: plain names, that the walk's simp leaves alone. -/
def gi (l : List Int) (j : Nat) : Int := l.getD j 0
def gb (l : List Bool) (j : Nat) : Bool := l.getD j false
def gs (l : List ByteArray) (j : Nat) : ByteArray := l.getD j ByteArray.empty
def SlInts (w : World) (v : Value) (l : List Int) : Prop := SlAt w v l.length 1 fun j => .int .i64 (gi l j)
def SlBools (w : World) (v : Value) (l : List Bool) : Prop := SlAt w v l.length 1 fun j => .bool (gb l j)
def SlStrs (w : World) (v : Value) (l : List ByteArray) : Prop := SlAt w v l.length 1 fun j => .string (gs l j)

theorem SlInts.gr {w w' : World} {v : Value} {l : List Int} (h : SlInts w v l) (g : Gr w w') : SlInts w' v l := SlAt.gr h g
theorem SlBools.gr {w w' : World} {v : Value} {l : List Bool} (h : SlBools w v l) (g : Gr w w') : SlBools w' v l := SlAt.gr h g
theorem SlStrs.gr {w w' : World} {v : Value} {l : List ByteArray} (h : SlStrs w v l) (g : Gr w w') : SlStrs w' v l := SlAt.gr h g
/-- A slice that is read: where its element k lies. -/
theorem SlAt.el {w : World} {A : Option Addr} {n m cap sz : Nat} {c : Nat → Value} (h : SlAt w (.slice A n cap) m sz c) {k : Nat} (hk : k < m) :
    ∃ b off, A = some ⟨b, off, none⟩ ∧ ∀ j, j < sz → w.cell? ⟨b, off + (k * sz + j), none⟩ = some (c (k * sz + j)) := by
  obtain ⟨A', cap', e, hn, hc, hh⟩ := h
  cases e
  obtain ⟨b, off, hA, hj⟩ := hh (by omega)
  refine ⟨b, off, hA, fun j hjs => hj _ ?_⟩
  have : k * sz + sz ≤ n * sz := by rw [← Nat.succ_mul]; exact Nat.mul_le_mul_right _ hk
  omega
theorem SlAt.open {w : World} {v : Value} {m sz : Nat} {c : Nat → Value} (h : SlAt w v m sz c) : ∃ A cap, v = .slice A m cap ∧ m ≤ cap ∧ cap ≤ 9223372036854775807 := by
  obtain ⟨A, cap, e, hn, hc, _⟩ := h
  exact ⟨A, cap, e, hn, hc.1⟩
theorem SlAt.none {w : World} {n m cap sz : Nat} {c : Nat → Value} (h : SlAt w (.slice none n cap) m sz c) : cap = 0 := by
  obtain ⟨A', cap', e, hn, hc, hh⟩ := h
  cases e
  exact hc.2 rfl
theorem SlInts.el {w : World} {A : Option Addr} {n cap : Nat} {l : List Int} (h : SlInts w (.slice A n cap) l) {k : Nat} (hk : k < l.length) : ∃ b off, A = some ⟨b, off, none⟩ ∧ w.cell? ⟨b, off + k, none⟩ = some (.int .i64 (gi l k)) := by
  obtain ⟨b, off, hA, hj⟩ := SlAt.el h hk
  exact ⟨b, off, hA, by simpa using hj 0 (by omega)⟩
theorem SlBools.el {w : World} {A : Option Addr} {n cap : Nat} {l : List Bool} (h : SlBools w (.slice A n cap) l) {k : Nat} (hk : k < l.length) : ∃ b off, A = some ⟨b, off, none⟩ ∧ w.cell? ⟨b, off + k, none⟩ = some (.bool (gb l k)) := by
  obtain ⟨b, off, hA, hj⟩ := SlAt.el h hk
  exact ⟨b, off, hA, by simpa using hj 0 (by omega)⟩
theorem SlStrs.el {w : World} {A : Option Addr} {n cap : Nat} {l : List ByteArray} (h : SlStrs w (.slice A n cap) l) {k : Nat} (hk : k < l.length) : ∃ b off, A = some ⟨b, off, none⟩ ∧ w.cell? ⟨b, off + k, none⟩ = some (.string (gs l k)) := by
  obtain ⟨b, off, hA, hj⟩ := SlAt.el h hk
  exact ⟨b, off, hA, by simpa using hj 0 (by omega)⟩
theorem SlStrs.take {w : World} {A : Option Addr} {n cap : Nat} {l : List ByteArray} (h : SlStrs w (.slice A n cap) l) {k : Nat} (hk : k < l.length) : SlStrs w (.slice A k cap) (l.take k) := by
  obtain ⟨A', cap', e, hn, hc, hh⟩ := h
  cases e
  obtain ⟨b, off, rfl, hj⟩ := hh (by omega)
  have hl : (l.take k).length = k := by simp; omega
  refine ⟨some ⟨b, off, none⟩, cap, by rw [hl], by omega, hc, fun _ => ⟨b, off, rfl, fun j hjj => ?_⟩⟩
  rw [hl] at hjj
  rw [hj j (by omega)]
  congr 2
  unfold gs
  simp [List.getD_eq_getElem?_getD, show j < k by omega]
theorem SlAt.inj {w : World} {A : Option Addr} {n m cap sz : Nat} {c : Nat → Value} (h : SlAt w (.slice A n cap) m sz c) : n = m := by
  obtain ⟨A', cap', e, hn, hc, hh⟩ := h
  cases e; rfl

theorem SlAt.congr {w : World} {v : Value} {n sz : Nat} {c c' : Nat → Value} (h : SlAt w v n sz c) (e : ∀ j, j < n * sz → c j = c' j) : SlAt w v n sz c' := by
  obtain ⟨A, cap, hv, hn, hc, hh⟩ := h
  refine ⟨A, cap, hv, hn, hc, fun h0 => ?_⟩
  obtain ⟨b, off, hA, hj⟩ := hh h0
  exact ⟨b, off, hA, fun j hjj => by rw [← e j hjj]; exact hj j hjj⟩
/-- A row that the call owns is a slice that can be read. -/
theorem own_slat {w : World} {base e size n : Nat} {v : Value} {xs : List Value} (h : w.ownsRow base e size v n xs) : SlAt w v n size fun j => xs.getD j undef := by
  obtain ⟨hl, h | ⟨g, cap, cur, rfl, hb, hh, hn, hc, hs, ht⟩⟩ := h
  · obtain ⟨rfl, rfl⟩ := h
    exact ⟨none, 0, rfl, by omega, ⟨by omega, fun _ => rfl⟩, fun h => by omega⟩
  · refine ⟨_, cap, rfl, hn, ⟨by simpa [maxLen] using hc, fun h => by cases h⟩, fun h0 => ⟨g, 0, rfl, fun j hj => ?_⟩⟩
    have hlt : j < cur.size := by
      rw [hs]
      exact Nat.lt_of_lt_of_le hj (Nat.mul_le_mul_right _ hn)
    simp only [World.cell?, hh, Nat.zero_add, Option.isSome_none, Bool.false_eq_true, if_false]
    rw [← ht, List.getD_eq_getElem?_getD, List.getElem?_take, if_pos hj]
    simp [hlt]
/-- What the call owns from its own begin on: grown is grown. -/
theorem Gr.grown {a b c : World} (h : Gr a b) {row : Option Nat} (hg : b.grownBy c row) (hr : ∀ k, row = some k → a.heap.size ≤ k) : Gr a c :=
  Gr.of_below (h.below.grown hg h.below.size hr)
theorem own_base {w : World} {base e size n : Nat} {v : Value} {xs : List Value} (h : w.ownsRow base e size v n xs) : ∀ k, v.ownBlock = some k → base ≤ k := fun k hk => (h.lt k hk).1
theorem own_gr {w w' : World} {base e size n : Nat} {v : Value} {xs : List Value} (h : w.ownsRow base e size v n xs) (g : Gr w w') : w'.ownsRow base e size v n xs :=
  h.kept ⟨g.below.os, g.below.tape, g.below.output, g.below.size, fun k hk _ => g.below.block k hk⟩ (row := none) (by cases v.ownBlock <;> simp)

theorem add_head (n j : Nat) : (⟨n, 0, none⟩ : Addr).add j = ⟨n, j, none⟩ := by unfold Addr.add; split <;> simp_all
/-- The cells of a block that was just laid. -/
theorem new_cells {w : World} {l : List Value} {t : TypeId} {n : Nat} (hn : n = w.heap.size) : ∀ j u, l[j]? = some u → (w.alloc (.cells l.toArray t)).cell? ((⟨n, 0, none⟩ : Addr).add j) = some u := by
  subst hn
  intro j u h
  rw [add_head, World.cell?_alloc_new]
  simpa using h

def strVals (l : List ByteArray) : List Value := l.map Value.string
theorem strVals_snoc (l : List ByteArray) (s : ByteArray) : strVals l ++ [.string s] = strVals (l ++ [s]) := by simp [strVals]
theorem strs_slat {w : World} {base e : Nat} {v : Value} {l : List ByteArray} (h : w.ownsRow base e 1 v l.length (strVals l)) : SlStrs w v l := by
  refine (own_slat h).congr fun j hj => ?_
  rw [Nat.mul_one] at hj
  simp [strVals, gs, List.getD_eq_getElem?_getD, hj]
def intVals (l : List Int) : List Value := l.map (Value.int .i64)
theorem intVals_snoc (l : List Int) (s : Int) : intVals l ++ [.int .i64 s] = intVals (l ++ [s]) := by simp [intVals]
theorem ints_slat {w : World} {base e : Nat} {v : Value} {l : List Int} (h : w.ownsRow base e 1 v l.length (intVals l)) : SlInts w v l := by
  refine (own_slat h).congr fun j hj => ?_
  rw [Nat.mul_one] at hj
  simp [intVals, gi, List.getD_eq_getElem?_getD, hj]

/-- A block laid later is not the row's. -/
theorem row_ne {w : World} {base e size n : Nat} {v : Value} {xs : List Value} (h : w.ownsRow base e size v n xs) {b : Nat} (hb : w.heap.size ≤ b) : some b ≠ v.ownBlock := fun e => by
  have := (h.lt b e.symm).2
  omega

/-- Does p hold of a number below n? -/
def anyB (p : Nat → Bool) : Nat → Bool | 0 => false | n + 1 => anyB p n || p n
theorem anyB_zero (p : Nat → Bool) : anyB p 0 = false := rfl
theorem anyB_step {p : Nat → Bool} {k : Nat} (h0 : anyB p k = false) (h1 : p k = false) : anyB p (k + 1) = false := by simp [anyB, h0, h1]
theorem anyB_true {p : Nat → Bool} {n k : Nat} (hk : k < n) (h1 : p k = true) : anyB p n = true := by
  induction n with
  | zero => omega
  | succ n ih =>
    simp only [anyB, Bool.or_eq_true]
    by_cases h : k = n
    · subst h; exact .inr h1
    · exact .inl (ih (by omega))
theorem anyB_iff {p : Nat → Bool} {n : Nat} : anyB p n = true ↔ ∃ k, k < n ∧ p k = true := by
  constructor
  · induction n with
    | zero => intro h; cases h
    | succ n ih =>
      intro h
      simp only [anyB, Bool.or_eq_true] at h
      rcases h with h | h
      · obtain ⟨k, hk, hp⟩ := ih h; exact ⟨k, by omega, hp⟩
      · exact ⟨n, by omega, h⟩
  · rintro ⟨k, hk, hp⟩; exact anyB_true hk hp
theorem anyB_false {p : Nat → Bool} {n : Nat} : anyB p n = false ↔ ∀ k, k < n → p k = false := by
  rw [← Bool.not_eq_true, anyB_iff]
  constructor
  · intro h k hk; rw [← Bool.not_eq_true]; exact fun hp => h ⟨k, hk, hp⟩
  · rintro h ⟨k, hk, hp⟩; rw [h k hk] at hp; cases hp
theorem anyB_congr {p q : Nat → Bool} {n : Nat} (h : ∀ k, k < n → p k = q k) : anyB p n = anyB q n := by
  induction n with
  | zero => rfl
  | succ n ih => simp only [anyB]; rw [ih (fun k hk => h k (by omega)), h n (by omega)]

/-- Is a number among some? -/
def inI (l : List Int) (n : Int) : Bool := anyB (fun j => gi l j == n) l.length
theorem ret_bool {a b : Bool} (h : a = b) : Ending.returned (.bool a) = .returned (.bool b) := by rw [h]
theorem ret_i64 {a b : Int} (h : a = b) : Ending.returned (.int .i64 a) = .returned (.int .i64 b) := by rw [h]

end Go.Proofs.YtnfceboppdcfdaaDoor
