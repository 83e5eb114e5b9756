/- Zones: which blocks a call may have changed; rows that are written. -/
import Derived.Test.YtnfceboppdcfdaaDoorC2
namespace Go.Proofs.YtnfceboppdcfdaaDoor
open Go.RowKit

open Classical in
/-- Is a block out of a zone? -/
noncomputable def outB (Z : Nat → Prop) (b : Nat) : Bool := decide (¬ Z b)
theorem outB_of {Z : Nat → Prop} {b : Nat} (h : ¬ Z b) : outB Z b = true := by simp [outB, h]
/-- Of the old blocks those of a zone alone may have changed. -/
structure ChgZ (Z : Nat → Prop) (w w' : World) : Prop where
  os : w'.os = w.os
  tape : w'.tape = w.tape
  output : w'.output = w.output
  size : w.heap.size ≤ w'.heap.size
  block : ∀ k, k < w.heap.size → ¬ Z k → w'.heap[k]? = w.heap[k]?
theorem ChgZ.refl (Z : Nat → Prop) (w : World) : ChgZ Z w w := ⟨rfl, rfl, rfl, Nat.le_refl _, fun _ _ _ => rfl⟩
theorem ChgZ.trans {Z : Nat → Prop} {a b c : World} (h : ChgZ Z a b) (k : ChgZ Z b c) : ChgZ Z a c :=
  ⟨k.os.trans h.os, k.tape.trans h.tape, k.output.trans h.output, Nat.le_trans h.size k.size, fun i hi hz => (k.block i (Nat.lt_of_lt_of_le hi h.size) hz).trans (h.block i hi hz)⟩
/-- A change within a zone that was as large, or in blocks that were not there. -/
theorem ChgZ.then {Z Z' : Nat → Prop} {a b c : World} (h : ChgZ Z a b) (k : ChgZ Z' b c) (hz : ∀ i, Z' i → Z i ∨ a.heap.size ≤ i) : ChgZ Z a c :=
  ⟨k.os.trans h.os, k.tape.trans h.tape, k.output.trans h.output, Nat.le_trans h.size k.size, fun i hi hi2 => (k.block i (Nat.lt_of_lt_of_le hi h.size) (fun e => by
    rcases hz i e with h1 | h1
    · exact hi2 h1
    · omega)).trans (h.block i hi hi2)⟩
theorem ChgZ.mono {Z Z' : Nat → Prop} {a b : World} (h : ChgZ Z a b) (hz : ∀ i, Z i → Z' i) : ChgZ Z' a b := ⟨h.os, h.tape, h.output, h.size, fun k hk hn => h.block k hk fun e => hn (hz k e)⟩
theorem ChgZ.of_gr {Z : Nat → Prop} {a b : World} (h : Gr a b) : ChgZ Z a b := ⟨h.below.os, h.below.tape, h.below.output, h.below.size, fun k hk _ => h.below.block k hk⟩
theorem ChgZ.gr {Z : Nat → Prop} {a b : World} (h : ChgZ Z a b) (hz : ∀ i, Z i → a.heap.size ≤ i) : Gr a b :=
  Gr.of_below ⟨h.os, h.tape, h.output, h.size, fun k hk => h.block k hk fun e => by have := hz k e; omega⟩
theorem ChgZ.alloc {Z : Nat → Prop} {a b : World} (h : ChgZ Z a b) (o : Obj) : ChgZ Z a (b.alloc o) := h.trans (.of_gr (.alloc (.refl _) o))
theorem ChgZ.drew {Z : Nat → Prop} {a b : World} (h : ChgZ Z a b) : ChgZ Z a b.drew := h.trans (.of_gr (.drew (.refl _)))
theorem ChgZ.drewN {Z : Nat → Prop} {a b : World} (h : ChgZ Z a b) (n : Nat) : ChgZ Z a (b.drewN n) := h.trans (.of_gr (.drewN (.refl _) n))
theorem ChgZ.plus {Z : Nat → Prop} {a b : World} (h : ChgZ Z a b) (m : More) : ChgZ Z a (b.plus m) := h.trans (.of_gr ⟨m, rfl⟩)
theorem ChgZ.setCell {Z : Nat → Prop} {a b : World} (h : ChgZ Z a b) {p : Addr} (hp : Z p.block ∨ a.heap.size ≤ p.block) (v : Value) : ChgZ Z a (b.setCell p v) :=
  ⟨h.os, h.tape, h.output, by simp [World.setCell]; exact h.size, fun k hk hz => by
    have hne : k ≠ p.block := fun e => by
      rcases hp with hp | hp
      · rw [← e] at hp; exact hz hp
      · rw [← e] at hp; omega
    rw [Below.heap_setCell _ _ _ _ hne]
    exact h.block k hk hz⟩
theorem ChgZ.cell {Z : Nat → Prop} {a b : World} (h : ChgZ Z a b) {p : Addr} {v : Value} (hz : ¬ Z p.block) (hc : a.cell? p = some v) : b.cell? p = some v := by
  have := h.block p.block (World.block_lt_of_cell? a p hc) hz
  rw [← hc]; simp only [World.cell?, this]

/-- The world behind such a change. -/
def _root_.Go.World.upd (w : World) (Z : Nat → Prop) (m : { w' : World // ChgZ Z w w' }) : World := m.1
def updMore {w : World} {Z : Nat → Prop} (m : { w' : World // ChgZ Z w w' }) : Nat := m.1.heap.size - w.heap.size
def updLook {w : World} {Z : Nat → Prop} (m : { w' : World // ChgZ Z w w' }) (a : Addr) : Option Value := m.1.cell? a
def updMarked {w : World} {Z : Nat → Prop} (m : { w' : World // ChgZ Z w w' }) (a : Addr) : Bool := m.1.frozen? a
theorem ChgZ.upd {Z : Nat → Prop} {w w' : World} (h : ChgZ Z w w') : ∃ m, w' = w.upd Z m := ⟨⟨w', h⟩, rfl⟩
theorem upd_chg (w : World) (Z : Nat → Prop) (m : { w' : World // ChgZ Z w w' }) : ChgZ Z w (w.upd Z m) := m.2
@[simp, go_sem] theorem size_upd (w : World) (Z : Nat → Prop) (m : { w' : World // ChgZ Z w w' }) : (w.upd Z m).heap.size = w.heap.size + updMore m := by
  have := m.2.size
  unfold World.upd updMore; omega
@[simp, go_sem] theorem tape_upd (w : World) (Z : Nat → Prop) (m : { w' : World // ChgZ Z w w' }) : (w.upd Z m).tape = w.tape := m.2.tape
@[go_sem low] theorem cell?_upd_if (w : World) (Z : Nat → Prop) (m : { w' : World // ChgZ Z w w' }) (a : Addr) : (w.upd Z m).cell? a = if (w.cell? a).isSome = true ∧ outB Z a.block = true then w.cell? a else updLook m a := by
  split
  · rename_i h
    have hz : ¬ Z a.block := by have := h.2; simpa [outB] using this
    have := m.2.block a.block (lt_of_isSome w h.1) hz
    simp only [World.cell?, World.upd, this]
  · rfl
@[go_sem low] theorem frozen?_upd_if (w : World) (Z : Nat → Prop) (m : { w' : World // ChgZ Z w w' }) (a : Addr) : (w.upd Z m).frozen? a = if (w.cell? a).isSome = true ∧ outB Z a.block = true then w.frozen? a else updMarked m a := by
  split
  · rename_i h
    have hz : ¬ Z a.block := by have := h.2; simpa [outB] using this
    have := m.2.block a.block (lt_of_isSome w h.1) hz
    simp only [World.frozen?, World.upd, this]
  · rfl
theorem ChgZ.updz {Z Z' : Nat → Prop} {a b : World} (h : ChgZ Z a b) (hz : ∀ i, Z' i → Z i ∨ a.heap.size ≤ i) (m : { w' : World // ChgZ Z' b w' }) : ChgZ Z a (b.upd Z' m) := h.then m.2 hz

/-- Blocks of a kind are as they were. -/
structure Keep (F : Nat → Prop) (w w' : World) : Prop where
  os : w'.os = w.os
  tape : w'.tape = w.tape
  output : w'.output = w.output
  size : w.heap.size ≤ w'.heap.size
  block : ∀ k, F k → k < w.heap.size → w'.heap[k]? = w.heap[k]?
theorem Keep.refl (F : Nat → Prop) (w : World) : Keep F w w := ⟨rfl, rfl, rfl, Nat.le_refl _, fun _ _ _ => rfl⟩
theorem Keep.trans {F : Nat → Prop} {a b c : World} (h : Keep F a b) (k : Keep F b c) : Keep F a c :=
  ⟨k.os.trans h.os, k.tape.trans h.tape, k.output.trans h.output, Nat.le_trans h.size k.size, fun i hf hi => (k.block i hf (Nat.lt_of_lt_of_le hi h.size)).trans (h.block i hf hi)⟩
theorem Keep.of_chg {F Z : Nat → Prop} {a b : World} (h : ChgZ Z a b) (hd : ∀ i, F i → ¬ Z i) : Keep F a b := ⟨h.os, h.tape, h.output, h.size, fun k hf hk => h.block k hk (hd k hf)⟩
theorem Keep.of_gr {F : Nat → Prop} {a b : World} (h : Gr a b) : Keep F a b := ⟨h.below.os, h.below.tape, h.below.output, h.below.size, fun k _ hk => h.below.block k hk⟩
theorem Keep.mono {F F' : Nat → Prop} {a b : World} (h : Keep F a b) (hf : ∀ i, F' i → F i) : Keep F' a b := ⟨h.os, h.tape, h.output, h.size, fun k hk hl => h.block k (hf k hk) hl⟩
theorem Keep.cell {F : Nat → Prop} {a b : World} (h : Keep F a b) {p : Addr} {v : Value} (hf : F p.block) (hc : a.cell? p = some v) : b.cell? p = some v := by
  have := h.block p.block hf (World.block_lt_of_cell? a p hc)
  rw [← hc]; simp only [World.cell?, this]
/-- A slice that is read, in blocks of a kind. -/
def SlF (F : Nat → Prop) (w : World) (v : Value) (n sz : Nat) (c : Nat → Value) : Prop := ∀ w', Keep F w w' → SlAt w' v n sz c
theorem SlF.keep {F : Nat → Prop} {w w' : World} {v : Value} {n sz : Nat} {c : Nat → Value} (h : SlF F w v n sz c) (k : Keep F w w') : SlF F w' v n sz c := fun _ k2 => h _ (k.trans k2)
theorem SlF.at {F : Nat → Prop} {w : World} {v : Value} {n sz : Nat} {c : Nat → Value} (h : SlF F w v n sz c) : SlAt w v n sz c := h _ (.refl _ _)
theorem SlF.mono {F F' : Nat → Prop} {w : World} {v : Value} {n sz : Nat} {c : Nat → Value} (h : SlF F w v n sz c) (hf : ∀ i, F i → F' i) : SlF F' w v n sz c := fun _ k => h _ (k.mono hf)
theorem SlF.nil {F : Nat → Prop} {w : World} {sz : Nat} {c : Nat → Value} : SlF F w (.slice none 0 0) 0 sz c := fun _ _ => slat_nil
theorem slf_of {F : Nat → Prop} {w : World} {b off n cap sz : Nat} {c : Nat → Value} (hn : n ≤ cap) (hc : cap ≤ 9223372036854775807) (hf : F b) (h : ∀ j, j < n * sz → w.cell? ⟨b, off + j, none⟩ = some (c j)) : SlF F w (.slice (some ⟨b, off, none⟩) n cap) n sz c :=
  fun _ k => ⟨_, _, rfl, hn, ⟨hc, fun e => by cases e⟩, fun _ => ⟨b, off, rfl, fun j hj => k.cell hf (h j hj)⟩⟩
theorem own_slf {F : Nat → Prop} {w : World} {base e size n : Nat} {v : Value} {xs : List Value} (h : w.ownsRow base e size v n xs) (hf : ∀ b, base ≤ b → b < w.heap.size → F b) : SlF F w v n size fun j => xs.getD j undef := by
  obtain ⟨hl, h | ⟨g, cap, cur, rfl, hb, hh, hn, hc, hs, ht⟩⟩ := h
  · obtain ⟨rfl, rfl⟩ := h
    exact fun _ _ => ⟨none, 0, rfl, by omega, ⟨by omega, fun _ => rfl⟩, fun h => by omega⟩
  · have hg : g < w.heap.size := by
      rcases Nat.lt_or_ge g w.heap.size with h1 | h1
      · exact h1
      · rw [Array.getElem?_eq_none h1] at hh; cases hh
    refine slf_of hn (by simpa [maxLen] using hc) (hf g hb hg) fun j hj => ?_
    have hlt : j < cur.size := by
      rw [hs]
      exact Nat.lt_of_lt_of_le hj (Nat.mul_le_mul_right _ hn)
    simp only [World.cell?, hh, Nat.zero_add, Option.isSome_none, Bool.false_eq_true, if_false]
    rw [← ht, List.getD_eq_getElem?_getD, List.getElem?_take, if_pos hj]
    simp [hlt]
theorem SlF.congr {F : Nat → Prop} {w : World} {v : Value} {n sz : Nat} {c c' : Nat → Value} (h : SlF F w v n sz c) (e : ∀ j, j < n * sz → c j = c' j) : SlF F w v n sz c' := fun _ k => (h _ k).congr e

/-- A row that is written: a slice of n elements, each of sz cells, that lies in a block of a zone; cell number j holds c j. -/
def MutAt (Z : Nat → Prop) (w : World) (v : Value) (n sz : Nat) (c : Nat → Value) : Prop :=
  ∃ (A : Option Addr) (cap : Nat), v = .slice A n cap ∧ n ≤ cap ∧ (cap ≤ 9223372036854775807 ∧ (A = none → cap = 0)) ∧
    (0 < n → ∃ b off cs T, A = some ⟨b, off, none⟩ ∧ Z b ∧ w.heap[b]? = some (.cells cs T (0, 0)) ∧ ∀ j, j < n * sz → cs[off + j]? = some (c j))
theorem MutAt.at {Z : Nat → Prop} {w : World} {v : Value} {n sz : Nat} {c : Nat → Value} (h : MutAt Z w v n sz c) : SlAt w v n sz c := by
  obtain ⟨A, cap, rfl, hn, hc, hh⟩ := h
  refine ⟨A, cap, rfl, hn, hc, fun h0 => ?_⟩
  obtain ⟨b, off, cs, T, rfl, hz, hb, hj⟩ := hh h0
  exact ⟨b, off, rfl, fun j hjj => blk_cell hb (hj j hjj)⟩
theorem MutAt.keep {Z : Nat → Prop} {w w' : World} {v : Value} {n sz : Nat} {c : Nat → Value} (h : MutAt Z w v n sz c) (k : Keep Z w w') : MutAt Z w' v n sz c := by
  obtain ⟨A, cap, rfl, hn, hc, hh⟩ := h
  refine ⟨A, cap, rfl, hn, hc, fun h0 => ?_⟩
  obtain ⟨b, off, cs, T, rfl, hz, hb, hj⟩ := hh h0
  refine ⟨b, off, cs, T, rfl, hz, ?_, hj⟩
  rw [k.block b hz (lt_of_block hb)]; exact hb
theorem MutAt.mono {Z Z' : Nat → Prop} {w : World} {v : Value} {n sz : Nat} {c : Nat → Value} (h : MutAt Z w v n sz c) (hz : ∀ b, Z b → b < w.heap.size → Z' b) : MutAt Z' w v n sz c := by
  obtain ⟨A, cap, rfl, hn, hc, hh⟩ := h
  refine ⟨A, cap, rfl, hn, hc, fun h0 => ?_⟩
  obtain ⟨b, off, cs, T, rfl, hz1, hb, hj⟩ := hh h0
  exact ⟨b, off, cs, T, rfl, hz b hz1 (lt_of_block hb), hb, hj⟩
theorem MutAt.congr {Z : Nat → Prop} {w : World} {v : Value} {n sz : Nat} {c c' : Nat → Value} (h : MutAt Z w v n sz c) (e : ∀ j, j < n * sz → c j = c' j) : MutAt Z w v n sz c' := by
  obtain ⟨A, cap, rfl, hn, hc, hh⟩ := h
  refine ⟨A, cap, rfl, hn, hc, fun h0 => ?_⟩
  obtain ⟨b, off, cs, T, rfl, hz1, hb, hj⟩ := hh h0
  exact ⟨b, off, cs, T, rfl, hz1, hb, fun j hj2 => by rw [hj j hj2, e j hj2]⟩
/-- Where it lies, and that it may be written. -/
theorem MutAt.el {Z : Nat → Prop} {w : World} {A : Option Addr} {n cap m sz : Nat} {c : Nat → Value} (h : MutAt Z w (.slice A n cap) m sz c) (h0 : 0 < m) :
    ∃ b off, A = some ⟨b, off, none⟩ ∧ Z b ∧ (∀ o, w.frozen? ⟨b, o, none⟩ = false) ∧ ∀ k, k < m → ∀ j, j < sz → w.cell? ⟨b, off + (k * sz + j), none⟩ = some (c (k * sz + j)) := by
  obtain ⟨A', cap', e, hn, hc, hh⟩ := h
  cases e
  obtain ⟨b, off, cs, T, rfl, hz, hb, hj⟩ := hh h0
  refine ⟨b, off, rfl, hz, fun o => by simp [World.frozen?, hb], fun k hk j hjs => blk_cell hb (hj _ ?_)⟩
  have : k * sz + sz ≤ n * sz := by rw [← Nat.succ_mul]; exact Nat.mul_le_mul_right _ hk
  omega
theorem MutAt.store {Z : Nat → Prop} {w : World} {b off n cap sz : Nat} {c : Nat → Value} (h : MutAt Z w (.slice (some ⟨b, off, none⟩) n cap) n sz c) (k : Nat) (u : Value) :
    MutAt Z (w.setCell ⟨b, off + k, none⟩ u) (.slice (some ⟨b, off, none⟩) n cap) n sz fun j => if j = k then u else c j := by
  obtain ⟨A, cap', e, hn, hc, hh⟩ := h
  cases e
  refine ⟨_, _, rfl, hn, hc, fun h0 => ?_⟩
  obtain ⟨b', off', cs, T, e, hz, hb, hj⟩ := hh h0
  cases e
  refine ⟨b, off, cs.setIfInBounds (off + k) u, T, rfl, hz, ?_, fun j hj2 => ?_⟩
  · simp [World.setCell, Array.getElem?_modify, hb]
  · have hx := hj j hj2
    by_cases e : j = k
    · subst e
      have hlt : off + j < cs.size := (Array.getElem?_eq_some_iff.1 hx).1
      simp [hlt]
    · simp only [if_neg e]
      rw [Array.getElem?_setIfInBounds_ne (by omega)]; exact hx
theorem mut_of_own {Z : Nat → Prop} {w : World} {base e size n : Nat} {v : Value} {xs : List Value} (h : w.ownsRow base e size v n xs) (hz : ∀ b, base ≤ b → b < w.heap.size → Z b) : MutAt Z w v n size fun j => xs.getD j undef := by
  obtain ⟨hl, h | ⟨g, cap, cur, rfl, hb, hh, hn, hc, hs, ht⟩⟩ := h
  · obtain ⟨rfl, rfl⟩ := h
    exact ⟨none, 0, rfl, by omega, ⟨by omega, fun _ => rfl⟩, fun h => by omega⟩
  · refine ⟨_, cap, rfl, hn, ⟨by simpa [maxLen] using hc, fun e => by cases e⟩, fun _ => ⟨g, 0, cur, _, rfl, hz g hb (lt_of_block hh), hh, fun j hj => ?_⟩⟩
    have hlt : j < cur.size := by
      rw [hs]
      exact Nat.lt_of_lt_of_le hj (Nat.mul_le_mul_right _ hn)
    rw [Nat.zero_add, ← ht]
    simp only [List.getD_eq_getElem?_getD, List.getElem?_take, if_pos hj]
    simp [hlt]
theorem mut_blk {Z : Nat → Prop} {w : World} {b n sz : Nat} {cs : Array Value} {t : TypeId} {c : Nat → Value} (h : w.heap[b]? = some (.cells cs t (0, 0))) (hz : Z b) (hn : n ≤ 9223372036854775807) (hc : ∀ j, j < n * sz → cs[j]? = some (c j)) : MutAt Z w (.slice (some ⟨b, 0, none⟩) n n) n sz c :=
  ⟨_, _, rfl, Nat.le_refl _, ⟨hn, fun e => by cases e⟩, fun _ => ⟨b, 0, cs, t, rfl, hz, h, fun j hj => by rw [Nat.zero_add]; exact hc j hj⟩⟩
theorem MutAt.open {Z : Nat → Prop} {w : World} {v : Value} {m sz : Nat} {c : Nat → Value} (h : MutAt Z w v m sz c) : ∃ A cap, v = .slice A m cap ∧ m ≤ cap ∧ cap ≤ 9223372036854775807 := SlAt.open h.at
end Go.Proofs.YtnfceboppdcfdaaDoor
