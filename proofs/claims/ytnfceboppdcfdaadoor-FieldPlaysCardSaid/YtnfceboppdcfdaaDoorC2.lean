/- Blocks that the call has laid: what lies in them; a result that lies in a block. -/
import Derived.Test.YtnfceboppdcfdaaDoorC1
namespace Go.Proofs.YtnfceboppdcfdaaDoor
open Go.RowKit
theorem blk_new {w : World} {o : Obj} {n : Nat} (hn : n = w.heap.size) : (w.alloc o).heap[n]? = some o := by subst hn; exact heap_alloc_new w o
theorem blk_old {w : World} {o r : Obj} {n : Nat} (h : w.heap[n]? = some r) : (w.alloc o).heap[n]? = some r := by
  have hn : n < w.heap.size := by
    rcases Nat.lt_or_ge n w.heap.size with h1 | h1
    · exact h1
    · rw [Array.getElem?_eq_none h1] at h; cases h
  rw [alloc_is_plus, heap_plus w _ n hn]; exact h
theorem blk_plus {w : World} {m : More} {r : Obj} {n : Nat} (h : w.heap[n]? = some r) : (w.plus m).heap[n]? = some r := by
  have hn : n < w.heap.size := by
    rcases Nat.lt_or_ge n w.heap.size with h1 | h1
    · exact h1
    · rw [Array.getElem?_eq_none h1] at h; cases h
  rw [heap_plus w _ n hn]; exact h
theorem blk_drew {w : World} {r : Obj} {n : Nat} (h : w.heap[n]? = some r) : w.drew.heap[n]? = some r := h
theorem blk_gr {w w' : World} {r : Obj} {n : Nat} (g : Gr w w') (h : w.heap[n]? = some r) : w'.heap[n]? = some r := by
  obtain ⟨m, rfl⟩ := g; exact blk_plus h
theorem blk_cell {w : World} {b : Nat} {cs : Array Value} {t : TypeId} {fr : Nat × Nat} (h : w.heap[b]? = some (.cells cs t fr)) {j : Nat} {v : Value} (hv : cs[j]? = some v) : w.cell? ⟨b, j, none⟩ = some v := by
  simp [World.cell?, h, hv]
theorem slat_blk {w : World} {b n cap sz : Nat} {cs : Array Value} {t : TypeId} {fr : Nat × Nat} (h : w.heap[b]? = some (.cells cs t fr)) (hs : n * sz ≤ cs.size) (hn : n ≤ cap) (hc : cap ≤ 9223372036854775807) :
    SlAt w (.slice (some ⟨b, 0, none⟩) n cap) n sz fun j => cs.getD j undef := by
  refine ⟨_, _, rfl, hn, ⟨hc, fun e => by cases e⟩, fun _ => ⟨b, 0, rfl, fun j hj => ?_⟩⟩
  rw [Nat.zero_add]
  refine blk_cell h ?_
  have : j < cs.size := Nat.lt_of_lt_of_le hj hs
  simp [this]
theorem slat_nil {w : World} {sz : Nat} {c : Nat → Value} : SlAt w (.slice none 0 0) 0 sz c := ⟨none, 0, rfl, Nat.le_refl _, ⟨by omega, fun _ => rfl⟩, fun h => by omega⟩
theorem frz_blk {w : World} {b : Nat} {cs : Array Value} {t : TypeId} (h : w.heap[b]? = some (.cells cs t (0, 0))) (o : Nat) : w.frozen? ⟨b, o, none⟩ = false := by simp [World.frozen?, h]
theorem blk_set {w : World} {b o : Nat} {cs : Array Value} {t : TypeId} {fr : Nat × Nat} {u : Value} (h : w.heap[b]? = some (.cells cs t fr)) : (w.setCell ⟨b, o, none⟩ u).heap[b]? = some (.cells (cs.setIfInBounds o u) t fr) := by
  simp [World.setCell, Array.getElem?_modify, h]
theorem blk_off {w : World} {b c o : Nat} {r : Obj} {u : Value} (h : w.heap[b]? = some r) (hne : b ≠ c) : (w.setCell ⟨c, o, none⟩ u).heap[b]? = some r := by
  rw [Below.heap_setCell _ _ _ _ hne]; exact h
theorem blk_lt {w : World} {b : Nat} {r : Obj} (h : w.heap[b]? = some r) : b < w.heap.size := by
  rcases Nat.lt_or_ge b w.heap.size with h1 | h1
  · exact h1
  · rw [Array.getElem?_eq_none h1] at h; cases h
theorem blk_grown {w w' : World} {b : Nat} {r : Obj} {row : Option Nat} (h : w.heap[b]? = some r) (g : w.grownBy w' row) (hne : some b ≠ row) : w'.heap[b]? = some r := by
  rw [g.block b (blk_lt h) hne]; exact h
/-- A row that the call owns lies from a number on: a block below it is another one. -/
theorem own_ne {w : World} {base e size n : Nat} {v : Value} {xs : List Value} (h : w.ownsRow base e size v n xs) {b : Nat} (hb : b < base) : some b ≠ v.ownBlock := fun e => by
  have := (h.lt b e.symm).1
  omega
theorem Gr.step {a b c : World} (h : Gr a b) {row : Option Nat} (hg : b.grownBy c row) (hr : ∀ k, row = some k → a.heap.size ≤ k) : Gr a c := Gr.grown h hg hr
end Go.Proofs.YtnfceboppdcfdaaDoor
