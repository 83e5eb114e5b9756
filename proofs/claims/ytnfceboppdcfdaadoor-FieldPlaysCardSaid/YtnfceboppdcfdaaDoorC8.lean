/- Small rules for worlds that are written to. -/
import Derived.Test.YtnfceboppdcfdaaDoorC6
import Derived.Test.YtnfceboppdcfdaaDoorC5
namespace Go.Proofs.YtnfceboppdcfdaaDoor
open Go.RowKit

@[go_sem] theorem isSome_setCell (w : World) (a b : Addr) (v : Value) : ((w.setCell a v).cell? b).isSome = (w.cell? b).isSome := by
  unfold World.setCell World.cell?
  simp only [Array.getElem?_modify]
  by_cases h : a.block = b.block
  · rw [if_pos h]
    cases hq : w.heap[b.block]? with
    | none => rfl
    | some o =>
      cases o <;> simp only [Option.map_some]
      split
      · rfl
      · split
        · rfl
        · by_cases e : a.off = b.off
          · rw [e]
            rename_i c _ _ _ _
            by_cases hl : b.off < c.size
            · simp [hl]
            · simp [hl]
          · rw [Array.getElem?_setIfInBounds_ne e]
  · rw [if_neg h]
end Go.Proofs.YtnfceboppdcfdaaDoor
