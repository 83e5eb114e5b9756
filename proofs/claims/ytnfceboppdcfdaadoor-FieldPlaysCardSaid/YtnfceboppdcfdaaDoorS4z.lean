/- How large a layout is. -/
import Derived.Test.YtnfceboppdcfdaaDoorS4
namespace Go.Proofs.YtnfceboppdcfdaaDoor
open Go.RowKit

/-- Nothing is larger than memory. -/
structure LReach (L : Layout) : Prop where
  lens : L.secs.length ≤ 281474976710656 ∧ L.pts.length ≤ 281474976710656 ∧ L.sigs.length ≤ 281474976710656 ∧ L.rts.length ≤ 281474976710656
  secs : ∀ i, i < L.secs.length → (gs L.secs i).size ≤ 281474976710656
  pts : ∀ i, i < L.pts.length → (gP L.pts i).name.size ≤ 281474976710656
  sigs : ∀ i, i < L.sigs.length → (gs L.sigs i).size ≤ 281474976710656
  rts : ∀ i, i < L.rts.length → (gR L.rts i).name.size ≤ 281474976710656 ∧ (gR L.rts i).path.length ≤ 281474976710656 ∧ (gR L.rts i).pts.length ≤ 281474976710656 ∧ (gR L.rts i).flk.length ≤ 281474976710656

/-- A count, so far. -/
structure Sz (L : Layout) (n k1 k2 k3 k4 : Nat) : Prop where
  base : L.secs.length + L.pts.length + L.sigs.length + L.rts.length ≤ n
  most : n ≤ 1125899906845624
  secs : n < 3000 → ∀ i, i < k1 → (gs L.secs i).size ≤ n
  pts : n < 3000 → ∀ i, i < k2 → (gP L.pts i).name.size ≤ n
  sigs : n < 3000 → ∀ i, i < k3 → (gs L.sigs i).size ≤ n
  rts : n < 3000 → ∀ i, i < k4 → (gR L.rts i).name.size + (gR L.rts i).path.length + (gR L.rts i).pts.length + (gR L.rts i).flk.length ≤ n
theorem Sz.init {L : Layout} (h : LReach L) : Sz L (L.secs.length + L.pts.length + L.sigs.length + L.rts.length) 0 0 0 0 := by
  have := h.lens
  exact ⟨Nat.le_refl _, by omega, fun _ i h => by omega, fun _ i h => by omega, fun _ i h => by omega, fun _ i h => by omega⟩
theorem Sz.large {L : Layout} {n k1 k2 k3 k4 : Nat} (h : Sz L n k1 k2 k3 k4) (hn : 3000 ≤ n) (j1 j2 j3 j4 : Nat) : Sz L n j1 j2 j3 j4 :=
  ⟨h.base, h.most, fun _ => by omega, fun _ => by omega, fun _ => by omega, fun _ => by omega⟩
theorem Sz.s1 {L : Layout} {n k k2 k3 k4 : Nat} (h : Sz L n k k2 k3 k4) (r : LReach L) (hn : n < 3000) (hk : k < L.secs.length) : Sz L (n + (gs L.secs k).size) (k + 1) k2 k3 k4 := by
  have := r.secs k hk
  refine ⟨Nat.le_trans h.base (by omega), by omega, fun _ i hi => ?_, fun _ i hi => Nat.le_trans (h.pts hn i hi) (by omega), fun _ i hi => Nat.le_trans (h.sigs hn i hi) (by omega), fun _ i hi => Nat.le_trans (h.rts hn i hi) (by omega)⟩
  rcases Nat.lt_or_ge i k with h1 | h1
  · exact Nat.le_trans (h.secs hn i h1) (by omega)
  · obtain rfl : i = k := by omega
    omega
theorem Sz.s2 {L : Layout} {n k k1 k3 k4 : Nat} (h : Sz L n k1 k k3 k4) (r : LReach L) (hn : n < 3000) (hk : k < L.pts.length) : Sz L (n + (gP L.pts k).name.size) k1 (k + 1) k3 k4 := by
  have := r.pts k hk
  refine ⟨Nat.le_trans h.base (by omega), by omega, fun _ i hi => Nat.le_trans (h.secs hn i hi) (by omega), fun _ i hi => ?_, fun _ i hi => Nat.le_trans (h.sigs hn i hi) (by omega), fun _ i hi => Nat.le_trans (h.rts hn i hi) (by omega)⟩
  rcases Nat.lt_or_ge i k with h1 | h1
  · exact Nat.le_trans (h.pts hn i h1) (by omega)
  · obtain rfl : i = k := by omega
    omega
theorem Sz.s3 {L : Layout} {n k k1 k2 k4 : Nat} (h : Sz L n k1 k2 k k4) (r : LReach L) (hn : n < 3000) (hk : k < L.sigs.length) : Sz L (n + (gs L.sigs k).size) k1 k2 (k + 1) k4 := by
  have := r.sigs k hk
  refine ⟨Nat.le_trans h.base (by omega), by omega, fun _ i hi => Nat.le_trans (h.secs hn i hi) (by omega), fun _ i hi => Nat.le_trans (h.pts hn i hi) (by omega), fun _ i hi => ?_, fun _ i hi => Nat.le_trans (h.rts hn i hi) (by omega)⟩
  rcases Nat.lt_or_ge i k with h1 | h1
  · exact Nat.le_trans (h.sigs hn i h1) (by omega)
  · obtain rfl : i = k := by omega
    omega
theorem Sz.s4 {L : Layout} {n k k1 k2 k3 : Nat} (h : Sz L n k1 k2 k3 k) (r : LReach L) (hn : n < 3000) (hk : k < L.rts.length) :
    Sz L (n + (gR L.rts k).name.size + (gR L.rts k).path.length + (gR L.rts k).pts.length + (gR L.rts k).flk.length) k1 k2 k3 (k + 1) := by
  have := r.rts k hk
  refine ⟨Nat.le_trans h.base (by omega), by omega, fun _ i hi => Nat.le_trans (h.secs hn i hi) (by omega), fun _ i hi => Nat.le_trans (h.pts hn i hi) (by omega), fun _ i hi => Nat.le_trans (h.sigs hn i hi) (by omega), fun _ i hi => ?_⟩
  rcases Nat.lt_or_ge i k with h1 | h1
  · exact Nat.le_trans (h.rts hn i h1) (by omega)
  · obtain rfl : i = k := by omega
    omega
/-- A layout that is looked at. -/
structure LSize (L : Layout) : Prop where
  small : LSmall L
  lens : L.secs.length ≤ 3000 ∧ L.pts.length ≤ 3000 ∧ L.sigs.length ≤ 3000 ∧ L.rts.length ≤ 3000
  rts : ∀ i, i < L.rts.length → (gR L.rts i).path.length ≤ 3000 ∧ (gR L.rts i).pts.length + (gR L.rts i).flk.length ≤ 3000
theorem Sz.done {L : Layout} {n : Nat} (h : Sz L n L.secs.length L.pts.length L.sigs.length L.rts.length) (hn : n < 3000) : LSize L := by
  have := h.base
  refine ⟨⟨fun i hi => ?_, fun i hi => ?_, fun i hi => ?_, fun i hi => ?_⟩, by omega, fun i hi => ?_⟩
  · have := h.secs hn i hi; omega
  · have := h.pts hn i hi; omega
  · have := h.sigs hn i hi; omega
  · have := h.rts hn i hi; omega
  · have := h.rts hn i hi; omega
end Go.Proofs.YtnfceboppdcfdaaDoor
