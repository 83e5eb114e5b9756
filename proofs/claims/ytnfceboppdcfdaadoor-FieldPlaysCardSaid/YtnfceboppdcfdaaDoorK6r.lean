/- The walks of the reference's field. -/
import Derived.Test.YtnfceboppdcfdaaDoorC7
import Derived.Test.YtnfceboppdcfdaaDoorC5
import Derived.Test.YtnfceboppdcfdaaDoorK6
namespace Go.Proofs.YtnfceboppdcfdaaDoor
open Go.RowKit
set_option maxHeartbeats 4000000
set_option maxRecDepth 1000000
set_option linter.unusedVariables false

theorem r6train_any (Z : Nat → Prop) (w : World) (p : Value) (occ : List Bool) (pts : List FP) (n : Int) (h : R6At Z w p occ pts) (hlen : occ.length ≤ 100000) :
    Calls Tryd.prog 25 #[p, .int .i64 n] w fun e w' => e = .returned (.int .i64 (trainF occ n).1) ∧ R6At Z w' p (trainF occ n).2 pts ∧ ChgZ Z w w' := by
  have H := Lib.hid h
  obtain ⟨bf, vo, vl, vt, vd, T, Zo, Zl, Zt, Zd, rfl, h⟩ := h
  obtain ⟨Ao, co, rfl, hno, hco⟩ := h.occ.open
  obtain ⟨Al, cl, rfl, hnl, hcl⟩ := h.lies.open
  obtain ⟨At, ct, rfl, hnt, hct⟩ := h.to.open
  obtain ⟨Ad, cd, rfl, hnd, hcd⟩ := h.stp.open
  have hc0 := blk_cell h.blk (j := 0) rfl
  have hc1 := blk_cell h.blk (j := 1) rfl
  have hc2 := blk_cell h.blk (j := 2) rfl
  have hc3 := blk_cell h.blk (j := 3) rfl
  have HP := Lib.hid h
  clear h
  clear hc1 hc2 hc3
  by_cases hn0 : n < 0
  · go_enter Tryd.func25, Tryd.ntmps25
    go_wp2_with fail
    go_ret
    have e : trainF occ n = (5, occ) := by unfold trainF; rw [if_pos (by simp [hn0])]
    rw [e]
    exact ⟨rfl, H.out, .refl _ _⟩
  by_cases hn1 : (occ.length : Int) ≤ n
  · go_enter Tryd.func25, Tryd.ntmps25
    go_wp2_with fail
    go_ret
    have e : trainF occ n = (5, occ) := by unfold trainF; rw [if_pos (by simp [hn1])]
    rw [e]
    exact ⟨rfl, H.out, .refl _ _⟩
  obtain ⟨k, rfl⟩ := Int.eq_ofNat_of_zero_le (show 0 ≤ n by omega)
  have hk : k < occ.length := by omega
  have e : trainF occ k = (0, occ.set k (!gb occ k)) := by unfold trainF; rw [if_neg (by simp; omega)]; rfl
  rw [e]
  clear e
  obtain ⟨b, off, rfl, hz, hf, hc⟩ := el_bool HP.out.occ hk
  have hk0 : (0 : Int) ≤ (k : Int) := by omega
  have hk1 : (k : Int) < (occ.length : Int) := by omega
  go_enter Tryd.func25, Tryd.ntmps25
  go_wp2_with fail
  refine wp_region_tail 15 (by kernel_rfl) (by kernel_rfl) ?_
  simp only [List.take_succ_cons, List.take_zero, List.drop_succ_cons, List.drop_zero]
  repeat still_step
  try refine wpStill_nil ?_
  go_wp2_with fail
  go_ret
  exact ⟨rfl, ⟨bf, _, _, _, _, T, Zo, Zl, Zt, Zd, rfl, (HP.out.occ_set hz hk _).keep (.of_gr (.drew (.refl _)))⟩, (ChgZ.setCell (.refl _ _) (.inl (HP.out.zo b hz).1) _).drew⟩

end Go.Proofs.YtnfceboppdcfdaaDoor
