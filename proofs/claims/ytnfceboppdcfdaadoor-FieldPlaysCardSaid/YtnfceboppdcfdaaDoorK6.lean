/- The walks of package field: sections that are occupied, points that move. -/
import Derived.Test.YtnfceboppdcfdaaDoorC4
import Derived.Test.YtnfceboppdcfdaaDoorC5
import Derived.Test.YtnfceboppdcfdaaDoorProg
namespace Go.Proofs.YtnfceboppdcfdaaDoor
open Go.RowKit
set_option maxHeartbeats 4000000
set_option maxRecDepth 1000000

set_option linter.unusedVariables false
theorem train_any (Z : Nat → Prop) (w : World) (p : Value) (occ : List Bool) (pts : List FP) (n : Int) (h : FieldAt Z w p occ pts) (hlen : occ.length ≤ 100000) :
    Calls Tryd.prog 21 #[p, .int .i64 n] w fun e w' => e = .returned (.int .i64 (trainF occ n).1) ∧ FieldAt Z w' p (trainF occ n).2 pts ∧ ChgZ Z w w' := by
  have H := Lib.hid h
  obtain ⟨bf, vo, vp, T, Zo, Zp, rfl, h⟩ := h
  obtain ⟨Ao, co, rfl, hno, hco⟩ := h.occ.open
  have hc0 := blk_cell h.blk (j := 0) rfl
  have HP := Lib.hid h
  clear h
  by_cases hn0 : n < 0
  · go_enter Tryd.func21, Tryd.ntmps21
    go_wp2_with fail
    go_ret
    have e : trainF occ n = (5, occ) := by unfold trainF; rw [if_pos (by simp [hn0])]
    rw [e]
    exact ⟨rfl, H.out, .refl _ _⟩
  by_cases hn1 : (occ.length : Int) ≤ n
  · go_enter Tryd.func21, Tryd.ntmps21
    go_wp2_with fail
    go_ret
    have e : trainF occ n = (5, occ) := by unfold trainF; rw [if_pos (by simp [hn1])]
    rw [e]
    exact ⟨rfl, H.out, .refl _ _⟩
  obtain ⟨k, rfl⟩ := Int.eq_ofNat_of_zero_le (show 0 ≤ n by omega)
  have hk : k < occ.length := by omega
  have e : trainF occ k = (0, occ.set k (!gb occ k)) := by unfold trainF; rw [if_neg (by simp; omega)]; rfl
  rw [e]
  clear e
  obtain ⟨b, off, rfl, hz, hf, hc⟩ := el_bool HP.out.occ hk
  have hk0 : (0 : Int) ≤ (k : Int) := by omega
  have hk1 : (k : Int) < (occ.length : Int) := by omega
  go_enter Tryd.func21, Tryd.ntmps21
  go_wp2_with fail
  refine wp_region_tail 13 (by kernel_rfl) (by kernel_rfl) ?_
  simp only [List.take_succ_cons, List.take_zero, List.drop_succ_cons, List.drop_zero]
  repeat still_step
  try refine wpStill_nil ?_
  go_wp2_with fail
  go_ret
  exact ⟨rfl, ⟨bf, _, vp, T, Zo, Zp, rfl, (HP.out.occ_set hz hk _).keep (.of_gr (.drew (.refl _)))⟩, (ChgZ.setCell (.refl _ _) (.inl (HP.out.zo b hz).1) _).drew⟩

theorem stick_any (Z : Nat → Prop) (w : World) (p : Value) (occ : List Bool) (pts : List FP) (n : Int) (h : FieldAt Z w p occ pts) (hlen : pts.length ≤ 100000) :
    Calls Tryd.prog 26 #[p, .int .i64 n] w fun e w' => e = .returned (.int .i64 (stickF pts n).1) ∧ FieldAt Z w' p occ (stickF pts n).2 ∧ ChgZ Z w w' := by
  have H := Lib.hid h
  obtain ⟨bf, vo, vp, T, Zo, Zp, rfl, h⟩ := h
  obtain ⟨Ap, cp, rfl, hno, hco⟩ := h.pts.open
  have hc0 := blk_cell h.blk (j := 1) rfl
  have HP := Lib.hid h
  clear h
  by_cases hn0 : n < 0
  · go_enter Tryd.func26, Tryd.ntmps26
    go_wp2_with fail
    go_ret
    have e : stickF pts n = (5, pts) := by unfold stickF; rw [if_pos (by simp [hn0])]
    rw [e]
    exact ⟨rfl, H.out, .refl _ _⟩
  by_cases hn1 : (pts.length : Int) ≤ n
  · go_enter Tryd.func26, Tryd.ntmps26
    go_wp2_with fail
    go_ret
    have e : stickF pts n = (5, pts) := by unfold stickF; rw [if_pos (by simp [hn1])]
    rw [e]
    exact ⟨rfl, H.out, .refl _ _⟩
  obtain ⟨k, rfl⟩ := Int.eq_ofNat_of_zero_le (show 0 ≤ n by omega)
  have hk : k < pts.length := by omega
  have e : stickF pts k = (0, pts.set k ⟨0, 0, 0⟩) := by unfold stickF; rw [if_neg (by simp; omega)]; rfl
  rw [e]
  clear e
  obtain ⟨b, off, rfl, hz, hf, hc, hc', hc''⟩ := el_fp HP.out.pts hk
  have hk0 : (0 : Int) ≤ (k : Int) := by omega
  have hk1 : (k : Int) < (pts.length : Int) := by omega
  go_enter Tryd.func26, Tryd.ntmps26
  go_wp2_with fail
  go_ret
  exact ⟨rfl, ⟨bf, vo, _, T, Zo, Zp, rfl, HP.out.pts_set hz hk ⟨0, 0, 0⟩⟩, ((ChgZ.setCell (.refl _ _) (.inl (HP.out.zp b hz)) _).setCell (.inl (HP.out.zp b hz)) _).setCell (.inl (HP.out.zp b hz)) _⟩

theorem driven_any (w : World) (p : FP) (d : Int) (hs : 0 ≤ p.steps ∧ p.steps < 3) :
    Calls Tryd.prog 79 #[.agg #[.int .i64 p.lies, .int .i64 p.to, .int .i64 p.steps], .int .i64 d] w fun e w' => e = .returned (.agg #[.int .i64 (drivenF p d).lies, .int .i64 (drivenF p d).to, .int .i64 (drivenF p d).steps]) ∧ Gr w w' := by
  obtain ⟨pl, pt, ps⟩ := p
  obtain ⟨s0, s1⟩ := hs
  simp only at s0 s1
  cases c0 : (d == 0)
  case true =>
    have e : drivenF ⟨pl, pt, ps⟩ d = ⟨pl, 0, 0⟩ := by unfold drivenF upF; simp [*]
    rw [e]
    clear e
    go_enter Tryd.func79, Tryd.ntmps79
    go_wp2_with fail
    (try simp only [Exit.inBlock, Exit.then]); refine bodyPost_ret (results_cell_row rfl _ _ (w.heap.size + 1) 130 #[.int .i64 pl, .int .i64 0, .int .i64 0] (0, 0) _ rfl (by with_reducible repeat (first | assumption | (refine blk_new ?_; (first | rfl | (simp; done))) | refine blk_plus ?_ | refine blk_drew ?_ | refine blk_old ?_)) Tryd.underlying130 rfl (by kernel_rfl)) rfl ?_
    exact ⟨rfl, (by repeat (first | exact Gr.refl _ | assumption | refine Gr.plus ?_ _ | refine Gr.alloc ?_ _ | refine Gr.drew ?_ | refine Gr.drewN ?_ _))⟩
  cases c1 : (d == pl)
  case true =>
    have e : drivenF ⟨pl, pt, ps⟩ d = ⟨pl, 0, 0⟩ := by unfold drivenF upF; simp [*]
    rw [e]
    clear e
    go_enter Tryd.func79, Tryd.ntmps79
    go_wp2_with fail
    (try simp only [Exit.inBlock, Exit.then]); refine bodyPost_ret (results_cell_row rfl _ _ (w.heap.size + 1) 130 #[.int .i64 pl, .int .i64 0, .int .i64 0] (0, 0) _ rfl (by with_reducible repeat (first | assumption | (refine blk_new ?_; (first | rfl | (simp; done))) | refine blk_plus ?_ | refine blk_drew ?_ | refine blk_old ?_)) Tryd.underlying130 rfl (by kernel_rfl)) rfl ?_
    exact ⟨rfl, (by repeat (first | exact Gr.refl _ | assumption | refine Gr.plus ?_ _ | refine Gr.alloc ?_ _ | refine Gr.drew ?_ | refine Gr.drewN ?_ _))⟩
  cases c2 : (d == pt)
  case false =>
    have e : drivenF ⟨pl, pt, ps⟩ d = ⟨0, d, 1⟩ := by unfold drivenF upF; simp [*]
    rw [e]
    clear e
    go_enter Tryd.func79, Tryd.ntmps79
    go_wp2_with fail
    (try simp only [Exit.inBlock, Exit.then]); refine bodyPost_ret (results_cell_row rfl _ _ (w.heap.size + 1) 130 #[.int .i64 0, .int .i64 d, .int .i64 1] (0, 0) _ rfl (by with_reducible repeat (first | assumption | (refine blk_new ?_; (first | rfl | (simp; done))) | refine blk_plus ?_ | refine blk_drew ?_ | refine blk_old ?_)) Tryd.underlying130 rfl (by kernel_rfl)) rfl ?_
    exact ⟨rfl, (by repeat (first | exact Gr.refl _ | assumption | refine Gr.plus ?_ _ | refine Gr.alloc ?_ _ | refine Gr.drew ?_ | refine Gr.drewN ?_ _))⟩
  case true =>
    cases c3 : decide (3 ≤ ps + 1)
    case true =>
      have e : drivenF ⟨pl, pt, ps⟩ d = ⟨d, 0, 0⟩ := by unfold drivenF upF; simp [*]
      rw [e]
      clear e
      go_enter Tryd.func79, Tryd.ntmps79
      go_wp2_with fail
      (try simp only [Exit.inBlock, Exit.then]); refine bodyPost_ret (results_cell_row rfl _ _ (w.heap.size + 1) 130 #[.int .i64 d, .int .i64 0, .int .i64 0] (0, 0) _ rfl (by with_reducible repeat (first | assumption | (refine blk_new ?_; (first | rfl | (simp; done))) | refine blk_plus ?_ | refine blk_drew ?_ | refine blk_old ?_)) Tryd.underlying130 rfl (by kernel_rfl)) rfl ?_
      exact ⟨rfl, (by repeat (first | exact Gr.refl _ | assumption | refine Gr.plus ?_ _ | refine Gr.alloc ?_ _ | refine Gr.drew ?_ | refine Gr.drewN ?_ _))⟩
    case false =>
      have e : drivenF ⟨pl, pt, ps⟩ d = ⟨0, d, ps + 1⟩ := by unfold drivenF upF; simp [*]
      rw [e]
      clear e
      go_enter Tryd.func79, Tryd.ntmps79
      go_wp2_with fail
      (try simp only [Exit.inBlock, Exit.then]); refine bodyPost_ret (results_cell_row rfl _ _ (w.heap.size + 1) 130 #[.int .i64 0, .int .i64 d, .int .i64 (ps + 1)] (0, 0) _ rfl (by with_reducible repeat (first | assumption | (refine blk_new ?_; (first | rfl | (simp; done))) | refine blk_plus ?_ | refine blk_drew ?_ | refine blk_old ?_)) Tryd.underlying130 rfl (by kernel_rfl)) rfl ?_
      exact ⟨rfl, (by repeat (first | exact Gr.refl _ | assumption | refine Gr.plus ?_ _ | refine Gr.alloc ?_ _ | refine Gr.drew ?_ | refine Gr.drewN ?_ _))⟩

def stepAt (pts : List FP) (d : List Int) (j : Nat) : FP := if j < d.length then drivenF (gF pts j) (gi d j) else gF pts j
theorem setK_gF (f : Nat → FP) (l : List FP) (k : Nat) : gF (setK f l k) k = gF l k := by unfold gF; rw [setK_getD, if_neg (by omega)]
theorem step_any (Z : Nat → Prop) (w : World) (p : Value) (occ : List Bool) (pts : List FP) (vd : Value) (d : List Int) (h : FieldAt Z w p occ pts) (hfo : FOk pts) (hd : SlF (fun b => ¬ Z b) w vd d.length 1 (intCell d)) :
    Calls Tryd.prog 29 #[p, vd] w fun e w' => e = .returned (.tuple #[]) ∧ FieldAt Z w' p occ (stepF pts d) ∧ ChgZ Z w w' := by
  obtain ⟨bf, vo, vp, T, Zo, Zp, rfl, h⟩ := h
  obtain ⟨Ap, cp, rfl, hno, hcp⟩ := h.pts.open
  obtain ⟨Ad, cd, rfl, hnd, hcd⟩ := SlAt.open hd.at
  have hc0 := blk_cell h.blk (j := 1) rfl
  have HP := Lib.hid h
  clear h
  have HD := Lib.hid hd
  clear hd
  have HFO := Lib.hid hfo
  clear hfo
  go_enter Tryd.func29, Tryd.ntmps29
  go_wp2_with fail
  go_loopw [13] (fun i wr => ∃ k : Nat, k ≤ pts.length ∧ i = .int .i64 k ∧ FParts Z Zo Zp bf vo (.slice Ap pts.length cp) T wr occ (setK (stepAt pts d) pts k) ∧ ChgZ Z w wr) (fun i _ => pts.length - (intOf i).toNat)
  case atStart => exact ⟨0, by omega, rfl, HP.out, .refl _ _⟩
  case round =>
    obtain ⟨k, hk, rfl, hp, hch⟩ := hrel
    clear HP hc0
    have HP := Lib.hid hp
    clear hp
    have HC := Lib.hid hch
    clear hch
    by_cases hlt : k < pts.length
    · obtain ⟨b, off, rfl, hz, hf, c0, c1, c2⟩ := el_fp HP.out.pts (k := k) (by rw [setK_length]; exact hlt)
      rw [setK_gF] at c0 c1 c2
      have hk0 : (0 : Int) ≤ (k : Int) := by omega
      have hk1 : (k : Int) < (pts.length : Int) := by omega
      have hc0 := blk_cell HP.out.blk (j := 1) rfl
      by_cases hdl : k < d.length
      · obtain ⟨bd, od, rfl, hcd2⟩ := SlInts.el (l := d) ((HD.out.keep (.of_chg HC.out fun i hi => hi)).at) hdl
        have hd1 : (k : Int) < (d.length : Int) := by omega
        have hst := HFO.out k hlt
        have hset : setK (stepAt pts d) pts (k + 1) = (setK (stepAt pts d) pts k).set k (drivenF (gF pts k) (gi d k)) := by simp only [setK, stepAt, if_pos hdl]
        have HS := Lib.hid hset
        clear hset
        go_wp2_with fail
        refine wp_region_gr_tail 11 (by kernel_rfl) (by kernel_rfl) ?_
        simp only [List.take_succ_cons, List.take_zero, List.drop_succ_cons, List.drop_zero]
        repeat (go_big_quiet_step ((go_at_call 79; with_reducible exact Calls.grown (driven_any _ _ _ hst))))
        refine wpQuiet_nil ?_
        rintro _ ⟨mq, rfl⟩
        go_wp2_with fail
        exact ⟨⟨k + 1, by omega, by go_num, by rw [HS.out]; exact (HP.out.keep (.of_gr (by repeat (first | exact Gr.refl _ | assumption | refine Gr.plus ?_ _ | refine Gr.alloc ?_ _ | refine Gr.drew ?_ | refine Gr.drewN ?_ _)))).pts_set hz (by rw [setK_length]; exact hlt) _, (by repeat (first | exact ChgZ.refl _ _ | exact HC.out | assumption | refine ChgZ.plus ?_ _ | refine ChgZ.alloc ?_ _ | refine ChgZ.drew ?_ | refine ChgZ.drewN ?_ _ | refine ChgZ.setCell ?_ (.inl (HP.out.zp _ hz)) _))⟩, by simp [intOf]; omega⟩
      · have hset : setK (stepAt pts d) pts (k + 1) = setK (stepAt pts d) pts k := setK_id _ _ ⟨0, 0, 0⟩ _ hlt (by simp only [stepAt, if_neg hdl]; rfl)
        have HS := Lib.hid hset
        clear hset
        go_wp2_with fail
        exact ⟨⟨k + 1, by omega, by go_num, by rw [HS.out]; exact HP.out.keep (.of_gr (by repeat (first | exact Gr.refl _ | assumption | refine Gr.plus ?_ _ | refine Gr.alloc ?_ _ | refine Gr.drew ?_ | refine Gr.drewN ?_ _))), (by repeat (first | exact ChgZ.refl _ _ | exact HC.out | assumption | refine ChgZ.plus ?_ _ | refine ChgZ.alloc ?_ _ | refine ChgZ.drew ?_ | refine ChgZ.drewN ?_ _ | refine ChgZ.setCell ?_ (.inl (HP.out.zp _ hz)) _))⟩, by simp [intOf]; omega⟩
    · obtain rfl : k = pts.length := by omega
      go_wp2_with fail
      go_end0
      exact ⟨rfl, ⟨bf, vo, .slice Ap pts.length cp, T, Zo, Zp, rfl, (by have := HP.out; rw [setK_all] at this; exact this)⟩, HC.out⟩
end Go.Proofs.YtnfceboppdcfdaaDoor
