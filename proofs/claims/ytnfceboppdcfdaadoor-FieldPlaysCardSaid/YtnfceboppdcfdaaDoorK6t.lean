/- The walks of the reference's field: points that stick, points that are driven. -/
import Derived.Test.YtnfceboppdcfdaaDoorK6r
import Derived.Test.YtnfceboppdcfdaaDoorC8
import Derived.RegionTactic
import Derived.BigRegion
import Derived.Deep.RegionHeld3
namespace Go.Proofs.YtnfceboppdcfdaaDoor
open Go.RowKit
set_option maxHeartbeats 4000000
set_option maxRecDepth 1000000
set_option linter.unusedVariables false

theorem r6stick_any (Z : Nat → Prop) (w : World) (p : Value) (occ : List Bool) (pts : List FP) (n : Int) (h : R6At Z w p occ pts) (hlen : pts.length ≤ 100000) :
    Calls Tryd.prog 27 #[p, .int .i64 n] w fun e w' => e = .returned (.int .i64 (stickF pts n).1) ∧ R6At Z w' p occ (stickF pts n).2 ∧ ChgZ Z w w' := by
  have H := Lib.hid h
  obtain ⟨bf, vo, vl, vt, vd, T, Zo, Zl, Zt, Zd, rfl, h⟩ := h
  obtain ⟨Ao, co, rfl, hno, hco⟩ := h.occ.open
  obtain ⟨Al, cl, rfl, hnl, hcl⟩ := h.lies.open
  obtain ⟨At, ct, rfl, hnt, hct⟩ := h.to.open
  obtain ⟨Ad, cd, rfl, hnd, hcd⟩ := h.stp.open
  have hc0 := blk_cell h.blk (j := 0) rfl
  have hc1 := blk_cell h.blk (j := 1) rfl
  have hc2 := blk_cell h.blk (j := 2) rfl
  have hc3 := blk_cell h.blk (j := 3) rfl
  have HP := Lib.hid h
  clear h
  have hll := liesOf_len pts
  by_cases hn0 : n < 0
  · clear hll
    go_enter Tryd.func27, Tryd.ntmps27
    go_wp2_with fail
    go_ret
    have e : stickF pts n = (5, pts) := by unfold stickF; rw [if_pos (by simp [hn0])]
    rw [e]
    exact ⟨rfl, H.out, .refl _ _⟩
  by_cases hn1 : ((liesOf pts).length : Int) ≤ n
  · have hn2 := hn1
    rw [hll] at hn2
    clear hll
    go_enter Tryd.func27, Tryd.ntmps27
    go_wp2_with fail
    go_ret
    have e : stickF pts n = (5, pts) := by unfold stickF; rw [if_pos (by simp [hn2])]
    rw [e]
    exact ⟨rfl, H.out, .refl _ _⟩
  rw [hll] at hn1
  obtain ⟨k, rfl⟩ := Int.eq_ofNat_of_zero_le (show 0 ≤ n by omega)
  have hk : k < pts.length := by omega
  have e : stickF pts k = (0, pts.set k ⟨0, 0, 0⟩) := by unfold stickF; rw [if_neg (by simp; omega)]; rfl
  rw [e]
  clear e hn1 hll
  obtain ⟨bl, ol, rfl, hzl, hfl, kl⟩ := el_int HP.out.lies (k := k) (by rw [liesOf_len]; exact hk)
  obtain ⟨bt, ot, rfl, hzt, hft, kt⟩ := el_int HP.out.to (k := k) (by rw [toOf_len]; exact hk)
  obtain ⟨bd, od, rfl, hzd, hfd, kd⟩ := el_int HP.out.stp (k := k) (by rw [stepsOf_len]; exact hk)
  obtain ⟨-, -, -, nlt, nld⟩ := HP.out.zl bl hzl
  obtain ⟨-, -, -, -, ntd⟩ := HP.out.zt bt hzt
  have ne1 : bl ≠ bt := fun e => nlt (e ▸ hzt)
  have ne2 : bl ≠ bd := fun e => nld (e ▸ hzd)
  have ne3 : bt ≠ bd := fun e => ntd (e ▸ hzd)
  have ne1' := Ne.symm ne1
  have ne2' := Ne.symm ne2
  have ne3' := Ne.symm ne3
  rw [gi_liesOf _ _ hk] at kl
  rw [gi_toOf _ _ hk] at kt
  rw [gi_stepsOf _ _ hk] at kd
  have hk0 : (0 : Int) ≤ (k : Int) := by omega
  have hk1 : (k : Int) < ((liesOf pts).length : Int) := by rw [liesOf_len]; omega
  have hk2 : (k : Int) < ((toOf pts).length : Int) := by rw [toOf_len]; omega
  have hk3 : (k : Int) < ((stepsOf pts).length : Int) := by rw [stepsOf_len]; omega
  go_enter Tryd.func27, Tryd.ntmps27
  go_wp2_with fail
  go_region
  go_wp2_with fail
  go_ret
  have hfin := (((HP.out.lies_set hzl (by rw [liesOf_len]; exact hk) 0).to_set hzt (by rw [toOf_len]; exact hk) 0).stp_set hzd (by rw [stepsOf_len]; exact hk) 0).keep (.of_gr (.drew (.refl _)))
  rw [← liesOf_set pts k ⟨0, 0, 0⟩, ← toOf_set pts k ⟨0, 0, 0⟩, ← stepsOf_set pts k ⟨0, 0, 0⟩] at hfin
  exact ⟨rfl, ⟨bf, _, _, _, _, T, Zo, Zl, Zt, Zd, rfl, hfin⟩, (((ChgZ.setCell (.refl _ _) (.inl (HP.out.zl bl hzl).1) _).setCell (.inl (HP.out.zt bt hzt).1) _).setCell (.inl (HP.out.zd bd hzd).1) _).drew⟩

theorem r6step_any (Z : Nat → Prop) (w : World) (p : Value) (occ : List Bool) (pts : List FP) (vd : Value) (d : List Int) (h : R6At Z w p occ pts) (hfo : FOk pts) (hdp : pts.length ≤ d.length) (hd : SlF (fun b => ¬ Z b) w vd d.length 1 (intCell d)) :
    Calls Tryd.prog 30 #[p, vd] w fun e w' => e = .returned (.tuple #[]) ∧ R6At Z w' p occ (stepF pts d) ∧ ChgZ Z w w' := by
  obtain ⟨bf, vo, vl, vt, vs, T, Zo, Zl, Zt, Zd, rfl, h⟩ := h
  obtain ⟨Ao, co, rfl, hno, hco⟩ := h.occ.open
  obtain ⟨Al, cl, rfl, hnl, hcl⟩ := h.lies.open
  obtain ⟨At, ct, rfl, hnt, hct⟩ := h.to.open
  obtain ⟨As, cs, rfl, hns, hcs⟩ := h.stp.open
  obtain ⟨Ad, cd, rfl, hnd, hcd⟩ := SlAt.open hd.at
  have e1 := liesOf_len pts
  have e2 := toOf_len pts
  have e3 := stepsOf_len pts
  rw [e1] at hnl h
  rw [e2] at hnt h
  rw [e3] at hns h
  clear e1 e2 e3
  have HP := Lib.hid h
  clear h
  have HD := Lib.hid hd
  clear hd
  have HFO := Lib.hid hfo
  clear hfo
  go_enter Tryd.func30, Tryd.ntmps30
  go_wp2_with fail
  go_loopw [4] (fun i wr => ∃ k : Nat, k ≤ pts.length ∧ i = .int .i64 k ∧ R6 Z Zo Zl Zt Zd bf (.slice Ao occ.length co) (.slice Al pts.length cl) (.slice At pts.length ct) (.slice As pts.length cs) T wr occ (liesOf (setK (stepAt pts d) pts k)) (toOf (setK (stepAt pts d) pts k)) (stepsOf (setK (stepAt pts d) pts k)) ∧ ChgZ Z w wr) (fun i _ => pts.length - (intOf i).toNat)
  case atStart => exact ⟨0, by omega, rfl, HP.out, .refl _ _⟩
  case round =>
    obtain ⟨k, hk, rfl, hp, hch⟩ := hrel
    clear HP
    have hc0 := blk_cell hp.blk (j := 0) rfl
    have hc1 := blk_cell hp.blk (j := 1) rfl
    have hc2 := blk_cell hp.blk (j := 2) rfl
    have hc3 := blk_cell hp.blk (j := 3) rfl
    have HP := Lib.hid hp
    clear hp
    have HC := Lib.hid hch
    clear hch
    by_cases hlt : k < pts.length
    · have hkP : k < (setK (stepAt pts d) pts k).length := by rw [setK_length]; exact hlt
      have hdl : k < d.length := by omega
      obtain ⟨bl, ol, rfl, hzl, hfl, kl⟩ := el_int HP.out.lies (k := k) (by rw [liesOf_len]; exact hkP)
      obtain ⟨bt, ot, rfl, hzt, hft, kt⟩ := el_int HP.out.to (k := k) (by rw [toOf_len]; exact hkP)
      obtain ⟨bs, os, rfl, hzd, hfd, kd⟩ := el_int HP.out.stp (k := k) (by rw [stepsOf_len]; exact hkP)
      obtain ⟨-, nfl, -, nlt, nld⟩ := HP.out.zl bl hzl
      obtain ⟨-, nft, -, -, ntd⟩ := HP.out.zt bt hzt
      obtain ⟨-, nfs, -, -, -⟩ := HP.out.zd bs hzd
      have ne1 : bl ≠ bt := fun e => nlt (e ▸ hzt)
      have ne2 : bl ≠ bs := fun e => nld (e ▸ hzd)
      have ne3 : bt ≠ bs := fun e => ntd (e ▸ hzd)
      have ne1' := Ne.symm ne1
      have ne2' := Ne.symm ne2
      have ne3' := Ne.symm ne3
      have nfl' := Ne.symm nfl
      have nft' := Ne.symm nft
      have nfs' := Ne.symm nfs
      rw [gi_liesOf _ _ hkP, setK_gF] at kl
      rw [gi_toOf _ _ hkP, setK_gF] at kt
      rw [gi_stepsOf _ _ hkP, setK_gF] at kd
      obtain ⟨bd, od, rfl, hcd2⟩ := SlInts.el (l := d) ((HD.out.keep (.of_chg HC.out fun i hi => hi)).at) hdl
      have hk0 : (0 : Int) ≤ (k : Int) := by omega
      have hk1 : (k : Int) < (pts.length : Int) := by omega
      have hk2 : (k : Int) < (d.length : Int) := by omega
      obtain ⟨s0, s1⟩ := HFO.out k hlt
      have gl0 : gi (liesOf (setK (stepAt pts d) pts k)) k = (gF pts k).lies := by rw [gi_liesOf _ _ hkP, setK_gF]
      have GL := Lib.hid gl0
      clear gl0 nlt nld ntd
      have fl : k < (liesOf (setK (stepAt pts d) pts k)).length := by rw [liesOf_len]; exact hkP
      have ft : k < (toOf (setK (stepAt pts d) pts k)).length := by rw [toOf_len]; exact hkP
      have fs : k < (stepsOf (setK (stepAt pts d) pts k)).length := by rw [stepsOf_len]; exact hkP
      cases c0 : (gi d k == 0)
      case true =>
        have hsp : drivenF (gF pts k) (gi d k) = ⟨(gF pts k).lies, 0, 0⟩ := by unfold drivenF upF; simp [*]
        have hset : setK (stepAt pts d) pts (k + 1) = (setK (stepAt pts d) pts k).set k ⟨(gF pts k).lies, 0, 0⟩ := by simp only [setK, stepAt, if_pos hdl, hsp]
        have HSET := Lib.hid hset
        clear hset hsp
        go_wp2_with fail
        go_region
        go_wp2_with fail
        have hfin := ((HP.out.to_set hzt ft 0).stp_set hzd fs 0).keep (.of_gr (.drew (.refl _)))
        refine ⟨⟨k + 1, by omega, by go_num, ?_, (by repeat (first | exact ChgZ.refl _ _ | exact HC.out | assumption | refine ChgZ.plus ?_ _ | refine ChgZ.alloc ?_ _ | refine ChgZ.drew ?_ | refine ChgZ.drewN ?_ _ | refine ChgZ.setCell ?_ (.inl (by first | exact (HP.out.zl _ hzl).1 | exact (HP.out.zt _ hzt).1 | exact (HP.out.zd _ hzd).1)) _))⟩, by simp [intOf]; omega⟩
        rw [HSET.out, liesOf_set, toOf_set, stepsOf_set]
        (rw [set_same (liesOf (setK (stepAt pts d) pts k)) k _ fl GL.out]; exact hfin)
      cases c1 : (gi d k == (gF pts k).lies)
      case true =>
        have hsp : drivenF (gF pts k) (gi d k) = ⟨(gF pts k).lies, 0, 0⟩ := by unfold drivenF upF; simp [*]
        have hset : setK (stepAt pts d) pts (k + 1) = (setK (stepAt pts d) pts k).set k ⟨(gF pts k).lies, 0, 0⟩ := by simp only [setK, stepAt, if_pos hdl, hsp]
        have HSET := Lib.hid hset
        clear hset hsp
        go_wp2_with fail
        go_region
        go_wp2_with fail
        have hfin := ((HP.out.to_set hzt ft 0).stp_set hzd fs 0).keep (.of_gr (.drew (.refl _)))
        refine ⟨⟨k + 1, by omega, by go_num, ?_, (by repeat (first | exact ChgZ.refl _ _ | exact HC.out | assumption | refine ChgZ.plus ?_ _ | refine ChgZ.alloc ?_ _ | refine ChgZ.drew ?_ | refine ChgZ.drewN ?_ _ | refine ChgZ.setCell ?_ (.inl (by first | exact (HP.out.zl _ hzl).1 | exact (HP.out.zt _ hzt).1 | exact (HP.out.zd _ hzd).1)) _))⟩, by simp [intOf]; omega⟩
        rw [HSET.out, liesOf_set, toOf_set, stepsOf_set]
        (rw [set_same (liesOf (setK (stepAt pts d) pts k)) k _ fl GL.out]; exact hfin)
      cases c2 : (gi d k == (gF pts k).to)
      case false =>
        have c2' : ((gF pts k).to == gi d k) = false := by rw [Bool.beq_comm]; exact c2
        have hsp : drivenF (gF pts k) (gi d k) = ⟨0, gi d k, 1⟩ := by unfold drivenF upF; simp [*]
        have hset : setK (stepAt pts d) pts (k + 1) = (setK (stepAt pts d) pts k).set k ⟨0, gi d k, 1⟩ := by simp only [setK, stepAt, if_pos hdl, hsp]
        have HSET := Lib.hid hset
        clear hset hsp
        go_wp2_with fail
        go_region
        go_wp2_with fail
        have hfin := ((((HP.out.to_set hzt ft (gi d k)).stp_set hzd fs 0).stp_set hzd (by rw [List.length_set]; exact fs) 1).lies_set hzl fl 0).keep (.of_gr (.drew (.refl _)))
        refine ⟨⟨k + 1, by omega, by go_num, ?_, (by repeat (first | exact ChgZ.refl _ _ | exact HC.out | assumption | refine ChgZ.plus ?_ _ | refine ChgZ.alloc ?_ _ | refine ChgZ.drew ?_ | refine ChgZ.drewN ?_ _ | refine ChgZ.setCell ?_ (.inl (by first | exact (HP.out.zl _ hzl).1 | exact (HP.out.zt _ hzt).1 | exact (HP.out.zd _ hzd).1)) _))⟩, by simp [intOf]; omega⟩
        rw [HSET.out, liesOf_set, toOf_set, stepsOf_set]
        (rw [List.set_set] at hfin; exact hfin)
      case true =>
        have c2' : ((gF pts k).to == gi d k) = true := by rw [Bool.beq_comm]; exact c2
        have gt0 : gi (toOf (setK (stepAt pts d) pts k)) k = gi d k := by rw [gi_toOf _ _ hkP, setK_gF]; exact (beq_iff_eq.1 c2).symm
        have GT := Lib.hid gt0
        clear gt0
        cases c3 : ((gF pts k).steps + 1 == 3)
        case false =>
          have c3' : decide (3 ≤ (gF pts k).steps + 1) = false := by simp at c3 ⊢; omega
          have hsp : drivenF (gF pts k) (gi d k) = ⟨0, gi d k, (gF pts k).steps + 1⟩ := by unfold drivenF upF; simp [*]
          have hset : setK (stepAt pts d) pts (k + 1) = (setK (stepAt pts d) pts k).set k ⟨0, gi d k, (gF pts k).steps + 1⟩ := by simp only [setK, stepAt, if_pos hdl, hsp]
          have HSET := Lib.hid hset
          clear hset hsp
          go_wp2_with fail
          have hfin := (HP.out.stp_set hzd fs ((gF pts k).steps + 1)).lies_set hzl fl 0
          refine ⟨⟨k + 1, by omega, by go_num, ?_, (by repeat (first | exact ChgZ.refl _ _ | exact HC.out | assumption | refine ChgZ.plus ?_ _ | refine ChgZ.alloc ?_ _ | refine ChgZ.drew ?_ | refine ChgZ.drewN ?_ _ | refine ChgZ.setCell ?_ (.inl (by first | exact (HP.out.zl _ hzl).1 | exact (HP.out.zt _ hzt).1 | exact (HP.out.zd _ hzd).1)) _))⟩, by simp [intOf]; omega⟩
          rw [HSET.out, liesOf_set, toOf_set, stepsOf_set]
          (rw [set_same (toOf (setK (stepAt pts d) pts k)) k _ ft GT.out]; exact hfin)
        case true =>
          have c3' : decide (3 ≤ (gF pts k).steps + 1) = true := by simp at c3 ⊢; omega
          have hsp : drivenF (gF pts k) (gi d k) = ⟨gi d k, 0, 0⟩ := by unfold drivenF upF; simp [*]
          have hset : setK (stepAt pts d) pts (k + 1) = (setK (stepAt pts d) pts k).set k ⟨gi d k, 0, 0⟩ := by simp only [setK, stepAt, if_pos hdl, hsp]
          have HSET := Lib.hid hset
          clear hset hsp
          go_wp2_with fail
          go_region
          go_wp2_with fail
          have hfin := (((((HP.out.stp_set hzd fs ((gF pts k).steps + 1)).lies_set hzl fl 0).lies_set hzl (by rw [List.length_set]; exact fl) (gi d k)).to_set hzt ft 0).stp_set hzd (by rw [List.length_set]; exact fs) 0).keep (.of_gr (.drew (.refl _)))
          refine ⟨⟨k + 1, by omega, by go_num, ?_, (by repeat (first | exact ChgZ.refl _ _ | exact HC.out | assumption | refine ChgZ.plus ?_ _ | refine ChgZ.alloc ?_ _ | refine ChgZ.drew ?_ | refine ChgZ.drewN ?_ _ | refine ChgZ.setCell ?_ (.inl (by first | exact (HP.out.zl _ hzl).1 | exact (HP.out.zt _ hzt).1 | exact (HP.out.zd _ hzd).1)) _))⟩, by simp [intOf]; omega⟩
          rw [HSET.out, liesOf_set, toOf_set, stepsOf_set]
          (rw [List.set_set, List.set_set] at hfin; exact hfin)
    · obtain rfl : k = pts.length := by omega
      go_wp2_with fail
      go_end0
      exact ⟨rfl, ⟨bf, _, _, _, _, T, Zo, Zl, Zt, Zd, rfl, (by have := HP.out; rw [setK_all] at this; exact this)⟩, HC.out⟩
end Go.Proofs.YtnfceboppdcfdaaDoor
