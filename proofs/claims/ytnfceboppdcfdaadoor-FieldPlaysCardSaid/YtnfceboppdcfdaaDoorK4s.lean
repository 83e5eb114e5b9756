/- The walk of the reference's Is: may a layout be? -/
import Derived.Test.YtnfceboppdcfdaaDoorK4r
namespace Go.Proofs.YtnfceboppdcfdaaDoor
open Go.RowKit
set_option maxHeartbeats 4000000
set_option maxRecDepth 1000000

set_option linter.unusedVariables false in
theorem ref4Is_any (w : World) (vl : Value) (L : Layout) (hT : Tabs w) (hsm : LSmall L) (hl : LayAt w vl L) :
    Calls Tryd.prog 15 #[vl] w fun e w' => e = .returned (.bool (layOk L)) ∧ Gr w w' := by
  obtain ⟨i0, hi, hz0, hz1, hz2⟩ := info_parts info_string
  obtain ⟨As, cs, Ap, cp, Ag, cg, Ar, cr, rfl, hS, hP, hG, hR, hb⟩ := hl.opened
  have HS := Lib.hid hS
  clear hS
  have HP := Lib.hid hP
  clear hP
  have HG := Lib.hid hG
  clear hG
  have HR := Lib.hid hR
  clear hR
  have HL := Lib.hid hl
  clear hl
  have HSM := Lib.hid hsm
  clear hsm
  by_cases hpre : isInB L.secs.length 1 10 = true ∧ isInB L.sigs.length 1 6 = true ∧ L.pts.length ≤ 5 ∧ L.rts.length ≤ 6
  case neg =>
    have hno : layOk L = false := by
      rw [Bool.eq_false_iff]
      intro hh
      apply hpre
      simp only [layOk, Bool.and_eq_true, decide_eq_true_eq] at hh
      exact ⟨hh.1.1.1.1.1.1.1.1.1, hh.1.1.1.1.1.1.1.1.2, hh.1.1.1.1.1.1.1.2, hh.1.1.1.1.1.1.2⟩
    have HNO := Lib.hid hno
    clear hno
    by_cases a1 : L.secs.length < 1
    · (go_enter Tryd.func15, Tryd.ntmps15; go_wp2; go_ret; exact ⟨ret_bool HNO.out.symm, (by repeat (first | exact Gr.refl _ | assumption | refine Gr.plus ?_ _ | refine Gr.alloc ?_ _ | refine Gr.drew ?_ | refine Gr.drewN ?_ _))⟩)
    by_cases a2 : 10 < L.secs.length
    · (go_enter Tryd.func15, Tryd.ntmps15; go_wp2; go_ret; exact ⟨ret_bool HNO.out.symm, (by repeat (first | exact Gr.refl _ | assumption | refine Gr.plus ?_ _ | refine Gr.alloc ?_ _ | refine Gr.drew ?_ | refine Gr.drewN ?_ _))⟩)
    by_cases a3 : L.sigs.length < 1
    · (go_enter Tryd.func15, Tryd.ntmps15; go_wp2; go_ret; exact ⟨ret_bool HNO.out.symm, (by repeat (first | exact Gr.refl _ | assumption | refine Gr.plus ?_ _ | refine Gr.alloc ?_ _ | refine Gr.drew ?_ | refine Gr.drewN ?_ _))⟩)
    by_cases a4 : 6 < L.sigs.length
    · (go_enter Tryd.func15, Tryd.ntmps15; go_wp2; go_ret; exact ⟨ret_bool HNO.out.symm, (by repeat (first | exact Gr.refl _ | assumption | refine Gr.plus ?_ _ | refine Gr.alloc ?_ _ | refine Gr.drew ?_ | refine Gr.drewN ?_ _))⟩)
    by_cases a5 : 5 < L.pts.length
    · (go_enter Tryd.func15, Tryd.ntmps15; go_wp2; go_ret; exact ⟨ret_bool HNO.out.symm, (by repeat (first | exact Gr.refl _ | assumption | refine Gr.plus ?_ _ | refine Gr.alloc ?_ _ | refine Gr.drew ?_ | refine Gr.drewN ?_ _))⟩)
    by_cases a6 : 6 < L.rts.length
    · (go_enter Tryd.func15, Tryd.ntmps15; go_wp2; go_ret; exact ⟨ret_bool HNO.out.symm, (by repeat (first | exact Gr.refl _ | assumption | refine Gr.plus ?_ _ | refine Gr.alloc ?_ _ | refine Gr.drew ?_ | refine Gr.drewN ?_ _))⟩)
    exact absurd ⟨by unfold isInB; simp; omega, by unfold isInB; simp; omega, by omega, by omega⟩ hpre
  obtain ⟨h1, h2, h3, h4⟩ := hpre
  have k1 : (1 : Int) ≤ L.secs.length ∧ (L.secs.length : Int) ≤ 10 := by simpa [isInB] using h1
  have k2 : (1 : Int) ≤ L.sigs.length ∧ (L.sigs.length : Int) ≤ 6 := by simpa [isInB] using h2
  have d1 : decide ((L.secs.length : Int) < 1) = false := by simp; omega
  have d2 : decide ((10 : Int) < L.secs.length) = false := by simp; omega
  have d3 : decide ((L.sigs.length : Int) < 1) = false := by simp; omega
  have d4 : decide ((6 : Int) < L.sigs.length) = false := by simp; omega
  have d5 : decide ((5 : Int) < L.pts.length) = false := by simp; omega
  have d6 : decide ((6 : Int) < L.rts.length) = false := by simp; omega
  have hnoS : anyB (secBad L.secs.length L.pts) L.pts.length = true → layOk L = false := fun h => by unfold layOk; rw [h]; simp
  have hnoR : anyB (rtBad L) L.rts.length = true → layOk L = false := fun h => by unfold layOk; rw [h]; simp
  have hyes : anyB (secBad L.secs.length L.pts) L.pts.length = false → anyB (rtBad L) L.rts.length = false → layOk L = (namesOk L.secs && namesOk L.sigs && namesOk (ptNames L.pts) && namesOk (rtNames L.rts)) := fun ha hb => by
    unfold layOk; rw [ha, hb, h1, h2, decide_eq_true h3, decide_eq_true h4]; simp
  have hnoN : (namesOk L.secs && namesOk L.sigs && namesOk (ptNames L.pts) && namesOk (rtNames L.rts)) = false → layOk L = false := fun h =>
    (by decide : ∀ A a b c d : Bool, (a && b && c && d) = false → (A && a && b && c && d) = false) _ _ _ _ _ h
  have HNS := Lib.hid hnoS
  clear hnoS
  have HNR := Lib.hid hnoR
  clear hnoR
  have HYES := Lib.hid hyes
  clear hyes
  have HNN := Lib.hid hnoN
  clear hnoN
  clear h1 h2
  go_enter Tryd.func15, Tryd.ntmps15
  go_wp2
  go_loopw [3, 5] (fun v i wr => ∃ k : Nat, k ≤ L.pts.length ∧ i = .int .i64 k ∧ anyB (secBad L.secs.length L.pts) k = false ∧ wr.ownsRow (w.heap.size + 1) 9 1 v k (strVals (ptNames (L.pts.take k))) ∧ Gr (w.alloc _) wr) (fun _ i _ => L.pts.length - (intOf i).toNat)
  case atStart => exact ⟨0, by omega, rfl, rfl, World.ownsRow_nil _ _ _ _, (by repeat (first | exact Gr.refl _ | assumption | refine Gr.plus ?_ _ | refine Gr.alloc ?_ _ | refine Gr.drew ?_ | refine Gr.drewN ?_ _))⟩
  case round =>
    obtain ⟨k, hk, rfl, hno, hown, ma, rfl⟩ := hrel
    have Hno := Lib.hid hno
    clear hno
    have HO := Lib.hid hown
    clear hown
    by_cases hlt : k < L.pts.length
    · obtain ⟨b, off, rfl, hc, hc'⟩ := SlPts.el HP.out hlt
      have hk1 : (0 : Int) ≤ (k : Int) := by omega
      have hk2 : (k : Int) < (L.pts.length : Int) := by omega
      go_wp2_with (at_builtin; refine wpList_append_own _ rfl _ _ 22 rfl (w.heap.size + 1) 9 i0 _ 1 16 Tryd.underlying22 hi hz0 hz1 hz2 rfl (by decide) _ _ _ rfl (own_gr HO.out (by repeat (first | exact Gr.refl _ | assumption | refine Gr.plus ?_ _ | refine Gr.alloc ?_ _ | refine Gr.drew ?_ | refine Gr.drewN ?_ _))) ⟨_, 0, none⟩ 1 1 [.string (gP L.pts k).name] rfl rfl ?c1 ?c2 ?c3 ?c4 ?c5 ?_)
      case c1 => exact new_cells (by simp)
      case c2 => simp [Value.oneCell']
      case c3 => simp [maxLen]; omega
      case c4 => omega
      case c5 => simp; omega
      intro v' w1 hown' hgrow _
      have HO2 := Lib.hid hown'
      have hg2 : Gr (w.alloc (.cells #[.slice As L.secs.length cs, .slice (some ⟨b, off, none⟩) L.pts.length cp, .slice Ag L.sigs.length cg, .slice Ar L.rts.length cr] 26)) w1 := Gr.grown (by repeat (first | exact Gr.refl _ | assumption | refine Gr.plus ?_ _ | refine Gr.alloc ?_ _ | refine Gr.drew ?_ | refine Gr.drewN ?_ _)) hgrow (fun k hk => by simpa using own_base HO.out k hk)
      clear hown' hgrow
      obtain ⟨m1, rfl⟩ := hg2
      cases c1 : decide ((gP L.pts k).sec < 0)
      case true =>
        go_wp2_with fail
        refine wp_region_gr (by kernel_rfl) (by kernel_rfl) ?_
        repeat (go_big_quiet_step (fail))
        refine wpQuiet_nil ?_
        rintro _ ⟨mq, rfl⟩
        go_wp2
        go_ret
        exact ⟨ret_bool (HNS.out (anyB_true hlt (by simp only [decide_eq_true_eq] at c1; unfold secBad isInB; rw [decide_eq_false (by omega : ¬ (0 : Int) ≤ (gP L.pts k).sec)]; rfl))).symm, (by repeat (first | exact Gr.refl _ | assumption | refine Gr.plus ?_ _ | refine Gr.alloc ?_ _ | refine Gr.drew ?_ | refine Gr.drewN ?_ _))⟩
      cases c2 : decide ((L.secs.length : Int) ≤ (gP L.pts k).sec)
      all_goals
        go_wp2_with fail
        refine wp_region_gr (by kernel_rfl) (by kernel_rfl) ?_
        repeat (go_big_quiet_step (fail))
        refine wpQuiet_nil ?_
        rintro _ ⟨mq, rfl⟩
        try rw [c2]
        go_wp2
        first
          | (go_ret; exact ⟨ret_bool (HNS.out (anyB_true hlt (by simp only [decide_eq_true_eq, decide_eq_false_iff_not] at c1 c2; unfold secBad isInB; rw [decide_eq_false (by omega : ¬ (gP L.pts k).sec ≤ (L.secs.length : Int) - 1)]; simp))).symm, (by repeat (first | exact Gr.refl _ | assumption | refine Gr.plus ?_ _ | refine Gr.alloc ?_ _ | refine Gr.drew ?_ | refine Gr.drewN ?_ _))⟩)
          | exact ⟨⟨k + 1, by omega, by go_num, anyB_step Hno.out (by simp only [decide_eq_true_eq, decide_eq_false_iff_not] at c1 c2; unfold secBad isInB; rw [decide_eq_true (by omega : (0 : Int) ≤ (gP L.pts k).sec), decide_eq_true (by omega : (gP L.pts k).sec ≤ (L.secs.length : Int) - 1)]; rfl), by rw [← ptNames_snoc _ _ hlt, ← strVals_snoc]; exact own_gr HO2.out (by repeat (first | exact Gr.refl _ | assumption | refine Gr.plus ?_ _ | refine Gr.alloc ?_ _ | refine Gr.drew ?_ | refine Gr.drewN ?_ _)), (by repeat (first | exact Gr.refl _ | assumption | refine Gr.plus ?_ _ | refine Gr.alloc ?_ _ | refine Gr.drew ?_ | refine Gr.drewN ?_ _))⟩, by simp [intOf]; omega⟩
    · obtain rfl : k = L.pts.length := by omega
      have HNA := Lib.hid Hno.out
      have HOA := Lib.hid (show ((w.alloc _).plus ma).ownsRow _ _ _ _ (ptNames L.pts).length (strVals (ptNames L.pts)) from by rw [ptNames_len]; have := HO.out; rwa [List.take_length] at this)
      have HPN := Lib.hid (strs_slat HOA.out)
      clear HO Hno
      go_wp2
      go_loopw [4, 6] (fun v i wr => ∃ k : Nat, k ≤ L.rts.length ∧ i = .int .i64 k ∧ wr.ownsRow (w.heap.size + 1 + ma.x.size) 9 1 v k (strVals (rtNames (L.rts.take k))) ∧ Gr ((w.alloc _).plus ma) wr) (fun _ i _ => L.rts.length - (intOf i).toNat)
      case atStart => exact ⟨0, by omega, rfl, World.ownsRow_nil _ _ _ _, (by repeat (first | exact Gr.refl _ | assumption | refine Gr.plus ?_ _ | refine Gr.alloc ?_ _ | refine Gr.drew ?_ | refine Gr.drewN ?_ _))⟩
      case round =>
        obtain ⟨k, hk, rfl, hown, m2, rfl⟩ := hrel
        have HO := Lib.hid hown
        clear hown
        by_cases hlt : k < L.rts.length
        · obtain ⟨b, off, Ax, cx, Aq, cq, Af, cf, rfl, c0, c1, c2, c3, c4, c5, hx, hq, hf⟩ := SlRts.el HR.out hlt
          clear hx hq hf c1 c2 c3 c4 c5
          go_wp2_with (at_builtin; refine wpList_append_own _ rfl _ _ 22 rfl (w.heap.size + 1 + ma.x.size) 9 i0 _ 1 16 Tryd.underlying22 hi hz0 hz1 hz2 rfl (by decide) _ _ _ rfl (own_gr HO.out (by repeat (first | exact Gr.refl _ | assumption | refine Gr.plus ?_ _ | refine Gr.alloc ?_ _ | refine Gr.drew ?_ | refine Gr.drewN ?_ _))) ⟨_, 0, none⟩ 1 1 [.string (gR L.rts k).name] rfl rfl ?c1 ?c2 ?c3 ?c4 ?c5 ?_)
          case c1 => exact new_cells (by simp)
          case c2 => simp [Value.oneCell']
          case c3 => simp [maxLen]; omega
          case c4 => omega
          case c5 => simp; omega
          intro v' w1 hown' hgrow _
          have HO2 := Lib.hid hown'
          have hg2 : Gr ((w.alloc (.cells #[.slice As L.secs.length cs, .slice Ap L.pts.length cp, .slice Ag L.sigs.length cg, .slice (some ⟨b, off, none⟩) L.rts.length cr] 26)).plus ma) w1 := Gr.grown (by repeat (first | exact Gr.refl _ | assumption | refine Gr.plus ?_ _ | refine Gr.alloc ?_ _ | refine Gr.drew ?_ | refine Gr.drewN ?_ _)) hgrow (fun k hk => by simpa using own_base HO.out k hk)
          clear hown' hgrow
          obtain ⟨m1, rfl⟩ := hg2
          go_wp2
          exact ⟨⟨k + 1, by omega, by go_num, by rw [← rtNames_snoc _ _ hlt, ← strVals_snoc]; exact own_gr HO2.out (by repeat (first | exact Gr.refl _ | assumption | refine Gr.plus ?_ _ | refine Gr.alloc ?_ _ | refine Gr.drew ?_ | refine Gr.drewN ?_ _)), (by repeat (first | exact Gr.refl _ | assumption | refine Gr.plus ?_ _ | refine Gr.alloc ?_ _ | refine Gr.drew ?_ | refine Gr.drewN ?_ _))⟩, by simp [intOf]; omega⟩
        · obtain rfl : k = L.rts.length := by omega
          have HRN := Lib.hid (strs_slat (show (((w.alloc _).plus ma).plus m2).ownsRow _ _ _ _ (rtNames L.rts).length (strVals (rtNames L.rts)) from by rw [rtNames_len]; have := HO.out; rwa [List.take_length] at this))
          have hs1 : ∀ i, i < (ptNames L.pts).length → (gs (ptNames L.pts) i).size ≤ 3000 := fun i hi => by rw [ptNames_len] at hi; rw [gs_ptNames _ _ hi]; exact HSM.out.pts i hi
          have hs2 : ∀ i, i < (rtNames L.rts).length → (gs (rtNames L.rts) i).size ≤ 3000 := fun i hi => by rw [rtNames_len] at hi; rw [gs_rtNames _ _ hi]; exact HSM.out.rts i hi
          have HS1 := Lib.hid hs1
          clear hs1
          have HS2 := Lib.hid hs2
          clear hs2
          clear HO
          cases g1 : namesOk L.secs <;> cases g2 : namesOk L.sigs <;> cases g3 : namesOk (ptNames L.pts) <;> cases g4 : namesOk (rtNames L.rts)
          all_goals
            go_wp2_with (first | (go_at_call 66; (with_reducible refine (ref4names_any _ _ L.secs (hT.gr (by repeat (first | exact Gr.refl _ | assumption | refine Gr.plus ?_ _ | refine Gr.alloc ?_ _ | refine Gr.drew ?_ | refine Gr.drewN ?_ _))) HSM.out.secs (HS.out.gr (by repeat (first | exact Gr.refl _ | assumption | refine Gr.plus ?_ _ | refine Gr.alloc ?_ _ | refine Gr.drew ?_ | refine Gr.drewN ?_ _)))).mono ?_); rintro e w' ⟨rfl, m, rfl⟩) | (go_at_call 66; (with_reducible refine (ref4names_any _ _ L.sigs (hT.gr (by repeat (first | exact Gr.refl _ | assumption | refine Gr.plus ?_ _ | refine Gr.alloc ?_ _ | refine Gr.drew ?_ | refine Gr.drewN ?_ _))) HSM.out.sigs (HG.out.gr (by repeat (first | exact Gr.refl _ | assumption | refine Gr.plus ?_ _ | refine Gr.alloc ?_ _ | refine Gr.drew ?_ | refine Gr.drewN ?_ _)))).mono ?_); rintro e w' ⟨rfl, m, rfl⟩) | (go_at_call 66; (with_reducible refine (ref4names_any _ _ (ptNames L.pts) (hT.gr (by repeat (first | exact Gr.refl _ | assumption | refine Gr.plus ?_ _ | refine Gr.alloc ?_ _ | refine Gr.drew ?_ | refine Gr.drewN ?_ _))) HS1.out (HPN.out.gr (by repeat (first | exact Gr.refl _ | assumption | refine Gr.plus ?_ _ | refine Gr.alloc ?_ _ | refine Gr.drew ?_ | refine Gr.drewN ?_ _)))).mono ?_); rintro e w' ⟨rfl, m, rfl⟩) | (go_at_call 66; (with_reducible refine (ref4names_any _ _ (rtNames L.rts) (hT.gr (by repeat (first | exact Gr.refl _ | assumption | refine Gr.plus ?_ _ | refine Gr.alloc ?_ _ | refine Gr.drew ?_ | refine Gr.drewN ?_ _))) HS2.out (HRN.out.gr (by repeat (first | exact Gr.refl _ | assumption | refine Gr.plus ?_ _ | refine Gr.alloc ?_ _ | refine Gr.drew ?_ | refine Gr.drewN ?_ _)))).mono ?_); rintro e w' ⟨rfl, m, rfl⟩))
          iterate 15 (go_ret; exact ⟨ret_bool (HNN.out (by rw [g1, g2, g3, g4]; rfl)).symm, (by repeat (first | exact Gr.refl _ | assumption | refine Gr.plus ?_ _ | refine Gr.alloc ?_ _ | refine Gr.drew ?_ | refine Gr.drewN ?_ _))⟩)
          go_loopw [7] (fun i wr => ∃ k : Nat, k ≤ L.rts.length ∧ i = .int .i64 k ∧ anyB (rtBad L) k = false ∧ Gr (((w.alloc (.cells #[.slice As L.secs.length cs, .slice Ap L.pts.length cp, .slice Ag L.sigs.length cg, .slice Ar L.rts.length cr] 26)).plus ma).plus m2) wr) (fun i _ => L.rts.length - (intOf i).toNat)
          case atStart => exact ⟨0, by omega, rfl, rfl, (by repeat (first | exact Gr.refl _ | assumption | refine Gr.plus ?_ _ | refine Gr.alloc ?_ _ | refine Gr.drew ?_ | refine Gr.drewN ?_ _))⟩
          case round =>
            obtain ⟨k, hk, rfl, hno, m3, rfl⟩ := hrel
            have Hno := Lib.hid hno
            clear hno
            by_cases hlt : k < L.rts.length
            · obtain ⟨b, off, Ax, cx, Aq, cq, Af, cf, rfl, c0, c1, c2, c3, c4, c5, hx, hq, hf⟩ := SlRts.el HR.out hlt
              have HRV := Lib.hid (RtAt.shut hx hq hf)
              clear hx hq hf
              have hk1 : (0 : Int) ≤ (k : Int) := by omega
              have hk2 : (k : Int) < (L.rts.length : Int) := by omega
              cases hrb : routeOk L.secs.length L.pts.length L.pts L.sigs.length (gR L.rts k)
              all_goals
                go_wp2_with fail
                refine wp_region_gr (by kernel_rfl) (by kernel_rfl) ?_
                repeat (go_big_quiet_step ((go_at_call 67; with_reducible exact Calls.grown (ref4route_any _ _ _ L _ (HL.out.gr (by repeat (first | exact Gr.refl _ | assumption | refine Gr.plus ?_ _ | refine Gr.alloc ?_ _ | refine Gr.drew ?_ | refine Gr.drewN ?_ _))) (HRV.out.gr (by repeat (first | exact Gr.refl _ | assumption | refine Gr.plus ?_ _ | refine Gr.alloc ?_ _ | refine Gr.drew ?_ | refine Gr.drewN ?_ _)))))))
                refine wpQuiet_nil ?_
                rintro _ ⟨mq, rfl⟩
                try rw [hrb]
                go_wp2
                first
                  | (go_ret; exact ⟨ret_bool (HNR.out (anyB_true hlt (by unfold rtBad; rw [hrb]; rfl))).symm, (by repeat (first | exact Gr.refl _ | assumption | refine Gr.plus ?_ _ | refine Gr.alloc ?_ _ | refine Gr.drew ?_ | refine Gr.drewN ?_ _))⟩)
                  | exact ⟨⟨k + 1, by omega, by go_num, anyB_step Hno.out (by unfold rtBad; rw [hrb]; rfl), (by repeat (first | exact Gr.refl _ | assumption | refine Gr.plus ?_ _ | refine Gr.alloc ?_ _ | refine Gr.drew ?_ | refine Gr.drewN ?_ _))⟩, by simp [intOf]; omega⟩
            · obtain rfl : k = L.rts.length := by omega
              have hfin := HYES.out HNA.out Hno.out
              rw [g1, g2, g3, g4] at hfin
              have HFIN := Lib.hid hfin
              clear hfin
              go_wp2
              go_ret
              exact ⟨ret_bool HFIN.out.symm, (by repeat (first | exact Gr.refl _ | assumption | refine Gr.plus ?_ _ | refine Gr.alloc ?_ _ | refine Gr.drew ?_ | refine Gr.drewN ?_ _))⟩
end Go.Proofs.YtnfceboppdcfdaaDoor
