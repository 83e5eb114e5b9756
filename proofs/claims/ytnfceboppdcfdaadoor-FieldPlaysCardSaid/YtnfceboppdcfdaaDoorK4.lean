/- The walks of package table: each function returns what its plain function says. -/
import Derived.Test.YtnfceboppdcfdaaDoorS4
import Derived.Test.YtnfceboppdcfdaaDoorProg
namespace Go.Proofs.YtnfceboppdcfdaaDoor
open Go.RowKit
set_option maxHeartbeats 4000000
set_option maxRecDepth 1000000

theorem isIn_any (n lo hi : Int) (w : World) : Calls Tryd.prog 123 #[.int .i64 n, .int .i64 lo, .int .i64 hi] w fun e w' => e = .returned (.bool (isInB n lo hi)) ∧ Gr w w' := by
  by_cases h1 : lo ≤ n <;> by_cases h2 : n ≤ hi
  all_goals
    go_enter Tryd.func123, Tryd.ntmps123
    go_wp2
    go_ret
    exact ⟨ret_bool (by simp [isInB, h1, h2]), (by repeat (first | exact Gr.refl _ | assumption | refine Gr.plus ?_ _ | refine Gr.alloc ?_ _ | refine Gr.drew ?_ | refine Gr.drewN ?_ _))⟩

theorem index_ints (w : World) (v : Value) (l : List Int) (n : Int) (h : SlInts w v l) :
    Calls Tryd.prog 119 #[v, .int .i64 n] w fun e w' => (∃ z : Int, e = .returned (.int .i64 z) ∧ decide (0 ≤ z) = inI l n) ∧ Gr w w' := by
  obtain ⟨A, cap, rfl, hn, hcap, hh⟩ := h
  have H := Lib.hid hh
  clear hh
  go_enter Tryd.func119, Tryd.ntmps119
  go_wp2
  go_loop [8] (fun i => ∃ k : Nat, k ≤ l.length ∧ i = .int .i64 k ∧ anyB (fun j => gi l j == n) k = false) (fun i => l.length - (intOf i).toNat)
  case atStart => exact ⟨0, by omega, rfl, rfl⟩
  case round =>
    obtain ⟨k, hk, rfl, hno⟩ := hrel
    have Hno := Lib.hid hno
    clear hno
    by_cases hlt : k < l.length
    · obtain ⟨b, off, rfl, hj⟩ := H.out (by omega)
      have hc := hj k (by omega)
      clear hj H
      cases hq : (n == gi l k)
      · go_wp2
        go_round
        case rel => exact ⟨k + 1, by omega, by go_num, anyB_step Hno.out (by rw [Bool.beq_comm]; exact hq)⟩
        case measure => simp [intOf]; omega
      · go_wp2
        go_ret
        exact ⟨⟨_, rfl, by rw [inI, anyB_true hlt (by rw [Bool.beq_comm]; exact hq)]; simp⟩, (by repeat (first | exact Gr.refl _ | assumption | refine Gr.plus ?_ _ | refine Gr.alloc ?_ _ | refine Gr.drew ?_ | refine Gr.drewN ?_ _))⟩
    · go_wp2
      go_ret
      obtain rfl : k = l.length := by omega
      exact ⟨⟨_, rfl, by rw [inI, Hno.out]; rfl⟩, (by repeat (first | exact Gr.refl _ | assumption | refine Gr.plus ?_ _ | refine Gr.alloc ?_ _ | refine Gr.drew ?_ | refine Gr.drewN ?_ _))⟩

theorem contains_ints (w : World) (v : Value) (l : List Int) (n : Int) (h : SlInts w v l) :
    Calls Tryd.prog 70 #[v, .int .i64 n] w fun e w' => e = .returned (.bool (inI l n)) ∧ Gr w w' := by
  go_enter Tryd.func70, Tryd.ntmps70
  go_wp2_with (go_at_call 119; refine (index_ints _ _ _ _ h).mono ?_; rintro e w' ⟨⟨z, rfl, hz⟩, m, rfl⟩)
  go_ret
  exact ⟨rfl, (by repeat (first | exact Gr.refl _ | assumption | refine Gr.plus ?_ _ | refine Gr.alloc ?_ _ | refine Gr.drew ?_ | refine Gr.drewN ?_ _))⟩

theorem isPath_any (w : World) (vl v : Value) (L : Layout) (p : List Int) (hl : LayAt w vl L) (h : SlInts w v p) :
    Calls Tryd.prog 154 #[vl, v] w fun e w' => e = .returned (.bool (pathOk L.secs.length p)) ∧ Gr w w' := by
  obtain ⟨As, cs, Ap, cp, Ag, cg, Ar, cr, rfl, -, -, -, -, hb⟩ := hl.opened
  obtain ⟨A, cap, rfl, hn, hcap⟩ := SlAt.open h
  have H := Lib.hid h
  clear h
  go_enter Tryd.func154, Tryd.ntmps154
  go_wp2
  go_loopw [9] (fun i wr => ∃ k : Nat, k ≤ p.length ∧ i = .int .i64 k ∧ anyB (pathBad L.secs.length p) k = false ∧ Gr (w.alloc _) wr) (fun i _ => p.length - (intOf i).toNat)
  case atStart => exact ⟨0, by omega, rfl, rfl, Gr.refl _⟩
  case round =>
    obtain ⟨k, hk, rfl, hno, m, rfl⟩ := hrel
    have Hno := Lib.hid hno
    clear hno
    by_cases hlt : k < p.length
    · obtain ⟨b, off, rfl, hc⟩ := SlInts.el H.out hlt
      go_wp2_with (first | (go_at_call 123; (with_reducible refine (isIn_any _ _ _ _).mono ?_); rintro e w' ⟨rfl, m, rfl⟩) | (go_at_call 70; (with_reducible refine (contains_ints _ _ (p.take k) _ ((SlInts.take H.out hlt).gr (by repeat (first | exact Gr.refl _ | assumption | refine Gr.plus ?_ _ | refine Gr.alloc ?_ _ | refine Gr.drew ?_ | refine Gr.drewN ?_ _)))).mono ?_); rintro e w' ⟨rfl, m, rfl⟩))
      all_goals first
        | (go_ret; exact ⟨ret_bool (by have := anyB_true (p := pathBad L.secs.length p) hlt (by simp [pathBad, *]); simp [pathOk, this]), (by repeat (first | exact Gr.refl _ | assumption | refine Gr.plus ?_ _ | refine Gr.alloc ?_ _ | refine Gr.drew ?_ | refine Gr.drewN ?_ _))⟩)
        | exact ⟨⟨k + 1, by omega, by go_num, anyB_step Hno.out (by simp [pathBad, *]), (by repeat (first | exact Gr.refl _ | assumption | refine Gr.plus ?_ _ | refine Gr.alloc ?_ _ | refine Gr.drew ?_ | refine Gr.drewN ?_ _))⟩, by simp [intOf]; omega⟩
    · go_wp2_with (go_at_call 123; (with_reducible refine (isIn_any _ _ _ _).mono ?_); rintro e w' ⟨rfl, m, rfl⟩)
      go_ret
      obtain rfl : k = p.length := by omega
      exact ⟨ret_bool (by simp [pathOk, Hno.out]), (by repeat (first | exact Gr.refl _ | assumption | refine Gr.plus ?_ _ | refine Gr.alloc ?_ _ | refine Gr.drew ?_ | refine Gr.drewN ?_ _))⟩

theorem areNeeds_any (w : World) (vl v vp : Value) (L : Layout) (l : List Need) (path : List Int) (wi : Bool) (hl : LayAt w vl L) (h : SlNeeds w v l) (hp : SlInts w vp path) :
    Calls Tryd.prog 155 #[vl, v, vp, .bool wi] w fun e w' => e = .returned (.bool (needsOk L.pts l path wi)) ∧ Gr w w' := by
  obtain ⟨As, cs, Ap, cp, Ag, cg, Ar, cr, rfl, -, hP, -, -, hb⟩ := hl.opened
  obtain ⟨A, cap, rfl, hn, hcap⟩ := SlAt.open h
  have H := Lib.hid h
  clear h
  have HP := Lib.hid hP
  clear hP
  have HI := Lib.hid hp
  clear hp
  go_enter Tryd.func155, Tryd.ntmps155
  go_wp2
  go_loopw [13] (fun i wr => ∃ k : Nat, k ≤ l.length ∧ i = .int .i64 k ∧ anyB (needBad L.pts l path wi) k = false ∧ Gr (w.alloc _) wr) (fun i _ => l.length - (intOf i).toNat)
  case atStart => exact ⟨0, by omega, rfl, rfl, Gr.refl _⟩
  case round =>
    obtain ⟨k, hk, rfl, hno, m, rfl⟩ := hrel
    have Hno := Lib.hid hno
    clear hno
    by_cases hlt : k < l.length
    · obtain ⟨b, off, rfl, hc, hc'⟩ := SlNeeds.el H.out hlt
      have fin0 : needBad L.pts l path wi k = true → needsOk L.pts l path wi = false := fun hh => by simp [needsOk, anyB_true hlt hh]
      have FIN := Lib.hid fin0
      clear fin0
      cases hin : isInB (gN l k).p 0 (L.pts.length - 1)
      · go_wp2_with fail
        refine wp_region_gr (by kernel_rfl) (by kernel_rfl) ?_
        repeat (go_big_quiet_step ((go_at_call 123; with_reducible exact Calls.grown (isIn_any _ _ _ _))))
        refine wpQuiet_nil ?_
        rintro _ ⟨mq, rfl⟩
        go_wp2
        go_ret
        exact ⟨ret_bool (FIN.out (by simp [needBad, hin])).symm, (by repeat (first | exact Gr.refl _ | assumption | refine Gr.plus ?_ _ | refine Gr.alloc ?_ _ | refine Gr.drew ?_ | refine Gr.drewN ?_ _))⟩
      · have hr : 0 ≤ (gN l k).p ∧ (gN l k).p ≤ L.pts.length - 1 := by simpa [isInB] using hin
        obtain ⟨q, hq⟩ := Int.eq_ofNat_of_zero_le hr.1
        have hql : q < L.pts.length := by omega
        obtain ⟨bp, op, rfl, hd, hd'⟩ := SlPts.el HP.out hql
        clear hr
        rw [hq] at hc hin
        have HQ := Lib.hid hq
        clear hq
        have hq0 : (0 : Int) ≤ (q : Int) := by omega
        have hx2 : ∀ a b c : Bool, (!a == b) = c → (a != b) = c := by decide
        have HXX := Lib.hid hx2
        clear hx2
        cases hx : (!inI path (gP L.pts q).sec == wi)
        all_goals
          by_cases hk0 : 0 < k
          · obtain ⟨b2, off2, e2, hc2, -⟩ := SlNeeds.el H.out (k := k - 1) (by omega)
            cases e2
            have hk1 : (0 : Int) < (k : Int) := by omega
            cases hge : decide ((q : Int) ≤ (gN l (k - 1)).p)
            all_goals
              go_wp2_with fail
              refine wp_region_gr (by kernel_rfl) (by kernel_rfl) ?_
              repeat (go_big_quiet_step ((first | (go_at_call 123; with_reducible exact Calls.grown (isIn_any _ _ _ _)) | (go_at_call 70; with_reducible exact Calls.grown (contains_ints _ _ path _ (HI.out.gr (by repeat (first | exact Gr.refl _ | assumption | refine Gr.plus ?_ _ | refine Gr.alloc ?_ _ | refine Gr.drew ?_ | refine Gr.drewN ?_ _))))))))
              refine wpQuiet_nil ?_
              rintro _ ⟨mq, rfl⟩
              go_wp2
              all_goals first
                | (go_ret; exact ⟨ret_bool (FIN.out (by unfold needBad; rw [HQ.out, Int.toNat_natCast, HXX.out _ _ _ hx]; simp [hin, hge, hk0])).symm, (by repeat (first | exact Gr.refl _ | assumption | refine Gr.plus ?_ _ | refine Gr.alloc ?_ _ | refine Gr.drew ?_ | refine Gr.drewN ?_ _))⟩)
                | exact ⟨⟨k + 1, by omega, by go_num, anyB_step Hno.out (by unfold needBad; rw [HQ.out, Int.toNat_natCast, HXX.out _ _ _ hx]; simp [hin, hge]), (by repeat (first | exact Gr.refl _ | assumption | refine Gr.plus ?_ _ | refine Gr.alloc ?_ _ | refine Gr.drew ?_ | refine Gr.drewN ?_ _))⟩, by simp [intOf]; omega⟩
          · obtain rfl : k = 0 := by omega
            simp only [Nat.zero_mul, Nat.add_zero] at hc hc'
            go_wp2_with fail
            refine wp_region_gr (by kernel_rfl) (by kernel_rfl) ?_
            repeat (go_big_quiet_step ((first | (go_at_call 123; with_reducible exact Calls.grown (isIn_any _ _ _ _)) | (go_at_call 70; with_reducible exact Calls.grown (contains_ints _ _ path _ (HI.out.gr (by repeat (first | exact Gr.refl _ | assumption | refine Gr.plus ?_ _ | refine Gr.alloc ?_ _ | refine Gr.drew ?_ | refine Gr.drewN ?_ _))))))))
            refine wpQuiet_nil ?_
            rintro _ ⟨mq, rfl⟩
            go_wp2
            all_goals first
              | (go_ret; exact ⟨ret_bool (FIN.out (by unfold needBad; rw [HQ.out, Int.toNat_natCast, HXX.out _ _ _ hx]; simp [hin])).symm, (by repeat (first | exact Gr.refl _ | assumption | refine Gr.plus ?_ _ | refine Gr.alloc ?_ _ | refine Gr.drew ?_ | refine Gr.drewN ?_ _))⟩)
              | exact ⟨⟨0 + 1, by omega, by go_num, anyB_step Hno.out (by unfold needBad; rw [HQ.out, Int.toNat_natCast, HXX.out _ _ _ hx]; simp [hin]), (by repeat (first | exact Gr.refl _ | assumption | refine Gr.plus ?_ _ | refine Gr.alloc ?_ _ | refine Gr.drew ?_ | refine Gr.drewN ?_ _))⟩, by simp [intOf]; omega⟩
    · go_wp2
      go_ret
      obtain rfl : k = l.length := by omega
      exact ⟨ret_bool (by simp [needsOk, Hno.out]), (by repeat (first | exact Gr.refl _ | assumption | refine Gr.plus ?_ _ | refine Gr.alloc ?_ _ | refine Gr.drew ?_ | refine Gr.drewN ?_ _))⟩

theorem isRoute_any (w : World) (vl v : Value) (L : Layout) (r : Route) (hl : LayAt w vl L) (h : RtV w v r) :
    Calls Tryd.prog 124 #[vl, v] w fun e w' => e = .returned (.bool (routeOk L.secs.length L.pts.length L.pts L.sigs.length r)) ∧ Gr w w' := by
  obtain ⟨As, cs, Ap, cp, Ag, cg, Ar, cr, rfl, hS, hP, hG, hR, hb⟩ := hl.opened
  obtain ⟨Aa, ca, Aq, cq, Af, cf, rfl, ha, hq, hf⟩ := h
  obtain ⟨_, _, e1, -, hla⟩ := SlAt.open ha
  cases e1
  obtain ⟨_, _, e1, -, hlq⟩ := SlAt.open hq
  cases e1
  have HP := Lib.hid hP
  clear hP
  have HA := Lib.hid ha
  clear ha
  have HQ := Lib.hid hq
  clear hq
  have HF := Lib.hid hf
  clear hf
  have HL := Lib.hid hl
  clear hl
  clear hS hG hR
  by_cases hall : isInB r.frm 0 (L.sigs.length - 1) = true ∧ isInB r.to 0 (L.sigs.length - 1) = true ∧ (r.frm == r.to) = false ∧ pathOk L.secs.length r.path = true ∧ needsOk L.pts r.pts r.path true = true ∧ needsOk L.pts r.flk r.path false = true
  case neg =>
    have hno : routeOk L.secs.length L.pts.length L.pts L.sigs.length r = false := by
      rw [Bool.eq_false_iff]
      intro hh
      apply hall
      simp only [routeOk, Bool.and_eq_true, Bool.not_eq_true'] at hh
      exact ⟨hh.1.1.1.1.1.1, hh.1.1.1.1.1.2, hh.1.1.1.1.2, hh.1.1.1.2, hh.1.1.2, hh.1.2⟩
    have HNO := Lib.hid hno
    clear hno
    cases h1 : isInB r.frm 0 (L.sigs.length - 1)
    · (go_enter Tryd.func124, Tryd.ntmps124; go_wp2_with (first | (go_at_call 123; (with_reducible refine (isIn_any _ _ _ _).mono ?_); rintro e w' ⟨rfl, m, rfl⟩) | (go_at_call 154; (with_reducible refine (isPath_any _ _ _ L r.path (HL.out.gr (by repeat (first | exact Gr.refl _ | assumption | refine Gr.plus ?_ _ | refine Gr.alloc ?_ _ | refine Gr.drew ?_ | refine Gr.drewN ?_ _))) (HA.out.gr (by repeat (first | exact Gr.refl _ | assumption | refine Gr.plus ?_ _ | refine Gr.alloc ?_ _ | refine Gr.drew ?_ | refine Gr.drewN ?_ _)))).mono ?_); rintro e w' ⟨rfl, m, rfl⟩) | ((go_at_call 155; (with_reducible refine (areNeeds_any _ _ _ _ L r.pts r.path true (HL.out.gr (by repeat (first | exact Gr.refl _ | assumption | refine Gr.plus ?_ _ | refine Gr.alloc ?_ _ | refine Gr.drew ?_ | refine Gr.drewN ?_ _))) (HQ.out.gr (by repeat (first | exact Gr.refl _ | assumption | refine Gr.plus ?_ _ | refine Gr.alloc ?_ _ | refine Gr.drew ?_ | refine Gr.drewN ?_ _))) (HA.out.gr (by repeat (first | exact Gr.refl _ | assumption | refine Gr.plus ?_ _ | refine Gr.alloc ?_ _ | refine Gr.drew ?_ | refine Gr.drewN ?_ _)))).mono ?_); rintro e w' ⟨rfl, m, rfl⟩)) | ((go_at_call 155; (with_reducible refine (areNeeds_any _ _ _ _ L r.flk r.path false (HL.out.gr (by repeat (first | exact Gr.refl _ | assumption | refine Gr.plus ?_ _ | refine Gr.alloc ?_ _ | refine Gr.drew ?_ | refine Gr.drewN ?_ _))) (HF.out.gr (by repeat (first | exact Gr.refl _ | assumption | refine Gr.plus ?_ _ | refine Gr.alloc ?_ _ | refine Gr.drew ?_ | refine Gr.drewN ?_ _))) (HA.out.gr (by repeat (first | exact Gr.refl _ | assumption | refine Gr.plus ?_ _ | refine Gr.alloc ?_ _ | refine Gr.drew ?_ | refine Gr.drewN ?_ _)))).mono ?_); rintro e w' ⟨rfl, m, rfl⟩))); go_ret; exact ⟨ret_bool HNO.out.symm, (by repeat (first | exact Gr.refl _ | assumption | refine Gr.plus ?_ _ | refine Gr.alloc ?_ _ | refine Gr.drew ?_ | refine Gr.drewN ?_ _))⟩)
    cases h2 : isInB r.to 0 (L.sigs.length - 1)
    · (go_enter Tryd.func124, Tryd.ntmps124; go_wp2_with (first | (go_at_call 123; (with_reducible refine (isIn_any _ _ _ _).mono ?_); rintro e w' ⟨rfl, m, rfl⟩) | (go_at_call 154; (with_reducible refine (isPath_any _ _ _ L r.path (HL.out.gr (by repeat (first | exact Gr.refl _ | assumption | refine Gr.plus ?_ _ | refine Gr.alloc ?_ _ | refine Gr.drew ?_ | refine Gr.drewN ?_ _))) (HA.out.gr (by repeat (first | exact Gr.refl _ | assumption | refine Gr.plus ?_ _ | refine Gr.alloc ?_ _ | refine Gr.drew ?_ | refine Gr.drewN ?_ _)))).mono ?_); rintro e w' ⟨rfl, m, rfl⟩) | ((go_at_call 155; (with_reducible refine (areNeeds_any _ _ _ _ L r.pts r.path true (HL.out.gr (by repeat (first | exact Gr.refl _ | assumption | refine Gr.plus ?_ _ | refine Gr.alloc ?_ _ | refine Gr.drew ?_ | refine Gr.drewN ?_ _))) (HQ.out.gr (by repeat (first | exact Gr.refl _ | assumption | refine Gr.plus ?_ _ | refine Gr.alloc ?_ _ | refine Gr.drew ?_ | refine Gr.drewN ?_ _))) (HA.out.gr (by repeat (first | exact Gr.refl _ | assumption | refine Gr.plus ?_ _ | refine Gr.alloc ?_ _ | refine Gr.drew ?_ | refine Gr.drewN ?_ _)))).mono ?_); rintro e w' ⟨rfl, m, rfl⟩)) | ((go_at_call 155; (with_reducible refine (areNeeds_any _ _ _ _ L r.flk r.path false (HL.out.gr (by repeat (first | exact Gr.refl _ | assumption | refine Gr.plus ?_ _ | refine Gr.alloc ?_ _ | refine Gr.drew ?_ | refine Gr.drewN ?_ _))) (HF.out.gr (by repeat (first | exact Gr.refl _ | assumption | refine Gr.plus ?_ _ | refine Gr.alloc ?_ _ | refine Gr.drew ?_ | refine Gr.drewN ?_ _))) (HA.out.gr (by repeat (first | exact Gr.refl _ | assumption | refine Gr.plus ?_ _ | refine Gr.alloc ?_ _ | refine Gr.drew ?_ | refine Gr.drewN ?_ _)))).mono ?_); rintro e w' ⟨rfl, m, rfl⟩))); go_ret; exact ⟨ret_bool HNO.out.symm, (by repeat (first | exact Gr.refl _ | assumption | refine Gr.plus ?_ _ | refine Gr.alloc ?_ _ | refine Gr.drew ?_ | refine Gr.drewN ?_ _))⟩)
    cases h3 : (r.frm == r.to)
    case true => (go_enter Tryd.func124, Tryd.ntmps124; go_wp2_with (first | (go_at_call 123; (with_reducible refine (isIn_any _ _ _ _).mono ?_); rintro e w' ⟨rfl, m, rfl⟩) | (go_at_call 154; (with_reducible refine (isPath_any _ _ _ L r.path (HL.out.gr (by repeat (first | exact Gr.refl _ | assumption | refine Gr.plus ?_ _ | refine Gr.alloc ?_ _ | refine Gr.drew ?_ | refine Gr.drewN ?_ _))) (HA.out.gr (by repeat (first | exact Gr.refl _ | assumption | refine Gr.plus ?_ _ | refine Gr.alloc ?_ _ | refine Gr.drew ?_ | refine Gr.drewN ?_ _)))).mono ?_); rintro e w' ⟨rfl, m, rfl⟩) | ((go_at_call 155; (with_reducible refine (areNeeds_any _ _ _ _ L r.pts r.path true (HL.out.gr (by repeat (first | exact Gr.refl _ | assumption | refine Gr.plus ?_ _ | refine Gr.alloc ?_ _ | refine Gr.drew ?_ | refine Gr.drewN ?_ _))) (HQ.out.gr (by repeat (first | exact Gr.refl _ | assumption | refine Gr.plus ?_ _ | refine Gr.alloc ?_ _ | refine Gr.drew ?_ | refine Gr.drewN ?_ _))) (HA.out.gr (by repeat (first | exact Gr.refl _ | assumption | refine Gr.plus ?_ _ | refine Gr.alloc ?_ _ | refine Gr.drew ?_ | refine Gr.drewN ?_ _)))).mono ?_); rintro e w' ⟨rfl, m, rfl⟩)) | ((go_at_call 155; (with_reducible refine (areNeeds_any _ _ _ _ L r.flk r.path false (HL.out.gr (by repeat (first | exact Gr.refl _ | assumption | refine Gr.plus ?_ _ | refine Gr.alloc ?_ _ | refine Gr.drew ?_ | refine Gr.drewN ?_ _))) (HF.out.gr (by repeat (first | exact Gr.refl _ | assumption | refine Gr.plus ?_ _ | refine Gr.alloc ?_ _ | refine Gr.drew ?_ | refine Gr.drewN ?_ _))) (HA.out.gr (by repeat (first | exact Gr.refl _ | assumption | refine Gr.plus ?_ _ | refine Gr.alloc ?_ _ | refine Gr.drew ?_ | refine Gr.drewN ?_ _)))).mono ?_); rintro e w' ⟨rfl, m, rfl⟩))); go_ret; exact ⟨ret_bool HNO.out.symm, (by repeat (first | exact Gr.refl _ | assumption | refine Gr.plus ?_ _ | refine Gr.alloc ?_ _ | refine Gr.drew ?_ | refine Gr.drewN ?_ _))⟩)
    cases h4 : pathOk L.secs.length r.path
    · (go_enter Tryd.func124, Tryd.ntmps124; go_wp2_with (first | (go_at_call 123; (with_reducible refine (isIn_any _ _ _ _).mono ?_); rintro e w' ⟨rfl, m, rfl⟩) | (go_at_call 154; (with_reducible refine (isPath_any _ _ _ L r.path (HL.out.gr (by repeat (first | exact Gr.refl _ | assumption | refine Gr.plus ?_ _ | refine Gr.alloc ?_ _ | refine Gr.drew ?_ | refine Gr.drewN ?_ _))) (HA.out.gr (by repeat (first | exact Gr.refl _ | assumption | refine Gr.plus ?_ _ | refine Gr.alloc ?_ _ | refine Gr.drew ?_ | refine Gr.drewN ?_ _)))).mono ?_); rintro e w' ⟨rfl, m, rfl⟩) | ((go_at_call 155; (with_reducible refine (areNeeds_any _ _ _ _ L r.pts r.path true (HL.out.gr (by repeat (first | exact Gr.refl _ | assumption | refine Gr.plus ?_ _ | refine Gr.alloc ?_ _ | refine Gr.drew ?_ | refine Gr.drewN ?_ _))) (HQ.out.gr (by repeat (first | exact Gr.refl _ | assumption | refine Gr.plus ?_ _ | refine Gr.alloc ?_ _ | refine Gr.drew ?_ | refine Gr.drewN ?_ _))) (HA.out.gr (by repeat (first | exact Gr.refl _ | assumption | refine Gr.plus ?_ _ | refine Gr.alloc ?_ _ | refine Gr.drew ?_ | refine Gr.drewN ?_ _)))).mono ?_); rintro e w' ⟨rfl, m, rfl⟩)) | ((go_at_call 155; (with_reducible refine (areNeeds_any _ _ _ _ L r.flk r.path false (HL.out.gr (by repeat (first | exact Gr.refl _ | assumption | refine Gr.plus ?_ _ | refine Gr.alloc ?_ _ | refine Gr.drew ?_ | refine Gr.drewN ?_ _))) (HF.out.gr (by repeat (first | exact Gr.refl _ | assumption | refine Gr.plus ?_ _ | refine Gr.alloc ?_ _ | refine Gr.drew ?_ | refine Gr.drewN ?_ _))) (HA.out.gr (by repeat (first | exact Gr.refl _ | assumption | refine Gr.plus ?_ _ | refine Gr.alloc ?_ _ | refine Gr.drew ?_ | refine Gr.drewN ?_ _)))).mono ?_); rintro e w' ⟨rfl, m, rfl⟩))); go_ret; exact ⟨ret_bool HNO.out.symm, (by repeat (first | exact Gr.refl _ | assumption | refine Gr.plus ?_ _ | refine Gr.alloc ?_ _ | refine Gr.drew ?_ | refine Gr.drewN ?_ _))⟩)
    cases h5 : needsOk L.pts r.pts r.path true
    · (go_enter Tryd.func124, Tryd.ntmps124; go_wp2_with (first | (go_at_call 123; (with_reducible refine (isIn_any _ _ _ _).mono ?_); rintro e w' ⟨rfl, m, rfl⟩) | (go_at_call 154; (with_reducible refine (isPath_any _ _ _ L r.path (HL.out.gr (by repeat (first | exact Gr.refl _ | assumption | refine Gr.plus ?_ _ | refine Gr.alloc ?_ _ | refine Gr.drew ?_ | refine Gr.drewN ?_ _))) (HA.out.gr (by repeat (first | exact Gr.refl _ | assumption | refine Gr.plus ?_ _ | refine Gr.alloc ?_ _ | refine Gr.drew ?_ | refine Gr.drewN ?_ _)))).mono ?_); rintro e w' ⟨rfl, m, rfl⟩) | ((go_at_call 155; (with_reducible refine (areNeeds_any _ _ _ _ L r.pts r.path true (HL.out.gr (by repeat (first | exact Gr.refl _ | assumption | refine Gr.plus ?_ _ | refine Gr.alloc ?_ _ | refine Gr.drew ?_ | refine Gr.drewN ?_ _))) (HQ.out.gr (by repeat (first | exact Gr.refl _ | assumption | refine Gr.plus ?_ _ | refine Gr.alloc ?_ _ | refine Gr.drew ?_ | refine Gr.drewN ?_ _))) (HA.out.gr (by repeat (first | exact Gr.refl _ | assumption | refine Gr.plus ?_ _ | refine Gr.alloc ?_ _ | refine Gr.drew ?_ | refine Gr.drewN ?_ _)))).mono ?_); rintro e w' ⟨rfl, m, rfl⟩)) | ((go_at_call 155; (with_reducible refine (areNeeds_any _ _ _ _ L r.flk r.path false (HL.out.gr (by repeat (first | exact Gr.refl _ | assumption | refine Gr.plus ?_ _ | refine Gr.alloc ?_ _ | refine Gr.drew ?_ | refine Gr.drewN ?_ _))) (HF.out.gr (by repeat (first | exact Gr.refl _ | assumption | refine Gr.plus ?_ _ | refine Gr.alloc ?_ _ | refine Gr.drew ?_ | refine Gr.drewN ?_ _))) (HA.out.gr (by repeat (first | exact Gr.refl _ | assumption | refine Gr.plus ?_ _ | refine Gr.alloc ?_ _ | refine Gr.drew ?_ | refine Gr.drewN ?_ _)))).mono ?_); rintro e w' ⟨rfl, m, rfl⟩))); go_ret; exact ⟨ret_bool HNO.out.symm, (by repeat (first | exact Gr.refl _ | assumption | refine Gr.plus ?_ _ | refine Gr.alloc ?_ _ | refine Gr.drew ?_ | refine Gr.drewN ?_ _))⟩)
    cases h6 : needsOk L.pts r.flk r.path false
    · (go_enter Tryd.func124, Tryd.ntmps124; go_wp2_with (first | (go_at_call 123; (with_reducible refine (isIn_any _ _ _ _).mono ?_); rintro e w' ⟨rfl, m, rfl⟩) | (go_at_call 154; (with_reducible refine (isPath_any _ _ _ L r.path (HL.out.gr (by repeat (first | exact Gr.refl _ | assumption | refine Gr.plus ?_ _ | refine Gr.alloc ?_ _ | refine Gr.drew ?_ | refine Gr.drewN ?_ _))) (HA.out.gr (by repeat (first | exact Gr.refl _ | assumption | refine Gr.plus ?_ _ | refine Gr.alloc ?_ _ | refine Gr.drew ?_ | refine Gr.drewN ?_ _)))).mono ?_); rintro e w' ⟨rfl, m, rfl⟩) | ((go_at_call 155; (with_reducible refine (areNeeds_any _ _ _ _ L r.pts r.path true (HL.out.gr (by repeat (first | exact Gr.refl _ | assumption | refine Gr.plus ?_ _ | refine Gr.alloc ?_ _ | refine Gr.drew ?_ | refine Gr.drewN ?_ _))) (HQ.out.gr (by repeat (first | exact Gr.refl _ | assumption | refine Gr.plus ?_ _ | refine Gr.alloc ?_ _ | refine Gr.drew ?_ | refine Gr.drewN ?_ _))) (HA.out.gr (by repeat (first | exact Gr.refl _ | assumption | refine Gr.plus ?_ _ | refine Gr.alloc ?_ _ | refine Gr.drew ?_ | refine Gr.drewN ?_ _)))).mono ?_); rintro e w' ⟨rfl, m, rfl⟩)) | ((go_at_call 155; (with_reducible refine (areNeeds_any _ _ _ _ L r.flk r.path false (HL.out.gr (by repeat (first | exact Gr.refl _ | assumption | refine Gr.plus ?_ _ | refine Gr.alloc ?_ _ | refine Gr.drew ?_ | refine Gr.drewN ?_ _))) (HF.out.gr (by repeat (first | exact Gr.refl _ | assumption | refine Gr.plus ?_ _ | refine Gr.alloc ?_ _ | refine Gr.drew ?_ | refine Gr.drewN ?_ _))) (HA.out.gr (by repeat (first | exact Gr.refl _ | assumption | refine Gr.plus ?_ _ | refine Gr.alloc ?_ _ | refine Gr.drew ?_ | refine Gr.drewN ?_ _)))).mono ?_); rintro e w' ⟨rfl, m, rfl⟩))); go_ret; exact ⟨ret_bool HNO.out.symm, (by repeat (first | exact Gr.refl _ | assumption | refine Gr.plus ?_ _ | refine Gr.alloc ?_ _ | refine Gr.drew ?_ | refine Gr.drewN ?_ _))⟩)
    exact absurd ⟨h1, h2, h3, h4, h5, h6⟩ hall
  obtain ⟨h1, h2, h3, h4, h5, h6⟩ := hall
  have hyes : ∀ b, (cntB (onPath L.pts r.path) L.pts.length == r.pts.length) = b → routeOk L.secs.length L.pts.length L.pts L.sigs.length r = b := fun b hb => by simp only [routeOk, h1, h2, h3, h4, h5, h6, hb]; rfl
  have HYES := Lib.hid hyes
  clear hyes
  go_enter Tryd.func124, Tryd.ntmps124
  go_wp2_with (first | (go_at_call 123; (with_reducible refine (isIn_any _ _ _ _).mono ?_); rintro e w' ⟨rfl, m, rfl⟩) | (go_at_call 154; (with_reducible refine (isPath_any _ _ _ L r.path (HL.out.gr (by repeat (first | exact Gr.refl _ | assumption | refine Gr.plus ?_ _ | refine Gr.alloc ?_ _ | refine Gr.drew ?_ | refine Gr.drewN ?_ _))) (HA.out.gr (by repeat (first | exact Gr.refl _ | assumption | refine Gr.plus ?_ _ | refine Gr.alloc ?_ _ | refine Gr.drew ?_ | refine Gr.drewN ?_ _)))).mono ?_); rintro e w' ⟨rfl, m, rfl⟩) | ((go_at_call 155; (with_reducible refine (areNeeds_any _ _ _ _ L r.pts r.path true (HL.out.gr (by repeat (first | exact Gr.refl _ | assumption | refine Gr.plus ?_ _ | refine Gr.alloc ?_ _ | refine Gr.drew ?_ | refine Gr.drewN ?_ _))) (HQ.out.gr (by repeat (first | exact Gr.refl _ | assumption | refine Gr.plus ?_ _ | refine Gr.alloc ?_ _ | refine Gr.drew ?_ | refine Gr.drewN ?_ _))) (HA.out.gr (by repeat (first | exact Gr.refl _ | assumption | refine Gr.plus ?_ _ | refine Gr.alloc ?_ _ | refine Gr.drew ?_ | refine Gr.drewN ?_ _)))).mono ?_); rintro e w' ⟨rfl, m, rfl⟩)) | ((go_at_call 155; (with_reducible refine (areNeeds_any _ _ _ _ L r.flk r.path false (HL.out.gr (by repeat (first | exact Gr.refl _ | assumption | refine Gr.plus ?_ _ | refine Gr.alloc ?_ _ | refine Gr.drew ?_ | refine Gr.drewN ?_ _))) (HF.out.gr (by repeat (first | exact Gr.refl _ | assumption | refine Gr.plus ?_ _ | refine Gr.alloc ?_ _ | refine Gr.drew ?_ | refine Gr.drewN ?_ _))) (HA.out.gr (by repeat (first | exact Gr.refl _ | assumption | refine Gr.plus ?_ _ | refine Gr.alloc ?_ _ | refine Gr.drew ?_ | refine Gr.drewN ?_ _)))).mono ?_); rintro e w' ⟨rfl, m, rfl⟩)))
  go_loopw [6, 60] (fun n i wr => ∃ k : Nat, k ≤ L.pts.length ∧ i = .int .i64 k ∧ n = .int .i64 (cntB (onPath L.pts r.path) k) ∧ Gr ((w.alloc _).alloc _) wr) (fun _ i _ => L.pts.length - (intOf i).toNat)
  case atStart => exact ⟨0, by omega, rfl, rfl, (by repeat (first | exact Gr.refl _ | assumption | refine Gr.plus ?_ _ | refine Gr.alloc ?_ _ | refine Gr.drew ?_ | refine Gr.drewN ?_ _))⟩
  case round =>
    obtain ⟨k, hk, rfl, rfl, m, rfl⟩ := hrel
    have hcb := cntB_le (onPath L.pts r.path) k
    have hc1 : (0 : Int) ≤ (cntB (onPath L.pts r.path) k : Nat) := by omega
    by_cases hlt : k < L.pts.length
    · obtain ⟨b, off, rfl, hc, hc'⟩ := SlPts.el HP.out hlt
      have hst : ∀ b, onPath L.pts r.path k = b → cntB (onPath L.pts r.path) (k + 1) = cntB (onPath L.pts r.path) k + if b then 1 else 0 := fun b hb => by rw [cntB, hb]
      have HST := Lib.hid hst
      clear hst
      cases hx : inI r.path (gP L.pts k).sec
      all_goals
        go_wp2_with (go_at_call 70; (with_reducible refine (contains_ints _ _ r.path _ (HA.out.gr (by repeat (first | exact Gr.refl _ | assumption | refine Gr.plus ?_ _ | refine Gr.alloc ?_ _ | refine Gr.drew ?_ | refine Gr.drewN ?_ _)))).mono ?_); rintro e w' ⟨rfl, m, rfl⟩)
        go_round
        case rel => exact ⟨k + 1, by omega, by go_num, by rw [HST.out _ hx]; go_num, (by repeat (first | exact Gr.refl _ | assumption | refine Gr.plus ?_ _ | refine Gr.alloc ?_ _ | refine Gr.drew ?_ | refine Gr.drewN ?_ _))⟩
        case measure => simp [intOf]; omega
    · obtain rfl : k = L.pts.length := by omega
      go_wp2
      go_ret
      exact ⟨ret_bool (by rw [HYES.out _ rfl, Bool.eq_iff_iff]; simp; omega), (by repeat (first | exact Gr.refl _ | assumption | refine Gr.plus ?_ _ | refine Gr.alloc ?_ _ | refine Gr.drew ?_ | refine Gr.drewN ?_ _))⟩
end Go.Proofs.YtnfceboppdcfdaaDoor
