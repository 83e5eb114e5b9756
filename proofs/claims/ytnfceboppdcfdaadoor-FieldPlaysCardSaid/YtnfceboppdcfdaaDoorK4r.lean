/- The walks of the reference's table: which layouts may be. -/
import Derived.Test.YtnfceboppdcfdaaDoorK1r
import Derived.Test.YtnfceboppdcfdaaDoorK4i
namespace Go.Proofs.YtnfceboppdcfdaaDoor
open Go.RowKit
set_option maxHeartbeats 4000000
set_option maxRecDepth 1000000

theorem ref3Name_any (s : ByteArray) (w : World) (hT : Tabs w) (hs : s.size ≤ 3000) :
    Calls Tryd.prog 116 #[.string s] w fun e w' => e = .returned (.bool (nameOk s)) ∧ Gr w w' := by
  cases h1 : isNameB s <;> cases h2 : (s.toList == [115, 101, 116]) <;> cases h3 : (s.toList == [102, 108, 97, 110, 107])
  all_goals
    go_enter Tryd.func116, Tryd.ntmps116
    go_wp2_with (go_at_call 152; (with_reducible refine (refIsName_any _ _ (hT.gr (by repeat (first | exact Gr.refl _ | assumption | refine Gr.plus ?_ _ | refine Gr.alloc ?_ _ | refine Gr.drew ?_ | refine Gr.drewN ?_ _))) hs).mono ?_); rintro e w' ⟨rfl, m, rfl⟩)
    go_ret
    exact ⟨ret_bool (by unfold nameOk; rw [h1, h2, h3]; rfl), (by repeat (first | exact Gr.refl _ | assumption | refine Gr.plus ?_ _ | refine Gr.alloc ?_ _ | refine Gr.drew ?_ | refine Gr.drewN ?_ _))⟩

theorem ref4In_any (w : World) (v : Value) (l : List Int) (n : Int) (h : SlInts w v l) :
    Calls Tryd.prog 97 #[v, .int .i64 n] w fun e w' => e = .returned (.bool (inI l n)) ∧ Gr w w' := by
  obtain ⟨A, cap, rfl, hn, hcap⟩ := SlAt.open h
  have H := Lib.hid h
  clear h
  go_enter Tryd.func97, Tryd.ntmps97
  go_wp2
  go_loop [5] (fun i => ∃ k : Nat, k ≤ l.length ∧ i = .int .i64 k ∧ anyB (fun j => gi l j == n) k = false) (fun i => l.length - (intOf i).toNat)
  case atStart => exact ⟨0, by omega, rfl, rfl⟩
  case round =>
    obtain ⟨k, hk, rfl, hno⟩ := hrel
    have Hno := Lib.hid hno
    clear hno
    by_cases hlt : k < l.length
    · obtain ⟨b, off, rfl, hc⟩ := SlInts.el H.out hlt
      cases hq : (gi l k == n)
      · go_wp2
        go_round
        case rel => exact ⟨k + 1, by omega, by go_num, anyB_step Hno.out hq⟩
        case measure => simp [intOf]; omega
      · go_wp2
        go_ret
        exact ⟨ret_bool (anyB_true hlt hq).symm, (by repeat (first | exact Gr.refl _ | assumption | refine Gr.plus ?_ _ | refine Gr.alloc ?_ _ | refine Gr.drew ?_ | refine Gr.drewN ?_ _))⟩
    · go_wp2
      go_ret
      obtain rfl : k = l.length := by omega
      exact ⟨ret_bool Hno.out.symm, (by repeat (first | exact Gr.refl _ | assumption | refine Gr.plus ?_ _ | refine Gr.alloc ?_ _ | refine Gr.drew ?_ | refine Gr.drewN ?_ _))⟩

theorem ref4names_any (w : World) (v : Value) (l : List ByteArray) (hT : Tabs w) (hs : ∀ i, i < l.length → (gs l i).size ≤ 3000) (h : SlStrs w v l) :
    Calls Tryd.prog 66 #[v] w fun e w' => e = .returned (.bool (namesOk l)) ∧ Gr w w' := by
  obtain ⟨A, cap, rfl, hn, hcap⟩ := SlAt.open h
  have H := Lib.hid h
  clear h
  have HS := Lib.hid hs
  clear hs
  go_enter Tryd.func66, Tryd.ntmps66
  go_wp2
  go_loopw [3] (fun i wr => ∃ k : Nat, k ≤ l.length ∧ i = .int .i64 k ∧ anyB (nameBad l) k = false ∧ Gr w wr) (fun i _ => l.length - (intOf i).toNat)
  case atStart => exact ⟨0, by omega, rfl, rfl, Gr.refl _⟩
  case round =>
    obtain ⟨k, hk, rfl, hno, m0, rfl⟩ := hrel
    have Hno := Lib.hid hno
    clear hno
    by_cases hlt : k < l.length
    · obtain ⟨b, off, rfl, hc⟩ := SlStrs.el H.out hlt
      have hsz := HS.out k hlt
      have fin0 : nameBad l k = true → namesOk l = false := fun h => by unfold namesOk; rw [anyB_true hlt h]; rfl
      have FIN := Lib.hid fin0
      clear fin0
      cases h1 : nameOk (gs l k)
      · go_wp2_with (go_at_call 116; (with_reducible refine (ref3Name_any _ _ (hT.gr (by repeat (first | exact Gr.refl _ | assumption | refine Gr.plus ?_ _ | refine Gr.alloc ?_ _ | refine Gr.drew ?_ | refine Gr.drewN ?_ _))) hsz).mono ?_); rintro e w' ⟨rfl, m, rfl⟩)
        go_ret
        exact ⟨ret_bool (FIN.out (by unfold nameBad; rw [h1]; rfl)).symm, (by repeat (first | exact Gr.refl _ | assumption | refine Gr.plus ?_ _ | refine Gr.alloc ?_ _ | refine Gr.drew ?_ | refine Gr.drewN ?_ _))⟩
      · go_wp2_with (go_at_call 116; (with_reducible refine (ref3Name_any _ _ (hT.gr (by repeat (first | exact Gr.refl _ | assumption | refine Gr.plus ?_ _ | refine Gr.alloc ?_ _ | refine Gr.drew ?_ | refine Gr.drewN ?_ _))) hsz).mono ?_); rintro e w' ⟨rfl, m, rfl⟩)
        go_loopw [4] (fun i wr => ∃ j : Nat, j ≤ k ∧ i = .int .i64 j ∧ anyB (fun j => eqS (gs l k) (gs l j)) j = false ∧ Gr ((w.plus m0).plus m) wr) (fun i _ => k - (intOf i).toNat)
        case atStart => exact ⟨0, by omega, rfl, rfl, (by repeat (first | exact Gr.refl _ | assumption | refine Gr.plus ?_ _ | refine Gr.alloc ?_ _ | refine Gr.drew ?_ | refine Gr.drewN ?_ _))⟩
        case round =>
          obtain ⟨j, hj, rfl, hnj, m3, rfl⟩ := hrel
          have Hnj := Lib.hid hnj
          clear hnj
          by_cases hjk : j < k
          · obtain ⟨b2, off2, e2, hc2⟩ := SlStrs.el H.out (k := j) (by omega)
            cases e2
            cases hq : ((gs l j).toList == (gs l k).toList)
            all_goals
              go_wp2_with fail
              refine wp_region_gr (by kernel_rfl) (by kernel_rfl) ?_
              repeat (go_big_quiet_step (fail))
              refine wpQuiet_nil ?_
              rintro _ ⟨mq, rfl⟩
              go_wp2
              first
                | (go_ret; exact ⟨ret_bool (FIN.out (by unfold nameBad; rw [hasS_take _ _ _ (by omega), anyB_true hjk ((eqS_comm _ _).trans hq)]; simp)).symm, (by repeat (first | exact Gr.refl _ | assumption | refine Gr.plus ?_ _ | refine Gr.alloc ?_ _ | refine Gr.drew ?_ | refine Gr.drewN ?_ _))⟩)
                | exact ⟨⟨j + 1, by omega, by go_num, anyB_step Hnj.out ((eqS_comm _ _).trans hq), (by repeat (first | exact Gr.refl _ | assumption | refine Gr.plus ?_ _ | refine Gr.alloc ?_ _ | refine Gr.drew ?_ | refine Gr.drewN ?_ _))⟩, by simp [intOf]; omega⟩
          · obtain rfl : j = k := by omega
            have hgood : nameBad l j = false := by unfold nameBad; rw [h1, hasS_take _ _ _ (by omega), Hnj.out]; rfl
            have HG := Lib.hid hgood
            clear hgood
            go_wp2
            exact ⟨⟨j + 1, by omega, by go_num, anyB_step Hno.out HG.out, (by repeat (first | exact Gr.refl _ | assumption | refine Gr.plus ?_ _ | refine Gr.alloc ?_ _ | refine Gr.drew ?_ | refine Gr.drewN ?_ _))⟩, by simp [intOf]; omega⟩
    · go_wp2
      go_ret
      obtain rfl : k = l.length := by omega
      exact ⟨ret_bool (by simp [namesOk, Hno.out]), (by repeat (first | exact Gr.refl _ | assumption | refine Gr.plus ?_ _ | refine Gr.alloc ?_ _ | refine Gr.drew ?_ | refine Gr.drewN ?_ _))⟩

theorem ref4needs_any (w : World) (vl v vp : Value) (L : Layout) (l : List Need) (path : List Int) (wi : Bool) (hl : LayAt w vl L) (h : SlNeeds w v l) (hp : SlInts w vp path) :
    Calls Tryd.prog 117 #[vl, v, vp, .bool wi] w fun e w' => e = .returned (.bool (needsOk L.pts l path wi)) ∧ Gr w w' := by
  obtain ⟨As, cs, Ap, cp, Ag, cg, Ar, cr, rfl, -, hP, -, -, hb⟩ := hl.opened
  obtain ⟨A, cap, rfl, hn, hcap⟩ := SlAt.open h
  have H := Lib.hid h
  clear h
  have HP := Lib.hid hP
  clear hP
  have HI := Lib.hid hp
  clear hp
  go_enter Tryd.func117, Tryd.ntmps117
  go_wp2
  go_loopw [9] (fun i wr => ∃ k : Nat, k ≤ l.length ∧ i = .int .i64 k ∧ anyB (needBad L.pts l path wi) k = false ∧ Gr (w.alloc _) wr) (fun i _ => l.length - (intOf i).toNat)
  case atStart => exact ⟨0, by omega, rfl, rfl, Gr.refl _⟩
  case round =>
    obtain ⟨k, hk, rfl, hno, m, rfl⟩ := hrel
    have Hno := Lib.hid hno
    clear hno
    by_cases hlt : k < l.length
    · obtain ⟨b, off, rfl, hc, -⟩ := SlNeeds.el H.out hlt
      have fin0 : needBad L.pts l path wi k = true → needsOk L.pts l path wi = false := fun hh => by unfold needsOk; rw [anyB_true hlt hh]; rfl
      have FIN := Lib.hid fin0
      clear fin0
      by_cases h0 : (gN l k).p < 0
      · go_wp2
        go_ret
        exact ⟨ret_bool (FIN.out (by unfold needBad isInB; rw [decide_eq_false (by omega : ¬ (0 : Int) ≤ (gN l k).p)]; rfl)).symm, (by repeat (first | exact Gr.refl _ | assumption | refine Gr.plus ?_ _ | refine Gr.alloc ?_ _ | refine Gr.drew ?_ | refine Gr.drewN ?_ _))⟩
      by_cases h1 : (L.pts.length : Int) ≤ (gN l k).p
      · go_wp2
        go_ret
        exact ⟨ret_bool (FIN.out (by unfold needBad isInB; rw [decide_eq_false (by omega : ¬ (gN l k).p ≤ (L.pts.length : Int) - 1)]; simp)).symm, (by repeat (first | exact Gr.refl _ | assumption | refine Gr.plus ?_ _ | refine Gr.alloc ?_ _ | refine Gr.drew ?_ | refine Gr.drewN ?_ _))⟩
      have hin : isInB (gN l k).p 0 (L.pts.length - 1) = true := by unfold isInB; simp; omega
      obtain ⟨q, hq⟩ := Int.eq_ofNat_of_zero_le (show 0 ≤ (gN l k).p by omega)
      have hql : q < L.pts.length := by omega
      obtain ⟨bp, op, rfl, hd, hd'⟩ := SlPts.el HP.out hql
      rw [hq] at hc hin h0 h1
      have HIN := Lib.hid hin
      clear hin
      have HQ := Lib.hid hq
      clear hq
      have hq0 : (0 : Int) ≤ (q : Int) := by omega
      have hx2 : ∀ a b c : Bool, (!a == b) = c → (a != b) = c := by decide
      have HXX := Lib.hid hx2
      clear hx2
      cases hx : (!inI path (gP L.pts q).sec == wi)
      all_goals
        by_cases hk0 : 0 < k
        · obtain ⟨b2, off2, e2, hc2, -⟩ := SlNeeds.el H.out (k := k - 1) (by omega)
          cases e2
          have hk1 : (0 : Int) < (k : Int) := by omega
          cases hge : decide ((q : Int) ≤ (gN l (k - 1)).p)
          all_goals
            go_wp2_with (go_at_call 97; (with_reducible refine (ref4In_any _ _ path _ (HI.out.gr (by repeat (first | exact Gr.refl _ | assumption | refine Gr.plus ?_ _ | refine Gr.alloc ?_ _ | refine Gr.drew ?_ | refine Gr.drewN ?_ _)))).mono ?_); rintro e w' ⟨rfl, m, rfl⟩)
            all_goals first
              | (go_ret; exact ⟨ret_bool (FIN.out (by unfold needBad; rw [HQ.out, Int.toNat_natCast, HXX.out _ _ _ hx, HIN.out]; simp [hge, hk0])).symm, (by repeat (first | exact Gr.refl _ | assumption | refine Gr.plus ?_ _ | refine Gr.alloc ?_ _ | refine Gr.drew ?_ | refine Gr.drewN ?_ _))⟩)
              | exact ⟨⟨k + 1, by omega, by go_num, anyB_step Hno.out (by unfold needBad; rw [HQ.out, Int.toNat_natCast, HXX.out _ _ _ hx, HIN.out]; simp [hge]), (by repeat (first | exact Gr.refl _ | assumption | refine Gr.plus ?_ _ | refine Gr.alloc ?_ _ | refine Gr.drew ?_ | refine Gr.drewN ?_ _))⟩, by simp [intOf]; omega⟩
        · obtain rfl : k = 0 := by omega
          simp only [Nat.zero_mul, Nat.add_zero] at hc
          go_wp2_with (go_at_call 97; (with_reducible refine (ref4In_any _ _ path _ (HI.out.gr (by repeat (first | exact Gr.refl _ | assumption | refine Gr.plus ?_ _ | refine Gr.alloc ?_ _ | refine Gr.drew ?_ | refine Gr.drewN ?_ _)))).mono ?_); rintro e w' ⟨rfl, m, rfl⟩)
          all_goals first
            | (go_ret; exact ⟨ret_bool (FIN.out (by unfold needBad; rw [HQ.out, Int.toNat_natCast, HXX.out _ _ _ hx, HIN.out]; simp)).symm, (by repeat (first | exact Gr.refl _ | assumption | refine Gr.plus ?_ _ | refine Gr.alloc ?_ _ | refine Gr.drew ?_ | refine Gr.drewN ?_ _))⟩)
            | exact ⟨⟨0 + 1, by omega, by go_num, anyB_step Hno.out (by unfold needBad; rw [HQ.out, Int.toNat_natCast, HXX.out _ _ _ hx, HIN.out]; simp), (by repeat (first | exact Gr.refl _ | assumption | refine Gr.plus ?_ _ | refine Gr.alloc ?_ _ | refine Gr.drew ?_ | refine Gr.drewN ?_ _))⟩, by simp [intOf]; omega⟩
    · go_wp2
      go_ret
      obtain rfl : k = l.length := by omega
      exact ⟨ret_bool (by simp [needsOk, Hno.out]), (by repeat (first | exact Gr.refl _ | assumption | refine Gr.plus ?_ _ | refine Gr.alloc ?_ _ | refine Gr.drew ?_ | refine Gr.drewN ?_ _))⟩

set_option linter.unusedVariables false in
theorem ref4route_any (w : World) (vl v : Value) (L : Layout) (r : Route) (hl : LayAt w vl L) (h : RtV w v r) :
    Calls Tryd.prog 67 #[vl, v] w fun e w' => e = .returned (.bool (routeOk L.secs.length L.pts.length L.pts L.sigs.length r)) ∧ Gr w w' := by
  obtain ⟨As, cs, Ap, cp, Ag, cg, Ar, cr, rfl, hS, hP, hG, hR, hb⟩ := hl.opened
  obtain ⟨Aa, ca, Aq, cq, Af, cf, rfl, ha, hq, hf⟩ := h
  obtain ⟨_, _, e1, hlaa, hla⟩ := SlAt.open ha
  cases e1
  obtain ⟨_, _, e1, -, hlq⟩ := SlAt.open hq
  cases e1
  have HP := Lib.hid hP
  clear hP
  have HA := Lib.hid ha
  clear ha
  have HQ := Lib.hid hq
  clear hq
  have HF := Lib.hid hf
  clear hf
  have HL := Lib.hid hl
  clear hl
  clear hS hG hR
  by_cases hall : isInB r.frm 0 (L.sigs.length - 1) = true ∧ isInB r.to 0 (L.sigs.length - 1) = true ∧ (r.frm == r.to) = false ∧ isInB r.path.length 1 5 = true
  case neg =>
    have hno : routeOk L.secs.length L.pts.length L.pts L.sigs.length r = false := by
      rw [Bool.eq_false_iff]
      intro hh
      apply hall
      simp only [routeOk, pathOk, Bool.and_eq_true, Bool.not_eq_true'] at hh
      exact ⟨hh.1.1.1.1.1.1, hh.1.1.1.1.1.2, hh.1.1.1.1.2, hh.1.1.1.2.2⟩
    have HNO := Lib.hid hno
    clear hno
    by_cases a1 : r.frm < 0
    · (go_enter Tryd.func67, Tryd.ntmps67; go_wp2; go_ret; exact ⟨ret_bool HNO.out.symm, (by repeat (first | exact Gr.refl _ | assumption | refine Gr.plus ?_ _ | refine Gr.alloc ?_ _ | refine Gr.drew ?_ | refine Gr.drewN ?_ _))⟩)
    by_cases a2 : (L.sigs.length : Int) ≤ r.frm
    · (go_enter Tryd.func67, Tryd.ntmps67; go_wp2; go_ret; exact ⟨ret_bool HNO.out.symm, (by repeat (first | exact Gr.refl _ | assumption | refine Gr.plus ?_ _ | refine Gr.alloc ?_ _ | refine Gr.drew ?_ | refine Gr.drewN ?_ _))⟩)
    by_cases a3 : r.to < 0
    · (go_enter Tryd.func67, Tryd.ntmps67; go_wp2; go_ret; exact ⟨ret_bool HNO.out.symm, (by repeat (first | exact Gr.refl _ | assumption | refine Gr.plus ?_ _ | refine Gr.alloc ?_ _ | refine Gr.drew ?_ | refine Gr.drewN ?_ _))⟩)
    by_cases a4 : (L.sigs.length : Int) ≤ r.to
    · (go_enter Tryd.func67, Tryd.ntmps67; go_wp2; go_ret; exact ⟨ret_bool HNO.out.symm, (by repeat (first | exact Gr.refl _ | assumption | refine Gr.plus ?_ _ | refine Gr.alloc ?_ _ | refine Gr.drew ?_ | refine Gr.drewN ?_ _))⟩)
    cases a5 : (r.frm == r.to)
    case true => (go_enter Tryd.func67, Tryd.ntmps67; go_wp2; go_ret; exact ⟨ret_bool HNO.out.symm, (by repeat (first | exact Gr.refl _ | assumption | refine Gr.plus ?_ _ | refine Gr.alloc ?_ _ | refine Gr.drew ?_ | refine Gr.drewN ?_ _))⟩)
    by_cases a6 : r.path.length < 1
    · (go_enter Tryd.func67, Tryd.ntmps67; go_wp2; go_ret; exact ⟨ret_bool HNO.out.symm, (by repeat (first | exact Gr.refl _ | assumption | refine Gr.plus ?_ _ | refine Gr.alloc ?_ _ | refine Gr.drew ?_ | refine Gr.drewN ?_ _))⟩)
    by_cases a7 : 5 < r.path.length
    · (go_enter Tryd.func67, Tryd.ntmps67; go_wp2; go_ret; exact ⟨ret_bool HNO.out.symm, (by repeat (first | exact Gr.refl _ | assumption | refine Gr.plus ?_ _ | refine Gr.alloc ?_ _ | refine Gr.drew ?_ | refine Gr.drewN ?_ _))⟩)
    exact absurd ⟨by unfold isInB; simp; omega, by unfold isInB; simp; omega, a5, by unfold isInB; simp; omega⟩ hall
  obtain ⟨h1, h2, h3, h7⟩ := hall
  have a1 : 0 ≤ r.frm ∧ r.frm ≤ (L.sigs.length : Int) - 1 := by simpa [isInB] using h1
  have a2 : 0 ≤ r.to ∧ r.to ≤ (L.sigs.length : Int) - 1 := by simpa [isInB] using h2
  have a3 : 1 ≤ r.path.length ∧ r.path.length ≤ 5 := by
    have : (1 : Int) ≤ r.path.length ∧ (r.path.length : Int) ≤ 5 := by simpa [isInB] using h7
    omega
  have b1 : decide (r.frm < 0) = false := by simp; omega
  have b2 : decide ((L.sigs.length : Int) ≤ r.frm) = false := by simp; omega
  have b3 : decide (r.to < 0) = false := by simp; omega
  have b4 : decide ((L.sigs.length : Int) ≤ r.to) = false := by simp; omega
  have b5 : decide ((r.path.length : Int) < 1) = false := by simp; omega
  have b6 : decide ((5 : Int) < (r.path.length : Int)) = false := by simp; omega
  have hnoP : anyB (pathBad L.secs.length r.path) r.path.length = true → routeOk L.secs.length L.pts.length L.pts L.sigs.length r = false := fun h => by unfold routeOk pathOk; rw [h]; simp
  have hyes : anyB (pathBad L.secs.length r.path) r.path.length = false → ∀ a b c, (cntB (onPath L.pts r.path) L.pts.length == r.pts.length) = a → needsOk L.pts r.pts r.path true = b → needsOk L.pts r.flk r.path false = c →
      routeOk L.secs.length L.pts.length L.pts L.sigs.length r = (a && b && c) := fun h a b c ha hb hc => by
    unfold routeOk pathOk; rw [h, ha, hb, hc, h1, h2, h3, h7]; cases a <;> cases b <;> cases c <;> rfl
  have HNP := Lib.hid hnoP
  clear hnoP
  have HYES := Lib.hid hyes
  clear hyes
  have H12 := Lib.hid (And.intro h1 h2)
  clear h1 h2 h7
  go_enter Tryd.func67, Tryd.ntmps67
  go_wp2
  go_loopw [5] (fun i wr => ∃ k : Nat, k ≤ r.path.length ∧ i = .int .i64 k ∧ anyB (pathBad L.secs.length r.path) k = false ∧ Gr ((w.alloc _).alloc _) wr) (fun i _ => r.path.length - (intOf i).toNat)
  case atStart => exact ⟨0, by omega, rfl, rfl, Gr.refl _⟩
  case round =>
    obtain ⟨k, hk, rfl, hno, m, rfl⟩ := hrel
    have Hno := Lib.hid hno
    clear hno
    by_cases hlt : k < r.path.length
    · obtain ⟨b, off, rfl, hc⟩ := SlInts.el HA.out hlt
      have fin0 : pathBad L.secs.length r.path k = true → routeOk L.secs.length L.pts.length L.pts L.sigs.length r = false := fun h => HNP.out (anyB_true hlt h)
      have FIN := Lib.hid fin0
      clear fin0
      have hk1 : (0 : Int) ≤ (k : Int) := by omega
      have hk2 : (k : Int) < (r.path.length : Int) := by omega
      have hk3 : (k : Int) ≤ (ca : Int) := by omega
      cases c1 : decide (gi r.path k < 0)
      case true =>
        go_wp2_with fail
        refine wp_region_gr (by kernel_rfl) (by kernel_rfl) ?_
        repeat (go_big_quiet_step (fail))
        refine wpQuiet_nil ?_
        rintro _ ⟨mq, rfl⟩
        go_wp2
        go_ret
        exact ⟨ret_bool (FIN.out (by simp only [decide_eq_true_eq] at c1; unfold pathBad isInB; rw [decide_eq_false (by omega : ¬ (0 : Int) ≤ gi r.path k)]; rfl)).symm, (by repeat (first | exact Gr.refl _ | assumption | refine Gr.plus ?_ _ | refine Gr.alloc ?_ _ | refine Gr.drew ?_ | refine Gr.drewN ?_ _))⟩
      cases c2 : decide ((L.secs.length : Int) ≤ gi r.path k)
      case true =>
        go_wp2_with fail
        refine wp_region_gr (by kernel_rfl) (by kernel_rfl) ?_
        repeat (go_big_quiet_step (fail))
        refine wpQuiet_nil ?_
        rintro _ ⟨mq, rfl⟩
        go_wp2
        go_ret
        exact ⟨ret_bool (FIN.out (by simp only [decide_eq_true_eq] at c2; unfold pathBad isInB; rw [decide_eq_false (by omega : ¬ gi r.path k ≤ (L.secs.length : Int) - 1)]; simp)).symm, (by repeat (first | exact Gr.refl _ | assumption | refine Gr.plus ?_ _ | refine Gr.alloc ?_ _ | refine Gr.drew ?_ | refine Gr.drewN ?_ _))⟩
      cases c3 : inI (r.path.take k) (gi r.path k)
      all_goals
        have hpb : pathBad L.secs.length r.path k = _ := (by simp only [decide_eq_false_iff_not] at c1 c2; unfold pathBad isInB; rw [decide_eq_true (by omega : (0 : Int) ≤ gi r.path k), decide_eq_true (by omega : gi r.path k ≤ (L.secs.length : Int) - 1)]; rfl : _ = inI (r.path.take k) (gi r.path k)).trans c3
        have HPB := Lib.hid hpb
        clear hpb
        go_wp2_with fail
        refine wp_region_gr (by kernel_rfl) (by kernel_rfl) ?_
        repeat (go_big_quiet_step ((go_at_call 97; with_reducible exact Calls.grown (ref4In_any _ _ (r.path.take k) _ ((SlInts.take HA.out hlt).gr (by repeat (first | exact Gr.refl _ | assumption | refine Gr.plus ?_ _ | refine Gr.alloc ?_ _ | refine Gr.drew ?_ | refine Gr.drewN ?_ _)))))))
        refine wpQuiet_nil ?_
        rintro _ ⟨mq, rfl⟩
        go_wp2
        first
          | (go_ret; exact ⟨ret_bool (FIN.out HPB.out).symm, (by repeat (first | exact Gr.refl _ | assumption | refine Gr.plus ?_ _ | refine Gr.alloc ?_ _ | refine Gr.drew ?_ | refine Gr.drewN ?_ _))⟩)
          | exact ⟨⟨k + 1, by omega, by go_num, anyB_step Hno.out HPB.out, (by repeat (first | exact Gr.refl _ | assumption | refine Gr.plus ?_ _ | refine Gr.alloc ?_ _ | refine Gr.drew ?_ | refine Gr.drewN ?_ _))⟩, by simp [intOf]; omega⟩
    · obtain rfl : k = r.path.length := by omega
      have HNP2 := Lib.hid Hno.out
      clear Hno
      go_wp2
      go_loopw [6, 7] (fun n i wr => ∃ k : Nat, k ≤ L.pts.length ∧ i = .int .i64 k ∧ n = .int .i64 (cntB (onPath L.pts r.path) k) ∧ Gr (((w.alloc _).alloc _).plus m) wr) (fun _ i _ => L.pts.length - (intOf i).toNat)
      case atStart => exact ⟨0, by omega, rfl, rfl, Gr.refl _⟩
      case round =>
        obtain ⟨k, hk, rfl, rfl, m2, rfl⟩ := hrel
        have hcb := cntB_le (onPath L.pts r.path) k
        have hc1 : (0 : Int) ≤ (cntB (onPath L.pts r.path) k : Nat) := by omega
        by_cases hlt : k < L.pts.length
        · obtain ⟨b, off, rfl, hc, hc'⟩ := SlPts.el HP.out hlt
          have hst : ∀ b, onPath L.pts r.path k = b → cntB (onPath L.pts r.path) (k + 1) = cntB (onPath L.pts r.path) k + if b then 1 else 0 := fun b hb => by rw [cntB, hb]
          have HST := Lib.hid hst
          clear hst
          have hk1 : (0 : Int) ≤ (k : Int) := by omega
          have hk2 : (k : Int) < (L.pts.length : Int) := by omega
          cases hx : inI r.path (gP L.pts k).sec
          all_goals
            go_wp2_with fail
            refine wp_region_gr (by kernel_rfl) (by kernel_rfl) ?_
            repeat (go_big_quiet_step ((go_at_call 97; with_reducible exact Calls.grown (ref4In_any _ _ r.path _ (HA.out.gr (by repeat (first | exact Gr.refl _ | assumption | refine Gr.plus ?_ _ | refine Gr.alloc ?_ _ | refine Gr.drew ?_ | refine Gr.drewN ?_ _)))))))
            refine wpQuiet_nil ?_
            rintro _ ⟨mq, rfl⟩
            rw [hx]
            go_wp2
            go_round
            case rel => exact ⟨k + 1, by omega, by go_num, by rw [HST.out _ hx]; go_num, (by repeat (first | exact Gr.refl _ | assumption | refine Gr.plus ?_ _ | refine Gr.alloc ?_ _ | refine Gr.drew ?_ | refine Gr.drewN ?_ _))⟩
            case measure => simp [intOf]; omega
        · obtain rfl : k = L.pts.length := by omega
          have hcc : ∀ b, ((r.pts.length : Int) == (cntB (onPath L.pts r.path) L.pts.length : Int)) = b → (cntB (onPath L.pts r.path) L.pts.length == r.pts.length) = b := fun b hb => by rw [← hb, Bool.eq_iff_iff]; simp only [beq_iff_eq]; omega
          have HCC := Lib.hid hcc
          clear hcc
          cases g1 : ((r.pts.length : Int) == (cntB (onPath L.pts r.path) L.pts.length : Int)) <;> cases g2 : needsOk L.pts r.pts r.path true <;> cases g3 : needsOk L.pts r.flk r.path false
          all_goals
            go_wp2_with (first | (go_at_call 117; (with_reducible refine (ref4needs_any _ _ _ _ L r.pts r.path true (HL.out.gr (by repeat (first | exact Gr.refl _ | assumption | refine Gr.plus ?_ _ | refine Gr.alloc ?_ _ | refine Gr.drew ?_ | refine Gr.drewN ?_ _))) (HQ.out.gr (by repeat (first | exact Gr.refl _ | assumption | refine Gr.plus ?_ _ | refine Gr.alloc ?_ _ | refine Gr.drew ?_ | refine Gr.drewN ?_ _))) (HA.out.gr (by repeat (first | exact Gr.refl _ | assumption | refine Gr.plus ?_ _ | refine Gr.alloc ?_ _ | refine Gr.drew ?_ | refine Gr.drewN ?_ _)))).mono ?_); rintro e w' ⟨rfl, m, rfl⟩) | (go_at_call 117; (with_reducible refine (ref4needs_any _ _ _ _ L r.flk r.path false (HL.out.gr (by repeat (first | exact Gr.refl _ | assumption | refine Gr.plus ?_ _ | refine Gr.alloc ?_ _ | refine Gr.drew ?_ | refine Gr.drewN ?_ _))) (HF.out.gr (by repeat (first | exact Gr.refl _ | assumption | refine Gr.plus ?_ _ | refine Gr.alloc ?_ _ | refine Gr.drew ?_ | refine Gr.drewN ?_ _))) (HA.out.gr (by repeat (first | exact Gr.refl _ | assumption | refine Gr.plus ?_ _ | refine Gr.alloc ?_ _ | refine Gr.drew ?_ | refine Gr.drewN ?_ _)))).mono ?_); rintro e w' ⟨rfl, m, rfl⟩))
            go_ret
            exact ⟨ret_bool (by rw [HYES.out HNP2.out _ _ _ (HCC.out _ g1) g2 g3]; rfl), (by repeat (first | exact Gr.refl _ | assumption | refine Gr.plus ?_ _ | refine Gr.alloc ?_ _ | refine Gr.drew ?_ | refine Gr.drewN ?_ _))⟩
end Go.Proofs.YtnfceboppdcfdaaDoor
