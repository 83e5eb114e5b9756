/- The walk of TableEntry. -/
import Derived.Test.YtnfceboppdcfdaaDoorL4
import Derived.Test.YtnfceboppdcfdaaDoorP4
namespace Go.Proofs.YtnfceboppdcfdaaDoor
open Go.RowKit
set_option maxHeartbeats 4000000
set_option maxRecDepth 1000000

theorem conflict_is (w : World) (vl : Value) (L : Layout) (r s : Nat) (b : Bool) (hb : conflict L r s = b) (hl : LayAt w vl L) (hr : r < L.rts.length) (hs : s < L.rts.length) (hlr : (gR L.rts r).pts.length + (gR L.rts r).flk.length ≤ 100000) (hls : (gR L.rts s).pts.length + (gR L.rts s).flk.length ≤ 100000) :
    Calls Tryd.prog 17 #[vl, .int .i64 r, .int .i64 s] w fun e w' => e = .returned (.bool b) ∧ Gr w w' := by
  subst hb; exact conflict_any w vl L r s hl hr hs hlr hls
theorem conflict_from {L : Layout} {r s : Nat} (h : (gR L.rts r).frm = (gR L.rts s).frm) : conflict L r s = true := by unfold conflict; rw [h]; simp
theorem tableEntry_any (w : World) (vl : Value) (L : Layout) (hT : Tabs w) (hl : LayAt w vl L) (hr : LReach L) :
    Calls Tryd.prog 3 #[vl] w fun e w' => e = .returned (.bool true) ∧ Gr w w' := by
  obtain ⟨As, cs, Ap, cp, Ag, cg, Ar, cr, rfl, hS, hP, hG, hR, hb⟩ := hl.opened
  clear hS hP hG
  have HR := Lib.hid hR
  clear hR
  have HL := Lib.hid hl
  clear hl
  have HRE := Lib.hid hr
  clear hr
  go_enter Tryd.func3, Tryd.ntmps3
  go_wp2_with fail
  refine Calls.mono (size_pointsmanlaw4 _ _ L (HL.out.gr (by repeat (first | exact Gr.refl _ | assumption | refine Gr.plus ?_ _ | refine Gr.alloc ?_ _ | refine Gr.drew ?_ | refine Gr.drewN ?_ _))) HRE.out) ?_
  rintro e w' ⟨⟨n, rfl, hz⟩, m0, rfl⟩
  have hm := hz.most
  have HZ := Lib.hid hz
  clear hz
  rcases Nat.lt_or_ge n 3000 with hn | hn
  case inr =>
    go_wp2_with fail
    go_ret
    exact ⟨rfl, (by repeat (first | exact Gr.refl _ | assumption | refine Gr.plus ?_ _ | refine Gr.alloc ?_ _ | refine Gr.drew ?_ | refine Gr.drewN ?_ _))⟩
  have HSZ := Lib.hid (HZ.out.done hn)
  have hnd : decide ((3000 : Int) ≤ (n : Int)) = false := by simp; omega
  cases hok : layOk L
  · go_wp2_with (go_at_call 15; (with_reducible refine Calls.mono (ref4Is_any _ _ L (hT.gr (by repeat (first | exact Gr.refl _ | assumption | refine Gr.plus ?_ _ | refine Gr.alloc ?_ _ | refine Gr.drew ?_ | refine Gr.drewN ?_ _))) HSZ.out.small (HL.out.gr (by repeat (first | exact Gr.refl _ | assumption | refine Gr.plus ?_ _ | refine Gr.alloc ?_ _ | refine Gr.drew ?_ | refine Gr.drewN ?_ _)))) ?_); rintro e w' ⟨he, m, rfl⟩; rw [hok] at he; subst he)
    go_ret
    exact ⟨rfl, (by repeat (first | exact Gr.refl _ | assumption | refine Gr.plus ?_ _ | refine Gr.alloc ?_ _ | refine Gr.drew ?_ | refine Gr.drewN ?_ _))⟩
  have hparts := layOk_parts hok
  obtain ⟨-, ⟨q1, q2⟩, -, q3, -, -⟩ := hparts
  have hbeg := begun_all hok
  have HBE := Lib.hid hbeg
  clear hbeg
  go_wp2_with (go_at_call 15; (with_reducible refine Calls.mono (ref4Is_any _ _ L (hT.gr (by repeat (first | exact Gr.refl _ | assumption | refine Gr.plus ?_ _ | refine Gr.alloc ?_ _ | refine Gr.drew ?_ | refine Gr.drewN ?_ _))) HSZ.out.small (HL.out.gr (by repeat (first | exact Gr.refl _ | assumption | refine Gr.plus ?_ _ | refine Gr.alloc ?_ _ | refine Gr.drew ?_ | refine Gr.drewN ?_ _)))) ?_); rintro e w' ⟨he, m, rfl⟩; rw [hok] at he; subst he)
  go_loopw [3, 4] (fun t s wr => ∃ k : Nat, k ≤ L.sigs.length ∧ t = .int .i64 (begun L k : Nat) ∧ s = .int .i64 k ∧ Gr (w.alloc (.cells #[.slice As L.secs.length cs, .slice Ap L.pts.length cp, .slice Ag L.sigs.length cg, .slice Ar L.rts.length cr] 26)) wr) (fun _ s _ => L.sigs.length - (intOf s).toNat)
  case atStart => exact ⟨0, by omega, rfl, rfl, (by repeat (first | exact Gr.refl _ | assumption | refine Gr.plus ?_ _ | refine Gr.alloc ?_ _ | refine Gr.drew ?_ | refine Gr.drewN ?_ _))⟩
  case round =>
    obtain ⟨k, hk, rfl, rfl, m, rfl⟩ := hrel
    have hbk := begun_le L k
    by_cases hlt : k < L.sigs.length
    · have hbk1 := begun_le L (k + 1)
      have hbs : begun L (k + 1) = begun L k + (entryL L k).length := rfl
      go_wp2_with (go_at_call 16; (with_reducible refine Calls.mono (entry_any _ _ L k (HL.out.gr (by repeat (first | exact Gr.refl _ | assumption | refine Gr.plus ?_ _ | refine Gr.alloc ?_ _ | refine Gr.drew ?_ | refine Gr.drewN ?_ _))) (by omega)) ?_); rintro e w' ⟨⟨v, rfl, hv⟩, m1, rfl⟩; obtain ⟨Ae, ce, rfl, hve1, hve2⟩ := SlAt.open hv; have HV := Lib.hid hv; clear hv)
      go_loopw [6] (fun i wr => ∃ j : Nat, j ≤ (entryL L k).length ∧ i = .int .i64 j ∧ Gr (((w.alloc (.cells #[.slice As L.secs.length cs, .slice Ap L.pts.length cp, .slice Ag L.sigs.length cg, .slice Ar L.rts.length cr] 26)).plus m).plus m1) wr) (fun i _ => (entryL L k).length - (intOf i).toNat)
      case atStart => exact ⟨0, by omega, rfl, (by repeat (first | exact Gr.refl _ | assumption | refine Gr.plus ?_ _ | refine Gr.alloc ?_ _ | refine Gr.drew ?_ | refine Gr.drewN ?_ _))⟩
      case round =>
        obtain ⟨j, hj, rfl, m2, rfl⟩ := hrel
        by_cases hjl : j < (entryL L k).length
        · obtain ⟨r, hr1, hr2, hr3⟩ := picks_at _ _ j hjl
          obtain ⟨b, off, rfl, hc⟩ := SlInts.el HV.out hjl
          obtain ⟨br, offr, Ax, cx, Aq, cq, Af, cf, rfl, c0, c1, c2, c3, c4, c5, hx, hq, hf⟩ := SlRts.el HR.out hr2
          clear hx hq hf c0 c2 c3 c4 c5
          replace hr3 : (gR L.rts r).frm = (k : Int) := by simpa [entryP] using hr3
          rw [hr3] at c1
          replace hr1 : gi (entryL L k) j = (r : Int) := hr1
          rw [hr1] at hc
          have HR1 := Lib.hid hr1
          clear hr1
          have z1 : decide ((r : Int) < 0) = false := by simp
          have z2 : decide ((L.rts.length : Int) ≤ (r : Int)) = false := by simp; omega
          have z2' : decide (L.rts.length ≤ r) = false := by simp; omega
          have z3 : (0 : Int) ≤ (r : Int) := by omega
          have z4 : (r : Int) < (L.rts.length : Int) := by omega
          have z5 : (0 : Int) ≤ (j : Int) := by omega
          have z6 : (j : Int) < ((entryL L k).length : Int) := by omega
          have hfr := hr3
          have HFR := Lib.hid hfr
          clear hfr
          clear hr3
          have hjc : j = 0 ∨ ∃ j1 r1 : Nat, j = j1 + 1 ∧ gi (entryL L k) j1 = (r1 : Int) ∧ r1 < r := by
            rcases Nat.eq_zero_or_pos j with hj0 | hj0
            · exact .inl hj0
            · obtain ⟨r1, h1, h2, h3⟩ := picks_at (entryP L k) L.rts.length (j - 1) (by show j - 1 < (entryL L k).length; omega)
              have hup := picks_up (entryP L k) L.rts.length (j - 1) (by show j - 1 + 1 < (entryL L k).length; omega)
              rw [show j - 1 + 1 = j by omega] at hup
              refine .inr ⟨j - 1, r1, by omega, h1, ?_⟩
              rw [h1] at hup
              have e2 : gi (picks (entryP L k) L.rts.length) j = (r : Int) := HR1.out
              rw [e2] at hup
              omega
          rcases hjc with rfl | ⟨j1, r1, rfl, hr1', hlt1⟩
          · have z7 : decide ((0 : Int) < ((0 : Nat) : Int)) = false := by simp
            simp only [Nat.add_zero] at hc
            go_wp2_with fail
            refine wp_region_gr (by kernel_rfl) (by kernel_rfl) ?_
            repeat (go_big_quiet_step (fail))
            refine wpQuiet_nil ?_
            rintro _ ⟨mq, rfl⟩
            go_wp2_with fail
            go_loopw [7] (fun i wr => ∃ q : Nat, q ≤ (entryL L k).length ∧ i = .int .i64 q ∧ Gr ((((w.alloc (.cells #[.slice As L.secs.length cs, .slice Ap L.pts.length cp, .slice Ag L.sigs.length cg, .slice (some ⟨br, offr, none⟩) L.rts.length cr] 26)).plus m).plus m1).plus m2) wr) (fun i _ => (entryL L k).length - (intOf i).toNat)
            case atStart => exact ⟨0, by omega, rfl, (by repeat (first | exact Gr.refl _ | assumption | refine Gr.plus ?_ _ | refine Gr.alloc ?_ _ | refine Gr.drew ?_ | refine Gr.drewN ?_ _))⟩
            case round =>
              obtain ⟨q, hq, rfl, m3, rfl⟩ := hrel
              by_cases hql : q < (entryL L k).length
              · obtain ⟨r2, hs1, hs2, hs3⟩ := picks_at _ _ q hql
                obtain ⟨b2, off2, eb2, hcq⟩ := SlInts.el HV.out hql
                cases eb2
                replace hs1 : gi (entryL L k) q = (r2 : Int) := hs1
                rw [hs1] at hcq
                clear hs1
                replace hs3 : (gR L.rts r2).frm = (k : Int) := by simpa [entryP] using hs3
                have hcf := Lib.hid (conflict_from (L := L) (r := r) (s := r2) (by rw [HFR.out, hs3]))
                clear hs3
                have g1 : (gR L.rts r).pts.length + (gR L.rts r).flk.length ≤ 3000 := (HSZ.out.rts r hr2).2
                have g2 : (gR L.rts r2).pts.length + (gR L.rts r2).flk.length ≤ 3000 := (HSZ.out.rts r2 hs2).2
                have g3 : (0 : Int) ≤ (q : Int) := by omega
                have g4 : (q : Int) < ((entryL L k).length : Int) := by omega
                go_wp2_with fail
                refine wp_region_gr (by kernel_rfl) (by kernel_rfl) ?_
                repeat (go_big_quiet_step ((go_at_call 17; with_reducible exact Calls.grown (conflict_is _ _ L r r2 true hcf.out (HL.out.gr (by repeat (first | exact Gr.refl _ | assumption | refine Gr.plus ?_ _ | refine Gr.alloc ?_ _ | refine Gr.drew ?_ | refine Gr.drewN ?_ _))) hr2 hs2 (by omega) (by omega)))))
                refine wpQuiet_nil ?_
                rintro _ ⟨mq, rfl⟩
                go_wp2_with fail
                exact ⟨⟨q + 1, by omega, by go_num, (by repeat (first | exact Gr.refl _ | assumption | refine Gr.plus ?_ _ | refine Gr.alloc ?_ _ | refine Gr.drew ?_ | refine Gr.drewN ?_ _))⟩, by simp [intOf]; omega⟩
              · obtain rfl : q = (entryL L k).length := by omega
                go_wp2_with fail
                exact ⟨⟨0 + 1, by omega, by go_num, (by repeat (first | exact Gr.refl _ | assumption | refine Gr.plus ?_ _ | refine Gr.alloc ?_ _ | refine Gr.drew ?_ | refine Gr.drewN ?_ _))⟩, by simp [intOf]; omega⟩
          · obtain ⟨b', off', eb, hc'⟩ := SlInts.el HV.out (k := j1) (by omega)
            cases eb
            rw [hr1'] at hc'
            have z7 : (0 : Int) < ((j1 + 1 : Nat) : Int) := by omega
            have z8 : decide ((r : Int) ≤ (r1 : Int)) = false := by simp; omega
            have z8' : decide (r ≤ r1) = false := by simp; omega
            have z9 : ((j1 + 1 : Nat) : Int) - 1 = (j1 : Int) := by omega
            have z10 : (0 : Int) ≤ (j1 : Int) := by omega
            have z11 : (j1 : Int) < ((entryL L k).length : Int) := by omega
            clear hr1' hlt1
            go_wp2_with fail
            refine wp_region_gr (by kernel_rfl) (by kernel_rfl) ?_
            repeat (go_big_quiet_step (fail))
            refine wpQuiet_nil ?_
            rintro _ ⟨mq, rfl⟩
            go_wp2_with fail
            go_loopw [7] (fun i wr => ∃ q : Nat, q ≤ (entryL L k).length ∧ i = .int .i64 q ∧ Gr ((((w.alloc (.cells #[.slice As L.secs.length cs, .slice Ap L.pts.length cp, .slice Ag L.sigs.length cg, .slice (some ⟨br, offr, none⟩) L.rts.length cr] 26)).plus m).plus m1).plus m2) wr) (fun i _ => (entryL L k).length - (intOf i).toNat)
            case atStart => exact ⟨0, by omega, rfl, (by repeat (first | exact Gr.refl _ | assumption | refine Gr.plus ?_ _ | refine Gr.alloc ?_ _ | refine Gr.drew ?_ | refine Gr.drewN ?_ _))⟩
            case round =>
              obtain ⟨q, hq, rfl, m3, rfl⟩ := hrel
              by_cases hql : q < (entryL L k).length
              · obtain ⟨r2, hs1, hs2, hs3⟩ := picks_at _ _ q hql
                obtain ⟨b2, off2, eb2, hcq⟩ := SlInts.el HV.out hql
                cases eb2
                replace hs1 : gi (entryL L k) q = (r2 : Int) := hs1
                rw [hs1] at hcq
                clear hs1
                replace hs3 : (gR L.rts r2).frm = (k : Int) := by simpa [entryP] using hs3
                have hcf := Lib.hid (conflict_from (L := L) (r := r) (s := r2) (by rw [HFR.out, hs3]))
                clear hs3
                have g1 : (gR L.rts r).pts.length + (gR L.rts r).flk.length ≤ 3000 := (HSZ.out.rts r hr2).2
                have g2 : (gR L.rts r2).pts.length + (gR L.rts r2).flk.length ≤ 3000 := (HSZ.out.rts r2 hs2).2
                have g3 : (0 : Int) ≤ (q : Int) := by omega
                have g4 : (q : Int) < ((entryL L k).length : Int) := by omega
                go_wp2_with fail
                refine wp_region_gr (by kernel_rfl) (by kernel_rfl) ?_
                repeat (go_big_quiet_step ((go_at_call 17; with_reducible exact Calls.grown (conflict_is _ _ L r r2 true hcf.out (HL.out.gr (by repeat (first | exact Gr.refl _ | assumption | refine Gr.plus ?_ _ | refine Gr.alloc ?_ _ | refine Gr.drew ?_ | refine Gr.drewN ?_ _))) hr2 hs2 (by omega) (by omega)))))
                refine wpQuiet_nil ?_
                rintro _ ⟨mq, rfl⟩
                go_wp2_with fail
                exact ⟨⟨q + 1, by omega, by go_num, (by repeat (first | exact Gr.refl _ | assumption | refine Gr.plus ?_ _ | refine Gr.alloc ?_ _ | refine Gr.drew ?_ | refine Gr.drewN ?_ _))⟩, by simp [intOf]; omega⟩
              · obtain rfl : q = (entryL L k).length := by omega
                go_wp2_with fail
                exact ⟨⟨j1 + 1 + 1, by omega, by go_num, (by repeat (first | exact Gr.refl _ | assumption | refine Gr.plus ?_ _ | refine Gr.alloc ?_ _ | refine Gr.drew ?_ | refine Gr.drewN ?_ _))⟩, by simp [intOf]; omega⟩
        · obtain rfl : j = (entryL L k).length := by omega
          go_wp2_with fail
          exact ⟨⟨k + 1, by omega, by rw [hbs]; go_num, by go_num, (by repeat (first | exact Gr.refl _ | assumption | refine Gr.plus ?_ _ | refine Gr.alloc ?_ _ | refine Gr.drew ?_ | refine Gr.drewN ?_ _))⟩, by simp [intOf]; omega⟩
    · obtain rfl : k = L.sigs.length := by omega
      rw [HBE.out]
      go_wp2_with (go_at_call 18; (with_reducible refine (known_any _ (hT.gr (by repeat (first | exact Gr.refl _ | assumption | refine Gr.plus ?_ _ | refine Gr.alloc ?_ _ | refine Gr.drew ?_ | refine Gr.drewN ?_ _)))).mono ?_); rintro e w' ⟨rfl, m, rfl⟩)
      go_ret
      exact ⟨rfl, (by repeat (first | exact Gr.refl _ | assumption | refine Gr.plus ?_ _ | refine Gr.alloc ?_ _ | refine Gr.drew ?_ | refine Gr.drewN ?_ _))⟩
end Go.Proofs.YtnfceboppdcfdaaDoor
