/- The walk of SameIn: of one and the same it says so. -/
import Derived.Test.YtnfceboppdcfdaaDoorC6
import Derived.Test.YtnfceboppdcfdaaDoorProg
namespace Go.Proofs.YtnfceboppdcfdaaDoor
open Go.RowKit
set_option maxHeartbeats 4000000
set_option maxRecDepth 1000000
set_option linter.unusedVariables false

theorem sameIn_any (w : World) (va vb : Value) (i : Fd) (ha : InAt w va i) (hb : InAt w vb i) :
    Calls Tryd.prog 31 #[va, vb] w fun e w' => e = .returned (.bool true) ∧ Gr w w' := by
  obtain ⟨ao, al, rfl, h1, h2⟩ := ha
  obtain ⟨bo, bl, rfl, h3, h4⟩ := hb
  obtain ⟨A1, c1, rfl, l1, m1⟩ := SlAt.open h1
  obtain ⟨A2, c2, rfl, l2, m2⟩ := SlAt.open h2
  obtain ⟨A3, c3, rfl, l3, m3⟩ := SlAt.open h3
  obtain ⟨A4, c4, rfl, l4, m4⟩ := SlAt.open h4
  have H1 := Lib.hid h1
  clear h1
  have H2 := Lib.hid h2
  clear h2
  have H3 := Lib.hid h3
  clear h3
  have H4 := Lib.hid h4
  clear h4
  go_enter Tryd.func31, Tryd.ntmps31
  go_wp2_with fail
  go_loopw [5] (fun q wr => ∃ k : Nat, k ≤ i.occ.length ∧ q = .int .i64 k ∧ Gr ((w.alloc (.cells #[.slice A1 i.occ.length c1, .slice A2 i.lies.length c2] 43)).alloc (.cells #[.slice A3 i.occ.length c3, .slice A4 i.lies.length c4] 43)) wr) (fun q _ => i.occ.length - (intOf q).toNat)
  case atStart => exact ⟨0, by omega, rfl, (by repeat (first | exact Gr.refl _ | assumption | refine Gr.plus ?_ _ | refine Gr.alloc ?_ _ | refine Gr.drew ?_ | refine Gr.drewN ?_ _))⟩
  case round =>
    obtain ⟨k, hk, rfl, m, rfl⟩ := hrel
    by_cases hlt : k < i.occ.length
    · obtain ⟨b1, o1, rfl, d1⟩ := SlBools.el H1.out hlt
      obtain ⟨b3, o3, rfl, d3⟩ := SlBools.el H3.out hlt
      have hk0 : (0 : Int) ≤ (k : Int) := by omega
      have hk1 : (k : Int) < (i.occ.length : Int) := by omega
      go_wp2_with fail
      refine wp_region_gr (by kernel_rfl) (by kernel_rfl) ?_
      repeat (go_big_quiet_step (fail))
      refine wpQuiet_nil ?_
      rintro _ ⟨mq, rfl⟩
      go_wp2_with fail
      exact ⟨⟨k + 1, by omega, by go_num, (by repeat (first | exact Gr.refl _ | assumption | refine Gr.plus ?_ _ | refine Gr.alloc ?_ _ | refine Gr.drew ?_ | refine Gr.drewN ?_ _))⟩, by simp [intOf]; omega⟩
    · obtain rfl : k = i.occ.length := by omega
      go_wp2_with fail
      go_loopw [6] (fun q wr => ∃ k : Nat, k ≤ i.lies.length ∧ q = .int .i64 k ∧ Gr ((w.alloc (.cells #[.slice A1 i.occ.length c1, .slice A2 i.lies.length c2] 43)).alloc (.cells #[.slice A3 i.occ.length c3, .slice A4 i.lies.length c4] 43)) wr) (fun q _ => i.lies.length - (intOf q).toNat)
      case atStart => exact ⟨0, by omega, rfl, (by repeat (first | exact Gr.refl _ | assumption | refine Gr.plus ?_ _ | refine Gr.alloc ?_ _ | refine Gr.drew ?_ | refine Gr.drewN ?_ _))⟩
      case round =>
        obtain ⟨k, hk, rfl, m, rfl⟩ := hrel
        by_cases hlt : k < i.lies.length
        · obtain ⟨b2, o2, rfl, d2⟩ := SlInts.el H2.out hlt
          obtain ⟨b4, o4, rfl, d4⟩ := SlInts.el H4.out hlt
          have hk0 : (0 : Int) ≤ (k : Int) := by omega
          have hk1 : (k : Int) < (i.lies.length : Int) := by omega
          go_wp2_with fail
          refine wp_region_gr (by kernel_rfl) (by kernel_rfl) ?_
          repeat (go_big_quiet_step (fail))
          refine wpQuiet_nil ?_
          rintro _ ⟨mq, rfl⟩
          go_wp2_with fail
          exact ⟨⟨k + 1, by omega, by go_num, (by repeat (first | exact Gr.refl _ | assumption | refine Gr.plus ?_ _ | refine Gr.alloc ?_ _ | refine Gr.drew ?_ | refine Gr.drewN ?_ _))⟩, by simp [intOf]; omega⟩
        · obtain rfl : k = i.lies.length := by omega
          go_wp2_with fail
          go_ret
          exact ⟨rfl, (by repeat (first | exact Gr.refl _ | assumption | refine Gr.plus ?_ _ | refine Gr.alloc ?_ _ | refine Gr.drew ?_ | refine Gr.drewN ?_ _))⟩
end Go.Proofs.YtnfceboppdcfdaaDoor
