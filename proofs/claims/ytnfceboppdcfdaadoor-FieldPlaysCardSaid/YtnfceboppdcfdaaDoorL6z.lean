/- The walk of law 6's size. -/
import Derived.Test.YtnfceboppdcfdaaDoorK4e
import Derived.Test.YtnfceboppdcfdaaDoorS4z
import Derived.Deep.DeepCutAuto
import Derived.Deep.CutBlock
namespace Go.Proofs.YtnfceboppdcfdaaDoor
open Go.RowKit
set_option maxHeartbeats 4000000
set_option maxRecDepth 1000000
theorem size_pointsmanlaw6 (w : World) (vl : Value) (L : Layout) (hl : LayAt w vl L) (hr : LReach L) :
    Calls Tryd.prog 19 #[vl] w fun e w' => (∃ n : Nat, e = .returned (.int .i64 n) ∧ Sz L n L.secs.length L.pts.length L.sigs.length L.rts.length) ∧ Gr w w' := by
  obtain ⟨As, cs, Ap, cp, Ag, cg, Ar, cr, rfl, hS, hP, hG, hR, hb⟩ := hl.opened
  have hz := Sz.init hr
  obtain ⟨l1, l2, l3, l4⟩ := hr.lens
  have HZ := Lib.hid hz
  clear hz
  have HR := Lib.hid hr
  clear hr
  have HS := Lib.hid hS
  clear hS
  have HP := Lib.hid hP
  clear hP
  have HG := Lib.hid hG
  clear hG
  have HRT := Lib.hid hR
  clear hR
  clear hl hb
  go_enter Tryd.func19, Tryd.ntmps19
  go_upto_block 0 with fail
  go_cut [3] (fun s wx => ∃ n : Nat, s = .int .i64 n ∧ Sz L n L.secs.length 0 0 0 ∧ Gr (w.alloc (.cells #[.slice As L.secs.length cs, .slice Ap L.pts.length cp, .slice Ag L.sigs.length cg, .slice Ar L.rts.length cr] 26)) wx)
  case first =>
    go_wp2_with fail
    go_loopw [3, 4] (fun s i wr => ∃ n k : Nat, k ≤ L.secs.length ∧ s = .int .i64 n ∧ i = .int .i64 k ∧ Sz L n k 0 0 0 ∧ Gr (w.alloc (.cells #[.slice As L.secs.length cs, .slice Ap L.pts.length cp, .slice Ag L.sigs.length cg, .slice Ar L.rts.length cr] 26)) wr) (fun _ i _ => L.secs.length - (intOf i).toNat)
    case atStart => exact ⟨_, 0, by omega, by go_num, rfl, HZ.out, (by repeat (first | exact Gr.refl _ | assumption | refine Gr.plus ?_ _ | refine Gr.alloc ?_ _ | refine Gr.drew ?_ | refine Gr.drewN ?_ _))⟩
    case round =>
      obtain ⟨n, k, hk, rfl, rfl, hz, m, rfl⟩ := hrel
      have hm := hz.most
      have HZ2 := Lib.hid hz
      clear hz
      by_cases hlt : k < L.secs.length
      · by_cases hn : n < 3000
        · obtain ⟨b, off, rfl, hc⟩ := SlStrs.el HS.out hlt
          have hm2 := HR.out.secs k hlt
          go_wp2_with fail
          exact ⟨⟨n + (gs L.secs k).size, k + 1, by omega, by go_num, by go_num, HZ2.out.s1 HR.out hn hlt, (by repeat (first | exact Gr.refl _ | assumption | refine Gr.plus ?_ _ | refine Gr.alloc ?_ _ | refine Gr.drew ?_ | refine Gr.drewN ?_ _))⟩, by simp [intOf]; omega⟩
        · go_wp2_with fail
          go_meet
          exact ⟨n, rfl, HZ2.out.large (by omega) _ _ _ _, (by repeat (first | exact Gr.refl _ | assumption | refine Gr.plus ?_ _ | refine Gr.alloc ?_ _ | refine Gr.drew ?_ | refine Gr.drewN ?_ _))⟩
      · obtain rfl : k = L.secs.length := by omega
        go_wp2_with fail
        go_meet
        exact ⟨n, rfl, HZ2.out, (by repeat (first | exact Gr.refl _ | assumption | refine Gr.plus ?_ _ | refine Gr.alloc ?_ _ | refine Gr.drew ?_ | refine Gr.drewN ?_ _))⟩
  case rest =>
    obtain ⟨n0, rfl, hz, m0, rfl⟩ := hcut
    have hm := hz.most
    have HZ3 := Lib.hid hz
    clear hz
    go_upto_block 2 with fail
    go_cut [3] (fun s wx => ∃ n : Nat, s = .int .i64 n ∧ Sz L n L.secs.length L.pts.length 0 0 ∧ Gr (w.alloc (.cells #[.slice As L.secs.length cs, .slice Ap L.pts.length cp, .slice Ag L.sigs.length cg, .slice Ar L.rts.length cr] 26)) wx)
    case first =>
      go_wp2_with fail
      go_loopw [3, 5] (fun s i wr => ∃ n k : Nat, k ≤ L.pts.length ∧ s = .int .i64 n ∧ i = .int .i64 k ∧ Sz L n L.secs.length k 0 0 ∧ Gr (w.alloc (.cells #[.slice As L.secs.length cs, .slice Ap L.pts.length cp, .slice Ag L.sigs.length cg, .slice Ar L.rts.length cr] 26)) wr) (fun _ i _ => L.pts.length - (intOf i).toNat)
      case atStart => exact ⟨_, 0, by omega, rfl, rfl, HZ3.out, (by repeat (first | exact Gr.refl _ | assumption | refine Gr.plus ?_ _ | refine Gr.alloc ?_ _ | refine Gr.drew ?_ | refine Gr.drewN ?_ _))⟩
      case round =>
        obtain ⟨n, k, hk, rfl, rfl, hz, m, rfl⟩ := hrel
        have hm := hz.most
        have HZ2 := Lib.hid hz
        clear hz
        by_cases hlt : k < L.pts.length
        · by_cases hn : n < 3000
          · obtain ⟨b, off, rfl, hc, hc'⟩ := SlPts.el HP.out hlt
            have hm2 := HR.out.pts k hlt
            go_wp2_with fail
            exact ⟨⟨n + (gP L.pts k).name.size, k + 1, by omega, by go_num, by go_num, HZ2.out.s2 HR.out hn hlt, (by repeat (first | exact Gr.refl _ | assumption | refine Gr.plus ?_ _ | refine Gr.alloc ?_ _ | refine Gr.drew ?_ | refine Gr.drewN ?_ _))⟩, by simp [intOf]; omega⟩
          · go_wp2_with fail
            go_meet
            exact ⟨n, rfl, HZ2.out.large (by omega) _ _ _ _, (by repeat (first | exact Gr.refl _ | assumption | refine Gr.plus ?_ _ | refine Gr.alloc ?_ _ | refine Gr.drew ?_ | refine Gr.drewN ?_ _))⟩
        · obtain rfl : k = L.pts.length := by omega
          go_wp2_with fail
          go_meet
          exact ⟨n, rfl, HZ2.out, (by repeat (first | exact Gr.refl _ | assumption | refine Gr.plus ?_ _ | refine Gr.alloc ?_ _ | refine Gr.drew ?_ | refine Gr.drewN ?_ _))⟩
    case rest =>
      clear hm HZ3
      obtain ⟨n0, rfl, hz, m0, rfl⟩ := hcut
      have hm := hz.most
      have HZ3 := Lib.hid hz
      clear hz
      go_upto_block 4 with fail
      go_cut [3] (fun s wx => ∃ n : Nat, s = .int .i64 n ∧ Sz L n L.secs.length L.pts.length L.sigs.length 0 ∧ Gr (w.alloc (.cells #[.slice As L.secs.length cs, .slice Ap L.pts.length cp, .slice Ag L.sigs.length cg, .slice Ar L.rts.length cr] 26)) wx)
      case first =>
        go_wp2_with fail
        go_loopw [3, 6] (fun s i wr => ∃ n k : Nat, k ≤ L.sigs.length ∧ s = .int .i64 n ∧ i = .int .i64 k ∧ Sz L n L.secs.length L.pts.length k 0 ∧ Gr (w.alloc (.cells #[.slice As L.secs.length cs, .slice Ap L.pts.length cp, .slice Ag L.sigs.length cg, .slice Ar L.rts.length cr] 26)) wr) (fun _ i _ => L.sigs.length - (intOf i).toNat)
        case atStart => exact ⟨_, 0, by omega, rfl, rfl, HZ3.out, (by repeat (first | exact Gr.refl _ | assumption | refine Gr.plus ?_ _ | refine Gr.alloc ?_ _ | refine Gr.drew ?_ | refine Gr.drewN ?_ _))⟩
        case round =>
          obtain ⟨n, k, hk, rfl, rfl, hz, m, rfl⟩ := hrel
          have hm := hz.most
          have HZ2 := Lib.hid hz
          clear hz
          by_cases hlt : k < L.sigs.length
          · by_cases hn : n < 3000
            · obtain ⟨b, off, rfl, hc⟩ := SlStrs.el HG.out hlt
              have hm2 := HR.out.sigs k hlt
              go_wp2_with fail
              exact ⟨⟨n + (gs L.sigs k).size, k + 1, by omega, by go_num, by go_num, HZ2.out.s3 HR.out hn hlt, (by repeat (first | exact Gr.refl _ | assumption | refine Gr.plus ?_ _ | refine Gr.alloc ?_ _ | refine Gr.drew ?_ | refine Gr.drewN ?_ _))⟩, by simp [intOf]; omega⟩
            · go_wp2_with fail
              go_meet
              exact ⟨n, rfl, HZ2.out.large (by omega) _ _ _ _, (by repeat (first | exact Gr.refl _ | assumption | refine Gr.plus ?_ _ | refine Gr.alloc ?_ _ | refine Gr.drew ?_ | refine Gr.drewN ?_ _))⟩
          · obtain rfl : k = L.sigs.length := by omega
            go_wp2_with fail
            go_meet
            exact ⟨n, rfl, HZ2.out, (by repeat (first | exact Gr.refl _ | assumption | refine Gr.plus ?_ _ | refine Gr.alloc ?_ _ | refine Gr.drew ?_ | refine Gr.drewN ?_ _))⟩
      case rest =>
        clear hm HZ3
        obtain ⟨n0, rfl, hz, m0, rfl⟩ := hcut
        have hm := hz.most
        have HZ3 := Lib.hid hz
        clear hz
        go_upto_block 6 with fail
        go_cut [3] (fun s wx => ∃ n : Nat, s = .int .i64 n ∧ Sz L n L.secs.length L.pts.length L.sigs.length L.rts.length ∧ Gr (w.alloc (.cells #[.slice As L.secs.length cs, .slice Ap L.pts.length cp, .slice Ag L.sigs.length cg, .slice Ar L.rts.length cr] 26)) wx)
        case first =>
          go_wp2_with fail
          go_loopw [3, 7] (fun s i wr => ∃ n k : Nat, k ≤ L.rts.length ∧ s = .int .i64 n ∧ i = .int .i64 k ∧ Sz L n L.secs.length L.pts.length L.sigs.length k ∧ Gr (w.alloc (.cells #[.slice As L.secs.length cs, .slice Ap L.pts.length cp, .slice Ag L.sigs.length cg, .slice Ar L.rts.length cr] 26)) wr) (fun _ i _ => L.rts.length - (intOf i).toNat)
          case atStart => exact ⟨_, 0, by omega, rfl, rfl, HZ3.out, (by repeat (first | exact Gr.refl _ | assumption | refine Gr.plus ?_ _ | refine Gr.alloc ?_ _ | refine Gr.drew ?_ | refine Gr.drewN ?_ _))⟩
          case round =>
            obtain ⟨n, k, hk, rfl, rfl, hz, m, rfl⟩ := hrel
            have hm := hz.most
            have HZ2 := Lib.hid hz
            clear hz
            by_cases hlt : k < L.rts.length
            · by_cases hn : n < 3000
              · obtain ⟨b, off, Ax, cx, Aq, cq, Af, cf, rfl, c0, c1, c2, c3, c4, c5, hx, hq, hf⟩ := SlRts.el HRT.out hlt
                clear hx hq hf
                obtain ⟨r1, r2, r3, r4⟩ := HR.out.rts k hlt
                go_wp2_with fail
                exact ⟨⟨n + (gR L.rts k).name.size + (gR L.rts k).path.length + (gR L.rts k).pts.length + (gR L.rts k).flk.length, k + 1, by omega, by go_num, by go_num, HZ2.out.s4 HR.out hn hlt, (by repeat (first | exact Gr.refl _ | assumption | refine Gr.plus ?_ _ | refine Gr.alloc ?_ _ | refine Gr.drew ?_ | refine Gr.drewN ?_ _))⟩, by simp [intOf]; omega⟩
              · go_wp2_with fail
                go_meet
                exact ⟨n, rfl, HZ2.out.large (by omega) _ _ _ _, (by repeat (first | exact Gr.refl _ | assumption | refine Gr.plus ?_ _ | refine Gr.alloc ?_ _ | refine Gr.drew ?_ | refine Gr.drewN ?_ _))⟩
            · obtain rfl : k = L.rts.length := by omega
              go_wp2_with fail
              go_meet
              exact ⟨n, rfl, HZ2.out, (by repeat (first | exact Gr.refl _ | assumption | refine Gr.plus ?_ _ | refine Gr.alloc ?_ _ | refine Gr.drew ?_ | refine Gr.drewN ?_ _))⟩
        case rest =>
          clear hm HZ3
          obtain ⟨n0, rfl, hz, m0, rfl⟩ := hcut
          have hm := hz.most
          have HZ3 := Lib.hid hz
          clear hz
          go_wp2_with fail
          go_ret
          exact ⟨⟨n0, rfl, HZ3.out⟩, (by repeat (first | exact Gr.refl _ | assumption | refine Gr.plus ?_ _ | refine Gr.alloc ?_ _ | refine Gr.drew ?_ | refine Gr.drewN ?_ _))⟩
end Go.Proofs.YtnfceboppdcfdaaDoor
