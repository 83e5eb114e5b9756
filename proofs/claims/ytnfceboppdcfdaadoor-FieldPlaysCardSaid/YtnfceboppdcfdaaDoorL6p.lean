/- The walk of FieldPlays. -/
import Derived.Test.YtnfceboppdcfdaaDoorL6k
import Derived.Test.YtnfceboppdcfdaaDoorL6z
import Derived.Test.YtnfceboppdcfdaaDoorP5b
import Derived.Test.YtnfceboppdcfdaaDoorK6d
import Derived.Test.YtnfceboppdcfdaaDoorK6s
import Derived.Test.YtnfceboppdcfdaaDoorK6t
import Derived.Test.YtnfceboppdcfdaaDoorS6a
import Derived.Deep.RegionWith
namespace Go.Proofs.YtnfceboppdcfdaaDoor
open Go.RowKit
set_option maxHeartbeats 4000000
set_option maxRecDepth 1000000
set_option linter.unusedVariables false

theorem R6At.in {Z : Nat → Prop} {w : World} {bf : Nat} {O : List Bool} {P : List FP} (h : R6At Z w (.pointer (some ⟨bf, 0, none⟩)) O P) :
    ∃ vo vl, w.cell? ⟨bf, 0, none⟩ = some vo ∧ w.cell? ⟨bf, 1, none⟩ = some vl ∧ InAt w (.agg #[vo, vl]) ⟨O, liesOf P⟩ := by
  obtain ⟨b, vo, vl, vt, vd, T, Zo, Zl, Zt, Zd, e, h⟩ := h
  cases e
  exact ⟨vo, vl, blk_cell h.blk (j := 0) rfl, blk_cell h.blk (j := 1) rfl, vo, vl, rfl, h.occ.at, h.lies.at⟩
theorem tick_x (m : More) : m.tick.x = m.x := rfl
theorem fieldPlays_any (w : World) (vl vn : Value) (L : Layout) (l : List Act6) (hT : Tabs w) (hl : LayAt w vl L) (hr : LReach L) (hn : SlAct6 w vn l) :
    Calls Tryd.prog 5 #[vl, vn] w fun e w' => e = .returned (.bool true) ∧ Gr w w' := by
  obtain ⟨As, cs, Ap, cp, Ag, cg, Ar, cr, rfl, hS, hP, hG, hR, hb⟩ := hl.opened
  obtain ⟨An, cn, rfl, hnn, hcn⟩ := SlAt.open hn
  clear hS hP hG hR
  have HL := Lib.hid hl
  clear hl
  have HRE := Lib.hid hr
  clear hr
  have HN := Lib.hid hn
  clear hn
  go_enter Tryd.func5, Tryd.ntmps5
  go_wp2_with fail
  refine Calls.mono (size_pointsmanlaw6 _ _ L (HL.out.gr (by repeat (first | exact Gr.refl _ | assumption | refine Gr.plus ?_ _ | refine Gr.alloc ?_ _ | refine Gr.drew ?_ | refine Gr.drewN ?_ _))) HRE.out) ?_
  rintro e w' ⟨⟨n, rfl, hz⟩, m0, rfl⟩
  have hm := hz.most
  have HZ := Lib.hid hz
  clear hz
  rcases Nat.lt_or_ge n 3000 with hn | hn
  case inr =>
    go_wp2_with fail
    go_ret
    exact ⟨rfl, (by repeat (first | exact Gr.refl _ | assumption | refine Gr.plus ?_ _ | refine Gr.alloc ?_ _ | refine Gr.drew ?_ | refine Gr.drewN ?_ _))⟩
  have HSZ := Lib.hid (HZ.out.done hn)
  have hnd : decide ((3000 : Int) ≤ (n : Int)) = false := by simp; omega
  by_cases hbig : 10000 < l.length
  · go_wp2_with fail
    go_ret
    exact ⟨rfl, (by repeat (first | exact Gr.refl _ | assumption | refine Gr.plus ?_ _ | refine Gr.alloc ?_ _ | refine Gr.drew ?_ | refine Gr.drewN ?_ _))⟩
  cases hok : layOk L
  · go_wp2_with (first | (go_at_call 20; (with_reducible refine (fieldNew_no _ _ L (hT.gr (by repeat (first | exact Gr.refl _ | assumption | refine Gr.plus ?_ _ | refine Gr.alloc ?_ _ | refine Gr.drew ?_ | refine Gr.drewN ?_ _))) HSZ.out.small (HL.out.gr (by repeat (first | exact Gr.refl _ | assumption | refine Gr.plus ?_ _ | refine Gr.alloc ?_ _ | refine Gr.drew ?_ | refine Gr.drewN ?_ _))) hok).mono ?_); rintro e w' ⟨rfl, m, rfl⟩) | (go_at_call 24; (with_reducible refine (r6New_no _ _ L (hT.gr (by repeat (first | exact Gr.refl _ | assumption | refine Gr.plus ?_ _ | refine Gr.alloc ?_ _ | refine Gr.drew ?_ | refine Gr.drewN ?_ _))) HSZ.out.small (HL.out.gr (by repeat (first | exact Gr.refl _ | assumption | refine Gr.plus ?_ _ | refine Gr.alloc ?_ _ | refine Gr.drew ?_ | refine Gr.drewN ?_ _))) hok).mono ?_); rintro e w' ⟨rfl, m, rfl⟩))
    refine wp_loop_rounds 1 ?_
    rw [rounds_succ]
    go_wp2_with (go_at_call 23; (with_reducible refine (known6_any _ (hT.gr (by repeat (first | exact Gr.refl _ | assumption | refine Gr.plus ?_ _ | refine Gr.alloc ?_ _ | refine Gr.drew ?_ | refine Gr.drewN ?_ _)))).mono ?_); rintro e w' ⟨rfl, m, rfl⟩)
    go_ret
    exact ⟨rfl, (by repeat (first | exact Gr.refl _ | assumption | refine Gr.plus ?_ _ | refine Gr.alloc ?_ _ | refine Gr.drew ?_ | refine Gr.drewN ?_ _))⟩
  have ok := lok hok
  have k1 := ok.secs
  have k3 := ok.pts
  clear ok
  go_wp2_with (first | (go_at_call 20; (with_reducible refine Calls.mono (fieldNew_any _ _ L (hT.gr (by repeat (first | exact Gr.refl _ | assumption | refine Gr.plus ?_ _ | refine Gr.alloc ?_ _ | refine Gr.drew ?_ | refine Gr.drewN ?_ _))) HSZ.out.small (HL.out.gr (by repeat (first | exact Gr.refl _ | assumption | refine Gr.plus ?_ _ | refine Gr.alloc ?_ _ | refine Gr.drew ?_ | refine Gr.drewN ?_ _))) hok (by omega) (by omega)) ?_); rintro e w' ⟨b1, Z1, rfl, hf, hz1, hz2, m1, rfl⟩; have HF := Lib.hid hf; have HZ1 := Lib.hid hz1; have HZ1' := Lib.hid hz2; clear hf hz1 hz2) | (go_at_call 24; (with_reducible refine Calls.mono (r6New_yes _ _ L (hT.gr (by repeat (first | exact Gr.refl _ | assumption | refine Gr.plus ?_ _ | refine Gr.alloc ?_ _ | refine Gr.drew ?_ | refine Gr.drewN ?_ _))) HSZ.out.small (HL.out.gr (by repeat (first | exact Gr.refl _ | assumption | refine Gr.plus ?_ _ | refine Gr.alloc ?_ _ | refine Gr.drew ?_ | refine Gr.drewN ?_ _))) hok (by omega) (by omega)) ?_); rintro e w' ⟨b2, Z2, rfl, hf, hz1, hz2, m2, rfl⟩; have HR := Lib.hid hf; have HZ2a := Lib.hid hz1; have HZ2' := Lib.hid hz2; clear hf hz1 hz2))
  have hdj : ∀ i, Z1 i → ¬ Z2 i := fun i h1 h2 => by
    have := HZ1'.out i h1
    have := HZ2a.out i h2
    simp at *; omega
  have HDJ := Lib.hid hdj
  have hz2 : ∀ i, Z2 i → ((w.alloc (.cells #[.slice As L.secs.length cs, .slice Ap L.pts.length cp, .slice Ag L.sigs.length cg, .slice Ar L.rts.length cr] 26)).plus m0).heap.size ≤ i := fun i h => by
    have := HZ2a.out i h
    simp at *; omega
  have HZ2 := Lib.hid hz2
  obtain ⟨S0, hS0⟩ : ∃ n, n = ((((w.alloc (.cells #[.slice As L.secs.length cs, .slice Ap L.pts.length cp, .slice Ag L.sigs.length cg, .slice Ar L.rts.length cr] 26)).plus m0).plus m1).plus m2).heap.size := ⟨_, rfl⟩
  have hbn : ∀ i, (Z1 i ∨ Z2 i) → i < S0 := fun i h => by
    rw [hS0]
    rcases h with h | h
    · have := HZ1'.out i h
      simp at *; omega
    · exact HZ2'.out i h
  have HBN := Lib.hid hbn
  have HS0 := Lib.hid (show S0 ≤ ((((w.alloc (.cells #[.slice As L.secs.length cs, .slice Ap L.pts.length cp, .slice Ag L.sigs.length cg, .slice Ar L.rts.length cr] 26)).plus m0).plus m1).plus m2).heap.size by rw [hS0]; exact Nat.le_refl _)
  clear hdj hz2 hbn hS0 HZ1'
  go_loopw [9, 10] (fun i v wr => ∃ (k : Nat) (O : List Bool) (P : List FP), k ≤ l.length ∧ i = .int .i64 k ∧ O.length = L.secs.length ∧ P.length = L.pts.length ∧ FOk P ∧ FieldAt Z1 wr (.pointer (some ⟨b1, 0, none⟩)) O P ∧ R6At Z2 wr (.pointer (some ⟨b2, 0, none⟩)) O P ∧ Gr ((w.alloc (.cells #[.slice As L.secs.length cs, .slice Ap L.pts.length cp, .slice Ag L.sigs.length cg, .slice Ar L.rts.length cr] 26)).plus m0) wr ∧ S0 ≤ wr.heap.size) (fun i _ _ => l.length - (intOf i).toNat)
  case atStart => exact ⟨0, List.replicate L.secs.length false, newF L, by omega, rfl, by simp, by simp [newF], fok_new L, HF.out.keep (.of_gr (by repeat (first | exact Gr.refl _ | assumption | refine Gr.plus ?_ _ | refine Gr.alloc ?_ _ | refine Gr.drew ?_ | refine Gr.drewN ?_ _))), HR.out, (by repeat (first | exact Gr.refl _ | assumption | refine Gr.plus ?_ _ | refine Gr.alloc ?_ _ | refine Gr.drew ?_ | refine Gr.drewN ?_ _)), HS0.out⟩
  case round =>
    obtain ⟨k, O, P, hk, rfl, hO, hP, hfo, hf, hr, hg, hs⟩ := hrel
    clear HF HR HZ2a HZ2' HS0
    obtain ⟨m2, rfl⟩ := hg
    have HF := Lib.hid hf
    clear hf
    have HR := Lib.hid hr
    clear hr
    have HFO := Lib.hid hfo
    clear hfo
    have HS0 := Lib.hid hs
    clear hs
    by_cases hlt : k < l.length
    · by_cases h60 : k < 60
      · obtain ⟨b, off, rfl, hc0, hc1, hc2⟩ := SlAct6.el HN.out hlt
        have hk0 : (0 : Int) ≤ (k : Int) := by omega
        have hk1 : (k : Int) < (l.length : Int) := by omega
        go_upto_block 2 with fail
        go_cut [10] (fun v wx => ∃ (O : List Bool) (P : List FP), O.length = L.secs.length ∧ P.length = L.pts.length ∧ FOk P ∧ FieldAt Z1 wx (.pointer (some ⟨b1, 0, none⟩)) O P ∧ R6At Z2 wx (.pointer (some ⟨b2, 0, none⟩)) O P ∧ Gr ((w.alloc (.cells #[.slice As L.secs.length cs, .slice Ap L.pts.length cp, .slice Ag L.sigs.length cg, .slice Ar L.rts.length cr] 26)).plus m0) wx ∧ S0 ≤ wx.heap.size)
        case first =>
          cases q1 : ((gA6 l k).kind == 1)
          case true =>
            go_wp2_with fail
            go_region_with (first | (go_at_call 21; (with_reducible refine Calls.mono (train_any Z1 _ _ O P _ ?_ (by omega)) ?_); exact HF.out.keep (.of_gr (by repeat (first | exact Gr.refl _ | assumption | refine Gr.plus ?_ _ | refine Gr.alloc ?_ _ | refine Gr.drew ?_ | refine Gr.drewN ?_ _))); rintro e w1 ⟨rfl, hf1, hch⟩; have HF1 := Lib.hid hf1; have HR1 := Lib.hid ((HR.out.keep (.of_gr (by repeat (first | exact Gr.refl _ | assumption | refine Gr.plus ?_ _ | refine Gr.alloc ?_ _ | refine Gr.drew ?_ | refine Gr.drewN ?_ _)))).keep (Keep.of_chg hch fun i h2 h1 => HDJ.out i h1 h2)); clear hf1; have HSm3 := Lib.hid hch.size; obtain ⟨m3, rfl⟩ := Gr.chg (a := ((w.alloc (.cells #[.slice As L.secs.length cs, .slice Ap L.pts.length cp, .slice Ag L.sigs.length cg, .slice Ar L.rts.length cr] 26)).plus m0)) (by repeat (first | exact Gr.refl _ | assumption | refine Gr.plus ?_ _ | refine Gr.alloc ?_ _ | refine Gr.drew ?_ | refine Gr.drewN ?_ _)) hch HZ1.out; clear hch) | (go_at_call 25; (with_reducible refine Calls.mono (r6train_any Z2 _ _ O P _ ?_ (by omega)) ?_); exact HR1.out.keep (.of_gr (by repeat (first | exact Gr.refl _ | assumption | refine Gr.plus ?_ _ | refine Gr.alloc ?_ _ | refine Gr.drew ?_ | refine Gr.drewN ?_ _))); rintro e w1 ⟨rfl, hr1, hch⟩; have HR2 := Lib.hid hr1; have HF2 := Lib.hid ((HF1.out.keep (.of_gr (by repeat (first | exact Gr.refl _ | assumption | refine Gr.plus ?_ _ | refine Gr.alloc ?_ _ | refine Gr.drew ?_ | refine Gr.drewN ?_ _)))).keep (Keep.of_chg hch fun i h1 h2 => HDJ.out i h1 h2)); clear hr1; have HSm4 := Lib.hid hch.size; obtain ⟨m4, rfl⟩ := Gr.chg (a := ((w.alloc (.cells #[.slice As L.secs.length cs, .slice Ap L.pts.length cp, .slice Ag L.sigs.length cg, .slice Ar L.rts.length cr] 26)).plus m0)) (by repeat (first | exact Gr.refl _ | assumption | refine Gr.plus ?_ _ | refine Gr.alloc ?_ _ | refine Gr.drew ?_ | refine Gr.drewN ?_ _)) hch HZ2.out; clear hch))
            all_goals
              go_wp2_with fail
              go_meet
              exact ⟨_, P, by rw [trainF_len]; exact hO, hP, HFO.out, HF2.out.keep (.of_gr (by repeat (first | exact Gr.refl _ | assumption | refine Gr.plus ?_ _ | refine Gr.alloc ?_ _ | refine Gr.drew ?_ | refine Gr.drewN ?_ _))), HR2.out.keep (.of_gr (by repeat (first | exact Gr.refl _ | assumption | refine Gr.plus ?_ _ | refine Gr.alloc ?_ _ | refine Gr.drew ?_ | refine Gr.drewN ?_ _))), (by repeat (first | exact Gr.refl _ | assumption | refine Gr.plus ?_ _ | refine Gr.alloc ?_ _ | refine Gr.drew ?_ | refine Gr.drewN ?_ _)), by have h1 := HSm3.out; have h2 := HSm4.out; have h3 := HS0.out; simp [tick_x] at h1 h2 h3 ⊢; omega⟩
          cases q2 : ((gA6 l k).kind == 2)
          case true =>
            go_wp2_with fail
            go_region_with (first | (go_at_call 26; (with_reducible refine Calls.mono (stick_any Z1 _ _ O P _ ?_ (by omega)) ?_); exact HF.out.keep (.of_gr (by repeat (first | exact Gr.refl _ | assumption | refine Gr.plus ?_ _ | refine Gr.alloc ?_ _ | refine Gr.drew ?_ | refine Gr.drewN ?_ _))); rintro e w1 ⟨rfl, hf1, hch⟩; have HF1 := Lib.hid hf1; have HR1 := Lib.hid ((HR.out.keep (.of_gr (by repeat (first | exact Gr.refl _ | assumption | refine Gr.plus ?_ _ | refine Gr.alloc ?_ _ | refine Gr.drew ?_ | refine Gr.drewN ?_ _)))).keep (Keep.of_chg hch fun i h2 h1 => HDJ.out i h1 h2)); clear hf1; have HSm3 := Lib.hid hch.size; obtain ⟨m3, rfl⟩ := Gr.chg (a := ((w.alloc (.cells #[.slice As L.secs.length cs, .slice Ap L.pts.length cp, .slice Ag L.sigs.length cg, .slice Ar L.rts.length cr] 26)).plus m0)) (by repeat (first | exact Gr.refl _ | assumption | refine Gr.plus ?_ _ | refine Gr.alloc ?_ _ | refine Gr.drew ?_ | refine Gr.drewN ?_ _)) hch HZ1.out; clear hch) | (go_at_call 27; (with_reducible refine Calls.mono (r6stick_any Z2 _ _ O P _ ?_ (by omega)) ?_); exact HR1.out.keep (.of_gr (by repeat (first | exact Gr.refl _ | assumption | refine Gr.plus ?_ _ | refine Gr.alloc ?_ _ | refine Gr.drew ?_ | refine Gr.drewN ?_ _))); rintro e w1 ⟨rfl, hr1, hch⟩; have HR2 := Lib.hid hr1; have HF2 := Lib.hid ((HF1.out.keep (.of_gr (by repeat (first | exact Gr.refl _ | assumption | refine Gr.plus ?_ _ | refine Gr.alloc ?_ _ | refine Gr.drew ?_ | refine Gr.drewN ?_ _)))).keep (Keep.of_chg hch fun i h1 h2 => HDJ.out i h1 h2)); clear hr1; have HSm4 := Lib.hid hch.size; obtain ⟨m4, rfl⟩ := Gr.chg (a := ((w.alloc (.cells #[.slice As L.secs.length cs, .slice Ap L.pts.length cp, .slice Ag L.sigs.length cg, .slice Ar L.rts.length cr] 26)).plus m0)) (by repeat (first | exact Gr.refl _ | assumption | refine Gr.plus ?_ _ | refine Gr.alloc ?_ _ | refine Gr.drew ?_ | refine Gr.drewN ?_ _)) hch HZ2.out; clear hch))
            all_goals
              go_wp2_with fail
              go_meet
              exact ⟨O, _, hO, by rw [stickF_len]; exact hP, fok_stick HFO.out, HF2.out.keep (.of_gr (by repeat (first | exact Gr.refl _ | assumption | refine Gr.plus ?_ _ | refine Gr.alloc ?_ _ | refine Gr.drew ?_ | refine Gr.drewN ?_ _))), HR2.out.keep (.of_gr (by repeat (first | exact Gr.refl _ | assumption | refine Gr.plus ?_ _ | refine Gr.alloc ?_ _ | refine Gr.drew ?_ | refine Gr.drewN ?_ _))), (by repeat (first | exact Gr.refl _ | assumption | refine Gr.plus ?_ _ | refine Gr.alloc ?_ _ | refine Gr.drew ?_ | refine Gr.drewN ?_ _)), by have h1 := HSm3.out; have h2 := HSm4.out; have h3 := HS0.out; simp [tick_x] at h1 h2 h3 ⊢; omega⟩
          go_wp2_with fail
          go_region_with (go_at_call 28; (with_reducible refine Calls.mono (drive_any _ _ L.pts.length (by omega)) ?_); rintro e w1 ⟨⟨v, d, rfl, hd, hs⟩, m5, rfl⟩; have HDV := Lib.hid hs; have HDL := Lib.hid hd; clear hs hd)
          all_goals
            have hdv := SlF.mono (F' := fun b => ¬ Z1 b ∧ ¬ Z2 b) HDV.out (fun b hb => by
              have h3 := HS0.out
              constructor
              · intro hz; have := HBN.out b (.inl hz); simp [tick_x] at hb h3; omega
              · intro hz; have := HBN.out b (.inr hz); simp [tick_x] at hb h3; omega)
            have HDW := Lib.hid hdv
            clear hdv HDV
            go_wp2_with (first | (go_at_call 29; (with_reducible refine Calls.mono (step_any Z1 _ _ O P _ d ?_ HFO.out ?_) ?_); exact HF.out.keep (.of_gr (by repeat (first | exact Gr.refl _ | assumption | refine Gr.plus ?_ _ | refine Gr.alloc ?_ _ | refine Gr.drew ?_ | refine Gr.drewN ?_ _))); exact (HDW.out.mono fun b h => h.1).keep (.of_gr (by repeat (first | exact Gr.refl _ | assumption | refine Gr.plus ?_ _ | refine Gr.alloc ?_ _ | refine Gr.drew ?_ | refine Gr.drewN ?_ _))); rintro e w1 ⟨rfl, hf1, hch⟩; have HF1 := Lib.hid hf1; have HR1 := Lib.hid ((HR.out.keep (.of_gr (by repeat (first | exact Gr.refl _ | assumption | refine Gr.plus ?_ _ | refine Gr.alloc ?_ _ | refine Gr.drew ?_ | refine Gr.drewN ?_ _)))).keep (Keep.of_chg hch fun i h2 h1 => HDJ.out i h1 h2)); have HDX := Lib.hid ((HDW.out.keep (.of_gr (by repeat (first | exact Gr.refl _ | assumption | refine Gr.plus ?_ _ | refine Gr.alloc ?_ _ | refine Gr.drew ?_ | refine Gr.drewN ?_ _)))).keep (Keep.of_chg hch fun i h2 h1 => h2.1 h1)); clear hf1; have HSm3 := Lib.hid hch.size; obtain ⟨m3, rfl⟩ := Gr.chg (a := ((w.alloc (.cells #[.slice As L.secs.length cs, .slice Ap L.pts.length cp, .slice Ag L.sigs.length cg, .slice Ar L.rts.length cr] 26)).plus m0)) (by repeat (first | exact Gr.refl _ | assumption | refine Gr.plus ?_ _ | refine Gr.alloc ?_ _ | refine Gr.drew ?_ | refine Gr.drewN ?_ _)) hch HZ1.out; clear hch) | (go_at_call 30; (with_reducible refine Calls.mono (r6step_any Z2 _ _ O P _ d ?_ HFO.out ?_ ?_) ?_); exact HR1.out.keep (.of_gr (by repeat (first | exact Gr.refl _ | assumption | refine Gr.plus ?_ _ | refine Gr.alloc ?_ _ | refine Gr.drew ?_ | refine Gr.drewN ?_ _))); rw [HDL.out, hP]; exact Nat.le_refl _; exact (HDX.out.mono fun b h => h.2).keep (.of_gr (by repeat (first | exact Gr.refl _ | assumption | refine Gr.plus ?_ _ | refine Gr.alloc ?_ _ | refine Gr.drew ?_ | refine Gr.drewN ?_ _))); rintro e w1 ⟨rfl, hr1, hch⟩; have HR2 := Lib.hid hr1; have HF2 := Lib.hid ((HF1.out.keep (.of_gr (by repeat (first | exact Gr.refl _ | assumption | refine Gr.plus ?_ _ | refine Gr.alloc ?_ _ | refine Gr.drew ?_ | refine Gr.drewN ?_ _)))).keep (Keep.of_chg hch fun i h1 h2 => HDJ.out i h1 h2)); clear hr1; have HSm4 := Lib.hid hch.size; obtain ⟨m4, rfl⟩ := Gr.chg (a := ((w.alloc (.cells #[.slice As L.secs.length cs, .slice Ap L.pts.length cp, .slice Ag L.sigs.length cg, .slice Ar L.rts.length cr] 26)).plus m0)) (by repeat (first | exact Gr.refl _ | assumption | refine Gr.plus ?_ _ | refine Gr.alloc ?_ _ | refine Gr.drew ?_ | refine Gr.drewN ?_ _)) hch HZ2.out; clear hch))
            go_meet
            exact ⟨O, _, hO, by rw [stepF_len]; exact hP, fok_step HFO.out, HF2.out.keep (.of_gr (by repeat (first | exact Gr.refl _ | assumption | refine Gr.plus ?_ _ | refine Gr.alloc ?_ _ | refine Gr.drew ?_ | refine Gr.drewN ?_ _))), HR2.out.keep (.of_gr (by repeat (first | exact Gr.refl _ | assumption | refine Gr.plus ?_ _ | refine Gr.alloc ?_ _ | refine Gr.drew ?_ | refine Gr.drewN ?_ _))), (by repeat (first | exact Gr.refl _ | assumption | refine Gr.plus ?_ _ | refine Gr.alloc ?_ _ | refine Gr.drew ?_ | refine Gr.drewN ?_ _)), by have h1 := HSm3.out; have h2 := HSm4.out; have h3 := HS0.out; simp [tick_x] at h1 h2 h3 ⊢; omega⟩
        case rest =>
          clear HF HR HFO HS0 hO hP
          obtain ⟨O, P, hO, hP, hfo, hf, hr, hg, hs⟩ := hcut
          obtain ⟨vo, vl2, hv0, hv1, hia⟩ := R6At.in hr
          have HIA := Lib.hid hia
          obtain ⟨vo2, vl3, e1, ho, hl2⟩ := hia
          cases e1
          obtain ⟨Ao, co, rfl, -, -⟩ := SlAt.open ho
          obtain ⟨Al, cl, rfl, -, -⟩ := SlAt.open hl2
          clear ho hl2
          have HOL := Lib.hid hO
          clear hO
          have HPL := Lib.hid hP
          clear hP
          have HF := Lib.hid hf
          clear hf
          have HR := Lib.hid hr
          clear hr
          have HFO := Lib.hid hfo
          clear hfo
          have HS0 := Lib.hid hs
          clear hs
          go_wp2_with fail
          go_region_with (first | (go_at_call 22; (with_reducible refine Calls.mono (fieldIn_any Z1 _ _ O P ?_ (by rw [HOL.out]; omega) (by rw [HPL.out]; omega)) ?_); exact HF.out.keep (.of_gr (by repeat (first | exact Gr.refl _ | assumption | refine Gr.plus ?_ _ | refine Gr.alloc ?_ _ | refine Gr.drew ?_ | refine Gr.drewN ?_ _))); rintro e w1 ⟨⟨v, rfl, hin⟩, m5, rfl⟩; have hina := hin.at; try simp only [plus_drew, plus_drewN] at hina; have HIN := Lib.hid hina; clear hin hina) | (go_at_call 31; (with_reducible refine Calls.mono (sameIn_any _ _ _ ⟨O, liesOf P⟩ ?_ ?_) ?_); exact HIN.out.gr (by repeat (first | exact Gr.refl _ | assumption | refine Gr.plus ?_ _ | refine Gr.alloc ?_ _ | refine Gr.drew ?_ | refine Gr.drewN ?_ _)); exact HIA.out.gr (by repeat (first | exact Gr.refl _ | assumption | refine Gr.plus ?_ _ | refine Gr.alloc ?_ _ | refine Gr.drew ?_ | refine Gr.drewN ?_ _)); rintro e w1 ⟨rfl, m6, rfl⟩))
          all_goals
            go_wp2_with fail
            exact ⟨⟨k + 1, O, P, by omega, by go_num, HOL.out, HPL.out, HFO.out, HF.out.keep (.of_gr (by repeat (first | exact Gr.refl _ | assumption | refine Gr.plus ?_ _ | refine Gr.alloc ?_ _ | refine Gr.drew ?_ | refine Gr.drewN ?_ _))), HR.out.keep (.of_gr (by repeat (first | exact Gr.refl _ | assumption | refine Gr.plus ?_ _ | refine Gr.alloc ?_ _ | refine Gr.drew ?_ | refine Gr.drewN ?_ _))), (by repeat (first | exact Gr.refl _ | assumption | refine Gr.plus ?_ _ | refine Gr.alloc ?_ _ | refine Gr.drew ?_ | refine Gr.drewN ?_ _)), by have h3 := HS0.out; simp at h3 ⊢; omega⟩, by simp [intOf]; omega⟩
      · go_wp2_with (go_at_call 23; (with_reducible refine (known6_any _ (hT.gr (by repeat (first | exact Gr.refl _ | assumption | refine Gr.plus ?_ _ | refine Gr.alloc ?_ _ | refine Gr.drew ?_ | refine Gr.drewN ?_ _)))).mono ?_); rintro e w' ⟨rfl, m, rfl⟩)
        go_ret
        exact ⟨rfl, (by repeat (first | exact Gr.refl _ | assumption | refine Gr.plus ?_ _ | refine Gr.alloc ?_ _ | refine Gr.drew ?_ | refine Gr.drewN ?_ _))⟩
    · obtain rfl : k = l.length := by omega
      go_wp2_with (go_at_call 23; (with_reducible refine (known6_any _ (hT.gr (by repeat (first | exact Gr.refl _ | assumption | refine Gr.plus ?_ _ | refine Gr.alloc ?_ _ | refine Gr.drew ?_ | refine Gr.drewN ?_ _)))).mono ?_); rintro e w' ⟨rfl, m, rfl⟩)
      go_ret
      exact ⟨rfl, (by repeat (first | exact Gr.refl _ | assumption | refine Gr.plus ?_ _ | refine Gr.alloc ?_ _ | refine Gr.drew ?_ | refine Gr.drewN ?_ _))⟩
end Go.Proofs.YtnfceboppdcfdaaDoor
