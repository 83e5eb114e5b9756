/- The walk of FieldTrains. -/
import Derived.Test.YtnfceboppdcfdaaDoorL6k
import Derived.Test.YtnfceboppdcfdaaDoorL6z
import Derived.Test.YtnfceboppdcfdaaDoorP5b
import Derived.Test.YtnfceboppdcfdaaDoorC7
namespace Go.Proofs.YtnfceboppdcfdaaDoor
open Go.RowKit
set_option maxHeartbeats 4000000
set_option maxRecDepth 1000000
set_option linter.unusedVariables false

theorem fieldTrains_any (w : World) (vl vn : Value) (L : Layout) (l : List Int) (hT : Tabs w) (hl : LayAt w vl L) (hr : LReach L) (hn : SlInts w vn l) :
    Calls Tryd.prog 4 #[vl, vn] w fun e w' => e = .returned (.bool true) ∧ Gr w w' := by
  obtain ⟨j0, hj, jz0, jz1, jz2⟩ := info_parts info_bools
  obtain ⟨As, cs, Ap, cp, Ag, cg, Ar, cr, rfl, hS, hP, hG, hR, hb⟩ := hl.opened
  obtain ⟨An, cn, rfl, hnn, hcn⟩ := SlAt.open hn
  clear hS hP hG hR
  have HL := Lib.hid hl
  clear hl
  have HRE := Lib.hid hr
  clear hr
  have HN := Lib.hid hn
  clear hn
  go_enter Tryd.func4, Tryd.ntmps4
  go_wp2_with fail
  refine Calls.mono (size_pointsmanlaw6 _ _ L (HL.out.gr (by repeat (first | exact Gr.refl _ | assumption | refine Gr.plus ?_ _ | refine Gr.alloc ?_ _ | refine Gr.drew ?_ | refine Gr.drewN ?_ _))) HRE.out) ?_
  rintro e w' ⟨⟨n, rfl, hz⟩, m0, rfl⟩
  have hm := hz.most
  have HZ := Lib.hid hz
  clear hz
  rcases Nat.lt_or_ge n 3000 with hn | hn
  case inr =>
    go_wp2_with fail
    go_ret
    exact ⟨rfl, (by repeat (first | exact Gr.refl _ | assumption | refine Gr.plus ?_ _ | refine Gr.alloc ?_ _ | refine Gr.drew ?_ | refine Gr.drewN ?_ _))⟩
  have HSZ := Lib.hid (HZ.out.done hn)
  have hnd : decide ((3000 : Int) ≤ (n : Int)) = false := by simp; omega
  cases hok : layOk L
  · go_wp2_with (go_at_call 15; (with_reducible refine Calls.mono (ref4Is_any _ _ L (hT.gr (by repeat (first | exact Gr.refl _ | assumption | refine Gr.plus ?_ _ | refine Gr.alloc ?_ _ | refine Gr.drew ?_ | refine Gr.drewN ?_ _))) HSZ.out.small (HL.out.gr (by repeat (first | exact Gr.refl _ | assumption | refine Gr.plus ?_ _ | refine Gr.alloc ?_ _ | refine Gr.drew ?_ | refine Gr.drewN ?_ _)))) ?_); rintro e w' ⟨he, m, rfl⟩; rw [hok] at he; subst he)
    go_ret
    exact ⟨rfl, (by repeat (first | exact Gr.refl _ | assumption | refine Gr.plus ?_ _ | refine Gr.alloc ?_ _ | refine Gr.drew ?_ | refine Gr.drewN ?_ _))⟩
  have ok := lok hok
  have k1 := ok.secs
  have k3 := ok.pts
  clear ok
  have hmk := fun w => mk_run Tryd.underlying40 hj jz0 L.secs.length (by omega) (by omega) w
  rw [jz1] at hmk
  by_cases h60 : 60 < l.length
  · go_wp2_with (go_at_call 15; (with_reducible refine Calls.mono (ref4Is_any _ _ L (hT.gr (by repeat (first | exact Gr.refl _ | assumption | refine Gr.plus ?_ _ | refine Gr.alloc ?_ _ | refine Gr.drew ?_ | refine Gr.drewN ?_ _))) HSZ.out.small (HL.out.gr (by repeat (first | exact Gr.refl _ | assumption | refine Gr.plus ?_ _ | refine Gr.alloc ?_ _ | refine Gr.drew ?_ | refine Gr.drewN ?_ _)))) ?_); rintro e w' ⟨he, m, rfl⟩; rw [hok] at he; subst he)
    go_ret
    exact ⟨rfl, (by repeat (first | exact Gr.refl _ | assumption | refine Gr.plus ?_ _ | refine Gr.alloc ?_ _ | refine Gr.drew ?_ | refine Gr.drewN ?_ _))⟩
  go_wp2_with (first | (go_at_call 15; (with_reducible refine Calls.mono (ref4Is_any _ _ L (hT.gr (by repeat (first | exact Gr.refl _ | assumption | refine Gr.plus ?_ _ | refine Gr.alloc ?_ _ | refine Gr.drew ?_ | refine Gr.drewN ?_ _))) HSZ.out.small (HL.out.gr (by repeat (first | exact Gr.refl _ | assumption | refine Gr.plus ?_ _ | refine Gr.alloc ?_ _ | refine Gr.drew ?_ | refine Gr.drewN ?_ _)))) ?_); rintro e w' ⟨he, m, rfl⟩; rw [hok] at he; subst he) | (go_at_call 20; (with_reducible refine Calls.mono (fieldNew_any _ _ L (hT.gr (by repeat (first | exact Gr.refl _ | assumption | refine Gr.plus ?_ _ | refine Gr.alloc ?_ _ | refine Gr.drew ?_ | refine Gr.drewN ?_ _))) HSZ.out.small (HL.out.gr (by repeat (first | exact Gr.refl _ | assumption | refine Gr.plus ?_ _ | refine Gr.alloc ?_ _ | refine Gr.drew ?_ | refine Gr.drewN ?_ _))) hok (by omega) (by omega)) ?_); rintro e w' ⟨bf, Z, rfl, hf, hz1, hz2, m1, rfl⟩; have HF := Lib.hid hf; have HZ1 := Lib.hid hz1; have HZ2 := Lib.hid hz2; clear hf hz1 hz2))
  obtain ⟨Bw, hBw⟩ : ∃ b, b = w.heap.size + 1 + m0.x.size + m.x.size + m1.x.size := ⟨_, rfl⟩
  have hzw : ¬ Z Bw := fun hz => by have := HZ2.out _ hz; simp at this; omega
  have hlw : (((w.alloc (.cells #[.slice As L.secs.length cs, .slice Ap L.pts.length cp, .slice Ag L.sigs.length cg, .slice Ar L.rts.length cr] 26)).plus m0).plus m).heap.size ≤ Bw := by simp; omega
  rw [← hBw]
  have hmu0 : MutAt (fun b => b = Bw) (((((w.alloc (.cells #[.slice As L.secs.length cs, .slice Ap L.pts.length cp, .slice Ag L.sigs.length cg, .slice Ar L.rts.length cr] 26)).plus m0).plus m).plus m1).alloc (.cells (madeCells #[.bool false] L.secs.length) 4)) (.slice (some ⟨Bw, 0, none⟩) L.secs.length L.secs.length) (List.replicate L.secs.length false).length 1 (boolCell (List.replicate L.secs.length false)) := mut_made_bools (by rw [hBw]; exact (by with_reducible repeat (first | assumption | (refine blk_new ?_; (first | rfl | (simp; done))) | refine blk_plus ?_ | refine blk_drew ?_ | refine blk_old ?_))) rfl (by omega)
  have HMU := Lib.hid hmu0
  clear hmu0
  have HZW := Lib.hid hzw
  clear hzw
  have HLW := Lib.hid hlw
  clear hlw
  clear hBw
  go_loopw [8] (fun i wr => ∃ (k : Nat) (O : List Bool), k ≤ l.length ∧ i = .int .i64 k ∧ O.length = L.secs.length ∧ FieldAt Z wr (.pointer (some ⟨bf, 0, none⟩)) O (newF L) ∧ MutAt (fun b => b = Bw) wr (.slice (some ⟨Bw, 0, none⟩) L.secs.length L.secs.length) O.length 1 (boolCell O) ∧ Gr (((w.alloc (.cells #[.slice As L.secs.length cs, .slice Ap L.pts.length cp, .slice Ag L.sigs.length cg, .slice Ar L.rts.length cr] 26)).plus m0).plus m) wr) (fun i _ => l.length - (intOf i).toNat)
  case atStart => exact ⟨0, List.replicate L.secs.length false, by omega, rfl, by simp, HF.out.keep (.of_gr (by repeat (first | exact Gr.refl _ | assumption | refine Gr.plus ?_ _ | refine Gr.alloc ?_ _ | refine Gr.drew ?_ | refine Gr.drewN ?_ _))), HMU.out, (by repeat (first | exact Gr.refl _ | assumption | refine Gr.plus ?_ _ | refine Gr.alloc ?_ _ | refine Gr.drew ?_ | refine Gr.drewN ?_ _))⟩
  case round =>
    obtain ⟨k, O, hk, rfl, hO, hf, hmu, hg⟩ := hrel
    clear HF HMU
    obtain ⟨m2, rfl⟩ := hg
    have HF := Lib.hid hf
    clear hf
    have HMU := Lib.hid hmu
    clear hmu
    by_cases hlt : k < l.length
    · obtain ⟨b, off, rfl, hcn⟩ := SlInts.el HN.out hlt
      have hk0 : (0 : Int) ≤ (k : Int) := by omega
      have hk1 : (k : Int) < (l.length : Int) := by omega
      by_cases hout : gi l k < 0 ∨ (L.secs.length : Int) ≤ gi l k
      · have ht : trainF O (gi l k) = (5, O) := by unfold trainF; rw [if_pos (by simp; omega)]
        have HT := Lib.hid ht
        clear ht
        rcases hout with c0 | c0
        all_goals
          go_wp2_with (go_at_call 21; (with_reducible refine Calls.mono (train_any Z _ _ O (newF L) _ (HF.out.keep (.of_gr (by repeat (first | exact Gr.refl _ | assumption | refine Gr.plus ?_ _ | refine Gr.alloc ?_ _ | refine Gr.drew ?_ | refine Gr.drewN ?_ _)))) (by omega)) ?_); rintro e w' ⟨he, hf2, hch⟩; rw [HT.out] at he hf2; subst he; have HMU2 := Lib.hid (MutAt.keep HMU.out (Keep.of_chg hch (fun i hi hz => HZW.out ((show i = Bw from hi) ▸ hz)))); have HF2 := Lib.hid hf2; obtain ⟨m3, rfl⟩ := Gr.chg (Gr.plus (Gr.refl (((w.alloc (.cells #[.slice As L.secs.length cs, .slice Ap L.pts.length cp, .slice Ag L.sigs.length cg, .slice Ar L.rts.length cr] 26)).plus m0).plus m)) m2) hch HZ1.out; clear hf2 hch)
          all_goals exact ⟨⟨k + 1, O, by omega, by go_num, hO, HF2.out, HMU2.out, (by repeat (first | exact Gr.refl _ | assumption | refine Gr.plus ?_ _ | refine Gr.alloc ?_ _ | refine Gr.drew ?_ | refine Gr.drewN ?_ _))⟩, by simp [intOf]; omega⟩
      · obtain ⟨q, hq⟩ := Int.eq_ofNat_of_zero_le (show 0 ≤ gi l k by omega)
        have hqO : q < O.length := by omega
        rw [hq] at hcn
        have ht : trainF O q = (0, O.set q (!gb O q)) := by unfold trainF; rw [if_neg (by simp; omega)]; rfl
        have HT := Lib.hid ht
        clear ht hq hout
        have q0 : (0 : Int) ≤ (q : Int) := by omega
        have q1 : (q : Int) < (L.secs.length : Int) := by omega
        go_wp2_with (go_at_call 21; (with_reducible refine Calls.mono (train_any Z _ _ O (newF L) _ (HF.out.keep (.of_gr (by repeat (first | exact Gr.refl _ | assumption | refine Gr.plus ?_ _ | refine Gr.alloc ?_ _ | refine Gr.drew ?_ | refine Gr.drewN ?_ _)))) (by omega)) ?_); rintro e w' ⟨he, hf2, hch⟩; rw [HT.out] at he hf2; subst he; have hmu2 := MutAt.keep HMU.out (Keep.of_chg hch (fun i hi hz => HZW.out ((show i = Bw from hi) ▸ hz))); obtain ⟨bx, ox, ex, -, hfx, hcx⟩ := el_bool hmu2 hqO; cases ex; simp only [Nat.zero_add] at hcx; have HMU2 := Lib.hid hmu2; have HF2 := Lib.hid hf2; clear hmu2; obtain ⟨m3, rfl⟩ := Gr.chg (Gr.plus (Gr.refl (((w.alloc (.cells #[.slice As L.secs.length cs, .slice Ap L.pts.length cp, .slice Ag L.sigs.length cg, .slice Ar L.rts.length cr] 26)).plus m0).plus m)) m2) hch HZ1.out; clear hf2 hch)
        refine Calls.mono (fieldIn_any Z _ _ (O.set q (!gb O q)) (newF L) (HF2.out.keep (keep_cell HZW.out)) (by simp; omega) (by simp [newF]; omega)) ?_
        rintro e w' ⟨⟨v, rfl, hin⟩, hg4⟩
        have HMU3 := Lib.hid (MutAt.keep (by simpa only [Nat.zero_add] using mut_bool HMU2.out q hqO (!gb O q)) (Keep.of_gr hg4))
        have HF3 := Lib.hid ((HF2.out.keep (keep_cell HZW.out)).keep (Keep.of_gr hg4))
        have hg5 : Gr (((w.alloc (.cells #[.slice As L.secs.length cs, .slice Ap L.pts.length cp, .slice Ag L.sigs.length cg, .slice Ar L.rts.length cr] 26)).plus m0).plus m) w' := ((Gr.plus (Gr.refl _) m3).setCell HLW.out _).trans hg4
        obtain ⟨vo, vl2, rfl, ho, hl2⟩ := hin
        obtain ⟨Ao, co, rfl, -, -⟩ := SlAt.open ho.at
        obtain ⟨Al, cl, rfl, -, -⟩ := SlAt.open hl2.at
        have HOC := Lib.hid ho.at
        obtain ⟨m4, rfl⟩ := hg5
        have hlen : (O.set q (!gb O q)).length = L.secs.length := by simp [hO]
        clear ho hl2 hg4 hfx hcx
        have HLEN := Lib.hid hlen
        have HOO := Lib.hid hO
        simp only [hlen]
        clear hlen hO
        go_wp2_with fail
        go_loopw [12] (fun i wr => ∃ j : Nat, j ≤ L.secs.length ∧ i = .int .i64 j ∧ Gr (((((w.alloc (.cells #[.slice As L.secs.length cs, .slice Ap L.pts.length cp, .slice Ag L.sigs.length cg, .slice Ar L.rts.length cr] 26)).plus m0).plus m).plus m4).alloc (.cells #[.slice Ao L.secs.length co, .slice Al (liesOf (newF L)).length cl] 43)) wr) (fun i _ => L.secs.length - (intOf i).toNat)
        case atStart => exact ⟨0, by omega, rfl, (by repeat (first | exact Gr.refl _ | assumption | refine Gr.plus ?_ _ | refine Gr.alloc ?_ _ | refine Gr.drew ?_ | refine Gr.drewN ?_ _))⟩
        case round =>
          obtain ⟨j, hj, rfl, m5, rfl⟩ := hrel
          by_cases hjl : j < L.secs.length
          · have hjO : j < (O.set q (!gb O q)).length := by rw [HLEN.out]; exact hjl
            obtain ⟨b3, o3, rfl, hc3⟩ := SlBools.el (l := O.set q (!gb O q)) HOC.out hjO
            obtain ⟨b4, o4, e4, -, -, hc4⟩ := el_bool HMU3.out hjO
            cases e4
            simp only [Nat.zero_add] at hc4
            have j0 : (0 : Int) ≤ (j : Int) := by omega
            have j1 : (j : Int) < (L.secs.length : Int) := by omega
            go_wp2_with fail
            refine wp_region_gr (by kernel_rfl) (by kernel_rfl) ?_
            repeat (go_big_quiet_step (fail))
            refine wpQuiet_nil ?_
            rintro _ ⟨mq, rfl⟩
            go_wp2_with fail
            exact ⟨⟨j + 1, by omega, by go_num, (by repeat (first | exact Gr.refl _ | assumption | refine Gr.plus ?_ _ | refine Gr.alloc ?_ _ | refine Gr.drew ?_ | refine Gr.drewN ?_ _))⟩, by simp [intOf]; omega⟩
          · obtain rfl : j = L.secs.length := by omega
            go_wp2_with fail
            exact ⟨⟨k + 1, O.set q (!gb O q), by omega, by go_num, HLEN.out, HF3.out.keep (.of_gr (by repeat (first | exact Gr.refl _ | assumption | refine Gr.plus ?_ _ | refine Gr.alloc ?_ _ | refine Gr.drew ?_ | refine Gr.drewN ?_ _))), HMU3.out.keep (.of_gr (by repeat (first | exact Gr.refl _ | assumption | refine Gr.plus ?_ _ | refine Gr.alloc ?_ _ | refine Gr.drew ?_ | refine Gr.drewN ?_ _))), (by repeat (first | exact Gr.refl _ | assumption | refine Gr.plus ?_ _ | refine Gr.alloc ?_ _ | refine Gr.drew ?_ | refine Gr.drewN ?_ _))⟩, by simp [intOf]; omega⟩
    · obtain rfl : k = l.length := by omega
      go_wp2_with (go_at_call 23; (with_reducible refine (known6_any _ (hT.gr (by repeat (first | exact Gr.refl _ | assumption | refine Gr.plus ?_ _ | refine Gr.alloc ?_ _ | refine Gr.drew ?_ | refine Gr.drewN ?_ _)))).mono ?_); rintro e w' ⟨rfl, m, rfl⟩)
      go_ret
      exact ⟨rfl, (by repeat (first | exact Gr.refl _ | assumption | refine Gr.plus ?_ _ | refine Gr.alloc ?_ _ | refine Gr.drew ?_ | refine Gr.drewN ?_ _))⟩
end Go.Proofs.YtnfceboppdcfdaaDoor
