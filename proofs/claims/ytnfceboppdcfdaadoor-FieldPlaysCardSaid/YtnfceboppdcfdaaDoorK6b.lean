/- The walks of package field: what it tells; a new one. -/
import Derived.Test.YtnfceboppdcfdaaDoorK6
import Derived.Test.YtnfceboppdcfdaaDoorK0
import Derived.Test.YtnfceboppdcfdaaDoorK4s
import Derived.Test.YtnfceboppdcfdaaDoorC6
namespace Go.Proofs.YtnfceboppdcfdaaDoor
open Go.RowKit
set_option maxHeartbeats 4000000
set_option maxRecDepth 1000000
set_option linter.unusedVariables false

theorem info_intK : (Tryd.prog.info? 3).map (fun i => (i.zero, i.size, i.bytes)) = some (some (.int .i64 0), 1, 8) := by kernel_rfl
theorem fieldIn_any (Z : Nat → Prop) (w : World) (p : Value) (occ : List Bool) (pts : List FP) (h : FieldAt Z w p occ pts) (hlo : occ.length ≤ 100000) (hlp : pts.length ≤ 100000) :
    Calls Tryd.prog 22 #[p] w fun e w' => (∃ v, e = .returned v ∧ InF (fun b => w.heap.size ≤ b) w' v ⟨occ, liesOf pts⟩) ∧ Gr w w' := by
  obtain ⟨i0, hi, hz0, hz1, hz2⟩ := info_parts info_intK
  obtain ⟨bf, vo, vp, T, Zo, Zp, rfl, h⟩ := h
  obtain ⟨Ao, co, rfl, hno, hco⟩ := h.occ.open
  obtain ⟨Ap, cp, rfl, hnp, hcp⟩ := h.pts.open
  have hc0 := blk_cell h.blk (j := 0) rfl
  have hc1 := blk_cell h.blk (j := 1) rfl
  have HP := Lib.hid h
  clear h
  go_enter Tryd.func22, Tryd.ntmps22
  go_wp2_with (go_at_call 77; (with_reducible refine (clone_bools _ _ occ.length (boolCell occ) (SlAt.gr HP.out.occ.at (by repeat (first | exact Gr.refl _ | assumption | refine Gr.plus ?_ _ | refine Gr.alloc ?_ _ | refine Gr.drew ?_ | refine Gr.drewN ?_ _))) hlo (fun j _ => rfl)).mono ?_); rintro e w' ⟨⟨v', rfl, ho⟩, m, rfl⟩; obtain ⟨Av, cv, rfl, -, -⟩ := SlAt.open (own_tab_at ho); have HO := Lib.hid ho; clear ho)
  go_loopw [20] (fun i wr => ∃ (k : Nat) (Aw : Option Addr) (cw : Nat), k ≤ pts.length ∧ i = .int .i64 k ∧ wr.heap[w.heap.size + 1 + m.x.size]? = some (.cells #[.slice Av occ.length cv, .slice Aw k cw] 43 (0, 0)) ∧ wr.ownsRow (w.heap.size + 1 + m.x.size + 1) 3 1 (.slice Aw k cw) k (intVals (liesOf (pts.take k))) ∧ Gr ((w.alloc (.cells #[.slice none 0 0, .slice none 0 0] 43)).plus m) wr) (fun i _ => pts.length - (intOf i).toNat)
  case atStart => exact ⟨0, none, 0, by omega, rfl, (by with_reducible repeat (first | assumption | (refine blk_new ?_; (first | rfl | (simp; done))) | refine blk_plus ?_ | refine blk_drew ?_ | refine blk_old ?_)), World.ownsRow_nil _ _ _ _, (by repeat (first | exact Gr.refl _ | assumption | refine Gr.plus ?_ _ | refine Gr.alloc ?_ _ | refine Gr.drew ?_ | refine Gr.drewN ?_ _))⟩
  case round =>
    obtain ⟨k, Aw, cw, hk, rfl, hblk, hown, hg⟩ := hrel
    have hb0 : wr.heap[w.heap.size]? = some (.cells #[.slice none 0 0, .slice none 0 0] 43 (0, 0)) := blk_gr hg (by with_reducible repeat (first | assumption | (refine blk_new ?_; (first | rfl | (simp; done))) | refine blk_plus ?_ | refine blk_drew ?_ | refine blk_old ?_))
    have hgw : Gr w wr := (Gr.plus (Gr.alloc (Gr.refl w) _) m).trans hg
    have d0 := blk_cell hblk (j := 0) rfl
    have d1 := blk_cell hblk (j := 1) rfl
    have x0 := blk_cell hb0 (j := 0) rfl
    have x1 := blk_cell hb0 (j := 1) rfl
    have xf := frz_blk hb0
    have HB0 := Lib.hid hb0
    clear hb0
    have HBLK := Lib.hid hblk
    clear hblk
    have HOW := Lib.hid hown
    clear hown
    have HG := Lib.hid hg
    clear hg
    have HGW := Lib.hid hgw
    clear hgw
    by_cases hlt : k < pts.length
    · obtain ⟨b, off, rfl, hz, hf, c0, c1, c2⟩ := el_fp (HP.out.keep (.of_gr HGW.out)).pts hlt
      have hk0 : (0 : Int) ≤ (k : Int) := by omega
      have hk1 : (k : Int) < (pts.length : Int) := by omega
      go_wp2_with (at_builtin; refine wpList_append_own _ rfl _ _ 29 rfl (w.heap.size + 1 + m.x.size + 1) 3 i0 _ 1 8 Tryd.underlying29 hi hz0 hz1 hz2 rfl (by decide) _ _ _ rfl (own_gr HOW.out (by repeat (first | exact Gr.refl _ | assumption | refine Gr.plus ?_ _ | refine Gr.alloc ?_ _ | refine Gr.drew ?_ | refine Gr.drewN ?_ _))) ⟨_, 0, none⟩ 1 1 [.int .i64 (gF pts k).lies] rfl rfl ?c1 ?c2 ?c3 ?c4 ?c5 ?_)
      case c1 => exact new_cells (by simp)
      case c2 => simp [Value.oneCell']
      case c3 => simp [maxLen]; omega
      case c4 => omega
      case c5 =>
        have := blk_lt HBLK.out
        simp; omega
      intro v1 w1 hown1 hgrow _
      obtain ⟨A1, c1, rfl, -, -⟩ := SlAt.open (own_slat hown1)
      have hblk1 : w1.heap[w.heap.size + 1 + m.x.size]? = some (.cells #[.slice Av occ.length cv, .slice Aw k cw] 43 (0, 0)) := blk_grown (blk_old (blk_old HBLK.out)) hgrow (own_ne HOW.out (by omega))
      have hg1 : Gr ((w.alloc (.cells #[.slice none 0 0, .slice none 0 0] 43)).plus m) w1 := Gr.grown (Gr.alloc (Gr.alloc HG.out _) _) hgrow (fun q hq => by
        have := own_base HOW.out q hq
        simp; omega)
      have e1 := blk_cell hblk1 (j := 1) rfl
      have e2 := frz_blk hblk1
      have HBLK1 := Lib.hid hblk1
      have HG1 := Lib.hid hg1
      have HOW1 := Lib.hid hown1
      clear hblk1 hg1 hown1 hgrow
      go_wp2_with fail
      refine ⟨⟨k + 1, A1, c1, by omega, by go_num, by simpa using blk_set (o := 1) (u := .slice A1 (k + 1) c1) HBLK1.out, ?_, Gr.setCell HG1.out (by simp) _⟩, by simp [intOf]; omega⟩
      rw [← liesOf_snoc _ _ hlt, ← intVals_snoc]
      exact ownsRow_setCell_below HOW1.out (by simp) _
    · obtain rfl : k = pts.length := by omega
      go_wp2_with fail
      (try simp only [Exit.inBlock, Exit.then]); refine bodyPost_ret (results_cell_row rfl _ _ w.heap.size 43 #[.slice Av occ.length cv, .slice Aw pts.length cw] (0, 0) _ rfl (by simpa using blk_set (o := 1) (u := .slice Aw pts.length cw) (blk_set (o := 0) (u := .slice Av occ.length cv) HB0.out)) Tryd.underlying43 rfl (by kernel_rfl)) rfl ?_
      have o1 := ownsRow_setCell_below (ownsRow_setCell_below (own_gr HO.out HG.out) (a := ⟨w.heap.size, 0, none⟩) (by simp) (.slice Av occ.length cv)) (a := ⟨w.heap.size, 1, none⟩) (by simp) (.slice Aw pts.length cw)
      have o2 := ownsRow_setCell_below (ownsRow_setCell_below HOW.out (a := ⟨w.heap.size, 0, none⟩) (by simp; omega) (.slice Av occ.length cv)) (a := ⟨w.heap.size, 1, none⟩) (by simp; omega) (.slice Aw pts.length cw)
      refine ⟨⟨_, rfl, _, _, rfl, own_tab_slf o1 (fun b hb _ => by simp at hb; omega), ?_⟩, (HGW.out.setCell (Nat.le_refl _) _).setCell (Nat.le_refl _) _⟩
      have o3 := ints_slf (l := liesOf pts) (F := fun b => w.heap.size ≤ b) (by rw [liesOf_len]; rw [List.take_length] at o2; exact o2) (fun b hb _ => by omega)
      exact o3

theorem info_fp : (Tryd.prog.info? 130).map (fun i => (i.zero, i.size, i.bytes)) = some (some (.agg #[.int .i64 0, .int .i64 0, .int .i64 0]), 3, 24) := by kernel_rfl
theorem fieldNew_no (w : World) (vl : Value) (L : Layout) (hT : Tabs w) (hsm : LSmall L) (hl : LayAt w vl L) (hok : layOk L = false) :
    Calls Tryd.prog 20 #[vl] w fun e w' => e = .returned (.tuple #[.pointer none, .int .i64 9]) ∧ Gr w w' := by
  obtain ⟨As, cs, Ap, cp, Ag, cg, Ar, cr, rfl, -, -, -, -, -⟩ := hl.opened
  have HL := Lib.hid hl
  clear hl
  go_enter Tryd.func20, Tryd.ntmps20
  go_wp2_with (go_at_call 76; (with_reducible refine Calls.mono (is_any _ _ L (hT.gr (by repeat (first | exact Gr.refl _ | assumption | refine Gr.plus ?_ _ | refine Gr.alloc ?_ _ | refine Gr.drew ?_ | refine Gr.drewN ?_ _))) hsm (HL.out.gr (by repeat (first | exact Gr.refl _ | assumption | refine Gr.plus ?_ _ | refine Gr.alloc ?_ _ | refine Gr.drew ?_ | refine Gr.drewN ?_ _)))) ?_); rintro e w' ⟨he, m, rfl⟩; rw [hok] at he; subst he)
  go_ret2
  exact ⟨rfl, (by repeat (first | exact Gr.refl _ | assumption | refine Gr.plus ?_ _ | refine Gr.alloc ?_ _ | refine Gr.drew ?_ | refine Gr.drewN ?_ _))⟩
theorem fieldNew_yes (w : World) (vl : Value) (L : Layout) (hT : Tabs w) (hsm : LSmall L) (hl : LayAt w vl L) (hok : layOk L = true) (hls : L.secs.length ≤ 100000) (hlp : L.pts.length ≤ 100000) :
    Calls Tryd.prog 20 #[vl] w fun e w' => (∃ p, e = .returned (.tuple #[p, .int .i64 0]) ∧ FieldAt (fun b => w.heap.size ≤ b ∧ b < w'.heap.size) w' p (List.replicate L.secs.length false) (newF L)) ∧ Gr w w' := by
  obtain ⟨i0, hi, hz0, hz1, hz2⟩ := info_parts info_fp
  obtain ⟨j0, hj, jz0, jz1, jz2⟩ := info_parts info_bools
  obtain ⟨As, cs, Ap, cp, Ag, cg, Ar, cr, rfl, -, -, -, -, -⟩ := hl.opened
  have HL := Lib.hid hl
  clear hl
  have hmk := fun w => mk_run Tryd.underlying40 hj jz0 L.secs.length hls (by omega) w
  rw [jz1] at hmk
  go_enter Tryd.func20, Tryd.ntmps20
  go_wp2_with (go_at_call 76; (with_reducible refine Calls.mono (is_any _ _ L (hT.gr (by repeat (first | exact Gr.refl _ | assumption | refine Gr.plus ?_ _ | refine Gr.alloc ?_ _ | refine Gr.drew ?_ | refine Gr.drewN ?_ _))) hsm (HL.out.gr (by repeat (first | exact Gr.refl _ | assumption | refine Gr.plus ?_ _ | refine Gr.alloc ?_ _ | refine Gr.drew ?_ | refine Gr.drewN ?_ _)))) ?_); rintro e w' ⟨he, m, rfl⟩; rw [hok] at he; subst he)
  go_loopw [17] (fun i wr => ∃ (k : Nat) (Aw : Option Addr) (cw : Nat), k ≤ L.pts.length ∧ i = .int .i64 k ∧ wr.heap[w.heap.size + 1 + m.x.size + 1]? = some (.cells #[.slice (some ⟨w.heap.size + 1 + m.x.size, 0, none⟩) L.secs.length L.secs.length, .slice Aw k cw] 128 (0, 0)) ∧
    wr.ownsRow (w.heap.size + 1 + m.x.size + 1 + 1) 130 3 (.slice Aw k cw) k (fpVals (List.replicate k ⟨1, 0, 0⟩)) ∧ Gr (((w.alloc (.cells #[.slice As L.secs.length cs, .slice Ap L.pts.length cp, .slice Ag L.sigs.length cg, .slice Ar L.rts.length cr] 26)).plus m).alloc (.cells (madeCells #[.bool false] L.secs.length) 4)) wr) (fun i _ => L.pts.length - (intOf i).toNat)
  case atStart => exact ⟨0, none, 0, by omega, rfl, (by with_reducible repeat (first | assumption | (refine blk_new ?_; (first | rfl | (simp; done))) | refine blk_plus ?_ | refine blk_drew ?_ | refine blk_old ?_)), World.ownsRow_nil _ _ _ _, (by repeat (first | exact Gr.refl _ | assumption | refine Gr.plus ?_ _ | refine Gr.alloc ?_ _ | refine Gr.drew ?_ | refine Gr.drewN ?_ _))⟩
  case round =>
    obtain ⟨k, Aw, cw, hk, rfl, hblk, hown, hg⟩ := hrel
    have d1 := blk_cell hblk (j := 1) rfl
    have df := frz_blk hblk
    have HBLK := Lib.hid hblk
    clear hblk
    have HOW := Lib.hid hown
    clear hown
    have HG := Lib.hid hg
    clear hg
    by_cases hlt : k < L.pts.length
    · go_wp2_with (at_builtin; refine wpList_append_own _ rfl _ _ 126 rfl (w.heap.size + 1 + m.x.size + 1 + 1) 130 i0 _ 3 24 Tryd.underlying126 hi hz0 hz1 hz2 rfl (by decide) _ _ _ rfl (own_gr HOW.out (by repeat (first | exact Gr.refl _ | assumption | refine Gr.plus ?_ _ | refine Gr.alloc ?_ _ | refine Gr.drew ?_ | refine Gr.drewN ?_ _))) ⟨_, 0, none⟩ 1 1 [.int .i64 1, .int .i64 0, .int .i64 0] rfl rfl ?c1 ?c2 ?c3 ?c4 ?c5 ?_)
      case c1 => exact new_cells (by simp)
      case c2 => simp [Value.oneCell']
      case c3 => simp [maxLen]; omega
      case c4 => omega
      case c5 =>
        have := blk_lt HBLK.out
        simp; omega
      intro v1 w1 hown1 hgrow _
      obtain ⟨A1, c1, rfl, -, -⟩ := SlAt.open (own_slat hown1)
      have hblk1 : w1.heap[w.heap.size + 1 + m.x.size + 1]? = some (.cells #[.slice (some ⟨w.heap.size + 1 + m.x.size, 0, none⟩) L.secs.length L.secs.length, .slice Aw k cw] 128 (0, 0)) := blk_grown (blk_old HBLK.out) hgrow (own_ne HOW.out (by omega))
      have hg1 : Gr (((w.alloc (.cells #[.slice As L.secs.length cs, .slice Ap L.pts.length cp, .slice Ag L.sigs.length cg, .slice Ar L.rts.length cr] 26)).plus m).alloc (.cells (madeCells #[.bool false] L.secs.length) 4)) w1 := Gr.grown (Gr.alloc HG.out _) hgrow (fun q hq => by
        have := own_base HOW.out q hq
        simp; omega)
      have e1 := blk_cell hblk1 (j := 1) rfl
      have e2 := frz_blk hblk1
      have HBLK1 := Lib.hid hblk1
      have HG1 := Lib.hid hg1
      have HOW1 := Lib.hid hown1
      clear hblk1 hg1 hown1 hgrow
      go_wp2_with fail
      refine ⟨⟨k + 1, A1, c1, by omega, by go_num, by simpa using blk_set (o := 1) (u := .slice A1 (k + 1) c1) HBLK1.out, ?_, Gr.setCell HG1.out (by simp) _⟩, by simp [intOf]; omega⟩
      rw [← rep_snoc, fpVals_snoc]
      exact ownsRow_setCell_below HOW1.out (by simp) _
    · obtain rfl : k = L.pts.length := by omega
      go_wp2_with fail
      go_ret2
      have hb := blk_lt HBLK.out
      have hg0 : Gr w wr := (Gr.alloc (Gr.plus (Gr.alloc (Gr.refl w) _) m) _).trans HG.out
      refine ⟨⟨_, rfl, _, _, _, _, (fun b => b = w.heap.size + 1 + m.x.size), (fun b => w.heap.size + 1 + m.x.size + 1 + 1 ≤ b ∧ b < wr.heap.size), rfl, HBLK.out, mut_made_bools (blk_gr HG.out (by with_reducible repeat (first | assumption | (refine blk_new ?_; (first | rfl | (simp; done))) | refine blk_plus ?_ | refine blk_drew ?_ | refine blk_old ?_))) rfl hls, ?_, by omega, by omega, by omega, fun b hb => ?_, fun b hb => by omega⟩, hg0⟩
      · have e : (newF L).length = L.pts.length := by simp [newF]
        refine mut_fp_own (base := w.heap.size + 1 + m.x.size + 1 + 1) (e := 130) ?_ fun b h1 h2 => ⟨h1, h2⟩
        rw [e]; exact HOW.out
      · subst hb; exact ⟨by omega, by omega⟩
end Go.Proofs.YtnfceboppdcfdaaDoor
