/- The walk of the reference's New: a field without trains. -/
import Derived.Test.YtnfceboppdcfdaaDoorK6t
import Derived.Test.YtnfceboppdcfdaaDoorK4s
import Derived.Test.YtnfceboppdcfdaaDoorK0
namespace Go.Proofs.YtnfceboppdcfdaaDoor
open Go.RowKit
set_option maxHeartbeats 4000000
set_option maxRecDepth 1000000
set_option linter.unusedVariables false

theorem info_ints2 : (Tryd.prog.info? 3).map (fun i => (i.zero, i.size, i.bytes)) = some (some (.int .i64 0), 1, 8) := by kernel_rfl
theorem mut_int_own {Z : Nat → Prop} {w : World} {base e : Nat} {v : Value} {l : List Int} (h : w.ownsRow base e 1 v l.length (intVals l)) (hz : ∀ b, base ≤ b → b < w.heap.size → Z b) : MutAt Z w v l.length 1 (intCell l) :=
  (mut_of_own h hz).congr fun j hj => intVals_getD l j (by omega)
theorem r6New_no (w : World) (vl : Value) (L : Layout) (hT : Tabs w) (hsm : LSmall L) (hl : LayAt w vl L) (hok : layOk L = false) :
    Calls Tryd.prog 24 #[vl] w fun e w' => e = .returned (.tuple #[.pointer none, .int .i64 9]) ∧ Gr w w' := by
  obtain ⟨As, cs, Ap, cp, Ag, cg, Ar, cr, rfl, -, -, -, -, -⟩ := hl.opened
  have HL := Lib.hid hl
  clear hl
  go_enter Tryd.func24, Tryd.ntmps24
  go_wp2_with (go_at_call 15; (with_reducible refine Calls.mono (ref4Is_any _ _ L (hT.gr (by repeat (first | exact Gr.refl _ | assumption | refine Gr.plus ?_ _ | refine Gr.alloc ?_ _ | refine Gr.drew ?_ | refine Gr.drewN ?_ _))) hsm (HL.out.gr (by repeat (first | exact Gr.refl _ | assumption | refine Gr.plus ?_ _ | refine Gr.alloc ?_ _ | refine Gr.drew ?_ | refine Gr.drewN ?_ _)))) ?_); rintro e w' ⟨he, m, rfl⟩; rw [hok] at he; subst he)
  go_ret2
  exact ⟨rfl, (by repeat (first | exact Gr.refl _ | assumption | refine Gr.plus ?_ _ | refine Gr.alloc ?_ _ | refine Gr.drew ?_ | refine Gr.drewN ?_ _))⟩
theorem r6New_yes (w : World) (vl : Value) (L : Layout) (hT : Tabs w) (hsm : LSmall L) (hl : LayAt w vl L) (hok : layOk L = true) (hls : L.secs.length ≤ 100000) (hlp : L.pts.length ≤ 100000) :
    Calls Tryd.prog 24 #[vl] w fun e w' => ∃ (bf : Nat) (Z : Nat → Prop), e = .returned (.tuple #[.pointer (some ⟨bf, 0, none⟩), .int .i64 0]) ∧ R6At Z w' (.pointer (some ⟨bf, 0, none⟩)) (List.replicate L.secs.length false) (newF L) ∧ (∀ b, Z b → w.heap.size ≤ b) ∧ (∀ b, Z b → b < w'.heap.size) ∧ Gr w w' := by
  obtain ⟨j0, hj, jz0, jz1, jz2⟩ := info_parts info_bools
  obtain ⟨i0, hi, iz0, iz1, iz2⟩ := info_parts info_ints2
  obtain ⟨As, cs, Ap, cp, Ag, cg, Ar, cr, rfl, -, -, -, -, -⟩ := hl.opened
  have HL := Lib.hid hl
  clear hl
  have hmk := fun w => mk_run Tryd.underlying40 hj jz0 L.secs.length hls (by omega) w
  rw [jz1] at hmk
  have hmi := fun w => mk_run Tryd.underlying29 hi iz0 L.pts.length hlp (by omega) w
  rw [iz1] at hmi
  go_enter Tryd.func24, Tryd.ntmps24
  go_wp2_with (go_at_call 15; (with_reducible refine Calls.mono (ref4Is_any _ _ L (hT.gr (by repeat (first | exact Gr.refl _ | assumption | refine Gr.plus ?_ _ | refine Gr.alloc ?_ _ | refine Gr.drew ?_ | refine Gr.drewN ?_ _))) hsm (HL.out.gr (by repeat (first | exact Gr.refl _ | assumption | refine Gr.plus ?_ _ | refine Gr.alloc ?_ _ | refine Gr.drew ?_ | refine Gr.drewN ?_ _)))) ?_); rintro e w' ⟨he, m, rfl⟩; rw [hok] at he; subst he)
  go_region
  next =>
    go_wp2_with fail
    generalize m.tick = mt
    go_loopw [5] (fun i wr => ∃ (k : Nat) (Aw : Option Addr) (cw : Nat), k ≤ L.pts.length ∧ i = .int .i64 k ∧ wr.heap[w.heap.size + 1 + mt.x.size + 1 + 1]? = some (.cells #[.slice (some ⟨w.heap.size + 1 + mt.x.size + 1 + 1 + 1, 0, none⟩) L.secs.length L.secs.length, .slice Aw k cw, .slice (some ⟨w.heap.size + 1 + mt.x.size, 0, none⟩) L.pts.length L.pts.length, .slice (some ⟨w.heap.size + 1 + mt.x.size + 1, 0, none⟩) L.pts.length L.pts.length] 57 (0, 0)) ∧ wr.heap[w.heap.size + 1 + mt.x.size + 1 + 1 + 1]? = some (.cells (madeCells #[.bool false] L.secs.length) 4 (0, 0)) ∧
      wr.ownsRow (w.heap.size + 1 + mt.x.size + 1 + 1 + 1 + 1) 3 1 (.slice Aw k cw) k (intVals (List.replicate k 1)) ∧ Gr ((((w.alloc (.cells #[.slice As L.secs.length cs, .slice Ap L.pts.length cp, .slice Ag L.sigs.length cg, .slice Ar L.rts.length cr] 26)).plus mt).alloc (.cells (madeCells #[.int .i64 0] L.pts.length) 3)).alloc (.cells (madeCells #[.int .i64 0] L.pts.length) 3)) wr) (fun i _ => L.pts.length - (intOf i).toNat)
    case atStart => exact ⟨0, none, 0, by omega, rfl, (by with_reducible repeat (first | assumption | (refine blk_new ?_; (first | rfl | (simp; done))) | refine blk_plus ?_ | refine blk_drew ?_ | refine blk_old ?_)), (by with_reducible repeat (first | assumption | (refine blk_new ?_; (first | rfl | (simp; done))) | refine blk_plus ?_ | refine blk_drew ?_ | refine blk_old ?_)), World.ownsRow_nil _ _ _ _, (by repeat (first | exact Gr.refl _ | assumption | refine Gr.plus ?_ _ | refine Gr.alloc ?_ _ | refine Gr.drew ?_ | refine Gr.drewN ?_ _))⟩
    case round =>
      obtain ⟨k, Aw, cw, hk, rfl, hblk, hbo, hown, hg⟩ := hrel
      have d1 := blk_cell hblk (j := 1) rfl
      have df := frz_blk hblk
      have HBLK := Lib.hid hblk
      clear hblk
      have HBO := Lib.hid hbo
      clear hbo
      have HOW := Lib.hid hown
      clear hown
      have HG := Lib.hid hg
      clear hg
      have hbx : wr.heap[w.heap.size]? = some (.cells #[.slice As L.secs.length cs, .slice Ap L.pts.length cp, .slice Ag L.sigs.length cg, .slice Ar L.rts.length cr] 26 (0, 0)) := blk_gr HG.out (by with_reducible repeat (first | assumption | (refine blk_new ?_; (first | rfl | (simp; done))) | refine blk_plus ?_ | refine blk_drew ?_ | refine blk_old ?_))
      have b1 := blk_cell hbx (j := 1) rfl
      clear hbx
      by_cases hlt : k < L.pts.length
      · go_wp2_with (at_builtin; refine wpList_append_own _ rfl _ _ 29 rfl (w.heap.size + 1 + mt.x.size + 1 + 1 + 1 + 1) 3 i0 _ 1 8 Tryd.underlying29 hi iz0 iz1 iz2 rfl (by decide) _ _ _ rfl (own_gr HOW.out (by repeat (first | exact Gr.refl _ | assumption | refine Gr.plus ?_ _ | refine Gr.alloc ?_ _ | refine Gr.drew ?_ | refine Gr.drewN ?_ _))) ⟨_, 0, none⟩ 1 1 [.int .i64 1] rfl rfl ?c1 ?c2 ?c3 ?c4 ?c5 ?_)
        case c1 => exact new_cells (by simp)
        case c2 => simp [Value.oneCell']
        case c3 => simp [maxLen]; omega
        case c4 => omega
        case c5 =>
          have := blk_lt HBO.out
          simp; omega
        intro v1 w1 hown1 hgrow _
        obtain ⟨A1, c1, rfl, -, -⟩ := SlAt.open (own_slat hown1)
        have hblk1 : w1.heap[w.heap.size + 1 + mt.x.size + 1 + 1]? = some (.cells #[.slice (some ⟨w.heap.size + 1 + mt.x.size + 1 + 1 + 1, 0, none⟩) L.secs.length L.secs.length, .slice Aw k cw, .slice (some ⟨w.heap.size + 1 + mt.x.size, 0, none⟩) L.pts.length L.pts.length, .slice (some ⟨w.heap.size + 1 + mt.x.size + 1, 0, none⟩) L.pts.length L.pts.length] 57 (0, 0)) := blk_grown (blk_old HBLK.out) hgrow (own_ne HOW.out (by omega))
        have hbo1 : w1.heap[w.heap.size + 1 + mt.x.size + 1 + 1 + 1]? = some (.cells (madeCells #[.bool false] L.secs.length) 4 (0, 0)) := blk_grown (blk_old HBO.out) hgrow (own_ne HOW.out (by omega))
        have hg1 : Gr ((((w.alloc (.cells #[.slice As L.secs.length cs, .slice Ap L.pts.length cp, .slice Ag L.sigs.length cg, .slice Ar L.rts.length cr] 26)).plus mt).alloc (.cells (madeCells #[.int .i64 0] L.pts.length) 3)).alloc (.cells (madeCells #[.int .i64 0] L.pts.length) 3)) w1 := Gr.grown (Gr.alloc HG.out _) hgrow (fun q hq => by
          have := own_base HOW.out q hq
          simp; omega)
        have e1 := blk_cell hblk1 (j := 1) rfl
        have e2 := frz_blk hblk1
        have HBLK1 := Lib.hid hblk1
        have HBO1 := Lib.hid hbo1
        have HG1 := Lib.hid hg1
        have HOW1 := Lib.hid hown1
        clear hblk1 hbo1 hg1 hown1 hgrow
        go_wp2_with fail
        refine ⟨⟨k + 1, A1, c1, by omega, by go_num, by simpa using blk_set (o := 1) (u := .slice A1 (k + 1) c1) HBLK1.out, blk_off HBO1.out (by omega), ?_, Gr.setCell HG1.out (by simp) _⟩, by simp [intOf]; omega⟩
        rw [← rep_snoc, ← intVals_snoc]
        exact ownsRow_setCell_below HOW1.out (by simp) _
      · obtain rfl : k = L.pts.length := by omega
        go_wp2_with fail
        go_ret2
        have hb := blk_lt HBO.out
        have hg0 : Gr w wr := (Gr.alloc (Gr.alloc (Gr.plus (Gr.alloc (Gr.refl w) _) mt) _) _).trans HG.out
        have x1 : liesOf (newF L) = List.replicate L.pts.length 1 := by simp [liesOf, newF]
        have x2 : toOf (newF L) = List.replicate L.pts.length 0 := by simp [toOf, newF]
        have x3 : stepsOf (newF L) = List.replicate L.pts.length 0 := by simp [stepsOf, newF]
        refine ⟨_, (fun b => w.heap.size ≤ b ∧ b < wr.heap.size), rfl, ⟨w.heap.size + 1 + mt.x.size + 1 + 1, .slice (some ⟨w.heap.size + 1 + mt.x.size + 1 + 1 + 1, 0, none⟩) L.secs.length L.secs.length, .slice Aw L.pts.length cw, .slice (some ⟨w.heap.size + 1 + mt.x.size, 0, none⟩) L.pts.length L.pts.length, .slice (some ⟨w.heap.size + 1 + mt.x.size + 1, 0, none⟩) L.pts.length L.pts.length, 57, (fun b => b = w.heap.size + 1 + mt.x.size + 1 + 1 + 1), (fun b => w.heap.size + 1 + mt.x.size + 1 + 1 + 1 + 1 ≤ b ∧ b < wr.heap.size), (fun b => b = w.heap.size + 1 + mt.x.size), (fun b => b = w.heap.size + 1 + mt.x.size + 1), rfl, ?_⟩, fun b h => h.1, fun b h => h.2, hg0⟩
        rw [x1, x2, x3]
        refine ⟨HBLK.out, mut_made_bools HBO.out rfl hls, ?_, mut_made_ints (blk_gr HG.out (by with_reducible repeat (first | assumption | (refine blk_new ?_; (first | rfl | (simp; done))) | refine blk_plus ?_ | refine blk_drew ?_ | refine blk_old ?_))) rfl hlp, mut_made_ints (blk_gr HG.out (by with_reducible repeat (first | assumption | (refine blk_new ?_; (first | rfl | (simp; done))) | refine blk_plus ?_ | refine blk_drew ?_ | refine blk_old ?_))) rfl hlp, by omega, fun b hb => ?_, fun b hb => ?_, fun b hb => ?_, fun b hb => ?_⟩
        · refine mut_int_own (base := w.heap.size + 1 + mt.x.size + 1 + 1 + 1 + 1) (e := 3) ?_ fun b h1 h2 => ⟨h1, h2⟩
          rw [List.length_replicate]; exact HOW.out
        all_goals (try simp only at hb) <;> (try simp only) <;> omega
  next =>
    go_wp2_with fail
    generalize m.tick = mt
    go_loopw [5] (fun i wr => ∃ (k : Nat) (Aw : Option Addr) (cw : Nat), k ≤ L.pts.length ∧ i = .int .i64 k ∧ wr.heap[w.heap.size + 1 + mt.x.size + 1 + 1]? = some (.cells #[.slice (some ⟨w.heap.size + 1 + mt.x.size + 1 + 1 + 1, 0, none⟩) L.secs.length L.secs.length, .slice Aw k cw, .slice (some ⟨w.heap.size + 1 + mt.x.size + 1, 0, none⟩) L.pts.length L.pts.length, .slice (some ⟨w.heap.size + 1 + mt.x.size, 0, none⟩) L.pts.length L.pts.length] 57 (0, 0)) ∧ wr.heap[w.heap.size + 1 + mt.x.size + 1 + 1 + 1]? = some (.cells (madeCells #[.bool false] L.secs.length) 4 (0, 0)) ∧
      wr.ownsRow (w.heap.size + 1 + mt.x.size + 1 + 1 + 1 + 1) 3 1 (.slice Aw k cw) k (intVals (List.replicate k 1)) ∧ Gr ((((w.alloc (.cells #[.slice As L.secs.length cs, .slice Ap L.pts.length cp, .slice Ag L.sigs.length cg, .slice Ar L.rts.length cr] 26)).plus mt).alloc (.cells (madeCells #[.int .i64 0] L.pts.length) 3)).alloc (.cells (madeCells #[.int .i64 0] L.pts.length) 3)) wr) (fun i _ => L.pts.length - (intOf i).toNat)
    case atStart => exact ⟨0, none, 0, by omega, rfl, (by with_reducible repeat (first | assumption | (refine blk_new ?_; (first | rfl | (simp; done))) | refine blk_plus ?_ | refine blk_drew ?_ | refine blk_old ?_)), (by with_reducible repeat (first | assumption | (refine blk_new ?_; (first | rfl | (simp; done))) | refine blk_plus ?_ | refine blk_drew ?_ | refine blk_old ?_)), World.ownsRow_nil _ _ _ _, (by repeat (first | exact Gr.refl _ | assumption | refine Gr.plus ?_ _ | refine Gr.alloc ?_ _ | refine Gr.drew ?_ | refine Gr.drewN ?_ _))⟩
    case round =>
      obtain ⟨k, Aw, cw, hk, rfl, hblk, hbo, hown, hg⟩ := hrel
      have d1 := blk_cell hblk (j := 1) rfl
      have df := frz_blk hblk
      have HBLK := Lib.hid hblk
      clear hblk
      have HBO := Lib.hid hbo
      clear hbo
      have HOW := Lib.hid hown
      clear hown
      have HG := Lib.hid hg
      clear hg
      have hbx : wr.heap[w.heap.size]? = some (.cells #[.slice As L.secs.length cs, .slice Ap L.pts.length cp, .slice Ag L.sigs.length cg, .slice Ar L.rts.length cr] 26 (0, 0)) := blk_gr HG.out (by with_reducible repeat (first | assumption | (refine blk_new ?_; (first | rfl | (simp; done))) | refine blk_plus ?_ | refine blk_drew ?_ | refine blk_old ?_))
      have b1 := blk_cell hbx (j := 1) rfl
      clear hbx
      by_cases hlt : k < L.pts.length
      · go_wp2_with (at_builtin; refine wpList_append_own _ rfl _ _ 29 rfl (w.heap.size + 1 + mt.x.size + 1 + 1 + 1 + 1) 3 i0 _ 1 8 Tryd.underlying29 hi iz0 iz1 iz2 rfl (by decide) _ _ _ rfl (own_gr HOW.out (by repeat (first | exact Gr.refl _ | assumption | refine Gr.plus ?_ _ | refine Gr.alloc ?_ _ | refine Gr.drew ?_ | refine Gr.drewN ?_ _))) ⟨_, 0, none⟩ 1 1 [.int .i64 1] rfl rfl ?c1 ?c2 ?c3 ?c4 ?c5 ?_)
        case c1 => exact new_cells (by simp)
        case c2 => simp [Value.oneCell']
        case c3 => simp [maxLen]; omega
        case c4 => omega
        case c5 =>
          have := blk_lt HBO.out
          simp; omega
        intro v1 w1 hown1 hgrow _
        obtain ⟨A1, c1, rfl, -, -⟩ := SlAt.open (own_slat hown1)
        have hblk1 : w1.heap[w.heap.size + 1 + mt.x.size + 1 + 1]? = some (.cells #[.slice (some ⟨w.heap.size + 1 + mt.x.size + 1 + 1 + 1, 0, none⟩) L.secs.length L.secs.length, .slice Aw k cw, .slice (some ⟨w.heap.size + 1 + mt.x.size + 1, 0, none⟩) L.pts.length L.pts.length, .slice (some ⟨w.heap.size + 1 + mt.x.size, 0, none⟩) L.pts.length L.pts.length] 57 (0, 0)) := blk_grown (blk_old HBLK.out) hgrow (own_ne HOW.out (by omega))
        have hbo1 : w1.heap[w.heap.size + 1 + mt.x.size + 1 + 1 + 1]? = some (.cells (madeCells #[.bool false] L.secs.length) 4 (0, 0)) := blk_grown (blk_old HBO.out) hgrow (own_ne HOW.out (by omega))
        have hg1 : Gr ((((w.alloc (.cells #[.slice As L.secs.length cs, .slice Ap L.pts.length cp, .slice Ag L.sigs.length cg, .slice Ar L.rts.length cr] 26)).plus mt).alloc (.cells (madeCells #[.int .i64 0] L.pts.length) 3)).alloc (.cells (madeCells #[.int .i64 0] L.pts.length) 3)) w1 := Gr.grown (Gr.alloc HG.out _) hgrow (fun q hq => by
          have := own_base HOW.out q hq
          simp; omega)
        have e1 := blk_cell hblk1 (j := 1) rfl
        have e2 := frz_blk hblk1
        have HBLK1 := Lib.hid hblk1
        have HBO1 := Lib.hid hbo1
        have HG1 := Lib.hid hg1
        have HOW1 := Lib.hid hown1
        clear hblk1 hbo1 hg1 hown1 hgrow
        go_wp2_with fail
        refine ⟨⟨k + 1, A1, c1, by omega, by go_num, by simpa using blk_set (o := 1) (u := .slice A1 (k + 1) c1) HBLK1.out, blk_off HBO1.out (by omega), ?_, Gr.setCell HG1.out (by simp) _⟩, by simp [intOf]; omega⟩
        rw [← rep_snoc, ← intVals_snoc]
        exact ownsRow_setCell_below HOW1.out (by simp) _
      · obtain rfl : k = L.pts.length := by omega
        go_wp2_with fail
        go_ret2
        have hb := blk_lt HBO.out
        have hg0 : Gr w wr := (Gr.alloc (Gr.alloc (Gr.plus (Gr.alloc (Gr.refl w) _) mt) _) _).trans HG.out
        have x1 : liesOf (newF L) = List.replicate L.pts.length 1 := by simp [liesOf, newF]
        have x2 : toOf (newF L) = List.replicate L.pts.length 0 := by simp [toOf, newF]
        have x3 : stepsOf (newF L) = List.replicate L.pts.length 0 := by simp [stepsOf, newF]
        refine ⟨_, (fun b => w.heap.size ≤ b ∧ b < wr.heap.size), rfl, ⟨w.heap.size + 1 + mt.x.size + 1 + 1, .slice (some ⟨w.heap.size + 1 + mt.x.size + 1 + 1 + 1, 0, none⟩) L.secs.length L.secs.length, .slice Aw L.pts.length cw, .slice (some ⟨w.heap.size + 1 + mt.x.size + 1, 0, none⟩) L.pts.length L.pts.length, .slice (some ⟨w.heap.size + 1 + mt.x.size, 0, none⟩) L.pts.length L.pts.length, 57, (fun b => b = w.heap.size + 1 + mt.x.size + 1 + 1 + 1), (fun b => w.heap.size + 1 + mt.x.size + 1 + 1 + 1 + 1 ≤ b ∧ b < wr.heap.size), (fun b => b = w.heap.size + 1 + mt.x.size + 1), (fun b => b = w.heap.size + 1 + mt.x.size), rfl, ?_⟩, fun b h => h.1, fun b h => h.2, hg0⟩
        rw [x1, x2, x3]
        refine ⟨HBLK.out, mut_made_bools HBO.out rfl hls, ?_, mut_made_ints (blk_gr HG.out (by with_reducible repeat (first | assumption | (refine blk_new ?_; (first | rfl | (simp; done))) | refine blk_plus ?_ | refine blk_drew ?_ | refine blk_old ?_))) rfl hlp, mut_made_ints (blk_gr HG.out (by with_reducible repeat (first | assumption | (refine blk_new ?_; (first | rfl | (simp; done))) | refine blk_plus ?_ | refine blk_drew ?_ | refine blk_old ?_))) rfl hlp, by omega, fun b hb => ?_, fun b hb => ?_, fun b hb => ?_, fun b hb => ?_⟩
        · refine mut_int_own (base := w.heap.size + 1 + mt.x.size + 1 + 1 + 1 + 1) (e := 3) ?_ fun b h1 h2 => ⟨h1, h2⟩
          rw [List.length_replicate]; exact HOW.out
        all_goals (try simp only at hb) <;> (try simp only) <;> omega
end Go.Proofs.YtnfceboppdcfdaaDoor
