/- The walks of table: the routes from a signal; what excludes what. -/
import Derived.Test.YtnfceboppdcfdaaDoorK4d
namespace Go.Proofs.YtnfceboppdcfdaaDoor
open Go.RowKit
set_option maxHeartbeats 4000000
set_option maxRecDepth 1000000

theorem info_int : (Tryd.prog.info? 3).map (fun i => (i.zero, i.size, i.bytes)) = some (some (.int .i64 0), 1, 8) := by kernel_rfl

theorem entry_any (w : World) (vl : Value) (L : Layout) (s : Int) (hl : LayAt w vl L) (hlen : L.rts.length ≤ 100000) :
    Calls Tryd.prog 16 #[vl, .int .i64 s] w fun e w' => (∃ v, e = .returned v ∧ SlInts w' v (entryL L s)) ∧ Gr w w' := by
  obtain ⟨i0, hi, hz0, hz1, hz2⟩ := info_parts info_int
  obtain ⟨As, cs, Ap, cp, Ag, cg, Ar, cr, rfl, -, -, -, hR, hb⟩ := hl.opened
  have HR := Lib.hid hR
  clear hR
  go_enter Tryd.func16, Tryd.ntmps16
  go_wp2
  go_loopw [5, 11] (fun v i wr => ∃ k : Nat, k ≤ L.rts.length ∧ i = .int .i64 k ∧ wr.ownsRow (w.heap.size + 1) 3 1 v (picks (entryP L s) k).length (intVals (picks (entryP L s) k)) ∧ Gr (w.alloc _) wr) (fun _ i _ => L.rts.length - (intOf i).toNat)
  case atStart => exact ⟨0, by omega, rfl, World.ownsRow_nil _ _ _ _, (by repeat (first | exact Gr.refl _ | assumption | refine Gr.plus ?_ _ | refine Gr.alloc ?_ _ | refine Gr.drew ?_ | refine Gr.drewN ?_ _))⟩
  case round =>
    obtain ⟨k, hk, rfl, hown, m, rfl⟩ := hrel
    have HO := Lib.hid hown
    clear hown
    by_cases hlt : k < L.rts.length
    · obtain ⟨b, off, Ax, cx, Aq, cq, Af, cf, rfl, c0, c1, c2, c3, c4, c5, hx, hq, hf⟩ := SlRts.el HR.out hlt
      have hpl := picks_len (entryP L s) k
      cases hin : ((gR L.rts k).frm == s)
      · go_wp2_with fail
        refine ⟨⟨k + 1, by omega, by go_num, ?_, (by repeat (first | exact Gr.refl _ | assumption | refine Gr.plus ?_ _ | refine Gr.alloc ?_ _ | refine Gr.drew ?_ | refine Gr.drewN ?_ _))⟩, by simp [intOf]; omega⟩
        have : picks (entryP L s) (k + 1) = picks (entryP L s) k := by simp only [picks, entryP, hin, Bool.false_eq_true, if_false, List.append_nil]
        rw [this]
        exact own_gr HO.out (by repeat (first | exact Gr.refl _ | assumption | refine Gr.plus ?_ _ | refine Gr.alloc ?_ _ | refine Gr.drew ?_ | refine Gr.drewN ?_ _))
      · go_wp2_with (at_builtin; refine wpList_append_own _ rfl _ _ 29 rfl (w.heap.size + 1) 3 i0 _ 1 8 Tryd.underlying29 hi hz0 hz1 hz2 rfl (by decide) _ _ _ rfl (own_gr HO.out (by repeat (first | exact Gr.refl _ | assumption | refine Gr.plus ?_ _ | refine Gr.alloc ?_ _ | refine Gr.drew ?_ | refine Gr.drewN ?_ _))) ⟨_, 0, none⟩ 1 1 [.int .i64 k] rfl rfl ?c1 ?c2 ?c3 ?c4 ?c5 ?_)
        case c1 => exact new_cells (by simp)
        case c2 => simp [Value.oneCell']
        case c3 => simp [maxLen]; omega
        case c4 => omega
        case c5 => simp; omega
        intro v' w1 hown' hgrow _
        have HO2 := Lib.hid hown'
        have hg2 : Gr (w.alloc (.cells #[.slice As L.secs.length cs, .slice Ap L.pts.length cp, .slice Ag L.sigs.length cg, .slice (some ⟨b, off, none⟩) L.rts.length cr] 26)) w1 := Gr.grown (by repeat (first | exact Gr.refl _ | assumption | refine Gr.plus ?_ _ | refine Gr.alloc ?_ _ | refine Gr.drew ?_ | refine Gr.drewN ?_ _)) hgrow (fun k hk => by simpa using own_base HO.out k hk)
        clear hown' hgrow
        obtain ⟨m1, rfl⟩ := hg2
        go_wp2_with fail
        refine ⟨⟨k + 1, by omega, by go_num, ?_, (by repeat (first | exact Gr.refl _ | assumption | refine Gr.plus ?_ _ | refine Gr.alloc ?_ _ | refine Gr.drew ?_ | refine Gr.drewN ?_ _))⟩, by simp [intOf]; omega⟩
        have : picks (entryP L s) (k + 1) = picks (entryP L s) k ++ [(k : Int)] := by simp only [picks, entryP, hin, if_true]
        rw [this, ← intVals_snoc, List.length_append]
        exact own_gr HO2.out (by repeat (first | exact Gr.refl _ | assumption | refine Gr.plus ?_ _ | refine Gr.alloc ?_ _ | refine Gr.drew ?_ | refine Gr.drewN ?_ _))
    · obtain rfl : k = L.rts.length := by omega
      go_wp2_with fail
      go_ret
      exact ⟨⟨_, rfl, ints_slat (own_gr HO.out (by repeat (first | exact Gr.refl _ | assumption | refine Gr.plus ?_ _ | refine Gr.alloc ?_ _ | refine Gr.drew ?_ | refine Gr.drewN ?_ _)))⟩, (by repeat (first | exact Gr.refl _ | assumption | refine Gr.plus ?_ _ | refine Gr.alloc ?_ _ | refine Gr.drew ?_ | refine Gr.drewN ?_ _))⟩

theorem conflict_any (w : World) (vl : Value) (L : Layout) (r s : Nat) (hl : LayAt w vl L) (hr : r < L.rts.length) (hs : s < L.rts.length) (hlr : (gR L.rts r).pts.length + (gR L.rts r).flk.length ≤ 100000) (hls : (gR L.rts s).pts.length + (gR L.rts s).flk.length ≤ 100000) :
    Calls Tryd.prog 17 #[vl, .int .i64 r, .int .i64 s] w fun e w' => e = .returned (.bool (conflict L r s)) ∧ Gr w w' := by
  obtain ⟨As, cs, Ap, cp, Ag, cg, Ar, cr, rfl, hS, hP, hG, hR, hb⟩ := hl.opened
  obtain ⟨b, off, Ax, cx, Aq, cq, Af, cf, rfl, a0, a1, a2, a3, a4, a5, hx, hq, hf⟩ := SlRts.el hR hr
  obtain ⟨b', off', Ax', cx', Aq', cq', Af', cf', ee, b0, b1, b2, b3, b4, b5, hx', hq', hf'⟩ := SlRts.el hR hs
  cases ee
  have HX := Lib.hid hx
  have HX' := Lib.hid hx'
  clear hx hq hf hx' hq' hf' hS hP hG hR
  have HL := Lib.hid hl
  clear hl
  have hk1 : (0 : Int) ≤ (r : Int) := by omega
  have hk2 : (r : Int) < (L.rts.length : Int) := by omega
  have hk3 : (0 : Int) ≤ (s : Int) := by omega
  have hk4 : (s : Int) < (L.rts.length : Int) := by omega
  go_enter Tryd.func17, Tryd.ntmps17
  go_wp2_with fail
  go_region_held3 (fun w' => w'.cell? ⟨w.heap.size, 3, none⟩ = some (.slice (some ⟨b, off, none⟩) L.rts.length cr) ∧ w'.cell? ⟨w.heap.size + 1, 0, none⟩ = some (.int .i64 s) ∧ w'.cell? ⟨b, off + r * 6, none⟩ = some (.string (gR L.rts r).name) ∧ w'.cell? ⟨b, off + r * 6 + 1, none⟩ = some (.int .i64 (gR L.rts r).frm) ∧ w'.cell? ⟨b, off + r * 6 + 2, none⟩ = some (.int .i64 (gR L.rts r).to) ∧ w'.cell? ⟨b, off + r * 6 + 3, none⟩ = some (.slice Ax (gR L.rts r).path.length cx) ∧ w'.cell? ⟨b, off + r * 6 + 4, none⟩ = some (.slice Aq (gR L.rts r).pts.length cq) ∧ w'.cell? ⟨b, off + r * 6 + 5, none⟩ = some (.slice Af (gR L.rts r).flk.length cf) ∧ w'.cell? ⟨b, off + s * 6, none⟩ = some (.string (gR L.rts s).name) ∧ w'.cell? ⟨b, off + s * 6 + 1, none⟩ = some (.int .i64 (gR L.rts s).frm) ∧ w'.cell? ⟨b, off + s * 6 + 2, none⟩ = some (.int .i64 (gR L.rts s).to) ∧ w'.cell? ⟨b, off + s * 6 + 3, none⟩ = some (.slice Ax' (gR L.rts s).path.length cx') ∧ w'.cell? ⟨b, off + s * 6 + 4, none⟩ = some (.slice Aq' (gR L.rts s).pts.length cq') ∧ w'.cell? ⟨b, off + s * 6 + 5, none⟩ = some (.slice Af' (gR L.rts s).flk.length cf')) (first | (refine ⟨?_, ?_, ?_, ?_, ?_, ?_, ?_, ?_, ?_, ?_, ?_, ?_, ?_, ?_⟩ <;> simp [go_sem, *])) (first | fail)
  all_goals
    rename_i hHeld
    clear hHeld
    go_wp2_with (first | (go_at_call 68; (with_reducible refine (containsFunc_ints_path _ (inI (gR L.rts s).path) _ _ (gR L.rts r).path (HX.out.gr (by repeat (first | exact Gr.refl _ | assumption | refine Gr.plus ?_ _ | refine Gr.alloc ?_ _ | refine Gr.drew ?_ | refine Gr.drewN ?_ _))) (fun m n => sharesFn _ _ _ _ _ (by simp [go_sem]) (HX'.out.gr (by repeat (first | exact Gr.refl _ | assumption | refine Gr.plus ?_ _ | refine Gr.alloc ?_ _ | refine Gr.drew ?_ | refine Gr.drewN ?_ _))))).mono ?_); rintro e w' ⟨he, m, rfl⟩; replace he : e = .returned (.bool (sharesB L r s)) := he; subst he) | (go_at_call 72; (with_reducible refine (needs_any _ _ L r (HL.out.gr (by repeat (first | exact Gr.refl _ | assumption | refine Gr.plus ?_ _ | refine Gr.alloc ?_ _ | refine Gr.drew ?_ | refine Gr.drewN ?_ _))) hr hlr).mono ?_); rintro e w' ⟨⟨v, rfl, hv⟩, m, rfl⟩) | (go_at_call 71; (with_reducible refine (containsFunc_needs _ _ (fun n r => inN (needsOf L s) n !r) _ _ (needsOf L r) (by first | exact hv | exact hv.gr (by repeat (first | exact Gr.refl _ | assumption | refine Gr.plus ?_ _ | refine Gr.alloc ?_ _ | refine Gr.drew ?_ | refine Gr.drewN ?_ _))) (fun m n r => unlikeFn _ _ _ As cs Ap cp Ag cg (some ⟨b, off, none⟩) cr L s n r (by simp [go_sem]) (by simp [go_sem]) (by simp [go_sem]) (by simp [go_sem]) (by simp [go_sem]) (HL.out.gr (by repeat (first | exact Gr.refl _ | assumption | refine Gr.plus ?_ _ | refine Gr.alloc ?_ _ | refine Gr.drew ?_ | refine Gr.drewN ?_ _))) hs hls)).mono ?_); rintro e w' ⟨he, m, rfl⟩; replace he : e = .returned (.bool (unlikeB L r s)) := he; subst he))
    all_goals
      go_ret
      refine ⟨ret_bool ?_, (by repeat (first | exact Gr.refl _ | assumption | refine Gr.plus ?_ _ | refine Gr.alloc ?_ _ | refine Gr.drew ?_ | refine Gr.drewN ?_ _))⟩
      by_cases e : r = s
      · first | (simp [conflict, e]; done) | (exfalso; omega)
      · have e' : (r == s) = false := by simp; omega
        by_cases f : (gR L.rts r).frm = (gR L.rts s).frm
        · first | (simp [conflict, f]; done) | (exfalso; omega)
        · have f' : ((gR L.rts r).frm == (gR L.rts s).frm) = false := by simp [f]
          first | (exfalso; omega) | (simp [conflict, e', f', *]; done)
end Go.Proofs.YtnfceboppdcfdaaDoor
