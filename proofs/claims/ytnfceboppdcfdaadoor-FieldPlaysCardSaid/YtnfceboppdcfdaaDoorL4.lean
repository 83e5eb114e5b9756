/- The walks of law 4. -/
import Derived.Test.YtnfceboppdcfdaaDoorK4z
import Derived.Test.YtnfceboppdcfdaaDoorC2
import Derived.Test.YtnfceboppdcfdaaDoorK4i
import Derived.Test.YtnfceboppdcfdaaDoorK4s
namespace Go.Proofs.YtnfceboppdcfdaaDoor
open Go.RowKit
set_option maxHeartbeats 4000000
set_option maxRecDepth 1000000

def twoL (a b : List Int) : Layout := ⟨[⟨#[97]⟩, ⟨#[98]⟩, ⟨#[99]⟩, ⟨#[100]⟩], [], [⟨#[115]⟩, ⟨#[116]⟩, ⟨#[117]⟩], [⟨⟨#[114]⟩, 0, 2, a, [], []⟩, ⟨⟨#[113]⟩, 1, 2, b, [], []⟩]⟩

/-- Literal rows. -/
theorem strs_lit {w : World} {b : Nat} {l : List ByteArray} {t : TypeId} {n : Nat} {cs : Array Value} (h : w.heap[b]? = some (.cells cs t (0, 0))) (hcs : cs = (strVals l).toArray) (hn : n = l.length) (hl : n ≤ 1000) : SlStrs w (.slice (some ⟨b, 0, none⟩) n n) l := by
  subst hn
  subst hcs
  refine (slat_blk (n := l.length) (sz := 1) h (by simp [strVals]) (Nat.le_refl _) (by omega)).congr fun j hj => ?_
  rw [Nat.mul_one] at hj
  simp [strVals, gs, List.getD_eq_getElem?_getD, hj]
theorem ints_lit {w : World} {b : Nat} {l : List Int} {t : TypeId} {n : Nat} {cs : Array Value} (h : w.heap[b]? = some (.cells cs t (0, 0))) (hcs : cs = (intVals l).toArray) (hn : n = l.length) (hl : n ≤ 1000) : SlInts w (.slice (some ⟨b, 0, none⟩) n n) l := by
  subst hn
  subst hcs
  refine (slat_blk (n := l.length) (sz := 1) h (by simp [intVals]) (Nat.le_refl _) (by omega)).congr fun j hj => ?_
  rw [Nat.mul_one] at hj
  simp [intVals, gi, List.getD_eq_getElem?_getD, hj]

theorem two_any (w : World) (va vb : Value) (a b : List Int) (ha : SlInts w va a) (hb : SlInts w vb b) :
    Calls Tryd.prog 75 #[va, vb] w fun e w' => (∃ v, e = .returned v ∧ LayAt w' v (twoL a b)) ∧ Gr w w' := by
  obtain ⟨Aa, ca, rfl, hna, hca⟩ := SlAt.open ha
  obtain ⟨Ab, cb, rfl, hnb, hcb⟩ := SlAt.open hb
  have HA := Lib.hid ha
  clear ha
  have HB := Lib.hid hb
  clear hb
  go_enter Tryd.func75, Tryd.ntmps75
  go_wp2_with fail
  (try simp only [Exit.inBlock, Exit.then]); refine bodyPost_ret (results_cell_row rfl _ _ w.heap.size 26 #[.slice (some ⟨w.heap.size + 1, 0, none⟩) 4 4, .slice none 0 0, .slice (some ⟨w.heap.size + 1 + 1, 0, none⟩) 3 3, .slice (some ⟨w.heap.size + 1 + 1 + 1, 0, none⟩) 2 2] (0, 0) _ rfl (by with_reducible repeat (first | assumption | (refine blk_new ?_; (first | rfl | (simp; done))) | refine blk_plus ?_ | refine blk_drew ?_ | refine blk_old ?_)) Tryd.underlying26 rfl (by kernel_rfl)) rfl ?_
  refine ⟨⟨_, rfl, ⟨_, _, _, _, rfl, (strs_lit (l := [⟨#[97]⟩, ⟨#[98]⟩, ⟨#[99]⟩, ⟨#[100]⟩]) (by with_reducible repeat (first | assumption | (refine blk_new ?_; (first | rfl | (simp; done))) | refine blk_plus ?_ | refine blk_drew ?_ | refine blk_old ?_)) (by rfl) rfl (by decide)), slat_nil, (strs_lit (l := [⟨#[115]⟩, ⟨#[116]⟩, ⟨#[117]⟩]) (by with_reducible repeat (first | assumption | (refine blk_new ?_; (first | rfl | (simp; done))) | refine blk_plus ?_ | refine blk_drew ?_ | refine blk_old ?_)) (by rfl) rfl (by decide)), ⟨_, slat_blk (n := 2) (sz := 6) (by with_reducible repeat (first | assumption | (refine blk_new ?_; (first | rfl | (simp; done))) | refine blk_plus ?_ | refine blk_drew ?_ | refine blk_old ?_)) (by exact Nat.le_refl 12) (Nat.le_refl _) (by decide), fun i hi => ?_⟩⟩⟩, (by repeat (first | exact Gr.refl _ | assumption | refine Gr.plus ?_ _ | refine Gr.alloc ?_ _ | refine Gr.drew ?_ | refine Gr.drewN ?_ _))⟩
  have hi' : i < 2 := hi
  obtain rfl | rfl : i = 0 ∨ i = 1 := by omega
  · exact ⟨rfl, rfl, rfl, HA.out.gr (by repeat (first | exact Gr.refl _ | assumption | refine Gr.plus ?_ _ | refine Gr.alloc ?_ _ | refine Gr.drew ?_ | refine Gr.drewN ?_ _)), slat_nil, slat_nil⟩
  · exact ⟨rfl, rfl, rfl, HB.out.gr (by repeat (first | exact Gr.refl _ | assumption | refine Gr.plus ?_ _ | refine Gr.alloc ?_ _ | refine Gr.drew ?_ | refine Gr.drewN ?_ _)), slat_nil, slat_nil⟩

theorem two_small (a b : List Int) : LSmall (twoL a b) := by
  refine ⟨fun i h => ?_, fun i h => (by cases h), fun i h => ?_, fun i h => ?_⟩
  · have h' : i < 4 := h
    obtain rfl | rfl | rfl | rfl : i = 0 ∨ i = 1 ∨ i = 2 ∨ i = 3 := by omega
    all_goals exact (by decide : (1 : Nat) ≤ 3000)
  · have h' : i < 3 := h
    obtain rfl | rfl | rfl : i = 0 ∨ i = 1 ∨ i = 2 := by omega
    all_goals exact (by decide : (1 : Nat) ≤ 3000)
  · have h' : i < 2 := h
    obtain rfl | rfl : i = 0 ∨ i = 1 := by omega
    all_goals exact (by decide : (1 : Nat) ≤ 3000)
theorem two_ok1 : layOk (twoL [0, 1] [1, 2]) = true := by decide +kernel
theorem two_ok2 : layOk (twoL [0] [1]) = true := by decide +kernel
theorem two_c1 : conflict (twoL [0, 1] [1, 2]) 0 1 = true := by decide +kernel
theorem two_c2 : conflict (twoL [0] [1]) 0 1 = false := by decide +kernel

theorem known_any (w : World) (hT : Tabs w) : Calls Tryd.prog 18 #[] w fun e w' => e = .returned (.bool true) ∧ Gr w w' := by
  go_enter Tryd.func18, Tryd.ntmps18
  go_wp2_with (first | (go_at_call 75; (with_reducible refine Calls.mono (two_any _ _ _ [0, 1] [1, 2] ?_ ?_) ?_); (exact (ints_lit (by with_reducible repeat (first | assumption | (refine blk_new ?_; (first | rfl | (simp; done))) | refine blk_plus ?_ | refine blk_drew ?_ | refine blk_old ?_)) (by rfl) rfl (by decide))); (exact (ints_lit (by with_reducible repeat (first | assumption | (refine blk_new ?_; (first | rfl | (simp; done))) | refine blk_plus ?_ | refine blk_drew ?_ | refine blk_old ?_)) (by rfl) rfl (by decide))); rintro e w' ⟨⟨v1, rfl, hv1⟩, m1, rfl⟩; obtain ⟨As1, cs1, Ap1, cp1, Ag1, cg1, Ar1, cr1, rfl, -, -, -, -, -⟩ := hv1.opened; have HV1 := Lib.hid hv1; clear hv1) | (go_at_call 75; (with_reducible refine Calls.mono (two_any _ _ _ [0] [1] ?_ ?_) ?_); (exact (ints_lit (by with_reducible repeat (first | assumption | (refine blk_new ?_; (first | rfl | (simp; done))) | refine blk_plus ?_ | refine blk_drew ?_ | refine blk_old ?_)) (by rfl) rfl (by decide))); (exact (ints_lit (by with_reducible repeat (first | assumption | (refine blk_new ?_; (first | rfl | (simp; done))) | refine blk_plus ?_ | refine blk_drew ?_ | refine blk_old ?_)) (by rfl) rfl (by decide))); rintro e w' ⟨⟨v2, rfl, hv2⟩, m2, rfl⟩; obtain ⟨As2, cs2, Ap2, cp2, Ag2, cg2, Ar2, cr2, rfl, -, -, -, -, -⟩ := hv2.opened; have HV2 := Lib.hid hv2; clear hv2) | (go_at_call 76; (with_reducible refine Calls.mono (is_any _ _ (twoL [0, 1] [1, 2]) (hT.gr (by repeat (first | exact Gr.refl _ | assumption | refine Gr.plus ?_ _ | refine Gr.alloc ?_ _ | refine Gr.drew ?_ | refine Gr.drewN ?_ _))) (two_small _ _) (HV1.out.gr (by repeat (first | exact Gr.refl _ | assumption | refine Gr.plus ?_ _ | refine Gr.alloc ?_ _ | refine Gr.drew ?_ | refine Gr.drewN ?_ _)))) ?_); rintro e w' ⟨he, m, rfl⟩; rw [two_ok1] at he; subst he) | (go_at_call 76; (with_reducible refine Calls.mono (is_any _ _ (twoL [0] [1]) (hT.gr (by repeat (first | exact Gr.refl _ | assumption | refine Gr.plus ?_ _ | refine Gr.alloc ?_ _ | refine Gr.drew ?_ | refine Gr.drewN ?_ _))) (two_small _ _) (HV2.out.gr (by repeat (first | exact Gr.refl _ | assumption | refine Gr.plus ?_ _ | refine Gr.alloc ?_ _ | refine Gr.drew ?_ | refine Gr.drewN ?_ _)))) ?_); rintro e w' ⟨he, m, rfl⟩; rw [two_ok2] at he; subst he) | (go_at_call 17; (with_reducible refine Calls.mono (conflict_any _ _ (twoL [0, 1] [1, 2]) 0 1 (HV1.out.gr (by repeat (first | exact Gr.refl _ | assumption | refine Gr.plus ?_ _ | refine Gr.alloc ?_ _ | refine Gr.drew ?_ | refine Gr.drewN ?_ _))) (by decide) (by decide) (by decide) (by decide)) ?_); rintro e w' ⟨he, m, rfl⟩; rw [two_c1] at he; subst he) | (go_at_call 17; (with_reducible refine Calls.mono (conflict_any _ _ (twoL [0] [1]) 0 1 (HV2.out.gr (by repeat (first | exact Gr.refl _ | assumption | refine Gr.plus ?_ _ | refine Gr.alloc ?_ _ | refine Gr.drew ?_ | refine Gr.drewN ?_ _))) (by decide) (by decide) (by decide) (by decide)) ?_); rintro e w' ⟨he, m, rfl⟩; rw [two_c2] at he; subst he))
  go_ret
  exact ⟨rfl, (by repeat (first | exact Gr.refl _ | assumption | refine Gr.plus ?_ _ | refine Gr.alloc ?_ _ | refine Gr.drew ?_ | refine Gr.drewN ?_ _))⟩
end Go.Proofs.YtnfceboppdcfdaaDoor
