/- The walks of law 6's own: a layout of a section; what is known of a field. -/
import Derived.Test.YtnfceboppdcfdaaDoorK6b
import Derived.Test.YtnfceboppdcfdaaDoorL4
import Derived.Test.YtnfceboppdcfdaaDoorC8
import Derived.Laws.IdiomStrings
namespace Go.Proofs.YtnfceboppdcfdaaDoor
open Go.RowKit
set_option maxHeartbeats 4000000
set_option maxRecDepth 1000000
set_option linter.unusedVariables false

def oneL : Layout := ⟨[⟨#[97]⟩], [⟨⟨#[112]⟩, 0⟩], [⟨#[115]⟩], []⟩
theorem oneL_ok : layOk oneL = true := by decide +kernel
theorem info_pt : (Tryd.prog.info? 113).map (fun i => (i.zero, i.size, i.bytes)) = some (some (.agg #[.string ByteArray.empty, .int .i64 0]), 2, 24) := by kernel_rfl
theorem cut_app (n o e t : Nat) (h : n < 2 ^ 63) : n ≤ (Question.appendCap n o e).cut t ∧ (Question.appendCap n o e).cut t ≤ 9223372036854775807 := by
  have e1 : (Question.appendCap n o e).cut t = n + t % (2 ^ 63 - n) := rfl
  have := Nat.mod_lt t (show 2 ^ 63 - n > 0 by omega)
  rw [e1]; omega
theorem one6_any (w : World) : Calls Tryd.prog 78 #[.int .i64 1] w fun e w' => (∃ v, e = .returned v ∧ LayAt w' v oneL) ∧ Gr w w' := by
  obtain ⟨i0, hi, hz0, hz1, hz2⟩ := info_parts info_pt
  have hcv : ∀ (w : World) (b : Nat), w.cell? ⟨b, 0, none⟩ = some (.int .u8 112) → (convert 97 9 (.slice (some ⟨b, 0, none⟩) 1 1)).run Tryd.prog w = .ok (.string ⟨#[112]⟩) w := fun w b hb =>
    run_convert_bytes_back w 97 9 _ ⟨b, 0, none⟩ 1 [112] Tryd.underlying97 Tryd.underlying5 Tryd.underlying9 (fun j hj => by
      obtain rfl : j = 0 := by simp at hj; omega
      exact hb)
  go_enter Tryd.func78, Tryd.ntmps78
  go_wp2_with fail
  refine wp_loop_rounds 2 ?_
  rw [rounds_succ]
  go_wp2_with fail
  rw [rounds_succ]
  go_wp2_with fail
  (try simp only [Exit.inBlock, Exit.then]); refine bodyPost_ret (results_cell_row rfl _ _ w.heap.size 26 _ (0, 0) _ rfl (by with_reducible repeat (first | assumption | (refine blk_new ?_; (first | rfl | (simp; done))) | refine blk_plus ?_ | refine blk_drew ?_ | refine blk_old ?_)) Tryd.underlying26 rfl (by kernel_rfl)) rfl ?_
  refine ⟨⟨_, rfl, ⟨_, _, _, _, rfl, ?_, ?_, ?_, ?_⟩⟩, (by repeat (first | exact Gr.refl _ | assumption | refine Gr.plus ?_ _ | refine Gr.alloc ?_ _ | refine Gr.drew ?_ | refine Gr.drewN ?_ _))⟩
  · exact (strs_lit (l := [⟨#[97]⟩]) (by with_reducible repeat (first | assumption | (refine blk_new ?_; (first | rfl | (simp; done))) | refine blk_plus ?_ | refine blk_drew ?_ | refine blk_old ?_)) (by rfl) rfl (by decide))
  · refine (slat_blk (n := 1) (sz := 2) (by with_reducible repeat (first | assumption | (refine blk_new ?_; (first | rfl | (simp; done))) | refine blk_plus ?_ | refine blk_drew ?_ | refine blk_old ?_)) ?_ ?_ ?_).congr fun j hj => ?_
    · simp [size_zeroCells]
    · exact (cut_app 1 0 _ _ (by decide)).1
    · exact (cut_app 1 0 _ _ (by decide)).2
    · have h2 : j = 0 ∨ j = 1 := by omega
      rcases h2 with rfl | rfl <;> (rw [Array.getD_eq_getD_getElem?, Array.getElem?_append_left (by simp)]; rfl)
  · exact (strs_lit (l := [⟨#[115]⟩]) (by with_reducible repeat (first | assumption | (refine blk_new ?_; (first | rfl | (simp; done))) | refine blk_plus ?_ | refine blk_drew ?_ | refine blk_old ?_)) (by rfl) rfl (by decide))
  · exact ⟨fun _ => undef, slat_nil, fun i hi => by cases hi⟩

/-- A new field, in a zone of its own. -/
theorem fieldNew_any (w : World) (vl : Value) (L : Layout) (hT : Tabs w) (hsm : LSmall L) (hl : LayAt w vl L) (hok : layOk L = true) (hls : L.secs.length ≤ 100000) (hlp : L.pts.length ≤ 100000) :
    Calls Tryd.prog 20 #[vl] w fun e w' => ∃ (bf : Nat) (Z : Nat → Prop), e = .returned (.tuple #[.pointer (some ⟨bf, 0, none⟩), .int .i64 0]) ∧ FieldAt Z w' (.pointer (some ⟨bf, 0, none⟩)) (List.replicate L.secs.length false) (newF L) ∧ (∀ b, Z b → w.heap.size ≤ b) ∧ (∀ b, Z b → b < w'.heap.size) ∧ Gr w w' :=
  (fieldNew_yes w vl L hT hsm hl hok hls hlp).mono fun e w' ⟨⟨p, he, hf⟩, hg⟩ => by
    obtain ⟨bf, vo, vp, T, Zo, Zp, rfl, h⟩ := hf
    exact ⟨bf, _, he, ⟨bf, vo, vp, T, Zo, Zp, rfl, h⟩, fun b h => h.1, fun b h => h.2, hg⟩
theorem Gr.chg {Z : Nat → Prop} {a b c : World} (h : Gr a b) (k : ChgZ Z b c) (hz : ∀ i, Z i → a.heap.size ≤ i) : Gr a c :=
  Gr.of_below ⟨k.os.trans h.below.os, k.tape.trans h.below.tape, k.output.trans h.below.output, Nat.le_trans h.below.size k.size, fun i hi => (k.block i (Nat.lt_of_lt_of_le hi h.below.size) fun e => by have := hz i e; omega).trans (h.below.block i hi)⟩
/-- What a literal row lays, for a reader elsewhere. -/
theorem slf_lit1 {F : Nat → Prop} {w : World} {x : Int} {t : TypeId} {n : Nat} (hn : n = w.heap.size) (hf : F n) : SlF F (w.alloc (.cells #[.int .i64 x] t)) (.slice (some ⟨n, 0, none⟩) 1 1) [x].length 1 (intCell [x]) := by
  subst hn
  exact slf_of (Nat.le_refl _) (by decide) hf fun j hj => by
    obtain rfl : j = 0 := by simp at hj; omega
    simp [go_sem]; rfl
def itF : Nat → List FP | 0 => [⟨1, 0, 0⟩] | k + 1 => stepF (itF k) [2]
theorem itF_3 : itF 3 = [⟨2, 0, 0⟩] := by rfl
theorem itF_ok : ∀ k, FOk (itF k)
  | 0 => fok_new oneL
  | k + 1 => fok_step (itF_ok k)
theorem itF_len : ∀ k, (itF k).length = 1
  | 0 => rfl
  | k + 1 => by show (stepF (itF k) [2]).length = 1; rw [stepF_len]; exact itF_len k
theorem oneL_small : LSmall oneL := by
  refine ⟨fun i h => ?_, fun i h => ?_, fun i h => ?_, fun i h => (by cases h)⟩
  all_goals
    have h' : i < 1 := h
    obtain rfl : i = 0 := by omega
    exact (by decide : (1 : Nat) ≤ 3000)
theorem known6_any (w : World) (hT : Tabs w) : Calls Tryd.prog 23 #[] w fun e w' => e = .returned (.bool true) ∧ Gr w w' := by
  go_enter Tryd.func23, Tryd.ntmps23
  go_wp2_with fail
  refine Calls.mono (one6_any _) ?_
  rintro e w' ⟨⟨vl, rfl, hv⟩, m0, rfl⟩
  have HV := Lib.hid hv
  obtain ⟨As, cs, Ap, cp, Ag, cg, Ar, cr, rfl, -, -, -, -, -⟩ := hv.opened
  clear hv
  go_wp2_with fail
  refine Calls.mono (fieldNew_any _ _ oneL (hT.gr (by repeat (first | exact Gr.refl _ | assumption | refine Gr.plus ?_ _ | refine Gr.alloc ?_ _ | refine Gr.drew ?_ | refine Gr.drewN ?_ _))) oneL_small (HV.out.gr (by repeat (first | exact Gr.refl _ | assumption | refine Gr.plus ?_ _ | refine Gr.alloc ?_ _ | refine Gr.drew ?_ | refine Gr.drewN ?_ _))) oneL_ok (by decide) (by decide)) ?_
  rintro e w' ⟨bf, Z, rfl, hf, hz1, hz2, m1, rfl⟩
  have HF := Lib.hid hf
  have HZ1 := Lib.hid hz1
  have HZ2 := Lib.hid hz2
  clear hf hz1 hz2
  go_wp2_with fail
  go_loopw [3] (fun i wr => ∃ k : Nat, k ≤ 3 ∧ i = .int .i64 k ∧ FieldAt Z wr (.pointer (some ⟨bf, 0, none⟩)) [false] (itF k) ∧ Gr (w.plus m0) wr ∧ ((w.plus m0).plus m1).heap.size ≤ wr.heap.size) (fun i _ => 3 - (intOf i).toNat)
  case atStart => exact ⟨0, by omega, rfl, HF.out, (by repeat (first | exact Gr.refl _ | assumption | refine Gr.plus ?_ _ | refine Gr.alloc ?_ _ | refine Gr.drew ?_ | refine Gr.drewN ?_ _)), Nat.le_refl _⟩
  case round =>
    obtain ⟨k, hk, rfl, hf, hg, hs⟩ := hrel
    clear HF
    have HF := Lib.hid hf
    clear hf
    have HS := Lib.hid hs
    clear hs
    obtain ⟨m2, rfl⟩ := hg
    by_cases hlt : k < 3
    · go_wp2_with (go_at_call 29; (with_reducible refine Calls.mono (step_any Z _ _ [false] (itF k) _ [2] (HF.out.keep (.of_gr (by repeat (first | exact Gr.refl _ | assumption | refine Gr.plus ?_ _ | refine Gr.alloc ?_ _ | refine Gr.drew ?_ | refine Gr.drewN ?_ _)))) (itF_ok k) (slf_lit1 (by simp) (fun hz => by have := HZ2.out _ hz; have := HS.out; simp at *; omega))) ?_); rintro e w' ⟨rfl, hf2, hch⟩; have HF2 := Lib.hid hf2; have HCH := Lib.hid hch; clear hf2 hch)
      exact ⟨⟨k + 1, by omega, by go_num, HF2.out, Gr.chg (by repeat (first | exact Gr.refl _ | assumption | refine Gr.plus ?_ _ | refine Gr.alloc ?_ _ | refine Gr.drew ?_ | refine Gr.drewN ?_ _)) HCH.out HZ1.out, by have h1 := HCH.out.size; have h2 := HS.out; simp at h1 h2 ⊢; omega⟩, by simp [intOf]; omega⟩
    · obtain rfl : k = 3 := by omega
      have h3 := HF.out
      rw [itF_3] at h3
      have HF3 := Lib.hid h3
      clear h3
      go_wp2_with (go_at_call 22; (with_reducible refine Calls.mono (fieldIn_any Z _ _ [false] [⟨2, 0, 0⟩] HF3.out (by decide) (by decide)) ?_); rintro e w' ⟨⟨v, rfl, hin⟩, m3, rfl⟩; obtain ⟨vo, vl2, rfl, ho, hl⟩ := hin; obtain ⟨Ao, co, rfl, -, -⟩ := SlAt.open ho.at; obtain ⟨Al, cl, rfl, -, -⟩ := SlAt.open hl.at; obtain ⟨b1, o1, rfl, d1⟩ := SlBools.el (l := [false]) ho.at (k := 0) (by decide); obtain ⟨b2, o2, rfl, d2⟩ := SlInts.el (l := [2]) hl.at (k := 0) (by decide); clear ho hl; simp only [Nat.add_zero] at d1 d2; change _ = some (Value.bool false) at d1; change _ = some (Value.int .i64 2) at d2)
      go_ret
      exact ⟨rfl, (by repeat (first | exact Gr.refl _ | assumption | refine Gr.plus ?_ _ | refine Gr.alloc ?_ _ | refine Gr.drew ?_ | refine Gr.drewN ?_ _))⟩
end Go.Proofs.YtnfceboppdcfdaaDoor
