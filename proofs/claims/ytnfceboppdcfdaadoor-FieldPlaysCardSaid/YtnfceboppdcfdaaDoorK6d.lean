/- The walk of drive: some word of wants, one for each point. -/
import Derived.Test.YtnfceboppdcfdaaDoorK6n
import Derived.Test.YtnfceboppdcfdaaDoorK6b
import Derived.Laws.Shifts
namespace Go.Proofs.YtnfceboppdcfdaaDoor
open Go.RowKit
set_option maxHeartbeats 4000000
set_option maxRecDepth 1000000
set_option linter.unusedVariables false

theorem drive_any (w : World) (x : Int) (n : Nat) (hn : n ≤ 100000) :
    Calls Tryd.prog 28 #[.int .i64 x, .int .i64 n] w fun e w' => (∃ v d, e = .returned v ∧ d.length = n ∧ SlF (fun b => w.heap.size ≤ b) w' v d.length 1 (intCell d)) ∧ Gr w w' := by
  obtain ⟨i0, hi, hz0, hz1, hz2⟩ := info_parts info_intK
  go_enter Tryd.func28, Tryd.ntmps28
  go_wp2_with fail
  go_loopw [5, 6] (fun v i wr => ∃ (k : Nat) (d : List Int) (Aw : Option Addr) (cw : Nat), k ≤ n ∧ i = .int .i64 k ∧ v = .slice Aw k cw ∧ d.length = k ∧ wr.ownsRow w.heap.size 3 1 (.slice Aw k cw) k (intVals d) ∧ Gr w wr) (fun _ i _ => n - (intOf i).toNat)
  case atStart => exact ⟨0, [], none, 0, by omega, rfl, rfl, rfl, World.ownsRow_nil _ _ _ _, (by repeat (first | exact Gr.refl _ | assumption | refine Gr.plus ?_ _ | refine Gr.alloc ?_ _ | refine Gr.drew ?_ | refine Gr.drewN ?_ _))⟩
  case round =>
    obtain ⟨k, d, Aw, cw, hk, rfl, rfl, hd, hown, hg⟩ := hrel
    have HOW := Lib.hid hown
    clear hown
    have HG := Lib.hid hg
    clear hg
    by_cases hlt : k < n
    · have hk0 : (0 : Int) ≤ (k : Int) := by omega
      have hk1 : (k : Int) < (n : Int) := by omega
      obtain ⟨y, hsh⟩ : ∃ y, Op.shift .shr .i64 x .u64 (2 * (k : Int)) = pure (.int .i64 y) := ⟨_, shift_shr_any .i64 .u64 x _ (by omega)⟩
      go_wp2_with (at_builtin; refine wpList_append_own _ rfl _ _ 29 rfl w.heap.size 3 i0 _ 1 8 Tryd.underlying29 hi hz0 hz1 hz2 rfl (by decide) _ _ _ rfl (own_gr HOW.out (by repeat (first | exact Gr.refl _ | assumption | refine Gr.plus ?_ _ | refine Gr.alloc ?_ _ | refine Gr.drew ?_ | refine Gr.drewN ?_ _))) ⟨_, 0, none⟩ 1 1 [.int .i64 ((bits .and .i64 y 3).tmod 3)] rfl rfl ?c1 ?c2 ?c3 ?c4 ?c5 ?_)
      case c1 => exact new_cells (by simp)
      case c2 => simp [Value.oneCell']
      case c3 => simp [maxLen]; omega
      case c4 => omega
      case c5 =>
        have := HG.out.size
        simp; omega
      intro v1 w1 hown1 hgrow _
      obtain ⟨A1, c1, rfl, -, -⟩ := SlAt.open (own_slat hown1)
      rw [intVals_snoc] at hown1
      have hg1 : Gr w w1 := Gr.grown (Gr.alloc HG.out _) hgrow (fun q hq => by
        have := own_base HOW.out q hq
        simp; omega)
      have HOW1 := Lib.hid hown1
      have HG1 := Lib.hid hg1
      clear hown1 hgrow hg1
      go_wp2_with fail
      exact ⟨⟨k + 1, _, A1, c1, by omega, by go_num, rfl, by simp [hd], HOW1.out, HG1.out⟩, by simp [intOf]; omega⟩
    · obtain rfl : k = n := by omega
      go_wp2_with fail
      go_ret
      refine ⟨⟨_, d, rfl, hd, ?_⟩, HG.out⟩
      have := own_slf (F := fun b => w.heap.size ≤ b) HOW.out fun b h _ => h
      rw [hd]
      exact this.congr fun j hj => intVals_getD d j (by omega)
end Go.Proofs.YtnfceboppdcfdaaDoor
