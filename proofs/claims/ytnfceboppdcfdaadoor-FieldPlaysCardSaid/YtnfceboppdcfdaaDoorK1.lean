/- The walks of package glyph: what is a name. -/
import Derived.Test.YtnfceboppdcfdaaDoorS1
import Derived.Test.YtnfceboppdcfdaaDoorShelf
namespace Go.Proofs.YtnfceboppdcfdaaDoor
open Go.RowKit
set_option maxHeartbeats 4000000
set_option maxRecDepth 1000000

/-- The library's two tables, as they were laid. -/
def Tabs (w : World) : Prop := Lib.Utf8Tabs 0 1 w
theorem Tabs.gr {w w' : World} (h : Tabs w) (g : Gr w w') : Tabs w' := by
  refine ⟨fun c hc => g.cell (h.1 c hc), fun i hi => ⟨g.cell (h.2 i hi).1, g.cell (h.2 i hi).2⟩⟩

theorem decode_any (s : ByteArray) (w : World) (hT : Tabs w) :
    Calls Tryd.prog 180 #[.string s] w fun e w' => e = .returned (.tuple #[.int .i32 (Lib.decodeGo s).1, .int .i64 (Lib.decodeGo s).2]) ∧ Gr w w' :=
  (Tryd.utf8_DecodeRuneInString s w hT).mono fun _ _ ⟨he, hb⟩ => ⟨he, Gr.of_below hb⟩

theorem isWrong_any (s : ByteArray) (pos : Nat) (w : World) (hT : Tabs w) (hp : pos < s.size) (hs : s.size ≤ 9223372036854775807) :
    Calls Tryd.prog 171 #[.string s, .int .i64 pos] w fun e w' => e = .returned (.bool (runeBad s pos)) ∧ Gr w w' := by
  have hd := decode_tail s pos hp
  obtain ⟨R, hR⟩ : ∃ R, Lib.decodeGo (s.extract pos s.size) = R := ⟨_, rfl⟩
  have hcall := fun w hT => decode_any (s.extract pos s.size) w hT
  rw [hR] at hcall hd
  have HC := Lib.hid hcall
  clear hcall
  have hz : runeBad s pos = (R.1 == 65533 && R.2 == 1) := by unfold runeBad; rw [hd]
  have HZ := Lib.hid hz
  clear hz hd hR
  obtain ⟨r1, r2⟩ := R
  cases h1 : ((r1 : Int) == 65533) <;> cases h2 : ((r2 : Int) == 1)
  all_goals
    have HF : runeBad s pos = (((r1 : Int) == 65533) && ((r2 : Int) == 1)) := HZ.out.trans (by rw [Bool.eq_iff_iff]; simp only [Bool.and_eq_true, beq_iff_eq]; omega)
    rw [h1, h2] at HF
    have HFF := Lib.hid HF
    clear HF
    clear HZ
    go_enter Tryd.func171, Tryd.ntmps171
    go_wp2_with (go_at_call 180; (with_reducible refine (HC.out _ (hT.gr (by repeat (first | exact Gr.refl _ | assumption | refine Gr.plus ?_ _ | refine Gr.alloc ?_ _ | refine Gr.drew ?_ | refine Gr.drewN ?_ _)))).mono ?_); rintro e w' ⟨rfl, m, rfl⟩)
    go_ret
    exact ⟨ret_bool HFF.out.symm, (by repeat (first | exact Gr.refl _ | assumption | refine Gr.plus ?_ _ | refine Gr.alloc ?_ _ | refine Gr.drew ?_ | refine Gr.drewN ?_ _))⟩

theorem letter_any (r : Nat) (w : World) (hr : r ≤ 2147483647) :
    Calls Tryd.prog 172 #[.int .i32 r] w fun e w' => e = .returned (.bool (letterB r)) ∧ Gr w w' := by
  go_enter Tryd.func172, Tryd.ntmps172
  go_wp2
  all_goals (go_ret; refine ⟨ret_bool ?_, (by repeat (first | exact Gr.refl _ | assumption | refine Gr.plus ?_ _ | refine Gr.alloc ?_ _ | refine Gr.drew ?_ | refine Gr.drewN ?_ _))⟩)
  all_goals (unfold letterB; rw [Bool.eq_iff_iff]; simp; omega)

theorem iter_later {w w' : World} {k : Nat} {s : ByteArray} {p : Nat} (h : w.heap[k]? = some (.stringIter s p)) (g : Gr w w') : w'.heap[k]? = some (.stringIter s p) := by
  obtain ⟨m, rfl⟩ := g
  rw [heap_plus w m k (Array.getElem?_eq_some_iff.1 h).1]; exact h
theorem iter_less {w w' : World} {k : Nat} {s : ByteArray} {p q : Nat} (h : w'.heap[k]? = some (.stringIter s p)) (h' : w.heap[k]? = some (.stringIter s q)) (hq : q < s.size) (hpq : q < p) : s.size - w'.iterPos k < s.size - w.iterPos k := by
  have e1 : w'.iterPos k = p := by simp [World.iterPos, h]
  have e2 : w.iterPos k = q := by simp [World.iterPos, h']
  rw [e1, e2]; omega

set_option linter.unusedVariables false in
theorem isName_any (s : ByteArray) (w : World) (hT : Tabs w) (hs : s.size ≤ 9223372036854775807) :
    Calls Tryd.prog 156 #[.string s] w fun e w' => e = .returned (.bool (isNameB s)) ∧ Gr w w' := by
  go_enter Tryd.func156, Tryd.ntmps156
  go_wp2
  go_loopw [3] (fun n wr => ∃ (pos k f : Nat), n = .int .i64 k ∧ k ≤ pos ∧ pos ≤ s.size ∧ nameFrom s f pos k = isNameB s ∧ s.size ≤ pos + f ∧ wr.heap[w.heap.size]? = some (.stringIter s pos) ∧ Gr w wr) (fun _ wr => s.size - wr.iterPos w.heap.size)
  case atStart => exact ⟨0, 0, s.size, rfl, by omega, by omega, rfl, by omega, World.iter_heap w s 0, ⟨⟨#[.stringIter s 0], w.drawn⟩, by simp [World.iter, alloc_is_plus]⟩⟩
  case round =>
    obtain ⟨pos, k, f, rfl, hk, hps, hnf, hf, hit, hg⟩ := hrel
    have HNF := Lib.hid hnf
    clear hnf
    have HIT := Lib.hid hit
    by_cases hp : pos < s.size
    · have hnx : ∀ ty, (Instr.next (.pointer (some ⟨w.heap.size, 0, none⟩)) true ty).run Tryd.prog wr = _ := fun ty => Lib.run_next_any_at wr w.heap.size s pos ty hit hp
      obtain ⟨f, rfl⟩ : ∃ g, f = g + 1 := ⟨f - 1, by omega⟩
      have hwd := width_pos s pos hp
      have hwl := width_le s pos hp
      have hdl := decode_le s pos
      have hg1 : Gr w (wr.iterAt w.heap.size s (pos + (Utf8.decode s pos).2)) := Gr.of_below (Lib.below_iterAt hg.below (Nat.le_refl _) s _)
      have hit1 := Lib.iterAt_heap wr w.heap.size s pos (pos + (Utf8.decode s pos).2) hit
      have hst : stepBad s pos = true → isNameB s = false := fun h => by rw [← HNF.out, nameFrom, if_pos hp, h]; rfl
      have hst2 : stepBad s pos = false → nameFrom s f (pos + (Utf8.decode s pos).2) (k + 1) = isNameB s := fun h => by rw [← HNF.out, nameFrom, if_pos hp, h]; rfl
      have HI1 := Lib.hid hit1
      have HS := Lib.hid hst
      have HS2 := Lib.hid hst2
      clear hit hit1 hst hst2
      go_wp2_with (first | (go_at_call 171; (with_reducible refine (isWrong_any s pos _ (hT.gr (by repeat (first | exact Gr.refl _ | assumption | refine Gr.plus ?_ _ | refine Gr.alloc ?_ _ | refine Gr.drew ?_ | refine Gr.drewN ?_ _))) hp hs).mono ?_); rintro e w' ⟨rfl, m, rfl⟩) | (go_at_call 172; (with_reducible refine (letter_any _ _ hdl).mono ?_); rintro e w' ⟨rfl, m, rfl⟩))
      all_goals first
        | (go_ret; exact ⟨ret_bool (HS.out (by unfold stepBad digitB; simp [*] <;> omega)).symm, (by repeat (first | exact Gr.refl _ | assumption | refine Gr.plus ?_ _ | refine Gr.alloc ?_ _ | refine Gr.drew ?_ | refine Gr.drewN ?_ _))⟩)
        | exact ⟨⟨pos + (Utf8.decode s pos).2, k + 1, f, by go_num, by omega, by omega, HS2.out (by unfold stepBad digitB; simp [*] <;> omega), by omega, iter_later HI1.out (by repeat (first | exact Gr.refl _ | assumption | refine Gr.plus ?_ _ | refine Gr.alloc ?_ _ | refine Gr.drew ?_ | refine Gr.drewN ?_ _)), (by repeat (first | exact Gr.refl _ | assumption | refine Gr.plus ?_ _ | refine Gr.alloc ?_ _ | refine Gr.drew ?_ | refine Gr.drewN ?_ _))⟩, iter_less (iter_later HI1.out (by repeat (first | exact Gr.refl _ | assumption | refine Gr.plus ?_ _ | refine Gr.alloc ?_ _ | refine Gr.drew ?_ | refine Gr.drewN ?_ _))) HIT.out hp (by omega)⟩
    · have hnx : ∀ ty, (Instr.next (.pointer (some ⟨w.heap.size, 0, none⟩)) true ty).run Tryd.prog wr = _ := fun ty => Lib.run_next_end_at wr w.heap.size s pos ty hit hp
      clear hit
      go_wp2
      all_goals
        go_ret
        refine ⟨ret_bool ?_, hg⟩
        rw [← HNF.out, nameFrom_end s f pos k hp, Bool.eq_iff_iff]
        simp
        omega
end Go.Proofs.YtnfceboppdcfdaaDoor
