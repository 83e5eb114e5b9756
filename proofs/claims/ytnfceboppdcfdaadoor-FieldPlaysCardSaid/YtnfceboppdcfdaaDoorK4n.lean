/- The walks of package table: names. -/
import Derived.Test.YtnfceboppdcfdaaDoorS4
import Derived.Test.YtnfceboppdcfdaaDoorK1
namespace Go.Proofs.YtnfceboppdcfdaaDoor
open Go.RowKit
set_option maxHeartbeats 4000000
set_option maxRecDepth 1000000
theorem index_strs (w : World) (v : Value) (l : List ByteArray) (n : ByteArray) (h : SlStrs w v l) :
    Calls Tryd.prog 173 #[v, .string n] w fun e w' => (∃ z : Int, e = .returned (.int .i64 z) ∧ decide (0 ≤ z) = hasS l n) ∧ Gr w w' := by
  obtain ⟨A, cap, rfl, hn, hcap⟩ := SlAt.open h
  have H := Lib.hid h
  clear h
  go_enter Tryd.func173, Tryd.ntmps173
  go_wp2
  go_loop [8] (fun i => ∃ k : Nat, k ≤ l.length ∧ i = .int .i64 k ∧ anyB (fun j => eqS n (gs l j)) k = false) (fun i => l.length - (intOf i).toNat)
  case atStart => exact ⟨0, by omega, rfl, rfl⟩
  case round =>
    obtain ⟨k, hk, rfl, hno⟩ := hrel
    have Hno := Lib.hid hno
    clear hno
    by_cases hlt : k < l.length
    · obtain ⟨b, off, rfl, hc⟩ := SlStrs.el H.out hlt
      cases hq : (n.toList == (gs l k).toList)
      · go_wp2
        go_round
        case rel => exact ⟨k + 1, by omega, by go_num, anyB_step Hno.out hq⟩
        case measure => simp [intOf]; omega
      · go_wp2
        go_ret
        exact ⟨⟨_, rfl, by rw [hasS, anyB_true hlt hq]; simp⟩, (by repeat (first | exact Gr.refl _ | assumption | refine Gr.plus ?_ _ | refine Gr.alloc ?_ _ | refine Gr.drew ?_ | refine Gr.drewN ?_ _))⟩
    · go_wp2
      go_ret
      obtain rfl : k = l.length := by omega
      exact ⟨⟨_, rfl, by rw [hasS, Hno.out]; rfl⟩, (by repeat (first | exact Gr.refl _ | assumption | refine Gr.plus ?_ _ | refine Gr.alloc ?_ _ | refine Gr.drew ?_ | refine Gr.drewN ?_ _))⟩

theorem contains_strs (w : World) (v : Value) (l : List ByteArray) (n : ByteArray) (h : SlStrs w v l) :
    Calls Tryd.prog 157 #[v, .string n] w fun e w' => e = .returned (.bool (hasS l n)) ∧ Gr w w' := by
  go_enter Tryd.func157, Tryd.ntmps157
  go_wp2_with (go_at_call 173; refine (index_strs _ _ _ _ h).mono ?_; rintro e w' ⟨⟨z, rfl, hz⟩, m, rfl⟩)
  go_ret
  exact ⟨rfl, (by repeat (first | exact Gr.refl _ | assumption | refine Gr.plus ?_ _ | refine Gr.alloc ?_ _ | refine Gr.drew ?_ | refine Gr.drewN ?_ _))⟩

theorem areNames_any (w : World) (v : Value) (l : List ByteArray) (hT : Tabs w) (hs : ∀ i, i < l.length → (gs l i).size ≤ 3000) (h : SlStrs w v l) :
    Calls Tryd.prog 125 #[v] w fun e w' => e = .returned (.bool (namesOk l)) ∧ Gr w w' := by
  obtain ⟨A, cap, rfl, hn, hcap⟩ := SlAt.open h
  have H := Lib.hid h
  clear h
  have HS := Lib.hid hs
  clear hs
  go_enter Tryd.func125, Tryd.ntmps125
  go_wp2
  go_loopw [7] (fun i wr => ∃ k : Nat, k ≤ l.length ∧ i = .int .i64 k ∧ anyB (nameBad l) k = false ∧ Gr w wr) (fun i _ => l.length - (intOf i).toNat)
  case atStart => exact ⟨0, by omega, rfl, rfl, Gr.refl _⟩
  case round =>
    obtain ⟨k, hk, rfl, hno, m, rfl⟩ := hrel
    have Hno := Lib.hid hno
    clear hno
    by_cases hlt : k < l.length
    · obtain ⟨b, off, rfl, hc⟩ := SlStrs.el H.out hlt
      have hsz := HS.out k hlt
      have fin0 : nameBad l k = true → namesOk l = false := fun h => by unfold namesOk; rw [anyB_true hlt h]; rfl
      have FIN := Lib.hid fin0
      clear fin0
      cases h1 : isNameB (gs l k) <;> cases h2 : ((gs l k).toList == [115, 101, 116]) <;> cases h3 : ((gs l k).toList == [102, 108, 97, 110, 107]) <;> cases h4 : hasS (l.take k) (gs l k)
      all_goals
        go_wp2_with (first | (go_at_call 156; (with_reducible refine (isName_any _ _ (hT.gr (by repeat (first | exact Gr.refl _ | assumption | refine Gr.plus ?_ _ | refine Gr.alloc ?_ _ | refine Gr.drew ?_ | refine Gr.drewN ?_ _))) (by omega)).mono ?_); rintro e w' ⟨rfl, m, rfl⟩) | (go_at_call 157; (with_reducible refine (contains_strs _ _ (l.take k) _ ((SlStrs.take H.out hlt).gr (by repeat (first | exact Gr.refl _ | assumption | refine Gr.plus ?_ _ | refine Gr.alloc ?_ _ | refine Gr.drew ?_ | refine Gr.drewN ?_ _)))).mono ?_); rintro e w' ⟨rfl, m, rfl⟩))
        first
          | (go_ret; exact ⟨ret_bool (FIN.out (by simp [nameBad, nameOk, h1, h2, h3, h4])).symm, (by repeat (first | exact Gr.refl _ | assumption | refine Gr.plus ?_ _ | refine Gr.alloc ?_ _ | refine Gr.drew ?_ | refine Gr.drewN ?_ _))⟩)
          | exact ⟨⟨k + 1, by omega, by go_num, anyB_step Hno.out (by unfold nameBad nameOk; rw [h1, h2, h3, h4]; rfl), (by repeat (first | exact Gr.refl _ | assumption | refine Gr.plus ?_ _ | refine Gr.alloc ?_ _ | refine Gr.drew ?_ | refine Gr.drewN ?_ _))⟩, by simp [intOf]; omega⟩
    · go_wp2
      go_ret
      obtain rfl : k = l.length := by omega
      exact ⟨ret_bool (by simp [namesOk, Hno.out]), (by repeat (first | exact Gr.refl _ | assumption | refine Gr.plus ?_ _ | refine Gr.alloc ?_ _ | refine Gr.drew ?_ | refine Gr.drewN ?_ _))⟩
end Go.Proofs.YtnfceboppdcfdaaDoor
