/- FieldPlays: for every layout and row of acts the field and its reference show one and the same: for every input that can be read, the two listed tables holding what the program's text lays. -/
import Derived.Test.YtnfceboppdcfdaaDoorL6p
import Derived.Test.YtnfceboppdcfdaaDoorR6
import Derived.Test.YtnfceboppdcfdaaDoorR4
import Derived.Test.YtnfceboppdcfdaaDoorR0
import Derived.Test.YtnfceboppdcfdaaDoorCards
namespace Go.Proofs.YtnfceboppdcfdaaDoor
open Go.ChangeShapes Go.WideShapes Go.ChangeAt Go.RowKit Go.Lib
set_option maxRecDepth 100000

theorem fieldPlays_lifted (os : Os) (started : os.Started) (H : Type) (enc : TypeId × Value → H) :
    ReturnsInHanded {} Tryd.checked os 5 .any (fun w args => (Rows.fieldPlaysSpec.pre enc Tryd.prog Tryd.f5 [] false w args ∧ laidMetH Tryd.prog laidL w) ∧ sizedMet enc Tryd.prog Tryd.f5 (OpenSpec.ofChange Rows.fieldPlaysSpec) false w args)
      (Rows.fieldPlaysSpec.post enc Tryd.prog Tryd.f5 false true false false) := by
  refine returnsInHanded_of_change_and (C := Tryd.checked) (X := fun w _ => laidMetH Tryd.prog laidL w) (fun _ _ _ hh h => h.of_heap hh) own started (by kernel_rfl) Tryd.func5
    (ChangeSpec.witness_shaped (enc := enc) (C := Tryd.checked) (os := os) (X := fun w _ => laidMetH Tryd.prog laidL w) false (laidWorld os) #[.agg #[.slice none 0 0, .slice none 0 0, .slice none 0 0, .slice none 0 0], .slice none 0 0] 8 rfl (World.shaped_of_RefB (by kernel_rfl) (by kernel_rfl)) (by kernel_rfl) (by kernel_rfl) (by kernel_rfl) (laid_met os _)) ?_
  intro W base args ds gs before hval0 hW _ hsz0 hL _
  have hval : ∀ (j : Nat) t v, Tryd.f5.params[j]? = some t → args[j]? = some v → Value.okWide Tryd.prog W .any base t v := hval0
  have hsz : (DataW.weightsEach Tryd.prog (Tryd.f5.params.toList ++ []) (ds ++ gs)).all (· ≤ reachBytes) = true := hsz0
  have hW' := hW
  obtain ⟨p, q, hA0, hV, rfl, hfz, hnd⟩ := hW
  have hA : DataW.TrodAll enc Tryd.prog W 0 (fun _ => true) true Tryd.f5.params.toList args.toList ds p := hA0
  have hAA := hA
  rw [Tryd.params5] at hA hval hsz
  obtain ⟨v0, v1, d0, d1, p0, p1, rfl, rfl, rfl, h0, h1⟩ := trodAll_two hA
  obtain ⟨f0, t0⟩ := h0
  obtain ⟨f1, t1⟩ := h1
  obtain ⟨L, hl0, hl1, hl2⟩ := op_layout f0 _ _ t0 (weightsEach_at hsz 0 26 d0 rfl rfl)
  obtain ⟨cs0, rfl, -⟩ := okWide_struct Tryd.underlying26 (hval 0 26 v0 rfl rfl)
  obtain ⟨a1, n1, c1, rfl⟩ := okWide_slice Tryd.underlying46 (hval 1 46 v1 rfl rfl)
  obtain ⟨l1, v1, e1, k1⟩ := op_act6s f1 _ _ t1 (weightsEach_at hsz 1 46 d1 rfl rfl)
  obtain rfl : (Value.slice a1 n1 c1) = v1 := (List.cons.inj e1).1
  obtain ⟨rfl, rfl⟩ := trodVars_none hV
  refine (fieldPlays_any W _ _ L l1 (tabs_of hL) hl1 hl2 k1).mono fun e W' ⟨he, hg⟩ => ?_
  subst he
  have e1 : Rows.fieldPlaysSpec.fn H ([d0, d1] ++ []) = { results := [.lit (.bool true)], args := [d0, d1] } := rfl
  refine ⟨_, rfl, _, _, _, [], p0 ++ p1, [], hW', ?_, ?_, ?_, hg.below.frame _, fun h => by cases h⟩
  · rw [e1]; exact trodAll_mk1 (shut_bool Tryd.underlying4 true)
  · rw [e1]
    exact all_stays hg.below (fun t ht => by
      rw [Tryd.params5] at ht
      simp at ht
      rcases ht with rfl | rfl | rfl <;> exact ⟨by kernel_rfl, of_decide_eq_true (by kernel_rfl)⟩) (fun x hx => hAA.lt x hx) hAA
  · rw [e1]; rfl
theorem fieldPlays_holds : Rows.FieldPlaysSaid :=
  OpenClaim.holds_of_wide 5 Tryd.f5 rfl rfl rfl rfl rfl rfl rfl ⟨rfl, rfl, rfl, rfl, rfl⟩ rfl rfl rfl rfl rfl (by kernel_rfl) Tryd.func5 (by kernel_rfl)
    (of_decide_eq_true (by kernel_rfl)) (by unfold Func.isWrapper; rw [if_neg (of_decide_eq_false (by kernel_rfl))]; exact ⟨rfl, rfl⟩)
    (fun os started H enc _ => fieldPlays_lifted os started H enc)
theorem fieldPlays_card : Rows.FieldPlaysCardSaid :=
  Claim7.holds_tied_plain_at .later [] [.data, .pinned] true (true, "c9343980f9cc4298e13bf51bec6d89531373e39cc3f9c6d53b82c24352bfbad4") true
    fieldPlays_holds (fun _ h => by cases h) (by kernel_rfl) (fun _ h => by cases h) fieldPlays_row_tie rfl ⟨rfl, rfl⟩ (by kernel_rfl) rfl
    (fun f fn hf hfn => by
      obtain rfl : f = 5 := Option.some.inj ((show Tryd.prog.funcNamed "pointsman/pointsmanlaw6.FieldPlays" = some 5 by kernel_rfl).symm.trans hf) |>.symm
      obtain rfl : fn = Tryd.f5 := (Option.some.inj (Tryd.func5.symm.trans hfn)).symm
      exact ⟨by kernel_rfl, fun j t ht => by
        have hall : ∀ t ∈ Tryd.f5.params.toList, Tryd.prog.wantsStandIn t = false := by
          rw [Tryd.params5]
          intro t ht
          simp at ht
          rcases ht with rfl | rfl | rfl <;> kernel_rfl
        obtain ⟨h1, h2⟩ := Array.getElem?_eq_some_iff.1 ht
        exact hall t (by rw [← h2]; exact Array.getElem_mem_toList h1)⟩)
    (by kernel_rfl)
#print axioms fieldPlays_card
end Go.Proofs.YtnfceboppdcfdaaDoor
