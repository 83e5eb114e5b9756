/- The walks of slices.Clone at the types that the program clones. -/
import Derived.Test.YtnfceboppdcfdaaDoorC4
import Derived.Test.YtnfceboppdcfdaaDoorC5
import Derived.Test.YtnfceboppdcfdaaDoorProg
import Derived.Lib.AppendZerosOnto
import Derived.Laws.AppendOwnNone
namespace Go.Proofs.YtnfceboppdcfdaaDoor
open Go.RowKit
set_option maxHeartbeats 4000000
set_option maxRecDepth 1000000
set_option linter.unusedVariables false

theorem tab_at {α : Type} (f : Nat → α) (n j : Nat) (h : j < n) : (tab f n)[j]? = some (f j) := by
  have h1 : j < (tab f n).length := by rw [tab_length]; exact h
  have := tab_getD f (f j) n j h
  rw [List.getD_eq_getElem?_getD, List.getElem?_eq_getElem h1] at this
  rw [List.getElem?_eq_getElem h1]; simpa using this
/-- A row that the call owns, of cells that are told by number. -/
theorem own_tab_mut {Z : Nat → Prop} {w : World} {base e sz n : Nat} {v : Value} {c : Nat → Value} (h : w.ownsRow base e sz v n (tab c (n * sz))) (hz : ∀ b, base ≤ b → b < w.heap.size → Z b) : MutAt Z w v n sz c :=
  (mut_of_own h hz).congr fun j hj => tab_getD _ _ _ _ hj
theorem own_tab_slf {F : Nat → Prop} {w : World} {base e sz n : Nat} {v : Value} {c : Nat → Value} (h : w.ownsRow base e sz v n (tab c (n * sz))) (hf : ∀ b, base ≤ b → b < w.heap.size → F b) : SlF F w v n sz c :=
  (own_slf h hf).congr fun j hj => tab_getD _ _ _ _ hj
theorem own_tab_at {w : World} {base e sz n : Nat} {v : Value} {c : Nat → Value} (h : w.ownsRow base e sz v n (tab c (n * sz))) : SlAt w v n sz c :=
  (own_slat h).congr fun j hj => tab_getD _ _ _ _ hj
theorem slat_news {w : World} {A : Option Addr} {n cap sz : Nat} {c : Nat → Value} (h : SlAt w (.slice A n cap) n sz c) (h0 : 0 < n) : ∃ ad, A = some ad ∧ ∀ j u, (tab c (n * sz))[j]? = some u → w.cell? (ad.add j) = some u := by
  obtain ⟨A', cap', e, hn, hc, hh⟩ := h
  cases e
  obtain ⟨b, off, rfl, hj⟩ := hh h0
  refine ⟨_, rfl, fun j u hu => ?_⟩
  have hjl : j < n * sz := by have := (List.getElem?_eq_some_iff.1 hu).1; rwa [tab_length] at this
  rw [tab_at _ _ _ hjl] at hu
  rw [← Option.some.inj hu]
  have e : (⟨b, off, none⟩ : Addr).add j = ⟨b, off + j, none⟩ := by unfold Addr.add; split <;> simp_all
  rw [e]
  exact hj j hjl
theorem tab_one {c : Nat → Value} {N : Nat} (h : ∀ j, j < N → (c j).oneCell' = true) : ∀ u ∈ tab c N, u.oneCell' = true := by
  intro u hu
  obtain ⟨j, hj, e⟩ := List.getElem_of_mem hu
  rw [tab_length] at hj
  have := tab_at c N j hj
  rw [List.getElem?_eq_getElem (by rw [tab_length]; exact hj), e] at this
  rw [Option.some.inj this]; exact h j hj

theorem info_bools : (Tryd.prog.info? 4).map (fun i => (i.zero, i.size, i.bytes)) = some (some (.bool false), 1, 1) := by kernel_rfl
theorem clone_bools (w : World) (v : Value) (n : Nat) (c : Nat → Value) (h : SlAt w v n 1 c) (hlen : n ≤ 100000) (hone : ∀ j, j < n * 1 → (c j).oneCell' = true) :
    Calls Tryd.prog 77 #[v] w fun e w' => (∃ v', e = .returned v' ∧ w'.ownsRow w.heap.size 4 1 v' n (tab c (n * 1))) ∧ Gr w w' := by
  obtain ⟨i0, hi, hz0, hz1, hz2⟩ := info_parts info_bools
  have hq := fun (w : World) (a : Option Addr) (n c n' c' : Nat) => Lib.run_eql_slice_nil (P := Tryd.prog) w 40 _ a n c n' c' Tryd.underlying40
  obtain ⟨A, cap, rfl, hn, hcap⟩ := SlAt.open h
  cases A with
  | none =>
    have hc := SlAt.none h
    subst hc
    obtain rfl : n = 0 := by omega
    clear h
    go_enter Tryd.func77, Tryd.ntmps77
    go_wp2_with fail
    go_ret
    exact ⟨⟨_, rfl, World.ownsRow_nil _ _ _ _⟩, (by repeat (first | exact Gr.refl _ | assumption | refine Gr.plus ?_ _ | refine Gr.alloc ?_ _ | refine Gr.drew ?_ | refine Gr.drewN ?_ _))⟩
  | some ad =>
    have hnews : ∀ j u, (tab c (n * 1))[j]? = some u → w.cell? (ad.add j) = some u := by
      rcases Nat.eq_zero_or_pos n with rfl | h0
      · intro j u hu; simp [tab] at hu
      · obtain ⟨ad', e, hj⟩ := slat_news h h0
        cases e; exact hj
    have HN := Lib.hid hnews
    clear hnews
    have HO := Lib.hid hone
    clear hone
    clear h
    go_enter Tryd.func77, Tryd.ntmps77
    go_wp2_with (at_builtin; refine wpList_append_own _ rfl _ _ 40 rfl w.heap.size 4 i0 _ 1 1 Tryd.underlying40 hi hz0 hz1 hz2 rfl (by decide) _ 0 [] rfl (World.ownsRow_lit _ #[] 0 (Nat.le_refl _) (by decide) rfl) ad n cap (tab c (n * 1)) rfl (by rw [tab_length]) (fun j u hu => Gr.cell (by repeat (first | exact Gr.refl _ | assumption | refine Gr.plus ?_ _ | refine Gr.alloc ?_ _ | refine Gr.drew ?_ | refine Gr.drewN ?_ _)) (HN.out j u hu)) (tab_one HO.out) ?c3 ?c4 ?c5 ?_)
    case c3 => simp [maxLen]; omega
    case c4 => omega
    case c5 => simp
    intro v' w1 hown' hgrow _
    have HO2 := Lib.hid hown'
    have hg2 : Gr w w1 := Gr.grown (by repeat (first | exact Gr.refl _ | assumption | refine Gr.plus ?_ _ | refine Gr.alloc ?_ _ | refine Gr.drew ?_ | refine Gr.drewN ?_ _)) hgrow (fun k hk => by
      have e : w.heap.size = k := by simpa [Value.ownBlock] using hk
      omega)
    clear hown' hgrow
    obtain ⟨m1, rfl⟩ := hg2
    go_wp2_with fail
    go_ret
    exact ⟨⟨_, rfl, by have := HO2.out; simpa using this⟩, (by repeat (first | exact Gr.refl _ | assumption | refine Gr.plus ?_ _ | refine Gr.alloc ?_ _ | refine Gr.drew ?_ | refine Gr.drewN ?_ _))⟩
theorem info_rss : (Tryd.prog.info? 94).map (fun i => (i.zero, i.size, i.bytes)) = some (some (.agg #[.int .i64 0, .int .i64 0, .int .i64 0, .bool false]), 4, 32) := by kernel_rfl
theorem clone_rss (w : World) (v : Value) (n : Nat) (c : Nat → Value) (h : SlAt w v n 4 c) (hlen : n ≤ 100000) (hone : ∀ j, j < n * 4 → (c j).oneCell' = true) :
    Calls Tryd.prog 87 #[v] w fun e w' => (∃ v', e = .returned v' ∧ w'.ownsRow w.heap.size 94 4 v' n (tab c (n * 4))) ∧ Gr w w' := by
  obtain ⟨i0, hi, hz0, hz1, hz2⟩ := info_parts info_rss
  have hq := fun (w : World) (a : Option Addr) (n c n' c' : Nat) => Lib.run_eql_slice_nil (P := Tryd.prog) w 66 _ a n c n' c' Tryd.underlying66
  obtain ⟨A, cap, rfl, hn, hcap⟩ := SlAt.open h
  cases A with
  | none =>
    have hc := SlAt.none h
    subst hc
    obtain rfl : n = 0 := by omega
    clear h
    go_enter Tryd.func87, Tryd.ntmps87
    go_wp2_with fail
    go_ret
    exact ⟨⟨_, rfl, World.ownsRow_nil _ _ _ _⟩, (by repeat (first | exact Gr.refl _ | assumption | refine Gr.plus ?_ _ | refine Gr.alloc ?_ _ | refine Gr.drew ?_ | refine Gr.drewN ?_ _))⟩
  | some ad =>
    have hnews : ∀ j u, (tab c (n * 4))[j]? = some u → w.cell? (ad.add j) = some u := by
      rcases Nat.eq_zero_or_pos n with rfl | h0
      · intro j u hu; simp [tab] at hu
      · obtain ⟨ad', e, hj⟩ := slat_news h h0
        cases e; exact hj
    have HN := Lib.hid hnews
    clear hnews
    have HO := Lib.hid hone
    clear hone
    clear h
    go_enter Tryd.func87, Tryd.ntmps87
    go_wp2_with (at_builtin; refine wpList_append_own _ rfl _ _ 66 rfl w.heap.size 94 i0 _ 4 32 Tryd.underlying66 hi hz0 hz1 hz2 rfl (by decide) _ 0 [] rfl (World.ownsRow_lit _ #[] 0 (Nat.le_refl _) (by decide) rfl) ad n cap (tab c (n * 4)) rfl (by rw [tab_length]) (fun j u hu => Gr.cell (by repeat (first | exact Gr.refl _ | assumption | refine Gr.plus ?_ _ | refine Gr.alloc ?_ _ | refine Gr.drew ?_ | refine Gr.drewN ?_ _)) (HN.out j u hu)) (tab_one HO.out) ?c3 ?c4 ?c5 ?_)
    case c3 => simp [maxLen]; omega
    case c4 => omega
    case c5 => simp
    intro v' w1 hown' hgrow _
    have HO2 := Lib.hid hown'
    have hg2 : Gr w w1 := Gr.grown (by repeat (first | exact Gr.refl _ | assumption | refine Gr.plus ?_ _ | refine Gr.alloc ?_ _ | refine Gr.drew ?_ | refine Gr.drewN ?_ _)) hgrow (fun k hk => by
      have e : w.heap.size = k := by simpa [Value.ownBlock] using hk
      omega)
    clear hown' hgrow
    obtain ⟨m1, rfl⟩ := hg2
    go_wp2_with fail
    go_ret
    exact ⟨⟨_, rfl, by have := HO2.out; simpa using this⟩, (by repeat (first | exact Gr.refl _ | assumption | refine Gr.plus ?_ _ | refine Gr.alloc ?_ _ | refine Gr.drew ?_ | refine Gr.drewN ?_ _))⟩
theorem info_strs : (Tryd.prog.info? 9).map (fun i => (i.zero, i.size, i.bytes)) = some (some (.string ByteArray.empty), 1, 16) := by kernel_rfl
theorem clone_strs (w : World) (v : Value) (n : Nat) (c : Nat → Value) (h : SlAt w v n 1 c) (hlen : n ≤ 100000) (hone : ∀ j, j < n * 1 → (c j).oneCell' = true) :
    Calls Tryd.prog 126 #[v] w fun e w' => (∃ v', e = .returned v' ∧ w'.ownsRow w.heap.size 9 1 v' n (tab c (n * 1))) ∧ Gr w w' := by
  obtain ⟨i0, hi, hz0, hz1, hz2⟩ := info_parts info_strs
  have hq := fun (w : World) (a : Option Addr) (n c n' c' : Nat) => Lib.run_eql_slice_nil (P := Tryd.prog) w 22 _ a n c n' c' Tryd.underlying22
  obtain ⟨A, cap, rfl, hn, hcap⟩ := SlAt.open h
  cases A with
  | none =>
    have hc := SlAt.none h
    subst hc
    obtain rfl : n = 0 := by omega
    clear h
    go_enter Tryd.func126, Tryd.ntmps126
    go_wp2_with fail
    go_ret
    exact ⟨⟨_, rfl, World.ownsRow_nil _ _ _ _⟩, (by repeat (first | exact Gr.refl _ | assumption | refine Gr.plus ?_ _ | refine Gr.alloc ?_ _ | refine Gr.drew ?_ | refine Gr.drewN ?_ _))⟩
  | some ad =>
    have hnews : ∀ j u, (tab c (n * 1))[j]? = some u → w.cell? (ad.add j) = some u := by
      rcases Nat.eq_zero_or_pos n with rfl | h0
      · intro j u hu; simp [tab] at hu
      · obtain ⟨ad', e, hj⟩ := slat_news h h0
        cases e; exact hj
    have HN := Lib.hid hnews
    clear hnews
    have HO := Lib.hid hone
    clear hone
    clear h
    go_enter Tryd.func126, Tryd.ntmps126
    go_wp2_with (at_builtin; refine wpList_append_own _ rfl _ _ 22 rfl w.heap.size 9 i0 _ 1 16 Tryd.underlying22 hi hz0 hz1 hz2 rfl (by decide) _ 0 [] rfl (World.ownsRow_lit _ #[] 0 (Nat.le_refl _) (by decide) rfl) ad n cap (tab c (n * 1)) rfl (by rw [tab_length]) (fun j u hu => Gr.cell (by repeat (first | exact Gr.refl _ | assumption | refine Gr.plus ?_ _ | refine Gr.alloc ?_ _ | refine Gr.drew ?_ | refine Gr.drewN ?_ _)) (HN.out j u hu)) (tab_one HO.out) ?c3 ?c4 ?c5 ?_)
    case c3 => simp [maxLen]; omega
    case c4 => omega
    case c5 => simp
    intro v' w1 hown' hgrow _
    have HO2 := Lib.hid hown'
    have hg2 : Gr w w1 := Gr.grown (by repeat (first | exact Gr.refl _ | assumption | refine Gr.plus ?_ _ | refine Gr.alloc ?_ _ | refine Gr.drew ?_ | refine Gr.drewN ?_ _)) hgrow (fun k hk => by
      have e : w.heap.size = k := by simpa [Value.ownBlock] using hk
      omega)
    clear hown' hgrow
    obtain ⟨m1, rfl⟩ := hg2
    go_wp2_with fail
    go_ret
    exact ⟨⟨_, rfl, by have := HO2.out; simpa using this⟩, (by repeat (first | exact Gr.refl _ | assumption | refine Gr.plus ?_ _ | refine Gr.alloc ?_ _ | refine Gr.drew ?_ | refine Gr.drewN ?_ _))⟩
theorem info_ints : (Tryd.prog.info? 3).map (fun i => (i.zero, i.size, i.bytes)) = some (some (.int .i64 0), 1, 8) := by kernel_rfl
theorem clone_ints (w : World) (v : Value) (n : Nat) (c : Nat → Value) (h : SlAt w v n 1 c) (hlen : n ≤ 100000) (hone : ∀ j, j < n * 1 → (c j).oneCell' = true) :
    Calls Tryd.prog 129 #[v] w fun e w' => (∃ v', e = .returned v' ∧ w'.ownsRow w.heap.size 3 1 v' n (tab c (n * 1))) ∧ Gr w w' := by
  obtain ⟨i0, hi, hz0, hz1, hz2⟩ := info_parts info_ints
  have hq := fun (w : World) (a : Option Addr) (n c n' c' : Nat) => Lib.run_eql_slice_nil (P := Tryd.prog) w 29 _ a n c n' c' Tryd.underlying29
  obtain ⟨A, cap, rfl, hn, hcap⟩ := SlAt.open h
  cases A with
  | none =>
    have hc := SlAt.none h
    subst hc
    obtain rfl : n = 0 := by omega
    clear h
    go_enter Tryd.func129, Tryd.ntmps129
    go_wp2_with fail
    go_ret
    exact ⟨⟨_, rfl, World.ownsRow_nil _ _ _ _⟩, (by repeat (first | exact Gr.refl _ | assumption | refine Gr.plus ?_ _ | refine Gr.alloc ?_ _ | refine Gr.drew ?_ | refine Gr.drewN ?_ _))⟩
  | some ad =>
    have hnews : ∀ j u, (tab c (n * 1))[j]? = some u → w.cell? (ad.add j) = some u := by
      rcases Nat.eq_zero_or_pos n with rfl | h0
      · intro j u hu; simp [tab] at hu
      · obtain ⟨ad', e, hj⟩ := slat_news h h0
        cases e; exact hj
    have HN := Lib.hid hnews
    clear hnews
    have HO := Lib.hid hone
    clear hone
    clear h
    go_enter Tryd.func129, Tryd.ntmps129
    go_wp2_with (at_builtin; refine wpList_append_own _ rfl _ _ 29 rfl w.heap.size 3 i0 _ 1 8 Tryd.underlying29 hi hz0 hz1 hz2 rfl (by decide) _ 0 [] rfl (World.ownsRow_lit _ #[] 0 (Nat.le_refl _) (by decide) rfl) ad n cap (tab c (n * 1)) rfl (by rw [tab_length]) (fun j u hu => Gr.cell (by repeat (first | exact Gr.refl _ | assumption | refine Gr.plus ?_ _ | refine Gr.alloc ?_ _ | refine Gr.drew ?_ | refine Gr.drewN ?_ _)) (HN.out j u hu)) (tab_one HO.out) ?c3 ?c4 ?c5 ?_)
    case c3 => simp [maxLen]; omega
    case c4 => omega
    case c5 => simp
    intro v' w1 hown' hgrow _
    have HO2 := Lib.hid hown'
    have hg2 : Gr w w1 := Gr.grown (by repeat (first | exact Gr.refl _ | assumption | refine Gr.plus ?_ _ | refine Gr.alloc ?_ _ | refine Gr.drew ?_ | refine Gr.drewN ?_ _)) hgrow (fun k hk => by
      have e : w.heap.size = k := by simpa [Value.ownBlock] using hk
      omega)
    clear hown' hgrow
    obtain ⟨m1, rfl⟩ := hg2
    go_wp2_with fail
    go_ret
    exact ⟨⟨_, rfl, by have := HO2.out; simpa using this⟩, (by repeat (first | exact Gr.refl _ | assumption | refine Gr.plus ?_ _ | refine Gr.alloc ?_ _ | refine Gr.drew ?_ | refine Gr.drewN ?_ _))⟩
theorem info_needs : (Tryd.prog.info? 121).map (fun i => (i.zero, i.size, i.bytes)) = some (some (.agg #[.int .i64 0, .bool false]), 2, 16) := by kernel_rfl
theorem clone_needs (w : World) (v : Value) (n : Nat) (c : Nat → Value) (h : SlAt w v n 2 c) (hlen : n ≤ 100000) (hone : ∀ j, j < n * 2 → (c j).oneCell' = true) :
    Calls Tryd.prog 130 #[v] w fun e w' => (∃ v', e = .returned v' ∧ w'.ownsRow w.heap.size 121 2 v' n (tab c (n * 2))) ∧ Gr w w' := by
  obtain ⟨i0, hi, hz0, hz1, hz2⟩ := info_parts info_needs
  have hq := fun (w : World) (a : Option Addr) (n c n' c' : Nat) => Lib.run_eql_slice_nil (P := Tryd.prog) w 31 _ a n c n' c' Tryd.underlying31
  obtain ⟨A, cap, rfl, hn, hcap⟩ := SlAt.open h
  cases A with
  | none =>
    have hc := SlAt.none h
    subst hc
    obtain rfl : n = 0 := by omega
    clear h
    go_enter Tryd.func130, Tryd.ntmps130
    go_wp2_with fail
    go_ret
    exact ⟨⟨_, rfl, World.ownsRow_nil _ _ _ _⟩, (by repeat (first | exact Gr.refl _ | assumption | refine Gr.plus ?_ _ | refine Gr.alloc ?_ _ | refine Gr.drew ?_ | refine Gr.drewN ?_ _))⟩
  | some ad =>
    have hnews : ∀ j u, (tab c (n * 2))[j]? = some u → w.cell? (ad.add j) = some u := by
      rcases Nat.eq_zero_or_pos n with rfl | h0
      · intro j u hu; simp [tab] at hu
      · obtain ⟨ad', e, hj⟩ := slat_news h h0
        cases e; exact hj
    have HN := Lib.hid hnews
    clear hnews
    have HO := Lib.hid hone
    clear hone
    clear h
    go_enter Tryd.func130, Tryd.ntmps130
    go_wp2_with (at_builtin; refine wpList_append_own _ rfl _ _ 31 rfl w.heap.size 121 i0 _ 2 16 Tryd.underlying31 hi hz0 hz1 hz2 rfl (by decide) _ 0 [] rfl (World.ownsRow_lit _ #[] 0 (Nat.le_refl _) (by decide) rfl) ad n cap (tab c (n * 2)) rfl (by rw [tab_length]) (fun j u hu => Gr.cell (by repeat (first | exact Gr.refl _ | assumption | refine Gr.plus ?_ _ | refine Gr.alloc ?_ _ | refine Gr.drew ?_ | refine Gr.drewN ?_ _)) (HN.out j u hu)) (tab_one HO.out) ?c3 ?c4 ?c5 ?_)
    case c3 => simp [maxLen]; omega
    case c4 => omega
    case c5 => simp
    intro v' w1 hown' hgrow _
    have HO2 := Lib.hid hown'
    have hg2 : Gr w w1 := Gr.grown (by repeat (first | exact Gr.refl _ | assumption | refine Gr.plus ?_ _ | refine Gr.alloc ?_ _ | refine Gr.drew ?_ | refine Gr.drewN ?_ _)) hgrow (fun k hk => by
      have e : w.heap.size = k := by simpa [Value.ownBlock] using hk
      omega)
    clear hown' hgrow
    obtain ⟨m1, rfl⟩ := hg2
    go_wp2_with fail
    go_ret
    exact ⟨⟨_, rfl, by have := HO2.out; simpa using this⟩, (by repeat (first | exact Gr.refl _ | assumption | refine Gr.plus ?_ _ | refine Gr.alloc ?_ _ | refine Gr.drew ?_ | refine Gr.drewN ?_ _))⟩
theorem info_pts : (Tryd.prog.info? 113).map (fun i => (i.zero, i.size, i.bytes)) = some (some (.agg #[.string ByteArray.empty, .int .i64 0]), 2, 24) := by kernel_rfl
theorem clone_pts (w : World) (v : Value) (n : Nat) (c : Nat → Value) (h : SlAt w v n 2 c) (hlen : n ≤ 100000) (hone : ∀ j, j < n * 2 → (c j).oneCell' = true) :
    Calls Tryd.prog 127 #[v] w fun e w' => (∃ v', e = .returned v' ∧ w'.ownsRow w.heap.size 113 2 v' n (tab c (n * 2))) ∧ Gr w w' := by
  obtain ⟨i0, hi, hz0, hz1, hz2⟩ := info_parts info_pts
  have hq := fun (w : World) (a : Option Addr) (n c n' c' : Nat) => Lib.run_eql_slice_nil (P := Tryd.prog) w 23 _ a n c n' c' Tryd.underlying23
  obtain ⟨A, cap, rfl, hn, hcap⟩ := SlAt.open h
  cases A with
  | none =>
    have hc := SlAt.none h
    subst hc
    obtain rfl : n = 0 := by omega
    clear h
    go_enter Tryd.func127, Tryd.ntmps127
    go_wp2_with fail
    go_ret
    exact ⟨⟨_, rfl, World.ownsRow_nil _ _ _ _⟩, (by repeat (first | exact Gr.refl _ | assumption | refine Gr.plus ?_ _ | refine Gr.alloc ?_ _ | refine Gr.drew ?_ | refine Gr.drewN ?_ _))⟩
  | some ad =>
    have hnews : ∀ j u, (tab c (n * 2))[j]? = some u → w.cell? (ad.add j) = some u := by
      rcases Nat.eq_zero_or_pos n with rfl | h0
      · intro j u hu; simp [tab] at hu
      · obtain ⟨ad', e, hj⟩ := slat_news h h0
        cases e; exact hj
    have HN := Lib.hid hnews
    clear hnews
    have HO := Lib.hid hone
    clear hone
    clear h
    go_enter Tryd.func127, Tryd.ntmps127
    go_wp2_with (at_builtin; refine wpList_append_own _ rfl _ _ 23 rfl w.heap.size 113 i0 _ 2 24 Tryd.underlying23 hi hz0 hz1 hz2 rfl (by decide) _ 0 [] rfl (World.ownsRow_lit _ #[] 0 (Nat.le_refl _) (by decide) rfl) ad n cap (tab c (n * 2)) rfl (by rw [tab_length]) (fun j u hu => Gr.cell (by repeat (first | exact Gr.refl _ | assumption | refine Gr.plus ?_ _ | refine Gr.alloc ?_ _ | refine Gr.drew ?_ | refine Gr.drewN ?_ _)) (HN.out j u hu)) (tab_one HO.out) ?c3 ?c4 ?c5 ?_)
    case c3 => simp [maxLen]; omega
    case c4 => omega
    case c5 => simp
    intro v' w1 hown' hgrow _
    have HO2 := Lib.hid hown'
    have hg2 : Gr w w1 := Gr.grown (by repeat (first | exact Gr.refl _ | assumption | refine Gr.plus ?_ _ | refine Gr.alloc ?_ _ | refine Gr.drew ?_ | refine Gr.drewN ?_ _)) hgrow (fun k hk => by
      have e : w.heap.size = k := by simpa [Value.ownBlock] using hk
      omega)
    clear hown' hgrow
    obtain ⟨m1, rfl⟩ := hg2
    go_wp2_with fail
    go_ret
    exact ⟨⟨_, rfl, by have := HO2.out; simpa using this⟩, (by repeat (first | exact Gr.refl _ | assumption | refine Gr.plus ?_ _ | refine Gr.alloc ?_ _ | refine Gr.drew ?_ | refine Gr.drewN ?_ _))⟩
theorem info_rts : (Tryd.prog.info? 33).map (fun i => (i.zero, i.size, i.bytes)) = some (some (.agg #[.string ByteArray.empty, .int .i64 0, .int .i64 0, .slice none 0 0, .slice none 0 0, .slice none 0 0]), 6, 104) := by kernel_rfl
theorem clone_rts (w : World) (v : Value) (n : Nat) (c : Nat → Value) (h : SlAt w v n 6 c) (hlen : n ≤ 100000) (hone : ∀ j, j < n * 6 → (c j).oneCell' = true) :
    Calls Tryd.prog 128 #[v] w fun e w' => (∃ v', e = .returned v' ∧ w'.ownsRow w.heap.size 33 6 v' n (tab c (n * 6))) ∧ Gr w w' := by
  obtain ⟨i0, hi, hz0, hz1, hz2⟩ := info_parts info_rts
  have hq := fun (w : World) (a : Option Addr) (n c n' c' : Nat) => Lib.run_eql_slice_nil (P := Tryd.prog) w 24 _ a n c n' c' Tryd.underlying24
  obtain ⟨A, cap, rfl, hn, hcap⟩ := SlAt.open h
  cases A with
  | none =>
    have hc := SlAt.none h
    subst hc
    obtain rfl : n = 0 := by omega
    clear h
    go_enter Tryd.func128, Tryd.ntmps128
    go_wp2_with fail
    go_ret
    exact ⟨⟨_, rfl, World.ownsRow_nil _ _ _ _⟩, (by repeat (first | exact Gr.refl _ | assumption | refine Gr.plus ?_ _ | refine Gr.alloc ?_ _ | refine Gr.drew ?_ | refine Gr.drewN ?_ _))⟩
  | some ad =>
    have hnews : ∀ j u, (tab c (n * 6))[j]? = some u → w.cell? (ad.add j) = some u := by
      rcases Nat.eq_zero_or_pos n with rfl | h0
      · intro j u hu; simp [tab] at hu
      · obtain ⟨ad', e, hj⟩ := slat_news h h0
        cases e; exact hj
    have HN := Lib.hid hnews
    clear hnews
    have HO := Lib.hid hone
    clear hone
    clear h
    go_enter Tryd.func128, Tryd.ntmps128
    go_wp2_with (at_builtin; refine wpList_append_own _ rfl _ _ 24 rfl w.heap.size 33 i0 _ 6 104 Tryd.underlying24 hi hz0 hz1 hz2 rfl (by decide) _ 0 [] rfl (World.ownsRow_lit _ #[] 0 (Nat.le_refl _) (by decide) rfl) ad n cap (tab c (n * 6)) rfl (by rw [tab_length]) (fun j u hu => Gr.cell (by repeat (first | exact Gr.refl _ | assumption | refine Gr.plus ?_ _ | refine Gr.alloc ?_ _ | refine Gr.drew ?_ | refine Gr.drewN ?_ _)) (HN.out j u hu)) (tab_one HO.out) ?c3 ?c4 ?c5 ?_)
    case c3 => simp [maxLen]; omega
    case c4 => omega
    case c5 => simp
    intro v' w1 hown' hgrow _
    have HO2 := Lib.hid hown'
    have hg2 : Gr w w1 := Gr.grown (by repeat (first | exact Gr.refl _ | assumption | refine Gr.plus ?_ _ | refine Gr.alloc ?_ _ | refine Gr.drew ?_ | refine Gr.drewN ?_ _)) hgrow (fun k hk => by
      have e : w.heap.size = k := by simpa [Value.ownBlock] using hk
      omega)
    clear hown' hgrow
    obtain ⟨m1, rfl⟩ := hg2
    go_wp2_with fail
    go_ret
    exact ⟨⟨_, rfl, by have := HO2.out; simpa using this⟩, (by repeat (first | exact Gr.refl _ | assumption | refine Gr.plus ?_ _ | refine Gr.alloc ?_ _ | refine Gr.drew ?_ | refine Gr.drewN ?_ _))⟩
end Go.Proofs.YtnfceboppdcfdaaDoor
