/- The walks of table: what a route needs, what excludes what. -/
import Derived.Test.YtnfceboppdcfdaaDoorK4
import Derived.Lib.AppendZerosOnto
import Derived.Laws.AppendOwnNone
import Derived.StillTailTactics
namespace Go.Proofs.YtnfceboppdcfdaaDoor
open Go.RowKit
set_option maxHeartbeats 4000000
set_option maxRecDepth 1000000

theorem info_need : (Tryd.prog.info? 121).map (fun i => (i.zero, i.size, i.bytes)) = some (some (.agg #[.int .i64 0, .bool false]), 2, 16) := by kernel_rfl

theorem grow_needs (n : Nat) (z : Int) (hz : z = n) (w : World) (hn : n ≤ 100000) :
    Calls Tryd.prog 153 #[.slice none 0 0, .int .i64 z] w fun e w' => (∃ v, e = .returned v ∧ w'.ownsRow w.heap.size 121 2 v 0 []) ∧ Gr w w' := by
  subst hz
  obtain ⟨i0, hi, hz0, hz1, hz2⟩ := info_parts info_need
  rcases Nat.eq_zero_or_pos n with rfl | h0
  · go_enter Tryd.func153, Tryd.ntmps153
    go_wp2
    go_ret
    exact ⟨⟨_, rfl, World.ownsRow_nil _ _ _ _⟩, (by repeat (first | exact Gr.refl _ | assumption | refine Gr.plus ?_ _ | refine Gr.alloc ?_ _ | refine Gr.drew ?_ | refine Gr.drewN ?_ _))⟩
  · have h0' : (0 : Int) < (n : Int) := by omega
    have hr := fun w => Lib.run_append_nil_zeros (P := Tryd.prog) w 31 3 31 121 i0 _ .i64 .i64 Tryd.underlying31 Tryd.underlying3 hi hz0 n h0 (by omega) (by omega) (by rw [hz2]; omega)
    have HR := Lib.hid hr
    clear hr
    go_enter Tryd.func153, Tryd.ntmps153
    go_wp2_with (at_builtin; refine Lib.wpList_append_run _ rfl _ _ _ _ rfl _ _ rfl rfl _ _ (HR.out _) ?_)
    go_ret
    refine ⟨⟨_, rfl, World.ownsRow_made (base := w.heap.size) w _ _ (Nat.le_refl _) (grownCap_le_maxLen w n 0 _ (by simp [maxLen]; omega)) ?_⟩, (by repeat (first | exact Gr.refl _ | assumption | refine Gr.plus ?_ _ | refine Gr.alloc ?_ _ | refine Gr.drew ?_ | refine Gr.drewN ?_ _))⟩
    have := grownCap_ge w n 0 121
    simp [size_zeroCells]
    omega

/-- The cells of needs, as a row. -/
def needVals (l : List Need) : List Value := l.flatMap fun x => [.int .i64 x.p, .bool x.r]
theorem flat2 {α : Type} (f : α → List Value) (hf : ∀ a, (f a).length = 2) (l : List α) : ∀ (i r : Nat) (h : i < l.length), r < 2 → (l.flatMap f)[i * 2 + r]? = (f l[i])[r]? := by
  induction l with
  | nil => intro i r h; simp at h
  | cons a l ih =>
    intro i r h hr
    rw [List.flatMap_cons]
    cases i with
    | zero => rw [List.getElem?_append_left (by rw [hf]; omega)]; simp
    | succ i =>
      rw [List.getElem?_append_right (by rw [hf]; omega), hf, show (i + 1) * 2 + r - 2 = i * 2 + r by omega]
      have := ih i r (by simpa using h) hr
      rw [this]; simp
theorem needVals_at (l : List Need) (j : Nat) (hj : j < l.length * 2) : (needVals l)[j]? = some (needCell l j) := by
  have hi : j / 2 < l.length := by omega
  have := flat2 (fun x : Need => [Value.int .i64 x.p, .bool x.r]) (fun _ => rfl) l (j / 2) (j % 2) hi (by omega)
  rw [show j / 2 * 2 + j % 2 = j by omega] at this
  unfold needVals
  rw [this]
  unfold needCell
  have hg : gN l (j / 2) = l[j / 2] := by simp [gN, List.getD_eq_getElem?_getD, hi]
  rw [hg]
  have h2 : j % 2 = 0 ∨ j % 2 = 1 := by omega
  rcases h2 with h2 | h2 <;> simp [h2]
theorem needVals_len (l : List Need) : (needVals l).length = l.length * 2 := by
  induction l with
  | nil => rfl
  | cons a l ih => simp [needVals] at ih ⊢; omega
theorem needs_slat {w : World} {base e : Nat} {v : Value} {l : List Need} (h : w.ownsRow base e 2 v l.length (needVals l)) : SlNeeds w v l := by
  refine (own_slat h).congr fun j hj => ?_
  rw [List.getD_eq_getElem?_getD, needVals_at l j hj]; rfl
/-- What is read of a slice of needs, cell by cell. -/
theorem SlNeeds.news {w : World} {A : Option Addr} {n cap : Nat} {l : List Need} (h : SlNeeds w (.slice A n cap) l) :
    l = [] ∨ ∃ ad, A = some ad ∧ ∀ j u, (needVals l)[j]? = some u → w.cell? (ad.add j) = some u := by
  obtain ⟨A', cap', e, hn, hc, hh⟩ := h
  cases e
  rcases Nat.eq_zero_or_pos l.length with h0 | h0
  · exact .inl (List.length_eq_zero_iff.1 h0)
  · obtain ⟨b, off, rfl, hj⟩ := hh h0
    refine .inr ⟨_, rfl, fun j u hu => ?_⟩
    have hjl : j < l.length * 2 := by
      have := (List.getElem?_eq_some_iff.1 hu).1
      rwa [needVals_len] at this
    rw [needVals_at l j hjl] at hu
    rw [← Option.some.inj hu]
    have e : (⟨b, off, none⟩ : Addr).add j = ⟨b, off + j, none⟩ := by unfold Addr.add; split <;> simp_all
    rw [e]
    exact hj j hjl
theorem needVals_one (l : List Need) : ∀ u ∈ needVals l, u.oneCell' = true := by
  intro u hu
  simp only [needVals, List.mem_flatMap] at hu
  obtain ⟨x, _, hx⟩ := hu
  simp at hx
  rcases hx with rfl | rfl <;> rfl
theorem needVals_append (a b : List Need) : needVals (a ++ b) = needVals a ++ needVals b := by simp [needVals]

/-- append of a slice of needs to a row that the call owns. -/
theorem wpList_append_needs {w : World} {ops : Array Oper} {rest : List Oper} {o : Oper} {a : Act} {Q : Exit → Act → World → Prop} (hgd : o.guard = none) (s x : Operand)
    (ho : o.op = .call { callee := .builtin .append, args := #[s, x], argTypes := #[31, 31] })
    (base : Nat) (v : Value) (n : Nat) (xs : List Value) (hs : a.eval s = v) (hown : w.ownsRow base 121 2 v n xs)
    (A : Option Addr) (cap : Nat) (l : List Need) (hx : a.eval x = .slice A l.length cap) (hsl : SlNeeds w (.slice A l.length cap) l) (hlen : n + l.length ≤ 100000) (hbase : base ≤ w.heap.size)
    (h : ∀ v' w', w'.ownsRow base 121 2 v' (n + l.length) (xs ++ needVals l) → w.grownBy w' v.ownBlock → wpList Tryd.prog ops Q rest (a.put o.dst v') w') : wpList Tryd.prog ops Q (o :: rest) a w := by
  obtain ⟨i0, hi, hz0, hz1, hz2⟩ := info_parts info_need
  cases A with
  | none =>
    have hc := SlAt.none hsl
    subst hc
    rcases SlNeeds.news hsl with rfl | ⟨ad, e, _⟩
    · refine wpList_append_own_none hgd s x _ ho base _ i0 2 Tryd.underlying31 hi v n xs hs hown hx (h _ _ (by simpa [needVals] using hown) ⟨rfl, rfl, rfl, Nat.le_refl _, fun _ _ _ => rfl⟩)
    · cases e
  | some ad =>
    have hnews : ∀ j u, (needVals l)[j]? = some u → w.cell? (ad.add j) = some u := by
      rcases SlNeeds.news hsl with rfl | ⟨ad', e, hj⟩
      · intro j u hu; simp [needVals] at hu
      · cases e; exact hj
    exact wpList_append_own w hgd s x _ ho base _ i0 _ 2 16 Tryd.underlying31 hi hz0 hz1 hz2 rfl (by decide) v n xs hs hown ad l.length cap (needVals l) hx (needVals_len l) hnews (needVals_one l) (by simp [maxLen]; omega) (by omega) hbase fun v' w' h1 h2 _ => h v' w' h1 h2

theorem concat_needs (b : Nat) (A1 A2 : Option Addr) (c1 c2 : Nat) (l1 l2 : List Need) (w : World) (k1 : w.cell? ⟨b, 0, none⟩ = some (.slice A1 l1.length c1)) (k2 : w.cell? ⟨b, 1, none⟩ = some (.slice A2 l2.length c2))
    (h1 : SlNeeds w (.slice A1 l1.length c1) l1) (h2 : SlNeeds w (.slice A2 l2.length c2) l2) (hlen : l1.length + l2.length ≤ 100000) :
    Calls Tryd.prog 121 #[.slice (some ⟨b, 0, none⟩) 2 2] w fun e w' => (∃ v, e = .returned v ∧ SlNeeds w' v (l1 ++ l2)) ∧ Gr w w' := by
  have H1 := Lib.hid h1
  have H2 := Lib.hid h2
  clear h1 h2
  have hb1 : (0 : Int) ≤ (l1.length : Int) + (l2.length : Int) := by omega
  go_enter Tryd.func121, Tryd.ntmps121
  go_wp2_with fail
  refine wp_loop_rounds 3 ?_
  rw [rounds_succ]
  go_wp2_with fail
  rw [rounds_succ]
  go_wp2_with fail
  rw [rounds_succ]
  go_wp2_with (go_at_call 153; (with_reducible refine (grow_needs (l1.length + l2.length) _ (by omega) _ (by omega)).mono ?_); rintro e w' ⟨⟨v, rfl, hown⟩, m, rfl⟩; have HO := Lib.hid hown; clear hown)
  refine wp_loop_rounds 3 ?_
  rw [rounds_succ]
  go_wp2_with (at_builtin; refine wpList_append_needs rfl _ _ rfl w.heap.size _ _ _ rfl HO.out A1 c1 l1 rfl (H1.out.gr (by repeat (first | exact Gr.refl _ | assumption | refine Gr.plus ?_ _ | refine Gr.alloc ?_ _ | refine Gr.drew ?_ | refine Gr.drewN ?_ _))) (by omega) (by simp) ?_)
  intro v1 w1 hown1 hg1
  have HO1 := Lib.hid hown1
  have hgr : Gr w w1 := Gr.grown (by repeat (first | exact Gr.refl _ | assumption | refine Gr.plus ?_ _ | refine Gr.alloc ?_ _ | refine Gr.drew ?_ | refine Gr.drewN ?_ _)) hg1 (own_base HO.out)
  clear hown1 hg1
  obtain ⟨m1, rfl⟩ := hgr
  go_wp2_with fail
  rw [rounds_succ]
  go_wp2_with (at_builtin; refine wpList_append_needs rfl _ _ rfl w.heap.size _ _ _ rfl HO1.out A2 c2 l2 rfl (H2.out.gr (by repeat (first | exact Gr.refl _ | assumption | refine Gr.plus ?_ _ | refine Gr.alloc ?_ _ | refine Gr.drew ?_ | refine Gr.drewN ?_ _))) (by omega) (by simp) ?_)
  intro v2 w2 hown2 hg2
  have HO2 := Lib.hid hown2
  have hgr : Gr w w2 := Gr.grown (by repeat (first | exact Gr.refl _ | assumption | refine Gr.plus ?_ _ | refine Gr.alloc ?_ _ | refine Gr.drew ?_ | refine Gr.drewN ?_ _)) hg2 (own_base HO1.out)
  clear hown2 hg2
  obtain ⟨m2, rfl⟩ := hgr
  go_wp2_with fail
  rw [rounds_succ]
  go_wp2_with fail
  go_ret
  refine ⟨⟨_, rfl, needs_slat (base := w.heap.size) (e := 121) ?_⟩, (by repeat (first | exact Gr.refl _ | assumption | refine Gr.plus ?_ _ | refine Gr.alloc ?_ _ | refine Gr.drew ?_ | refine Gr.drewN ?_ _))⟩
  have := HO2.out
  rw [needVals_append, List.length_append]
  simpa using this

theorem needs_any (w : World) (vl : Value) (L : Layout) (r : Nat) (hl : LayAt w vl L) (hr : r < L.rts.length) (hlen : (gR L.rts r).pts.length + (gR L.rts r).flk.length ≤ 100000) :
    Calls Tryd.prog 72 #[vl, .int .i64 r] w fun e w' => (∃ v, e = .returned v ∧ SlNeeds w' v (needsOf L r)) ∧ Gr w w' := by
  obtain ⟨As, cs, Ap, cp, Ag, cg, Ar, cr, rfl, -, -, -, hR, hb⟩ := hl.opened
  obtain ⟨b, off, Ax, cx, Aq, cq, Af, cf, rfl, c0, c1, c2, c3, c4, c5, hx, hq, hf⟩ := SlRts.el hR hr
  have HQ := Lib.hid hq
  have HF := Lib.hid hf
  clear hx hq hf c0 c1 c2 c3 hR
  have hk1 : (0 : Int) ≤ (r : Int) := by omega
  have hk2 : (r : Int) < (L.rts.length : Int) := by omega
  go_enter Tryd.func72, Tryd.ntmps72
  go_wp2_with fail
  refine wp_region_tail 12 (by kernel_rfl) (by kernel_rfl) ?_
  simp only [List.take_succ_cons, List.take_zero, List.drop_succ_cons, List.drop_zero]
  repeat still_step
  try refine wpStill_nil ?_
  go_wp2_with (go_at_call 121; (with_reducible refine (concat_needs _ Aq Af cq cf (gR L.rts r).pts (gR L.rts r).flk _ (by simp [go_sem]) (by simp [go_sem]) (HQ.out.gr (by repeat (first | exact Gr.refl _ | assumption | refine Gr.plus ?_ _ | refine Gr.alloc ?_ _ | refine Gr.drew ?_ | refine Gr.drewN ?_ _))) (HF.out.gr (by repeat (first | exact Gr.refl _ | assumption | refine Gr.plus ?_ _ | refine Gr.alloc ?_ _ | refine Gr.drew ?_ | refine Gr.drewN ?_ _))) hlen).mono ?_); rintro e w' ⟨⟨v, rfl, hv⟩, m, rfl⟩)
  go_ret
  exact ⟨⟨_, rfl, hv⟩, (by repeat (first | exact Gr.refl _ | assumption | refine Gr.plus ?_ _ | refine Gr.alloc ?_ _ | refine Gr.drew ?_ | refine Gr.drewN ?_ _))⟩
end Go.Proofs.YtnfceboppdcfdaaDoor
