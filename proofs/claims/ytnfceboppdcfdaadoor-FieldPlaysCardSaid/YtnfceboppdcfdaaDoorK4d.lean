/- The walks of table: the routes from a signal; tests handed over as functions. -/
import Derived.Test.YtnfceboppdcfdaaDoorK4c
import Derived.Deep.RegionHeld3
namespace Go.Proofs.YtnfceboppdcfdaaDoor
open Go.RowKit
set_option maxHeartbeats 4000000
set_option maxRecDepth 1000000

theorem indexFunc_ints_path (c : Value) (p : Int → Bool) (w : World) (v : Value) (l : List Int) (h : SlInts w v l)
    (hf : ∀ m n, Calls Tryd.prog 69 #[.int .i64 n, c] (w.plus m) fun e w' => e = .returned (.bool (p n)) ∧ Gr (w.plus m) w') :
    Calls Tryd.prog 118 #[v, .func (.func 69) #[] #[c]] w fun e w' => (∃ z : Int, e = .returned (.int .i64 z) ∧ decide (0 ≤ z) = anyB (fun j => p (gi l j)) l.length) ∧ Gr w w' := by
  obtain ⟨A, cap, rfl, hn, hcap⟩ := SlAt.open h
  have H := Lib.hid h
  clear h
  have HF := Lib.hid hf
  clear hf
  go_enter Tryd.func118, Tryd.ntmps118
  go_wp2
  go_loopw [8] (fun i wr => ∃ k : Nat, k ≤ l.length ∧ i = .int .i64 k ∧ anyB (fun j => p (gi l j)) k = false ∧ Gr w wr) (fun i _ => l.length - (intOf i).toNat)
  case atStart => exact ⟨0, by omega, rfl, rfl, Gr.refl _⟩
  case round =>
    obtain ⟨k, hk, rfl, hno, m, rfl⟩ := hrel
    have Hno := Lib.hid hno
    clear hno
    by_cases hlt : k < l.length
    · obtain ⟨b, off, rfl, hc⟩ := SlInts.el H.out hlt
      cases hq : p (gi l k)
      · go_wp2_with (go_at_call 69; (with_reducible refine (HF.out _ _).mono ?_); rintro e w' ⟨rfl, m, rfl⟩)
        exact ⟨⟨k + 1, by omega, by go_num, anyB_step Hno.out hq, (by repeat (first | exact Gr.refl _ | assumption | refine Gr.plus ?_ _ | refine Gr.alloc ?_ _ | refine Gr.drew ?_ | refine Gr.drewN ?_ _))⟩, by simp [intOf]; omega⟩
      · go_wp2_with (go_at_call 69; (with_reducible refine (HF.out _ _).mono ?_); rintro e w' ⟨rfl, m, rfl⟩)
        go_ret
        exact ⟨⟨_, rfl, by rw [anyB_true hlt hq]; simp⟩, (by repeat (first | exact Gr.refl _ | assumption | refine Gr.plus ?_ _ | refine Gr.alloc ?_ _ | refine Gr.drew ?_ | refine Gr.drewN ?_ _))⟩
    · go_wp2_with fail
      go_ret
      obtain rfl : k = l.length := by omega
      exact ⟨⟨_, rfl, by rw [Hno.out]; rfl⟩, (by repeat (first | exact Gr.refl _ | assumption | refine Gr.plus ?_ _ | refine Gr.alloc ?_ _ | refine Gr.drew ?_ | refine Gr.drewN ?_ _))⟩

theorem containsFunc_ints_path (c : Value) (p : Int → Bool) (w : World) (v : Value) (l : List Int) (h : SlInts w v l)
    (hf : ∀ m n, Calls Tryd.prog 69 #[.int .i64 n, c] (w.plus m) fun e w' => e = .returned (.bool (p n)) ∧ Gr (w.plus m) w') :
    Calls Tryd.prog 68 #[v, .func (.func 69) #[] #[c]] w fun e w' => e = .returned (.bool (anyB (fun j => p (gi l j)) l.length)) ∧ Gr w w' := by
  go_enter Tryd.func68, Tryd.ntmps68
  go_wp2_with (go_at_call 118; refine (indexFunc_ints_path c p _ _ _ h hf).mono ?_; rintro e w' ⟨⟨z, rfl, hz⟩, m, rfl⟩)
  go_ret
  exact ⟨rfl, (by repeat (first | exact Gr.refl _ | assumption | refine Gr.plus ?_ _ | refine Gr.alloc ?_ _ | refine Gr.drew ?_ | refine Gr.drewN ?_ _))⟩

theorem sharesFn (w : World) (b : Nat) (v : Value) (l : List Int) (n : Int) (hc : w.cell? ⟨b, 3, none⟩ = some v) (h : SlInts w v l) :
    Calls Tryd.prog 69 #[.int .i64 n, .pointer (some ⟨b, 0, none⟩)] w fun e w' => e = .returned (.bool (inI l n)) ∧ Gr w w' := by
  obtain ⟨A, cap, rfl, hn, hcap⟩ := SlAt.open h
  have H := Lib.hid h
  clear h
  go_enter Tryd.func69, Tryd.ntmps69
  go_wp2_with (go_at_call 70; (with_reducible refine (contains_ints _ _ l _ (H.out.gr (by repeat (first | exact Gr.refl _ | assumption | refine Gr.plus ?_ _ | refine Gr.alloc ?_ _ | refine Gr.drew ?_ | refine Gr.drewN ?_ _)))).mono ?_); rintro e w' ⟨rfl, m, rfl⟩)
  go_ret
  exact ⟨rfl, (by repeat (first | exact Gr.refl _ | assumption | refine Gr.plus ?_ _ | refine Gr.alloc ?_ _ | refine Gr.drew ?_ | refine Gr.drewN ?_ _))⟩


theorem index_needs (w : World) (v : Value) (l : List Need) (x : Int) (r : Bool) (h : SlNeeds w v l) :
    Calls Tryd.prog 122 #[v, .agg #[.int .i64 x, .bool r]] w fun e w' => (∃ z : Int, e = .returned (.int .i64 z) ∧ decide (0 ≤ z) = inN l x r) ∧ Gr w w' := by
  obtain ⟨A, cap, rfl, hn, hcap⟩ := SlAt.open h
  have H := Lib.hid h
  clear h
  go_enter Tryd.func122, Tryd.ntmps122
  go_wp2
  go_loopw [8] (fun i wr => ∃ k : Nat, k ≤ l.length ∧ i = .int .i64 k ∧ anyB (fun j => (gN l j).p == x && (gN l j).r == r) k = false ∧ Gr (w.alloc (.cells #[.int .i64 x, .bool r] 121)) wr) (fun i _ => l.length - (intOf i).toNat)
  case atStart => exact ⟨0, by omega, rfl, rfl, Gr.refl _⟩
  case round =>
    obtain ⟨k, hk, rfl, hno, m, rfl⟩ := hrel
    have Hno := Lib.hid hno
    clear hno
    by_cases hlt : k < l.length
    · obtain ⟨b, off, rfl, hc, hc'⟩ := SlNeeds.el H.out hlt
      have hk1 : (0 : Int) ≤ (k : Int) := by omega
      have hk2 : (k : Int) < (l.length : Int) := by omega
      cases hq1 : (x == (gN l k).p) <;> cases hq2 : (r == (gN l k).r)
      all_goals
        go_wp2
        refine wp_region_gr (by kernel_rfl) (by kernel_rfl) ?_
        repeat (go_big_quiet_step (fail))
        refine wpQuiet_nil ?_
        rintro _ ⟨mq, rfl⟩
        go_wp2_with fail
        first
          | (go_ret; exact ⟨⟨_, rfl, by rw [inN, anyB_true hlt (by simp only [Bool.and_eq_true]; exact ⟨by rw [Bool.beq_comm]; exact hq1, by rw [Bool.beq_comm]; exact hq2⟩)]; simp⟩, (by repeat (first | exact Gr.refl _ | assumption | refine Gr.plus ?_ _ | refine Gr.alloc ?_ _ | refine Gr.drew ?_ | refine Gr.drewN ?_ _))⟩)
          | exact ⟨⟨k + 1, by omega, by go_num, anyB_step Hno.out (by rw [Bool.beq_comm] at hq1 hq2; simp [hq1, hq2]), (by repeat (first | exact Gr.refl _ | assumption | refine Gr.plus ?_ _ | refine Gr.alloc ?_ _ | refine Gr.drew ?_ | refine Gr.drewN ?_ _))⟩, by simp [intOf]; omega⟩
          | skip
    · go_wp2
      go_ret
      obtain rfl : k = l.length := by omega
      exact ⟨⟨_, rfl, by rw [inN, Hno.out]; rfl⟩, (by repeat (first | exact Gr.refl _ | assumption | refine Gr.plus ?_ _ | refine Gr.alloc ?_ _ | refine Gr.drew ?_ | refine Gr.drewN ?_ _))⟩

theorem contains_needs (w : World) (v : Value) (l : List Need) (x : Int) (r : Bool) (h : SlNeeds w v l) :
    Calls Tryd.prog 74 #[v, .agg #[.int .i64 x, .bool r]] w fun e w' => e = .returned (.bool (inN l x r)) ∧ Gr w w' := by
  go_enter Tryd.func74, Tryd.ntmps74
  go_wp2_with (go_at_call 122; (with_reducible refine (index_needs _ _ _ _ _ (h.gr (by repeat (first | exact Gr.refl _ | assumption | refine Gr.plus ?_ _ | refine Gr.alloc ?_ _ | refine Gr.drew ?_ | refine Gr.drewN ?_ _)))).mono ?_); rintro e w' ⟨⟨z, rfl, hz⟩, m, rfl⟩)
  go_ret
  exact ⟨rfl, (by repeat (first | exact Gr.refl _ | assumption | refine Gr.plus ?_ _ | refine Gr.alloc ?_ _ | refine Gr.drew ?_ | refine Gr.drewN ?_ _))⟩

theorem unlikeFn (w : World) (bl bs : Nat) (As cs Ap cp Ag cg Ar cr) (L : Layout) (s : Nat) (x : Int) (r : Bool)
    (k0 : w.cell? ⟨bl, 0, none⟩ = some (.slice As L.secs.length cs)) (k1 : w.cell? ⟨bl, 1, none⟩ = some (.slice Ap L.pts.length cp)) (k2 : w.cell? ⟨bl, 2, none⟩ = some (.slice Ag L.sigs.length cg)) (k3 : w.cell? ⟨bl, 3, none⟩ = some (.slice Ar L.rts.length cr))
    (k4 : w.cell? ⟨bs, 0, none⟩ = some (.int .i64 s))
    (hl : LayAt w (.agg #[.slice As L.secs.length cs, .slice Ap L.pts.length cp, .slice Ag L.sigs.length cg, .slice Ar L.rts.length cr]) L) (hs : s < L.rts.length) (hlen : (gR L.rts s).pts.length + (gR L.rts s).flk.length ≤ 100000) :
    Calls Tryd.prog 73 #[.agg #[.int .i64 x, .bool r], .pointer (some ⟨bl, 0, none⟩), .pointer (some ⟨bs, 0, none⟩)] w fun e w' => e = .returned (.bool (inN (needsOf L s) x !r)) ∧ Gr w w' := by
  have HL := Lib.hid hl
  clear hl
  go_enter Tryd.func73, Tryd.ntmps73
  go_wp2_with fail
  go_region_held3 (fun w' => w'.cell? ⟨bl, 0, none⟩ = some (.slice As L.secs.length cs) ∧ w'.cell? ⟨bl, 1, none⟩ = some (.slice Ap L.pts.length cp) ∧ w'.cell? ⟨bl, 2, none⟩ = some (.slice Ag L.sigs.length cg) ∧ w'.cell? ⟨bl, 3, none⟩ = some (.slice Ar L.rts.length cr) ∧ w'.cell? ⟨bs, 0, none⟩ = some (.int .i64 s) ∧ w'.cell? ⟨w.heap.size, 0, none⟩ = some (.int .i64 x) ∧ w'.cell? ⟨w.heap.size, 1, none⟩ = some (.bool r)) (first | (refine ⟨?_, ?_, ?_, ?_, ?_, ?_, ?_⟩ <;> simp [go_sem, *])) (first | (go_at_call 72; (with_reducible refine (needs_any _ _ L s (HL.out.gr (by repeat (first | exact Gr.refl _ | assumption | refine Gr.plus ?_ _ | refine Gr.alloc ?_ _ | refine Gr.drew ?_ | refine Gr.drewN ?_ _))) hs hlen).mono ?_); rintro e w' ⟨⟨v, rfl, hv⟩, m, rfl⟩; try simp only [plus_drew, plus_drewN] at hv) | (go_at_call 74; (with_reducible refine (contains_needs _ _ (needsOf L s) _ _ hv).mono ?_); rintro e w' ⟨rfl, m, rfl⟩))
  all_goals
    go_wp2_with fail
    go_ret
    exact ⟨rfl, (by repeat (first | exact Gr.refl _ | assumption | refine Gr.plus ?_ _ | refine Gr.alloc ?_ _ | refine Gr.drew ?_ | refine Gr.drewN ?_ _))⟩
/-- A test on needs that is handed over. -/
theorem indexFunc_needs (c1 c2 : Value) (p : Int → Bool → Bool) (w : World) (v : Value) (l : List Need) (h : SlNeeds w v l)
    (hf : ∀ m n r, Calls Tryd.prog 73 #[.agg #[.int .i64 n, .bool r], c1, c2] (w.plus m) fun e w' => e = .returned (.bool (p n r)) ∧ Gr (w.plus m) w') :
    Calls Tryd.prog 120 #[v, .func (.func 73) #[] #[c1, c2]] w fun e w' => (∃ z : Int, e = .returned (.int .i64 z) ∧ decide (0 ≤ z) = anyB (fun j => p (gN l j).p (gN l j).r) l.length) ∧ Gr w w' := by
  obtain ⟨A, cap, rfl, hn, hcap⟩ := SlAt.open h
  have H := Lib.hid h
  clear h
  have HF := Lib.hid hf
  clear hf
  go_enter Tryd.func120, Tryd.ntmps120
  go_wp2
  go_loopw [8] (fun i wr => ∃ k : Nat, k ≤ l.length ∧ i = .int .i64 k ∧ anyB (fun j => p (gN l j).p (gN l j).r) k = false ∧ Gr w wr) (fun i _ => l.length - (intOf i).toNat)
  case atStart => exact ⟨0, by omega, rfl, rfl, Gr.refl _⟩
  case round =>
    obtain ⟨k, hk, rfl, hno, m, rfl⟩ := hrel
    have Hno := Lib.hid hno
    clear hno
    by_cases hlt : k < l.length
    · obtain ⟨b, off, rfl, hc, hc'⟩ := SlNeeds.el H.out hlt
      cases hq : p (gN l k).p (gN l k).r
      · go_wp2_with (go_at_call 73; (with_reducible refine (HF.out _ _ _).mono ?_); rintro e w' ⟨rfl, m, rfl⟩)
        exact ⟨⟨k + 1, by omega, by go_num, anyB_step Hno.out hq, (by repeat (first | exact Gr.refl _ | assumption | refine Gr.plus ?_ _ | refine Gr.alloc ?_ _ | refine Gr.drew ?_ | refine Gr.drewN ?_ _))⟩, by simp [intOf]; omega⟩
      · go_wp2_with (go_at_call 73; (with_reducible refine (HF.out _ _ _).mono ?_); rintro e w' ⟨rfl, m, rfl⟩)
        go_ret
        exact ⟨⟨_, rfl, by rw [anyB_true (p := fun j => p (gN l j).p (gN l j).r) hlt hq]; simp⟩, (by repeat (first | exact Gr.refl _ | assumption | refine Gr.plus ?_ _ | refine Gr.alloc ?_ _ | refine Gr.drew ?_ | refine Gr.drewN ?_ _))⟩
    · go_wp2_with fail
      go_ret
      obtain rfl : k = l.length := by omega
      exact ⟨⟨_, rfl, by rw [Hno.out]; rfl⟩, (by repeat (first | exact Gr.refl _ | assumption | refine Gr.plus ?_ _ | refine Gr.alloc ?_ _ | refine Gr.drew ?_ | refine Gr.drewN ?_ _))⟩

theorem containsFunc_needs (c1 c2 : Value) (p : Int → Bool → Bool) (w : World) (v : Value) (l : List Need) (h : SlNeeds w v l)
    (hf : ∀ m n r, Calls Tryd.prog 73 #[.agg #[.int .i64 n, .bool r], c1, c2] (w.plus m) fun e w' => e = .returned (.bool (p n r)) ∧ Gr (w.plus m) w') :
    Calls Tryd.prog 71 #[v, .func (.func 73) #[] #[c1, c2]] w fun e w' => e = .returned (.bool (anyB (fun j => p (gN l j).p (gN l j).r) l.length)) ∧ Gr w w' := by
  go_enter Tryd.func71, Tryd.ntmps71
  go_wp2_with (go_at_call 120; refine (indexFunc_needs c1 c2 p _ _ _ h hf).mono ?_; rintro e w' ⟨⟨z, rfl, hz⟩, m, rfl⟩)
  go_ret
  exact ⟨rfl, (by repeat (first | exact Gr.refl _ | assumption | refine Gr.plus ?_ _ | refine Gr.alloc ?_ _ | refine Gr.drew ?_ | refine Gr.drewN ?_ _))⟩
end Go.Proofs.YtnfceboppdcfdaaDoor
