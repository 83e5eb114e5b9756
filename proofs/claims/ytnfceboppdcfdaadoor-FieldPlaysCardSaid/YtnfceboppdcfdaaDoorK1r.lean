/- The walks of the reference's glyph: runes, names. -/
import Derived.Test.YtnfceboppdcfdaaDoorK1
namespace Go.Proofs.YtnfceboppdcfdaaDoor
open Go.RowKit
set_option maxHeartbeats 4000000
set_option maxRecDepth 1000000

theorem info_rune : (Tryd.prog.info? 236).map (fun i => (i.zero, i.size, i.bytes)) = some (some (.agg #[.int .i32 0, .int .i64 0, .bool false]), 3, 24) := by kernel_rfl

theorem runes_any (s : ByteArray) (w : World) (hT : Tabs w) (hs : s.size ≤ 3000) :
    Calls Tryd.prog 169 #[.string s] w fun e w' => (∃ v, e = .returned v ∧ SlRunes w' v (runesOf s)) ∧ Gr w w' := by
  obtain ⟨i0, hi, hz0, hz1, hz2⟩ := info_parts info_rune
  go_enter Tryd.func169, Tryd.ntmps169
  go_wp2
  go_loopw [3, 4] (fun v i wr => ∃ (pos f : Nat) (acc : List (Nat × Nat)), i = .int .i64 pos ∧ pos ≤ s.size ∧ s.size ≤ pos + f ∧ acc.length ≤ pos ∧ acc ++ runesFrom s f pos = runesOf s ∧ wr.ownsRow w.heap.size 236 3 v acc.length (runeVals acc) ∧ Gr w wr) (fun _ i _ => s.size - (intOf i).toNat)
  case atStart => exact ⟨0, s.size, [], rfl, by omega, by omega, by simp, rfl, World.ownsRow_nil w _ _ _, Gr.refl _⟩
  case round =>
    obtain ⟨pos, f, acc, rfl, hps, hf, hac, hrun, hown, hg⟩ := hrel
    have HR := Lib.hid hrun
    have HO := Lib.hid hown
    clear hrun hown
    by_cases hp : pos < s.size
    · obtain ⟨f, rfl⟩ : ∃ g, f = g + 1 := ⟨f - 1, by omega⟩
      have hd := decode_tail s pos hp
      have hwd := width_pos s pos hp
      have hwl := width_le s pos hp
      have hrf : runesFrom s (f + 1) pos = Utf8.decode s pos :: runesFrom s f (pos + (Utf8.decode s pos).2) := by simp [runesFrom, hp]
      obtain ⟨r, n, hrn⟩ : ∃ r n, Utf8.decode s pos = (r, n) := ⟨_, _, rfl⟩
      rw [hrn] at hd hwd hwl hrf
      simp only at hwd hwl hrf
      have hcall := fun w hT => decode_any (s.extract pos s.size) w hT
      rw [hd] at hcall
      have HC := Lib.hid hcall
      have HRF := Lib.hid hrf
      clear hcall hd hrn hrf
      have hbad : ∀ b c, ((r : Int) == 65533) = b → ((n : Int) == 1) = c → badR (r, n) = (b && c) := fun b c h1 h2 => by
        subst h1; subst h2; unfold badR; rw [Bool.eq_iff_iff]; simp only [Bool.and_eq_true, beq_iff_eq]; omega
      have HB := Lib.hid hbad
      clear hbad
      cases h1 : ((r : Int) == 65533) <;> cases h2 : ((n : Int) == 1)
      all_goals
        have Hb := Lib.hid (HB.out _ _ h1 h2)
        go_wp2_with (first | (go_at_call 180; (with_reducible refine (HC.out _ (hT.gr (by repeat (first | exact Gr.refl _ | assumption | refine Gr.plus ?_ _ | refine Gr.alloc ?_ _ | refine Gr.drew ?_ | refine Gr.drewN ?_ _)))).mono ?_); rintro e w' ⟨rfl, m, rfl⟩) | (at_builtin; refine wpList_append_own _ rfl _ _ 233 rfl w.heap.size 236 i0 _ 3 24 Tryd.underlying233 hi hz0 hz1 hz2 rfl (by decide) _ _ _ rfl (own_gr HO.out (by repeat (first | exact Gr.refl _ | assumption | refine Gr.plus ?_ _ | refine Gr.alloc ?_ _ | refine Gr.drew ?_ | refine Gr.drewN ?_ _))) ⟨_, 0, none⟩ 1 1 [.int .i32 r, .int .i64 n, .bool (badR (r, n))] rfl rfl ?c1 ?c2 ?c3 ?c4 ?c5 ?_))
        case c1 => rw [Hb.out]; exact new_cells (by simp)
        case c2 => simp [Value.oneCell']
        case c3 => simp [maxLen]; omega
        case c4 => omega
        case c5 => simp; have := hg.size; omega
        intro v' w1 hown' hgrow _
        have HO2 := Lib.hid hown'
        have hg2 : Gr w w1 := Gr.grown (by repeat (first | exact Gr.refl _ | assumption | refine Gr.plus ?_ _ | refine Gr.alloc ?_ _ | refine Gr.drew ?_ | refine Gr.drewN ?_ _)) hgrow (own_base HO.out)
        clear hown' hgrow
        go_wp2
        go_roundw
        case rel => exact ⟨pos + n, f, acc ++ [(r, n)], by go_num, by omega, by omega, by simp; omega, by rw [← HR.out, HRF.out]; simp, by rw [runeVals_snoc]; simpa using HO2.out, hg2⟩
        case measure => simp [intOf]; omega
    · go_wp2
      go_ret
      have := HR.out
      rw [runesFrom_end s f pos hp, List.append_nil] at this
      subst this
      exact ⟨⟨_, rfl, runes_slat HO.out⟩, hg⟩

theorem refLetter_any (r : Nat) (w : World) (hr : r ≤ 2147483647) :
    Calls Tryd.prog 170 #[.int .i32 r] w fun e w' => e = .returned (.bool (letterB r)) ∧ Gr w w' := by
  cases h1 : ((r : Int) == 215) <;> cases h2 : ((r : Int) == 247)
  all_goals
    go_enter Tryd.func170, Tryd.ntmps170
    go_wp2
    all_goals (go_ret; refine ⟨ret_bool ?_, (by repeat (first | exact Gr.refl _ | assumption | refine Gr.plus ?_ _ | refine Gr.alloc ?_ _ | refine Gr.drew ?_ | refine Gr.drewN ?_ _))⟩)
    all_goals (simp only [beq_iff_eq, beq_eq_false_iff_ne] at h1 h2; unfold letterB; rw [Bool.eq_iff_iff]; simp; omega)

theorem refIsName_any (s : ByteArray) (w : World) (hT : Tabs w) (hs : s.size ≤ 3000) :
    Calls Tryd.prog 152 #[.string s] w fun e w' => e = .returned (.bool (isNameB s)) ∧ Gr w w' := by
  have hlen : (runesOf s).length ≤ 3000 := Nat.le_trans (runesFrom_len s _ _) hs
  have hn := isName_runes s
  have hrl : ∀ i, i < (runesOf s).length → (gr2 (runesOf s) i).1 ≤ 2147483647 := runes_small s
  have hcall := fun w hT => runes_any s w hT hs
  generalize runesOf s = l at hlen hn hrl hcall
  have HC := Lib.hid hcall
  have HN := Lib.hid hn
  have HRL := Lib.hid hrl
  clear hcall hn hrl
  go_enter Tryd.func152, Tryd.ntmps152
  go_wp2_with (go_at_call 169; (with_reducible refine (HC.out _ hT).mono ?_); rintro e w' ⟨⟨v, rfl, hv⟩, m, rfl⟩; obtain ⟨A, cap, rfl, hlc, hcap⟩ := SlAt.open hv; have HV := Lib.hid hv; clear hv)
  go_loopw [4] (fun i wr => ∃ k : Nat, i = .int .i64 k ∧ k ≤ l.length ∧ anyB (runeOut l) k = false ∧ Gr (w.plus m) wr) (fun i _ => l.length - (intOf i).toNat)
  case atStart => exact ⟨0, rfl, by omega, rfl, Gr.refl _⟩
  case round =>
    obtain ⟨k, rfl, hk, hno, m2, rfl⟩ := hrel
    have HNO := Lib.hid hno
    clear hno
    by_cases hlt : k < l.length
    · obtain ⟨b, off, rfl, hc0, hc1, hc2⟩ := SlRunes.el HV.out hlt
      have hsm := HRL.out k hlt
      have hbad : runeOut l k = true → isNameB s = false := fun h => by rw [← HN.out]; unfold isNameL; rw [anyB_true hlt h]; rfl
      have HBAD := Lib.hid hbad
      clear hbad
      cases hb : badR (gr2 l k) <;> cases hL : letterB (gr2 l k).1 <;> cases hz : ((k : Int) == 0)
      all_goals
        have HKZ := Lib.hid ((Bool.eq_iff_iff.2 (by simp only [beq_iff_eq]; omega) : (k == 0) = ((k : Int) == 0)).trans hz)
        go_wp2_with (go_at_call 170; (with_reducible refine (refLetter_any _ _ hsm).mono ?_); rintro e w' ⟨rfl, m, rfl⟩)
        all_goals first
          | (go_ret; exact ⟨ret_bool (HBAD.out (by unfold runeOut digitB; rw [HKZ.out, hb, hL]; simp <;> omega)).symm, (by repeat (first | exact Gr.refl _ | assumption | refine Gr.plus ?_ _ | refine Gr.alloc ?_ _ | refine Gr.drew ?_ | refine Gr.drewN ?_ _))⟩)
          | exact ⟨⟨k + 1, by go_num, by omega, anyB_step HNO.out (by unfold runeOut digitB; rw [HKZ.out, hb, hL]; simp <;> omega), (by repeat (first | exact Gr.refl _ | assumption | refine Gr.plus ?_ _ | refine Gr.alloc ?_ _ | refine Gr.drew ?_ | refine Gr.drewN ?_ _))⟩, by simp [intOf]; omega⟩
    · obtain rfl : k = l.length := by omega
      go_wp2
      all_goals
        go_ret
        refine ⟨ret_bool ?_, (by repeat (first | exact Gr.refl _ | assumption | refine Gr.plus ?_ _ | refine Gr.alloc ?_ _ | refine Gr.drew ?_ | refine Gr.drewN ?_ _))⟩
        rw [← HN.out]
        unfold isNameL
        rw [HNO.out, Bool.eq_iff_iff]
        simp
        omega
end Go.Proofs.YtnfceboppdcfdaaDoor
