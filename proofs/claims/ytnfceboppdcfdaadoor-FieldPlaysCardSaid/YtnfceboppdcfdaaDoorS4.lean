/- What chapter 4 (table) comes to: plain functions. -/
import Derived.Test.YtnfceboppdcfdaaDoorS1
namespace Go.Proofs.YtnfceboppdcfdaaDoor
open Go.RowKit

structure Need where
  p : Int
  r : Bool
structure Pt where
  name : ByteArray
  sec : Int
structure Route where
  name : ByteArray
  frm : Int
  to : Int
  path : List Int
  pts : List Need
  flk : List Need
structure Layout where
  secs : List ByteArray
  pts : List Pt
  sigs : List ByteArray
  rts : List Route

def gN (l : List Need) (j : Nat) : Need := l.getD j ⟨0, false⟩
def gP (l : List Pt) (j : Nat) : Pt := l.getD j ⟨ByteArray.empty, 0⟩
def gR (l : List Route) (j : Nat) : Route := l.getD j ⟨ByteArray.empty, 0, 0, [], [], []⟩

/-- Cells of rows of structs. -/
def needCell (l : List Need) (j : Nat) : Value := if j % 2 = 0 then .int .i64 (gN l (j / 2)).p else .bool (gN l (j / 2)).r
def SlNeeds (w : World) (v : Value) (l : List Need) : Prop := SlAt w v l.length 2 (needCell l)
def ptCell (l : List Pt) (j : Nat) : Value := if j % 2 = 0 then .string (gP l (j / 2)).name else .int .i64 (gP l (j / 2)).sec
def SlPts (w : World) (v : Value) (l : List Pt) : Prop := SlAt w v l.length 2 (ptCell l)
/-- A route that is read: its six cells. -/
structure RtAt (w : World) (c : Nat → Value) (r : Route) : Prop where
  name : c 0 = .string r.name
  frm : c 1 = .int .i64 r.frm
  to : c 2 = .int .i64 r.to
  path : SlInts w (c 3) r.path
  pts : SlNeeds w (c 4) r.pts
  flk : SlNeeds w (c 5) r.flk
def SlRts (w : World) (v : Value) (l : List Route) : Prop :=
  ∃ c : Nat → Value, SlAt w v l.length 6 c ∧ ∀ i, i < l.length → RtAt w (fun j => c (i * 6 + j)) (gR l i)
structure LayAt (w : World) (v : Value) (L : Layout) : Prop where
  mk :: (ex : ∃ s p g r, v = .agg #[s, p, g, r] ∧ SlStrs w s L.secs ∧ SlPts w p L.pts ∧ SlStrs w g L.sigs ∧ SlRts w r L.rts)

/-- A route, as a value. -/
def RtV (w : World) (v : Value) (r : Route) : Prop :=
  ∃ Ap cp Aq cq Af cf, v = .agg #[.string r.name, .int .i64 r.frm, .int .i64 r.to, .slice Ap r.path.length cp, .slice Aq r.pts.length cq, .slice Af r.flk.length cf] ∧
    SlInts w (.slice Ap r.path.length cp) r.path ∧ SlNeeds w (.slice Aq r.pts.length cq) r.pts ∧ SlNeeds w (.slice Af r.flk.length cf) r.flk
theorem RtAt.gr {w w' : World} {c : Nat → Value} {r : Route} (h : RtAt w c r) (g : Gr w w') : RtAt w' c r :=
  ⟨h.name, h.frm, h.to, SlAt.gr h.path g, SlAt.gr h.pts g, SlAt.gr h.flk g⟩
theorem SlNeeds.gr {w w' : World} {v : Value} {l : List Need} (h : SlNeeds w v l) (g : Gr w w') : SlNeeds w' v l := SlAt.gr h g
theorem SlPts.gr {w w' : World} {v : Value} {l : List Pt} (h : SlPts w v l) (g : Gr w w') : SlPts w' v l := SlAt.gr h g
theorem SlRts.gr {w w' : World} {v : Value} {l : List Route} (h : SlRts w v l) (g : Gr w w') : SlRts w' v l := by
  obtain ⟨c, h1, h2⟩ := h
  exact ⟨c, SlAt.gr h1 g, fun i hi => (h2 i hi).gr g⟩
theorem LayAt.gr {w w' : World} {v : Value} {L : Layout} (h : LayAt w v L) (g : Gr w w') : LayAt w' v L := by
  obtain ⟨s, p, gg, r, e, h1, h2, h3, h4⟩ := h.ex
  exact ⟨s, p, gg, r, e, SlAt.gr h1 g, SlAt.gr h2 g, SlAt.gr h3 g, SlRts.gr h4 g⟩

theorem SlNeeds.el {w : World} {A : Option Addr} {n cap : Nat} {l : List Need} (h : SlNeeds w (.slice A n cap) l) {k : Nat} (hk : k < l.length) :
    ∃ b off, A = some ⟨b, off, none⟩ ∧ w.cell? ⟨b, off + k * 2, none⟩ = some (.int .i64 (gN l k).p) ∧ w.cell? ⟨b, off + k * 2 + 1, none⟩ = some (.bool (gN l k).r) := by
  obtain ⟨b, off, hA, hj⟩ := SlAt.el h hk
  refine ⟨b, off, hA, ?_, ?_⟩
  · rw [show off + k * 2 = off + (k * 2 + 0) by omega, hj 0 (by omega)]; unfold needCell; rw [if_pos (by omega), show (k * 2 + 0) / 2 = k by omega]
  · rw [show off + k * 2 + 1 = off + (k * 2 + 1) by omega, hj 1 (by omega)]; unfold needCell; rw [if_neg (by omega), show (k * 2 + 1) / 2 = k by omega]
theorem SlPts.el {w : World} {A : Option Addr} {n cap : Nat} {l : List Pt} (h : SlPts w (.slice A n cap) l) {k : Nat} (hk : k < l.length) :
    ∃ b off, A = some ⟨b, off, none⟩ ∧ w.cell? ⟨b, off + k * 2, none⟩ = some (.string (gP l k).name) ∧ w.cell? ⟨b, off + k * 2 + 1, none⟩ = some (.int .i64 (gP l k).sec) := by
  obtain ⟨b, off, hA, hj⟩ := SlAt.el h hk
  refine ⟨b, off, hA, ?_, ?_⟩
  · rw [show off + k * 2 = off + (k * 2 + 0) by omega, hj 0 (by omega)]; unfold ptCell; rw [if_pos (by omega), show (k * 2 + 0) / 2 = k by omega]
  · rw [show off + k * 2 + 1 = off + (k * 2 + 1) by omega, hj 1 (by omega)]; unfold ptCell; rw [if_neg (by omega), show (k * 2 + 1) / 2 = k by omega]
/-- A route's cells in its row, its slices named. -/
theorem SlRts.el {w : World} {A : Option Addr} {n cap : Nat} {l : List Route} (h : SlRts w (.slice A n cap) l) {k : Nat} (hk : k < l.length) :
    ∃ b off Ap cp Aq cq Af cf, A = some ⟨b, off, none⟩ ∧ w.cell? ⟨b, off + k * 6, none⟩ = some (.string (gR l k).name) ∧ w.cell? ⟨b, off + k * 6 + 1, none⟩ = some (.int .i64 (gR l k).frm) ∧
      w.cell? ⟨b, off + k * 6 + 2, none⟩ = some (.int .i64 (gR l k).to) ∧ w.cell? ⟨b, off + k * 6 + 3, none⟩ = some (.slice Ap (gR l k).path.length cp) ∧
      w.cell? ⟨b, off + k * 6 + 4, none⟩ = some (.slice Aq (gR l k).pts.length cq) ∧ w.cell? ⟨b, off + k * 6 + 5, none⟩ = some (.slice Af (gR l k).flk.length cf) ∧
      SlInts w (.slice Ap (gR l k).path.length cp) (gR l k).path ∧ SlNeeds w (.slice Aq (gR l k).pts.length cq) (gR l k).pts ∧ SlNeeds w (.slice Af (gR l k).flk.length cf) (gR l k).flk := by
  obtain ⟨c, h1, h2⟩ := h
  obtain ⟨b, off, hA, hj⟩ := SlAt.el h1 hk
  have hr := h2 k hk
  obtain ⟨Ap, cp, e3, -, -⟩ := SlAt.open hr.path
  obtain ⟨Aq, cq, e4, -, -⟩ := SlAt.open hr.pts
  obtain ⟨Af, cf, e5, -, -⟩ := SlAt.open hr.flk
  refine ⟨b, off, Ap, cp, Aq, cq, Af, cf, hA, ?_, ?_, ?_, ?_, ?_, ?_, e3 ▸ hr.path, e4 ▸ hr.pts, e5 ▸ hr.flk⟩
  · rw [show off + k * 6 = off + (k * 6 + 0) by omega, hj 0 (by omega)]; exact congrArg some hr.name
  · rw [show off + k * 6 + 1 = off + (k * 6 + 1) by omega, hj 1 (by omega)]; exact congrArg some hr.frm
  · rw [show off + k * 6 + 2 = off + (k * 6 + 2) by omega, hj 2 (by omega)]; exact congrArg some hr.to
  · rw [show off + k * 6 + 3 = off + (k * 6 + 3) by omega, hj 3 (by omega)]; exact congrArg some e3
  · rw [show off + k * 6 + 4 = off + (k * 6 + 4) by omega, hj 4 (by omega)]; exact congrArg some e4
  · rw [show off + k * 6 + 5 = off + (k * 6 + 5) by omega, hj 5 (by omega)]; exact congrArg some e5
theorem LayAt.opened {w : World} {v : Value} {L : Layout} (h : LayAt w v L) : ∃ As cs Ap cp Ag cg Ar cr, v = .agg #[.slice As L.secs.length cs, .slice Ap L.pts.length cp, .slice Ag L.sigs.length cg, .slice Ar L.rts.length cr] ∧
    SlStrs w (.slice As L.secs.length cs) L.secs ∧ SlPts w (.slice Ap L.pts.length cp) L.pts ∧ SlStrs w (.slice Ag L.sigs.length cg) L.sigs ∧ SlRts w (.slice Ar L.rts.length cr) L.rts ∧
    (L.secs.length ≤ 9223372036854775807 ∧ L.pts.length ≤ 9223372036854775807 ∧ L.sigs.length ≤ 9223372036854775807 ∧ L.rts.length ≤ 9223372036854775807) := by
  obtain ⟨s, p, g, r, rfl, h1, h2, h3, h4⟩ := h.ex
  obtain ⟨As, cs, rfl, l1, l1'⟩ := SlAt.open h1
  obtain ⟨Ap, cp, rfl, l2, l2'⟩ := SlAt.open h2
  obtain ⟨Ag, cg, rfl, l3, l3'⟩ := SlAt.open h3
  obtain ⟨c, h5, h6⟩ := h4
  obtain ⟨Ar, cr, rfl, l4, l4'⟩ := SlAt.open h5
  exact ⟨As, cs, Ap, cp, Ag, cg, Ar, cr, rfl, h1, h2, h3, ⟨c, h5, h6⟩, by omega, by omega, by omega, by omega⟩
theorem LayAt.shut {w : World} {L : Layout} {As cs Ap cp Ag cg Ar cr} (h1 : SlStrs w (.slice As L.secs.length cs) L.secs) (h2 : SlPts w (.slice Ap L.pts.length cp) L.pts) (h3 : SlStrs w (.slice Ag L.sigs.length cg) L.sigs) (h4 : SlRts w (.slice Ar L.rts.length cr) L.rts) :
    LayAt w (.agg #[.slice As L.secs.length cs, .slice Ap L.pts.length cp, .slice Ag L.sigs.length cg, .slice Ar L.rts.length cr]) L := ⟨_, _, _, _, rfl, h1, h2, h3, h4⟩
theorem RtV.gr {w w' : World} {v : Value} {r : Route} (h : RtV w v r) (g : Gr w w') : RtV w' v r := by
  obtain ⟨Ap, cp, Aq, cq, Af, cf, e, h1, h2, h3⟩ := h
  exact ⟨Ap, cp, Aq, cq, Af, cf, e, h1.gr g, h2.gr g, h3.gr g⟩
theorem RtAt.shut {w : World} {r : Route} {Ap cp Aq cq Af cf} (h1 : SlInts w (.slice Ap r.path.length cp) r.path) (h2 : SlNeeds w (.slice Aq r.pts.length cq) r.pts) (h3 : SlNeeds w (.slice Af r.flk.length cf) r.flk) :
    RtV w (.agg #[.string r.name, .int .i64 r.frm, .int .i64 r.to, .slice Ap r.path.length cp, .slice Aq r.pts.length cq, .slice Af r.flk.length cf]) r := ⟨_, _, _, _, _, _, rfl, h1, h2, h3⟩
theorem ints_take {w : World} {b off cap : Nat} {l : List Int} {k : Nat} (hj : ∀ j, j < l.length * 1 → w.cell? ⟨b, off + j, none⟩ = some (.int .i64 (gi l j))) (hk : k ≤ l.length) (hn : l.length ≤ cap) (hc : cap ≤ 9223372036854775807) :
    SlInts w (.slice (some ⟨b, off, none⟩) k cap) (l.take k) := by
  have hl : (l.take k).length = k := by simp; omega
  refine ⟨some ⟨b, off, none⟩, cap, by rw [hl], by omega, ⟨hc, fun h => by cases h⟩, fun _ => ⟨b, off, rfl, fun j hjj => ?_⟩⟩
  rw [hl] at hjj
  rw [hj j (by omega)]
  congr 2
  unfold gi
  simp [List.getD_eq_getElem?_getD, show j < k by omega]

theorem SlInts.take {w : World} {A : Option Addr} {n cap : Nat} {l : List Int} (h : SlInts w (.slice A n cap) l) {k : Nat} (hk : k < l.length) : SlInts w (.slice A k cap) (l.take k) := by
  obtain ⟨A', cap', e, hn, hc, hh⟩ := h
  cases e
  obtain ⟨b, off, rfl, hj⟩ := hh (by omega)
  exact ints_take hj (by omega) hn hc.1

def isInB (n lo hi : Int) : Bool := decide (lo ≤ n) && decide (n ≤ hi)
def pathBad (ns : Nat) (p : List Int) (i : Nat) : Bool := !isInB (gi p i) 0 (ns - 1) || inI (p.take i) (gi p i)
def pathOk (ns : Nat) (p : List Int) : Bool := !anyB (pathBad ns p) p.length && isInB p.length 1 5
def needBad (P : List Pt) (l : List Need) (path : List Int) (within : Bool) (i : Nat) : Bool :=
  !isInB (gN l i).p 0 (P.length - 1) || (decide (0 < i) && decide ((gN l i).p ≤ (gN l (i - 1)).p)) || (inI path (gP P (gN l i).p.toNat).sec != within)
def needsOk (P : List Pt) (l : List Need) (path : List Int) (within : Bool) : Bool := !anyB (needBad P l path within) l.length
/-- How many numbers below n have p. -/
def cntB (p : Nat → Bool) : Nat → Nat | 0 => 0 | n + 1 => cntB p n + if p n then 1 else 0
theorem cntB_le (p : Nat → Bool) (n : Nat) : cntB p n ≤ n := by
  induction n with
  | zero => exact Nat.le_refl _
  | succ n ih => simp only [cntB]; split <;> omega
def onPath (P : List Pt) (path : List Int) (i : Nat) : Bool := inI path (gP P i).sec
def routeOk (ns np : Nat) (P : List Pt) (ng : Nat) (r : Route) : Bool :=
  isInB r.frm 0 (ng - 1) && isInB r.to 0 (ng - 1) && !(r.frm == r.to) && pathOk ns r.path && needsOk P r.pts r.path true && needsOk P r.flk r.path false && (cntB (onPath P r.path) np == r.pts.length)
/-- Names: none twice. -/
def eqS (a b : ByteArray) : Bool := a.toList == b.toList
theorem eqS_comm (a b : ByteArray) : eqS a b = eqS b a := Bool.beq_comm
def hasS (l : List ByteArray) (n : ByteArray) : Bool := anyB (fun j => eqS n (gs l j)) l.length
def nameOk (s : ByteArray) : Bool := isNameB s && !(s.toList == [115, 101, 116]) && !(s.toList == [102, 108, 97, 110, 107])
def nameBad (l : List ByteArray) (i : Nat) : Bool := !nameOk (gs l i) || hasS (l.take i) (gs l i)
def namesOk (l : List ByteArray) : Bool := !anyB (nameBad l) l.length
def ptNames (l : List Pt) : List ByteArray := l.map (·.name)
def rtNames (l : List Route) : List ByteArray := l.map (·.name)
def secBad (ns : Nat) (P : List Pt) (i : Nat) : Bool := !isInB (gP P i).sec 0 (ns - 1)
def rtBad (L : Layout) (i : Nat) : Bool := !routeOk L.secs.length L.pts.length L.pts L.sigs.length (gR L.rts i)
/-- P4.1. -/
def layOk (L : Layout) : Bool :=
  isInB L.secs.length 1 10 && isInB L.sigs.length 1 6 && decide (L.pts.length ≤ 5) && decide (L.rts.length ≤ 6) && !anyB (secBad L.secs.length L.pts) L.pts.length && !anyB (rtBad L) L.rts.length &&
    namesOk L.secs && namesOk L.sigs && namesOk (ptNames L.pts) && namesOk (rtNames L.rts)
/-- No name is longer than that. -/
structure LSmall (L : Layout) : Prop where
  secs : ∀ i, i < L.secs.length → (gs L.secs i).size ≤ 3000
  pts : ∀ i, i < L.pts.length → (gP L.pts i).name.size ≤ 3000
  sigs : ∀ i, i < L.sigs.length → (gs L.sigs i).size ≤ 3000
  rts : ∀ i, i < L.rts.length → (gR L.rts i).name.size ≤ 3000
theorem ptNames_snoc (l : List Pt) (k : Nat) (h : k < l.length) : ptNames (l.take k) ++ [(gP l k).name] = ptNames (l.take (k + 1)) := by
  rw [List.take_succ_eq_append_getElem h]
  simp only [ptNames, gP, List.getD_eq_getElem?_getD, List.getElem?_eq_getElem h, Option.getD_some, List.map_append, List.map_cons, List.map_nil]
theorem rtNames_snoc (l : List Route) (k : Nat) (h : k < l.length) : rtNames (l.take k) ++ [(gR l k).name] = rtNames (l.take (k + 1)) := by
  rw [List.take_succ_eq_append_getElem h]
  simp only [rtNames, gR, List.getD_eq_getElem?_getD, List.getElem?_eq_getElem h, Option.getD_some, List.map_append, List.map_cons, List.map_nil]
theorem gs_ptNames (l : List Pt) (i : Nat) (h : i < l.length) : gs (ptNames l) i = (gP l i).name := by simp [gs, ptNames, gP, List.getD_eq_getElem?_getD, h]
theorem gs_rtNames (l : List Route) (i : Nat) (h : i < l.length) : gs (rtNames l) i = (gR l i).name := by simp [gs, rtNames, gR, List.getD_eq_getElem?_getD, h]
theorem ptNames_len (l : List Pt) : (ptNames l).length = l.length := by simp [ptNames]
theorem rtNames_len (l : List Route) : (rtNames l).length = l.length := by simp [rtNames]
theorem hasS_take (l : List ByteArray) (k : Nat) (n : ByteArray) (h : k ≤ l.length) : hasS (l.take k) n = anyB (fun j => eqS n (gs l j)) k := by
  unfold hasS
  rw [List.length_take, Nat.min_eq_left h]
  refine anyB_congr fun j hj => ?_
  unfold gs
  simp [List.getD_eq_getElem?_getD, hj]
theorem inI_take (l : List Int) (k : Nat) (n : Int) (h : k ≤ l.length) : inI (l.take k) n = anyB (fun j => gi l j == n) k := by
  unfold inI
  rw [List.length_take, Nat.min_eq_left h]
  refine anyB_congr fun j hj => ?_
  unfold gi
  simp [List.getD_eq_getElem?_getD, hj]
def needsOf (L : Layout) (r : Nat) : List Need := (gR L.rts r).pts ++ (gR L.rts r).flk
def inN (l : List Need) (p : Int) (r : Bool) : Bool := anyB (fun j => (gN l j).p == p && (gN l j).r == r) l.length
def entryP (L : Layout) (s : Int) (i : Nat) : Bool := (gR L.rts i).frm == s
def picks (p : Nat → Bool) : Nat → List Int | 0 => [] | n + 1 => picks p n ++ if p n then [(n : Int)] else []
def entryL (L : Layout) (s : Int) : List Int := picks (entryP L s) L.rts.length
theorem picks_len (p : Nat → Bool) (n : Nat) : (picks p n).length ≤ n := by
  induction n with
  | zero => simp [picks]
  | succ n ih => simp only [picks, List.length_append]; split <;> simp <;> omega
def sharesB (L : Layout) (r s : Nat) : Bool := anyB (fun j => inI (gR L.rts s).path (gi (gR L.rts r).path j)) (gR L.rts r).path.length
def unlikeB (L : Layout) (r s : Nat) : Bool := anyB (fun j => inN (needsOf L s) (gN (needsOf L r) j).p (!(gN (needsOf L r) j).r)) (needsOf L r).length
def conflict (L : Layout) (r s : Nat) : Bool := (r == s) || ((gR L.rts r).frm == (gR L.rts s).frm) || sharesB L r s || unlikeB L r s
end Go.Proofs.YtnfceboppdcfdaaDoor
