/- Acts of law 6, as a row that is read. -/
import Derived.Test.YtnfceboppdcfdaaDoorC4
namespace Go.Proofs.YtnfceboppdcfdaaDoor
open Go.RowKit
structure Act6 where
  kind : Int
  n : Int
  drive : Int
def gA6 (l : List Act6) (j : Nat) : Act6 := l.getD j ⟨0, 0, 0⟩
def act6Cell (l : List Act6) (j : Nat) : Value := if j % 3 = 0 then .int .i64 (gA6 l (j / 3)).kind else if j % 3 = 1 then .int .i64 (gA6 l (j / 3)).n else .int .i64 (gA6 l (j / 3)).drive
def SlAct6 (w : World) (v : Value) (l : List Act6) : Prop := SlAt w v l.length 3 (act6Cell l)
theorem SlAct6.gr {w w' : World} {v : Value} {l : List Act6} (h : SlAct6 w v l) (g : Gr w w') : SlAct6 w' v l := SlAt.gr h g
theorem SlAct6.el {w : World} {A : Option Addr} {n cap : Nat} {l : List Act6} (h : SlAct6 w (.slice A n cap) l) {k : Nat} (hk : k < l.length) :
    ∃ b off, A = some ⟨b, off, none⟩ ∧ w.cell? ⟨b, off + k * 3, none⟩ = some (.int .i64 (gA6 l k).kind) ∧ w.cell? ⟨b, off + k * 3 + 1, none⟩ = some (.int .i64 (gA6 l k).n) ∧ w.cell? ⟨b, off + k * 3 + 2, none⟩ = some (.int .i64 (gA6 l k).drive) := by
  obtain ⟨b, off, hA, hj⟩ := SlAt.el h hk
  refine ⟨b, off, hA, ?_, ?_, ?_⟩
  · have := hj 0 (by omega); unfold act6Cell at this; rw [if_pos (by omega), show (k * 3 + 0) / 3 = k by omega] at this; exact this
  · have := hj 1 (by omega); unfold act6Cell at this; rw [if_neg (by omega), if_pos (by omega), show (k * 3 + 1) / 3 = k by omega] at this; exact this
  · have := hj 2 (by omega); unfold act6Cell at this; rw [if_neg (by omega), if_neg (by omega), show (k * 3 + 2) / 3 = k by omega] at this; exact this
end Go.Proofs.YtnfceboppdcfdaaDoor
