/- Common ground for the walks of this seat: worlds that have grown, and rows of cells that are read. -/
import Derived.WalkKit
import Derived.ProofKit
import Derived.Handy
import Derived.WalkSpells
import Derived.Deep.QuietTactic
import Derived.BigQuiet
import Derived.Lib.Hide
import Derived.KernelRfl
import Derived.StillTailTactics
namespace Go.Proofs.YtnfceboppdcfdaaDoor
open Go.RowKit

/-- What a run lays behind a world: new blocks, and how many draws there are now. -/
structure More where
  x : Array Obj
  d : Nat
instance : Nonempty More := ⟨⟨#[], 0⟩⟩
def More.tick (m : More) : More := ⟨m.x, m.d + 1⟩
def More.ticks (m : More) (n : Nat) : More := ⟨m.x, m.d + n⟩
def More.and (m k : More) : More := ⟨m.x ++ k.x, k.d⟩
/-- The world, new blocks laid behind it, and some draws made. -/
def _root_.Go.World.plus (w : World) (m : More) : World := { w with heap := w.heap ++ m.x, drawn := m.d }

section
variable (w : World) (m k : More)
@[simp, go_sem] theorem size_plus : (w.plus m).heap.size = w.heap.size + m.x.size := by simp [World.plus]
@[simp, go_sem] theorem tape_plus : (w.plus m).tape = w.tape := rfl
@[simp, go_sem] theorem drew_plus : (w.plus m).drew = w.plus m.tick := rfl
@[simp, go_sem] theorem drewN_plus (n : Nat) : (w.plus m).drewN n = w.plus (m.ticks n) := rfl
@[simp, go_sem] theorem plus_drew : w.drew.plus m = w.plus m := rfl
@[simp, go_sem] theorem plus_drewN (n : Nat) : (w.drewN n).plus m = w.plus m := rfl
theorem plus_plus : (w.plus m).plus k = w.plus (m.and k) := by simp [World.plus, More.and, Array.append_assoc]
theorem plus_nil : w.plus ⟨#[], w.drawn⟩ = w := by simp [World.plus]
theorem plus_alloc (o : Obj) : (w.plus m).alloc o = w.plus ⟨m.x.push o, m.d⟩ := by
  unfold World.plus World.alloc; simp only [Array.push_eq_append, Array.append_assoc]
theorem alloc_is_plus (o : Obj) : w.alloc o = w.plus ⟨#[o], w.drawn⟩ := by
  unfold World.plus World.alloc; simp only [Array.push_eq_append]
theorem heap_plus (n : Nat) (h : n < w.heap.size) : (w.plus m).heap[n]? = w.heap[n]? := by
  simp only [World.plus]; rw [Array.getElem?_append_left h]
theorem lt_of_isSome {a : Addr} (h : (w.cell? a).isSome = true) : a.block < w.heap.size := by
  obtain ⟨u, hu⟩ := Option.isSome_iff_exists.1 h
  exact World.block_lt_of_cell? w a hu
@[go_sem] theorem cell?_new (n i : Nat) (s : Option Nat) (h : w.heap.size ≤ n) : w.cell? ⟨n, i, s⟩ = none := by
  simp only [World.cell?, Array.getElem?_eq_none h]
/-- What lies in the new blocks. -/
def More.look (m : More) (w : World) (a : Addr) : Option Value := (w.plus m).cell? a
def More.marked (m : More) (w : World) (a : Addr) : Bool := (w.plus m).frozen? a
def objLook (o : Obj) (w : World) (a : Addr) : Option Value := (w.alloc o).cell? a
def objMarked (o : Obj) (w : World) (a : Addr) : Bool := (w.alloc o).frozen? a
@[go_sem low] theorem cell?_plus_if (a : Addr) : (w.plus m).cell? a = if (w.cell? a).isSome = true then w.cell? a else m.look w a := by
  split
  · rename_i h; simp only [World.cell?, heap_plus w m _ (lt_of_isSome w h)]
  · rfl
@[go_sem low] theorem frozen?_plus_if (a : Addr) : (w.plus m).frozen? a = if (w.cell? a).isSome = true then w.frozen? a else m.marked w a := by
  split
  · rename_i h; simp only [World.frozen?, heap_plus w m _ (lt_of_isSome w h)]
  · rfl
@[go_sem low] theorem cell?_alloc_if (o : Obj) (a : Addr) : (w.alloc o).cell? a = if (w.cell? a).isSome = true then w.cell? a else objLook o w a := by
  split
  · rename_i h; exact World.cell?_alloc_lt _ _ _ (lt_of_isSome w h)
  · rfl
@[go_sem low] theorem frozen?_alloc_if (o : Obj) (a : Addr) : (w.alloc o).frozen? a = if (w.cell? a).isSome = true then w.frozen? a else objMarked o w a := by
  split
  · rename_i h; exact World.frozen?_alloc_old _ _ _ (Nat.ne_of_lt (lt_of_isSome w h))
  · rfl
theorem cell?_plus_addr {a : Addr} (h : a.block < w.heap.size) : (w.plus m).cell? a = w.cell? a := by
  simp only [World.cell?, heap_plus w m _ h]
theorem frozen?_plus_addr {a : Addr} (h : a.block < w.heap.size) : (w.plus m).frozen? a = w.frozen? a := by
  simp only [World.frozen?, heap_plus w m _ h]
theorem cell?_plus {a : Addr} {v : Value} (h : w.cell? a = some v) : (w.plus m).cell? a = some v := by
  rw [cell?_plus_addr w m (World.block_lt_of_cell? w a h)]; exact h
theorem below_plus : Below w.heap.size w (w.plus m) := ⟨rfl, rfl, rfl, by simp, fun k hk => heap_plus w m k hk⟩
end

/-- The world w' is w, grown. -/
def Gr (w w' : World) : Prop := ∃ m : More, w' = w.plus m
theorem Gr.refl (w : World) : Gr w w := ⟨⟨#[], w.drawn⟩, (plus_nil w).symm⟩
theorem Gr.trans {a b c : World} (h : Gr a b) (k : Gr b c) : Gr a c := by
  obtain ⟨x, rfl⟩ := h; obtain ⟨y, rfl⟩ := k; exact ⟨_, plus_plus ..⟩
theorem Gr.alloc {a b : World} (h : Gr a b) (o : Obj) : Gr a (b.alloc o) := h.trans ⟨_, alloc_is_plus b o⟩
theorem Gr.drew {a b : World} (h : Gr a b) : Gr a b.drew := by obtain ⟨x, rfl⟩ := h; exact ⟨x.tick, rfl⟩
theorem Gr.drewN {a b : World} (h : Gr a b) (n : Nat) : Gr a (b.drewN n) := by obtain ⟨x, rfl⟩ := h; exact ⟨x.ticks n, rfl⟩
theorem Gr.plus {a b : World} (h : Gr a b) (m : More) : Gr a (b.plus m) := h.trans ⟨m, rfl⟩
theorem Gr.below {a b : World} (h : Gr a b) : Below a.heap.size a b := by obtain ⟨x, rfl⟩ := h; exact below_plus ..
theorem Gr.of_below {a b : World} (h : Below a.heap.size a b) : Gr a b := by
  refine ⟨⟨b.heap.extract a.heap.size b.heap.size, b.drawn⟩, ?_⟩
  obtain ⟨hp, tp, dr, os, out⟩ := b
  obtain ⟨hp', tp', dr', os', out'⟩ := a
  have h1 := h.os; have h2 := h.tape; have h3 := h.output; have h4 := h.size; have h5 := h.block
  simp only at h1 h2 h3 h4 h5
  subst h1; subst h2; subst h3
  simp only [World.plus, World.mk.injEq, and_true]
  apply Array.ext_getElem?
  intro k
  rw [Array.getElem?_append]
  split
  · rename_i hk; exact h5 k hk
  · rename_i hk
    simp only [Array.getElem?_extract]
    split
    · congr 1; omega
    · rename_i hq
      rw [Array.getElem?_eq_none (by omega)]
theorem Gr.setCell {a b : World} (h : Gr a b) {p : Addr} (hp : a.heap.size ≤ p.block) (v : Value) : Gr a (b.setCell p v) :=
  Gr.of_below (h.below.setCell hp v)
theorem Gr.size {a b : World} (h : Gr a b) : a.heap.size ≤ b.heap.size := h.below.size
theorem Gr.cell {a b : World} (h : Gr a b) {p : Addr} {v : Value} (hc : a.cell? p = some v) : b.cell? p = some v := by
  obtain ⟨x, rfl⟩ := h; exact cell?_plus a x hc

/-- A region that draws its order, whose operations read, and whose callees only lay new blocks: one walk of the text's order. -/
theorem wp_region_gr {P : Program} {id : Nat} {l : List Oper} {Q : Exit → Act → World → Prop} {a : Act} {w : World} (hm : P.follows .mixedOrders = true) (hB : Region.lexB .any l.toArray = true)
    (h : wpQuiet P l.toArray (fun w' => ∃ m, w' = w.plus m) (fun a' => ∀ w', (∃ m, w' = w.plus m) → Q .normal a' w') l a) : (Code.region id l.toArray true).wp P Q a w :=
  wp_region_quiet (C := fun w' => ∃ m, w' = w.plus m) hm hB (Gr.drew (Gr.refl w)) (by simpa using h)
/-- A callee's contract, met in a world that has grown. -/
theorem Calls.grown {P : Program} {f : FuncId} {args : Array Value} {w : World} {m : More} {v : Value}
    (h : Calls P f args (w.plus m) fun e w' => e = .returned v ∧ Gr (w.plus m) w') : Calls P f args (w.plus m) fun e w'' => e = .returned v ∧ ∃ k, w'' = w.plus k :=
  h.mono fun _ _ ⟨he, hg⟩ => ⟨he, (Gr.plus (Gr.refl w) m).trans hg⟩

/-- A region that draws its order: n operations that read, and behind them the others in their one order. -/
theorem wp_region_tail {P : Program} {id : Nat} {Q : Exit → Act → World → Prop} {a : Act} {w : World} {l : List Oper} (n : Nat) (hm : P.follows .mixedOrders = true) (hB : Region.lexTailB .any l.toArray n = true)
    (h : wpStill P l.toArray w.drew (fun a' => wpList P l.toArray Q (l.drop n) a' w.drew) (l.take n) a) : (Code.region id l.toArray true).wp P Q a w :=
  wp_region_still_tail n hm hB h

end Go.Proofs.YtnfceboppdcfdaaDoor
