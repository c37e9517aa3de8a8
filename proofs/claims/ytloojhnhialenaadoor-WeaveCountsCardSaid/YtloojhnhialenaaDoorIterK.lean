/-
  Ranges over functions: what a round keeps; the imports of such walks. No program is named here.
-/
import Derived.Test.YtloojhnhialenaaDoorBase
import Derived.RangeFuncNested
import Derived.RangeFuncBound
import Derived.RangeFuncCalls
import Derived.RangeFuncLeaves
import Derived.RangeFuncBox
import Derived.Shelf.Abstract
import Derived.Shelf.RegionOpen
import Derived.OwnWalkIn
import Derived.TacticsInMore
import Derived.LoopNIn
import Derived.LoopIn
namespace Go.Proofs.YtloojhnhialenaaDoor
open Go.RowKit

/-- Of the blocks below n0 at most those of S have changed. -/
def KeepW (n0 : Nat) (S : List Nat) (W W' : World) : Prop := ∀ k, k < n0 → k ∉ S → W'.heap[k]? = W.heap[k]?

theorem KeepW.refl (n0 : Nat) (S : List Nat) (W : World) : KeepW n0 S W W := fun _ _ _ => rfl
theorem keepW_t {n0 : Nat} {S : List Nat} {A B C : World} (h : KeepW n0 S A B) (k : KeepW n0 S B C) : KeepW n0 S A C := fun i hi hs => (k i hi hs).trans (h i hi hs)
theorem keepW_b {n0 : Nat} {S : List Nat} {w : World} (hn : n0 ≤ w.heap.size) (W : World) (l : Nat) (o o' : Obj) (hl : w.heap.size ≤ l) (_ : W.heap[l]? = some o) (_ : o.isCells = false) (_ : o.isWalk = false) : KeepW n0 S W (W.putObj l o') :=
  fun k hk _ => World.putObj_heap_other (by omega)
theorem KeepW.cell {n0 : Nat} {S : List Nat} {W W' : World} (h : KeepW n0 S W W') {p : Addr} (hp : p.block < n0) (hn : p.block ∉ S) : W'.cell? p = W.cell? p := World.cell?_of_block (w := W) (h p.block hp hn)
theorem Only.keepW {n0 : Nat} {S T : List Nat} {W W' : World} (h : Only T W W') (hn : n0 ≤ W.heap.size) (hT : ∀ x ∈ T, x < n0 → x ∈ S) : KeepW n0 S W W' := fun k hk hs => h.block k (by omega) (fun hx => hs (hT k hx hk))

/-- What is below B at most: the rounds' own things stay. -/
theorem Only.keepsFrom {B : Nat} {T : List Nat} {W W' : World} (h : Only T W W') (hT : ∀ x ∈ T, x < B ∨ ∃ o : Obj, W.heap[x]? = some o ∧ o.isCells = true) : KeepsFrom B W W' :=
  ⟨h.size, fun k o hk ho hc => by
    have hl := (Array.getElem?_eq_some_iff.1 ho).1
    rw [h.block k hl (fun hx => by
      rcases hT k hx with h1 | ⟨o', h1, h2⟩
      · omega
      · rw [ho] at h1; injection h1 with h1; subst h1; rw [hc] at h2; cases h2)]
    exact ho⟩

/-- A relation on what was there when the call began abides the rounds' own things. -/
theorem ownFrom_only {β : Type} {w : World} {B : Nat} {S : List Nat} (hB : w.heap.size ≤ B) : OwnFrom B (fun (_ : β) W => Only S w W) :=
  fun _ W W' row h hg hr => h.grown hg (fun k hk hlt => by have := (hr k hk).1; omega)

theorem Cells.abides {w w' : World} {b : Nat} {vs : List Value} {row : Option Nat} (h : Cells w b vs) (hg : w.grownBy w' row) (hr : ∀ r, row = some r → ∃ o : Obj, w.heap[r]? = some o ∧ o.isCells = false) : Cells w' b vs := fun i v hv =>
  ⟨cell_kept (h i v hv).1 hg hr, (frozen_kept (h i v hv).1 hg hr).trans (h i v hv).2⟩

/-- So many things, in order. -/
def upto {α : Type} (f : Nat → α) (k : Nat) : List α := (List.range k).map f
theorem upto_succ {α : Type} (f : Nat → α) (k : Nat) : upto f (k + 1) = upto f k ++ [f k] := by simp [upto, List.range_succ]
theorem upto_length {α : Type} (f : Nat → α) (k : Nat) : (upto f k).length = k := by simp [upto]

/-- The block of deferred calls is shut at the return. -/
theorem Only.shut {w W : World} {D : Nat} {o o' : Obj} (h : Only [] w W) (hD : w.heap.size ≤ D) (_ : W.heap[D]? = some o) : Only [] w (W.putObj D o') :=
  h.grown (grownBy_putObj' W D o') (fun k hk hlt => by cases hk; omega)

end Go.Proofs.YtloojhnhialenaaDoor
