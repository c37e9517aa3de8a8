/-
  Ranges over functions: what a round keeps; the imports of such walks. No program is named here.
  The library's slices.Sort at []int, laid at this program: its contracts.
-/
import Derived.Test.YtmopbimineoogaaP1ListBound
import Derived.RangeFuncNested
import Derived.RangeFuncBound
import Derived.RangeFuncCalls
import Derived.RangeFuncLeaves
import Derived.RangeFuncBox
import Derived.Shelf.Abstract
import Derived.Shelf.RegionOpen
import Derived.OwnWalkIn
import Derived.TacticsInMore
import Derived.LoopNIn
import Derived.LoopIn
import Derived.Test.YtmopbimineoogaaP2ListBound
import Derived.Shelf.SortM.Plain
import Derived.Shelf.SortM.SortNone
namespace Go.Proofs.Ytmopbimineoogaa
open Go.RowKit

/-- Of the blocks below n0 at most those of S have changed. -/
def KeepW (n0 : Nat) (S : List Nat) (W W' : World) : Prop := ∀ k, k < n0 → k ∉ S → W'.heap[k]? = W.heap[k]?

theorem KeepW.refl (n0 : Nat) (S : List Nat) (W : World) : KeepW n0 S W W := fun _ _ _ => rfl
theorem keepW_t {n0 : Nat} {S : List Nat} {A B C : World} (h : KeepW n0 S A B) (k : KeepW n0 S B C) : KeepW n0 S A C := fun i hi hs => (k i hi hs).trans (h i hi hs)
theorem keepW_b {n0 : Nat} {S : List Nat} {w : World} (hn : n0 ≤ w.heap.size) (W : World) (l : Nat) (o o' : Obj) (hl : w.heap.size ≤ l) (_ : W.heap[l]? = some o) (_ : o.isCells = false) (_ : o.isWalk = false) : KeepW n0 S W (W.putObj l o') :=
  fun k hk _ => World.putObj_heap_other (by omega)
theorem KeepW.cell {n0 : Nat} {S : List Nat} {W W' : World} (h : KeepW n0 S W W') {p : Addr} (hp : p.block < n0) (hn : p.block ∉ S) : W'.cell? p = W.cell? p := World.cell?_of_block (w := W) (h p.block hp hn)
theorem Only.keepW {n0 : Nat} {S T : List Nat} {W W' : World} (h : Only T W W') (hn : n0 ≤ W.heap.size) (hT : ∀ x ∈ T, x < n0 → x ∈ S) : KeepW n0 S W W' := fun k hk hs => h.block k (by omega) (fun hx => hs (hT k hx hk))

/-- What is below B at most: the rounds' own things stay. -/
theorem Only.keepsFrom {B : Nat} {T : List Nat} {W W' : World} (h : Only T W W') (hT : ∀ x ∈ T, x < B ∨ ∃ o : Obj, W.heap[x]? = some o ∧ o.isCells = true) : KeepsFrom B W W' :=
  ⟨h.size, fun k o hk ho hc => by
    have hl := (Array.getElem?_eq_some_iff.1 ho).1
    rw [h.block k hl (fun hx => by
      rcases hT k hx with h1 | ⟨o', h1, h2⟩
      · omega
      · rw [ho] at h1; injection h1 with h1; subst h1; rw [hc] at h2; cases h2)]
    exact ho⟩

/-- A relation on what was there when the call began abides the rounds' own things. -/
theorem ownFrom_only {β : Type} {w : World} {B : Nat} {S : List Nat} (hB : w.heap.size ≤ B) : OwnFrom B (fun (_ : β) W => Only S w W) :=
  fun _ W W' row h hg hr => h.grown hg (fun k hk hlt => by have := (hr k hk).1; omega)

theorem Cells.abides {w w' : World} {b : Nat} {vs : List Value} {row : Option Nat} (h : Cells w b vs) (hg : w.grownBy w' row) (hr : ∀ r, row = some r → ∃ o : Obj, w.heap[r]? = some o ∧ o.isCells = false) : Cells w' b vs := fun i v hv =>
  ⟨cell_kept (h i v hv).1 hg hr, (frozen_kept (h i v hv).1 hg hr).trans (h i v hv).2⟩

/-- So many things, in order. -/
def upto {α : Type} (f : Nat → α) (k : Nat) : List α := (List.range k).map f
theorem upto_succ {α : Type} (f : Nat → α) (k : Nat) : upto f (k + 1) = upto f k ++ [f k] := by simp [upto, List.range_succ]
theorem upto_length {α : Type} (f : Nat → α) (k : Nat) : (upto f k).length = k := by simp [upto]

/-- The block of deferred calls is shut at the return. -/
theorem Only.shut {w W : World} {D : Nat} {o o' : Obj} (h : Only [] w W) (hD : w.heap.size ≤ D) (_ : W.heap[D]? = some o) : Only [] w (W.putObj D o') :=
  h.grown (grownBy_putObj' W D o') (fun k hk hlt => by cases hk; omega)

end Go.Proofs.Ytmopbimineoogaa

namespace Go.Proofs.Ytmopbimineoogaa
open Go.RowKit Go.Sort Go.Shelf

def sortRen : Go.Shelf.Ren := ⟨fun | 5 => 45 | 8 => 55 | 7 => 54 | 19 => 66 | 20 => 67 | 10 => 57 | 11 => 58 | 12 => 59 | 13 => 60 | 14 => 61 | 15 => 62 | 16 => 63 | 17 => 64 | 18 => 65 | 30 => 68 | 31 => 69 | 32 => 70 | 33 => 71 | 34 => 72 | 35 => 73 | 40 => 74 | n => n, fun | 23 => 24 | 25 => 3 | 3 => 3 | 32 => 87 | 22 => 24 | 0 => 0 | 44 => 98 | 46 => 100 | 4 => 4 | 36 => 91 | 35 => 90 | 41 => 95 | 5 => 5 | 9 => 9 | 53 => 101 | 57 => 105 | 63 => 107 | 64 => 108 | n => n, fun n => n⟩
theorem sortLay : SlLaysM.n5 Try.prog sortRen where
  mixed := by kernel_rfl
  f5 := ⟨ "slices.Sort[[]int,int]", by decide, Try.func45.trans (congrArg some (by kernel_rfl))⟩
  f7 := ⟨ "slices.pdqsortOrdered[int]", by decide, Try.func54.trans (congrArg some (by kernel_rfl))⟩
  f8 := Try.func55.trans (congrArg some (by kernel_rfl))
  f10 := ⟨ "slices.insertionSortOrdered[int]", by decide, Try.func57.trans (congrArg some (by kernel_rfl))⟩
  f11 := ⟨ "slices.heapSortOrdered[int]", by decide, Try.func58.trans (congrArg some (by kernel_rfl))⟩
  f12 := ⟨ "slices.breakPatternsOrdered[int]", by decide, Try.func59.trans (congrArg some (by kernel_rfl))⟩
  f13 := ⟨ "slices.choosePivotOrdered[int]", by decide, Try.func60.trans (congrArg some (by kernel_rfl))⟩
  f14 := ⟨ "slices.reverseRangeOrdered[int]", by decide, Try.func61.trans (congrArg some (by kernel_rfl))⟩
  f15 := ⟨ "slices.partialInsertionSortOrdered[int]", by decide, Try.func62.trans (congrArg some (by kernel_rfl))⟩
  f16 := ⟨ "cmp.Less[int]", by decide, Try.func63.trans (congrArg some (by kernel_rfl))⟩
  f17 := ⟨ "slices.partitionEqualOrdered[int]", by decide, Try.func64.trans (congrArg some (by kernel_rfl))⟩
  f18 := ⟨ "slices.partitionOrdered[int]", by decide, Try.func65.trans (congrArg some (by kernel_rfl))⟩
  f19 := Try.func66.trans (congrArg some (by kernel_rfl))
  f20 := Try.func67.trans (congrArg some (by kernel_rfl))
  f30 := ⟨ "slices.siftDownOrdered[int]", by decide, Try.func68.trans (congrArg some (by kernel_rfl))⟩
  f31 := Try.func69.trans (congrArg some (by kernel_rfl))
  f32 := Try.func70.trans (congrArg some (by kernel_rfl))
  f33 := ⟨ "slices.medianAdjacentOrdered[int]", by decide, Try.func71.trans (congrArg some (by kernel_rfl))⟩
  f34 := ⟨ "slices.medianOrdered[int]", by decide, Try.func72.trans (congrArg some (by kernel_rfl))⟩
  f35 := ⟨ "cmp.isNaN[int]", by decide, Try.func73.trans (congrArg some (by kernel_rfl))⟩
  f40 := ⟨ "slices.order2Ordered[int]", by decide, Try.func74.trans (congrArg some (by kernel_rfl))⟩
  t0 := Try.underlying0
  a0 := Try.isAgg0
  z0 := Try.sizeOf0
  v0 := Try.zeroValue0
  t3 := Try.underlying3
  a3 := Try.isAgg3
  z3 := Try.sizeOf3
  v3 := Try.zeroValue3
  t4 := Try.underlying4
  a4 := Try.isAgg4
  z4 := Try.sizeOf4
  v4 := Try.zeroValue4
  t5 := Try.underlying5
  a5 := Try.isAgg5
  z5 := Try.sizeOf5
  v5 := Try.zeroValue5
  t9 := Try.underlying9
  a9 := Try.isAgg9
  z9 := Try.sizeOf9
  v9 := Try.zeroValue9
  t22 := Try.underlying24
  a22 := Try.isAgg24
  z22 := Try.sizeOf24
  v22 := Try.zeroValue24
  t23 := Try.underlying24
  a23 := Try.isAgg24
  z23 := Try.sizeOf24
  v23 := Try.zeroValue24
  t25 := Try.underlying3
  a25 := Try.isAgg3
  z25 := Try.sizeOf3
  v25 := Try.zeroValue3
  t32 := Try.underlying87
  a32 := Try.isAgg87
  z32 := Try.sizeOf87
  v32 := Try.zeroValue87
  t35 := Try.underlying90
  a35 := Try.isAgg90
  z35 := Try.sizeOf90
  v35 := Try.zeroValue90
  t36 := Try.underlying91
  a36 := Try.isAgg91
  z36 := Try.sizeOf91
  v36 := Try.zeroValue91
  t41 := Try.underlying95
  a41 := Try.isAgg95
  z41 := Try.sizeOf95
  v41 := Try.zeroValue95
  t44 := Try.underlying98
  a44 := Try.isAgg98
  z44 := Try.sizeOf98
  v44 := Try.zeroValue98
  t46 := Try.underlying100
  a46 := Try.isAgg100
  z46 := Try.sizeOf100
  v46 := Try.zeroValue100
  t53 := Try.underlying101
  a53 := Try.isAgg101
  z53 := Try.sizeOf101
  v53 := Try.zeroValue101
  t57 := Try.underlying105
  a57 := Try.isAgg105
  z57 := Try.sizeOf105
  v57 := Try.zeroValue105
  t63 := Try.underlying107
  a63 := Try.isAgg107
  z63 := Try.sizeOf107
  v63 := Try.zeroValue107
  t64 := Try.underlying108
  a64 := Try.isAgg108
  z64 := Try.sizeOf108
  v64 := Try.zeroValue108

theorem sort_ints (blk off cap : Nat) (zs : List Int) (w : World) (hH : Holds (Value.int .i64) w blk off zs.toArray) (hblk : blk < w.heap.size) (hsz : zs.length < 4611686018427387904) :
    Calls Try.prog 45 #[.slice (some ⟨blk, off, none⟩) zs.length cap] w fun e w' =>
      e = .returned (.tuple #[]) ∧ ∃ n os, w' = grow (putRow (Value.int .i64) (Sort.ahead w n) blk off (zs.mergeSort fun x y => decide (x ≤ y)).toArray) os :=
  AnyM.slices_Sort_int sortLay blk off cap zs w hH hblk hsz
theorem sort_none (p : Option Addr) (cap : Nat) (w : World) : Calls Try.prog 45 #[.slice p 0 cap] w fun e w' => e = .returned (.tuple #[]) ∧ w' = w :=
  AnyM.slices_Sort_int_none sortLay p cap w

end Go.Proofs.Ytmopbimineoogaa
