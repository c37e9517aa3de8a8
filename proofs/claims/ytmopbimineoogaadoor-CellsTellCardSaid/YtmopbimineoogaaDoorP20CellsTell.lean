/-
  Contract of cells.All.
  Ranges over functions: what a round keeps; the imports of such walks. No program is named here.
  The library's slices.Sort at []int, laid at this program: its contracts.
-/
import Derived.Test.YtmopbimineoogaaDoorP18CellsTell
import Derived.Test.YtmopbimineoogaaDoorP1CellsTell
import Derived.RangeFuncNested
import Derived.RangeFuncBound
import Derived.RangeFuncCalls
import Derived.RangeFuncLeaves
import Derived.RangeFuncBox
import Derived.Shelf.Abstract
import Derived.Shelf.RegionOpen
import Derived.OwnWalkIn
import Derived.TacticsInMore
import Derived.LoopNIn
import Derived.LoopIn
import Derived.Test.YtmopbimineoogaaDoorP3CellsTell
import Derived.Shelf.SortM.Plain
import Derived.Shelf.SortM.SortNone
namespace Go.Proofs.YtmopbimineoogaaDoor
open Go.RowKit Go.Deep

set_option maxRecDepth 100000 in
set_option maxHeartbeats 2000000 in
theorem cells_All (v u : Value) (p : PlanL) (ops : List Opn) (w : World) (h : InPlan w v p) (hu : OpsAt w u ops) (hlen : ops.length ≤ 9223372036854775807) :
    Calls Tryd.prog 21 #[v, u] w fun e w' => ∃ v', e = .returned (.tuple #[v', errV (allFault p ops)]) ∧ Only [] w w' ∧
      ((allFault p ops ≠ 0 ∧ v' = .slice none 0 0) ∨ (allFault p ops = 0 ∧ ∃ A, v' = .slice (some ⟨A, 0, none⟩) p.length p.length ∧ w.heap.size ≤ A ∧ RowCl w' A p.length (foldA p ops (orderOf p)))) := by
  have hr := cells_ready v u p ops w h hu hlen
  have hnil : ∀ E, E ≠ 0 → errV E = .iface 71 (.int .i64 E) := fun E hE => errV_ne hE
  obtain ⟨E, hE⟩ : ∃ E, allFault p ops = E := ⟨_, rfl⟩
  rw [hE] at hr ⊢
  by_cases h0 : E = 0
  · obtain ⟨hok, hl, hops⟩ := allFault_zero (hE.trans h0)
    have HP := Lib.hid h
    have HU := Lib.hid hu
    have HO := Lib.hid hok
    have hol : (orderOf p).length = p.length := topo_len hok p.length (Nat.le_refl _)
    have h30 := hok.len
    have HAL := Lib.hid (fun w1 (ho : Only [] w w1) ov (hr : Reads w1 ov (natL (orderOf p))) => cells_along v u ov p ops (orderOf p) w1 (h.same ho) hok (hu.same ho) hops hl hr (fun x hx => (orderOf_mem hok x).1 hx) (by omega))
    have HORD := Lib.hid (fun w1 (ho : Only [] w w1) => plan_OrderOf v p w1 (h.same ho) hok)
    have HAH := Lib.hid (orderOf_ok hok).2.1
    obtain ⟨n, hn⟩ : ∃ n, p.length = n := ⟨_, rfl⟩
    obtain ⟨f, hf⟩ : ∃ f, foldA p ops (orderOf p) = f := ⟨_, rfl⟩
    rw [hn, hf] at HAL ⊢
    subst h0
    rw [errV_zero] at hr ⊢
    clear h hu hE hnil hok hl hops hlen hol h30 hn hf
    go_enter Tryd.func21, Tryd.ntmps21
    go_wp2_with fail
    refine hr.mono ?_
    rintro e w1 ⟨rfl, ho1⟩
    clear hr
    go_wp2_with fail
    refine (HORD.out w1 ho1).mono ?_
    rintro e w2 ⟨ov, rfl, hI, ho2⟩
    have ho2 := ho1.trans ho2 (by simp)
    have hal := HAL.out w2 ho2 ov hI.reads
    go_wp2_with fail
    refine hal.mono ?_
    rintro e w3 ⟨v3, b, rfl, ho3, h3⟩
    have ho3 := ho2.trans ho3 (by simp)
    rcases h3 with ⟨_, _, A, rfl, hA, hR⟩ | ⟨_, hno, _⟩
    · have HR := Lib.hid hR
      have hs := ho2.size
      clear hal hR
      go_wp2
      go_ret2
      exact ⟨_, rfl, ho3, .inr ⟨trivial, A, rfl, by omega, HR.out⟩⟩
    · exact absurd HAH.out hno
  · rw [errV_ne h0] at hr
    have H0 := Lib.hid h0
    obtain ⟨_, _, rfl, _⟩ := h.task
    obtain ⟨_, _, rfl, _⟩ := hu.opt
    clear h hu hE h0 hlen
    rw [hnil E H0.out]
    clear hnil
    go_enter Tryd.func21, Tryd.ntmps21
    go_wp2_with fail
    refine hr.mono ?_
    rintro e w1 ⟨rfl, ho1⟩
    clear hr
    go_wp2
    go_ret2
    exact ⟨_, rfl, ho1, .inl ⟨H0.out, rfl⟩⟩

end Go.Proofs.YtmopbimineoogaaDoor

namespace Go.Proofs.YtmopbimineoogaaDoor
open Go.RowKit

/-- Of the blocks below n0 at most those of S have changed. -/
def KeepW (n0 : Nat) (S : List Nat) (W W' : World) : Prop := ∀ k, k < n0 → k ∉ S → W'.heap[k]? = W.heap[k]?

theorem KeepW.refl (n0 : Nat) (S : List Nat) (W : World) : KeepW n0 S W W := fun _ _ _ => rfl
theorem keepW_t {n0 : Nat} {S : List Nat} {A B C : World} (h : KeepW n0 S A B) (k : KeepW n0 S B C) : KeepW n0 S A C := fun i hi hs => (k i hi hs).trans (h i hi hs)
theorem keepW_b {n0 : Nat} {S : List Nat} {w : World} (hn : n0 ≤ w.heap.size) (W : World) (l : Nat) (o o' : Obj) (hl : w.heap.size ≤ l) (_ : W.heap[l]? = some o) (_ : o.isCells = false) (_ : o.isWalk = false) : KeepW n0 S W (W.putObj l o') :=
  fun k hk _ => World.putObj_heap_other (by omega)
theorem KeepW.cell {n0 : Nat} {S : List Nat} {W W' : World} (h : KeepW n0 S W W') {p : Addr} (hp : p.block < n0) (hn : p.block ∉ S) : W'.cell? p = W.cell? p := World.cell?_of_block (w := W) (h p.block hp hn)
theorem Only.keepW {n0 : Nat} {S T : List Nat} {W W' : World} (h : Only T W W') (hn : n0 ≤ W.heap.size) (hT : ∀ x ∈ T, x < n0 → x ∈ S) : KeepW n0 S W W' := fun k hk hs => h.block k (by omega) (fun hx => hs (hT k hx hk))

/-- What is below B at most: the rounds' own things stay. -/
theorem Only.keepsFrom {B : Nat} {T : List Nat} {W W' : World} (h : Only T W W') (hT : ∀ x ∈ T, x < B ∨ ∃ o : Obj, W.heap[x]? = some o ∧ o.isCells = true) : KeepsFrom B W W' :=
  ⟨h.size, fun k o hk ho hc => by
    have hl := (Array.getElem?_eq_some_iff.1 ho).1
    rw [h.block k hl (fun hx => by
      rcases hT k hx with h1 | ⟨o', h1, h2⟩
      · omega
      · rw [ho] at h1; injection h1 with h1; subst h1; rw [hc] at h2; cases h2)]
    exact ho⟩

/-- A relation on what was there when the call began abides the rounds' own things. -/
theorem ownFrom_only {β : Type} {w : World} {B : Nat} {S : List Nat} (hB : w.heap.size ≤ B) : OwnFrom B (fun (_ : β) W => Only S w W) :=
  fun _ W W' row h hg hr => h.grown hg (fun k hk hlt => by have := (hr k hk).1; omega)

theorem Cells.abides {w w' : World} {b : Nat} {vs : List Value} {row : Option Nat} (h : Cells w b vs) (hg : w.grownBy w' row) (hr : ∀ r, row = some r → ∃ o : Obj, w.heap[r]? = some o ∧ o.isCells = false) : Cells w' b vs := fun i v hv =>
  ⟨cell_kept (h i v hv).1 hg hr, (frozen_kept (h i v hv).1 hg hr).trans (h i v hv).2⟩

/-- So many things, in order. -/
def upto {α : Type} (f : Nat → α) (k : Nat) : List α := (List.range k).map f
theorem upto_succ {α : Type} (f : Nat → α) (k : Nat) : upto f (k + 1) = upto f k ++ [f k] := by simp [upto, List.range_succ]
theorem upto_length {α : Type} (f : Nat → α) (k : Nat) : (upto f k).length = k := by simp [upto]

/-- The block of deferred calls is shut at the return. -/
theorem Only.shut {w W : World} {D : Nat} {o o' : Obj} (h : Only [] w W) (hD : w.heap.size ≤ D) (_ : W.heap[D]? = some o) : Only [] w (W.putObj D o') :=
  h.grown (grownBy_putObj' W D o') (fun k hk hlt => by cases hk; omega)

end Go.Proofs.YtmopbimineoogaaDoor

namespace Go.Proofs.YtmopbimineoogaaDoor
open Go.RowKit Go.Sort Go.Shelf

def sortRen : Go.Shelf.Ren := ⟨fun | 5 => 61 | 8 => 70 | 7 => 69 | 19 => 82 | 20 => 83 | 10 => 73 | 11 => 74 | 12 => 75 | 13 => 76 | 14 => 77 | 15 => 78 | 16 => 79 | 17 => 80 | 18 => 81 | 30 => 84 | 31 => 85 | 32 => 86 | 33 => 87 | 34 => 88 | 35 => 89 | 40 => 90 | n => n, fun | 23 => 27 | 25 => 3 | 3 => 3 | 32 => 136 | 22 => 27 | 0 => 0 | 44 => 148 | 46 => 150 | 4 => 4 | 36 => 140 | 35 => 139 | 41 => 145 | 5 => 5 | 9 => 9 | 53 => 151 | 57 => 155 | 63 => 157 | 64 => 69 | n => n, fun n => n⟩
theorem sortLay : SlLaysM.n5 Tryd.prog sortRen where
  mixed := by kernel_rfl
  f5 := ⟨ "slices.Sort[[]int,int]", by decide, Tryd.func61.trans (congrArg some (by kernel_rfl))⟩
  f7 := ⟨ "slices.pdqsortOrdered[int]", by decide, Tryd.func69.trans (congrArg some (by kernel_rfl))⟩
  f8 := Tryd.func70.trans (congrArg some (by kernel_rfl))
  f10 := ⟨ "slices.insertionSortOrdered[int]", by decide, Tryd.func73.trans (congrArg some (by kernel_rfl))⟩
  f11 := ⟨ "slices.heapSortOrdered[int]", by decide, Tryd.func74.trans (congrArg some (by kernel_rfl))⟩
  f12 := ⟨ "slices.breakPatternsOrdered[int]", by decide, Tryd.func75.trans (congrArg some (by kernel_rfl))⟩
  f13 := ⟨ "slices.choosePivotOrdered[int]", by decide, Tryd.func76.trans (congrArg some (by kernel_rfl))⟩
  f14 := ⟨ "slices.reverseRangeOrdered[int]", by decide, Tryd.func77.trans (congrArg some (by kernel_rfl))⟩
  f15 := ⟨ "slices.partialInsertionSortOrdered[int]", by decide, Tryd.func78.trans (congrArg some (by kernel_rfl))⟩
  f16 := ⟨ "cmp.Less[int]", by decide, Tryd.func79.trans (congrArg some (by kernel_rfl))⟩
  f17 := ⟨ "slices.partitionEqualOrdered[int]", by decide, Tryd.func80.trans (congrArg some (by kernel_rfl))⟩
  f18 := ⟨ "slices.partitionOrdered[int]", by decide, Tryd.func81.trans (congrArg some (by kernel_rfl))⟩
  f19 := Tryd.func82.trans (congrArg some (by kernel_rfl))
  f20 := Tryd.func83.trans (congrArg some (by kernel_rfl))
  f30 := ⟨ "slices.siftDownOrdered[int]", by decide, Tryd.func84.trans (congrArg some (by kernel_rfl))⟩
  f31 := Tryd.func85.trans (congrArg some (by kernel_rfl))
  f32 := Tryd.func86.trans (congrArg some (by kernel_rfl))
  f33 := ⟨ "slices.medianAdjacentOrdered[int]", by decide, Tryd.func87.trans (congrArg some (by kernel_rfl))⟩
  f34 := ⟨ "slices.medianOrdered[int]", by decide, Tryd.func88.trans (congrArg some (by kernel_rfl))⟩
  f35 := ⟨ "cmp.isNaN[int]", by decide, Tryd.func89.trans (congrArg some (by kernel_rfl))⟩
  f40 := ⟨ "slices.order2Ordered[int]", by decide, Tryd.func90.trans (congrArg some (by kernel_rfl))⟩
  t0 := Tryd.underlying0
  a0 := Tryd.isAgg0
  z0 := Tryd.sizeOf0
  v0 := Tryd.zeroValue0
  t3 := Tryd.underlying3
  a3 := Tryd.isAgg3
  z3 := Tryd.sizeOf3
  v3 := Tryd.zeroValue3
  t4 := Tryd.underlying4
  a4 := Tryd.isAgg4
  z4 := Tryd.sizeOf4
  v4 := Tryd.zeroValue4
  t5 := Tryd.underlying5
  a5 := Tryd.isAgg5
  z5 := Tryd.sizeOf5
  v5 := Tryd.zeroValue5
  t9 := Tryd.underlying9
  a9 := Tryd.isAgg9
  z9 := Tryd.sizeOf9
  v9 := Tryd.zeroValue9
  t22 := Tryd.underlying27
  a22 := Tryd.isAgg27
  z22 := Tryd.sizeOf27
  v22 := Tryd.zeroValue27
  t23 := Tryd.underlying27
  a23 := Tryd.isAgg27
  z23 := Tryd.sizeOf27
  v23 := Tryd.zeroValue27
  t25 := Tryd.underlying3
  a25 := Tryd.isAgg3
  z25 := Tryd.sizeOf3
  v25 := Tryd.zeroValue3
  t32 := Tryd.underlying136
  a32 := Tryd.isAgg136
  z32 := Tryd.sizeOf136
  v32 := Tryd.zeroValue136
  t35 := Tryd.underlying139
  a35 := Tryd.isAgg139
  z35 := Tryd.sizeOf139
  v35 := Tryd.zeroValue139
  t36 := Tryd.underlying140
  a36 := Tryd.isAgg140
  z36 := Tryd.sizeOf140
  v36 := Tryd.zeroValue140
  t41 := Tryd.underlying145
  a41 := Tryd.isAgg145
  z41 := Tryd.sizeOf145
  v41 := Tryd.zeroValue145
  t44 := Tryd.underlying148
  a44 := Tryd.isAgg148
  z44 := Tryd.sizeOf148
  v44 := Tryd.zeroValue148
  t46 := Tryd.underlying150
  a46 := Tryd.isAgg150
  z46 := Tryd.sizeOf150
  v46 := Tryd.zeroValue150
  t53 := Tryd.underlying151
  a53 := Tryd.isAgg151
  z53 := Tryd.sizeOf151
  v53 := Tryd.zeroValue151
  t57 := Tryd.underlying155
  a57 := Tryd.isAgg155
  z57 := Tryd.sizeOf155
  v57 := Tryd.zeroValue155
  t63 := Tryd.underlying157
  a63 := Tryd.isAgg157
  z63 := Tryd.sizeOf157
  v63 := Tryd.zeroValue157
  t64 := Tryd.underlying69
  a64 := Tryd.isAgg69
  z64 := Tryd.sizeOf69
  v64 := Tryd.zeroValue69

theorem sort_ints (blk off cap : Nat) (zs : List Int) (w : World) (hH : Holds (Value.int .i64) w blk off zs.toArray) (hblk : blk < w.heap.size) (hsz : zs.length < 4611686018427387904) :
    Calls Tryd.prog 61 #[.slice (some ⟨blk, off, none⟩) zs.length cap] w fun e w' =>
      e = .returned (.tuple #[]) ∧ ∃ n os, w' = grow (putRow (Value.int .i64) (Sort.ahead w n) blk off (zs.mergeSort fun x y => decide (x ≤ y)).toArray) os :=
  AnyM.slices_Sort_int sortLay blk off cap zs w hH hblk hsz
theorem sort_none (p : Option Addr) (cap : Nat) (w : World) : Calls Tryd.prog 61 #[.slice p 0 cap] w fun e w' => e = .returned (.tuple #[]) ∧ w' = w :=
  AnyM.slices_Sort_int_none sortLay p cap w

end Go.Proofs.YtmopbimineoogaaDoor
