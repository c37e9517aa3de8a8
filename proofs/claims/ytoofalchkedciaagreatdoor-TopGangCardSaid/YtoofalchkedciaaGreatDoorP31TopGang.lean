/-
  Contract of cells.All.
  Ranges over functions: what a round keeps; the imports of such walks. No program is named here.
  The library's slices.Sort at []int, laid at this program: its contracts.
  slices.Values, AppendSeq, Collect, Sorted at int; list.Each.
-/
import Derived.Test.YtoofalchkedciaaGreatDoorP30TopGang
import Derived.Test.YtoofalchkedciaaGreatDoorP1TopGang
import Derived.RangeFuncNested
import Derived.RangeFuncBound
import Derived.RangeFuncCalls
import Derived.RangeFuncLeaves
import Derived.RangeFuncBox
import Derived.Shelf.Abstract
import Derived.Shelf.RegionOpen
import Derived.OwnWalkIn
import Derived.TacticsInMore
import Derived.LoopNIn
import Derived.LoopIn
import Derived.Test.YtoofalchkedciaaGreatDoorP2TopGang
import Derived.Shelf.SortM.Plain
import Derived.Shelf.SortM.SortNone
import Derived.Test.YtoofalchkedciaaGreatDoorP5TopGang
import Derived.Maps.OwnIn
import Derived.Sort.OwnSortedInts
namespace Go.Proofs.YtoofalchkedciaaGreatDoor
open Go.RowKit Go.Deep

set_option maxRecDepth 100000 in
set_option maxHeartbeats 2000000 in
theorem cells_All (v u : Value) (p : PlanL) (ops : List Opn) (w : World) (h : InPlan w v p) (hu : OpsAt w u ops) (hlen : ops.length ≤ 9223372036854775807) :
    Calls Tryz.prog 42 #[v, u] w fun e w' => ∃ v', e = .returned (.tuple #[v', errV (allFault p ops)]) ∧ Only [] w w' ∧
      ((allFault p ops ≠ 0 ∧ v' = .slice none 0 0) ∨ (allFault p ops = 0 ∧ ∃ A, v' = .slice (some ⟨A, 0, none⟩) p.length p.length ∧ w.heap.size ≤ A ∧ RowCl w' A p.length (foldA p ops (orderOf p)))) := by
  have hr := cells_ready v u p ops w h hu hlen
  have hnil : ∀ E, E ≠ 0 → errV E = .iface 98 (.int .i64 E) := fun E hE => errV_ne hE
  obtain ⟨E, hE⟩ : ∃ E, allFault p ops = E := ⟨_, rfl⟩
  rw [hE] at hr ⊢
  by_cases h0 : E = 0
  · obtain ⟨hok, hl, hops⟩ := allFault_zero (hE.trans h0)
    have HP := Lib.hid h
    have HU := Lib.hid hu
    have HO := Lib.hid hok
    have hol : (orderOf p).length = p.length := topo_len hok p.length (Nat.le_refl _)
    have h30 := hok.len
    have HAL := Lib.hid (fun w1 (ho : Only [] w w1) ov (hr : Reads w1 ov (natL (orderOf p))) => cells_along v u ov p ops (orderOf p) w1 (h.same ho) hok (hu.same ho) hops hl hr (fun x hx => (orderOf_mem hok x).1 hx) (by omega))
    have HORD := Lib.hid (fun w1 (ho : Only [] w w1) => plan_OrderOf v p w1 (h.same ho) hok)
    have HAH := Lib.hid (orderOf_ok hok).2.1
    obtain ⟨n, hn⟩ : ∃ n, p.length = n := ⟨_, rfl⟩
    obtain ⟨f, hf⟩ : ∃ f, foldA p ops (orderOf p) = f := ⟨_, rfl⟩
    rw [hn, hf] at HAL ⊢
    subst h0
    rw [errV_zero] at hr ⊢
    clear h hu hE hnil hok hl hops hlen hol h30 hn hf
    go_enter Tryz.func42, Tryz.ntmps42
    go_wp2_with fail
    refine hr.mono ?_
    rintro e w1 ⟨rfl, ho1⟩
    clear hr
    go_wp2_with fail
    refine (HORD.out w1 ho1).mono ?_
    rintro e w2 ⟨ov, rfl, hI, ho2⟩
    have ho2 := ho1.trans ho2 (by simp)
    have hal := HAL.out w2 ho2 ov hI.reads
    go_wp2_with fail
    refine hal.mono ?_
    rintro e w3 ⟨v3, b, rfl, ho3, h3⟩
    have ho3 := ho2.trans ho3 (by simp)
    rcases h3 with ⟨_, _, A, rfl, hA, hR⟩ | ⟨_, hno, _⟩
    · have HR := Lib.hid hR
      have hs := ho2.size
      clear hal hR
      go_wp2
      go_ret2
      exact ⟨_, rfl, ho3, .inr ⟨trivial, A, rfl, by omega, HR.out⟩⟩
    · exact absurd HAH.out hno
  · rw [errV_ne h0] at hr
    have H0 := Lib.hid h0
    obtain ⟨_, _, rfl, _⟩ := h.task
    obtain ⟨_, _, rfl, _⟩ := hu.opt
    clear h hu hE h0 hlen
    rw [hnil E H0.out]
    clear hnil
    go_enter Tryz.func42, Tryz.ntmps42
    go_wp2_with fail
    refine hr.mono ?_
    rintro e w1 ⟨rfl, ho1⟩
    clear hr
    go_wp2
    go_ret2
    exact ⟨_, rfl, ho1, .inl ⟨H0.out, rfl⟩⟩

end Go.Proofs.YtoofalchkedciaaGreatDoor

namespace Go.Proofs.YtoofalchkedciaaGreatDoor
open Go.RowKit

/-- Of the blocks below n0 at most those of S have changed. -/
def KeepW (n0 : Nat) (S : List Nat) (W W' : World) : Prop := ∀ k, k < n0 → k ∉ S → W'.heap[k]? = W.heap[k]?

theorem KeepW.refl (n0 : Nat) (S : List Nat) (W : World) : KeepW n0 S W W := fun _ _ _ => rfl
theorem keepW_t {n0 : Nat} {S : List Nat} {A B C : World} (h : KeepW n0 S A B) (k : KeepW n0 S B C) : KeepW n0 S A C := fun i hi hs => (k i hi hs).trans (h i hi hs)
theorem keepW_b {n0 : Nat} {S : List Nat} {w : World} (hn : n0 ≤ w.heap.size) (W : World) (l : Nat) (o o' : Obj) (hl : w.heap.size ≤ l) (_ : W.heap[l]? = some o) (_ : o.isCells = false) (_ : o.isWalk = false) : KeepW n0 S W (W.putObj l o') :=
  fun k hk _ => World.putObj_heap_other (by omega)
theorem KeepW.cell {n0 : Nat} {S : List Nat} {W W' : World} (h : KeepW n0 S W W') {p : Addr} (hp : p.block < n0) (hn : p.block ∉ S) : W'.cell? p = W.cell? p := World.cell?_of_block (w := W) (h p.block hp hn)
theorem Only.keepW {n0 : Nat} {S T : List Nat} {W W' : World} (h : Only T W W') (hn : n0 ≤ W.heap.size) (hT : ∀ x ∈ T, x < n0 → x ∈ S) : KeepW n0 S W W' := fun k hk hs => h.block k (by omega) (fun hx => hs (hT k hx hk))

/-- What is below B at most: the rounds' own things stay. -/
theorem Only.keepsFrom {B : Nat} {T : List Nat} {W W' : World} (h : Only T W W') (hT : ∀ x ∈ T, x < B ∨ ∃ o : Obj, W.heap[x]? = some o ∧ o.isCells = true) : KeepsFrom B W W' :=
  ⟨h.size, fun k o hk ho hc => by
    have hl := (Array.getElem?_eq_some_iff.1 ho).1
    rw [h.block k hl (fun hx => by
      rcases hT k hx with h1 | ⟨o', h1, h2⟩
      · omega
      · rw [ho] at h1; injection h1 with h1; subst h1; rw [hc] at h2; cases h2)]
    exact ho⟩

/-- A relation on what was there when the call began abides the rounds' own things. -/
theorem ownFrom_only {β : Type} {w : World} {B : Nat} {S : List Nat} (hB : w.heap.size ≤ B) : OwnFrom B (fun (_ : β) W => Only S w W) :=
  fun _ W W' row h hg hr => h.grown hg (fun k hk hlt => by have := (hr k hk).1; omega)

theorem Cells.abides {w w' : World} {b : Nat} {vs : List Value} {row : Option Nat} (h : Cells w b vs) (hg : w.grownBy w' row) (hr : ∀ r, row = some r → ∃ o : Obj, w.heap[r]? = some o ∧ o.isCells = false) : Cells w' b vs := fun i v hv =>
  ⟨cell_kept (h i v hv).1 hg hr, (frozen_kept (h i v hv).1 hg hr).trans (h i v hv).2⟩

/-- So many things, in order. -/
def upto {α : Type} (f : Nat → α) (k : Nat) : List α := (List.range k).map f
theorem upto_succ {α : Type} (f : Nat → α) (k : Nat) : upto f (k + 1) = upto f k ++ [f k] := by simp [upto, List.range_succ]
theorem upto_length {α : Type} (f : Nat → α) (k : Nat) : (upto f k).length = k := by simp [upto]

/-- The block of deferred calls is shut at the return. -/
theorem Only.shut {w W : World} {D : Nat} {o o' : Obj} (h : Only [] w W) (hD : w.heap.size ≤ D) (_ : W.heap[D]? = some o) : Only [] w (W.putObj D o') :=
  h.grown (grownBy_putObj' W D o') (fun k hk hlt => by cases hk; omega)

end Go.Proofs.YtoofalchkedciaaGreatDoor

namespace Go.Proofs.YtoofalchkedciaaGreatDoor
open Go.RowKit Go.Sort Go.Shelf

def sortRen : Go.Shelf.Ren := ⟨fun | 5 => 186 | 8 => 210 | 7 => 209 | 19 => 238 | 20 => 212 | 10 => 229 | 11 => 230 | 12 => 231 | 13 => 232 | 14 => 233 | 15 => 234 | 16 => 235 | 17 => 236 | 18 => 237 | 30 => 248 | 31 => 249 | 32 => 250 | 33 => 251 | 34 => 252 | 35 => 253 | 40 => 258 | n => n, fun | 23 => 31 | 25 => 3 | 3 => 3 | 32 => 307 | 22 => 31 | 0 => 0 | 44 => 310 | 46 => 291 | 4 => 4 | 36 => 329 | 35 => 328 | 41 => 106 | 5 => 5 | 9 => 9 | 53 => 347 | 57 => 128 | 63 => 361 | 64 => 24 | n => n, fun n => n⟩
theorem sortLay : SlLaysM.n5 Tryz.prog sortRen where
  mixed := by kernel_rfl
  f5 := ⟨ "slices.Sort[[]int,int]", by decide, Tryz.func186.trans (congrArg some (by kernel_rfl))⟩
  f7 := ⟨ "slices.pdqsortOrdered[int]", by decide, Tryz.func209.trans (congrArg some (by kernel_rfl))⟩
  f8 := Tryz.func210.trans (congrArg some (by kernel_rfl))
  f10 := ⟨ "slices.insertionSortOrdered[int]", by decide, Tryz.func229.trans (congrArg some (by kernel_rfl))⟩
  f11 := ⟨ "slices.heapSortOrdered[int]", by decide, Tryz.func230.trans (congrArg some (by kernel_rfl))⟩
  f12 := ⟨ "slices.breakPatternsOrdered[int]", by decide, Tryz.func231.trans (congrArg some (by kernel_rfl))⟩
  f13 := ⟨ "slices.choosePivotOrdered[int]", by decide, Tryz.func232.trans (congrArg some (by kernel_rfl))⟩
  f14 := ⟨ "slices.reverseRangeOrdered[int]", by decide, Tryz.func233.trans (congrArg some (by kernel_rfl))⟩
  f15 := ⟨ "slices.partialInsertionSortOrdered[int]", by decide, Tryz.func234.trans (congrArg some (by kernel_rfl))⟩
  f16 := ⟨ "cmp.Less[int]", by decide, Tryz.func235.trans (congrArg some (by kernel_rfl))⟩
  f17 := ⟨ "slices.partitionEqualOrdered[int]", by decide, Tryz.func236.trans (congrArg some (by kernel_rfl))⟩
  f18 := ⟨ "slices.partitionOrdered[int]", by decide, Tryz.func237.trans (congrArg some (by kernel_rfl))⟩
  f19 := Tryz.func238.trans (congrArg some (by kernel_rfl))
  f20 := Tryz.func212.trans (congrArg some (by kernel_rfl))
  f30 := ⟨ "slices.siftDownOrdered[int]", by decide, Tryz.func248.trans (congrArg some (by kernel_rfl))⟩
  f31 := Tryz.func249.trans (congrArg some (by kernel_rfl))
  f32 := Tryz.func250.trans (congrArg some (by kernel_rfl))
  f33 := ⟨ "slices.medianAdjacentOrdered[int]", by decide, Tryz.func251.trans (congrArg some (by kernel_rfl))⟩
  f34 := ⟨ "slices.medianOrdered[int]", by decide, Tryz.func252.trans (congrArg some (by kernel_rfl))⟩
  f35 := ⟨ "cmp.isNaN[int]", by decide, Tryz.func253.trans (congrArg some (by kernel_rfl))⟩
  f40 := ⟨ "slices.order2Ordered[int]", by decide, Tryz.func258.trans (congrArg some (by kernel_rfl))⟩
  t0 := Tryz.underlying0
  a0 := Tryz.isAgg0
  z0 := Tryz.sizeOf0
  v0 := Tryz.zeroValue0
  t3 := Tryz.underlying3
  a3 := Tryz.isAgg3
  z3 := Tryz.sizeOf3
  v3 := Tryz.zeroValue3
  t4 := Tryz.underlying4
  a4 := Tryz.isAgg4
  z4 := Tryz.sizeOf4
  v4 := Tryz.zeroValue4
  t5 := Tryz.underlying5
  a5 := Tryz.isAgg5
  z5 := Tryz.sizeOf5
  v5 := Tryz.zeroValue5
  t9 := Tryz.underlying9
  a9 := Tryz.isAgg9
  z9 := Tryz.sizeOf9
  v9 := Tryz.zeroValue9
  t22 := Tryz.underlying31
  a22 := Tryz.isAgg31
  z22 := Tryz.sizeOf31
  v22 := Tryz.zeroValue31
  t23 := Tryz.underlying31
  a23 := Tryz.isAgg31
  z23 := Tryz.sizeOf31
  v23 := Tryz.zeroValue31
  t25 := Tryz.underlying3
  a25 := Tryz.isAgg3
  z25 := Tryz.sizeOf3
  v25 := Tryz.zeroValue3
  t32 := Tryz.underlying307
  a32 := Tryz.isAgg307
  z32 := Tryz.sizeOf307
  v32 := Tryz.zeroValue307
  t35 := Tryz.underlying328
  a35 := Tryz.isAgg328
  z35 := Tryz.sizeOf328
  v35 := Tryz.zeroValue328
  t36 := Tryz.underlying329
  a36 := Tryz.isAgg329
  z36 := Tryz.sizeOf329
  v36 := Tryz.zeroValue329
  t41 := Tryz.underlying106
  a41 := Tryz.isAgg106
  z41 := Tryz.sizeOf106
  v41 := Tryz.zeroValue106
  t44 := Tryz.underlying310
  a44 := Tryz.isAgg310
  z44 := Tryz.sizeOf310
  v44 := Tryz.zeroValue310
  t46 := Tryz.underlying291
  a46 := Tryz.isAgg291
  z46 := Tryz.sizeOf291
  v46 := Tryz.zeroValue291
  t53 := Tryz.underlying347
  a53 := Tryz.isAgg347
  z53 := Tryz.sizeOf347
  v53 := Tryz.zeroValue347
  t57 := Tryz.underlying128
  a57 := Tryz.isAgg128
  z57 := Tryz.sizeOf128
  v57 := Tryz.zeroValue128
  t63 := Tryz.underlying361
  a63 := Tryz.isAgg361
  z63 := Tryz.sizeOf361
  v63 := Tryz.zeroValue361
  t64 := Tryz.underlying24
  a64 := Tryz.isAgg24
  z64 := Tryz.sizeOf24
  v64 := Tryz.zeroValue24

theorem sort_ints (blk off cap : Nat) (zs : List Int) (w : World) (hH : Holds (Value.int .i64) w blk off zs.toArray) (hblk : blk < w.heap.size) (hsz : zs.length < 4611686018427387904) :
    Calls Tryz.prog 186 #[.slice (some ⟨blk, off, none⟩) zs.length cap] w fun e w' =>
      e = .returned (.tuple #[]) ∧ ∃ n os, w' = grow (putRow (Value.int .i64) (Sort.ahead w n) blk off (zs.mergeSort fun x y => decide (x ≤ y)).toArray) os :=
  AnyM.slices_Sort_int sortLay blk off cap zs w hH hblk hsz
theorem sort_none (p : Option Addr) (cap : Nat) (w : World) : Calls Tryz.prog 186 #[.slice p 0 cap] w fun e w' => e = .returned (.tuple #[]) ∧ w' = w :=
  AnyM.slices_Sort_int_none sortLay p cap w

end Go.Proofs.YtoofalchkedciaaGreatDoor

namespace Go.Proofs.YtoofalchkedciaaGreatDoor
open Go.RowKit Go.Sort
attribute [local go_sem] Oper.semAt_some

theorem values_mk (n : Nat) (a : Option Addr) (len cap : Nat) (w : World) :
    CallsIn Fence.wide n Tryz.prog 146 #[.slice a len cap] w fun e w' => e = .returned (.func (.func 187) #[] #[.pointer (some ⟨w.heap.size, 0, none⟩)]) ∧ w' = w.alloc (.cells #[.slice a len cap] 31) := by
  refine callsIn_of_wp Tryz.func146 rfl trivial ?_ rfl
  simp only [Tryz.ntmps146, List.size_toArray, List.length_cons, List.length_nil, Nat.reduceAdd, Nat.reduceSub, Array.replicate_succ, Array.replicate_zero, List.push_toArray, List.append_toArray, List.nil_append, List.cons_append]
  gi_wp2
  go_ret
  exact ⟨rfl, rfl⟩

set_option maxRecDepth 100000 in
set_option maxHeartbeats 2000000 in
theorem values_run (n : Nat) (l Bs n0 : Nat) (S : List Nat) (sv : Value) (zs : List Int) (J Jx : List Int → World → Prop)
    (hreach : zs.length ≤ 9223372036854775807) (hb : 0 < zs.length → ∀ x ∈ own sv, x < n0 ∧ x ∉ S) 
    (hY : ∀ pre x W, J pre W → pre.length < zs.length → YieldAt Fence.wide (n - 1) Tryz.prog l #[.int .i64 x] W fun e W' =>
      (e = .returned (.bool true) ∧ J (pre ++ [x]) W' ∧ KeepW n0 S W W') ∨ (e = .returned (.bool false) ∧ Jx (pre ++ [x]) W'))
    (W : World) (hBs : W.cell? ⟨Bs, 0, none⟩ = some sv) (hr : Reads W sv zs) (h0 : J [] W) :
    CallsIn Fence.wide n Tryz.prog 187 #[.func (.yield l) #[] #[], .pointer (some ⟨Bs, 0, none⟩)] W fun e W' => (∃ v, e = .returned v) ∧
      ((∃ ys, ys = zs ∧ J ys W') ∨ (∃ pre, (∃ k, k ≤ zs.length ∧ pre = zs.take k) ∧ Jx pre W')) := by
  obtain ⟨a, cap, rfl, hcell⟩ := hr.opt
  have HC := Lib.hid hcell
  have HB := Lib.hid hb
  obtain ⟨len, hl⟩ : ∃ len, zs.length = len := ⟨_, rfl⟩
  have HL := Lib.hid hl
  rw [hl] at hreach HC HB hBs hY ⊢
  clear hr hcell hl hb
  refine callsIn_of_wp Tryz.func187 rfl trivial ?_ rfl
  simp only [Tryz.ntmps187, List.size_toArray, List.length_cons, List.length_nil, Nat.reduceAdd, Nat.reduceSub, Array.replicate_succ, Array.replicate_zero, List.push_toArray, List.append_toArray, List.nil_append, List.cons_append]
  gi_wp2
  gi_loopw [4, 7] (fun _ i wr => ∃ k : Nat, k ≤ len ∧ i = .int .i64 k ∧ J (zs.take k) wr ∧ KeepW n0 S W wr) (fun _ i _ => len - (intOf i).toNat)
  case atStart => exact ⟨0, Nat.zero_le _, rfl, h0, KeepW.refl _ _ _⟩
  case round =>
    obtain ⟨k, hk, rfl, hJs, hnx⟩ := hrel
    by_cases hlt : k < len
    · obtain ⟨b, off, rfl, hc0⟩ := HC.out k hlt
      have hbb := HB.out (by omega) b (by simp [own, Value.ownBlock])
      have hcx : wr.cell? ⟨b, off + k, none⟩ = some (.int .i64 (nth zs k)) := (hnx.cell (p := ⟨b, off + k, none⟩) hbb.1 hbb.2).trans hc0
      obtain ⟨fn, tmps, assign, body, hy, hR⟩ := hY _ (nth zs k) wr hJs (by rw [List.length_take, HL.out]; omega)
      have HTK : Hid (zs.take (k + 1) = zs.take k ++ [nth zs k]) := by
        show _ = _
        have hkl : k < zs.length := by rw [HL.out]; exact hlt
        rw [List.take_succ_eq_append_getElem hkl]; simp [nth, hkl]
      rw [← HTK.out] at hR
      clear hc0
      gi_wp2
      refine ⟨fun h => (by simp [Fence.wide] at h), ?_⟩
      refine hR.mono ?_
      rintro e W3 (⟨rfl, hJ3, hk3⟩ | ⟨rfl, hJx3⟩)
      · gi_wp2
        go_roundw
        case rel => exact ⟨k + 1, hlt, by go_num, hJ3, keepW_t hnx hk3⟩
        case measure => (simp [intOf]; try omega)
      · gi_wp2
        refine bodyPost_ret (results_none rfl _ _ _) rfl ?_
        exact ⟨⟨_, rfl⟩, .inr ⟨_, ⟨k + 1, by omega, rfl⟩, hJx3⟩⟩
    · obtain rfl : k = len := by omega
      have htk : Hid (zs.take k = zs) := List.take_of_length_le (by rw [HL.out]; exact Nat.le_refl _)
      rw [htk.out] at hJs
      gi_wp2
      go_end0
      exact ⟨⟨_, rfl⟩, .inl ⟨_, rfl, hJs⟩⟩

theorem values_stops (n : Nat) (Bs n0 : Nat) (S : List Nat) (sv : Value) (zs : List Int) (w : World) (hreach : zs.length ≤ 9223372036854775807)
    (hb : 0 < zs.length → ∀ x ∈ own sv, x < n0 ∧ x ∉ S) (hBs : w.cell? ⟨Bs, 0, none⟩ = some sv) (hr : Reads w sv zs) :
    SeqStopsK Fence.wide n Tryz.prog 187 #[.pointer (some ⟨Bs, 0, none⟩)] (fun x : Int => #[.int .i64 x]) (KeepW n0 S) (fun ys => ys = zs) (fun pre => ∃ k, k ≤ zs.length ∧ pre = zs.take k) zs.length w := fun l J Jx W hW _ _ hY h0 => by
  have hBw := (hW.cell (p := ⟨Bs, 0, none⟩) (cell_lt hBs)).trans hBs
  exact values_run n l Bs n0 S sv zs J Jx hreach hb hY W hBw (hr.cells fun b o x hx _ => (hW.cell (p := ⟨b, o, none⟩) (cell_lt hx)).trans hx) h0

theorem Ints.abides {w w' : World} {base : Nat} {v : Value} {xs : List Int} {row : Option Nat} (h : Ints w base v xs) (hg : w.grownBy w' row) (hr : ∀ r, row = some r → ∃ o : Obj, w.heap[r]? = some o ∧ o.isCells = false) : Ints w' base v xs := by
  refine World.ownsRow.kept h hg ?_
  rcases h.2 with ⟨rfl, _⟩ | ⟨g, cap, cur, rfl, _, hgg, _⟩
  · exact .inl rfl
  · refine .inr fun e => ?_
    obtain ⟨o, ho, hc⟩ := hr g (by rw [← e]; rfl)
    rw [hgg] at ho
    injection ho with ho
    subst ho
    cases hc

theorem cell_one (w : World) (x : Value) (t : TypeId) : ∀ (j : Nat) (u : Value), [x][j]? = some u → (w.alloc (.cells #[x] t)).cell? ((⟨w.heap.size, 0, none⟩ : Addr).add j) = some u := by
  intro j u hj
  obtain rfl : j = 0 := by
    rcases j with _ | j
    · rfl
    · simp at hj
  have e : (⟨w.heap.size, 0, none⟩ : Addr).add 0 = ⟨w.heap.size, 0, none⟩ := rfl
  rw [e, World.cell?_alloc_new]
  simpa using hj

set_option maxRecDepth 100000 in
set_option maxHeartbeats 2000000 in
theorem append_seq (gf : Nat) (lb : Array Value) (S Sp : List Int → Prop) (N : Nat) (hN : N ≤ 17592186044416) (w : World) (eg : ∀ args w, (callFunc gf args).run Tryz.prog w = .ok (.enter gf args) w)
    (hseq : ∀ n, SeqStopsK Fence.wide n Tryz.prog gf lb (fun x : Int => #[.int .i64 x]) (KeepW w.heap.size []) S Sp N w) :
    Calls Tryz.prog 208 #[.slice none 0 0, .func (.func gf) #[] lb] w fun e w' => ∃ v xs, e = .returned v ∧ S xs ∧ Ints w' w.heap.size v xs ∧ Only [] w w' := by
  obtain ⟨i0, hi, hz0, hz1, hz2⟩ := info_int
  refine (callsIn_wide (n := 9)).1 ?_
  refine callsIn_of_wp_marks Tryz.func208 rfl trivial ?_ rfl
  simp only [Tryz.ntmps208, List.size_toArray, List.length_cons, List.length_nil, Nat.reduceAdd, Nat.reduceSub, Array.replicate_succ, Array.replicate_zero, List.push_toArray, List.append_toArray, List.nil_append, List.cons_append]
  obtain ⟨W0, hW0⟩ : ∃ W0, w.alloc (.cells #[.slice none 0 0] 31) = W0 := ⟨_, rfl⟩
  have hC0 := Cells.new w #[.slice none 0 0] 31
  have ho0 := (Only.refl [] w).alloc (.cells #[.slice none 0 0] 31)
  have hs0 : W0.heap.size = w.heap.size + 1 := by rw [← hW0]; simp
  have hb0 : Below w.heap.size w W0 := by rw [← hW0]; exact (Below.refl _ w).alloc (Nat.le_refl _) _
  rw [hW0] at hC0 ho0
  have HW0 := Lib.hid hW0
  clear hW0
  gi_wp2_with fail
  rw [HW0.out]
  refine wpIn_rangeFunc_ownG (α := Int) rfl (by omega) (gf := gf) (lb := lb) rfl trivial eg (hseq _) keepW_t (keepW_b (by omega)) hb0 (fun _ => rfl)
    (fun pre W => (∃ v, Cells W w.heap.size [v] ∧ Ints W (w.heap.size + 1) v pre) ∧ Only [w.heap.size] W0 W) (fun _ _ _ => False)
    (OwnFrom.and (Own.from (fun s A B row hs hg hr => by obtain ⟨v, h1, h2⟩ := hs; exact ⟨v, h1.abides hg hr, h2.abides hg hr⟩) _) (ownFrom_only (Nat.le_refl _)))
    (fun _ _ _ _ _ hs _ _ => hs)
    ⟨⟨_, hC0, Ints.nil _ _⟩, Only.refl _ _⟩
    (fun x => { tmps := #[.slice none 0 0, .func (.func gf) #[] lb, .pointer (some ⟨w.heap.size, 0, none⟩), undef, .slice none 0 0, .int .i64 x, .func (.func gf) #[] lb, .int .i64 x, undef, undef, undef, undef, undef], defers := [] }) ?assign ?body ?done ?stop
  case assign =>
    intro l x W K hK
    gi_wp2
    exact hK
  case body =>
    rintro l pre x W ⟨⟨v, hC, hI⟩, hoL⟩ hlen
    have cB := hC.cell 0 _ rfl
    have fB := (hC 0 _ rfl).2
    have hBl := hC.lt
    have hfar := Row.far hI
    have hI : W.ownsRow (w.heap.size + 1) 3 1 v pre.length (pre.map (Value.int .i64)) := hI
    obtain ⟨va, vc, rfl, hvc, hvm, _⟩ := Row.form hI
    have hal := (Only.refl [] W).alloc (.cells #[.int .i64 x] 3)
    have HCELL : Hid (∀ y ∈ own (.slice va pre.length vc), ∃ o : Obj, W.heap[y]? = some o ∧ o.isCells = true) := fun y hy => by
      rcases hI.2 with ⟨h0, _⟩ | ⟨g, cap, cur, h0, _, hgg, _⟩
      · rw [h0] at hy; simp [own, Value.ownBlock] at hy
      · rw [h0] at hy
        obtain rfl : y = g := by simpa [own, Value.ownBlock] using hy
        exact ⟨_, hgg, rfl⟩
    have hI1 : (W.alloc (.cells #[.int .i64 x] 3)).ownsRow (w.heap.size + 1) 3 1 (.slice va pre.length vc) pre.length (pre.map (Value.int .i64)) := Row.only hI hal (by simp)
    have hC1 := hC.only hal (by simp)
    have hsz := hoL.size
    have HC1 := Lib.hid hC1
    have HI1 := Lib.hid hI1
    have HOL := Lib.hid hoL
    clear hC hI hI1 hC1 hoL
    gi_wp2_with (gi_at_builtin; refine wpListIn_append_own_at _ rfl (.tmp 8) (.tmp 10) 31 rfl (w.heap.size + 1) 3 i0 (.int .i64 0) 1 8 Tryz.underlying31 hi hz0 hz1 hz2 rfl (by decide) (.slice va pre.length vc) pre.length (pre.map (Value.int .i64)) rfl HI1.out ⟨W.heap.size, 0, none⟩ 1 1 [.int .i64 x] rfl rfl (cell_one _ _ _) (by simp [Value.oneCell']) (by unfold maxLen; omega) (by omega) (by simp; omega) ?_; intro v3 w3 hI3 hg3 _ hb3; have hO3 : Only (own (.slice va pre.length vc)) (W.alloc (.cells #[.int .i64 x] 3)) w3 := (Only.refl _ _).grown hg3 (fun k hk _ => by simp [own, hk]); have hC3 := HC1.out.only hO3 (fun h => by have := (hfar _ h).1; omega); have cB3 := hC3.cell 0 _ rfl; have fB3 := (hC3 0 _ rfl).2; obtain ⟨ga, gc, rfl, _, _, _⟩ := Row.form hI3)
    have hOF : Only (w.heap.size :: own (.slice va pre.length vc)) W (w3.setCell ⟨w.heap.size, 0, none⟩ (.slice ga (pre.length + 1) gc)) :=
      ((hal.mono (by simp)).trans (hO3.mono (fun a h _ => List.mem_cons_of_mem _ h)) (fun a h _ => h)).setCell (by simp) _
    have hJ1 : Cells (w3.setCell ⟨w.heap.size, 0, none⟩ (.slice ga (pre.length + 1) gc)) w.heap.size [.slice ga (pre.length + 1) gc] := hC3.set 0 _
    have hJ2 : Ints (w3.setCell ⟨w.heap.size, 0, none⟩ (.slice ga (pre.length + 1) gc)) (w.heap.size + 1) (.slice ga (pre.length + 1) gc) (pre ++ [x]) := by
      have h1 : Ints w3 (w.heap.size + 1) (.slice ga (pre.length + 1) gc) (pre ++ [x]) := by unfold Ints; simpa using hI3
      exact h1.only ((Only.refl [w.heap.size] w3).setCell (by simp) _) (fun y hy h => by have := (Row.far hI3 y (by simpa [own] using hy)).1; simp at h; omega)
    have hcells : ∀ y ∈ own (.slice va pre.length vc), ∃ o : Obj, W.heap[y]? = some o ∧ o.isCells = true := HCELL.out
    refine ⟨hOF.keepsFrom (fun y hy => ?_), hOF.keepW (by omega) (fun y hy hlt => ?_), ⟨_, hJ1, hJ2⟩, HOL.out.trans hOF (fun y hy hlt => ?_)⟩
    · rcases List.mem_cons.1 hy with rfl | hy
      · left; omega
      · right; exact hcells y hy
    · rcases List.mem_cons.1 hy with rfl | hy
      · omega
      · have := (hfar y hy).1; omega
    · rcases List.mem_cons.1 hy with rfl | hy
      · simp
      · have := (hfar y hy).1; omega
  case done =>
    rintro D xs W hD hS ⟨⟨v, hC, hI⟩, hoL⟩ hK
    have cB := hC.cell 0 _ rfl
    have ho : Only [] w W := ho0.trans hoL (fun y hy hlt => by simp at hy; omega)
    have hHI := Lib.hid hI
    clear hI
    gi_wp2
    refine ⟨by simp, .inl ⟨_, _, rfl, run_takeDeferred hK, ?_⟩⟩
    refine ⟨_, results_tmp rfl _ _ _, _, xs, rfl, hS, ?_, ho.shut (by omega) hK⟩
    exact Row.mono (Ints.abides hHI.out (grownBy_putObj' W D _) (fun r e => by cases e; exact ⟨_, hK, rfl⟩)) (by omega)
  case stop =>
    rintro D c pre W _ _ h _
    exact h.elim

set_option maxRecDepth 100000 in
theorem collect_seq (gf : Nat) (lb : Array Value) (S Sp : List Int → Prop) (N : Nat) (hN : N ≤ 17592186044416) (w : World) (eg : ∀ args w, (callFunc gf args).run Tryz.prog w = .ok (.enter gf args) w)
    (hseq : ∀ n, SeqStopsK Fence.wide n Tryz.prog gf lb (fun x : Int => #[.int .i64 x]) (KeepW w.heap.size []) S Sp N w) :
    Calls Tryz.prog 185 #[.func (.func gf) #[] lb] w fun e w' => ∃ v xs, e = .returned v ∧ S xs ∧ Ints w' w.heap.size v xs ∧ Only [] w w' := by
  have hc := append_seq gf lb S Sp N hN w eg hseq
  clear hseq eg
  go_enter Tryz.func185, Tryz.ntmps185
  go_wp2_with fail
  refine hc.mono ?_
  rintro e w1 ⟨v, xs, rfl, h1, h2, h3⟩
  clear hc
  go_wp2
  go_ret
  exact ⟨v, xs, rfl, h1, h2, h3⟩

/-- What the sort leaves. -/
theorem sorted_world {w : World} {g n : Nat} {os : Array Obj} {d : Array Int} {S : List Nat} (hg : g ∈ S) : Only S w (grow (putRow (Value.int .i64) (Sort.ahead w n) g 0 d) os) :=
  (Only.refl S w).grown (grownBy_sortedI d) (fun k hk _ => by cases hk; exact hg)

set_option maxRecDepth 100000 in
theorem sorted_seq (gf : Nat) (lb : Array Value) (S Sp : List Int → Prop) (N : Nat) (hN : N ≤ 17592186044416) (w : World) (eg : ∀ args w, (callFunc gf args).run Tryz.prog w = .ok (.enter gf args) w)
    (hseq : ∀ n, SeqStopsK Fence.wide n Tryz.prog gf lb (fun x : Int => #[.int .i64 x]) (KeepW w.heap.size []) S Sp N w) (hlen : ∀ xs, S xs → xs.length ≤ N) :
    Calls Tryz.prog 145 #[.func (.func gf) #[] lb] w fun e w' => ∃ v xs, e = .returned v ∧ S xs ∧ Ints w' w.heap.size v (xs.mergeSort fun x y => decide (x ≤ y)) ∧ Only [] w w' := by
  have hc := collect_seq gf lb S Sp N hN w eg hseq
  have HS := Lib.hid sort_ints
  have HN := Lib.hid sort_none
  clear hseq eg
  go_enter Tryz.func145, Tryz.ntmps145
  go_wp2_with fail
  refine hc.mono ?_
  rintro e w1 ⟨v, xs, rfl, h1, h2, h3⟩
  clear hc
  rcases h2.2 with ⟨rfl, hz⟩ | ⟨g, cap, cur, rfl, hbase, hb, r1, r2, r3, r4⟩
  · have hxs : xs = [] := List.eq_nil_of_length_eq_zero hz
    subst hxs
    go_wp2_with fail
    refine (HN.out none 0 w1).mono ?_
    rintro e w2 ⟨rfl, rfl⟩
    go_wp2
    go_ret
    exact ⟨_, [], rfl, h1, by simpa using h2, h3⟩
  · have hgl : g < w1.heap.size := (Array.getElem?_eq_some_iff.1 hb).1
    have hsz := hlen xs h1
    have hH : Holds (Value.int .i64) w1 g 0 xs.toArray := holds_of_blockI hb (by simpa using r4)
    have hs := HS.out g 0 cap xs w1 hH hgl (by omega)
    have HB := Lib.hid hb
    have H3 := Lib.hid h3
    obtain ⟨n, hn⟩ : ∃ n, xs.length = n := ⟨_, rfl⟩
    have hn9 : n ≤ 9223372036854775807 := by omega
    have HLN := Lib.hid hn
    rw [hn] at hs ⊢
    clear h2 hb hH h3 hn hsz
    go_wp2_with fail
    refine hs.mono ?_
    rintro e w2 ⟨rfl, k, os, rfl⟩
    have hI : Ints (grow (putRow (Value.int .i64) (Sort.ahead w1 k) g 0 (xs.mergeSort fun x y => decide (x ≤ y)).toArray) os) w.heap.size (.slice (some ⟨g, 0, none⟩) xs.length cap) (xs.mergeSort fun x y => decide (x ≤ y)) := by
      unfold Ints
      rw [List.length_mergeSort]
      exact ownsRow_sortedI (by simp) hbase HB.out r1 r2 r3
    have ho : Only [] w (grow (putRow (Value.int .i64) (Sort.ahead w1 k) g 0 (xs.mergeSort fun x y => decide (x ≤ y)).toArray) os) :=
      H3.out.trans (sorted_world (S := [g]) (by simp)) (fun a ha hl => by simp at ha; omega)
    rw [HLN.out] at hI
    have HI := Lib.hid hI
    have HO := Lib.hid ho
    clear hI ho hs
    go_wp2
    go_ret
    exact ⟨_, xs, rfl, h1, HI.out, HO.out⟩

end Go.Proofs.YtoofalchkedciaaGreatDoor
