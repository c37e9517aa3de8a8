/-
  The library's slices.Sort at []int, laid at this program: its contracts.
  Tasks one behind the other, and beside each other, as plans.
  Tasks one behind the other, and beside each other: they are plans. No program is named here.
  Plans written out in the text are right: by a test.
  Contracts of a gang's Held and Left.
-/
import Derived.Test.YtocpmncedlenbaaGreatDoorP2GangPlays
import Derived.Shelf.SortM.Plain
import Derived.Shelf.SortM.SortNone
import Derived.Test.YtocpmncedlenbaaGreatDoorP3GangPlays
import Derived.Test.YtocpmncedlenbaaGreatDoorP30GangPlays
import Derived.Sort.OwnSortedInts
namespace Go.Proofs.YtocpmncedlenbaaGreatDoor
open Go.RowKit Go.Sort Go.Shelf

def sortRen : Go.Shelf.Ren := ⟨fun | 5 => 89 | 8 => 145 | 7 => 144 | 19 => 186 | 20 => 187 | 10 => 177 | 11 => 178 | 12 => 179 | 13 => 180 | 14 => 181 | 15 => 182 | 16 => 183 | 17 => 184 | 18 => 185 | 30 => 205 | 31 => 206 | 32 => 207 | 33 => 208 | 34 => 209 | 35 => 119 | 40 => 223 | n => n, fun | 23 => 32 | 25 => 3 | 3 => 3 | 32 => 239 | 22 => 32 | 0 => 0 | 44 => 279 | 46 => 281 | 4 => 4 | 36 => 273 | 35 => 272 | 41 => 155 | 5 => 5 | 9 => 9 | 53 => 302 | 57 => 193 | 63 => 316 | 64 => 69 | n => n, fun n => n⟩
theorem sortLay : SlLaysM.n5 Tryz.prog sortRen where
  mixed := by kernel_rfl
  f5 := ⟨ "slices.Sort[[]int,int]", by decide, Tryz.func89.trans (congrArg some (by kernel_rfl))⟩
  f7 := ⟨ "slices.pdqsortOrdered[int]", by decide, Tryz.func144.trans (congrArg some (by kernel_rfl))⟩
  f8 := Tryz.func145.trans (congrArg some (by kernel_rfl))
  f10 := ⟨ "slices.insertionSortOrdered[int]", by decide, Tryz.func177.trans (congrArg some (by kernel_rfl))⟩
  f11 := ⟨ "slices.heapSortOrdered[int]", by decide, Tryz.func178.trans (congrArg some (by kernel_rfl))⟩
  f12 := ⟨ "slices.breakPatternsOrdered[int]", by decide, Tryz.func179.trans (congrArg some (by kernel_rfl))⟩
  f13 := ⟨ "slices.choosePivotOrdered[int]", by decide, Tryz.func180.trans (congrArg some (by kernel_rfl))⟩
  f14 := ⟨ "slices.reverseRangeOrdered[int]", by decide, Tryz.func181.trans (congrArg some (by kernel_rfl))⟩
  f15 := ⟨ "slices.partialInsertionSortOrdered[int]", by decide, Tryz.func182.trans (congrArg some (by kernel_rfl))⟩
  f16 := ⟨ "cmp.Less[int]", by decide, Tryz.func183.trans (congrArg some (by kernel_rfl))⟩
  f17 := ⟨ "slices.partitionEqualOrdered[int]", by decide, Tryz.func184.trans (congrArg some (by kernel_rfl))⟩
  f18 := ⟨ "slices.partitionOrdered[int]", by decide, Tryz.func185.trans (congrArg some (by kernel_rfl))⟩
  f19 := Tryz.func186.trans (congrArg some (by kernel_rfl))
  f20 := Tryz.func187.trans (congrArg some (by kernel_rfl))
  f30 := ⟨ "slices.siftDownOrdered[int]", by decide, Tryz.func205.trans (congrArg some (by kernel_rfl))⟩
  f31 := Tryz.func206.trans (congrArg some (by kernel_rfl))
  f32 := Tryz.func207.trans (congrArg some (by kernel_rfl))
  f33 := ⟨ "slices.medianAdjacentOrdered[int]", by decide, Tryz.func208.trans (congrArg some (by kernel_rfl))⟩
  f34 := ⟨ "slices.medianOrdered[int]", by decide, Tryz.func209.trans (congrArg some (by kernel_rfl))⟩
  f35 := ⟨ "cmp.isNaN[int]", by decide, Tryz.func119.trans (congrArg some (by kernel_rfl))⟩
  f40 := ⟨ "slices.order2Ordered[int]", by decide, Tryz.func223.trans (congrArg some (by kernel_rfl))⟩
  t0 := Tryz.underlying0
  a0 := Tryz.isAgg0
  z0 := Tryz.sizeOf0
  v0 := Tryz.zeroValue0
  t3 := Tryz.underlying3
  a3 := Tryz.isAgg3
  z3 := Tryz.sizeOf3
  v3 := Tryz.zeroValue3
  t4 := Tryz.underlying4
  a4 := Tryz.isAgg4
  z4 := Tryz.sizeOf4
  v4 := Tryz.zeroValue4
  t5 := Tryz.underlying5
  a5 := Tryz.isAgg5
  z5 := Tryz.sizeOf5
  v5 := Tryz.zeroValue5
  t9 := Tryz.underlying9
  a9 := Tryz.isAgg9
  z9 := Tryz.sizeOf9
  v9 := Tryz.zeroValue9
  t22 := Tryz.underlying32
  a22 := Tryz.isAgg32
  z22 := Tryz.sizeOf32
  v22 := Tryz.zeroValue32
  t23 := Tryz.underlying32
  a23 := Tryz.isAgg32
  z23 := Tryz.sizeOf32
  v23 := Tryz.zeroValue32
  t25 := Tryz.underlying3
  a25 := Tryz.isAgg3
  z25 := Tryz.sizeOf3
  v25 := Tryz.zeroValue3
  t32 := Tryz.underlying239
  a32 := Tryz.isAgg239
  z32 := Tryz.sizeOf239
  v32 := Tryz.zeroValue239
  t35 := Tryz.underlying272
  a35 := Tryz.isAgg272
  z35 := Tryz.sizeOf272
  v35 := Tryz.zeroValue272
  t36 := Tryz.underlying273
  a36 := Tryz.isAgg273
  z36 := Tryz.sizeOf273
  v36 := Tryz.zeroValue273
  t41 := Tryz.underlying155
  a41 := Tryz.isAgg155
  z41 := Tryz.sizeOf155
  v41 := Tryz.zeroValue155
  t44 := Tryz.underlying279
  a44 := Tryz.isAgg279
  z44 := Tryz.sizeOf279
  v44 := Tryz.zeroValue279
  t46 := Tryz.underlying281
  a46 := Tryz.isAgg281
  z46 := Tryz.sizeOf281
  v46 := Tryz.zeroValue281
  t53 := Tryz.underlying302
  a53 := Tryz.isAgg302
  z53 := Tryz.sizeOf302
  v53 := Tryz.zeroValue302
  t57 := Tryz.underlying193
  a57 := Tryz.isAgg193
  z57 := Tryz.sizeOf193
  v57 := Tryz.zeroValue193
  t63 := Tryz.underlying316
  a63 := Tryz.isAgg316
  z63 := Tryz.sizeOf316
  v63 := Tryz.zeroValue316
  t64 := Tryz.underlying69
  a64 := Tryz.isAgg69
  z64 := Tryz.sizeOf69
  v64 := Tryz.zeroValue69

theorem sort_ints (blk off cap : Nat) (zs : List Int) (w : World) (hH : Holds (Value.int .i64) w blk off zs.toArray) (hblk : blk < w.heap.size) (hsz : zs.length < 4611686018427387904) :
    Calls Tryz.prog 89 #[.slice (some ⟨blk, off, none⟩) zs.length cap] w fun e w' =>
      e = .returned (.tuple #[]) ∧ ∃ n os, w' = grow (putRow (Value.int .i64) (Sort.ahead w n) blk off (zs.mergeSort fun x y => decide (x ≤ y)).toArray) os :=
  AnyM.slices_Sort_int sortLay blk off cap zs w hH hblk hsz
theorem sort_none (p : Option Addr) (cap : Nat) (w : World) : Calls Tryz.prog 89 #[.slice p 0 cap] w fun e w' => e = .returned (.tuple #[]) ∧ w' = w :=
  AnyM.slices_Sort_int_none sortLay p cap w

end Go.Proofs.YtocpmncedlenbaaGreatDoor

namespace Go.Proofs.YtocpmncedlenbaaGreatDoor
open Go.RowKit Go.Deep

def chainT (work : Int) (i : Nat) : Int × List Int := (work, if i = 0 then [] else [(i : Int) - 1])
def chainP (n : Nat) (work : Int) : PlanL := (List.range n).map (chainT work)
def besideP (n : Nat) (work : Int) : PlanL := (List.range n).map fun _ => (work, [])
theorem chainP_len (n : Nat) (work : Int) : (chainP n work).length = n := by simp [chainP]
theorem besideP_len (n : Nat) (work : Int) : (besideP n work).length = n := by simp [besideP]
theorem chainP_push (n : Nat) (work : Int) : chainP n work ++ [chainT work n] = chainP (n + 1) work := by simp [chainP, List.range_succ]
theorem besideP_push (n : Nat) (work : Int) : besideP n work ++ [(work, [])] = besideP (n + 1) work := by simp [besideP, List.range_succ]

end Go.Proofs.YtocpmncedlenbaaGreatDoor

namespace Go.Proofs.YtocpmncedlenbaaGreatDoor

theorem chain_wk (n : Nat) (work : Int) (i : Nat) (h : i < n) : wkOf (chainP n work) i = work := by simp [wkOf, chainP, h, chainT]
theorem chain_nd (n : Nat) (work : Int) (i : Nat) (h : i < n) : ndOf (chainP n work) i = if i = 0 then [] else [(i : Int) - 1] := by simp [ndOf, chainP, h, chainT]
theorem beside_wk (n : Nat) (work : Int) (i : Nat) (h : i < n) : wkOf (besideP n work) i = work := by simp [wkOf, besideP, h]
theorem beside_nd (n : Nat) (work : Int) (i : Nat) : ndOf (besideP n work) i = [] := by
  by_cases h : i < n
  · simp [ndOf, besideP, h]
  · exact ndOf_none _ _ (by rw [besideP_len]; omega)

/-- Where each needs only those ahead of it nobody needs itself. -/
theorem acyc_of {p : PlanL} (h : ∀ i k : Nat, (k : Int) ∈ ndOf p i → k < i) (i k : Nat) (hr : Reach p i k) : k < i := by
  induction hr with
  | one hk => exact h _ _ hk
  | more _ hk ih => have := h _ _ hk; omega

theorem chain_need {n : Nat} {work : Int} {i k : Nat} (h : (k : Int) ∈ ndOf (chainP n work) i) : k < i := by
  by_cases hi : i < n
  · rw [chain_nd _ _ _ hi] at h
    split at h
    · cases h
    · simp at h; omega
  · rw [ndOf_none _ _ (by rw [chainP_len]; omega)] at h; cases h

theorem chain_ok (n : Nat) (work : Int) (hn : n ≤ 30) (h1 : 1 ≤ work) (h2 : work ≤ 20) : PlanOk (chainP n work) := by
  refine ⟨by rw [chainP_len]; exact hn, fun i hi => ?_, fun i hi hr => ?_⟩
  · rw [chainP_len] at hi ⊢
    have e : (chainP n work)[i]?.getD (0, []) = chainT work i := by simp [chainP, hi]
    rw [e]
    unfold taskFault chainT
    have hany : (if i = 0 then ([] : List Int) else [(i : Int) - 1]).any (outOf n) = false := by
      split
      · rfl
      · simp [outOf]; omega
    have hris : rising (if i = 0 then ([] : List Int) else [(i : Int) - 1]) = true := by split <;> rfl
    simp only [hany, hris]
    rw [if_neg (by simp; omega)]
    rfl
  · have := acyc_of (fun i k => chain_need) i i hr
    omega

theorem beside_ok (n : Nat) (work : Int) (hn : n ≤ 30) (h1 : 1 ≤ work) (h2 : work ≤ 20) : PlanOk (besideP n work) := by
  refine ⟨by rw [besideP_len]; exact hn, fun i hi => ?_, fun i hi hr => ?_⟩
  · rw [besideP_len] at hi ⊢
    have e : (besideP n work)[i]?.getD (0, []) = (work, []) := by simp [besideP, hi]
    rw [e]
    unfold taskFault
    rw [if_neg (by simp; omega)]
    rfl
  · have := acyc_of (fun i k h => by rw [beside_nd] at h; cases h) i i hr
    omega

end Go.Proofs.YtocpmncedlenbaaGreatDoor

namespace Go.Proofs.YtocpmncedlenbaaGreatDoor
open Go.RowKit

/-- Each task is right by itself, and needs only those ahead of it. -/
def litOk (p : PlanL) : Bool := decide (p.length ≤ 30) && (List.range p.length).all fun i => decide (taskFault p.length (p[i]?.getD (0, [])) = 0) && (ndOf p i).all fun k => decide (k < i)

theorem litOk_ok {p : PlanL} (h : litOk p = true) : PlanOk p := by
  unfold litOk at h
  simp only [Bool.and_eq_true, decide_eq_true_eq, List.all_eq_true, List.mem_range] at h
  obtain ⟨h1, h2⟩ := h
  refine ⟨h1, fun i hi => (h2 i hi).1, fun i hi hr => ?_⟩
  have := acyc_of (p := p) (fun i k hk => by
    by_cases hi : i < p.length
    · have := (h2 i hi).2 (k : Int) hk
      omega
    · rw [ndOf_none _ _ (by omega)] at hk; cases hk) i i hr
  omega

/-- A row of numbers that is written out. -/
theorem lit_row {W : World} {b : Nat} (l : List Int) (h : W.heap[b]? = some (.cells (l.map (Value.int .i64)).toArray 3 (0, 0))) (hn : l.length ≤ 1000) : Reads W (.slice (some ⟨b, 0, none⟩) l.length l.length) l :=
  lit_ints h l (by simp) hn

end Go.Proofs.YtocpmncedlenbaaGreatDoor

namespace Go.Proofs.YtocpmncedlenbaaGreatDoor
open Go.RowKit Go.Deep Go.Sort

theorem sort_own (base g cap : Nat) (l : List Int) (n : Nat) (hn : l.length = n) (w : World) (h : Ints w base (.slice (some ⟨g, 0, none⟩) n cap) l) (hl : n ≤ 1000000) :
    Calls Tryz.prog 89 #[.slice (some ⟨g, 0, none⟩) n cap] w fun e w' => e = .returned (.tuple #[]) ∧ Ints w' base (.slice (some ⟨g, 0, none⟩) n cap) (l.mergeSort fun x y => decide (x ≤ y)) ∧ Only [g] w w' := by
  subst hn
  have hlt := (Row.far h) g (by simp [own, Value.ownBlock])
  rcases h.2 with ⟨h0, _⟩ | ⟨g', cap', cur, hv, hg, hb, hn, hcap, hcur, ht⟩
  · cases h0
  cases hv
  refine (sort_ints g 0 cap l w (holds_of_blockI hb (by simpa using ht)) hlt.2 (by omega)).mono ?_
  rintro e w' ⟨rfl, k, os, rfl⟩
  refine ⟨rfl, ?_, (Only.refl [g] w).grown (grownBy_sortedI _) (fun k hk _ => by simp at hk; simp [hk])⟩
  have hlen : (l.mergeSort fun x y => decide (x ≤ y)).length = l.length := by simp
  have := ownsRow_sortedI (os := os) (n := k) hlen hg hb hn hcap hcur
  unfold Ints
  rw [hlen]
  exact this

theorem sorted_is {l r : List Int} (h : l.Perm r) (hr : r.Pairwise (· < ·)) : l.mergeSort (fun x y => decide (x ≤ y)) = r := by
  refine List.Perm.eq_of_pairwise (le := fun a b => decide (a ≤ b) = true) (fun a b _ _ h1 h2 => ?_) (List.pairwise_mergeSort (fun a b c h1 h2 => ?_) (fun a b => ?_) l) (hr.imp (fun {a b} h => by simp; omega)) ((List.mergeSort_perm l _).trans h)
  · simp at h1 h2; omega
  · simp at h1 h2 ⊢; omega
  · simp; omega

set_option maxRecDepth 100000 in
set_option maxHeartbeats 4000000 in
theorem gang_Held {w : World} {F : Nat → Prop} {q : GPar} {p : PlanL} {room m : Nat} {s : GSt} (h : GangIs w q p room m s F) (H : GInv p room m s) :
    Calls Tryz.prog 25 #[.pointer (some ⟨q.G, 0, none⟩)] w fun e w' => ∃ v, e = .returned v ∧ Ints w' w.heap.size v (natL (readyL p s.done)) ∧ Only [] w w' := by
  have R := GRel.start h
  obtain ⟨hC, _, hrow, hwk, _, m1, m6, mc, cm, _, _, hok⟩ := R.cells
  have hal := R.spill_all
  have c2 := hC.cell 2 _ rfl
  have HC := Lib.hid hC
  have HROW := Lib.hid hrow
  have HWK := Lib.hid hwk
  have HR := Lib.hid R
  have hlen := H.len
  have h30 := hok.len
  have HS := Lib.hid (fun L (hL : heldL m s = L) => (by rw [← hL]; exact sorted_is H.held (natL_pair (readyL_pair p s.done)) : L.mergeSort (fun x y => decide (x ≤ y)) = natL (readyL p s.done)))
  have HLEN := Lib.hid (fun i (hi : i ≤ m) => (by
    have h1 : ∀ k, (workL (i + k) s.ws).length = (workL i s.ws).length + ((workL (i + k) s.ws).length - (workL i s.ws).length) := fun k => by
      have : (workL i s.ws).length ≤ (workL (i + k) s.ws).length := by
        induction k with
        | zero => exact Nat.le_refl _
        | succ k ih =>
          have e : workL (i + (k + 1)) s.ws = workL (i + k) s.ws ++ ownW (s.ws (i + k)) := rfl
          rw [e, List.length_append]; omega
      omega
    have h2 := h1 (m - i)
    rw [show i + (m - i) = m by omega] at h2
    unfold heldL at hlen
    rw [List.length_append] at hlen ⊢
    omega : (s.spill ++ workL i s.ws).length ≤ 30))
  clear h R hC hrow hwk H hlen
  go_enter Tryz.func25, Tryz.ntmps25
  go_wp2_with fail
  refine hal.mono ?_
  rintro e w1 ⟨v, rfl, hI, ho⟩
  have c4 := (HC.out.only ho (by simp)).cell 4 _ rfl
  have HI := Lib.hid hI
  have HO := Lib.hid ho
  clear hal hI ho
  go_wp2_with fail
  go_loopw [3, 5, 16] (fun vo _ vi wr => ∃ i : Nat, i ≤ m ∧ vi = .int .i64 i ∧ Ints wr w.heap.size vo (s.spill ++ workL i s.ws) ∧ Only [] w wr) (fun _ _ vi _ => m - (intOf vi).toNat)
  case atStart => exact ⟨0, Nat.zero_le _, rfl, by simp only [workL, List.append_nil]; exact HI.out, HO.out⟩
  case round =>
    obtain ⟨wo, rfl⟩ : ∃ wo : World, wo = wr := ⟨_, rfl⟩
    obtain ⟨i, hi, rfl, hI, ho⟩ := hrel
    have hsz := ho.size
    by_cases him : i < m
    · have hr := (ho.cell (p := ⟨q.L, i, none⟩) (cell_lt (HROW.out i him)) (by simp)).trans (HROW.out i him)
      have hw := (HWK.out i him).only ho (by simp)
      have d0 := hw.cell 0 _ rfl
      have hha := (HR.out.same ho).hand_all him
      have hlen1 := HLEN.out (i + 1) (by omega)
      have hnx : s.spill ++ workL (i + 1) s.ws = (s.spill ++ workL i s.ws) ++ (((s.ws i).ring ++ nearL (s.ws i).near) ++ nearL (s.ws i).task) := by
        simp [workL, ownW]
      rw [hnx] at hlen1
      have HNX := Lib.hid hnx
      obtain ⟨A, hA⟩ : ∃ A, s.spill ++ workL i s.ws = A := ⟨_, rfl⟩
      obtain ⟨B, hB⟩ : ∃ B, (s.ws i).ring ++ nearL (s.ws i).near = B := ⟨_, rfl⟩
      obtain ⟨t, ht⟩ : ∃ t, (s.ws i).task = t := ⟨_, rfl⟩
      rw [hA, hB, ht] at HNX hlen1
      rw [hA] at hI
      rw [hB] at hha
      rw [ht] at hw
      have hAB : A.length + B.length ≤ 30 ∧ A.length + B.length + (nearL t).length ≤ 30 := by
        simp only [List.length_append] at hlen1; omega
      obtain ⟨hab1, hab2⟩ := hAB
      have HI2 := Lib.hid hI
      have HO2 := Lib.hid ho
      have HW2 := Lib.hid hw
      clear hI ho hw hnx hA hB ht hlen1
      go_wp2_with fail
      refine hha.mono ?_
      rintro e w2 ⟨v2, rfl, hI2, ho2⟩
      have HV2 := Lib.hid hI2.reads
      have HI3 := Lib.hid (HI2.out.only ho2 (by simp))
      have HO3 := Lib.hid (HO2.out.trans ho2 (by simp))
      have HW3 := Lib.hid (HW2.out.only ho2 (by simp))
      have hsz2 : w.heap.size ≤ w2.heap.size := by have := HO3.out.size; omega
      clear hha hI2 ho2
      have hWi : q.WB i < w.heap.size := (HWK.out i him).lt
      have hfar : ∀ y ∈ own u3, w.heap.size ≤ y := fun y hy => (HI3.out.own_lt y hy).1
      have HFAR := Lib.hid hfar
      clear hfar
      by_cases ht0 : 0 ≤ t
      · have hnt := nearL_pos ht0
        rw [hnt] at HNX hab2
        clear hnt
        go_wp2_with (first
          | (at_builtin; refine wpList_append_reads rfl (.tmp 20) (.tmp 25) rfl w2 w.heap.size _ _ _ _ HI3.out HV2.out (by omega) hsz2 rfl rfl (Only.refl _ _) ?_; intro v3 w3 hI3 hO3 hK3; obtain ⟨a3, c3, rfl, _⟩ := hI3.opt; have d1 := (HW3.out.only hO3 (fun hx => by have h1 := HFAR.out _ hx; omega)).cell 1 _ rfl; have HI4 := Lib.hid (by have h := hI3; rw [List.length_append] at h; exact h : Ints w3 w.heap.size (.slice a3 (A.length + B.length) c3) (A ++ B)); have HO4 := Lib.hid (HO3.out.trans hO3 (fun y hy hl => by have h1 := HFAR.out y hy; omega)); have hsz4 := HO4.out.size; clear hI3 hO3 hK3)
          | (at_builtin; refine wpList_append_reads rfl (.tmp 32) (.tmp 37) rfl (w3.alloc (.cells #[.int .i64 t] 3)) w.heap.size _ _ _ [t] (HI4.out.only ((Only.refl [] w3).alloc _) (by simp)) (lit_row [t] (heap_alloc_at _ _ _ rfl) (by simp)) (by simp at hab2 ⊢; omega) (by simp; omega) rfl rfl (Only.refl _ _) ?_; intro v5 w5 hI5 hO5 hK5))
        have hI6 : Hid (Ints w5 w.heap.size v5 (s.spill ++ workL (i + 1) s.ws)) := by show Ints _ _ _ _; rw [HNX.out, ← List.append_assoc]; exact hI5
        have hO6 : Hid (Only [] w w5) := (HO4.out.alloc _).trans hO5 (fun y hy hl => by have h1 := (HI4.out.own_lt y hy).1; omega)
        clear hI5 hO5 hK5
        go_roundw
        case rel => exact ⟨i + 1, by omega, by go_num, hI6.out, hO6.out⟩
        case measure => (simp [intOf]; try omega)
      · have ht1 : t < 0 := by omega
        have hnt := nearL_neg ht1
        rw [hnt, List.append_nil] at HNX
        clear hnt ht0
        go_wp2_with (at_builtin; refine wpList_append_reads rfl (.tmp 20) (.tmp 25) rfl w2 w.heap.size _ _ _ _ HI3.out HV2.out (by omega) hsz2 rfl rfl (Only.refl _ _) ?_; intro v3 w3 hI3 hO3 hK3; have d1 := (HW3.out.only hO3 (fun hx => by have h1 := HFAR.out _ hx; omega)).cell 1 _ rfl)
        have hI6 : Hid (Ints w3 w.heap.size v3 (s.spill ++ workL (i + 1) s.ws)) := by show Ints _ _ _ _; rw [HNX.out]; exact hI3
        have hO6 : Hid (Only [] w w3) := HO3.out.trans hO3 (fun y hy hl => by have h1 := HFAR.out y hy; omega)
        clear hI3 hO3 hK3
        go_roundw
        case rel => exact ⟨i + 1, by omega, by go_num, hI6.out, hO6.out⟩
        case measure => (simp [intOf]; try omega)
    · obtain rfl : i = m := by omega
      have hlen1 := HLEN.out i (Nat.le_refl _)
      obtain ⟨L, hL⟩ : ∃ L, s.spill ++ workL i s.ws = L := ⟨_, rfl⟩
      have hso := HS.out L hL
      rw [hL] at hI hlen1
      obtain ⟨n, hn⟩ : ∃ n, L.length = n := ⟨_, rfl⟩
      obtain ⟨ga, gc, rfl, _⟩ := hI.opt
      rw [hn] at hI hlen1 ⊢
      have HO2 := Lib.hid ho
      rcases hI.shape with e | ⟨g, k2, c2', e⟩
      · injection e with e1 e2 e3
        subst e1 e3
        have hn0 : n = 0 := e2
        subst hn0
        obtain rfl : L = [] := List.length_eq_zero_iff.1 hn
        have hsn := sort_none none 0 wo
        have HI2 := Lib.hid hI
        have hr0 : natL (readyL p s.done) = [] := by rw [← hso]; simp
        have HR0 := Lib.hid hr0
        clear hI ho hso hn hlen1 hL hr0 e2
        go_wp2_with fail
        refine hsn.mono ?_
        rintro e w9 ⟨rfl, rfl⟩
        clear hsn
        go_wp2
        go_ret
        rw [HR0.out]
        exact ⟨_, rfl, HI2.out, HO2.out⟩
      · injection e with e1 e2 e3
        subst e1 e3
        clear e2
        have hfar := (hI.own_lt g (by simp [own, Value.ownBlock])).1
        have hsn := sort_own w.heap.size g gc L n hn wo hI (by omega)
        rw [hso] at hsn
        clear hI ho hso hn hlen1 hL
        go_wp2_with fail
        refine hsn.mono ?_
        rintro e w9 ⟨rfl, hI9, ho9⟩
        have HI9 := Lib.hid hI9
        have HO9 := Lib.hid (HO2.out.trans ho9 (fun y hy hl => by
          obtain rfl : y = g := by simpa using hy
          omega))
        clear hsn hI9 ho9
        go_wp2
        go_ret
        exact ⟨_, rfl, HI9.out, HO9.out⟩

theorem gang_Left {w : World} {F : Nat → Prop} {q : GPar} {p : PlanL} {room m : Nat} {s : GSt} (h : GangIs w q p room m s F) :
    Calls Tryz.prog 27 #[.pointer (some ⟨q.G, 0, none⟩)] w fun e w' => e = .returned (.int .i64 (leftN p s.done : Int)) ∧ w = w' := by
  have R := GRel.start h
  have hl := R.left
  have c1 := R.cells.1.cell 1 _ rfl
  generalize leftN p s.done = n at *
  clear h R
  go_enter Tryz.func27, Tryz.ntmps27
  go_wp2_with fail
  refine hl.mono ?_
  rintro e w1 ⟨rfl, rfl⟩
  clear hl
  go_wp2
  go_ret
  exact ⟨rfl, rfl⟩

end Go.Proofs.YtocpmncedlenbaaGreatDoor
