/-
  Contract of cells.All.
  The library's slices.Sort at []int, laid at this program: its contracts.
  slices.Values, AppendSeq, Collect, Sorted at int; list.Each.
-/
import Derived.Test.YtloojhnhialenaaGreatDoorP25TopKept
import Derived.Test.YtloojhnhialenaaGreatDoorP4TopKept
import Derived.Shelf.SortM.Plain
import Derived.Shelf.SortM.SortNone
import Derived.Test.YtloojhnhialenaaGreatDoorP18TopKept
import Derived.Test.YtloojhnhialenaaGreatDoorP5TopKept
import Derived.Maps.OwnIn
import Derived.Sort.OwnSortedInts
namespace Go.Proofs.YtloojhnhialenaaGreatDoor
open Go.RowKit Go.Deep

set_option maxRecDepth 100000 in
set_option maxHeartbeats 2000000 in
theorem cells_All (v u : Value) (p : PlanL) (ops : List Opn) (w : World) (h : InPlan w v p) (hu : OpsAt w u ops) (hlen : ops.length ≤ 9223372036854775807) :
    Calls Tryz.prog 9 #[v, u] w fun e w' => ∃ v', e = .returned (.tuple #[v', errV (allFault p ops)]) ∧ Only [] w w' ∧
      ((allFault p ops ≠ 0 ∧ v' = .slice none 0 0) ∨ (allFault p ops = 0 ∧ ∃ A, v' = .slice (some ⟨A, 0, none⟩) p.length p.length ∧ w.heap.size ≤ A ∧ RowCl w' A p.length (foldA p ops (orderOf p)))) := by
  have hr := cells_ready v u p ops w h hu hlen
  have hnil : ∀ E, E ≠ 0 → errV E = .iface 86 (.int .i64 E) := fun E hE => errV_ne hE
  obtain ⟨E, hE⟩ : ∃ E, allFault p ops = E := ⟨_, rfl⟩
  rw [hE] at hr ⊢
  by_cases h0 : E = 0
  · obtain ⟨hok, hl, hops⟩ := allFault_zero (hE.trans h0)
    have HP := Lib.hid h
    have HU := Lib.hid hu
    have HO := Lib.hid hok
    have hol : (orderOf p).length = p.length := topo_len hok p.length (Nat.le_refl _)
    have h30 := hok.len
    have HAL := Lib.hid (fun w1 (ho : Only [] w w1) ov (hr : Reads w1 ov (natL (orderOf p))) => cells_along v u ov p ops (orderOf p) w1 (h.same ho) hok (hu.same ho) hops hl hr (fun x hx => (orderOf_mem hok x).1 hx) (by omega))
    have HORD := Lib.hid (fun w1 (ho : Only [] w w1) => plan_OrderOf v p w1 (h.same ho) hok)
    have HAH := Lib.hid (orderOf_ok hok).2.1
    obtain ⟨n, hn⟩ : ∃ n, p.length = n := ⟨_, rfl⟩
    obtain ⟨f, hf⟩ : ∃ f, foldA p ops (orderOf p) = f := ⟨_, rfl⟩
    rw [hn, hf] at HAL ⊢
    subst h0
    rw [errV_zero] at hr ⊢
    clear h hu hE hnil hok hl hops hlen hol h30 hn hf
    go_enter Tryz.func9, Tryz.ntmps9
    go_wp2_with fail
    refine hr.mono ?_
    rintro e w1 ⟨rfl, ho1⟩
    clear hr
    go_wp2_with fail
    refine (HORD.out w1 ho1).mono ?_
    rintro e w2 ⟨ov, rfl, hI, ho2⟩
    have ho2 := ho1.trans ho2 (by simp)
    have hal := HAL.out w2 ho2 ov hI.reads
    go_wp2_with fail
    refine hal.mono ?_
    rintro e w3 ⟨v3, b, rfl, ho3, h3⟩
    have ho3 := ho2.trans ho3 (by simp)
    rcases h3 with ⟨_, _, A, rfl, hA, hR⟩ | ⟨_, hno, _⟩
    · have HR := Lib.hid hR
      have hs := ho2.size
      clear hal hR
      go_wp2
      go_ret2
      exact ⟨_, rfl, ho3, .inr ⟨trivial, A, rfl, by omega, HR.out⟩⟩
    · exact absurd HAH.out hno
  · rw [errV_ne h0] at hr
    have H0 := Lib.hid h0
    obtain ⟨_, _, rfl, _⟩ := h.task
    obtain ⟨_, _, rfl, _⟩ := hu.opt
    clear h hu hE h0 hlen
    rw [hnil E H0.out]
    clear hnil
    go_enter Tryz.func9, Tryz.ntmps9
    go_wp2_with fail
    refine hr.mono ?_
    rintro e w1 ⟨rfl, ho1⟩
    clear hr
    go_wp2
    go_ret2
    exact ⟨_, rfl, ho1, .inl ⟨H0.out, rfl⟩⟩

end Go.Proofs.YtloojhnhialenaaGreatDoor

namespace Go.Proofs.YtloojhnhialenaaGreatDoor
open Go.RowKit Go.Sort Go.Shelf

def sortRen : Go.Shelf.Ren := ⟨fun | 5 => 130 | 8 => 152 | 7 => 151 | 19 => 174 | 20 => 159 | 10 => 165 | 11 => 166 | 12 => 167 | 13 => 168 | 14 => 169 | 15 => 170 | 16 => 171 | 17 => 172 | 18 => 173 | 30 => 178 | 31 => 179 | 32 => 180 | 33 => 181 | 34 => 182 | 35 => 103 | 40 => 183 | n => n, fun | 23 => 34 | 25 => 3 | 3 => 3 | 32 => 200 | 22 => 34 | 0 => 0 | 44 => 164 | 46 => 195 | 4 => 4 | 36 => 234 | 35 => 233 | 41 => 238 | 5 => 5 | 9 => 9 | 53 => 241 | 57 => 245 | 63 => 249 | 64 => 124 | n => n, fun n => n⟩
theorem sortLay : SlLaysM.n5 Tryz.prog sortRen where
  mixed := by kernel_rfl
  f5 := ⟨ "slices.Sort[[]int,int]", by decide, Tryz.func130.trans (congrArg some (by kernel_rfl))⟩
  f7 := ⟨ "slices.pdqsortOrdered[int]", by decide, Tryz.func151.trans (congrArg some (by kernel_rfl))⟩
  f8 := Tryz.func152.trans (congrArg some (by kernel_rfl))
  f10 := ⟨ "slices.insertionSortOrdered[int]", by decide, Tryz.func165.trans (congrArg some (by kernel_rfl))⟩
  f11 := ⟨ "slices.heapSortOrdered[int]", by decide, Tryz.func166.trans (congrArg some (by kernel_rfl))⟩
  f12 := ⟨ "slices.breakPatternsOrdered[int]", by decide, Tryz.func167.trans (congrArg some (by kernel_rfl))⟩
  f13 := ⟨ "slices.choosePivotOrdered[int]", by decide, Tryz.func168.trans (congrArg some (by kernel_rfl))⟩
  f14 := ⟨ "slices.reverseRangeOrdered[int]", by decide, Tryz.func169.trans (congrArg some (by kernel_rfl))⟩
  f15 := ⟨ "slices.partialInsertionSortOrdered[int]", by decide, Tryz.func170.trans (congrArg some (by kernel_rfl))⟩
  f16 := ⟨ "cmp.Less[int]", by decide, Tryz.func171.trans (congrArg some (by kernel_rfl))⟩
  f17 := ⟨ "slices.partitionEqualOrdered[int]", by decide, Tryz.func172.trans (congrArg some (by kernel_rfl))⟩
  f18 := ⟨ "slices.partitionOrdered[int]", by decide, Tryz.func173.trans (congrArg some (by kernel_rfl))⟩
  f19 := Tryz.func174.trans (congrArg some (by kernel_rfl))
  f20 := Tryz.func159.trans (congrArg some (by kernel_rfl))
  f30 := ⟨ "slices.siftDownOrdered[int]", by decide, Tryz.func178.trans (congrArg some (by kernel_rfl))⟩
  f31 := Tryz.func179.trans (congrArg some (by kernel_rfl))
  f32 := Tryz.func180.trans (congrArg some (by kernel_rfl))
  f33 := ⟨ "slices.medianAdjacentOrdered[int]", by decide, Tryz.func181.trans (congrArg some (by kernel_rfl))⟩
  f34 := ⟨ "slices.medianOrdered[int]", by decide, Tryz.func182.trans (congrArg some (by kernel_rfl))⟩
  f35 := ⟨ "cmp.isNaN[int]", by decide, Tryz.func103.trans (congrArg some (by kernel_rfl))⟩
  f40 := ⟨ "slices.order2Ordered[int]", by decide, Tryz.func183.trans (congrArg some (by kernel_rfl))⟩
  t0 := Tryz.underlying0
  a0 := Tryz.isAgg0
  z0 := Tryz.sizeOf0
  v0 := Tryz.zeroValue0
  t3 := Tryz.underlying3
  a3 := Tryz.isAgg3
  z3 := Tryz.sizeOf3
  v3 := Tryz.zeroValue3
  t4 := Tryz.underlying4
  a4 := Tryz.isAgg4
  z4 := Tryz.sizeOf4
  v4 := Tryz.zeroValue4
  t5 := Tryz.underlying5
  a5 := Tryz.isAgg5
  z5 := Tryz.sizeOf5
  v5 := Tryz.zeroValue5
  t9 := Tryz.underlying9
  a9 := Tryz.isAgg9
  z9 := Tryz.sizeOf9
  v9 := Tryz.zeroValue9
  t22 := Tryz.underlying34
  a22 := Tryz.isAgg34
  z22 := Tryz.sizeOf34
  v22 := Tryz.zeroValue34
  t23 := Tryz.underlying34
  a23 := Tryz.isAgg34
  z23 := Tryz.sizeOf34
  v23 := Tryz.zeroValue34
  t25 := Tryz.underlying3
  a25 := Tryz.isAgg3
  z25 := Tryz.sizeOf3
  v25 := Tryz.zeroValue3
  t32 := Tryz.underlying200
  a32 := Tryz.isAgg200
  z32 := Tryz.sizeOf200
  v32 := Tryz.zeroValue200
  t35 := Tryz.underlying233
  a35 := Tryz.isAgg233
  z35 := Tryz.sizeOf233
  v35 := Tryz.zeroValue233
  t36 := Tryz.underlying234
  a36 := Tryz.isAgg234
  z36 := Tryz.sizeOf234
  v36 := Tryz.zeroValue234
  t41 := Tryz.underlying238
  a41 := Tryz.isAgg238
  z41 := Tryz.sizeOf238
  v41 := Tryz.zeroValue238
  t44 := Tryz.underlying164
  a44 := Tryz.isAgg164
  z44 := Tryz.sizeOf164
  v44 := Tryz.zeroValue164
  t46 := Tryz.underlying195
  a46 := Tryz.isAgg195
  z46 := Tryz.sizeOf195
  v46 := Tryz.zeroValue195
  t53 := Tryz.underlying241
  a53 := Tryz.isAgg241
  z53 := Tryz.sizeOf241
  v53 := Tryz.zeroValue241
  t57 := Tryz.underlying245
  a57 := Tryz.isAgg245
  z57 := Tryz.sizeOf245
  v57 := Tryz.zeroValue245
  t63 := Tryz.underlying249
  a63 := Tryz.isAgg249
  z63 := Tryz.sizeOf249
  v63 := Tryz.zeroValue249
  t64 := Tryz.underlying124
  a64 := Tryz.isAgg124
  z64 := Tryz.sizeOf124
  v64 := Tryz.zeroValue124

theorem sort_ints (blk off cap : Nat) (zs : List Int) (w : World) (hH : Holds (Value.int .i64) w blk off zs.toArray) (hblk : blk < w.heap.size) (hsz : zs.length < 4611686018427387904) :
    Calls Tryz.prog 130 #[.slice (some ⟨blk, off, none⟩) zs.length cap] w fun e w' =>
      e = .returned (.tuple #[]) ∧ ∃ n os, w' = grow (putRow (Value.int .i64) (Sort.ahead w n) blk off (zs.mergeSort fun x y => decide (x ≤ y)).toArray) os :=
  AnyM.slices_Sort_int sortLay blk off cap zs w hH hblk hsz
theorem sort_none (p : Option Addr) (cap : Nat) (w : World) : Calls Tryz.prog 130 #[.slice p 0 cap] w fun e w' => e = .returned (.tuple #[]) ∧ w' = w :=
  AnyM.slices_Sort_int_none sortLay p cap w

end Go.Proofs.YtloojhnhialenaaGreatDoor

namespace Go.Proofs.YtloojhnhialenaaGreatDoor
open Go.RowKit Go.Sort
attribute [local go_sem] Oper.semAt_some

theorem values_mk (n : Nat) (a : Option Addr) (len cap : Nat) (w : World) :
    CallsIn Fence.wide n Tryz.prog 97 #[.slice a len cap] w fun e w' => e = .returned (.func (.func 131) #[] #[.pointer (some ⟨w.heap.size, 0, none⟩)]) ∧ w' = w.alloc (.cells #[.slice a len cap] 34) := by
  refine callsIn_of_wp Tryz.func97 rfl trivial ?_ rfl
  simp only [Tryz.ntmps97, List.size_toArray, List.length_cons, List.length_nil, Nat.reduceAdd, Nat.reduceSub, Array.replicate_succ, Array.replicate_zero, List.push_toArray, List.append_toArray, List.nil_append, List.cons_append]
  gi_wp2
  go_ret
  exact ⟨rfl, rfl⟩

set_option maxRecDepth 100000 in
set_option maxHeartbeats 2000000 in
theorem values_run (n : Nat) (l Bs n0 : Nat) (S : List Nat) (sv : Value) (zs : List Int) (J Jx : List Int → World → Prop)
    (hreach : zs.length ≤ 9223372036854775807) (hb : 0 < zs.length → ∀ x ∈ own sv, x < n0 ∧ x ∉ S) 
    (hY : ∀ pre x W, J pre W → pre.length < zs.length → YieldAt Fence.wide (n - 1) Tryz.prog l #[.int .i64 x] W fun e W' =>
      (e = .returned (.bool true) ∧ J (pre ++ [x]) W' ∧ KeepW n0 S W W') ∨ (e = .returned (.bool false) ∧ Jx (pre ++ [x]) W'))
    (W : World) (hBs : W.cell? ⟨Bs, 0, none⟩ = some sv) (hr : Reads W sv zs) (h0 : J [] W) :
    CallsIn Fence.wide n Tryz.prog 131 #[.func (.yield l) #[] #[], .pointer (some ⟨Bs, 0, none⟩)] W fun e W' => (∃ v, e = .returned v) ∧
      ((∃ ys, ys = zs ∧ J ys W') ∨ (∃ pre, (∃ k, k ≤ zs.length ∧ pre = zs.take k) ∧ Jx pre W')) := by
  obtain ⟨a, cap, rfl, hcell⟩ := hr.opt
  have HC := Lib.hid hcell
  have HB := Lib.hid hb
  obtain ⟨len, hl⟩ : ∃ len, zs.length = len := ⟨_, rfl⟩
  have HL := Lib.hid hl
  rw [hl] at hreach HC HB hBs hY ⊢
  clear hr hcell hl hb
  refine callsIn_of_wp Tryz.func131 rfl trivial ?_ rfl
  simp only [Tryz.ntmps131, List.size_toArray, List.length_cons, List.length_nil, Nat.reduceAdd, Nat.reduceSub, Array.replicate_succ, Array.replicate_zero, List.push_toArray, List.append_toArray, List.nil_append, List.cons_append]
  gi_wp2
  gi_loopw [4, 7] (fun _ i wr => ∃ k : Nat, k ≤ len ∧ i = .int .i64 k ∧ J (zs.take k) wr ∧ KeepW n0 S W wr) (fun _ i _ => len - (intOf i).toNat)
  case atStart => exact ⟨0, Nat.zero_le _, rfl, h0, KeepW.refl _ _ _⟩
  case round =>
    obtain ⟨k, hk, rfl, hJs, hnx⟩ := hrel
    by_cases hlt : k < len
    · obtain ⟨b, off, rfl, hc0⟩ := HC.out k hlt
      have hbb := HB.out (by omega) b (by simp [own, Value.ownBlock])
      have hcx : wr.cell? ⟨b, off + k, none⟩ = some (.int .i64 (nth zs k)) := (hnx.cell (p := ⟨b, off + k, none⟩) hbb.1 hbb.2).trans hc0
      obtain ⟨fn, tmps, assign, body, hy, hR⟩ := hY _ (nth zs k) wr hJs (by rw [List.length_take, HL.out]; omega)
      have HTK : Hid (zs.take (k + 1) = zs.take k ++ [nth zs k]) := by
        show _ = _
        have hkl : k < zs.length := by rw [HL.out]; exact hlt
        rw [List.take_succ_eq_append_getElem hkl]; simp [nth, hkl]
      rw [← HTK.out] at hR
      clear hc0
      gi_wp2
      refine ⟨fun h => (by simp [Fence.wide] at h), ?_⟩
      refine hR.mono ?_
      rintro e W3 (⟨rfl, hJ3, hk3⟩ | ⟨rfl, hJx3⟩)
      · gi_wp2
        go_roundw
        case rel => exact ⟨k + 1, hlt, by go_num, hJ3, keepW_t hnx hk3⟩
        case measure => (simp [intOf]; try omega)
      · gi_wp2
        refine bodyPost_ret (results_none rfl _ _ _) rfl ?_
        exact ⟨⟨_, rfl⟩, .inr ⟨_, ⟨k + 1, by omega, rfl⟩, hJx3⟩⟩
    · obtain rfl : k = len := by omega
      have htk : Hid (zs.take k = zs) := List.take_of_length_le (by rw [HL.out]; exact Nat.le_refl _)
      rw [htk.out] at hJs
      gi_wp2
      go_end0
      exact ⟨⟨_, rfl⟩, .inl ⟨_, rfl, hJs⟩⟩

theorem values_stops (n : Nat) (Bs n0 : Nat) (S : List Nat) (sv : Value) (zs : List Int) (w : World) (hreach : zs.length ≤ 9223372036854775807)
    (hb : 0 < zs.length → ∀ x ∈ own sv, x < n0 ∧ x ∉ S) (hBs : w.cell? ⟨Bs, 0, none⟩ = some sv) (hr : Reads w sv zs) :
    SeqStopsK Fence.wide n Tryz.prog 131 #[.pointer (some ⟨Bs, 0, none⟩)] (fun x : Int => #[.int .i64 x]) (KeepW n0 S) (fun ys => ys = zs) (fun pre => ∃ k, k ≤ zs.length ∧ pre = zs.take k) zs.length w := fun l J Jx W hW _ _ hY h0 => by
  have hBw := (hW.cell (p := ⟨Bs, 0, none⟩) (cell_lt hBs)).trans hBs
  exact values_run n l Bs n0 S sv zs J Jx hreach hb hY W hBw (hr.cells fun b o x hx _ => (hW.cell (p := ⟨b, o, none⟩) (cell_lt hx)).trans hx) h0

theorem Ints.abides {w w' : World} {base : Nat} {v : Value} {xs : List Int} {row : Option Nat} (h : Ints w base v xs) (hg : w.grownBy w' row) (hr : ∀ r, row = some r → ∃ o : Obj, w.heap[r]? = some o ∧ o.isCells = false) : Ints w' base v xs := by
  refine World.ownsRow.kept h hg ?_
  rcases h.2 with ⟨rfl, _⟩ | ⟨g, cap, cur, rfl, _, hgg, _⟩
  · exact .inl rfl
  · refine .inr fun e => ?_
    obtain ⟨o, ho, hc⟩ := hr g (by rw [← e]; rfl)
    rw [hgg] at ho
    injection ho with ho
    subst ho
    cases hc

theorem cell_one (w : World) (x : Value) (t : TypeId) : ∀ (j : Nat) (u : Value), [x][j]? = some u → (w.alloc (.cells #[x] t)).cell? ((⟨w.heap.size, 0, none⟩ : Addr).add j) = some u := by
  intro j u hj
  obtain rfl : j = 0 := by
    rcases j with _ | j
    · rfl
    · simp at hj
  have e : (⟨w.heap.size, 0, none⟩ : Addr).add 0 = ⟨w.heap.size, 0, none⟩ := rfl
  rw [e, World.cell?_alloc_new]
  simpa using hj

set_option maxRecDepth 100000 in
set_option maxHeartbeats 2000000 in
theorem append_seq (gf : Nat) (lb : Array Value) (S Sp : List Int → Prop) (N : Nat) (hN : N ≤ 17592186044416) (w : World) (eg : ∀ args w, (callFunc gf args).run Tryz.prog w = .ok (.enter gf args) w)
    (hseq : ∀ n, SeqStopsK Fence.wide n Tryz.prog gf lb (fun x : Int => #[.int .i64 x]) (KeepW w.heap.size []) S Sp N w) :
    Calls Tryz.prog 150 #[.slice none 0 0, .func (.func gf) #[] lb] w fun e w' => ∃ v xs, e = .returned v ∧ S xs ∧ Ints w' w.heap.size v xs ∧ Only [] w w' := by
  obtain ⟨i0, hi, hz0, hz1, hz2⟩ := info_int
  refine (callsIn_wide (n := 9)).1 ?_
  refine callsIn_of_wp_marks Tryz.func150 rfl trivial ?_ rfl
  simp only [Tryz.ntmps150, List.size_toArray, List.length_cons, List.length_nil, Nat.reduceAdd, Nat.reduceSub, Array.replicate_succ, Array.replicate_zero, List.push_toArray, List.append_toArray, List.nil_append, List.cons_append]
  obtain ⟨W0, hW0⟩ : ∃ W0, w.alloc (.cells #[.slice none 0 0] 34) = W0 := ⟨_, rfl⟩
  have hC0 := Cells.new w #[.slice none 0 0] 34
  have ho0 := (Only.refl [] w).alloc (.cells #[.slice none 0 0] 34)
  have hs0 : W0.heap.size = w.heap.size + 1 := by rw [← hW0]; simp
  have hb0 : Below w.heap.size w W0 := by rw [← hW0]; exact (Below.refl _ w).alloc (Nat.le_refl _) _
  rw [hW0] at hC0 ho0
  have HW0 := Lib.hid hW0
  clear hW0
  gi_wp2_with fail
  rw [HW0.out]
  refine wpIn_rangeFunc_ownG (α := Int) rfl (by omega) (gf := gf) (lb := lb) rfl trivial eg (hseq _) keepW_t (keepW_b (by omega)) hb0 (fun _ => rfl)
    (fun pre W => (∃ v, Cells W w.heap.size [v] ∧ Ints W (w.heap.size + 1) v pre) ∧ Only [w.heap.size] W0 W) (fun _ _ _ => False)
    (OwnFrom.and (Own.from (fun s A B row hs hg hr => by obtain ⟨v, h1, h2⟩ := hs; exact ⟨v, h1.abides hg hr, h2.abides hg hr⟩) _) (ownFrom_only (Nat.le_refl _)))
    (fun _ _ _ _ _ hs _ _ => hs)
    ⟨⟨_, hC0, Ints.nil _ _⟩, Only.refl _ _⟩
    (fun x => { tmps := #[.slice none 0 0, .func (.func gf) #[] lb, .pointer (some ⟨w.heap.size, 0, none⟩), undef, .slice none 0 0, .int .i64 x, .func (.func gf) #[] lb, .int .i64 x, undef, undef, undef, undef, undef], defers := [] }) ?assign ?body ?done ?stop
  case assign =>
    intro l x W K hK
    gi_wp2
    exact hK
  case body =>
    rintro l pre x W ⟨⟨v, hC, hI⟩, hoL⟩ hlen
    have cB := hC.cell 0 _ rfl
    have fB := (hC 0 _ rfl).2
    have hBl := hC.lt
    have hfar := Row.far hI
    have hI : W.ownsRow (w.heap.size + 1) 3 1 v pre.length (pre.map (Value.int .i64)) := hI
    obtain ⟨va, vc, rfl, hvc, hvm, _⟩ := Row.form hI
    have hal := (Only.refl [] W).alloc (.cells #[.int .i64 x] 3)
    have HCELL : Hid (∀ y ∈ own (.slice va pre.length vc), ∃ o : Obj, W.heap[y]? = some o ∧ o.isCells = true) := fun y hy => by
      rcases hI.2 with ⟨h0, _⟩ | ⟨g, cap, cur, h0, _, hgg, _⟩
      · rw [h0] at hy; simp [own, Value.ownBlock] at hy
      · rw [h0] at hy
        obtain rfl : y = g := by simpa [own, Value.ownBlock] using hy
        exact ⟨_, hgg, rfl⟩
    have hI1 : (W.alloc (.cells #[.int .i64 x] 3)).ownsRow (w.heap.size + 1) 3 1 (.slice va pre.length vc) pre.length (pre.map (Value.int .i64)) := Row.only hI hal (by simp)
    have hC1 := hC.only hal (by simp)
    have hsz := hoL.size
    have HC1 := Lib.hid hC1
    have HI1 := Lib.hid hI1
    have HOL := Lib.hid hoL
    clear hC hI hI1 hC1 hoL
    gi_wp2_with (gi_at_builtin; refine wpListIn_append_own_at _ rfl (.tmp 8) (.tmp 10) 34 rfl (w.heap.size + 1) 3 i0 (.int .i64 0) 1 8 Tryz.underlying34 hi hz0 hz1 hz2 rfl (by decide) (.slice va pre.length vc) pre.length (pre.map (Value.int .i64)) rfl HI1.out ⟨W.heap.size, 0, none⟩ 1 1 [.int .i64 x] rfl rfl (cell_one _ _ _) (by simp [Value.oneCell']) (by unfold maxLen; omega) (by omega) (by simp; omega) ?_; intro v3 w3 hI3 hg3 _ hb3; have hO3 : Only (own (.slice va pre.length vc)) (W.alloc (.cells #[.int .i64 x] 3)) w3 := (Only.refl _ _).grown hg3 (fun k hk _ => by simp [own, hk]); have hC3 := HC1.out.only hO3 (fun h => by have := (hfar _ h).1; omega); have cB3 := hC3.cell 0 _ rfl; have fB3 := (hC3 0 _ rfl).2; obtain ⟨ga, gc, rfl, _, _, _⟩ := Row.form hI3)
    have hOF : Only (w.heap.size :: own (.slice va pre.length vc)) W (w3.setCell ⟨w.heap.size, 0, none⟩ (.slice ga (pre.length + 1) gc)) :=
      ((hal.mono (by simp)).trans (hO3.mono (fun a h _ => List.mem_cons_of_mem _ h)) (fun a h _ => h)).setCell (by simp) _
    have hJ1 : Cells (w3.setCell ⟨w.heap.size, 0, none⟩ (.slice ga (pre.length + 1) gc)) w.heap.size [.slice ga (pre.length + 1) gc] := hC3.set 0 _
    have hJ2 : Ints (w3.setCell ⟨w.heap.size, 0, none⟩ (.slice ga (pre.length + 1) gc)) (w.heap.size + 1) (.slice ga (pre.length + 1) gc) (pre ++ [x]) := by
      have h1 : Ints w3 (w.heap.size + 1) (.slice ga (pre.length + 1) gc) (pre ++ [x]) := by unfold Ints; simpa using hI3
      exact h1.only ((Only.refl [w.heap.size] w3).setCell (by simp) _) (fun y hy h => by have := (Row.far hI3 y (by simpa [own] using hy)).1; simp at h; omega)
    have hcells : ∀ y ∈ own (.slice va pre.length vc), ∃ o : Obj, W.heap[y]? = some o ∧ o.isCells = true := HCELL.out
    refine ⟨hOF.keepsFrom (fun y hy => ?_), hOF.keepW (by omega) (fun y hy hlt => ?_), ⟨_, hJ1, hJ2⟩, HOL.out.trans hOF (fun y hy hlt => ?_)⟩
    · rcases List.mem_cons.1 hy with rfl | hy
      · left; omega
      · right; exact hcells y hy
    · rcases List.mem_cons.1 hy with rfl | hy
      · omega
      · have := (hfar y hy).1; omega
    · rcases List.mem_cons.1 hy with rfl | hy
      · simp
      · have := (hfar y hy).1; omega
  case done =>
    rintro D xs W hD hS ⟨⟨v, hC, hI⟩, hoL⟩ hK
    have cB := hC.cell 0 _ rfl
    have ho : Only [] w W := ho0.trans hoL (fun y hy hlt => by simp at hy; omega)
    have hHI := Lib.hid hI
    clear hI
    gi_wp2
    refine ⟨by simp, .inl ⟨_, _, rfl, run_takeDeferred hK, ?_⟩⟩
    refine ⟨_, results_tmp rfl _ _ _, _, xs, rfl, hS, ?_, ho.shut (by omega) hK⟩
    exact Row.mono (Ints.abides hHI.out (grownBy_putObj' W D _) (fun r e => by cases e; exact ⟨_, hK, rfl⟩)) (by omega)
  case stop =>
    rintro D c pre W _ _ h _
    exact h.elim

set_option maxRecDepth 100000 in
theorem collect_seq (gf : Nat) (lb : Array Value) (S Sp : List Int → Prop) (N : Nat) (hN : N ≤ 17592186044416) (w : World) (eg : ∀ args w, (callFunc gf args).run Tryz.prog w = .ok (.enter gf args) w)
    (hseq : ∀ n, SeqStopsK Fence.wide n Tryz.prog gf lb (fun x : Int => #[.int .i64 x]) (KeepW w.heap.size []) S Sp N w) :
    Calls Tryz.prog 129 #[.func (.func gf) #[] lb] w fun e w' => ∃ v xs, e = .returned v ∧ S xs ∧ Ints w' w.heap.size v xs ∧ Only [] w w' := by
  have hc := append_seq gf lb S Sp N hN w eg hseq
  clear hseq eg
  go_enter Tryz.func129, Tryz.ntmps129
  go_wp2_with fail
  refine hc.mono ?_
  rintro e w1 ⟨v, xs, rfl, h1, h2, h3⟩
  clear hc
  go_wp2
  go_ret
  exact ⟨v, xs, rfl, h1, h2, h3⟩

/-- What the sort leaves. -/
theorem sorted_world {w : World} {g n : Nat} {os : Array Obj} {d : Array Int} {S : List Nat} (hg : g ∈ S) : Only S w (grow (putRow (Value.int .i64) (Sort.ahead w n) g 0 d) os) :=
  (Only.refl S w).grown (grownBy_sortedI d) (fun k hk _ => by cases hk; exact hg)

set_option maxRecDepth 100000 in
theorem sorted_seq (gf : Nat) (lb : Array Value) (S Sp : List Int → Prop) (N : Nat) (hN : N ≤ 17592186044416) (w : World) (eg : ∀ args w, (callFunc gf args).run Tryz.prog w = .ok (.enter gf args) w)
    (hseq : ∀ n, SeqStopsK Fence.wide n Tryz.prog gf lb (fun x : Int => #[.int .i64 x]) (KeepW w.heap.size []) S Sp N w) (hlen : ∀ xs, S xs → xs.length ≤ N) :
    Calls Tryz.prog 96 #[.func (.func gf) #[] lb] w fun e w' => ∃ v xs, e = .returned v ∧ S xs ∧ Ints w' w.heap.size v (xs.mergeSort fun x y => decide (x ≤ y)) ∧ Only [] w w' := by
  have hc := collect_seq gf lb S Sp N hN w eg hseq
  have HS := Lib.hid sort_ints
  have HN := Lib.hid sort_none
  clear hseq eg
  go_enter Tryz.func96, Tryz.ntmps96
  go_wp2_with fail
  refine hc.mono ?_
  rintro e w1 ⟨v, xs, rfl, h1, h2, h3⟩
  clear hc
  rcases h2.2 with ⟨rfl, hz⟩ | ⟨g, cap, cur, rfl, hbase, hb, r1, r2, r3, r4⟩
  · have hxs : xs = [] := List.eq_nil_of_length_eq_zero hz
    subst hxs
    go_wp2_with fail
    refine (HN.out none 0 w1).mono ?_
    rintro e w2 ⟨rfl, rfl⟩
    go_wp2
    go_ret
    exact ⟨_, [], rfl, h1, by simpa using h2, h3⟩
  · have hgl : g < w1.heap.size := (Array.getElem?_eq_some_iff.1 hb).1
    have hsz := hlen xs h1
    have hH : Holds (Value.int .i64) w1 g 0 xs.toArray := holds_of_blockI hb (by simpa using r4)
    have hs := HS.out g 0 cap xs w1 hH hgl (by omega)
    have HB := Lib.hid hb
    have H3 := Lib.hid h3
    obtain ⟨n, hn⟩ : ∃ n, xs.length = n := ⟨_, rfl⟩
    have hn9 : n ≤ 9223372036854775807 := by omega
    have HLN := Lib.hid hn
    rw [hn] at hs ⊢
    clear h2 hb hH h3 hn hsz
    go_wp2_with fail
    refine hs.mono ?_
    rintro e w2 ⟨rfl, k, os, rfl⟩
    have hI : Ints (grow (putRow (Value.int .i64) (Sort.ahead w1 k) g 0 (xs.mergeSort fun x y => decide (x ≤ y)).toArray) os) w.heap.size (.slice (some ⟨g, 0, none⟩) xs.length cap) (xs.mergeSort fun x y => decide (x ≤ y)) := by
      unfold Ints
      rw [List.length_mergeSort]
      exact ownsRow_sortedI (by simp) hbase HB.out r1 r2 r3
    have ho : Only [] w (grow (putRow (Value.int .i64) (Sort.ahead w1 k) g 0 (xs.mergeSort fun x y => decide (x ≤ y)).toArray) os) :=
      H3.out.trans (sorted_world (S := [g]) (by simp)) (fun a ha hl => by simp at ha; omega)
    rw [HLN.out] at hI
    have HI := Lib.hid hI
    have HO := Lib.hid ho
    clear hI ho hs
    go_wp2
    go_ret
    exact ⟨_, xs, rfl, h1, HI.out, HO.out⟩

end Go.Proofs.YtloojhnhialenaaGreatDoor
