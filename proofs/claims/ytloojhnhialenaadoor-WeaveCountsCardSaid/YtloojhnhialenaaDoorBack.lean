/-
  Contract of slices.Backward over a slice of ints.
-/
import Derived.Test.YtloojhnhialenaaDoorIterK
import Derived.Test.YtloojhnhialenaaDoorMore
namespace Go.Proofs.YtloojhnhialenaaDoor
open Go.RowKit
attribute [local go_sem] Oper.semAt_some

theorem backward_mk (n : Nat) (a : Option Addr) (len cap : Nat) (w : World) :
    CallsIn Fence.wide n Tryd.prog 79 #[.slice a len cap] w fun e w' => e = .returned (.func (.func 100) #[] #[.pointer (some ⟨w.heap.size, 0, none⟩)]) ∧ w' = w.alloc (.cells #[.slice a len cap] 51) := by
  refine callsIn_of_wp Tryd.func79 rfl trivial ?_ rfl
  simp only [Tryd.ntmps79, List.size_toArray, List.length_cons, List.length_nil, Nat.reduceAdd, Nat.reduceSub, Array.replicate_succ, Array.replicate_zero, List.push_toArray, List.append_toArray, List.nil_append, List.cons_append]
  gi_wp2
  go_ret
  exact ⟨rfl, rfl⟩

set_option maxRecDepth 100000 in
set_option maxHeartbeats 2000000 in
theorem backward_run {α : Type} (encs : α → Array Value) (g : Nat → α) (n : Nat) (l Bs n0 : Nat) (S : List Nat) (sv : Value) (zs : List Int) (J Jx : List α → World → Prop)
    (hreach : zs.length ≤ 1000000000) (hb : ∀ x ∈ own sv, x < n0 ∧ x ∉ S) (hBS : Bs < n0 ∧ Bs ∉ S) (hg : ∀ j, j < zs.length → encs (g j) = #[.int .i64 ((zs.length - 1 - j : Nat) : Int), .int .i64 (nth zs (zs.length - 1 - j))])
    (hY : ∀ pre x W, J pre W → pre.length < zs.length → YieldAt Fence.wide (n - 1) Tryd.prog l (encs x) W fun e W' =>
      (e = .returned (.bool true) ∧ J (pre ++ [x]) W' ∧ KeepW n0 S W W') ∨ (e = .returned (.bool false) ∧ Jx (pre ++ [x]) W'))
    (W : World) (hBs : W.cell? ⟨Bs, 0, none⟩ = some sv) (hr : Reads W sv zs) (h0 : J [] W) :
    CallsIn Fence.wide n Tryd.prog 100 #[.func (.yield l) #[] #[], .pointer (some ⟨Bs, 0, none⟩)] W fun e W' => (∃ v, e = .returned v) ∧
      ((∃ ys, ys = upto g zs.length ∧ J ys W') ∨ (∃ pre, (∃ k, k ≤ zs.length ∧ pre = upto g k) ∧ Jx pre W')) := by
  obtain ⟨a, cap, rfl, hcell⟩ := hr.opt
  have HG := Lib.hid hg
  have HC := Lib.hid hcell
  have HB := Lib.hid hb
  obtain ⟨len, hl⟩ : ∃ len, zs.length = len := ⟨_, rfl⟩
  rw [hl] at hreach HG HC HB hBs hY ⊢
  clear hg hr hcell hl hb
  refine callsIn_of_wp Tryd.func100 rfl trivial ?_ rfl
  simp only [Tryd.ntmps100, List.size_toArray, List.length_cons, List.length_nil, Nat.reduceAdd, Nat.reduceSub, Array.replicate_succ, Array.replicate_zero, List.push_toArray, List.append_toArray, List.nil_append, List.cons_append]
  gi_wp2
  gi_loopw [3] (fun i wr => ∃ k : Nat, k ≤ len ∧ i = .int .i64 ((len : Int) - 1 - k) ∧ J (upto g k) wr ∧ KeepW n0 S W wr)
    (fun i _ => (intOf i + 1).toNat)
  case atStart => exact ⟨0, Nat.zero_le _, by simp, h0, KeepW.refl _ _ _⟩
  case round =>
    obtain ⟨k, hk, rfl, hJs, hnx⟩ := hrel
    have hcB : wr.cell? ⟨Bs, 0, none⟩ = some (.slice a len cap) := (hnx.cell (p := ⟨Bs, 0, none⟩) hBS.1 hBS.2).trans hBs
    by_cases hlt : k < len
    · obtain ⟨b, off, rfl, hc0⟩ := HC.out (len - 1 - k) (by omega)
      have hbb := HB.out b (by simp [own, Value.ownBlock])
      have hcx : wr.cell? ⟨b, off + (len - 1 - k), none⟩ = some (.int .i64 (nth zs (len - 1 - k))) := (hnx.cell (p := ⟨b, off + (len - 1 - k), none⟩) hbb.1 hbb.2).trans hc0
      obtain ⟨fn, tmps, assign, body, hy, hR⟩ := hY _ (g k) wr hJs (by rw [upto_length]; exact hlt)
      rw [HG.out k hlt] at hy
      obtain ⟨m, hm⟩ : ∃ m, len - 1 - k = m := ⟨_, rfl⟩
      have e1 : ((len : Int) - 1 - k) = (m : Int) := by omega
      have hml : m < len := by omega
      rw [hm] at hcx hy
      rw [e1]
      have HM := Lib.hid hm
      clear hm e1 hc0
      gi_wp2
      refine ⟨fun h => (by simp [Fence.wide] at h), ?_⟩
      refine hR.mono ?_
      rintro e W3 (⟨rfl, hJ3, hk3⟩ | ⟨rfl, hJx3⟩)
      · gi_wp2
        go_roundw
        case rel => 
          have hm := HM.out
          have e2 : (m : Int) - 1 = (len : Int) - 1 - ((k + 1 : Nat) : Int) := by omega
          exact ⟨k + 1, hlt, by rw [e2], by rw [upto_succ]; exact hJ3, keepW_t hnx hk3⟩
        case measure => (simp [intOf]; try omega)
      · gi_wp2
        refine bodyPost_ret (results_none rfl _ _ _) rfl ?_
        exact ⟨⟨_, rfl⟩, .inr ⟨_, ⟨k + 1, by omega, (upto_succ _ _).symm⟩, hJx3⟩⟩
    · obtain rfl : k = len := by omega
      have e1 : ((k : Int) - 1 - k) = -1 := by omega
      rw [e1]
      clear e1
      gi_wp2
      go_end0
      exact ⟨⟨_, rfl⟩, .inl ⟨_, rfl, hJs⟩⟩

theorem backward_stops {α : Type} (encs : α → Array Value) (g : Nat → α) (n : Nat) (Bs n0 : Nat) (S : List Nat) (sv : Value) (zs : List Int) (w : World) (hreach : zs.length ≤ 1000000000)
    (hb : ∀ x ∈ own sv, x < n0 ∧ x ∉ S) (hBS : Bs < n0 ∧ Bs ∉ S) (hg : ∀ j, j < zs.length → encs (g j) = #[.int .i64 ((zs.length - 1 - j : Nat) : Int), .int .i64 (nth zs (zs.length - 1 - j))])
    (hBs : w.cell? ⟨Bs, 0, none⟩ = some sv) (hr : Reads w sv zs) :
    SeqStopsK Fence.wide n Tryd.prog 100 #[.pointer (some ⟨Bs, 0, none⟩)] encs (KeepW n0 S) (fun ys => ys = upto g zs.length) (fun pre => ∃ k, k ≤ zs.length ∧ pre = upto g k) zs.length w := fun l J Jx W hW _ _ hY h0 => by
  have hBw := (hW.cell (p := ⟨Bs, 0, none⟩) (cell_lt hBs)).trans hBs
  exact backward_run encs g n l Bs n0 S sv zs J Jx hreach hb hBS hg hY W hBw (hr.cells fun b o x hx _ => (hW.cell (p := ⟨b, o, none⟩) (cell_lt hx)).trans hx) h0

end Go.Proofs.YtloojhnhialenaaDoor
