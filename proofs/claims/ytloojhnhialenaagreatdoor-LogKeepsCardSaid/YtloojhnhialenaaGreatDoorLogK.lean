/-
  Contracts of (*log.Log).Safe, and of the statement's own flags and may.
-/
import Derived.Test.YtloojhnhialenaaGreatDoorLog2
import Derived.Test.YtloojhnhialenaaGreatDoorFree
import Derived.Test.YtloojhnhialenaaGreatDoorMakeB
import Derived.Test.YtloojhnhialenaaGreatDoorNums
import Derived.Test.YtloojhnhialenaaGreatDoorPlanO
namespace Go.Proofs.YtloojhnhialenaaGreatDoor
open Go.RowKit Go.Deep
attribute [local go_sem] Oper.semAt_some

theorem Log.safe (S : List Nat) (F : Nat → Prop) (G : Nat) (p : PlanL) (s : LSt) (w : World) (h : LogIs w S F G p s) :
    Calls Tryz.prog 34 #[.pointer (some ⟨G, 0, none⟩)] w fun e w' => e = .returned (.int .i64 s.safe) ∧ w = w' := by
  obtain ⟨JS, FJ, FP, J, pv, av, h, _, _⟩ := h
  have c4 := h.cells.cell 4 _ rfl
  clear h
  go_enter Tryz.func34, Tryz.ntmps34
  go_wp2
  go_ret
  exact ⟨rfl, rfl⟩

set_option maxRecDepth 100000 in
set_option maxHeartbeats 2000000 in
theorem law_flags (n : Nat) (v : Value) (l : List Nat) (w : World) (hn : n ≤ 30) (hv : Reads w v (natL l)) (hl : ∀ i ∈ l, i < n) (hll : l.length ≤ 1000) :
    Calls Tryz.prog 39 #[.int .i64 n, v] w fun e w' => ∃ A, e = .returned (.slice (some ⟨A, 0, none⟩) n n) ∧ w.heap.size ≤ A ∧ A < w'.heap.size ∧ Bools w' A n (doneB l) ∧ Only [] w w' := by
  obtain ⟨va, vc, rfl, hc⟩ := hv.opt
  obtain ⟨m, hm⟩ : ∃ m, (natL l).length = m := ⟨_, rfl⟩
  have hlm : l.length = m := by rw [← natL_len]; exact hm
  rw [hm] at hc ⊢
  have HC := Lib.hid hc
  have HL := Lib.hid hl
  have HM := Lib.hid hlm
  have hmk := make_bools n (by omega)
  have hB := made_bools w n
  have ho := (Only.refl [] w).alloc (.cells (madeCells #[.bool false] n) 4)
  have hm9 : m ≤ 1000 := by omega
  clear hc hl hv hm hlm hll
  go_enter Tryz.func39, Tryz.ntmps39
  go_wp2_with fail
  go_loopw [6] (fun vi wr => ∃ k : Nat, k ≤ m ∧ vi = .int .i64 k ∧ Bools wr w.heap.size n (doneB (l.take k)) ∧ w.heap.size < wr.heap.size ∧ Only [] w wr) (fun vi _ => m - (intOf vi).toNat)
  case atStart => exact ⟨0, Nat.zero_le _, rfl, by rw [List.take_zero, doneB_nil]; exact hB, by simp, ho⟩
  case round =>
    clear hB ho
    obtain ⟨wo, rfl⟩ : ∃ wo : World, wo = wr := ⟨_, rfl⟩
    obtain ⟨k, hk, rfl, hB, hA, ho⟩ := hrel
    by_cases hkm : k < m
    · have hkl : k < l.length := by rw [HM.out]; exact hkm
      obtain ⟨g, o, rfl, c0⟩ := HC.out k hkm
      obtain ⟨x, hx⟩ : ∃ x, l[k] = x := ⟨_, rfl⟩
      rw [natL_nth l k hkl, hx] at c0
      have hxn : x < n := by rw [← hx]; exact HL.out _ (List.getElem_mem hkl)
      have c1 := (ho.cell (p := ⟨g, o + k, none⟩) (cell_lt c0) (by simp)).trans c0
      have cB := (hB x hxn).1
      have fB := (hB x hxn).2
      have hst : Hid (upB (doneB (l.take k)) x = doneB (l.take (k + 1))) := by
        show _ = _
        rw [← doneB_push, List.take_succ_eq_append_getElem hkl, hx]
      have hset : Only [w.heap.size] wo (wo.setCell ⟨w.heap.size, x, none⟩ (.bool true)) := (Only.refl _ _).setCell (by simp) _
      have hB2 := hB.set x true
      have hB3 : Hid (Bools (wo.setCell ⟨w.heap.size, x, none⟩ (.bool true)) w.heap.size n (doneB (l.take (k + 1)))) := by
        rw [← hst.out]
        exact hB2
      have ho2 := Lib.hid (ho.trans hset (by simp))
      have hA2 : Hid (w.heap.size < (wo.setCell ⟨w.heap.size, x, none⟩ (.bool true)).heap.size) := Nat.lt_of_lt_of_le hA hset.size
      clear hB hB2 ho hset c0 hx hst
      go_wp2
      go_roundw
      case rel => exact ⟨k + 1, by omega, by go_num, hB3.out, hA2.out, ho2.out⟩
      case measure => (simp [intOf]; try omega)
    · obtain rfl : k = m := by omega
      rw [List.take_of_length_le (by rw [HM.out]; exact Nat.le_refl _)] at hB
      go_wp2
      go_ret
      exact ⟨_, rfl, Nat.le_refl _, hA, hB, ho⟩

/-- May it be done? -/
def mayF (p : PlanL) (l : List Nat) (i : Int) : Int := if i < 0 ∨ (p.length : Int) ≤ i then 1 else if readyB p (doneB l) i.toNat then 0 else 6

set_option maxRecDepth 100000 in
set_option maxHeartbeats 2000000 in
theorem law_may (v u : Value) (p : PlanL) (l : List Nat) (i : Int) (w : World) (h : InPlan w v p) (hok : PlanOk p) (hv : Reads w u (natL l)) (hl : ∀ i ∈ l, i < p.length) (hll : l.length ≤ 1000) :
    Calls Tryz.prog 37 #[v, u, .int .i64 i] w fun e w' => e = .returned (.int .i64 (mayF p l i)) ∧ Only [] w w' := by
  have h30 := hok.len
  have hneed := needsOk hok.len hok.fault
  obtain ⟨n, hn⟩ : ∃ n, p.length = n := ⟨_, rfl⟩
  have hfl := law_flags n u l w (by omega) hv (by rw [← hn]; exact hl) hll
  obtain ⟨pa, pc, hpv, _⟩ := h.task
  have hmf : Hid (mayF p l i = if i < 0 ∨ (n : Int) ≤ i then 1 else if readyB p (doneB l) i.toNat then 0 else 6) := by show _ = _; rw [← hn]; rfl
  have HP := Lib.hid h
  have HN := Lib.hid hn
  have HNEED := Lib.hid hneed
  subst hpv
  rw [hn] at HP h30 ⊢
  obtain ⟨ua, uc, rfl, _⟩ := hv.opt
  obtain ⟨q, hq⟩ : ∃ q, (natL l).length = q := ⟨_, rfl⟩
  rw [hq] at hfl ⊢
  clear h hok hneed hv hl hll hn hq
  by_cases hin : 0 ≤ i ∧ i < (n : Int)
  · obtain ⟨h0, h1⟩ := hin
    obtain ⟨x, rfl⟩ := Int.eq_ofNat_of_zero_le h0
    have hx : x < n := by omega
    obtain ⟨f, hf⟩ : ∃ f, freeB p (doneB l) x = f := ⟨_, rfl⟩
    obtain ⟨d, hd⟩ : ∃ d, doneB l x = d := ⟨_, rfl⟩
    have e : (x : Int).toNat = x := by simp
    rw [hmf.out, if_neg (by omega), e, ready_free, hf, hd]
    have HFD := Lib.hid (And.intro hf hd)
    clear h0 h1 hmf e hf hd
    go_enter Tryz.func37, Tryz.ntmps37
    go_wp2_with fail
    refine hfl.mono ?_
    rintro e w1 ⟨A, rfl, hA1, hA2, hB, ho1⟩
    have hF := ref_Free _ p x A n (doneB l) w1 (HP.out.same ho1) HNEED.out hB (by rw [HN.out]; exact hx) HN.out
    have cb := (hB x hx).1
    rw [HFD.out.1] at hF
    rw [HFD.out.2] at cb
    clear hfl hB HFD
    go_wp2_with fail
    refine hF.mono ?_
    rintro e w2 ⟨rfl, hw⟩
    subst hw
    clear hF
    cases d <;> cases f
    all_goals
      go_wp2
      go_ret
      exact ⟨by simp, ho1⟩
  · have hor : i < 0 ∨ (0 ≤ i ∧ (n : Int) ≤ i) := by omega
    rw [hmf.out, if_pos (by omega)]
    clear hin hmf hfl
    rcases hor with h | ⟨h, h'⟩
    all_goals
      go_enter Tryz.func37, Tryz.ntmps37
      go_wp2
      go_ret
      exact ⟨rfl, Only.refl _ _⟩

end Go.Proofs.YtloojhnhialenaaGreatDoor
