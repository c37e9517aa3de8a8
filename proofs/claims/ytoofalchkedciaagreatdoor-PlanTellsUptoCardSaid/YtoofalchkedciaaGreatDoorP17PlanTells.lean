/-
  Contract of plan.AfterOf.
-/
import Derived.Test.YtoofalchkedciaaGreatDoorP16PlanTells
namespace Go.Proofs.YtoofalchkedciaaGreatDoor
open Go.RowKit Go.Deep

/-- Who comes after a task, of the first k. -/
def afterK (p : PlanL) (i : Int) (k : Nat) : List Nat := (List.range k).filter (fun k => (ndOf p k).contains i)
theorem afterK_zero (p : PlanL) (i : Int) : afterK p i 0 = [] := rfl
theorem afterK_succ (p : PlanL) (i : Int) (k : Nat) : afterK p i (k + 1) = if (ndOf p k).contains i then afterK p i k ++ [k] else afterK p i k := by
  unfold afterK
  rw [List.range_succ, List.filter_append]
  cases h : (ndOf p k).contains i <;> simp only [List.filter, h] <;> simp
theorem afterK_all (p : PlanL) (i : Int) : afterK p i p.length = afterOf p i := rfl
theorem afterK_len (p : PlanL) (i : Int) (k : Nat) : (afterK p i k).length ≤ k := by
  have := List.length_filter_le (fun k => (ndOf p k).contains i) (List.range k)
  simpa [afterK] using this

set_option maxRecDepth 100000 in
set_option maxHeartbeats 2000000 in
theorem plan_AfterOf (v : Value) (p : PlanL) (i : Int) (w : World) (h : InPlan w v p) (hok : PlanOk p) :
    Calls Tryz.prog 57 #[v, .int .i64 i] w fun e w' => ∃ v', e = .returned v' ∧ Ints w' w.heap.size v' (natL (afterOf p i)) ∧ Only [] w w' := by
  have HP := Lib.hid h
  have HO := Lib.hid hok
  obtain ⟨a, cap, rfl, hc1, hc2, _⟩ := h.task
  obtain ⟨n, hn⟩ : ∃ n, p.length = n := ⟨_, rfl⟩
  have HL := Lib.hid hn
  rw [hn] at hc1 HP ⊢
  have h30 : n ≤ 30 := by rw [← hn]; exact hok.len
  clear h hn hok
  go_enter Tryz.func57, Tryz.ntmps57
  go_wp2_with fail
  go_loopw [4, 9] (fun vo vi wr => ∃ k : Nat, k ≤ n ∧ vi = .int .i64 k ∧ Ints wr w.heap.size vo (natL (afterK p i k)) ∧ Only [] w wr) (fun _ vi _ => n - (intOf vi).toNat)
  case atStart => exact ⟨0, Nat.zero_le _, rfl, Ints.nil _ _, Only.refl _ _⟩
  case round =>
    obtain ⟨wo, rfl⟩ : ∃ wo : World, wo = wr := ⟨_, rfl⟩
    obtain ⟨k, hk, rfl, hI, ho⟩ := hrel
    have hsz := ho.size
    by_cases hkn : k < n
    · obtain ⟨b, off, rfl⟩ := HP.out.any k (by rw [HL.out]; exact hkn)
      obtain ⟨ua, uc, c0, c1, hrd⟩ := (HP.out.same ho).at k (by rw [HL.out]; exact hkn)
      have hnl : (ndOf p k).length ≤ 30 := by have := HO.out.needs k; rw [HL.out] at this; omega
      have hal := (Only.refl [] wo).alloc (.cells #[.int .i64 (wkOf p k), .slice ua (ndOf p k).length uc] 94)
      have hrd3 := hrd.same hal
      have hI3 := hI.only hal (by simp)
      have ho3 := ho.trans hal (by simp)
      have hsu := afterK_succ p i k
      have hlen := afterK_len p i k
      obtain ⟨q, hq⟩ : ∃ q, (natL (afterK p i k)).length = q := ⟨_, rfl⟩
      have HQ := Lib.hid hq
      have hq2 : q ≤ k := by rw [← hq, natL_len]; exact hlen
      have hcl := contains_ints _ _ i _ hrd3 (by omega)
      obtain ⟨r, hr⟩ : ∃ r, decide (i ∈ ndOf p k) = r := ⟨_, rfl⟩
      have hr2 : (ndOf p k).contains i = r := by rw [← hr]; simp
      have hcl := hcl r hr
      rw [hr2] at hsu
      have HSU := Lib.hid hsu
      clear hr hr2 hsu hrd hrd3 hlen
      obtain ⟨x, hx⟩ : ∃ x, wkOf p k = x := ⟨_, rfl⟩
      obtain ⟨m, hm⟩ : ∃ m, (ndOf p k).length = m := ⟨_, rfl⟩
      rw [hx, hm] at hcl hal hI3 ho3
      rw [hx] at c0
      rw [hm] at c1
      clear hx hm hal
      have hsz3 := ho3.size
      cases r
      · go_wp2_with fail
        refine hcl.mono ?_
        rintro e w9 ⟨rfl, rfl⟩
        clear hcl
        go_wp2
        go_roundw
        case rel => exact ⟨k + 1, by omega, by go_num, by rw [HSU.out]; exact hI3, ho3⟩
        case measure => (simp [intOf]; try omega)
      · go_wp2_with fail
        refine hcl.mono ?_
        rintro e w9 ⟨rfl, rfl⟩
        clear hcl
        obtain ⟨W, hW⟩ : ∃ W, wo.alloc (.cells #[.int .i64 x, .slice ua m uc] 94) = W := ⟨_, rfl⟩
        rw [hW] at hI3 ho3 hsz3
        clear hI ho
        go_wp2_with (at_builtin; refine wpList_push rfl (.tmp 18) (.tmp 20) rfl W w.heap.size _ _ W.heap.size k q hI3 hq (by omega) hsz3 rfl rfl ((Only.refl [] W).alloc _) (World.cell?_alloc_at _ _ _ _ rfl) ?_; intro g cap3 w3 hI4 hO4 hK4)
        rw [← natL_push] at hI4
        have ho4 := Lib.hid (ho3.pushed hI3 (Nat.le_refl _) hO4)
        clear hI3 ho3 hO4 hW
        go_roundw
        case rel => exact ⟨k + 1, by omega, by go_num, by rw [HSU.out]; exact hI4, ho4.out⟩
        case measure => (simp [intOf]; try omega)
    · obtain rfl : k = n := by omega
      obtain ⟨va, vc, rfl, _⟩ := hI.opt
      go_wp2
      go_ret
      exact ⟨_, rfl, by rw [← afterK_all, HL.out]; exact hI, ho⟩

end Go.Proofs.YtoofalchkedciaaGreatDoor
