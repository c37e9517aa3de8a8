/-
  Contract of yardref1.In.
  Contract of yardref1.After.
-/
import Derived.Test.YtoofalchkedciaaGreatDoorP15PlanTells
import Derived.Test.YtoofalchkedciaaGreatDoorP5PlanTells
import Derived.Test.YtoofalchkedciaaGreatDoorP17PlanTells
namespace Go.Proofs.YtoofalchkedciaaGreatDoor
open Go.RowKit

set_option maxHeartbeats 400000 in
theorem ref_in (v : Value) (l : List Int) (x : Int) (w : World) (h : Reads w v l) (hl : l.length ≤ 1000000000) (r : Bool) (hr : decide (x ∈ l) = r) :
    Calls Tryz.prog 56 #[v, .int .i64 x] w fun e w' => e = .returned (.bool r) ∧ w = w' := by
  obtain ⟨a, c, rfl, ha⟩ := h.opt
  obtain ⟨n, hn⟩ : ∃ n, l.length = n := ⟨_, rfl⟩
  have HN := Lib.hid hn
  have HR := Lib.hid hr
  rw [hn] at ha hl ⊢
  clear h hn hr
  go_enter Tryz.func56, Tryz.ntmps56
  go_wp2_with fail
  go_loopw [5] (fun vi wr => ∃ i : Nat, i ≤ n ∧ vi = .int .i64 i ∧ (∀ j, j < i → nth l j ≠ x) ∧ w = wr) (fun vi _ => n - (intOf vi).toNat)
  case atStart => exact ⟨0, Nat.zero_le _, rfl, fun j hj => by omega, rfl⟩
  case round =>
    obtain ⟨i, hi, rfl, hno, rfl⟩ := hrel
    have HNO := Lib.hid hno
    clear hno
    by_cases hin : i < n
    · obtain ⟨b, off, rfl, k0⟩ := ha i hin
      obtain ⟨z, hz⟩ : ∃ z, nth l i = z := ⟨_, rfl⟩
      have HZ := Lib.hid hz
      rw [hz] at k0
      clear ha hz
      by_cases he : z = x
      · have hq : (z == x) = true := by simpa using he
        have hres : Hid (r = true) := by
          show _ = _
          rw [← HR.out, decide_eq_true_eq]
          exact mem_nth.2 ⟨i, by rw [HN.out]; exact hin, by rw [HZ.out]; exact he⟩
        clear he
        go_wp2
        go_ret
        exact ⟨by rw [hres.out]; rfl, rfl⟩
      · have hq : (z == x) = false := by simpa using he
        have HE := Lib.hid he
        clear he
        go_wp2
        go_roundw
        case rel =>
          refine ⟨i + 1, by omega, by go_num, fun j hj => ?_, by trivial⟩
          by_cases e : j = i
          · subst e; rw [HZ.out]; exact HE.out
          · exact HNO.out j (by omega)
        case measure => (simp [intOf]; try omega)
    · obtain rfl : n = i := by omega
      have hres : Hid (r = false) := by
        show _ = _
        rw [← HR.out, decide_eq_false_iff_not]
        intro hm
        obtain ⟨j, hj, e⟩ := mem_nth.1 hm
        exact HNO.out j (by rw [← HN.out]; exact hj) e
      clear ha
      go_wp2
      go_ret
      exact ⟨by rw [hres.out]; rfl, rfl⟩

end Go.Proofs.YtoofalchkedciaaGreatDoor

namespace Go.Proofs.YtoofalchkedciaaGreatDoor
open Go.RowKit Go.Deep

set_option maxRecDepth 100000 in
set_option maxHeartbeats 2000000 in
theorem ref_After (v : Value) (p : PlanL) (i : Int) (w : World) (h : InPlan w v p) (hok : PlanOk p) :
    Calls Tryz.prog 17 #[v, .int .i64 i] w fun e w' => ∃ v', e = .returned v' ∧ Ints w' w.heap.size v' (natL (afterOf p i)) ∧ Only [] w w' := by
  have HP := Lib.hid h
  have HO := Lib.hid hok
  obtain ⟨a, cap, rfl, hc1, hc2, _⟩ := h.task
  obtain ⟨n, hn⟩ : ∃ n, p.length = n := ⟨_, rfl⟩
  have HL := Lib.hid hn
  rw [hn] at hc1 HP ⊢
  have h30 : n ≤ 30 := by rw [← hn]; exact hok.len
  clear h hn hok
  go_enter Tryz.func17, Tryz.ntmps17
  go_wp2_with fail
  go_loopw [5, 6, 7] (fun vo vi _ wr => ∃ k : Nat, k ≤ n ∧ vi = .int .i64 (k : Int) ∧ Ints wr w.heap.size vo (natL (afterK p i k)) ∧ Only [] w wr) (fun _ vi _ _ => n - (intOf vi).toNat)
  case atStart => exact ⟨0, Nat.zero_le _, rfl, Ints.nil _ _, Only.refl _ _⟩
  case round =>
    obtain ⟨wo, rfl⟩ : ∃ wo : World, wo = wr := ⟨_, rfl⟩
    obtain ⟨k, hk, rfl, hI, ho⟩ := hrel
    have hsz := ho.size
    by_cases hkn : k < n
    · obtain ⟨b, off, rfl⟩ := HP.out.any k (by rw [HL.out]; exact hkn)
      obtain ⟨ua, uc, c0, c1, hrd⟩ := (HP.out.same ho).at k (by rw [HL.out]; exact hkn)
      have hnl : (ndOf p k).length ≤ 30 := by have := HO.out.needs k; rw [HL.out] at this; omega
      have hsu := afterK_succ p i k
      have hlen := afterK_len p i k
      obtain ⟨q, hq⟩ : ∃ q, (natL (afterK p i k)).length = q := ⟨_, rfl⟩
      have HQ := Lib.hid hq
      have hq2 : q ≤ k := by rw [← hq, natL_len]; exact hlen
      obtain ⟨r, hr⟩ : ∃ r, decide (i ∈ ndOf p k) = r := ⟨_, rfl⟩
      have hr2 : (ndOf p k).contains i = r := by rw [← hr]; simp
      have hcl := ref_in _ _ i _ hrd (by omega) r hr
      rw [hr2] at hsu
      have HSU := Lib.hid hsu
      have HI := Lib.hid hI
      have HW := Lib.hid ho
      obtain ⟨m, hm⟩ : ∃ m, (ndOf p k).length = m := ⟨_, rfl⟩
      rw [hm] at hcl
      rw [hm] at c1
      clear hr hr2 hsu hrd hlen hm hq hI ho
      cases r
      · go_wp2_with fail
        refine hcl.mono ?_
        rintro e w9 ⟨rfl, rfl⟩
        clear hcl
        go_wp2
        go_roundw
        case rel => exact ⟨k + 1, by omega, by go_num, by rw [HSU.out]; exact HI.out, HW.out⟩
        case measure => (simp [intOf]; try omega)
      · go_wp2_with fail
        refine hcl.mono ?_
        rintro e w9 ⟨rfl, rfl⟩
        clear hcl c0 c1
        have hI' := HI.out
        obtain ⟨va, vc, rfl, _⟩ := hI'.opt
        rw [HQ.out] at hI' ⊢
        have hfar := Lib.hid (fun y hy => Row.far HI.out y hy)
        rw [HQ.out] at hfar
        have HI2 := Lib.hid hI'
        clear hI'
        go_wp2_with (at_builtin; refine wpList_push rfl (.tmp 22) (.tmp 24) rfl wo w.heap.size _ _ wo.heap.size (k : Int) q HI2.out HQ.out (by omega) hsz rfl rfl ((Only.refl [] wo).alloc _) (World.cell?_alloc_at _ _ _ _ rfl) ?_; intro g cap5 w5 hI5 hO5 hK5)
        have hI6 : Hid (Ints w5 w.heap.size (.slice (some ⟨g, 0, none⟩) (q + 1) cap5) (natL (afterK p i (k + 1)))) := by
          show Ints _ _ _ _
          rw [HSU.out]
          simp only [if_true, natL_push]
          exact hI5
        have hO6 : Hid (Only [] w w5) := HW.out.trans hO5 (fun x hx hl => by have := (hfar.out x hx).1; omega)
        clear hI5 hO5 hK5
        go_wp2
        go_roundw
        case rel => exact ⟨k + 1, by omega, by go_num, hI6.out, hO6.out⟩
        case measure => (simp [intOf]; try omega)
    · obtain rfl : k = n := by omega
      have e : Hid (afterK p i k = afterOf p i) := by
        have h := afterK_all p i
        rw [HL.out] at h
        exact h
      have HI := Lib.hid hI
      obtain ⟨va, vc, rfl, _⟩ := hI.opt
      clear hI
      go_wp2
      go_ret
      exact ⟨_, rfl, by rw [← e.out]; exact HI.out, ho⟩

end Go.Proofs.YtoofalchkedciaaGreatDoor
