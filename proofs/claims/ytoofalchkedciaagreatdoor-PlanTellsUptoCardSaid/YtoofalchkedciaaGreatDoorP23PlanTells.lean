/-
  Contract of yardref1.Free.
-/
import Derived.Test.YtoofalchkedciaaGreatDoorP14PlanTells
import Derived.Test.YtoofalchkedciaaGreatDoorP11PlanTells
namespace Go.Proofs.YtoofalchkedciaaGreatDoor
open Go.RowKit Go.Deep

def freeB (p : PlanL) (D : Nat → Bool) (i : Nat) : Bool := (ndOf p i).all (fun k => D k.toNat)
theorem ready_free (p : PlanL) (D : Nat → Bool) (i : Nat) : readyB p D i = (!D i && freeB p D i) := rfl

set_option maxRecDepth 100000 in
set_option maxHeartbeats 2000000 in
theorem ref_Free (v : Value) (p : PlanL) (i A n : Nat) (D : Nat → Bool) (w : World) (h : InPlan w v p) (hn : NeedsOk p) (hB : Bools w A n D) (hi : i < p.length) (hl : p.length = n) :
    Calls Tryz.prog 51 #[v, .int .i64 i, .slice (some ⟨A, 0, none⟩) n n] w fun e w' => e = .returned (.bool (freeB p D i)) ∧ w' = w := by
  obtain ⟨a, cap, rfl, hc1, hc2, _⟩ := h.task
  obtain ⟨b, off, rfl⟩ := h.any i hi
  obtain ⟨ua, uc, _, c1, hrd⟩ := h.at i hi
  have h30 := hn.1
  obtain ⟨m, hm⟩ : ∃ m, (ndOf p i).length = m := ⟨_, rfl⟩
  have HM := Lib.hid hm
  have hm30 : m ≤ 30 := by have := hn.2.2 i; rw [hm] at this; exact this
  have hcl : ∀ k, k < m → ∃ g o x, ua = some ⟨g, o, none⟩ ∧ w.cell? ⟨g, o + k, none⟩ = some (.int .i64 ((x : Nat) : Int)) ∧ x < n ∧ nth (ndOf p i) k = x := by
    intro k hk
    have hkl : k < (ndOf p i).length := by rw [HM.out]; exact hk
    obtain ⟨a', c', e, hc⟩ := hrd.opt
    obtain ⟨g, o, rfl, hcc⟩ := hc k hkl
    injection e with e1 _ _
    have hx := hn.2.1 i (nth (ndOf p i) k) (by unfold nth; rw [List.getElem?_eq_getElem hkl]; exact List.getElem_mem hkl)
    obtain ⟨x, hxn⟩ := Int.eq_ofNat_of_zero_le hx.1
    rw [hxn] at hcc hx
    exact ⟨g, o, x, e1, hcc, by omega, hxn⟩
  rw [hl] at hc1 hi ⊢
  rw [hm] at c1
  have HCL := Lib.hid hcl
  have HB := Lib.hid hB
  clear h hn hrd hm hcl hB hl
  go_enter Tryz.func51, Tryz.ntmps51
  go_wp2_with fail
  go_loopw [7] (fun vk wr => ∃ k : Nat, k ≤ m ∧ vk = .int .i64 k ∧ ((ndOf p i).take k).all (fun k => D k.toNat) = true ∧ w = wr) (fun vk _ => m - (intOf vk).toNat)
  case atStart => exact ⟨0, Nat.zero_le _, rfl, by simp, rfl⟩
  case round =>
    obtain ⟨k, hk, rfl, hall, rfl⟩ := hrel
    by_cases hlt : k < m
    · obtain ⟨g, o, x, rfl, cx, hxn, hnx⟩ := HCL.out k hlt
      have cb := (HB.out x hxn).1
      have hst : Hid (((ndOf p i).take (k + 1)).all (fun k => D k.toNat) = D x) := by
        show _ = _
        rw [take_succ_nth _ k (by rw [HM.out]; exact hlt), List.all_append, hall, hnx]; simp
      have hfr : Hid (D x = false → freeB p D i = false) := fun hd => by
        unfold freeB
        rw [List.all_eq_false]
        refine ⟨(x : Int), ?_, by simp [hd]⟩
        have hkl : k < (ndOf p i).length := by rw [HM.out]; exact hlt
        rw [← hnx]
        unfold nth; rw [List.getElem?_eq_getElem hkl]; exact List.getElem_mem hkl
      cases hd : D x
      · rw [hd] at cb
        have hF := Lib.hid (hfr.out hd)
        clear hall hd
        go_wp2
        go_ret
        exact ⟨by rw [hF.out]; rfl, rfl⟩
      · rw [hd] at cb
        have hst2 : Hid (((ndOf p i).take (k + 1)).all (fun k => D k.toNat) = true) := by rw [← hd]; exact hst
        clear hall hd
        go_wp2
        go_roundw
        case rel => exact ⟨k + 1, by omega, by go_num, hst2.out, trivial⟩
        case measure => (simp [intOf]; try omega)
    · obtain rfl : k = m := by omega
      rw [List.take_of_length_le (Nat.le_of_eq HM.out)] at hall
      have hF : Hid (freeB p D i = true) := hall
      clear hall
      go_wp2
      go_ret
      exact ⟨by rw [hF.out]; rfl, rfl⟩

end Go.Proofs.YtoofalchkedciaaGreatDoor
