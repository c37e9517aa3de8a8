/-
  Contract of yardlaw4.beside.
-/
import Derived.Test.YtbpkndflkbcmaaaChainP
namespace Go.Proofs.Ytbpkndflkbcmaaa
open Go.RowKit Go.Deep

set_option maxRecDepth 100000 in
set_option maxHeartbeats 2000000 in
theorem law_beside (n : Nat) (work : Int) (w : World) (hn : n ≤ 30) :
    Calls Try.prog 16 #[.int .i64 n, .int .i64 work] w fun e w' => ∃ v, e = .returned v ∧ OwnPlan w' w.heap.size (fun x => w.heap.size ≤ x) v (besideP n work) ∧ Only [] w w' := by
  go_enter Try.func16, Try.ntmps16
  go_wp2_with fail
  go_loopw [5, 6] (fun vp vi wr => ∃ i : Nat, i ≤ n ∧ vi = .int .i64 i ∧ OwnPlan wr w.heap.size (fun x => w.heap.size ≤ x) vp (besideP i work) ∧ Only [] w wr) (fun _ vi _ => n - (intOf vi).toNat)
  case atStart => exact ⟨0, Nat.zero_le _, rfl, OwnPlan.nil _ _ _, Only.refl _ _⟩
  case round =>
    obtain ⟨wo, rfl⟩ : ∃ wo : World, wo = wr := ⟨_, rfl⟩
    obtain ⟨i, hi, rfl, hO, ho⟩ := hrel
    by_cases hin : i < n
    · have hsz := ho.size
      have hfar := hO.far
      obtain ⟨a, cap, rfl, _, _⟩ := hO.form
      have hlen := besideP_len i work
      obtain ⟨N, k1, k2, k3, k4⟩ := hO
      have hone : Hid (RowAt (wo.alloc (.cells #[.int .i64 work, .slice none 0 0] 49)) (.slice (some ⟨wo.heap.size, 0, none⟩) 1 1) 1 2 [.int .i64 work, .slice none 0 0]) :=
        RowAt.one (cs := #[.int .i64 work, .slice none 0 0]) (heap_alloc_new _ _) rfl (by intro y hy; simp at hy; rcases hy with rfl | rfl <;> rfl)
      have K1 := Lib.hid k1
      have KP := Lib.hid (fun v' w' => OwnPlan.push (W := wo) (w' := w') (base := w.heap.size) (F := fun x => w.heap.size ≤ x) (v' := v') (work, []) (.slice none 0 0) k2 k3 k4 (.inl ⟨rfl, .inl rfl⟩) (fun h => absurd rfl h))
      clear k1 k2 k3 k4
      go_wp2_with (at_builtin; refine wpList_append_rows sliceOf_plan rfl (.tmp 12) (.tmp 15) rfl wo w.heap.size _ _ _ _ 1 _ K1.out hone.out (by omega) hsz rfl rfl ((Only.refl [] wo).alloc _) ?_; intro v3 w3 hI3 hO3 hK3)
      have hP := KP.out v3 w3 hI3 hO3 hK3
      rw [besideP_push] at hP
      have ho3 : Hid (Only [] w w3) := ho.trans hO3 (fun x hx hl => by have := (hfar x hx).1; omega)
      clear hI3 hO3 hK3
      go_roundw
      case rel => exact ⟨i + 1, by omega, by go_num, hP, ho3.out⟩
      case measure => (simp [intOf]; try omega)
    · obtain rfl : n = i := by omega
      obtain ⟨a, cap, rfl, _, _⟩ := hO.form
      go_wp2
      go_ret
      exact ⟨_, rfl, hO, ho⟩

end Go.Proofs.Ytbpkndflkbcmaaa
