/-
  Contract of slices.Clone at []int.
-/
import Derived.Test.YtoofalchkedciaaDoorInts
namespace Go.Proofs.YtoofalchkedciaaDoor
open Go.RowKit

set_option maxHeartbeats 400000 in
theorem clone_ints (v : Value) (l : List Int) (w : World) (h : Reads w v l) (hl : l.length ≤ 1000000000) :
    Calls Tryd.prog 45 #[v] w fun e w' => ∃ v', e = .returned v' ∧ Ints w' w.heap.size v' l ∧ Only [] w w' := by
  have hnil := fun (a : Option Addr) (n c : Nat) (w : World) => Lib.run_eql_slice_nil (P := Tryd.prog) w 28 3 a n c 0 0 Tryd.underlying28
  have hh := h
  rcases h with ⟨rfl, rfl | ⟨y, cap, rfl, hcap⟩⟩ | ⟨h0, b, off, cap, rfl, h1, h2, h3⟩
  · go_enter Tryd.func45, Tryd.ntmps45
    go_wp2
    go_ret
    exact ⟨_, rfl, Ints.nil _ _, Only.refl _ _⟩
  · have ho := (Only.refl [] w).alloc (.cells #[] 3)
    have hown : Ints (w.alloc (.cells #[] 3)) w.heap.size (.slice (some ⟨w.heap.size, 0, none⟩) 0 0) [] := ⟨by simp, .inr ⟨w.heap.size, 0, #[], rfl, Nat.le_refl _, heap_alloc_new _ _, Nat.le_refl _, by unfold maxLen; omega, rfl, rfl⟩⟩
    have hh' := hh.same ho
    go_enter Tryd.func45, Tryd.ntmps45
    go_wp2_with (at_builtin; refine wpList_append_reads rfl (.tmp 5) (.tmp 6) rfl _ w.heap.size _ [] _ _ hown hh' (by simp) (by simp) rfl rfl (Only.refl _ _) ?_; intro v' w' hI hO _)
    have ho2 := ho.pushed hown (Nat.le_refl _) hO
    clear hown hh' hO hnil
    go_wp2
    go_ret
    exact ⟨_, rfl, hI, ho2⟩
  · have ho := (Only.refl [] w).alloc (.cells #[] 3)
    have hown : Ints (w.alloc (.cells #[] 3)) w.heap.size (.slice (some ⟨w.heap.size, 0, none⟩) 0 0) [] := ⟨by simp, .inr ⟨w.heap.size, 0, #[], rfl, Nat.le_refl _, heap_alloc_new _ _, Nat.le_refl _, by unfold maxLen; omega, rfl, rfl⟩⟩
    have hh' := hh.same ho
    clear hh h3
    go_enter Tryd.func45, Tryd.ntmps45
    go_wp2_with (at_builtin; refine wpList_append_reads rfl (.tmp 5) (.tmp 6) rfl _ w.heap.size _ [] _ _ hown hh' (by simpa using hl) (by simp) rfl rfl (Only.refl _ _) ?_; intro v' w' hI hO _)
    have ho2 := ho.pushed hown (Nat.le_refl _) hO
    clear hown hh' hO hnil
    go_wp2
    go_ret
    exact ⟨_, rfl, hI, ho2⟩

end Go.Proofs.YtoofalchkedciaaDoor
