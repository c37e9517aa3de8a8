/-
  Contract of yardlaw4.chain.
-/
import Derived.Test.YtnolckhideellaaChainP
namespace Go.Proofs.Ytnolckhideellaa
open Go.RowKit Go.Deep

set_option maxRecDepth 100000 in
set_option maxHeartbeats 2000000 in
theorem law_chain (n : Nat) (work : Int) (w : World) (hn : n ≤ 30) :
    Calls Try.prog 5 #[.int .i64 n, .int .i64 work] w fun e w' => ∃ v, e = .returned v ∧ OwnPlan w' w.heap.size (fun x => w.heap.size ≤ x) v (chainP n work) ∧ Only [] w w' := by
  go_enter Try.func5, Try.ntmps5
  go_wp2_with fail
  go_loopw [5, 6] (fun vp vi wr => ∃ i : Nat, i ≤ n ∧ vi = .int .i64 i ∧ OwnPlan wr w.heap.size (fun x => w.heap.size ≤ x) vp (chainP i work) ∧ Only [] w wr) (fun _ vi _ => n - (intOf vi).toNat)
  case atStart => exact ⟨0, Nat.zero_le _, rfl, OwnPlan.nil _ _ _, Only.refl _ _⟩
  case round =>
    obtain ⟨wo, rfl⟩ : ∃ wo : World, wo = wr := ⟨_, rfl⟩
    obtain ⟨i, hi, rfl, hO, ho⟩ := hrel
    by_cases hin : i < n
    · have hfar := hO.far
      obtain ⟨a, cap, rfl, _, _⟩ := hO.form
      have hlen := chainP_len i work
      rcases i with _ | j
      · have hal := (Only.refl [] wo).alloc (.cells #[.int .i64 work, .slice none 0 0] 37)
        have hO1 := hO.same hal
        have ho1 := ho.trans hal (by simp)
        have hsz := ho1.size
        obtain ⟨N, k1, k2, k3, k4⟩ := hO1
        have hone : Hid (RowAt (World.alloc (wo.alloc (.cells #[.int .i64 work, .slice none 0 0] 37)) (.cells #[.int .i64 work, .slice none 0 0] 37)) (.slice (some ⟨wo.heap.size + 1, 0, none⟩) 1 1) 1 2 [.int .i64 work, .slice none 0 0]) :=
          RowAt.one (cs := #[.int .i64 work, .slice none 0 0]) (by have h := heap_alloc_new (wo.alloc (.cells #[.int .i64 work, .slice none 0 0] 37)) (.cells #[.int .i64 work, .slice none 0 0] 37); simpa [World.setCell] using h) rfl (by intro y hy; simp at hy; rcases hy with rfl | rfl <;> rfl)
        have K1 := Lib.hid k1
        have KP := Lib.hid (fun v' w' => OwnPlan.push (W := (wo.alloc (.cells #[.int .i64 work, .slice none 0 0] 37))) (w' := w') (base := w.heap.size) (F := fun x => w.heap.size ≤ x) (v' := v') (chainT work 0) (.slice none 0 0) k2 k3 k4 (.inl ⟨rfl, .inl rfl⟩) (fun h => absurd rfl h))
        have HO := Lib.hid ho1
        clear k1 k2 k3 k4 hO hal ho ho1
        go_wp2_with (at_builtin; refine wpList_append_rows sliceOf_plan rfl (.tmp 21) (.tmp 23) rfl (wo.alloc (.cells #[.int .i64 work, .slice none 0 0] 37)) w.heap.size _ _ _ _ 1 _ K1.out hone.out (by omega) hsz rfl rfl ((Only.refl [] _).alloc _) ?_; intro v3 w3 hI3 hO3 hK3)
        have hP := KP.out v3 w3 hI3 hO3 hK3
        rw [chainP_push] at hP
        have ho3 : Hid (Only [] w w3) := HO.out.trans hO3 (fun x hx hl => by have := (hfar x hx).1; omega)
        clear hI3 hO3 hK3
        go_roundw
        case rel => exact ⟨_ + 1, by omega, by go_num, hP, ho3.out⟩
        case measure => (simp [intOf]; try omega)
      · have hwr : IntKind.i64.wrap ((j : Int) + 1 - 1) = (j : Int) := by rw [IntWalk.i64_in _ (by omega)]; omega
        have hal : Only [] wo ((wo.alloc (.cells #[.int .i64 work, .slice (some ⟨wo.heap.size + 1, 0, none⟩) 1 1] 37)).alloc (.cells #[.int .i64 (j : Int)] 3)) := ((Only.refl [] wo).alloc _).alloc _
        have hru : Reads ((wo.alloc (.cells #[.int .i64 work, .slice (some ⟨wo.heap.size + 1, 0, none⟩) 1 1] 37)).alloc (.cells #[.int .i64 (j : Int)] 3)) (.slice (some ⟨wo.heap.size + 1, 0, none⟩) 1 1) (chainT work (j + 1)).2 := by
          have e : (chainT work (j + 1)).2 = [(j : Int)] := by simp [chainT]
          rw [e]
          refine .inr ⟨by simp, wo.heap.size + 1, 0, 1, rfl, by simp, by unfold maxLen; omega, fun i hi => ?_⟩
          obtain rfl : i = 0 := by simp at hi; omega
          rw [World.cell?_alloc_at _ _ _ _ (by simp)]
          rfl
        have hrf : (chainT work (j + 1)).2 ≠ [] → ∀ x ∈ own (.slice (some ⟨wo.heap.size + 1, 0, none⟩) 1 1), w.heap.size ≤ x ∧ x ∉ own (.slice a (chainP (j + 1) work).length cap) := by
          intro _ x hx
          have h1 : x = wo.heap.size + 1 := by simpa [own, Value.ownBlock] using hx
          subst h1
          exact ⟨by have := ho.size; omega, fun h => by have := (hfar _ h).2; omega⟩
        have hO1 := hO.same hal
        have ho1 := ho.trans hal (by simp)
        have hsz := ho1.size
        obtain ⟨N, k1, k2, k3, k4⟩ := hO1
        have hone : Hid (RowAt (World.alloc ((wo.alloc (.cells #[.int .i64 work, .slice (some ⟨wo.heap.size + 1, 0, none⟩) 1 1] 37)).alloc (.cells #[.int .i64 (j : Int)] 3)) (.cells #[.int .i64 work, .slice (some ⟨wo.heap.size + 1, 0, none⟩) 1 1] 37)) (.slice (some ⟨wo.heap.size + 2, 0, none⟩) 1 1) 1 2 [.int .i64 work, .slice (some ⟨wo.heap.size + 1, 0, none⟩) 1 1]) :=
          RowAt.one (cs := #[.int .i64 work, .slice (some ⟨wo.heap.size + 1, 0, none⟩) 1 1]) (by have h := heap_alloc_new ((wo.alloc (.cells #[.int .i64 work, .slice (some ⟨wo.heap.size + 1, 0, none⟩) 1 1] 37)).alloc (.cells #[.int .i64 (j : Int)] 3)) (.cells #[.int .i64 work, .slice (some ⟨wo.heap.size + 1, 0, none⟩) 1 1] 37); simpa [World.setCell] using h) rfl (by intro y hy; simp at hy; rcases hy with rfl | rfl <;> rfl)
        have K1 := Lib.hid k1
        have KP := Lib.hid (fun v' w' => OwnPlan.push (W := ((wo.alloc (.cells #[.int .i64 work, .slice (some ⟨wo.heap.size + 1, 0, none⟩) 1 1] 37)).alloc (.cells #[.int .i64 (j : Int)] 3))) (w' := w') (base := w.heap.size) (F := fun x => w.heap.size ≤ x) (v' := v') (chainT work (j + 1)) (.slice (some ⟨wo.heap.size + 1, 0, none⟩) 1 1) k2 k3 k4 hru hrf)
        have HO := Lib.hid ho1
        clear k1 k2 k3 k4 hO hal ho ho1
        go_wp2_with (at_builtin; refine wpList_append_rows sliceOf_plan rfl (.tmp 21) (.tmp 23) rfl ((wo.alloc (.cells #[.int .i64 work, .slice (some ⟨wo.heap.size + 1, 0, none⟩) 1 1] 37)).alloc (.cells #[.int .i64 (j : Int)] 3)) w.heap.size _ _ _ _ 1 _ K1.out hone.out (by omega) hsz rfl rfl ((Only.refl [] _).alloc _) ?_; intro v3 w3 hI3 hO3 hK3)
        have hP := KP.out v3 w3 hI3 hO3 hK3
        rw [chainP_push] at hP
        have ho3 : Hid (Only [] w w3) := HO.out.trans hO3 (fun x hx hl => by have := (hfar x hx).1; omega)
        clear hI3 hO3 hK3
        go_roundw
        case rel => exact ⟨_ + 1, by omega, by go_num, hP, ho3.out⟩
        case measure => (simp [intOf]; try omega)
    · obtain rfl : n = i := by omega
      obtain ⟨a, cap, rfl, _, _⟩ := hO.form
      go_wp2
      go_ret
      exact ⟨_, rfl, hO, ho⟩

end Go.Proofs.Ytnolckhideellaa
