/-
  The statement GangShares: of tasks that become ready in one hand another one has half. No condition.
-/
import Derived.Test.YtocpmncedlenbaaP1GangShares
import Derived.Test.YtocpmncedlenbaaP37GangShares
import Derived.Test.YtocpmncedlenbaaP44GangShares
import Derived.Test.YtocpmncedlenbaaP43GangShares
namespace Go.Proofs.Ytocpmncedlenbaa.gangShares
open Go.ChangeShapes Go.WideShapes Go.ChangeAt Go.RowKit
open Go.ChangeMaps (open_string shut_string)
set_option linter.unusedVariables false


/-- One task, and so many that need it. -/
def sharesP (n : Nat) : PlanL := (1, []) :: List.replicate n (1, [0])
theorem sharesP_len (n : Nat) : (sharesP n).length = n + 1 := by simp [sharesP]
theorem sharesP_push (n : Nat) : sharesP n ++ [(1, [0])] = sharesP (n + 1) := by simp [sharesP, List.replicate_succ']
theorem fifteen {n : Nat} (h2 : 2 ≤ n) (h15 : n ≤ 15) : n = 2 ∨ n = 3 ∨ n = 4 ∨ n = 5 ∨ n = 6 ∨ n = 7 ∨ n = 8 ∨ n = 9 ∨ n = 10 ∨ n = 11 ∨ n = 12 ∨ n = 13 ∨ n = 14 ∨ n = 15 := by omega
theorem shares_ok (n : Nat) (h2 : 2 ≤ n) (h15 : n ≤ 15) : PlanOk (sharesP n) := by
  rcases fifteen h2 h15 with rfl | rfl | rfl | rfl | rfl | rfl | rfl | rfl | rfl | rfl | rfl | rfl | rfl | rfl <;> exact litOk_ok (by decide +kernel)
def sh1 (n : Nat) : GSt × List Dd := gStep (sharesP n) 16 2 (gNew (sharesP n)) 0 0
def sh2 (n : Nat) : GSt × List Dd := gStep (sharesP n) 16 2 (sh1 n).1 0 0
def sh3 (n : Nat) : GSt × List Dd := gStep (sharesP n) 16 2 (sh2 n).1 1 0
theorem sh3_is (n : Nat) (h2 : 2 ≤ n) (h15 : n ≤ 15) : (sh3 n).2 = [⟨2, 1, 1, 0⟩] ∧ (natL (readyL (sharesP n) (sh3 n).1.done)).length = n := by
  rcases fifteen h2 h15 with rfl | rfl | rfl | rfl | rfl | rfl | rfl | rfl | rfl | rfl | rfl | rfl | rfl | rfl <;> exact ⟨by kernel_rfl, by kernel_rfl⟩

set_option maxRecDepth 100000 in
set_option maxHeartbeats 4000000 in
theorem walk (a0 : Int) (w : World) (w0 : (Lit.int .i64 a0).wf = true) :
    Calls Try.prog 3 #[.int .i64 a0] w fun e w' => e = .returned (.bool true) ∧ Below w.heap.size w w' := by
  have bd := bounds_i64 w0
  by_cases hn : 2 ≤ a0 ∧ a0 ≤ 15
  · obtain ⟨n, rfl⟩ := Int.eq_ofNat_of_zero_le (show 0 ≤ a0 by omega)
    have h2 : 2 ≤ n := by omega
    have h15 : n ≤ 15 := by omega
    have hok := shares_ok n h2 h15
    have h3 := sh3_is n h2 h15
    have HOK := Lib.hid hok
    have H3 := Lib.hid h3
    clear hn bd w0 hok h3
    have hP0 : OwnPlan (w.alloc (.cells #[.int .i64 1, .slice none 0 0] 24)) w.heap.size (fun x => w.heap.size ≤ x) (.slice (some ⟨w.heap.size, 0, none⟩) 1 1) (sharesP 0) := by
      refine ⟨fun _ => .slice none 0 0, ⟨by simp [flatP_len], .inr ⟨w.heap.size, 1, _, rfl, Nat.le_refl _, heap_alloc_new _ _, Nat.le_refl _, by unfold maxLen; omega, rfl, rfl⟩⟩, fun i hi => ?_, fun i hi => rfl, fun i hi h0 => ?_⟩
      all_goals
        obtain rfl : i = 0 := by rw [sharesP_len] at hi; omega
      · exact .inl ⟨rfl, .inl rfl⟩
      · exact absurd rfl h0
    have HP0 := Lib.hid hP0
    have HO0 := Lib.hid ((Only.refl [] w).alloc (.cells #[.int .i64 1, .slice none 0 0] 24))
    clear hP0
    go_enter Try.func3, Try.ntmps3
    go_wp2_with fail
    go_loopw [3, 4] (fun vp vi wr => ∃ i : Nat, i ≤ n ∧ vi = .int .i64 i ∧ OwnPlan wr w.heap.size (fun x => w.heap.size ≤ x) vp (sharesP i) ∧ Only [] w wr) (fun _ vi _ => n - (intOf vi).toNat)
    case atStart => exact ⟨0, Nat.zero_le _, rfl, HP0.out, HO0.out⟩
    case round =>
      obtain ⟨wo, rfl⟩ : ∃ wo : World, wo = wr := ⟨_, rfl⟩
      obtain ⟨i, hi, rfl, hO, ho⟩ := hrel
      by_cases hin : i < n
      · have hfar := hO.far
        obtain ⟨a, cap, rfl, _, _⟩ := hO.form
        have hlen := sharesP_len i
        have hal : Only [] wo (wo.alloc (.cells #[.int .i64 0] 3)) := (Only.refl [] wo).alloc _
        have hru : Reads (wo.alloc (.cells #[.int .i64 0] 3)) (.slice (some ⟨wo.heap.size, 0, none⟩) 1 1) [0] := lit_row [0] (heap_alloc_new _ _) (by simp)
        have hrf : ([0] : List Int) ≠ [] → ∀ x ∈ own (.slice (some ⟨wo.heap.size, 0, none⟩) 1 1), w.heap.size ≤ x ∧ x ∉ own (.slice a (sharesP i).length cap) := by
          intro _ x hx
          obtain rfl : x = wo.heap.size := by simpa [own, Value.ownBlock] using hx
          exact ⟨by have := ho.size; omega, fun h => by have := (hfar _ h).2; omega⟩
        have hO1 := hO.same hal
        have ho1 := ho.trans hal (by simp)
        have hsz := ho1.size
        obtain ⟨N, k1, k2, k3, k4⟩ := hO1
        have hone : Hid (RowAt (World.alloc (wo.alloc (.cells #[.int .i64 0] 3)) (.cells #[.int .i64 1, .slice (some ⟨wo.heap.size, 0, none⟩) 1 1] 24)) (.slice (some ⟨wo.heap.size + 1, 0, none⟩) 1 1) 1 2 [.int .i64 1, .slice (some ⟨wo.heap.size, 0, none⟩) 1 1]) :=
          RowAt.one (cs := #[.int .i64 1, .slice (some ⟨wo.heap.size, 0, none⟩) 1 1]) (heap_alloc_at _ _ _ (by simp)) rfl (by intro y hy; simp at hy; rcases hy with rfl | rfl <;> rfl)
        have K1 := Lib.hid k1
        have KP := Lib.hid (fun v' w' => OwnPlan.push (W := wo.alloc (.cells #[.int .i64 0] 3)) (w' := w') (base := w.heap.size) (F := fun x => w.heap.size ≤ x) (v' := v') (1, [0]) (.slice (some ⟨wo.heap.size, 0, none⟩) 1 1) k2 k3 k4 hru hrf)
        have HO := Lib.hid ho1
        clear k1 k2 k3 k4 hO hal ho ho1 hru hrf
        go_wp2_with (at_builtin; refine wpList_append_rows sliceOf_plan rfl (.tmp 26) (.tmp 29) rfl (wo.alloc (.cells #[.int .i64 0] 3)) w.heap.size _ _ _ _ 1 _ K1.out hone.out (by omega) hsz rfl rfl ((Only.refl [] _).alloc _) ?_; intro v3 w3 hI3 hO3 hK3)
        have hP := KP.out v3 w3 hI3 hO3 hK3
        rw [sharesP_push] at hP
        have ho3 : Hid (Only [] w w3) := HO.out.trans hO3 (fun x hx hl => by have := (hfar x hx).1; omega)
        clear hI3 hO3 hK3
        go_roundw
        case rel => exact ⟨_ + 1, by omega, by go_num, hP, ho3.out⟩
        case measure => (simp [intOf]; try omega)
      · obtain rfl : i = n := by omega
        have hnw := gang_New _ (sharesP i) 2 16 wo hO.plan HOK.out (by omega) (by omega) (by omega) (by omega)
        rw [show ((2 : Nat) : Int) = 2 from rfl, show ((16 : Nat) : Int) = 16 from rfl] at hnw
        have HO := Lib.hid ho
        obtain ⟨a, cap, rfl, _, _⟩ := hO.form
        clear hO ho
        go_wp2_with fail
        refine hnw.mono ?_
        rintro e w1 ⟨q, F, rfl, hG, hF, ho1⟩
        have hi0 := gNew_inv (sharesP i) 16 2
        have hs1 := gang_step hG hi0 (show 0 < 2 by omega) 0
        have hi1 := gStep_inv HOK.out (by omega) hi0 (h := 0) 0 (show 0 < 2 by omega)
        have hz1 : gStep (sharesP i) 16 2 (gNew (sharesP i)) 0 0 = sh1 i := rfl
        rw [hz1] at hs1 hi1
        rw [show ((0 : Nat) : Int) = 0 from rfl] at hs1
        clear hz1
        have HF := Lib.hid hF
        have HO1 := Lib.hid (HO.out.trans ho1 (by simp))
        have HI1 := Lib.hid hi1
        clear hnw hG hF ho1 hi0 hi1
        go_wp2_with fail
        refine hs1.mono ?_
        rintro e w2 ⟨v2, F2, rfl, hD2, hG2⟩
        obtain ⟨a2, c2, rfl, _⟩ := Row.form hD2
        have hs2 := gang_step hG2.gang HI1.out (show 0 < 2 by omega) 0
        have hi2 := gStep_inv HOK.out (by omega) HI1.out (h := 0) 0 (show 0 < 2 by omega)
        have hz1 : gStep (sharesP i) 16 2 (sh1 i).1 0 0 = sh2 i := rfl
        rw [hz1] at hs2 hi2
        rw [show ((0 : Nat) : Int) = 0 from rfl] at hs2
        clear hz1
        have HG2 := Lib.hid hG2
        have HI2 := Lib.hid hi2
        clear hs1 hD2 hG2 hi2
        go_wp2_with fail
        refine hs2.mono ?_
        rintro e w3 ⟨v3, F3, rfl, hD3, hG3⟩
        obtain ⟨a3, c3, rfl, _⟩ := Row.form hD3
        have hs3 := gang_step hG3.gang HI2.out (show 1 < 2 by omega) 0
        have hi3 := gStep_inv HOK.out (by omega) HI2.out (h := 1) 0 (show 1 < 2 by omega)
        have hz1 : gStep (sharesP i) 16 2 (sh2 i).1 1 0 = sh3 i := rfl
        rw [hz1] at hs3 hi3
        rw [show ((0 : Nat) : Int) = 0 from rfl, show ((1 : Nat) : Int) = 1 from rfl] at hs3
        clear hz1
        have HG3 := Lib.hid (HG2.out.trans hG3)
        have HI3 := Lib.hid hi3
        clear hs2 hD3 hG3 hi3
        go_wp2_with fail
        refine hs3.mono ?_
        rintro e w4 ⟨v4, F4, rfl, hD4, hG4⟩
        rw [H3.out.1] at hD4
        obtain ⟨a4, c4, rfl, hc4⟩ := hD4.at.opt
        obtain ⟨B, off, rfl, z0, z1, z2, z3⟩ := hc4 0 (by simp)
        have y0 : w4.cell? ⟨B, off, none⟩ = some (.int .i64 2) := by simpa [ddAt] using z0
        have y2 : w4.cell? ⟨B, off + 2, none⟩ = some (.int .i64 1) := by simpa [ddAt] using z2
        have y3 : w4.cell? ⟨B, off + 3, none⟩ = some (.int .i64 0) := by simpa [ddAt] using z3
        have hh := gang_Held hG4.gang HI3.out
        have HG4 := Lib.hid (HG3.out.trans hG4)
        obtain ⟨R, hR⟩ : ∃ R, natL (readyL (sharesP i) (sh3 i).1.done) = R := ⟨_, rfl⟩
        rw [hR] at hh
        have hRl : R.length = i := by rw [← hR]; exact H3.out.2
        have HRL := Lib.hid hRl
        have hfin := Lib.hid (by
          obtain ⟨T, hT, hoT⟩ := HG4.out.only
          exact HO1.out.trans hoT (fun x hx hl => by have := HF.out x (hT x hx); have := HO.out.size; omega) : Only [] w w4)
        clear hs3 hD4 hG4 hc4 hR hRl z0 z1 z2 z3
        go_wp2_with fail
        refine hh.mono ?_
        rintro e w5 ⟨v5, rfl, hI5, ho5⟩
        obtain ⟨a5, c5, rfl, _⟩ := hI5.opt
        rw [HRL.out]
        have hfin2 := Lib.hid (hfin.out.trans ho5 (by simp))
        clear hh hI5 ho5
        go_wp2
        go_ret
        exact ⟨by simp, hfin2.out.below (Nat.le_refl _) (by simp)⟩
  · have hor : a0 < 2 ∨ (2 ≤ a0 ∧ 15 < a0) := by omega
    clear hn
    rcases hor with h | ⟨h, h2⟩
    all_goals
      go_enter Try.func3, Try.ntmps3
      go_wp2
      go_ret
      exact ⟨rfl, (Only.refl [] w).below (Nat.le_refl _) (by simp)⟩

end Go.Proofs.Ytocpmncedlenbaa.gangShares
