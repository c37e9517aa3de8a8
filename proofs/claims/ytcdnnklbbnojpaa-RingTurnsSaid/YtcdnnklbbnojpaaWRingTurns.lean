/-
  The statement RingTurns: however often it goes around, a ring tells what is in it. No condition.
-/
import Derived.Test.YtcdnnklbbnojpaaFrame
import Derived.Test.YtcdnnklbbnojpaaRing2
import Derived.Test.YtcdnnklbbnojpaaSeg
namespace Go.Proofs.Ytcdnnklbbnojpaa.ringTurns
open Go.ChangeShapes Go.WideShapes Go.ChangeAt Go.RowKit
open Go.ChangeMaps (open_string shut_string)
set_option linter.unusedVariables false

/-- How many there are in front of round k. -/
def many (room k : Nat) : Nat := min k (room - 1)

set_option maxHeartbeats 400000 in
theorem walk_yes (room n : Nat) (w : World) (h1 : 1 ≤ room) (h2 : room ≤ 16) (hn : n ≤ 100) :
    Calls Try.prog 4 #[.int .i64 room, .int .i64 n] w fun e w' => e = .returned (.bool true) ∧ Below w.heap.size w w' := by
  go_enter Try.func4, Try.ntmps4
  go_wp2_with fail
  refine (Ring.new room _ (by omega) (by omega)).mono ?_
  rintro e w1 ⟨rfl, hr, ho⟩
  simp only [Int.toNat_natCast] at hr
  have hB := hr.lt
  go_wp2_with fail
  go_loopw [7] (fun i wr => ∃ k : Nat, k ≤ n ∧ i = .int .i64 k ∧ RingIs wr w.heap.size room (seg ((k : Int) - many room k) (many room k)) ∧ Only [] w wr)
    (fun i _ => n - (intOf i).toNat)
  case atStart => exact ⟨0, Nat.zero_le _, rfl, by simpa [many, seg] using hr, ho⟩
  case round =>
    obtain ⟨k, hk, rfl, hring, hon⟩ := hrel
    by_cases hlt : k < n
    · have hsz := hon.size
      by_cases hm : k < room - 1
      · have e1 : many room k = k := by unfold many; omega
        have e2 : many room (k + 1) = k + 1 := by unfold many; omega
        rw [e1] at hring
        have hfin : ∀ wx, RingIs wx w.heap.size room (seg ((k : Int) - k) k ++ [(k : Int)]) → RingIs wx w.heap.size room (seg (((k + 1 : Nat) : Int) - many room (k + 1)) (many room (k + 1))) := by
          intro wx hx
          rw [e2, show (((k + 1 : Nat) : Int) - ((k + 1 : Nat) : Int)) = (k : Int) - k by omega, ← seg_push, show ((k : Int) - k + k) = k by omega]
          exact hx
        clear e1 e2
        have HF := Lib.hid hfin
        clear hfin
        go_wp2_with fail
        refine (Ring.push _ _ _ _ _ hring (by rw [seg_length]; omega)).mono ?_
        rintro e w2 ⟨rfl, hr2, ho2⟩
        have ho3 := hon.fresh ho2 (Nat.le_refl _)
        clear hring hon ho2
        go_wp2
        go_roundw
        case rel => exact ⟨k + 1, by omega, by go_num, HF.out _ hr2, ho3⟩
        case measure => simp [intOf]; omega
      · have e1 : many room k = room - 1 := by unfold many; omega
        have e2 : many room (k + 1) = room - 1 := by unfold many; omega
        rw [e1] at hring
        have hpre : seg ((k : Int) - (room - 1 : Nat)) (room - 1) ++ [(k : Int)] = ((k : Int) - room + 1) :: seg (((k + 1 : Nat) : Int) - many room (k + 1)) (many room (k + 1)) := by
          have h3 := seg_push ((k : Int) - (room - 1 : Nat)) (room - 1)
          have h4 := seg_cons ((k : Int) - (room - 1 : Nat)) (room - 1)
          rw [show ((k : Int) - (room - 1 : Nat) + (room - 1 : Nat)) = k by omega] at h3
          rw [h3, h4, e2]
          congr 1
          · omega
          · congr 1; omega
        clear e1 e2
        have HP := Lib.hid hpre
        clear hpre
        go_wp2_with fail
        refine (Ring.push _ _ _ _ _ hring (by rw [seg_length]; omega)).mono ?_
        rintro e w2 ⟨rfl, hr2, ho2⟩
        have ho3 := hon.fresh ho2 (Nat.le_refl _)
        rw [HP.out] at hr2
        clear hring hon ho2
        go_wp2_with fail
        refine (Ring.steal _ _ _ _ _ hr2).mono ?_
        rintro e w4 ⟨rfl, hr4, ho4⟩
        have ho5 := ho3.fresh ho4 (Nat.le_refl _)
        clear hr2 ho3 ho4
        go_wp2
        go_roundw
        case rel => exact ⟨k + 1, by omega, by go_num, hr4, ho5⟩
        case measure => simp [intOf]; omega
    · obtain rfl : k = n := by omega
      by_cases hm : k ≤ room - 1
      · have e1 : many room k = k := by unfold many; omega
        rw [e1] at hring
        have hL := Ring.len _ _ _ _ hring
        rw [seg_length] at hL
        go_wp2_with fail
        refine hL.mono ?_
        rintro e w2 ⟨rfl, rfl⟩
        clear hL
        go_wp2_with fail
        refine (Ring.all _ _ _ _ hring).mono ?_
        rintro e w2 ⟨v, rfl, hI, ho2⟩
        have ho3 := hon.trans ho2 (by simp)
        have hl := seg_length ((k : Int) - k) k
        rcases hI.form with ⟨rfl, e0⟩ | ⟨g, cap, rfl, _, _, _, _⟩
        · rw [e0] at hl
          obtain rfl : k = 0 := by simpa using hl.symm
          clear hI e0 hl e1
          go_wp2
          go_ret
          exact ⟨rfl, ho3.below (Nat.le_refl _) (by simp)⟩
        · rw [hl]
          clear hI hl e1
          go_wp2
          go_ret
          exact ⟨rfl, ho3.below (Nat.le_refl _) (by simp)⟩
      · have e1 : many room k = room - 1 := by unfold many; omega
        rw [e1] at hring
        have hL := Ring.len _ _ _ _ hring
        rw [seg_length, show (((room - 1 : Nat) : Int)) = (room : Int) - 1 by omega] at hL
        go_wp2_with fail
        refine hL.mono ?_
        rintro e w2 ⟨rfl, rfl⟩
        clear hL
        go_wp2_with fail
        refine (Ring.all _ _ _ _ hring).mono ?_
        rintro e w2 ⟨v, rfl, hI, ho2⟩
        have ho3 := hon.trans ho2 (by simp)
        have hl := seg_length ((k : Int) - (room - 1 : Nat)) (room - 1)
        rcases hI.form with ⟨rfl, e0⟩ | ⟨g, cap, rfl, _, _, _, _⟩
        · rw [e0] at hl
          obtain rfl : room = 1 := by simp at hl; omega
          clear hI e0 hl e1
          go_wp2
          go_ret
          exact ⟨rfl, ho3.below (Nat.le_refl _) (by simp)⟩
        · rw [hl]
          have ee : (((room - 1 : Nat) : Int) == (room : Int) - 1) = true := by simp; omega
          clear hI hl e1
          go_wp2
          go_ret
          exact ⟨rfl, ho3.below (Nat.le_refl _) (by simp)⟩

theorem walk (a0 : Int) (a1 : Int) (w : World) (w0 : (Lit.int .i64 a0).wf = true) (w1 : (Lit.int .i64 a1).wf = true) :
    Calls Try.prog 4 #[.int .i64 a0, .int .i64 a1] w fun e w' => e = .returned (.bool true) ∧ Below w.heap.size w w' := by
  have bd0 := bounds_i64 w0
  have bd1 := bounds_i64 w1
  by_cases hr : 1 ≤ a0 ∧ a0 ≤ 16
  · obtain ⟨room, rfl⟩ := Int.eq_ofNat_of_zero_le (show 0 ≤ a0 by omega)
    by_cases hn : 0 ≤ a1 ∧ a1 ≤ 100
    · obtain ⟨n, rfl⟩ := Int.eq_ofNat_of_zero_le (show 0 ≤ a1 by omega)
      exact walk_yes room n w (by omega) (by omega) (by omega)
    · clear w0 w1
      go_enter Try.func4, Try.ntmps4
      go_wp2_with fail
      refine (Ring.new _ _ (by omega) (by omega)).mono ?_
      rintro e w1 ⟨rfl, _, ho⟩
      have hn' : a1 < 0 ∨ 100 < a1 := by omega
      rcases hn' with hn' | hn'
      · go_wp2
        go_ret
        exact ⟨rfl, ho.below (Nat.le_refl _) (by simp)⟩
      · have hn2 : ¬ a1 < 0 := by omega
        go_wp2
        go_ret
        exact ⟨rfl, ho.below (Nat.le_refl _) (by simp)⟩
  · clear w0 w1
    have hr' : a0 < 1 ∨ 16 < a0 := by omega
    go_enter Try.func4, Try.ntmps4
    go_wp2_with fail
    refine (ring_new_no _ _ hr').mono ?_
    rintro e w1 ⟨rfl, m, rfl⟩
    rcases hr' with hr' | hr'
    · go_wp2
      go_ret
      exact ⟨rfl, ((Only.refl [] w).drewN _).below (Nat.le_refl _) (by simp)⟩
    · have hr2 : ¬ a0 < 1 := by omega
      go_wp2
      go_ret
      exact ⟨rfl, ((Only.refl [] w).drewN _).below (Nat.le_refl _) (by simp)⟩

end Go.Proofs.Ytcdnnklbbnojpaa.ringTurns
