/-
  The statement HandOut: when a hand is full, and one comes more, the older half of its ring goes out. No condition.
-/
import Derived.Test.YtcdnnklbbnojpaaFrame
import Derived.Test.YtcdnnklbbnojpaaHand
import Derived.Test.YtcdnnklbbnojpaaSeg
namespace Go.Proofs.Ytcdnnklbbnojpaa.handOut
open Go.ChangeShapes Go.WideShapes Go.ChangeAt Go.RowKit
open Go.ChangeMaps (open_string shut_string)
set_option linter.unusedVariables false

theorem out_nil (room k : Nat) (hk : k ≤ room) : handOut ((k : Int) - 1) room (seg 0 (k - 1)) = [] := by
  unfold handOut
  by_cases h : (k : Int) - 1 < 0
  · rw [if_pos h]
  · rw [if_neg h, if_pos (by rw [seg_length]; omega)]
theorem rest_seg (room k : Nat) (hk : k ≤ room) : handRest ((k : Int) - 1) room (seg 0 (k - 1)) = seg 0 k := by
  unfold handRest
  by_cases h : (k : Int) - 1 < 0
  · rw [if_pos h]
    obtain rfl : k = 0 := by omega
    rfl
  · rw [if_neg h, if_pos (by rw [seg_length]; omega)]
    obtain ⟨m, rfl⟩ : ∃ m, k = m + 1 := ⟨k - 1, by omega⟩
    rw [← seg_push]
    simp
theorem out_half (room : Nat) : handOut (room : Int) room (seg 0 room) = seg 0 ((room + 1) / 2) := by
  unfold handOut
  rw [if_neg (by omega), if_neg (by rw [seg_length]; omega), seg_take _ _ _ (by unfold halfOf; rw [seg_length]; omega)]
  unfold halfOf
  rw [seg_length]

set_option maxHeartbeats 400000 in
theorem walk_yes (room : Nat) (w : World) (h1 : 1 ≤ room) (h2 : room ≤ 16) :
    Calls Try.prog 9 #[.int .i64 room] w fun e w' => e = .returned (.bool true) ∧ Below w.heap.size w w' := by
  go_enter Try.func9, Try.ntmps9
  go_wp2_with fail
  refine (Hand.new _ _ (by omega) (by omega)).mono ?_
  rintro e w1 ⟨b, rb, rfl, hh, ho, hb, hrb⟩
  simp only [Int.toNat_natCast] at hh
  go_wp2_with fail
  go_loopw [5] (fun i wr => ∃ k : Nat, k ≤ room + 1 ∧ i = .int .i64 k ∧ HandIs wr b rb ((k : Int) - 1) room (seg 0 (k - 1)) ∧ Only [] w wr)
    (fun i _ => room + 1 - (intOf i).toNat)
  case atStart => exact ⟨0, Nat.zero_le _, rfl, by simpa [seg] using hh, ho⟩
  case round =>
    obtain ⟨k, hk, rfl, hh, ho⟩ := hrel
    by_cases hlt : k ≤ room
    · have HO := Lib.hid (out_nil room k hlt)
      have HR := Lib.hid (rest_seg room k hlt)
      go_wp2_with fail
      refine (Hand.put _ _ _ _ _ _ _ hh).mono ?_
      rintro e w2 ⟨v, rfl, hv, hh2, ho2⟩
      rw [HO.out] at hv
      rw [HR.out] at hh2
      have ho3 := ho.trans ho2 (by simp; omega)
      rcases hv.form with ⟨rfl, _⟩ | ⟨g, cap, rfl, _⟩
      · clear hv hh ho ho2
        go_wp2
        go_roundw
        case rel => exact ⟨k + 1, by omega, by go_num, by simpa using hh2, ho3⟩
        case measure => simp [intOf]; omega
      · clear hv hh ho ho2
        go_wp2
        go_roundw
        case rel => exact ⟨k + 1, by omega, by go_num, by simpa using hh2, ho3⟩
        case measure => simp [intOf]; omega
    · obtain rfl : k = room + 1 := by omega
      have hh' : HandIs wr b rb (room : Int) room (seg 0 room) := by simpa using hh
      clear hh
      go_wp2_with fail
      refine (Hand.put _ _ _ _ _ _ _ hh').mono ?_
      rintro e w2 ⟨v, rfl, hv, hh2, ho2⟩
      rw [out_half] at hv
      have ho3 := ho.trans ho2 (by simp; omega)
      have hlen := seg_length 0 ((room + 1) / 2)
      rcases hv.form with ⟨_, e0⟩ | ⟨g, cap, rfl, _⟩
      · rw [e0] at hlen
        simp at hlen
        omega
      · rw [hlen]
        have hb1 : 2 * ((room + 1) / 2) ≤ room + 1 := by omega
        have hb2 : room + 1 < 2 * ((room + 1) / 2) + 2 := by omega
        have hval : ∀ i, i < (room + 1) / 2 → w2.cell? ⟨g, i, none⟩ = some (.int .i64 i) := fun i hi => by
          have := hv.cell i (by rw [seg_length]; exact hi)
          rw [nth_seg _ _ _ hi] at this
          simpa using this
        generalize (room + 1) / 2 = m at *
        rw [hlen] at hv
        clear hlen hv hh' ho ho2
        go_wp2_with fail
        go_loop [7] (fun i => ∃ k : Nat, k ≤ m ∧ i = .int .i64 k) (fun i => m - (intOf i).toNat)
        case atStart => exact ⟨0, Nat.zero_le _, rfl⟩
        case round =>
          obtain ⟨k, hk, rfl⟩ := hrel
          by_cases hlt : k < m
          · have hc := hval k hlt
            clear hval
            go_wp2
            go_round
            case rel => exact ⟨k + 1, by omega, by go_num⟩
            case measure => simp [intOf]; omega
          · obtain rfl : k = m := by omega
            clear hval
            go_wp2_with fail
            refine (Hand.near _ _ _ _ _ _ hh2).mono ?_
            rintro e w3 ⟨rfl, rfl⟩
            go_wp2
            go_ret
            exact ⟨rfl, ho3.below (Nat.le_refl _) (by simp)⟩

theorem walk (a0 : Int) (w : World) (w0 : (Lit.int .i64 a0).wf = true) :
    Calls Try.prog 9 #[.int .i64 a0] w fun e w' => e = .returned (.bool true) ∧ Below w.heap.size w w' := by
  have bd0 := bounds_i64 w0
  by_cases hr : 1 ≤ a0 ∧ a0 ≤ 16
  · obtain ⟨room, rfl⟩ := Int.eq_ofNat_of_zero_le (show 0 ≤ a0 by omega)
    exact walk_yes room w (by omega) (by omega)
  · clear w0
    have hr' : a0 < 1 ∨ 16 < a0 := by omega
    go_enter Try.func9, Try.ntmps9
    go_wp2_with fail
    refine (hand_new_no _ _ hr').mono ?_
    rintro e w1 ⟨rfl, ho⟩
    rcases hr' with hr' | hr'
    · go_wp2
      go_ret
      exact ⟨rfl, ho.below (Nat.le_refl _) (by simp)⟩
    · have hr2 : ¬ a0 < 1 := by omega
      go_wp2
      go_ret
      exact ⟨rfl, ho.below (Nat.le_refl _) (by simp)⟩

end Go.Proofs.Ytcdnnklbbnojpaa.handOut
