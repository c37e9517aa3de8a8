/-
  The statement ParkAll: hands that all fell asleep wake all, as they fell asleep. No condition.
-/
import Derived.Test.YtcdnnklbbnojpaaFrame
import Derived.Test.YtcdnnklbbnojpaaPark
import Derived.Test.YtcdnnklbbnojpaaSeg
namespace Go.Proofs.Ytcdnnklbbnojpaa.parkAll
open Go.ChangeShapes Go.WideShapes Go.ChangeAt Go.RowKit
open Go.ChangeMaps (open_string shut_string)
set_option linter.unusedVariables false

/-- The hands from the last one down, m of them. -/
def down (n : Int) (m : Nat) : List Int := (List.range m).map fun (j : Nat) => n - 1 - (j : Int)
theorem down_length (n : Int) (m : Nat) : (down n m).length = m := by simp [down]
theorem down_push (n : Int) (m : Nat) : down n m ++ [n - 1 - m] = down n (m + 1) := by simp [down, List.range_succ]
theorem down_not (n : Int) (m : Nat) : n - 1 - m ∉ down n m := by
  unfold down
  intro h
  obtain ⟨j, hj, e⟩ := List.mem_map.1 h
  have : j < m := by simpa using hj
  omega
theorem nth_down (n : Int) (m i : Nat) (h : i < m) : nth (down n m) i = n - 1 - i := by simp [nth, down, h]

set_option maxHeartbeats 400000 in
theorem walk_yes (hands : Nat) (w : World) (h1 : 1 ≤ hands) (h2 : hands ≤ 6) :
    Calls Try.prog 6 #[.int .i64 hands] w fun e w' => e = .returned (.bool true) ∧ Below w.heap.size w w' := by
  go_enter Try.func6, Try.ntmps6
  go_wp2_with fail
  refine (Park.new _ _ (by omega) (by omega)).mono ?_
  rintro e w1 ⟨rfl, hp, ho⟩
  simp only [Int.toNat_natCast] at hp
  go_wp2_with fail
  go_loopw [5] (fun i wr => ∃ m : Nat, m ≤ hands ∧ i = .int .i64 ((hands : Int) - 1 - m) ∧ Only [] w wr ∧ ∃ fp, ParkIs wr fp w.heap.size hands (down hands m) ∧ ∀ x ∈ fp, w.heap.size ≤ x)
    (fun i _ => (intOf i + 1).toNat)
  case atStart => exact ⟨0, Nat.zero_le _, by simp, ho, _, hp, by simp⟩
  case round =>
    obtain ⟨m, hm, rfl, ho, fp, hp, hfp⟩ := hrel
    by_cases hlt : m < hands
    · have HN := Lib.hid (down_not hands m)
      have HP := Lib.hid (down_push hands m)
      go_wp2_with fail
      refine (Park.sleep _ _ _ _ _ _ hp (by omega) (by omega) HN.out (by rw [down_length]; omega)).mono ?_
      rintro e w2 ⟨rfl, fp2, hp2, ho2, hk2⟩
      rw [HP.out] at hp2
      have ho3 := ho.trans ho2 (fun x hx hl => absurd (hfp x hx) (by omega))
      have hfp2 : ∀ x ∈ fp2, w.heap.size ≤ x := fun x hx => by
        rcases hk2 x hx with h | h
        · exact hfp x h
        · have := ho.size; omega
      clear hp ho ho2 hk2 hfp
      go_wp2
      go_roundw
      case rel => exact ⟨m + 1, by omega, by go_num, ho3, _, hp2, hfp2⟩
      case measure => simp [intOf]; omega
    · obtain rfl : m = hands := by omega
      have ht : (down m m).take (100 : Int).toNat = down m m := List.take_of_length_le (by rw [down_length]; simp; omega)
      have hd : (down m m).drop (100 : Int).toNat = [] := List.drop_of_length_le (by rw [down_length]; simp; omega)
      go_wp2_with fail
      refine (Park.wake _ _ _ _ _ _ hp (by omega) (by omega)).mono ?_
      rintro e w2 ⟨v, rfl, hv, fp2, hp2, ho2, hk2, _⟩
      rw [ht] at hv
      rw [hd] at hp2
      have ho3 := ho.trans ho2 (fun x hx hl => absurd (show x = w.heap.size by simpa using hx) (by omega))
      have hlen := down_length m m
      rcases hv.form with ⟨_, e0⟩ | ⟨g, cap, rfl, _⟩
      · rw [e0] at hlen
        simp at hlen
        omega
      · rw [hlen]
        have hval : ∀ i, i < m → w2.cell? ⟨g, i, none⟩ = some (.int .i64 ((m : Int) - 1 - i)) := fun i hi => by
          have := hv.cell i (by rw [hlen]; exact hi)
          rw [nth_down _ _ _ hi] at this
          exact this
        clear hlen hv hp ho ho2 hk2 ht hd hfp
        go_wp2_with fail
        refine (Park.many _ _ _ _ _ hp2).mono ?_
        rintro e w3 ⟨rfl, rfl⟩
        go_wp2_with fail
        go_loop [7] (fun i => ∃ k : Nat, k ≤ m ∧ i = .int .i64 k) (fun i => m - (intOf i).toNat)
        case atStart => exact ⟨0, Nat.zero_le _, rfl⟩
        case round =>
          obtain ⟨k, hk, rfl⟩ := hrel
          by_cases hlt : k < m
          · have hc := hval k hlt
            clear hval
            go_wp2
            go_round
            case rel => exact ⟨k + 1, by omega, by go_num⟩
            case measure => simp [intOf]; omega
          · obtain rfl : k = m := by omega
            clear hval
            go_wp2
            go_ret
            exact ⟨rfl, ho3.below (Nat.le_refl _) (by simp)⟩

theorem walk (a0 : Int) (w : World) (w0 : (Lit.int .i64 a0).wf = true) :
    Calls Try.prog 6 #[.int .i64 a0] w fun e w' => e = .returned (.bool true) ∧ Below w.heap.size w w' := by
  have bd0 := bounds_i64 w0
  by_cases hr : 1 ≤ a0 ∧ a0 ≤ 6
  · obtain ⟨n, rfl⟩ := Int.eq_ofNat_of_zero_le (show 0 ≤ a0 by omega)
    exact walk_yes n w (by omega) (by omega)
  · clear w0
    have hr' : a0 < 1 ∨ 6 < a0 := by omega
    go_enter Try.func6, Try.ntmps6
    go_wp2_with fail
    refine (park_new_no _ _ hr').mono ?_
    rintro e w1 ⟨rfl, rfl⟩
    rcases hr' with hr' | hr'
    · go_wp2
      go_ret
      exact ⟨rfl, Below.refl _ _⟩
    · have hr2 : ¬ a0 < 1 := by omega
      go_wp2
      go_ret
      exact ⟨rfl, Below.refl _ _⟩

end Go.Proofs.Ytcdnnklbbnojpaa.parkAll
