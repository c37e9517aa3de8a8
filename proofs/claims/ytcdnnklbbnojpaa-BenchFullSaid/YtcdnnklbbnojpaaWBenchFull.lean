/-
  The statement BenchFull: bits that fill each step waste nothing. No condition.
-/
import Derived.Test.YtcdnnklbbnojpaaFrame
import Derived.Test.YtcdnnklbbnojpaaBench
namespace Go.Proofs.Ytcdnnklbbnojpaa.benchFull
open Go.ChangeShapes Go.WideShapes Go.ChangeAt Go.RowKit
open Go.ChangeMaps (open_string shut_string)
set_option linter.unusedVariables false

def rowB (i h : Nat) : List Bt := (List.range h).map fun (j : Nat) => ⟨(i : Int), (j : Int), 0⟩
def fullB (hands : Nat) : Nat → List Bt
  | 0 => []
  | i + 1 => fullB hands i ++ rowB i hands
theorem rowB_push (i h : Nat) : rowB i h ++ [⟨(i : Int), (h : Int), 0⟩] = rowB i (h + 1) := by simp [rowB, List.range_succ]
theorem rowB_len (i h : Nat) : (rowB i h).length = h := by simp [rowB]
theorem fullB_len (hands i : Nat) : (fullB hands i).length = i * hands := by
  induction i with
  | zero => simp [fullB]
  | succ i ih => rw [fullB, List.length_append, ih, rowB_len, Nat.add_mul]; omega
theorem mem_rowB {i h : Nat} {b : Bt} (hb : b ∈ rowB i h) : b.step = i ∧ 0 ≤ b.hand ∧ b.hand < h ∧ b.task = 0 := by
  obtain ⟨j, hj, rfl⟩ := List.mem_map.1 hb
  have := List.mem_range.1 hj
  exact ⟨rfl, by simp, by simp; omega, rfl⟩
theorem mem_fullB {hands i : Nat} {b : Bt} (hb : b ∈ fullB hands i) : 0 ≤ b.step ∧ b.step < i ∧ 0 ≤ b.hand ∧ b.hand < hands ∧ b.task = 0 := by
  induction i with
  | zero => simp [fullB] at hb
  | succ i ih =>
    rw [fullB] at hb
    rcases List.mem_append.1 hb with h | h
    · have := ih h; omega
    · obtain ⟨h1, h2, h3, h4⟩ := mem_rowB h
      omega
theorem full_steps (hands i : Nat) (h : 1 ≤ hands) : stepsOf (fullB hands i) = i := by
  induction i with
  | zero => rfl
  | succ i ih =>
    rw [fullB, stepsOf_append, ih]
    have h1 : stepsOf (rowB i hands) ≤ i + 1 := stepsOf_le (fun b hb => by have := (mem_rowB hb).1; omega)
    have h2 := stepsOf_lt (bs := rowB i hands) (b := ⟨(i : Int), 0, 0⟩) (List.mem_map.2 ⟨0, List.mem_range.2 (by omega), rfl⟩)
    simp at h2
    omega
theorem row_hand (i h : Nat) : ofHand (rowB i (h + 1)) 0 = 1 := by
  induction h with
  | zero => simp [ofHand, rowB]
  | succ h ih =>
    rw [← rowB_push, ofHand, List.countP_append]
    unfold ofHand at ih
    rw [ih]
    simp
    omega
theorem full_hand (hands i : Nat) (h : 1 ≤ hands) : ofHand (fullB hands i) 0 = i := by
  induction i with
  | zero => rfl
  | succ i ih =>
    obtain ⟨k, rfl⟩ : ∃ k, hands = k + 1 := ⟨hands - 1, by omega⟩
    have := row_hand i k
    unfold ofHand at ih this ⊢
    rw [fullB, List.countP_append, ih, this]

set_option maxHeartbeats 4000000 in
set_option maxRecDepth 100000 in
theorem walk (a0 : Int) (a1 : Int) (w : World) (w0 : (Lit.int .i64 a0).wf = true) (w1 : (Lit.int .i64 a1).wf = true) :
    Calls Try.prog 5 #[.int .i64 a0, .int .i64 a1] w fun e w' => e = .returned (.bool true) ∧ Below w.heap.size w w' := by
  have bd0 := bounds_i64 w0
  have bd1 := bounds_i64 w1
  by_cases hin : 0 ≤ a0 ∧ a0 ≤ 60 ∧ 1 ≤ a1 ∧ a1 ≤ 6
  · obtain ⟨g1, g2, g3, g4⟩ := hin
    obtain ⟨n, rfl⟩ := Int.eq_ofNat_of_zero_le g1
    obtain ⟨hands, rfl⟩ := Int.eq_ofNat_of_zero_le (show 0 ≤ a1 by omega)
    have hn60 : n ≤ 60 := by omega
    have hh6 : hands ≤ 6 := by omega
    have hh1 : 1 ≤ hands := by omega
    clear w0 w1
    go_enter Try.func5, Try.ntmps5
    go_wp2_with fail
    go_loopw [5, 6] (fun vo vi wr => ∃ i : Nat, i ≤ n ∧ vi = .int .i64 i ∧ OwnBits wr w.heap.size vo (fullB hands i) ∧ Only [] w wr) (fun _ vi _ => n - (intOf vi).toNat)
    case atStart => exact ⟨0, Nat.zero_le _, rfl, World.ownsRow_nil _ _ _ _, Only.refl _ _⟩
    case round =>
      obtain ⟨wo, rfl⟩ : ∃ wo : World, wo = wr := ⟨_, rfl⟩
      obtain ⟨i, hi, rfl, hB, ho⟩ := hrel
      by_cases hlt : i < n
      · go_wp2_with fail
        go_loopw [5, 7] (fun vo vh wr => ∃ h : Nat, h ≤ hands ∧ vh = .int .i64 h ∧ OwnBits wr w.heap.size vo (fullB hands i ++ rowB i h) ∧ Only [] w wr) (fun _ vh _ => hands - (intOf vh).toNat)
        case atStart => exact ⟨0, Nat.zero_le _, rfl, by simpa [rowB] using hB, ho⟩
        case round =>
          obtain ⟨h, hh, rfl, hB2, ho2⟩ := hrel
          clear hB ho
          by_cases hhl : h < hands
          · have hsz := ho2.size
            have hlen : Hid ((fullB hands i ++ rowB i h).length + 1 ≤ 1000) := by
              show _ ≤ _
              rw [List.length_append, fullB_len, rowB_len]
              have : i * hands ≤ 60 * 6 := Nat.mul_le_mul (by omega) hh6
              omega
            have hp := Lib.hid (flatB_push (fullB hands i ++ rowB i h) ⟨(i : Int), (h : Int), 0⟩)
            have hq : Hid (fullB hands i ++ rowB i h ++ [⟨(i : Int), (h : Int), 0⟩] = fullB hands i ++ rowB i (h + 1)) := by
              show _ = _; rw [List.append_assoc, rowB_push]
            have hone : RowAt (wr.alloc (.cells #[.int .i64 i, .int .i64 h, .int .i64 0] 40)) (.slice (some ⟨wr.heap.size, 0, none⟩) 1 1) 1 3 [.int .i64 i, .int .i64 h, .int .i64 0] :=
              RowAt.one (cs := #[.int .i64 i, .int .i64 h, .int .i64 0]) (heap_alloc_new _ _) rfl (by intro y hy; simp at hy; rcases hy with rfl | rfl | rfl <;> rfl)
            have HONE := Lib.hid hone
            clear hone
            go_wp2_with (at_builtin; refine wpList_append_rows sliceOf_bits rfl (.tmp 36) (.tmp 40) rfl wr w.heap.size _ _ _ _ 1 _ hB2 HONE.out (by have := hlen.out; omega) hsz rfl rfl ((Only.refl [] wr).alloc _) ?_; intro v3 w3 hI3 hO3 hK3)
            rw [hp.out, hq.out] at hI3
            have hl3 : Hid ((fullB hands i ++ rowB i h).length + 1 = (fullB hands i ++ rowB i (h + 1)).length) := by
              show _ = _; simp [rowB_len]; omega
            rw [hl3.out] at hI3
            have ho3 : Hid (Only [] w w3) := ho2.trans hO3 (by intro x hx hl; have := (Row.far hB2 x hx).1; omega)
            go_roundw
            case rel => exact ⟨h + 1, by omega, by go_num, hI3, ho3.out⟩
            case measure => (simp [intOf]; try omega)
          · obtain rfl : h = hands := by omega
            go_wp2_with fail
            go_roundw
            case rel => exact ⟨i + 1, by omega, by go_num, hB2, ho2⟩
            case measure => (simp [intOf]; try omega)
      · obtain rfl : i = n := by omega
        have hlen := fullB_len hands i
        have hok : ∀ b ∈ fullB hands i, bitOk hands b := fun b hb => by have := mem_fullB hb; unfold bitOk; omega
        have hl360 : i * hands ≤ 60 * 6 := Nat.mul_le_mul hn60 hh6
        have hw1 := bench_waste u5 (fullB hands i) hands wo hB.at (by omega) hh1 hh6 hok
        have hb1 := fun w1 (h : Only [] wo w1) => bench_busy u5 (fullB hands i) hands w1 (hB.at.same h) (by omega) hh1 hh6 hok
        have HW1 := Lib.hid hw1
        have HB1 := Lib.hid hb1
        rw [full_steps hands i hh1, hlen, show (hands : Int) * (i : Int) - ((i * hands : Nat) : Int) = 0 by simp [Int.mul_comm]] at HW1
        have hz := Lib.hid (full_hand hands i hh1)
        clear hw1 hb1 hlen hok hl360
        go_wp2_with fail
        refine HW1.out.mono ?_
        rintro e w1 ⟨rfl, ho1⟩
        go_wp2_with fail
        refine (HB1.out w1 ho1).mono ?_
        rintro e w2 ⟨vb, rfl, hI, ho2⟩
        have hoo := (ho.trans ho1 (by simp)).trans ho2 (by simp)
        obtain ⟨g, cap, rfl, _⟩ := hI.sized hands (handL_len _ _) (by omega)
        have c0 := hI.cell 0 (by rw [handL_len]; omega)
        rw [handL_nth _ _ _ (by omega), hz.out] at c0
        clear HW1 HB1 hI ho1 ho2 hB
        go_wp2
        go_ret
        exact ⟨by simp, hoo.below (Nat.le_refl _) (by simp)⟩
  · have hout : a0 < 0 ∨ (0 ≤ a0 ∧ 60 < a0) ∨ (0 ≤ a0 ∧ a0 ≤ 60 ∧ a1 < 1) ∨ (0 ≤ a0 ∧ a0 ≤ 60 ∧ 1 ≤ a1 ∧ 6 < a1) := by omega
    clear hin w0 w1
    rcases hout with h | ⟨h, h2⟩ | ⟨h, h2, h3⟩ | ⟨h, h2, h3, h4⟩
    all_goals
      go_enter Try.func5, Try.ntmps5
      go_wp2
      go_ret
      exact ⟨rfl, Below.refl _ _⟩

end Go.Proofs.Ytcdnnklbbnojpaa.benchFull
