/-
  What hands did, and what steps had, are the bits. No program is named here.
-/
import Derived.Test.YtbpkndflkbcmaaaBenchE
namespace Go.Proofs.Ytbpkndflkbcmaaa

theorem sumI_ind (x : Int) (n : Nat) : sumI (fun k => if x = (k : Int) then 1 else 0) n = if 0 ≤ x ∧ x < n then 1 else 0 := by
  induction n with
  | zero => (simp [sumI]; try omega)
  | succ n ih =>
    simp only [sumI]
    rw [ih]
    split <;> split <;> split <;> omega

theorem count_sum (f : Bt → Int) (bs : List Bt) (n : Nat) (h : ∀ b ∈ bs, 0 ≤ f b ∧ f b < n) : sumI (fun k => ((bs.countP fun b => f b == (k : Int) : Nat) : Int)) n = bs.length := by
  induction bs with
  | nil => exact (sumI_congr (g := fun _ => 0) n (fun i _ => rfl)).trans (by
      have : ∀ n, sumI (fun _ => 0) n = 0 := fun n => by
        induction n with
        | zero => rfl
        | succ n ih => simp [sumI, ih]
      exact this n)
  | cons b bs ih =>
    have e : sumI (fun k => (((b :: bs).countP fun b => f b == (k : Int) : Nat) : Int)) n = sumI (fun k => ((bs.countP fun b => f b == (k : Int) : Nat) : Int) + (if f b = (k : Int) then 1 else 0)) n := sumI_congr n (fun i _ => by
      rw [List.countP_cons]
      by_cases e : f b = (i : Int) <;> simp [e])
    rw [e, sumI_add, ih (fun c hc => h c (by simp [hc])), sumI_ind, if_pos (h b (by simp))]
    simp

theorem hand_sum {bs : List Bt} {hands : Nat} (h : ∀ b ∈ bs, bitOk hands b) : sumI (fun k => (ofHand bs k : Int)) hands = bs.length :=
  count_sum (fun b => b.hand) bs hands (fun b hb => by have := h b hb; unfold bitOk at this; omega)
theorem step_sum {bs : List Bt} (h : ∀ b ∈ bs, 0 ≤ b.step) : sumI (fun k => (atStep bs k : Int)) (stepsOf bs) = bs.length :=
  count_sum (fun b => b.step) bs (stepsOf bs) (fun b hb => by have := stepsOf_lt hb; have := h b hb; omega)

theorem speed_bd {p : PlanL} (h : PlanOk p) {hands s : Nat} (h1 : 1 ≤ hands) (he : GEnd p hands s) : 100 ≤ speedF p s ∧ speedF p s ≤ 100 * hands := by
  unfold speedF
  split
  · omega
  · rename_i hs
    obtain ⟨_, b1, _, _⟩ := greedy_bounds h h1 he
    have b2 : (s : Int) ≤ workF p := by
      have := gBits_steps p hands s he.2
      have e := gSum_workF h
      rw [← gBits_work h h1 he] at e
      omega
    refine ⟨Int.le_ediv_of_mul_le (by omega) (by omega), ?_⟩
    apply Int.ediv_le_of_le_mul (by omega)
    rw [Int.mul_assoc]
    exact Int.mul_le_mul_of_nonneg_left b1 (by omega)

end Go.Proofs.Ytbpkndflkbcmaaa
