/-
  The statement JoinChain: one makes the next ready: along a chain. No condition.
-/
import Derived.Test.YtbpkndflkbcmaaaFrame
import Derived.Test.YtbpkndflkbcmaaaJoin3
import Derived.Test.YtbpkndflkbcmaaaChain
import Derived.Test.YtbpkndflkbcmaaaChainG
namespace Go.Proofs.Ytbpkndflkbcmaaa.joinChain
open Go.ChangeShapes Go.WideShapes Go.ChangeAt Go.RowKit
open Go.ChangeMaps (open_string shut_string)
set_option linter.unusedVariables false

def chainD (i : Nat) : Nat → Bool := fun j => decide (j < i)
theorem chainD_up (i : Nat) : upB (chainD i) i = chainD (i + 1) := by
  funext j
  unfold upB chainD
  by_cases e : j = i
  · subst e; simp
  · rw [if_neg e]
    apply decide_eq_decide.2
    omega
theorem chainD_zero : chainD 0 = fun _ => false := by funext j; simp [chainD]
theorem chain_ready (n i : Nat) (h : i < n) : readyB (chainP n 1) (chainD i) i = true := by
  unfold readyB
  rw [chain_nd n 1 i h]
  by_cases e : i = 0
  · subst e; simp [chainD]
  · rw [if_neg e]
    simp [chainD]; omega
theorem filter_one (n k : Nat) : (List.range n).filter (fun i => decide (i = k)) = if k < n then [k] else [] := by
  induction n with
  | zero => simp
  | succ n ih =>
    rw [List.range_succ, List.filter_append, ih]
    by_cases a : k < n
    · rw [if_pos a, if_pos (by omega)]
      have : n ≠ k := by omega
      simp [List.filter, this]
    · rw [if_neg a]
      by_cases b : k = n
      · subst b; simp [List.filter]
      · have : n ≠ k := by omega
        rw [if_neg (by omega)]
        simp [List.filter, this]
theorem chain_after (n i : Nat) : afterOf (chainP n 1) (i : Int) = if i + 1 < n then [i + 1] else [] := by
  unfold afterOf
  rw [chainP_len, ← filter_one n (i + 1)]
  refine List.filter_congr fun k hk => ?_
  have hk' : k < n := by simpa using hk
  rw [chain_nd n 1 k hk']
  by_cases e : k = 0
  · subst e; simp
  · rw [if_neg e]
    by_cases e2 : k = i + 1
    · subst e2; simp
    · have : ¬ ((i : Int) = (k : Int) - 1) := by omega
      simp [e2, this]
theorem chain_new (n i : Nat) : newL (chainP n 1) (chainD i) i = if i + 1 < n then [i + 1] else [] := by
  unfold newL
  rw [chain_after, chainD_up]
  split
  · rename_i h
    have : lackN (chainP n 1) (chainD (i + 1)) (i + 1) = 0 := by
      unfold lackN
      rw [chain_nd n 1 _ h, if_neg (by omega)]
      simp [chainD]
      omega
    simp [List.filter, this]
  · rfl
theorem chain_left2 (n i : Nat) (h : i ≤ n) : leftN (chainP n 1) (chainD i) = n - i := by
  induction i with
  | zero => rw [chainD_zero, left_none, chainP_len]; rfl
  | succ i ih =>
    have h1 := ih (by omega)
    have h2 := left_up (p := chainP n 1) (chainD i) i (by rw [chainP_len]; omega) (by simp [chainD])
    rw [chainD_up] at h2
    omega

set_option maxHeartbeats 4000000 in
set_option maxRecDepth 100000 in
theorem walk (a0 : Int) (w : World) (w0 : (Lit.int .i64 a0).wf = true) :
    Calls Try.prog 4 #[.int .i64 a0] w fun e w' => e = .returned (.bool true) ∧ Below w.heap.size w w' := by
  have bd0 := bounds_i64 w0
  by_cases hin : 1 ≤ a0 ∧ a0 ≤ 30
  · obtain ⟨g1, g2⟩ := hin
    obtain ⟨n, rfl⟩ := Int.eq_ofNat_of_zero_le (show 0 ≤ a0 by omega)
    have hn30 : n ≤ 30 := by omega
    have hn1 : 1 ≤ n := by omega
    clear w0 bd0
    go_enter Try.func4, Try.ntmps4
    go_wp2_with fail
    refine (law_chain n 1 w hn30).mono ?_
    rintro e w1 ⟨v1, rfl, hO1, ho1⟩
    go_wp2_with fail
    refine (Join.new v1 (chainP n 1) w1 hO1.plan (chain_ok n 1 hn30 (by omega) (by omega))).mono ?_
    rintro e w2 ⟨J, S, FP, rfl, hJ, hS, hF, ho2⟩
    have hoo := ho1.trans ho2 (by simp)
    have hS2 : ∀ x ∈ S, w.heap.size ≤ x := fun x hx => by have := (hS x hx).1; have := ho1.size; omega
    have HS := Lib.hid hS2
    rw [← chainD_zero] at hJ
    clear hO1 ho1 ho2 hF hS hS2
    go_wp2_with fail
    go_loopw [5] (fun vi wr => ∃ i : Nat, i ≤ n ∧ vi = .int .i64 i ∧ JoinIs wr S FP J (chainP n 1) (chainD i) ∧ Only [] w wr) (fun vi _ => n - (intOf vi).toNat)
    case atStart => exact ⟨0, Nat.zero_le _, rfl, hJ, hoo⟩
    case round =>
      obtain ⟨wo, rfl⟩ : ∃ wo : World, wo = wr := ⟨_, rfl⟩
      clear hJ hoo
      obtain ⟨i, hi, rfl, hJ, ho⟩ := hrel
      by_cases hlt : i < n
      · have hd := Join.done S FP J (chainP n 1) (chainD i) i wo hJ (by rw [chainP_len]; exact hlt) (chain_ready n i hlt)
        rw [chain_new, chainD_up] at hd
        have hleft := chain_left2 n (i + 1) (by omega)
        go_wp2_with fail
        refine hd.mono ?_
        rintro e w3 ⟨v3, rfl, hI3, hJ3, ho3⟩
        clear hd hJ
        have ho4 := ho.kin ho3 HS.out
        have hL := Join.left S FP J (chainP n 1) (chainD (i + 1)) w3 hJ3
        rw [hleft, show ((n - (i + 1) : Nat) : Int) = (n : Int) - (i : Int) - 1 by omega] at hL
        clear ho ho3 hleft
        by_cases hl2 : i + 1 < n
        · rw [if_pos hl2] at hI3
          obtain ⟨g, cap, rfl, _⟩ := hI3.sized 1 rfl (by omega)
          have c0 := hI3.cell 0 (by simp [natL])
          rw [show nth (natL [i + 1]) 0 = (i : Int) + 1 by simp [natL, nth]] at c0
          have hlt2 : decide ((i : Int) < (n : Int) - 1) = true := by simp; omega
          have hne : ((i : Int) == (n : Int) - 1) = false := by simp; omega
          clear hI3
          go_wp2_with fail
          refine hL.mono ?_
          rintro e w4 ⟨rfl, rfl⟩
          clear hL
          go_wp2
          go_roundw
          case rel => exact ⟨i + 1, by omega, by go_num, hJ3, ho4⟩
          case measure => (simp [intOf]; try omega)
        · rw [if_neg hl2] at hI3
          have hlt2 : decide ((i : Int) < (n : Int) - 1) = false := by simp; omega
          have heq : ((i : Int) == (n : Int) - 1) = true := by simp; omega
          have hin2 : Hid (i + 1 = n) := by show _ = _; omega
          obtain ⟨oa, oc, rfl, _⟩ := hI3.opt
          clear hI3
          go_wp2_with fail
          refine hL.mono ?_
          rintro e w4 ⟨rfl, rfl⟩
          clear hL
          go_wp2
          go_roundw
          case rel => exact ⟨i + 1, by omega, by go_num, hJ3, ho4⟩
          case measure => (simp [intOf]; try omega)
      · obtain rfl : n = i := by omega
        go_wp2
        go_ret
        exact ⟨rfl, ho.below (Nat.le_refl _) (by simp)⟩
  · have hout : a0 < 1 ∨ (1 ≤ a0 ∧ 30 < a0) := by omega
    clear hin w0
    rcases hout with h | ⟨h, h2⟩
    all_goals
      go_enter Try.func4, Try.ntmps4
      go_wp2
      go_ret
      exact ⟨rfl, Below.refl _ _⟩

end Go.Proofs.Ytbpkndflkbcmaaa.joinChain
