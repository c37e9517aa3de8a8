/-
  Along a chain: who is ready, who becomes ready.
-/
import Derived.Test.YtloojhnhialenaaDoorJoinP
import Derived.Test.YtloojhnhialenaaDoorChainG
namespace Go.Proofs.YtloojhnhialenaaDoor

def chainD (i : Nat) : Nat → Bool := fun j => decide (j < i)
theorem chainD_up (i : Nat) : upB (chainD i) i = chainD (i + 1) := by
  funext j
  unfold upB chainD
  by_cases e : j = i
  · subst e; simp
  · rw [if_neg e]
    apply decide_eq_decide.2
    omega
theorem chainD_zero : chainD 0 = fun _ => false := by funext j; simp [chainD]
theorem chain_ready (n i : Nat) (h : i < n) : readyB (chainP n 1) (chainD i) i = true := by
  unfold readyB
  rw [chain_nd n 1 i h]
  by_cases e : i = 0
  · subst e; simp [chainD]
  · rw [if_neg e]
    simp [chainD]; omega
theorem filter_one (n k : Nat) : (List.range n).filter (fun i => decide (i = k)) = if k < n then [k] else [] := by
  induction n with
  | zero => simp
  | succ n ih =>
    rw [List.range_succ, List.filter_append, ih]
    by_cases a : k < n
    · rw [if_pos a, if_pos (by omega)]
      have : n ≠ k := by omega
      simp [List.filter, this]
    · rw [if_neg a]
      by_cases b : k = n
      · subst b; simp [List.filter]
      · have : n ≠ k := by omega
        rw [if_neg (by omega)]
        simp [List.filter, this]
theorem chain_after (n i : Nat) : afterOf (chainP n 1) (i : Int) = if i + 1 < n then [i + 1] else [] := by
  unfold afterOf
  rw [chainP_len, ← filter_one n (i + 1)]
  refine List.filter_congr fun k hk => ?_
  have hk' : k < n := by simpa using hk
  rw [chain_nd n 1 k hk']
  by_cases e : k = 0
  · subst e; simp
  · rw [if_neg e]
    by_cases e2 : k = i + 1
    · subst e2; simp
    · have : ¬ ((i : Int) = (k : Int) - 1) := by omega
      simp [e2, this]
theorem chain_new (n i : Nat) : newL (chainP n 1) (chainD i) i = if i + 1 < n then [i + 1] else [] := by
  unfold newL
  rw [chain_after, chainD_up]
  split
  · rename_i h
    have : lackN (chainP n 1) (chainD (i + 1)) (i + 1) = 0 := by
      unfold lackN
      rw [chain_nd n 1 _ h, if_neg (by omega)]
      simp [chainD]
      omega
    simp [List.filter, this]
  · rfl
theorem chain_left2 (n i : Nat) (h : i ≤ n) : leftN (chainP n 1) (chainD i) = n - i := by
  induction i with
  | zero => rw [chainD_zero, left_none, chainP_len]; rfl
  | succ i ih =>
    have h1 := ih (by omega)
    have h2 := left_up (p := chainP n 1) (chainD i) i (by rw [chainP_len]; omega) (by simp [chainD])
    rw [chainD_up] at h2
    omega

end Go.Proofs.YtloojhnhialenaaDoor
