/-
  Tasks one behind the other, and beside each other: how many steps they take. No program is named here.
-/
import Derived.Test.YtnolckhideellaaChainK
import Derived.Test.YtnolckhideellaaGreedyP
namespace Go.Proofs.Ytnolckhideellaa

theorem gLeft_le (p : PlanL) (hands s : Nat) (i : Nat) : gLeft p hands s i ≤ wkOf p i := by
  induction s with
  | zero => exact Int.le_refl _
  | succ s ih => rw [gLeft_succ]; split <;> omega

/-- Where each has one unit or none, how much is left is how many have some. -/
theorem gSum_count (n : Nat) (left : Nat → Int) (h : ∀ i, i < n → left i = 0 ∨ left i = 1) : gSum n left = ((List.range n).filter (fun i => decide (0 < left i))).length := by
  unfold gSum
  have key : ∀ l : List Nat, (∀ i ∈ l, left i = 0 ∨ left i = 1) → (l.map fun i => (left i).toNat).sum = (l.filter (fun i => decide (0 < left i))).length := by
    intro l
    induction l with
    | nil => intro _; rfl
    | cons a l ih =>
      intro hl
      have h1 := ih (fun i hi => hl i (by simp [hi]))
      rcases hl a (by simp) with h0 | h0
      · simp only [List.map_cons, List.sum_cons, h1, h0, List.filter]; simp
      · simp only [List.map_cons, List.sum_cons, h1, h0, List.filter]; simp; omega
  exact key _ (fun i hi => h i (by simpa using hi))

theorem beside_at (n hands s : Nat) (hn : n ≤ 30) : (gAt (besideP n 1) hands s).length = min hands (gSum n (gLeft (besideP n 1) hands s)) := by
  have hok := beside_ok n 1 hn (by omega) (by omega)
  have h01 : ∀ i, i < n → gLeft (besideP n 1) hands s i = 0 ∨ gLeft (besideP n 1) hands s i = 1 := by
    intro i hi
    have h1 := gLeft_ge (besideP n 1) hands s hok i (by rw [besideP_len]; exact hi)
    have h2 := gLeft_le (besideP n 1) hands s i
    rw [beside_wk n 1 i hi] at h2
    omega
  rw [gSum_count n _ h01]
  unfold gAt gRow
  rw [List.length_take, besideP_len]
  congr 2
  refine List.filter_congr fun i _ => ?_
  unfold gOk
  rw [beside_nd]
  simp

theorem beside_steps {n hands s : Nat} (_h1 : 1 ≤ n) (hn : n ≤ 30) (hh : 1 ≤ hands) (h : GEnd (besideP n 1) hands s) : s = (n + hands - 1) / hands := by
  have hok := beside_ok n 1 hn (by omega) (by omega)
  have h0 : gSum n (gLeft (besideP n 1) hands 0) = n := by
    rw [gSum_count n (gLeft (besideP n 1) hands 0) (fun i hi => .inr (beside_wk n 1 i hi))]
    have : (List.range n).filter (fun i => decide (0 < gLeft (besideP n 1) hands 0 i)) = List.range n := by
      rw [List.filter_eq_self]
      intro i hi
      have hi' : i < n := by simpa using hi
      have : gLeft (besideP n 1) hands 0 i = 1 := beside_wk n 1 i hi'
      simp [this]
    rw [this]; simp
  have hs : ∀ t, gSum n (gLeft (besideP n 1) hands t) = n - t * hands := by
    intro t
    induction t with
    | zero => rw [h0]; simp
    | succ t ih =>
      have h1 := gSum_step (besideP n 1) hands t hok
      rw [besideP_len] at h1
      rw [beside_at n hands t hn] at h1
      rw [Nat.succ_mul]
      omega
  have hend : n ≤ s * hands := by
    have h1 := beside_at n hands s hn
    rw [h.1, hs s] at h1
    simp at h1
    omega
  have hpre : s = 0 ∨ (s - 1) * hands < n := by
    by_cases e : s = 0
    · exact .inl e
    · right
      have h1 := h.2 (s - 1) (by omega)
      have h2 := beside_at n hands (s - 1) hn
      have h3 := List.length_pos_iff.2 h1
      rw [h2, hs (s - 1)] at h3
      omega
  symm
  rw [Nat.div_eq_iff (by omega)]
  rcases hpre with rfl | hpre
  · simp at hend; omega
  · obtain ⟨k, rfl⟩ : ∃ k, s = k + 1 := ⟨s - 1, by
      rcases s with _ | s
      · simp at hend; omega
      · omega⟩
    simp only [Nat.add_sub_cancel] at hpre
    rw [Nat.succ_mul] at hend ⊢
    omega

theorem chain_left (n hands s : Nat) (hh : 1 ≤ hands) (hs : s ≤ n) : (∀ i, i < n → gLeft (chainP n 1) hands s i = if i < s then 0 else 1) ∧ gAt (chainP n 1) hands s = if s < n then [s] else [] := by
  induction s with
  | zero =>
    have h0 : ∀ i, i < n → gLeft (chainP n 1) hands 0 i = if i < 0 then 0 else 1 := fun i hi => by rw [if_neg (by omega)]; exact chain_wk n 1 i hi
    refine ⟨h0, ?_⟩
    exact chain_at n hands 0 hh h0
  | succ s ih =>
    obtain ⟨h1, h2⟩ := ih (by omega)
    rw [if_pos (show s < n by omega)] at h2
    have h0 : ∀ i, i < n → gLeft (chainP n 1) hands (s + 1) i = if i < s + 1 then 0 else 1 := by
      intro i hi
      rw [gLeft_succ, h2, h1 i hi]
      by_cases e : i = s
      · subst e; simp
      · have : i ∉ [s] := by simpa using e
        rw [if_neg this]
        by_cases e2 : i < s
        · rw [if_pos e2, if_pos (by omega)]
        · rw [if_neg e2, if_neg (by omega)]
    exact ⟨h0, chain_at n hands (s + 1) hh h0⟩
where
  chain_at (n hands s : Nat) (hh : 1 ≤ hands) (h : ∀ i, i < n → gLeft (chainP n 1) hands s i = if i < s then 0 else 1) : gAt (chainP n 1) hands s = if s < n then [s] else [] := by
    unfold gAt gRow
    rw [chainP_len]
    have e : (List.range n).filter (gOk (chainP n 1) (gLeft (chainP n 1) hands s)) = (List.range n).filter (fun i => decide (i = s)) := by
      refine List.filter_congr fun i hi => ?_
      have hi' : i < n := by simpa using hi
      unfold gOk
      rw [h i hi', chain_nd n 1 i hi']
      by_cases e0 : i = 0
      · subst e0
        by_cases e1 : s = 0
        · subst e1; simp
        · have : (0 : Nat) < s := by omega
          simp [this]; omega
      · rw [if_neg e0]
        have h3 := h (i - 1) (by omega)
        have e3 : ((i : Int) - 1).toNat = i - 1 := by omega
        simp only [List.any_cons, List.any_nil, Bool.or_false, e3, h3]
        by_cases a : i < s
        · have : i ≠ s := by omega
          simp [a, this]
        · by_cases b : i - 1 < s
          · have : i = s := by omega
            subst this
            simp
            omega
          · have : i ≠ s := by omega
            simp [a, b, this]
    rw [e]
    have e2 : (List.range n).filter (fun i => decide (i = s)) = if s < n then [s] else [] := by
      clear e h
      induction n with
      | zero => simp
      | succ n ih =>
        rw [List.range_succ, List.filter_append, ih]
        by_cases a : s < n
        · rw [if_pos a, if_pos (by omega)]
          have : n ≠ s := by omega
          simp [List.filter, this]
        · rw [if_neg a]
          by_cases b : s = n
          · subst b; simp [List.filter]
          · have : n ≠ s := by omega
            rw [if_neg (by omega)]
            simp [List.filter, this]
    rw [e2]
    split
    · exact List.take_of_length_le (by simpa using hh)
    · simp

theorem chain_steps {n hands s : Nat} (_hn : n ≤ 30) (hh : 1 ≤ hands) (h : GEnd (chainP n 1) hands s) : s = n := by
  refine gEnd_unique h ⟨?_, fun t ht => ?_⟩
  · rw [(chain_left n hands n hh (Nat.le_refl _)).2, if_neg (by omega)]
  · rw [(chain_left n hands t hh (by omega)).2, if_pos ht]; simp

end Go.Proofs.Ytnolckhideellaa
