/-
  How long chains take, and tasks beside each other. No program is named here.
-/
import Derived.Test.YtnolckhideellaaChainG
import Derived.Test.YtnolckhideellaaDepthP
namespace Go.Proofs.Ytnolckhideellaa

theorem chain_next (n : Nat) (work : Int) (i k : Nat) : k ∈ afterOf (chainP n work) (i : Int) ↔ k = i + 1 ∧ i + 1 < n := by
  rw [mem_after, chainP_len]
  constructor
  · rintro ⟨hk, h⟩
    rw [chain_nd _ _ _ hk] at h
    split at h
    · cases h
    · simp at h; omega
  · rintro ⟨rfl, h⟩
    refine ⟨h, ?_⟩
    rw [chain_nd _ _ _ h, if_neg (by omega)]
    simp

theorem chain_tail {n : Nat} {work : Int} (hn : n ≤ 30) (h1 : 1 ≤ work) (h2 : work ≤ 20) (d i : Nat) (hd : i + d + 1 = n) : tailF (chainP n work) i = work * (d + 1) := by
  have hok := chain_ok n work hn h1 h2
  induction d generalizing i with
  | zero =>
    rw [tailF_eq hok (by rw [chainP_len]; omega), chain_wk _ _ _ (by omega)]
    have : afterOf (chainP n work) (i : Int) = [] := List.eq_nil_iff_forall_not_mem.2 fun k hk => by
      have := (chain_next n work i k).1 hk; omega
    rw [this]
    simp [maxL]
  | succ d ih =>
    rw [tailF_eq hok (by rw [chainP_len]; omega), chain_wk _ _ _ (by omega)]
    have ih := ih (i + 1) (by omega)
    have hm : maxL ((afterOf (chainP n work) (i : Int)).map (tailF (chainP n work))) = work * (d + 1) := by
      have h0 : 0 ≤ work * ((d : Int) + 1) := Int.mul_nonneg (by omega) (by omega)
      apply Int.le_antisymm
      · refine maxL_le h0 fun y hy => ?_
        obtain ⟨k, hk, rfl⟩ := List.mem_map.1 hy
        obtain ⟨rfl, _⟩ := (chain_next n work i k).1 hk
        rw [ih]; exact Int.le_refl _
      · rw [← ih]
        exact maxL_mem (List.mem_map_of_mem (f := tailF (chainP n work)) ((chain_next n work i (i + 1)).2 ⟨rfl, by omega⟩))
    rw [hm]
    have e : work * (((d + 1 : Nat) : Int) + 1) = work * ((d : Int) + 1) + work := by rw [Int.mul_add work ((d + 1 : Nat) : Int) 1]; simp
    rw [e]; omega

theorem chain_span {n : Nat} {work : Int} (hn1 : 1 ≤ n) (hn : n ≤ 30) (h1 : 1 ≤ work) (h2 : work ≤ 20) : spanF (chainP n work) = n * work := by
  have ht := chain_tail hn h1 h2
  unfold spanF
  rw [chainP_len]
  have e0 := ht (n - 1) 0 (by omega)
  have en : ((n - 1 : Nat) : Int) + 1 = n := by omega
  rw [en, Int.mul_comm] at e0
  have h0 : 0 ≤ (n : Int) * work := Int.mul_nonneg (by omega) (by omega)
  apply Int.le_antisymm
  · refine maxL_le h0 fun y hy => ?_
    obtain ⟨i, hi, rfl⟩ := List.mem_map.1 hy
    have hi : i < n := by simpa using hi
    rw [ht (n - 1 - i) i (by omega), Int.mul_comm]
    exact Int.mul_le_mul_of_nonneg_right (by omega) (by omega)
  · rw [← e0]
    exact maxL_mem (List.mem_map_of_mem (f := tailF (chainP n work)) (by simp; omega))

theorem const_sum (f : Nat → Int) (c : Int) (k : Nat) (h : ∀ i, i < k → f i = c) : sumI f k = k * c := by
  induction k with
  | zero => simp [sumI]
  | succ k ih =>
    simp only [sumI]
    rw [ih (fun i hi => h i (by omega)), h k (by omega), Int.natCast_add, Int.add_mul]; simp

theorem chain_work (n : Nat) (work : Int) : workF (chainP n work) = n * work := by
  unfold workF
  rw [chainP_len]
  exact const_sum _ _ _ (fun i hi => chain_wk _ _ _ hi)

theorem chain_way {n : Nat} {work : Int} (hn1 : 1 ≤ n) (hn : n ≤ 30) (h1 : 1 ≤ work) (h2 : work ≤ 20) : (wayOf (chainP n work)).length = n := by
  have hok := chain_ok n work hn h1 h2
  have hb := spanF_bd hok
  obtain ⟨k1, k2, _⟩ := wayF_ok hok 600 (List.range (chainP n work).length) (fun i hi => by simpa using hi) hb.2
  have hw := (wayOk_nth k1).1
  have hs : ((wayOf (chainP n work)).map (wkOf (chainP n work))).sum = n * work := k2.trans (chain_span hn1 hn h1 h2)
  have hc : ∀ l : List Nat, (∀ x ∈ l, x < n) → (l.map (wkOf (chainP n work))).sum = l.length * work := by
    intro l
    induction l with
    | nil => simp
    | cons a l ih =>
      intro h
      rw [List.map_cons, List.sum_cons, ih (fun x hx => h x (by simp [hx])), chain_wk _ _ _ (h a (by simp))]
      rw [List.length_cons, Int.natCast_add, Int.add_mul]; simp; omega
  rw [hc _ (fun x hx => by
    obtain ⟨k, hk, rfl⟩ := List.getElem_of_mem hx
    have := hw k hk
    have hl := chainP_len n work
    unfold wayOf
    omega)] at hs
  have := Int.eq_of_mul_eq_mul_right (show work ≠ 0 by omega) hs
  omega

theorem beside_span {n : Nat} {work : Int} (hn1 : 1 ≤ n) (hn : n ≤ 30) (h1 : 1 ≤ work) (h2 : work ≤ 20) : spanF (besideP n work) = work := by
  have hok := beside_ok n work hn h1 h2
  have ht : ∀ i, i < n → tailF (besideP n work) i = work := fun i hi => by
    rw [tailF_eq hok (by rw [besideP_len]; exact hi), beside_wk _ _ _ hi]
    have : afterOf (besideP n work) (i : Int) = [] := List.eq_nil_iff_forall_not_mem.2 fun k hk => by
      have := (mem_after.1 hk).2
      rw [beside_nd] at this; cases this
    rw [this]; simp [maxL]
  unfold spanF
  rw [besideP_len]
  apply Int.le_antisymm
  · refine maxL_le (by omega) fun y hy => ?_
    obtain ⟨i, hi, rfl⟩ := List.mem_map.1 hy
    rw [ht i (by simpa using hi)]; exact Int.le_refl _
  · have := maxL_mem (List.mem_map_of_mem (f := tailF (besideP n work)) (show 0 ∈ List.range n by simp; omega))
    rw [ht 0 (by omega)] at this
    exact this

theorem chain_reach (n : Nat) (work : Int) (k : Nat) (hk : k < n) (h0 : 0 < k) : Reach (chainP n work) k 0 := by
  induction k with
  | zero => omega
  | succ k ih =>
    have hm : ((k : Nat) : Int) ∈ ndOf (chainP n work) (k + 1) := by rw [chain_nd _ _ _ hk, if_neg (by omega)]; simp
    by_cases e : k = 0
    · subst e; exact .one hm
    · exact Reach.trans (.one hm) (ih (by omega) (by omega))

end Go.Proofs.Ytnolckhideellaa
