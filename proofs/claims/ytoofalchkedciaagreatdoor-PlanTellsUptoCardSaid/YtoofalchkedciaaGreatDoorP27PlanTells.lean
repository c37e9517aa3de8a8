/-
  Numbers as text, in plain words: which texts are numbers of at most so many digits.
-/
import Derived.Test.YtoofalchkedciaaGreatDoorP26PlanTells
import Derived.Lib.ItoaNum
namespace Go.Proofs.YtoofalchkedciaaGreatDoor

/-- A text of at most so many digits, without a zero ahead. -/
def numOk (most : Nat) (l : List UInt8) : Bool := !l.isEmpty && decide (l.length ≤ most) && l.all isDig && !(l.head? == some 48 && decide (1 < l.length))

theorem numOk_iff {most : Nat} {l : List UInt8} : numOk most l = true ↔ l ≠ [] ∧ l.length ≤ most ∧ l.all isDig = true ∧ (l.head? = some 48 → l.length ≤ 1) := by
  unfold numOk
  simp only [Bool.and_eq_true, Bool.not_eq_true', decide_eq_true_eq, and_assoc]
  constructor
  · rintro ⟨h1, h2, h3, h4⟩
    refine ⟨by intro e; subst e; simp at h1, h2, h3, fun h => ?_⟩
    rw [h] at h4
    simp at h4
    exact h4
  · rintro ⟨h1, h2, h3, h4⟩
    refine ⟨by cases l <;> simp_all, h2, h3, ?_⟩
    by_cases h : l.head? = some 48
    · have := h4 h
      rw [h]
      simp
      exact this
    · simp [h]

theorem digV_snoc (l : List UInt8) (c : UInt8) : digV (l ++ [c]) = digV l * 10 + (c.toNat - 48) := by
  unfold digV
  rw [List.foldl_append]
  rfl
theorem snoc_cases (l : List UInt8) : l = [] ∨ ∃ l' c, l = l' ++ [c] := by
  rcases List.eq_nil_or_concat l with h | ⟨l', c, h⟩
  · exact .inl h
  · exact .inr ⟨l', c, by simpa using h⟩
theorem dig_of {c : UInt8} (h : isDig c = true) : 48 ≤ c.toNat ∧ c.toNat ≤ 57 := by simpa [isDig] using h
theorem dig_mk {d : Nat} (h : d < 10) : isDig (UInt8.ofNat (48 + d)) = true ∧ (UInt8.ofNat (48 + d)).toNat = 48 + d := by
  have : d = 0 ∨ d = 1 ∨ d = 2 ∨ d = 3 ∨ d = 4 ∨ d = 5 ∨ d = 6 ∨ d = 7 ∨ d = 8 ∨ d = 9 := by omega
  rcases this with rfl | rfl | rfl | rfl | rfl | rfl | rfl | rfl | rfl | rfl <;> exact ⟨rfl, rfl⟩
theorem mk_dig {c : UInt8} (h : isDig c = true) : UInt8.ofNat (48 + (c.toNat - 48)) = c := by
  have := dig_of h
  rw [show 48 + (c.toNat - 48) = c.toNat by omega]
  simp
theorem dec_step (n : Nat) (h : ¬ n < 10) : Lib.decDigits n = Lib.decDigits (n / 10) ++ [UInt8.ofNat (48 + n % 10)] := by rw [Lib.decDigits, dif_neg h]
theorem digV_pow (l : List UInt8) (h : l.all isDig = true) : digV l < 10 ^ l.length := by
  obtain ⟨n, hn⟩ : ∃ n, l.length = n := ⟨_, rfl⟩
  induction n generalizing l with
  | zero => rw [List.length_eq_zero_iff.1 hn]; simp [digV]
  | succ n ih =>
    rcases snoc_cases l with rfl | ⟨l', c, rfl⟩
    · simp at hn
    · rw [List.all_append, Bool.and_eq_true] at h
      have hc := dig_of (by simpa using h.2 : isDig c = true)
      have hl : l'.length = n := by simpa using hn
      have := ih l' h.1 hl
      rw [digV_snoc, List.length_append, List.length_singleton, Nat.pow_succ]
      omega
/-- What is printed is read as it was. -/
theorem digV_dec (n : Nat) : digV (Lib.decDigits n) = n ∧ (Lib.decDigits n).all isDig = true ∧ Lib.decDigits n ≠ [] ∧ ((Lib.decDigits n).head? = some 48 → n = 0) := by
  induction n using Nat.strongRecOn with
  | ind n ih =>
    by_cases h : n < 10
    · rw [Lib.decDigits_one h]
      obtain ⟨h1, h2⟩ := dig_mk h
      obtain ⟨c, hc⟩ : ∃ c, UInt8.ofNat (48 + n) = c := ⟨_, rfl⟩
      rw [hc] at h1 h2 ⊢
      refine ⟨by show 0 * 10 + (c.toNat - 48) = n; omega, by simpa using h1, by simp, fun h3 => ?_⟩
      have h4 : c = 48 := by simpa using h3
      rw [h4] at h2
      have h48 : (48 : UInt8).toNat = 48 := rfl
      omega
    · obtain ⟨h1, h2, h3, h4⟩ := ih (n / 10) (by omega)
      obtain ⟨k1, k2⟩ := dig_mk (d := n % 10) (by omega)
      rw [dec_step n h]
      obtain ⟨c, hc⟩ : ∃ c, UInt8.ofNat (48 + n % 10) = c := ⟨_, rfl⟩
      rw [hc] at k1 k2 ⊢
      refine ⟨by rw [digV_snoc, h1, k2]; omega, by rw [List.all_append, h2]; simpa using k1, by simp, fun h5 => ?_⟩
      have : (Lib.decDigits (n / 10)).head? = some 48 := by
        cases hd : Lib.decDigits (n / 10) with
        | nil => exact absurd hd h3
        | cons a t => rw [hd] at h5; simpa using h5
      have := h4 this
      omega
/-- .. and what is a number is printed as it was. -/
theorem dec_digV (l : List UInt8) (h0 : l ≠ []) (h : l.all isDig = true) (hz : l.head? = some 48 → l.length ≤ 1) : Lib.decDigits (digV l) = l := by
  obtain ⟨n, hn⟩ : ∃ n, l.length = n := ⟨_, rfl⟩
  induction n generalizing l with
  | zero => exact absurd (List.length_eq_zero_iff.1 hn) h0
  | succ n ih =>
    rcases snoc_cases l with rfl | ⟨l', c, rfl⟩
    · exact absurd rfl h0
    · rw [List.all_append, Bool.and_eq_true] at h
      have hc1 : isDig c = true := by simpa using h.2
      have hc := dig_of hc1
      have hl : l'.length = n := by simpa using hn
      by_cases he : l' = []
      · subst he
        rw [digV_snoc]
        simp only [List.nil_append]
        rw [show digV [] = 0 from rfl, Nat.zero_mul, Nat.zero_add, Lib.decDigits_one (by omega), mk_dig hc1]
      · have hh : (l' ++ [c]).head? = l'.head? := by
          cases l' with
          | nil => exact absurd rfl he
          | cons a t => rfl
        have hz' : l'.head? ≠ some 48 := fun e => by
          have h9 := hz (by rw [hh]; exact e)
          have : 0 < l'.length := List.length_pos_iff.2 he
          rw [List.length_append, List.length_singleton] at h9
          omega
        have hr := ih l' he h.1 (fun e => absurd e hz') hl
        have hpos : 1 ≤ digV l' := by
          rcases Nat.eq_zero_or_pos (digV l') with e | e
          · rw [e, Lib.decDigits_one (by omega)] at hr
            rw [← hr] at hz'
            exact absurd rfl hz'
          · exact e
        rw [digV_snoc, dec_step _ (by omega), show (digV l' * 10 + (c.toNat - 48)) / 10 = digV l' by omega, show (digV l' * 10 + (c.toNat - 48)) % 10 = c.toNat - 48 by omega, hr, mk_dig hc1]

theorem num_dec {most : Nat} {l : List UInt8} (h : numOk most l = true) : Lib.decDigits (digV l) = l := by
  obtain ⟨h1, _, h3, h4⟩ := numOk_iff.1 h
  exact dec_digV l h1 h3 h4
theorem dec_num {most n : Nat} {l : List UInt8} (h : Lib.decDigits n = l) (hl : l.length ≤ most) : numOk most l = true ∧ digV l = n := by
  subst h
  obtain ⟨h1, h2, h3, h4⟩ := digV_dec n
  refine ⟨numOk_iff.2 ⟨h3, hl, h2, fun h => ?_⟩, h1⟩
  have := h4 h
  subst this
  rw [Lib.decDigits_one (by omega)]
  simp

end Go.Proofs.YtoofalchkedciaaGreatDoor
