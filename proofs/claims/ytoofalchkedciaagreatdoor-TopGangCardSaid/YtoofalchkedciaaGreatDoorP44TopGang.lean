/-
  Plain facts on jobs that are served round by round, and on their shares. No program is named here.
  Contract of yardsame.Deeds, of two equal lists.
-/
import Derived.Test.YtoofalchkedciaaGreatDoorP1TopGang
import Derived.Test.YtoofalchkedciaaGreatDoorP10TopGang
namespace Go.Proofs.YtoofalchkedciaaGreatDoor

def upd (f : Nat → Nat) (i x : Nat) : Nat → Nat := fun j => if j = i then x else f j
theorem upd_same (f : Nat → Nat) (i x : Nat) : upd f i x i = x := by simp [upd]
theorem upd_other (f : Nat → Nat) (i x j : Nat) (h : j ≠ i) : upd f i x j = f j := by simp [upd, h]
theorem upd_id (f : Nat → Nat) (i : Nat) : upd f i (f i) = f := by funext j; unfold upd; split <;> simp_all
theorem upd_upd (f : Nat → Nat) (i x y : Nat) : upd (upd f i x) i y = upd f i y := by funext j; unfold upd; split <;> simp_all

/-- How much job i gets, where o bits are out. -/
def gives (most : Nat) (W S : Nat → Nat) (i o : Nat) : Nat := min (W i) (min (S i) (most - o))
def give (most : Nat) (W : Nat → Nat) (i : Nat) (p : List Int × (Nat → Nat)) : List Int × (Nat → Nat) :=
  (p.1 ++ List.replicate (gives most W p.2 i p.1.length) (i : Int), upd p.2 i (p.2 i - gives most W p.2 i p.1.length))
def roundTo (most : Nat) (W : Nat → Nat) : Nat → List Int × (Nat → Nat) → List Int × (Nat → Nat)
  | 0, p => p
  | i + 1, p => give most W i (roundTo most W i p)
def iter (most : Nat) (W : Nat → Nat) (n : Nat) : Nat → List Int × (Nat → Nat) → List Int × (Nat → Nat)
  | 0, p => p
  | r + 1, p => roundTo most W n (iter most W n r p)
def Served (most n : Nat) (p : List Int × (Nat → Nat)) : Prop := p.1.length = most ∨ ∀ i, i < n → p.2 i = 0

theorem give_still {most : Nat} {W : Nat → Nat} {i : Nat} {p : List Int × (Nat → Nat)} (h : gives most W p.2 i p.1.length = 0) : give most W i p = p := by
  obtain ⟨o, S⟩ := p
  unfold give
  simp only at h ⊢
  rw [h, Nat.sub_zero, upd_id]
  simp

theorem give_len (most : Nat) (W : Nat → Nat) (i : Nat) (p : List Int × (Nat → Nat)) : (give most W i p).1.length = p.1.length + gives most W p.2 i p.1.length := by
  unfold give; simp

theorem give_most {most : Nat} {W : Nat → Nat} {i : Nat} {p : List Int × (Nat → Nat)} (h : p.1.length ≤ most) : (give most W i p).1.length ≤ most := by
  rw [give_len]; unfold gives; omega

theorem roundTo_len (most : Nat) (W : Nat → Nat) (i : Nat) (p : List Int × (Nat → Nat)) : p.1.length ≤ (roundTo most W i p).1.length := by
  induction i with
  | zero => exact Nat.le_refl _
  | succ i ih => rw [roundTo, give_len]; omega

theorem roundTo_most {most : Nat} {W : Nat → Nat} (i : Nat) {p : List Int × (Nat → Nat)} (h : p.1.length ≤ most) : (roundTo most W i p).1.length ≤ most := by
  induction i with
  | zero => exact h
  | succ i ih => rw [roundTo]; exact give_most ih

theorem iter_most {most : Nat} {W : Nat → Nat} {n : Nat} (r : Nat) {p : List Int × (Nat → Nat)} (h : p.1.length ≤ most) : (iter most W n r p).1.length ≤ most := by
  induction r with
  | zero => exact h
  | succ r ih => rw [iter]; exact roundTo_most n ih

theorem roundTo_served {most : Nat} {W : Nat → Nat} {n : Nat} {p : List Int × (Nat → Nat)} (h : Served most n p) (i : Nat) (hi : i ≤ n) : roundTo most W i p = p := by
  induction i with
  | zero => rfl
  | succ i ih =>
    rw [roundTo, ih (by omega)]
    refine give_still ?_
    unfold gives
    rcases h with h | h
    · omega
    · rw [h i (by omega)]; omega

theorem iter_served {most : Nat} {W : Nat → Nat} {n : Nat} {p : List Int × (Nat → Nat)} (r m : Nat) (h : Served most n (iter most W n r p)) : iter most W n (r + m) p = iter most W n r p := by
  induction m with
  | zero => rfl
  | succ m ih => rw [← Nat.add_assoc, iter, ih]; exact roundTo_served h n (Nat.le_refl _)

theorem iter_one {most : Nat} {W : Nat → Nat} {n : Nat} {p : List Int × (Nat → Nat)} {r s : Nat} (h : Served most n (iter most W n r p)) (k : Served most n (iter most W n s p)) : iter most W n r p = iter most W n s p := by
  rcases Nat.le_total r s with hl | hl
  · obtain ⟨m, rfl⟩ := Nat.le.dest hl
    exact (iter_served r m h).symm
  · obtain ⟨m, rfl⟩ := Nat.le.dest hl
    exact iter_served s m k

/-- A round that adds nothing: all are served. -/
theorem roundTo_still {most : Nat} {W : Nat → Nat} {p : List Int × (Nat → Nat)} (hm : p.1.length < most) (i : Nat) (hW : ∀ j, j < i → 1 ≤ W j) (h : (roundTo most W i p).1.length = p.1.length) :
    roundTo most W i p = p ∧ ∀ j, j < i → p.2 j = 0 := by
  induction i with
  | zero => exact ⟨rfl, fun j hj => by omega⟩
  | succ i ih =>
    rw [roundTo, give_len] at h
    have hl := roundTo_len most W i p
    obtain ⟨h1, h2⟩ := ih (fun j hj => hW j (by omega)) (by omega)
    have hg : gives most W (roundTo most W i p).2 i (roundTo most W i p).1.length = 0 := by omega
    refine ⟨by rw [roundTo, give_still hg, h1], fun j hj => ?_⟩
    by_cases e : j = i
    · subst e
      rw [h1] at hg
      unfold gives at hg
      have := hW j hj
      omega
    · exact h2 j (by omega)

theorem round_still {most : Nat} {W : Nat → Nat} {n : Nat} {p : List Int × (Nat → Nat)} (hm : p.1.length ≤ most) (hW : ∀ j, j < n → 1 ≤ W j) (h : (roundTo most W n p).1.length = p.1.length) :
    Served most n (roundTo most W n p) := by
  by_cases e : p.1.length = most
  · exact .inl (h.trans e)
  · obtain ⟨h1, h2⟩ := roundTo_still (by omega) n hW h
    rw [h1]
    exact .inr h2

theorem iter_many {most : Nat} {W : Nat → Nat} {n : Nat} {p : List Int × (Nat → Nat)} (hm : p.1.length ≤ most) (hW : ∀ j, j < n → 1 ≤ W j) (r : Nat) :
    Served most n (iter most W n r p) ∨ r ≤ (iter most W n r p).1.length := by
  induction r with
  | zero => exact .inr (Nat.zero_le _)
  | succ r ih =>
    rcases ih with ih | ih
    · left; rw [iter, roundTo_served ih n (Nat.le_refl _)]; exact ih
    · by_cases e : (roundTo most W n (iter most W n r p)).1.length = (iter most W n r p).1.length
      · exact .inl (round_still (iter_most r hm) hW e)
      · right
        have := roundTo_len most W n (iter most W n r p)
        rw [iter]; omega

theorem iter_end {most : Nat} {W : Nat → Nat} {n : Nat} {p : List Int × (Nat → Nat)} (hm : p.1.length ≤ most) (hW : ∀ j, j < n → 1 ≤ W j) : Served most n (iter most W n (most + 1) p) := by
  rcases iter_many hm hW (most + 1) with h | h
  · exact h
  · have := iter_most (W := W) (n := n) (most + 1) hm
    omega

/-- What holds of all that was served. -/
structure Kept (n : Nat) (S0 : Nat → Nat) (p : List Int × (Nat → Nat)) : Prop where
  is : ∀ x ∈ p.1, ∃ i, i < n ∧ x = (i : Int)
  all : ∀ i, i < n → p.1.count (i : Int) + p.2 i = S0 i

theorem give_kept {most n : Nat} {W S0 : Nat → Nat} {p : List Int × (Nat → Nat)} (h : Kept n S0 p) {i : Nat} (hi : i < n) : Kept n S0 (give most W i p) := by
  obtain ⟨h1, h2⟩ := h
  refine ⟨?_, ?_⟩
  · intro x hx
    unfold give at hx
    rcases List.mem_append.1 hx with hx | hx
    · exact h1 x hx
    · exact ⟨i, hi, List.eq_of_mem_replicate hx⟩
  · intro j hj
    unfold give
    simp only [List.count_append, List.count_replicate]
    have := h2 j hj
    have hg : gives most W p.2 i p.1.length ≤ p.2 i := by unfold gives; omega
    by_cases e : j = i
    · subst e
      simp [upd_same]; omega
    · rw [upd_other _ _ _ _ e]
      have : ((i : Int) == (j : Int)) = false := by simp; omega
      simp [this]; omega

theorem roundTo_kept {most n : Nat} {W S0 : Nat → Nat} {p : List Int × (Nat → Nat)} (h : Kept n S0 p) (i : Nat) (hi : i ≤ n) : Kept n S0 (roundTo most W i p) := by
  induction i with
  | zero => exact h
  | succ i ih => exact give_kept (ih (by omega)) (by omega)

theorem iter_kept {most n : Nat} {W S0 : Nat → Nat} {p : List Int × (Nat → Nat)} (h : Kept n S0 p) (r : Nat) : Kept n S0 (iter most W n r p) := by
  induction r with
  | zero => exact h
  | succ r ih => exact roundTo_kept ih n (Nat.le_refl _)

/-- Fair up to job i of round r. -/
def FairAt (most n : Nat) (W S0 : Nat → Nat) (r i : Nat) (p : List Int × (Nat → Nat)) : Prop :=
  (∀ j, j < n → p.2 j ≤ S0 j) ∧
  ((p.1.length = most ∧ ∃ q, ∀ j, j < n → 0 < p.2 j → q * W j ≤ S0 j - p.2 j ∧ S0 j - p.2 j ≤ (q + 1) * W j) ∨
   (∀ j, j < n → 0 < p.2 j → S0 j - p.2 j = (if j < i then r + 1 else r) * W j))

theorem give_fair {most n : Nat} {W S0 : Nat → Nat} {r i : Nat} {p : List Int × (Nat → Nat)} (hm : p.1.length ≤ most) (h : FairAt most n W S0 r i p) (hi : i < n) : FairAt most n W S0 r (i + 1) (give most W i p) := by
  obtain ⟨h0, h⟩ := h
  by_cases hl : p.1.length = most
  · rw [give_still (by unfold gives; omega)]
    refine ⟨h0, .inl ⟨hl, ?_⟩⟩
    rcases h with ⟨_, q, h⟩ | h
    · exact ⟨q, h⟩
    · refine ⟨r, fun j hj hp => ?_⟩
      rw [h j hj hp]
      split
      · exact ⟨Nat.mul_le_mul_right _ (by omega), Nat.le_refl _⟩
      · exact ⟨Nat.le_refl _, Nat.mul_le_mul_right _ (by omega)⟩
  · rcases h with ⟨h, _⟩ | h
    · exact absurd h hl
    · obtain ⟨t, ht⟩ : ∃ t, gives most W p.2 i p.1.length = t := ⟨_, rfl⟩
      have htw : t ≤ W i ∧ t ≤ p.2 i ∧ t ≤ most - p.1.length ∧ (t = W i ∨ t = p.2 i ∨ t = most - p.1.length) := by
        rw [← ht]; unfold gives; omega
      have e1 : (give most W i p).1.length = p.1.length + t := by rw [give_len, ht]
      have e2 : (give most W i p).2 = upd p.2 i (p.2 i - t) := by unfold give; rw [ht]
      have h0' : ∀ j, j < n → (give most W i p).2 j ≤ S0 j := by
        intro j hj
        rw [e2]
        by_cases e : j = i
        · subst e; rw [upd_same]; have := h0 j hj; omega
        · rw [upd_other _ _ _ _ e]; exact h0 j hj
      refine ⟨h0', ?_⟩
      by_cases hw : t = W i ∨ t = p.2 i
      · right
        intro j hj hp
        rw [e2] at hp ⊢
        by_cases e : j = i
        · subst e
          rw [upd_same] at hp ⊢
          rw [if_pos (by omega)]
          have hj2 := h j hj (by omega)
          rw [if_neg (by omega)] at hj2
          have := h0 j hj
          rw [Nat.add_mul]
          omega
        · rw [upd_other _ _ _ _ e] at hp ⊢
          rw [h j hj hp]
          have : (j < i) ↔ (j < i + 1) := by omega
          simp only [this]
      · left
        refine ⟨by omega, r, fun j hj hp => ?_⟩
        rw [e2] at hp ⊢
        by_cases e : j = i
        · subst e
          rw [upd_same] at hp ⊢
          have hj2 := h j hj (by omega)
          rw [if_neg (by omega)] at hj2
          have := h0 j hj
          rw [Nat.add_mul]
          omega
        · rw [upd_other _ _ _ _ e] at hp ⊢
          rw [h j hj hp]
          split
          · exact ⟨Nat.mul_le_mul_right _ (by omega), Nat.le_refl _⟩
          · exact ⟨Nat.le_refl _, Nat.mul_le_mul_right _ (by omega)⟩

theorem roundTo_fair {most n : Nat} {W S0 : Nat → Nat} {r : Nat} {p : List Int × (Nat → Nat)} (hm : p.1.length ≤ most) (h : FairAt most n W S0 r 0 p) (i : Nat) (hi : i ≤ n) : FairAt most n W S0 r i (roundTo most W i p) := by
  induction i with
  | zero => exact h
  | succ i ih => exact give_fair (roundTo_most i hm) (ih (by omega)) (by omega)

theorem iter_fair {most n : Nat} {W S0 : Nat → Nat} {p : List Int × (Nat → Nat)} (hm : p.1.length ≤ most) (h : FairAt most n W S0 0 0 p) (r : Nat) : FairAt most n W S0 r 0 (iter most W n r p) := by
  induction r with
  | zero => exact h
  | succ r ih =>
    have := roundTo_fair (iter_most r hm) ih n (Nat.le_refl _)
    refine ⟨this.1, ?_⟩
    rcases this.2 with h | h
    · exact .inl h
    · right
      intro j hj hp
      rw [if_neg (by omega)]
      have := h j hj hp
      rw [if_pos hj] at this
      exact this

theorem fair_start (most n : Nat) (W S0 : Nat → Nat) : FairAt most n W S0 0 0 ([], S0) :=
  ⟨fun _ _ => Nat.le_refl _, .inr fun j _ _ => by simp⟩
theorem kept_start (n : Nat) (S0 : Nat → Nat) : Kept n S0 ([], S0) := ⟨by simp, by simp⟩

/-- In short: all are within a round. -/
theorem iter_near {most n : Nat} {W S0 : Nat → Nat} (r : Nat) : ∃ q, ∀ j, j < n → 0 < (iter most W n r ([], S0)).2 j →
    q * W j ≤ (iter most W n r ([], S0)).1.count (j : Int) ∧ (iter most W n r ([], S0)).1.count (j : Int) ≤ (q + 1) * W j := by
  have hf := (iter_fair (Nat.zero_le _) (fair_start most n W S0) r)
  have hk := iter_kept (most := most) (W := W) (kept_start n S0) r
  have key : ∀ j, j < n → S0 j - (iter most W n r ([], S0)).2 j = (iter most W n r ([], S0)).1.count (j : Int) := fun j hj => by have := hk.all j hj; omega
  rcases hf.2 with ⟨_, q, h⟩ | h
  · exact ⟨q, fun j hj hp => by rw [← key j hj]; exact h j hj hp⟩
  · refine ⟨r, fun j hj hp => ?_⟩
    rw [← key j hj, h j hj hp, if_neg (by omega)]
    exact ⟨Nat.le_refl _, Nat.mul_le_mul_right _ (by omega)⟩

/-! ### Shares -/
def sumTo (f : Nat → Nat) : Nat → Nat
  | 0 => 0
  | m + 1 => sumTo f m + f m

theorem sumTo_mono {f : Nat → Nat} {m k : Nat} (h : m ≤ k) : sumTo f m ≤ sumTo f k := by
  induction k with
  | zero => obtain rfl : m = 0 := by omega
            exact Nat.le_refl _
  | succ k ih =>
    by_cases e : m = k + 1
    · subst e; exact Nat.le_refl _
    · have := ih (by omega)
      rw [sumTo]; omega

theorem sumTo_pos {f : Nat → Nat} {m : Nat} (h : 0 < m) (hf : ∀ i, i < m → 1 ≤ f i) : 1 ≤ sumTo f m := by
  obtain ⟨k, rfl⟩ : ∃ k, m = k + 1 := ⟨m - 1, by omega⟩
  have := hf k (by omega)
  rw [sumTo]; omega

theorem sumTo_le {f : Nat → Nat} {m B : Nat} (hf : ∀ i, i < m → f i ≤ B) : sumTo f m ≤ m * B := by
  induction m with
  | zero => simp [sumTo]
  | succ m ih =>
    have := ih (fun i hi => hf i (by omega))
    have := hf m (by omega)
    rw [sumTo, Nat.add_mul]; omega

/-- The share of job i, rounded down. -/
def part (n T : Nat) (W : Nat → Nat) (i : Nat) : Nat := n * W i / T

theorem part_sum (n T : Nat) (W : Nat → Nat) (hT : 0 < T) (m : Nat) :
    T * sumTo (part n T W) m ≤ n * sumTo W m ∧ n * sumTo W m ≤ T * sumTo (part n T W) m + m * (T - 1) := by
  induction m with
  | zero => simp [sumTo]
  | succ m ih =>
    have hd := Nat.div_add_mod (n * W m) T
    have hm := Nat.mod_lt (n * W m) hT
    simp only [sumTo, Nat.mul_add, Nat.add_mul]
    unfold part at ih ⊢
    generalize n * W m / T = q at *
    generalize n * W m % T = r at *
    generalize sumTo (fun i => n * W i / T) m = u at *
    omega

theorem part_left (n : Nat) (W : Nat → Nat) (m : Nat) (hT : 0 < sumTo W m) :
    sumTo (part n (sumTo W m) W) m ≤ n ∧ n - sumTo (part n (sumTo W m) W) m ≤ m := by
  obtain ⟨h1, h2⟩ := part_sum n (sumTo W m) W hT m
  generalize sumTo (part n (sumTo W m) W) m = u at *
  generalize sumTo W m = T at *
  have e1 : u ≤ n := by
    rw [Nat.mul_comm n T] at h1
    exact Nat.le_of_mul_le_mul_left h1 hT
  refine ⟨e1, ?_⟩
  obtain ⟨d, rfl⟩ := Nat.le.dest e1
  rw [Nat.add_mul, Nat.mul_comm u T] at h2
  have h3 : d * T ≤ m * (T - 1) := by omega
  have h4 : m * (T - 1) ≤ m * T := Nat.mul_le_mul_left _ (by omega)
  have h5 : d ≤ m := Nat.le_of_mul_le_mul_right (Nat.le_trans h3 h4) hT
  omega

def shareOf (n m : Nat) (W : Nat → Nat) (i : Nat) : Nat :=
  part n (sumTo W m) W i + if i < n - sumTo (part n (sumTo W m) W) m then 1 else 0

theorem sumTo_ones (f : Nat → Nat) (d m : Nat) : sumTo (fun i => f i + if i < d then 1 else 0) m = sumTo f m + min d m := by
  induction m with
  | zero => simp [sumTo]
  | succ m ih =>
    simp only [sumTo, ih]
    split <;> omega

theorem share_sum (n m : Nat) (W : Nat → Nat) (hT : 0 < sumTo W m) : sumTo (shareOf n m W) m = n := by
  unfold shareOf
  rw [sumTo_ones]
  obtain ⟨h1, h2⟩ := part_left n W m hT
  omega

end Go.Proofs.YtoofalchkedciaaGreatDoor

namespace Go.Proofs.YtoofalchkedciaaGreatDoor
open Go.RowKit

set_option maxRecDepth 100000 in
set_option maxHeartbeats 1000000 in
theorem same_deeds (u v : Value) (bs : List Dd) (w : World) (hu : DeedsAt w u bs) (hv : DeedsAt w v bs) (hl : bs.length ≤ 9223372036854775807) :
    Calls Tryz.prog 31 #[u, v] w fun e w' => e = .returned (.bool true) ∧ ∃ n, w' = w.drewN n := by
  obtain ⟨a, ca, rfl, ha⟩ := hu.opt
  obtain ⟨b, cb, rfl, hb⟩ := hv.opt
  obtain ⟨n, hn⟩ : ∃ n, bs.length = n := ⟨_, rfl⟩
  rw [hn] at ha hb hl ⊢
  clear hu hv hn
  go_enter Tryz.func31, Tryz.ntmps31
  go_wp2_with fail
  go_loopw [5] (fun vi wr => ∃ i : Nat, i ≤ n ∧ vi = .int .i64 i ∧ ∃ m, w.drewN m = wr) (fun vi _ => n - (intOf vi).toNat)
  case atStart => exact ⟨0, Nat.zero_le _, rfl, 0, rfl⟩
  case round =>
    obtain ⟨i, hi, rfl, m, rfl⟩ := hrel
    by_cases hin : i < n
    · obtain ⟨ba, oa, rfl, k0, k0', k0'', k0'''⟩ := ha i hin
      obtain ⟨bb, ob, rfl, k1, k1', k1'', k1'''⟩ := hb i hin
      generalize ddAt bs i = b9 at *
      obtain ⟨x, y, z, t⟩ := b9
      simp only at k0 k0' k0'' k0''' k1 k1' k1'' k1'''
      clear ha hb
      go_wp2_with fail
      go_quiet (fail)
      go_wp2
      go_roundw
      case rel => exact ⟨i + 1, by omega, by go_num, _, rfl⟩
      case measure => (simp [intOf]; try omega)
    · obtain rfl : i = n := by omega
      clear ha hb
      go_wp2
      go_ret
      exact ⟨rfl, _, rfl⟩

end Go.Proofs.YtoofalchkedciaaGreatDoor
