/-
  The greedy way's bits may be so, in plain words. No program is named here.
-/
import Derived.Test.YtmopbimineoogaaP25GreedyBound
import Derived.Test.YtmopbimineoogaaP26GreedyBound
namespace Go.Proofs.Ytmopbimineoogaa

theorem scan_push {p : PlanL} {hands : Int} {bs : List Bt} {b : Bt} (h : scanK p hands bs bs.length = 0) (hb : bitFault p hands bs b = 0) :
    scanK p hands (bs ++ [b]) (bs ++ [b]).length = 0 := by
  unfold scanK at *
  rw [firstE_all] at h ⊢
  intro k hk
  rw [List.length_append, List.length_singleton] at hk
  by_cases e : k = bs.length
  · subst e
    rw [List.take_left']
    · have : bitAt (bs ++ [b]) bs.length = b := by simp [bitAt]
      rw [this]; exact hb
    · rfl
  · have h1 := h k (by omega)
    rw [List.take_append_of_le_length (by omega)]
    have : bitAt (bs ++ [b]) k = bitAt bs k := by unfold bitAt; rw [List.getElem?_append_left (by omega)]
    rw [this]; exact h1

theorem rowBits_mem {s : Nat} {row : List Nat} {b : Bt} (h : b ∈ rowBits s row) : ∃ j, ∃ hj : j < row.length, b = ⟨(s : Int), (j : Int), ((row[j] : Nat) : Int)⟩ := by
  unfold rowBits at h
  rw [List.mem_map] at h
  obtain ⟨j, hj, rfl⟩ := h
  have hj' : j < row.length := by simpa using hj
  exact ⟨j, hj', by rw [List.getElem?_eq_getElem hj']; rfl⟩

theorem gBits_mem {p : PlanL} {hands s : Nat} {b : Bt} (h : b ∈ gBits p hands s) : ∃ t j, t < s ∧ ∃ hj : j < (gAt p hands t).length, b = ⟨(t : Int), (j : Int), (((gAt p hands t)[j] : Nat) : Int)⟩ := by
  induction s with
  | zero => simp [gBits] at h
  | succ s ih =>
    rw [gBits, List.mem_append] at h
    rcases h with h | h
    · obtain ⟨t, j, ht, hj, e⟩ := ih h
      exact ⟨t, j, by omega, hj, e⟩
    · obtain ⟨j, hj, e⟩ := rowBits_mem h
      exact ⟨s, j, by omega, hj, e⟩

theorem manyOf_app (a b : List Bt) (t : Int) : manyOf (a ++ b) t = manyOf a t + manyOf b t := by unfold manyOf; rw [List.countP_append]

theorem manyOf_row (s : Nat) (row : List Nat) (hn : row.Nodup) (i : Nat) : manyOf (rowBits s row) (i : Int) = if i ∈ row then 1 else 0 := by
  induction row using snoc_cases with
  | h0 => simp [rowBits, manyOf]
  | h1 l a ih =>
    rw [List.nodup_append] at hn
    rw [rowBits_push, manyOf_push, ih hn.1]
    have ha : a ∉ l := fun hm => hn.2.2 a hm a (by simp) rfl
    by_cases e : a = i
    · subst e; simp [ha]
    · have e2 : ¬ i = a := fun h => e h.symm
      simp [e2]; omega

theorem gBits_many (p : PlanL) (hands s i : Nat) : (manyOf (gBits p hands s) (i : Int) : Int) + gLeft p hands s i = wkOf p i := by
  induction s with
  | zero => simp [gBits, manyOf, gLeft]
  | succ s ih =>
    rw [gBits, manyOf_app, manyOf_row s (gAt p hands s) (gRow_nodup _ _ _ _), gLeft_succ]
    by_cases e : i ∈ gAt p hands s
    · simp only [if_pos e]; omega
    · simp only [if_neg e]; omega

theorem bitAt_row (s : Nat) (row : List Nat) (j : Nat) (hj : j < row.length) : rowBits s (row.take (j + 1)) = rowBits s (row.take j) ++ [⟨(s : Int), (j : Int), ((row[j] : Nat) : Int)⟩] := by
  rw [List.take_succ_eq_append_getElem hj, rowBits_push, List.length_take, Nat.min_eq_left (by omega)]

theorem gBits_scan {p : PlanL} {hands s : Nat} (hs : s ≤ 10000) : scanK p hands (gBits p hands s) (gBits p hands s).length = 0 := by
  induction s with
  | zero => rfl
  | succ s ih =>
    have ih := ih (by omega)
    have hnd := gRow_nodup p hands (gLeft p hands s) p.length
    have hlen := gRow_len p hands (gLeft p hands s) p.length
    have hpre : ∀ j, j ≤ (gAt p hands s).length → scanK p hands (gBits p hands s ++ rowBits s ((gAt p hands s).take j)) (gBits p hands s ++ rowBits s ((gAt p hands s).take j)).length = 0 := by
      intro j
      induction j with
      | zero => intro _; simpa [rowBits] using ih
      | succ j ihj =>
        intro hj
        have ihj := ihj (by omega)
        rw [bitAt_row s _ j (by omega), ← List.append_assoc]
        refine scan_push ihj ?_
        have hm := gAt_mem (List.getElem_mem (show j < (gAt p hands s).length by omega))
        have hpos := gOk_pos hm.2
        have hlt := hm.1
        have hnot : (gAt p hands s)[j] ∉ (gAt p hands s).take j := by
          intro hin
          obtain ⟨q, hq, e⟩ := List.mem_iff_getElem.1 hin
          rw [List.length_take] at hq
          rw [List.getElem_take] at e
          have := (List.getElem_inj (show (gAt p hands s).Nodup from hnd)).1 e
          omega
        have hmany : manyOf (gBits p hands s ++ rowBits s ((gAt p hands s).take j)) (((gAt p hands s)[j] : Nat) : Int) = manyOf (gBits p hands s) (((gAt p hands s)[j] : Nat) : Int) := by
          rw [manyOf_app, manyOf_row s ((gAt p hands s).take j) (List.Sublist.nodup (List.take_sublist _ _) hnd), if_neg hnot]; rfl
        have hgm := gBits_many p hands s (gAt p hands s)[j]
        have hjh : j < hands := by have : (gAt p hands s).length ≤ hands := hlen; omega
        unfold bitFault
        rw [if_neg (by simp only []; omega), if_neg, if_neg]
        · rw [hmany, Int.toNat_natCast]; omega
        · unfold clashB
          rw [Bool.not_eq_true, List.any_eq_false]
          intro x hx
          rw [List.mem_append] at hx
          rcases hx with hx | hx
          · obtain ⟨t, q, ht, hq, rfl⟩ := gBits_mem hx
            have : ¬ ((t : Int) = (s : Int)) := by omega
            simp [this]
          · obtain ⟨q, hq, rfl⟩ := rowBits_mem hx
            rw [List.length_take] at hq
            have h1 : ¬ ((q : Int) = (j : Int)) := by omega
            have h2 : ((gAt p hands s).take j)[q]'(by rw [List.length_take]; exact hq) ≠ (gAt p hands s)[j] := fun e => hnot (e ▸ List.getElem_mem _)
            simp only [h1, decide_false, Bool.false_or, Bool.and_eq_true, decide_eq_true_eq, true_and]
            intro e
            exact h2 (by omega)
    have := hpre _ (Nat.le_refl _)
    rw [List.take_length] at this
    exact this

theorem gLeft_mono (p : PlanL) (hands : Nat) {s t : Nat} (h : s ≤ t) (i : Nat) : gLeft p hands t i ≤ gLeft p hands s i := by
  induction t with
  | zero => obtain rfl : s = 0 := by omega
            exact Int.le_refl _
  | succ t ih =>
    by_cases e : s = t + 1
    · subst e; exact Int.le_refl _
    · have := (gLeft_down p hands t i).1
      have := ih (by omega)
      omega

/-- The bits of the greedy way may be so. -/
theorem gBits_ok {p : PlanL} {hands s : Nat} (h : PlanOk p) (h1 : 1 ≤ hands) (he : GEnd p hands s) (hs : s ≤ 10000) : bitsErr p hands (gBits p hands s) = 0 := by
  unfold bitsErr
  rw [if_neg (by rw [gBits_scan hs]; simp), if_neg, if_neg]
  · unfold earlyB
    rw [Bool.not_eq_true, List.any_eq_false]
    intro b hb
    obtain ⟨t, j, ht, hj, rfl⟩ := gBits_mem hb
    have hm := gAt_mem (List.getElem_mem hj)
    have hnd := gOk_need hm.2
    rw [Bool.not_eq_true, List.any_eq_false]
    simp only [Int.toNat_natCast]
    intro k hk
    have hkl := hnd k hk
    have hkb := h.need _ k hk
    obtain ⟨kn, rfl⟩ := Int.eq_ofNat_of_zero_le hkb.1
    rw [Int.toNat_natCast] at hkl
    have hkp : kn < p.length := by omega
    have hwk := (h.work kn hkp).1
    have ht1 : 1 ≤ t := by
      rcases t with _ | t
      · have : gLeft p hands 0 kn = wkOf p kn := rfl
        omega
      · omega
    have hle : lastF (gBits p hands s) (kn : Int) ≤ (t : Int) - 1 := by
      refine lastF_le (by omega) fun c hc hct => ?_
      obtain ⟨u, q, hu, hq, rfl⟩ := gBits_mem hc
      have hm2 := gAt_mem (List.getElem_mem hq)
      have hp2 := gOk_pos hm2.2
      have hct : ((((gAt p hands u)[q] : Nat)) : Int) = (kn : Int) := hct
      have e : (gAt p hands u)[q] = kn := by omega
      rw [e] at hp2
      by_cases hut : t ≤ u
      · have := gLeft_mono p hands hut kn
        omega
      · show (u : Int) ≤ _; omega
    simp only [decide_eq_true_eq]
    omega
  · unfold lackB
    rw [Bool.not_eq_true, List.any_eq_false]
    intro i hi
    have hi' : i < p.length := by simpa using hi
    have := gBits_many p hands s i
    have := gEnd_zero h h1 he i hi'
    simp only [decide_eq_true_eq]
    omega

end Go.Proofs.Ytmopbimineoogaa
