/-
  Which tasks live, by all that is above them. No program is named here.
-/
import Derived.Test.YtadjcooemeaaeaaDoorGroupP
import Derived.Test.YtadjcooemeaaeaaDoorViaP
namespace Go.Proofs.YtadjcooemeaaeaaDoor

theorem live_above {p : PlanL} (h : PlanOk p) (B : Nat → Bool) (i : Nat) (hi : i < p.length) : liveF p B i = true ↔ (B i = true ∧ ∀ m, m < p.length → Reach p i m → B m = true) := by
  obtain ⟨r, hr⟩ : ∃ r, rk p i = r := ⟨_, rfl⟩
  induction r using Nat.strongRecOn generalizing i with
  | ind r ih =>
    rw [liveF_eq h B i hi, Bool.and_eq_true, List.all_eq_true]
    constructor
    · rintro ⟨h1, h2⟩
      refine ⟨h1, fun m hm hrm => ?_⟩
      have key : ∀ m, Reach p i m → ∃ k : Nat, (k : Int) ∈ ndOf p i ∧ (m = k ∨ Reach p k m) := by
        intro m hm
        induction hm with
        | one h => exact ⟨_, h, .inl rfl⟩
        | more _ h3 ih2 =>
          obtain ⟨k, hk, e⟩ := ih2
          refine ⟨k, hk, .inr ?_⟩
          rcases e with rfl | e
          · exact .one h3
          · exact .more e h3
      obtain ⟨k, hk, e⟩ := key m hrm
      have hkn := (h.need i k hk).2
      have hl := h2 (k : Int) hk
      rw [Int.toNat_natCast] at hl
      have h3 := (ih _ (by rw [← hr]; exact rk_lt h hk) k (by omega) rfl).1 hl
      rcases e with rfl | e
      · exact h3.1
      · exact h3.2 m hm e
    · rintro ⟨h1, h2⟩
      refine ⟨h1, fun x hx => ?_⟩
      have hb := h.need i x hx
      obtain ⟨k, rfl⟩ := Int.eq_ofNat_of_zero_le hb.1
      rw [Int.toNat_natCast]
      refine (ih _ (by rw [← hr]; exact rk_lt h hx) k (by omega) rfl).2 ⟨h2 k (by omega) (.one hx), fun m hm hrm => h2 m hm ((Reach.one hx).trans hrm)⟩

/-- So many of the ones above looked at. -/
noncomputable def okM (p : PlanL) (B : Nat → Bool) (k m : Nat) : Bool := B k && (List.range m).all (fun x => !(aboveOf p k x && !B x))
theorem okM_zero (p : PlanL) (B : Nat → Bool) (k : Nat) : okM p B k 0 = B k := by simp [okM]
theorem okM_succ (p : PlanL) (B : Nat → Bool) (k m : Nat) : okM p B k (m + 1) = (okM p B k m && !(aboveOf p k m && !B m)) := by
  unfold okM
  rw [List.range_succ, List.all_append, Bool.and_assoc]
  simp
theorem okM_all {p : PlanL} (h : PlanOk p) (B : Nat → Bool) (k : Nat) (hk : k < p.length) : okM p B k p.length = liveF p B k := by
  rw [Bool.eq_iff_iff, live_above h B k hk]
  unfold okM
  rw [Bool.and_eq_true, List.all_eq_true]
  constructor
  · rintro ⟨h1, h2⟩
    refine ⟨h1, fun m hm hr => ?_⟩
    have := h2 m (by simpa using hm)
    rw [(aboveOf_iff p k m).2 hr] at this
    simpa using this
  · rintro ⟨h1, h2⟩
    refine ⟨h1, fun m hm => ?_⟩
    have hm : m < p.length := by simpa using hm
    cases e : aboveOf p k m with
    | false => rfl
    | true => simp [h2 m hm ((aboveOf_iff p k m).1 e)]

end Go.Proofs.YtadjcooemeaaeaaDoor
