/-
  Contracts of weave's readers, all together.
-/
import Derived.Test.YtloojhnhialenaaDoorWeaveD
namespace Go.Proofs.YtloojhnhialenaaDoor
open Go.RowKit Go.Deep

theorem weave_all (base R : Nat) (s : ByteArray) (hs : s.size ≤ 200) : ∀ N k, s.size - k ≤ N →
    (∀ f, 3 * (s.size - k) + 1 ≤ f → ∀ F pv p w, RdAt w base F R s k pv p → ErrsAt w base → Calls Tryd.prog 75 #[.pointer (some ⟨R, 0, none⟩)] w (RdPost base F R s pv p w (pOne f (rest s k)))) ∧
    (∀ f, 3 * (s.size - k) + 2 ≤ f → ∀ F pv p w, RdAt w base F R s k pv p → ErrsAt w base → Calls Tryd.prog 55 #[.pointer (some ⟨R, 0, none⟩)] w (RdPost base F R s pv p w (pBehind f (rest s k)))) ∧
    (∀ f, 3 * (s.size - k) + 3 ≤ f → ∀ F pv p w, RdAt w base F R s k pv p → ErrsAt w base → Calls Tryd.prog 38 #[.pointer (some ⟨R, 0, none⟩)] w (RdPost base F R s pv p w (pBeside f (rest s k)))) := by
  intro N
  induction N with
  | zero =>
    intro k hk
    have h1 : ∀ k, s.size - k ≤ 0 → ∀ f, 3 * (s.size - k) + 1 ≤ f → ∀ F pv p w, RdAt w base F R s k pv p → ErrsAt w base → Calls Tryd.prog 75 #[.pointer (some ⟨R, 0, none⟩)] w (RdPost base F R s pv p w (pOne f (rest s k))) := by
      intro k hk f hf F pv p w h hv
      obtain ⟨f0, rfl⟩ : ∃ f0, f = f0 + 1 := ⟨f - 1, by omega⟩
      refine weave_one base R s hs f0 k (fun hc => ?_) F pv p w h hv
      rw [rest_end s k (by omega)] at hc; cases hc
    have h2 : ∀ k, s.size - k ≤ 0 → ∀ f, 3 * (s.size - k) + 2 ≤ f → ∀ F pv p w, RdAt w base F R s k pv p → ErrsAt w base → Calls Tryd.prog 55 #[.pointer (some ⟨R, 0, none⟩)] w (RdPost base F R s pv p w (pBehind f (rest s k))) := by
      intro k hk f hf F pv p w h hv
      obtain ⟨f0, rfl⟩ : ∃ f0, f = f0 + 1 := ⟨f - 1, by omega⟩
      exact weave_behind base R s hs f0 k (by omega) (fun k' f' hk' hf' => h1 k' (by omega) f' hf') F pv p w h hv
    refine ⟨h1 k hk, h2 k hk, ?_⟩
    intro f hf F pv p w h hv
    obtain ⟨f0, rfl⟩ : ∃ f0, f = f0 + 1 := ⟨f - 1, by omega⟩
    exact weave_beside base R s hs f0 k (by omega) (fun k' f' hk' hf' => h2 k' (by omega) f' hf') F pv p w h hv
  | succ N ih =>
    intro k hk
    have h1 : ∀ k, s.size - k ≤ N + 1 → ∀ f, 3 * (s.size - k) + 1 ≤ f → ∀ F pv p w, RdAt w base F R s k pv p → ErrsAt w base → Calls Tryd.prog 75 #[.pointer (some ⟨R, 0, none⟩)] w (RdPost base F R s pv p w (pOne f (rest s k))) := by
      intro k hk f hf F pv p w h hv
      obtain ⟨f0, rfl⟩ : ∃ f0, f = f0 + 1 := ⟨f - 1, by omega⟩
      refine weave_one base R s hs f0 k (fun hc => ?_) F pv p w h hv
      have hks : k < s.size := by
        rcases Nat.lt_or_ge k s.size with h' | h'
        · exact h'
        · rw [rest_end s k h'] at hc; cases hc
      exact (ih (k + 1) (by omega)).2.2 f0 (by omega)
    have h2 : ∀ k, s.size - k ≤ N + 1 → ∀ f, 3 * (s.size - k) + 2 ≤ f → ∀ F pv p w, RdAt w base F R s k pv p → ErrsAt w base → Calls Tryd.prog 55 #[.pointer (some ⟨R, 0, none⟩)] w (RdPost base F R s pv p w (pBehind f (rest s k))) := by
      intro k hk f hf F pv p w h hv
      obtain ⟨f0, rfl⟩ : ∃ f0, f = f0 + 1 := ⟨f - 1, by omega⟩
      exact weave_behind base R s hs f0 k (by omega) (fun k' f' hk' hf' => h1 k' (by omega) f' hf') F pv p w h hv
    refine ⟨h1 k hk, h2 k hk, ?_⟩
    intro f hf F pv p w h hv
    obtain ⟨f0, rfl⟩ : ∃ f0, f = f0 + 1 := ⟨f - 1, by omega⟩
    exact weave_beside base R s hs f0 k (by omega) (fun k' f' hk' hf' => h2 k' (by omega) f' hf') F pv p w h hv

end Go.Proofs.YtloojhnhialenaaDoor
