/-
  The needs of one task of a plan of the call's own written anew.
-/
import Derived.Test.YtloojhnhialenaaDoorPlanW
import Derived.Test.YtloojhnhialenaaDoorSubP
namespace Go.Proofs.YtloojhnhialenaaDoor
open Go.RowKit Go.Deep

theorem flatP_wk {p p' : PlanL} (N : Nat → Value) (n : Nat) (h : ∀ i, i < n → wkOf p i = wkOf p' i) : flatP p N n = flatP p' N n := by
  unfold flatP
  refine List.map_congr_left fun j hj => ?_
  have hj : j < n * 2 := by simpa using hj
  rw [h (j / 2) (by omega)]

theorem OwnPlan.setNeeds {w : World} {base : Nat} {F F' : Nat → Prop} {g cap n : Nat} {p p' : PlanL} (k : Nat) {u : Value} {l : List Int} (h : OwnPlan w base F (.slice (some ⟨g, 0, none⟩) n cap) p) (hk : k < p.length)
    (hl : p'.length = p.length) (hw : ∀ i, i < p.length → wkOf p i = wkOf p' i) (hn : ∀ i, i < p.length → ndOf p' i = if i = k then l else ndOf p i)
    (hu : Reads w u l) (hF : ∀ x, F x → F' x) (hu2 : l ≠ [] → ∀ x ∈ own u, F' x ∧ x ≠ g) :
    OwnPlan (w.setCell ⟨g, k * 2 + 1, none⟩ u) base F' (.slice (some ⟨g, 0, none⟩) n cap) p' := by
  have hg : n = p.length := by obtain ⟨a, c, e, _⟩ := h.form; injection e
  subst hg
  have hown : own (.slice (some ⟨g, 0, none⟩) p.length cap) = [g] := by simp [own, Value.ownBlock]
  obtain ⟨N, k1, k2, k3, k4⟩ := h
  have hset : Only [g] w (w.setCell ⟨g, k * 2 + 1, none⟩ u) := (Only.refl _ _).setCell (by simp) _
  have hI := (World.ownsRow.stored k1 (k * 2 + 1) u).1
  rw [flatP_set _ _ _ _ _ hk] at hI
  refine ⟨updV N k u, ?_, fun i hi => ?_, fun i hi => ?_, fun i hi h0 x hx => ?_⟩
  · rw [hl, ← flatP_wk _ _ hw]; exact hI
  · rw [hl] at hi
    rw [hn i hi]
    by_cases e : i = k
    · subst e
      rw [show updV N i u i = u by simp [updV], if_pos rfl]
      exact hu.only' hset (fun h0 x hx => by have := (hu2 h0 x hx).2; simpa using this)
    · rw [show updV N k u i = N i by simp [updV, e], if_neg e]
      exact (k2 i hi).only' hset (fun h0 x hx => by have := (k4 i hi h0 x hx).2; rw [hown] at this; exact this)
  · rw [hl] at hi
    by_cases e : i = k
    · subst e; rw [show updV N i u i = u by simp [updV]]; exact hu.oneCell
    · rw [show updV N k u i = N i by simp [updV, e]]; exact k3 i hi
  · rw [hl] at hi
    rw [hn i hi] at h0
    by_cases e : i = k
    · subst e
      rw [if_pos rfl] at h0
      rw [show updV N i u i = u by simp [updV]] at hx
      have := hu2 h0 x hx
      exact ⟨this.1, by rw [hown]; simpa using this.2⟩
    · rw [if_neg e] at h0
      rw [show updV N k u i = N i by simp [updV, e]] at hx
      exact ⟨hF x (k4 i hi h0 x hx).1, (k4 i hi h0 x hx).2⟩

theorem OwnPlan.weaken {w : World} {base : Nat} {F G : Nat → Prop} {v : Value} {p : PlanL} (h : OwnPlan w base F v p) (hFG : ∀ x, F x → G x) : OwnPlan w base G v p := by
  obtain ⟨N, k1, k2, k3, k4⟩ := h
  exact ⟨N, k1, k2, k3, fun i hi h0 x hx => ⟨hFG x (k4 i hi h0 x hx).1, (k4 i hi h0 x hx).2⟩⟩

/-- A task's cells, and where its needs are read from. -/
theorem OwnPlan.at {w : World} {base : Nat} {F : Nat → Prop} {g cap n : Nat} {p : PlanL} (h : OwnPlan w base F (.slice (some ⟨g, 0, none⟩) n cap) p) (k : Nat) (hk : k < p.length) :
    ∃ a c, w.cell? ⟨g, k * 2, none⟩ = some (.int .i64 (wkOf p k)) ∧ w.cell? ⟨g, k * 2 + 1, none⟩ = some (.slice a (ndOf p k).length c) ∧ w.frozen? ⟨g, k * 2 + 1, none⟩ = false ∧ Reads w (.slice a (ndOf p k).length c) (ndOf p k) := by
  have hg : n = p.length := by obtain ⟨a, c, e, _⟩ := h.form; injection e
  subst hg
  obtain ⟨N, k1, k2, k3, k4⟩ := h
  obtain ⟨a, c, e, _⟩ := (k2 k hk).opt
  refine ⟨a, c, ?_, ?_, World.ownsRow.frozenAt k1 _, ?_⟩
  · rw [World.ownsRow.cellAt k1 _ (by omega), flatP_0 _ _ _ _ hk]
  · rw [World.ownsRow.cellAt k1 _ (by omega), flatP_1 _ _ _ _ hk, e]
  · rw [← e]; exact k2 k hk

end Go.Proofs.YtloojhnhialenaaDoor
