/-
  The needs of one task of a plan of the call's own written anew.
  A plan of the call's own in which a task that needs nothing has the nil slice.
-/
import Derived.Test.YtocpmncedlenbaaDoorP20WeaveTells
import Derived.Test.YtocpmncedlenbaaDoorP21WeaveTells
namespace Go.Proofs.YtocpmncedlenbaaDoor
open Go.RowKit Go.Deep

theorem flatP_wk {p p' : PlanL} (N : Nat → Value) (n : Nat) (h : ∀ i, i < n → wkOf p i = wkOf p' i) : flatP p N n = flatP p' N n := by
  unfold flatP
  refine List.map_congr_left fun j hj => ?_
  have hj : j < n * 2 := by simpa using hj
  rw [h (j / 2) (by omega)]

theorem OwnPlan.setNeeds {w : World} {base : Nat} {F F' : Nat → Prop} {g cap n : Nat} {p p' : PlanL} (k : Nat) {u : Value} {l : List Int} (h : OwnPlan w base F (.slice (some ⟨g, 0, none⟩) n cap) p) (hk : k < p.length)
    (hl : p'.length = p.length) (hw : ∀ i, i < p.length → wkOf p i = wkOf p' i) (hn : ∀ i, i < p.length → ndOf p' i = if i = k then l else ndOf p i)
    (hu : Reads w u l) (hF : ∀ x, F x → F' x) (hu2 : l ≠ [] → ∀ x ∈ own u, F' x ∧ x ≠ g) :
    OwnPlan (w.setCell ⟨g, k * 2 + 1, none⟩ u) base F' (.slice (some ⟨g, 0, none⟩) n cap) p' := by
  have hg : n = p.length := by obtain ⟨a, c, e, _⟩ := h.form; injection e
  subst hg
  have hown : own (.slice (some ⟨g, 0, none⟩) p.length cap) = [g] := by simp [own, Value.ownBlock]
  obtain ⟨N, k1, k2, k3, k4⟩ := h
  have hset : Only [g] w (w.setCell ⟨g, k * 2 + 1, none⟩ u) := (Only.refl _ _).setCell (by simp) _
  have hI := (World.ownsRow.stored k1 (k * 2 + 1) u).1
  rw [flatP_set _ _ _ _ _ hk] at hI
  refine ⟨updV N k u, ?_, fun i hi => ?_, fun i hi => ?_, fun i hi h0 x hx => ?_⟩
  · rw [hl, ← flatP_wk _ _ hw]; exact hI
  · rw [hl] at hi
    rw [hn i hi]
    by_cases e : i = k
    · subst e
      rw [show updV N i u i = u by simp [updV], if_pos rfl]
      exact hu.only' hset (fun h0 x hx => by have := (hu2 h0 x hx).2; simpa using this)
    · rw [show updV N k u i = N i by simp [updV, e], if_neg e]
      exact (k2 i hi).only' hset (fun h0 x hx => by have := (k4 i hi h0 x hx).2; rw [hown] at this; exact this)
  · rw [hl] at hi
    by_cases e : i = k
    · subst e; rw [show updV N i u i = u by simp [updV]]; exact hu.oneCell
    · rw [show updV N k u i = N i by simp [updV, e]]; exact k3 i hi
  · rw [hl] at hi
    rw [hn i hi] at h0
    by_cases e : i = k
    · subst e
      rw [if_pos rfl] at h0
      rw [show updV N i u i = u by simp [updV]] at hx
      have := hu2 h0 x hx
      exact ⟨this.1, by rw [hown]; simpa using this.2⟩
    · rw [if_neg e] at h0
      rw [show updV N k u i = N i by simp [updV, e]] at hx
      exact ⟨hF x (k4 i hi h0 x hx).1, (k4 i hi h0 x hx).2⟩

theorem OwnPlan.weaken {w : World} {base : Nat} {F G : Nat → Prop} {v : Value} {p : PlanL} (h : OwnPlan w base F v p) (hFG : ∀ x, F x → G x) : OwnPlan w base G v p := by
  obtain ⟨N, k1, k2, k3, k4⟩ := h
  exact ⟨N, k1, k2, k3, fun i hi h0 x hx => ⟨hFG x (k4 i hi h0 x hx).1, (k4 i hi h0 x hx).2⟩⟩

/-- A task's cells, and where its needs are read from. -/
theorem OwnPlan.at {w : World} {base : Nat} {F : Nat → Prop} {g cap n : Nat} {p : PlanL} (h : OwnPlan w base F (.slice (some ⟨g, 0, none⟩) n cap) p) (k : Nat) (hk : k < p.length) :
    ∃ a c, w.cell? ⟨g, k * 2, none⟩ = some (.int .i64 (wkOf p k)) ∧ w.cell? ⟨g, k * 2 + 1, none⟩ = some (.slice a (ndOf p k).length c) ∧ w.frozen? ⟨g, k * 2 + 1, none⟩ = false ∧ Reads w (.slice a (ndOf p k).length c) (ndOf p k) := by
  have hg : n = p.length := by obtain ⟨a, c, e, _⟩ := h.form; injection e
  subst hg
  obtain ⟨N, k1, k2, k3, k4⟩ := h
  obtain ⟨a, c, e, _⟩ := (k2 k hk).opt
  refine ⟨a, c, ?_, ?_, World.ownsRow.frozenAt k1 _, ?_⟩
  · rw [World.ownsRow.cellAt k1 _ (by omega), flatP_0 _ _ _ _ hk]
  · rw [World.ownsRow.cellAt k1 _ (by omega), flatP_1 _ _ _ _ hk, e]
  · rw [← e]; exact k2 k hk

end Go.Proofs.YtocpmncedlenbaaDoor

namespace Go.Proofs.YtocpmncedlenbaaDoor
open Go.RowKit Go.Deep

def OwnPlanN (w : World) (base : Nat) (F : Nat → Prop) (v : Value) (p : PlanL) : Prop :=
  ∃ N : Nat → Value, w.ownsRow base 39 2 v p.length (flatP p N p.length) ∧ (∀ i, i < p.length → Reads w (N i) (ndOf p i)) ∧
    (∀ i, i < p.length → (N i).oneCell' = true) ∧ (∀ i, i < p.length → ndOf p i ≠ [] → ∀ x ∈ own (N i), F x ∧ x ∉ own v) ∧ ∀ i, i < p.length → ndOf p i = [] → N i = .slice none 0 0

theorem OwnPlanN.own {w : World} {base : Nat} {F : Nat → Prop} {v : Value} {p : PlanL} (h : OwnPlanN w base F v p) : OwnPlan w base F v p := by
  obtain ⟨N, k1, k2, k3, k4, _⟩ := h
  exact ⟨N, k1, k2, k3, k4⟩
theorem OwnPlanN.nil (w : World) (base : Nat) (F : Nat → Prop) : OwnPlanN w base F (.slice none 0 0) [] :=
  ⟨fun _ => .nilIface, World.ownsRow_nil _ _ _ _, by simp, by simp, by simp, by simp⟩
theorem OwnPlanN.only {w w' : World} {base : Nat} {F : Nat → Prop} {v : Value} {p : PlanL} {S : List Nat} (h : OwnPlanN w base F v p) (ho : Only S w w') (h1 : ∀ x ∈ _root_.Go.Proofs.YtocpmncedlenbaaDoor.own v, x ∉ S) (h2 : ∀ x, F x → x ∉ S) : OwnPlanN w' base F v p := by
  obtain ⟨N, k1, k2, k3, k4, k5⟩ := h
  exact ⟨N, Row.only k1 ho h1, fun i hi => (k2 i hi).only' ho (fun h0 x hx => h2 x (k4 i hi h0 x hx).1), k3, k4, k5⟩
theorem OwnPlanN.same {w w' : World} {base : Nat} {F : Nat → Prop} {v : Value} {p : PlanL} (h : OwnPlanN w base F v p) (ho : Only [] w w') : OwnPlanN w' base F v p := h.only ho (by simp) (by simp)
theorem OwnPlanN.far {w : World} {base : Nat} {F : Nat → Prop} {v : Value} {p : PlanL} (h : OwnPlanN w base F v p) : ∀ x ∈ _root_.Go.Proofs.YtocpmncedlenbaaDoor.own v, base ≤ x ∧ x < w.heap.size := h.own.far
theorem OwnPlanN.form {w : World} {base : Nat} {F : Nat → Prop} {v : Value} {p : PlanL} (h : OwnPlanN w base F v p) : ∃ a cap, v = .slice a p.length cap ∧ p.length ≤ cap ∧ cap ≤ maxLen := h.own.form
theorem OwnPlanN.push {W w' : World} {base : Nat} {F : Nat → Prop} {v v' : Value} {p : PlanL} {N : Nat → Value} (n : Int)
    (k2 : ∀ i, i < p.length → Reads W (N i) (ndOf p i)) (k3 : ∀ i, i < p.length → (N i).oneCell' = true) (k4 : ∀ i, i < p.length → ndOf p i ≠ [] → ∀ x ∈ _root_.Go.Proofs.YtocpmncedlenbaaDoor.own (N i), F x ∧ x ∉ _root_.Go.Proofs.YtocpmncedlenbaaDoor.own v) (k5 : ∀ i, i < p.length → ndOf p i = [] → N i = .slice none 0 0)
    (hown : w'.ownsRow base 39 2 v' (p.length + 1) (flatP p N p.length ++ [.int .i64 n, .slice none 0 0])) (ho : Only (_root_.Go.Proofs.YtocpmncedlenbaaDoor.own v) W w') (hk : Kin W (_root_.Go.Proofs.YtocpmncedlenbaaDoor.own v) (_root_.Go.Proofs.YtocpmncedlenbaaDoor.own v')) : OwnPlanN w' base F v' (p ++ [(n, [])]) := by
  have hl : (p ++ [(n, ([] : List Int))]).length = p.length + 1 := by simp
  have hlt : ∀ {x : Nat} {y : Value} {l : List Int}, Reads W y l → l ≠ [] → x ∈ _root_.Go.Proofs.YtocpmncedlenbaaDoor.own y → x < W.heap.size := by
    intro x y l hy h0 hx
    rcases hy with ⟨h, _⟩ | ⟨_, b, off, cap, rfl, _, _, hc⟩
    · exact absurd h h0
    · obtain rfl : x = b := by simpa [_root_.Go.Proofs.YtocpmncedlenbaaDoor.own, Value.ownBlock] using hx
      exact cell_lt (hc 0 (List.length_pos_iff.2 h0))
  have hnd : ∀ i, i < p.length → ndOf (p ++ [(n, ([] : List Int))]) i = ndOf p i := fun i hi => by unfold ndOf; rw [List.getElem?_append_left hi]
  have hwk : ∀ i, i < p.length → wkOf (p ++ [(n, ([] : List Int))]) i = wkOf p i := fun i hi => by unfold wkOf; rw [List.getElem?_append_left hi]
  have hnl : ndOf (p ++ [(n, ([] : List Int))]) p.length = [] := by unfold ndOf; simp
  have hwl : wkOf (p ++ [(n, ([] : List Int))]) p.length = n := by unfold wkOf; simp
  have hflat : flatP p N p.length ++ [.int .i64 n, .slice none 0 0] = flatP (p ++ [(n, ([] : List Int))]) (updV N p.length (.slice none 0 0)) (p.length + 1) := by
    apply List.ext_getElem?
    intro j
    by_cases hj : j < p.length * 2
    · rw [List.getElem?_append_left (by rw [flatP_len]; exact hj), flatP_at _ _ _ _ hj, flatP_at _ _ _ _ (by omega), hwk _ (by omega), show updV N p.length (.slice none 0 0) (j / 2) = N (j / 2) by unfold updV; rw [if_neg (by omega)]]
    · by_cases hj2 : j < (p.length + 1) * 2
      · rw [List.getElem?_append_right (by rw [flatP_len]; omega), flatP_len, flatP_at _ _ _ _ hj2]
        have e : j / 2 = p.length := by omega
        rw [e, hwl, show updV N p.length (.slice none 0 0) p.length = .slice none 0 0 by simp [updV]]
        have h2 : j - p.length * 2 = 0 ∨ j - p.length * 2 = 1 := by omega
        rcases h2 with h2 | h2
        · rw [h2, if_pos (by omega)]; rfl
        · rw [h2, if_neg (by omega)]; rfl
      · rw [List.getElem?_eq_none (by simp [flatP_len]; omega), List.getElem?_eq_none (by simp [flatP_len]; omega)]
  refine ⟨updV N p.length (.slice none 0 0), ?_, fun i hi => ?_, fun i hi => ?_, fun i hi h0 x hx => ?_, fun i hi h0 => ?_⟩
  · rw [hl, ← hflat]; exact hown
  all_goals
    rw [hl] at hi
    by_cases e : i = p.length
  · subst e; rw [hnl, show updV N p.length (.slice none 0 0) p.length = .slice none 0 0 by simp [updV]]; exact .inl ⟨rfl, .inl rfl⟩
  · rw [hnd i (by omega), show updV N p.length (.slice none 0 0) i = N i by simp [updV, e]]
    exact (k2 i (by omega)).only' ho (fun h0 x hx => (k4 i (by omega) h0 x hx).2)
  · subst e; rw [show updV N p.length (.slice none 0 0) p.length = .slice none 0 0 by simp [updV]]; rfl
  · rw [show updV N p.length (.slice none 0 0) i = N i by simp [updV, e]]; exact k3 i (by omega)
  · subst e; exact absurd hnl h0
  · rw [hnd i (by omega)] at h0
    rw [show updV N p.length (.slice none 0 0) i = N i by simp [updV, e]] at hx
    refine ⟨(k4 i (by omega) h0 x hx).1, fun hx2 => ?_⟩
    rcases hk x hx2 with h | h
    · exact (k4 i (by omega) h0 x hx).2 h
    · have := hlt (k2 i (by omega)) h0 hx; omega
  · subst e; simp [updV]
  · rw [hnd i (by omega)] at h0
    rw [show updV N p.length (.slice none 0 0) i = N i by simp [updV, e]]
    exact k5 i (by omega) h0

theorem OwnPlanN.setNeeds {w : World} {base : Nat} {F F' : Nat → Prop} {g cap n : Nat} {p p' : PlanL} (k : Nat) {u : Value} {l : List Int} (h : OwnPlanN w base F (.slice (some ⟨g, 0, none⟩) n cap) p) (hk : k < p.length)
    (hl : p'.length = p.length) (hw : ∀ i, i < p.length → wkOf p i = wkOf p' i) (hn : ∀ i, i < p.length → ndOf p' i = if i = k then l else ndOf p i)
    (hu : Reads w u l) (hF : ∀ x, F x → F' x) (hu2 : ∀ x ∈ _root_.Go.Proofs.YtocpmncedlenbaaDoor.own u, F' x ∧ x ≠ g) (hne : l ≠ []) :
    OwnPlanN (w.setCell ⟨g, k * 2 + 1, none⟩ u) base F' (.slice (some ⟨g, 0, none⟩) n cap) p' := by
  have hg : n = p.length := by obtain ⟨a, c, e, _⟩ := h.form; injection e
  subst hg
  have hown : _root_.Go.Proofs.YtocpmncedlenbaaDoor.own (.slice (some ⟨g, 0, none⟩) p.length cap) = [g] := by simp [_root_.Go.Proofs.YtocpmncedlenbaaDoor.own, Value.ownBlock]
  obtain ⟨N, k1, k2, k3, k4, k5⟩ := h
  have hset : Only [g] w (w.setCell ⟨g, k * 2 + 1, none⟩ u) := (Only.refl _ _).setCell (by simp) _
  have hI := (World.ownsRow.stored k1 (k * 2 + 1) u).1
  rw [flatP_set _ _ _ _ _ hk] at hI
  refine ⟨updV N k u, ?_, fun i hi => ?_, fun i hi => ?_, fun i hi h0 x hx => ?_, fun i hi h0 => ?_⟩
  · rw [hl, ← flatP_wk _ _ hw]; exact hI
  · rw [hl] at hi
    rw [hn i hi]
    by_cases e : i = k
    · subst e
      rw [show updV N i u i = u by simp [updV], if_pos rfl]
      exact hu.only' hset (fun h0 x hx => by have := (hu2 x hx).2; simpa using this)
    · rw [show updV N k u i = N i by simp [updV, e], if_neg e]
      exact (k2 i hi).only' hset (fun h0 x hx => by have := (k4 i hi h0 x hx).2; rw [hown] at this; exact this)
  · rw [hl] at hi
    by_cases e : i = k
    · subst e; rw [show updV N i u i = u by simp [updV]]; exact hu.oneCell
    · rw [show updV N k u i = N i by simp [updV, e]]; exact k3 i hi
  · rw [hl] at hi
    rw [hn i hi] at h0
    by_cases e : i = k
    · subst e
      rw [show updV N i u i = u by simp [updV]] at hx
      have := hu2 x hx
      exact ⟨this.1, by rw [hown]; simpa using this.2⟩
    · rw [if_neg e] at h0
      rw [show updV N k u i = N i by simp [updV, e]] at hx
      exact ⟨hF x (k4 i hi h0 x hx).1, (k4 i hi h0 x hx).2⟩
  · rw [hl] at hi
    rw [hn i hi] at h0
    by_cases e : i = k
    · rw [if_pos e] at h0; exact absurd h0 hne
    · rw [if_neg e] at h0
      rw [show updV N k u i = N i by simp [updV, e]]
      exact k5 i hi h0

/-- A task that needs nothing, in memory. -/
theorem OwnPlanN.at {w : World} {base : Nat} {F : Nat → Prop} {g cap n : Nat} {p : PlanL} (h : OwnPlanN w base F (.slice (some ⟨g, 0, none⟩) n cap) p) (k : Nat) (hk : k < p.length) (h0 : ndOf p k = []) :
    w.cell? ⟨g, k * 2, none⟩ = some (.int .i64 (wkOf p k)) ∧ w.cell? ⟨g, k * 2 + 1, none⟩ = some (.slice none 0 0) ∧ w.frozen? ⟨g, k * 2 + 1, none⟩ = false := by
  have hg : n = p.length := by obtain ⟨a, c, e, _⟩ := h.form; injection e
  subst hg
  obtain ⟨N, k1, k2, k3, k4, k5⟩ := h
  refine ⟨?_, ?_, World.ownsRow.frozenAt k1 _⟩
  · rw [World.ownsRow.cellAt k1 _ (by omega), flatP_0 _ _ _ _ hk]
  · rw [World.ownsRow.cellAt k1 _ (by omega), flatP_1 _ _ _ _ hk, k5 k hk h0]

end Go.Proofs.YtocpmncedlenbaaDoor
