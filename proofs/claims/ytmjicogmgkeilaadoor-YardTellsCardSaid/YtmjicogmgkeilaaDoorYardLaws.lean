/-
  What the laws of package yard share: jobs that came in, opened; a block of ints.
-/
import Derived.Test.YtmjicogmgkeilaaDoorYardShares
namespace Go.Proofs.YtmjicogmgkeilaaDoor
open Go.RowKit

theorem two_jobs (w : World) (a b x y : Int) (h1 : (Lit.int .i64 a).wf = true) (h2 : (Lit.int .i64 b).wf = true) (h3 : (Lit.int .i64 x).wf = true) (h4 : (Lit.int .i64 y).wf = true) :
    InJobs (w.alloc (.cells #[.int .i64 a, .int .i64 x, .int .i64 b, .int .i64 y] 82)) (.slice (some ⟨w.heap.size, 0, none⟩) 2 2) [(a, x), (b, y)] := by
  refine ⟨by simp [h1, h2, h3, h4], _, 2, rfl, Nat.le_refl _, by unfold maxLen; omega, (fun h => by cases h), fun i hi => ?_⟩
  have hi2 : i = 0 ∨ i = 1 := by simp at hi; omega
  refine ⟨_, _, rfl, ?_, ?_⟩
  · rw [World.cell?_alloc_new]; rcases hi2 with rfl | rfl <;> rfl
  · rw [World.cell?_alloc_new]; rcases hi2 with rfl | rfl <;> rfl

def pick2 (a b : Nat) : Nat → Nat := fun i => if i = 0 then a else b

def wtOf (l : List (Int × Int)) (i : Nat) : Nat := (l[i]?.getD (0, 0)).1.toNat
def waOf (l : List (Int × Int)) (i : Nat) : Nat := (l[i]?.getD (0, 0)).2.toNat

theorem ok_at {l : List (Int × Int)} (h : ∀ j ∈ l, jobOk j) (i : Nat) (hi : i < l.length) : jobOk (l[i]?.getD (0, 0)) := by
  refine h _ ?_
  rw [List.getElem?_eq_getElem hi]
  simp

theorem ok_parts {l : List (Int × Int)} (h : ∀ j ∈ l, jobOk j) (i : Nat) (hi : i < l.length) : l[i]?.getD (0, 0) = ((wtOf l i : Int), (waOf l i : Int)) ∧ 1 ≤ wtOf l i ∧ wtOf l i ≤ 20 ∧ waOf l i ≤ 10000 := by
  have := ok_at h i hi
  unfold wtOf waOf
  generalize l[i]?.getD (0, 0) = j at *
  obtain ⟨x, y⟩ := j
  obtain ⟨h1, h2, h3, h4⟩ := this
  simp only at *
  exact ⟨by rw [Int.toNat_of_nonneg (by omega), Int.toNat_of_nonneg (by omega)], by omega, by omega, by omega⟩

theorem InJobs.only {w w' : World} {v : Value} {l : List (Int × Int)} (h : InJobs w v l) (ho : Only [] w w') : InJobs w' v l := ⟨h.1, h.2.same ho⟩

theorem yard_serve_err (v : Value) (l : List (Int × Int)) (m : Int) (w : World) (h : InJobs w v l) (hb : ¬ (l.length ≤ 6 ∧ (∀ j ∈ l, jobOk j) ∧ 0 ≤ m ∧ m ≤ 1000)) :
    Calls Tryd.prog 43 #[v, .int .i64 m] w fun e w' => ∃ k : Int, e = .returned (.tuple #[.slice none 0 0, .slice none 0 0, .iface 95 (.int .i64 k)]) ∧ Only [] w w' := by
  by_cases h6 : l.length ≤ 6
  · by_cases hok : ∀ j ∈ l, jobOk j
    · have hm : m < 0 ∨ 1000 < m := by
        rcases Int.lt_or_le m 0 with h0 | h0
        · exact .inl h0
        · rcases Int.lt_or_le 1000 m with h1 | h1
          · exact .inr h1
          · exact absurd ⟨h6, hok, h0, h1⟩ hb
      exact (yard_serve_out v l m w h h6 hok hm).mono fun _ _ ⟨he, ho⟩ => ⟨1, he, ho⟩
    · exact (yard_serve_bad v l m w h h6 hok).mono fun _ _ ⟨he, ho⟩ => ⟨1, he, ho⟩
  · exact (yard_serve_full v l m w h (by omega)).mono fun _ _ ⟨he, ho⟩ => ⟨4, he, ho⟩

/-- Block b holds the n numbers f. -/
def Nums (w : World) (b n : Nat) (f : Nat → Nat) : Prop := ∀ i, i < n → w.cell? ⟨b, i, none⟩ = some (.int .i64 (f i)) ∧ w.frozen? ⟨b, i, none⟩ = false
theorem Nums.only {w w' : World} {b n : Nat} {f : Nat → Nat} {S : List Nat} (h : Nums w b n f) (ho : Only S w w') (hb : b ∉ S) : Nums w' b n f := fun i hi => by
  obtain ⟨h1, h2⟩ := h i hi
  have hlt := cell_lt h1
  exact ⟨(ho.cell (p := ⟨b, i, none⟩) hlt hb).trans h1, (ho.frozen (p := ⟨b, i, none⟩) hlt hb).trans h2⟩
theorem Nums.set {w : World} {b n : Nat} {f : Nat → Nat} (h : Nums w b n f) (i x : Nat) (_hi : i < n) : Nums (w.setCell ⟨b, i, none⟩ (.int .i64 x)) b n (upd f i x) := fun j hj => by
  obtain ⟨h1, h2⟩ := h j hj
  refine ⟨?_, by rw [World.frozen?_setCell]; exact h2⟩
  by_cases e : j = i
  · subst e
    rw [upd_same, World.cell?_setCell_same _ _ _ h1]
  · rw [upd_other _ _ _ _ e]
    exact (World.cell?_setCell_other _ _ _ _ (fun he => e (congrArg Addr.off he).symm)).trans h1
theorem Nums.congr {w : World} {b n : Nat} {f g : Nat → Nat} (h : Nums w b n f) (e : ∀ i, i < n → f i = g i) : Nums w b n g := fun i hi => by rw [← e i hi]; exact h i hi

/-- So many of each are among the first k. -/
def tally (o : List Int) (k : Nat) : Nat → Nat := fun j => (o.take k).count (j : Int)
theorem tally_step (o : List Int) (k j : Nat) (hk : k < o.length) (hj : nth o k = (j : Int)) : upd (tally o k) j (tally o k j + 1) = tally o (k + 1) := by
  funext i
  unfold tally
  rw [take_succ_nth o k hk, hj, List.count_append]
  by_cases e : i = j
  · subst e; rw [upd_same]; simp
  · rw [upd_other _ _ _ _ e]
    have : ((j : Int) == (i : Int)) = false := by simp; omega
    simp [List.count_cons, this]
theorem tally_le (o : List Int) (k j : Nat) : tally o k j ≤ k := Nat.le_trans List.count_le_length (List.length_take_le _ _)
theorem tally_all (o : List Int) (k j : Nat) (h : o.length ≤ k) : tally o k j = o.count (j : Int) := by unfold tally; rw [List.take_of_length_le h]

/-- Are all of the first i above 0? -/
def allPos (S : Nat → Nat) : Nat → Bool
  | 0 => true
  | i + 1 => allPos S i && decide (0 < S i)
theorem allPos_get {S : Nat → Nat} {i : Nat} (h : allPos S i = true) (j : Nat) (hj : j < i) : 0 < S j := by
  induction i with
  | zero => omega
  | succ i ih =>
    simp only [allPos, Bool.and_eq_true, decide_eq_true_eq] at h
    by_cases e : j = i
    · subst e; exact h.2
    · exact ih h.1 (by omega)
theorem sumTo_zero {S : Nat → Nat} {n : Nat} (h : ∀ i, i < n → S i = 0) : sumTo S n = 0 := by
  induction n with
  | zero => rfl
  | succ n ih => rw [sumTo, ih (fun i hi => h i (by omega)), h n (by omega)]

end Go.Proofs.YtmjicogmgkeilaaDoor
