/-
  An array of ints in memory, by its numbers; make([]int, n) as one.
-/
import Derived.Test.YtoofalchkedciaaDoorMakeB
namespace Go.Proofs.YtoofalchkedciaaDoor
open Go.RowKit Go.Deep

def Nums (w : World) (A N : Nat) (f : Nat → Int) : Prop := ∀ i, i < N → w.cell? ⟨A, i, none⟩ = some (.int .i64 (f i)) ∧ w.frozen? ⟨A, i, none⟩ = false

theorem Nums.only {w w' : World} {A N : Nat} {f : Nat → Int} {S : List Nat} (h : Nums w A N f) (ho : Only S w w') (hA : A ∉ S) : Nums w' A N f := fun i hi => by
  obtain ⟨h1, h2⟩ := h i hi
  have hl := cell_lt h1
  exact ⟨(ho.cell (p := ⟨A, i, none⟩) hl hA).trans h1, (ho.frozen (p := ⟨A, i, none⟩) hl hA).trans h2⟩

def updI (f : Nat → Int) (j : Nat) (x : Int) : Nat → Int := fun i => if i = j then x else f i

theorem Nums.set {w : World} {A N : Nat} {f : Nat → Int} (h : Nums w A N f) (j : Nat) (x : Int) :
    Nums (w.setCell ⟨A, j, none⟩ (.int .i64 x)) A N (updI f j x) := fun i hi => by
  obtain ⟨h1, h2⟩ := h i hi
  refine ⟨?_, by rw [World.frozen?_setCell]; exact h2⟩
  unfold updI
  by_cases e : i = j
  · subst e
    rw [World.cell?_setCell_same _ _ _ h1]
    simp
  · rw [World.cell?_setCell_other _ _ _ _ (fun he => e (congrArg Addr.off he).symm), h1]
    simp [e]

theorem Nums.congr {w : World} {A N : Nat} {f g : Nat → Int} (h : Nums w A N f) (e : ∀ i, i < N → f i = g i) : Nums w A N g := fun i hi => by
  rw [← e i hi]; exact h i hi

theorem made_nums (w : World) (n : Nat) : Nums (w.alloc (.cells (madeCells #[.int .i64 0] n) 3)) w.heap.size n (fun _ => 0) := fun i hi => by
  refine ⟨?_, World.frozen?_alloc_at _ _ _ _ rfl⟩
  rw [World.cell?_alloc_new]
  have e := made_list (.int .i64 0) n
  rw [← Array.getElem?_toList, e]
  simp [hi]

/-- The numbers as a list. -/
def numL (n : Nat) (f : Nat → Int) : List Int := (List.range n).map f
theorem numL_len (n : Nat) (f : Nat → Int) : (numL n f).length = n := by simp [numL]
theorem numL_nth (n : Nat) (f : Nat → Int) (i : Nat) (h : i < n) : nth (numL n f) i = f i := by simp [nth, numL, h]

theorem Nums.reads {w : World} {A N : Nat} {f : Nat → Int} (h : Nums w A N f) (hN : N ≤ 1000000) : Reads w (.slice (some ⟨A, 0, none⟩) N N) (numL N f) := by
  by_cases h0 : N = 0
  · subst h0; exact .inl ⟨rfl, .inr ⟨_, 0, rfl, by unfold maxLen; omega⟩⟩
  · refine .inr ⟨by rw [numL_len]; omega, A, 0, N, by rw [numL_len], by rw [numL_len]; exact Nat.le_refl _, by unfold maxLen; omega, fun i hi => ?_⟩
    rw [numL_len] at hi
    rw [Nat.zero_add, (h i hi).1, numL_nth _ _ _ hi]

end Go.Proofs.YtoofalchkedciaaDoor
