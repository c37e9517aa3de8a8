/-
  Contract of slices.Clone at []int.
  Plain facts on numbers that are marked: which are not marked yet, in order; and an array of bools in memory.
  make([]bool, n).
-/
import Derived.Test.YtoofalchkedciaaDoorP3TraceBack
import Derived.Test.YtoofalchkedciaaDoorP1TraceBack
import Derived.Test.YtoofalchkedciaaDoorP6TraceBack
namespace Go.Proofs.YtoofalchkedciaaDoor
open Go.RowKit

set_option maxHeartbeats 400000 in
theorem clone_ints (v : Value) (l : List Int) (w : World) (h : Reads w v l) (hl : l.length ≤ 1000000000) :
    Calls Tryd.prog 45 #[v] w fun e w' => ∃ v', e = .returned v' ∧ Ints w' w.heap.size v' l ∧ Only [] w w' := by
  have hnil := fun (a : Option Addr) (n c : Nat) (w : World) => Lib.run_eql_slice_nil (P := Tryd.prog) w 28 3 a n c 0 0 Tryd.underlying28
  have hh := h
  rcases h with ⟨rfl, rfl | ⟨y, cap, rfl, hcap⟩⟩ | ⟨h0, b, off, cap, rfl, h1, h2, h3⟩
  · go_enter Tryd.func45, Tryd.ntmps45
    go_wp2
    go_ret
    exact ⟨_, rfl, Ints.nil _ _, Only.refl _ _⟩
  · have ho := (Only.refl [] w).alloc (.cells #[] 3)
    have hown : Ints (w.alloc (.cells #[] 3)) w.heap.size (.slice (some ⟨w.heap.size, 0, none⟩) 0 0) [] := ⟨by simp, .inr ⟨w.heap.size, 0, #[], rfl, Nat.le_refl _, heap_alloc_new _ _, Nat.le_refl _, by unfold maxLen; omega, rfl, rfl⟩⟩
    have hh' := hh.same ho
    go_enter Tryd.func45, Tryd.ntmps45
    go_wp2_with (at_builtin; refine wpList_append_reads rfl (.tmp 5) (.tmp 6) rfl _ w.heap.size _ [] _ _ hown hh' (by simp) (by simp) rfl rfl (Only.refl _ _) ?_; intro v' w' hI hO _)
    have ho2 := ho.pushed hown (Nat.le_refl _) hO
    clear hown hh' hO hnil
    go_wp2
    go_ret
    exact ⟨_, rfl, hI, ho2⟩
  · have ho := (Only.refl [] w).alloc (.cells #[] 3)
    have hown : Ints (w.alloc (.cells #[] 3)) w.heap.size (.slice (some ⟨w.heap.size, 0, none⟩) 0 0) [] := ⟨by simp, .inr ⟨w.heap.size, 0, #[], rfl, Nat.le_refl _, heap_alloc_new _ _, Nat.le_refl _, by unfold maxLen; omega, rfl, rfl⟩⟩
    have hh' := hh.same ho
    clear hh h3
    go_enter Tryd.func45, Tryd.ntmps45
    go_wp2_with (at_builtin; refine wpList_append_reads rfl (.tmp 5) (.tmp 6) rfl _ w.heap.size _ [] _ _ hown hh' (by simpa using hl) (by simp) rfl rfl (Only.refl _ _) ?_; intro v' w' hI hO _)
    have ho2 := ho.pushed hown (Nat.le_refl _) hO
    clear hown hh' hO hnil
    go_wp2
    go_ret
    exact ⟨_, rfl, hI, ho2⟩

end Go.Proofs.YtoofalchkedciaaDoor

namespace Go.Proofs.YtoofalchkedciaaDoor
open Go.RowKit

/-- The numbers below n that are not marked, rising. -/
def U (n : Nat) (f : Nat → Bool) : List Int := ((List.range n).filter fun j => !f j).map fun (j : Nat) => (j : Int)
/-- Those of a list are marked, too. -/
def mark (f : Nat → Bool) (out : List Int) : Nat → Bool := fun j => f j || decide ((j : Int) ∈ out)

theorem U_zero (f : Nat → Bool) : U 0 f = [] := rfl
theorem mark_nil (f : Nat → Bool) : mark f [] = f := by funext j; simp [mark]

theorem mem_U {n : Nat} {f : Nat → Bool} {x : Int} : x ∈ U n f ↔ ∃ j, j < n ∧ f j = false ∧ x = j := by
  unfold U
  simp only [List.mem_map, List.mem_filter, List.mem_range, Bool.not_eq_true']
  constructor
  · rintro ⟨j, ⟨h1, h2⟩, rfl⟩; exact ⟨j, h1, h2, rfl⟩
  · rintro ⟨j, h1, h2, rfl⟩; exact ⟨j, ⟨h1, h2⟩, rfl⟩

theorem U_succ (n : Nat) (f : Nat → Bool) : U (n + 1) f = if f n then U n f else U n f ++ [(n : Int)] := by
  unfold U
  rw [List.range_succ, List.filter_append, List.map_append]
  cases h : f n <;> simp [h]

theorem U_lt (n : Nat) (f : Nat → Bool) : (U n f).Pairwise (· < ·) := by
  unfold U
  rw [List.pairwise_map]
  refine List.Pairwise.imp ?_ (List.Pairwise.filter _ (List.pairwise_lt_range (n := n)))
  intro a b h; omega

theorem U_mark (n : Nat) (f : Nat → Bool) (out : List Int) : U n (mark f out) = (U n f).filter fun x => decide (x ∉ out) := by
  unfold U mark
  rw [List.filter_map, List.filter_filter]
  congr 1
  refine List.filter_congr fun j _ => ?_
  simp [Function.comp, Bool.and_comm]

theorem filter_not_left (A B : List Int) (h : (A ++ B).Pairwise (· < ·)) : (A ++ B).filter (fun x => decide (x ∉ A)) = B := by
  rw [List.filter_append]
  have h1 : A.filter (fun x => decide (x ∉ A)) = [] := by simp [List.filter_eq_nil_iff]
  have h2 : B.filter (fun x => decide (x ∉ A)) = B := by
    rw [List.filter_eq_self]
    intro x hx
    simp only [decide_eq_true_eq]
    intro hA
    have := (List.pairwise_append.1 h).2.2 x hA x hx
    omega
  rw [h1, h2, List.nil_append]

theorem filter_not_right (A B : List Int) (h : (A ++ B).Pairwise (· < ·)) : (A ++ B).filter (fun x => decide (x ∉ B)) = A := by
  rw [List.filter_append]
  have h1 : B.filter (fun x => decide (x ∉ B)) = [] := by simp [List.filter_eq_nil_iff]
  have h2 : A.filter (fun x => decide (x ∉ B)) = A := by
    rw [List.filter_eq_self]
    intro x hx
    simp only [decide_eq_true_eq]
    intro hB
    have := (List.pairwise_append.1 h).2.2 x hx x hB
    omega
  rw [h1, h2, List.append_nil]

/-- What goes from the front. -/
theorem U_front {n : Nat} {f : Nat → Bool} {out R : List Int} (h : U n f = out ++ R) : U n (mark f out) = R := by
  rw [U_mark, h]
  exact filter_not_left out R (h ▸ U_lt n f)
/-- What goes from the end. -/
theorem U_back {n : Nat} {f : Nat → Bool} {out R : List Int} (h : U n f = R ++ out) : U n (mark f out) = R := by
  rw [U_mark, h]
  exact filter_not_right R out (h ▸ U_lt n f)

theorem nth_mem {l : List Int} {k : Nat} (h : k < l.length) : nth l k ∈ l := by
  simp [nth, h]

theorem pairwise_nth {l : List Int} (h : l.Pairwise (· < ·)) {i j : Nat} (hij : i < j) (hj : j < l.length) : nth l i < nth l j := by
  have := (List.pairwise_iff_getElem.1 h) i j (by omega) hj hij
  simpa [nth, hj, show i < l.length by omega] using this

/-- One more of a list marked. -/
theorem mark_step (f : Nat → Bool) (out : List Int) (k j : Nat) (hk : k < out.length) (hj : nth out k = j) :
    (fun i => if i = j then true else mark f (out.take k) i) = mark f (out.take (k + 1)) := by
  funext i
  have e : out.take (k + 1) = out.take k ++ [nth out k] := by
    rw [List.take_succ_eq_append_getElem hk]; simp [nth, hk]
  unfold mark
  rw [e, hj]
  by_cases h : i = j
  · subst h; simp
  · have : ¬ ((i : Int) = (j : Int)) := by omega
    simp [h, this]

/-- The k-th of a rising list is not marked yet when those ahead of it are. -/
theorem mark_fresh {n : Nat} {f : Nat → Bool} {out : List Int} (hsub : ∀ x ∈ out, x ∈ U n f) (hp : out.Pairwise (· < ·)) {k : Nat} (hk : k < out.length) :
    ∃ j : Nat, nth out k = j ∧ j < n ∧ mark f (out.take k) j = false := by
  obtain ⟨j, h1, h2, h3⟩ := mem_U.1 (hsub _ (nth_mem hk))
  refine ⟨j, h3, h1, ?_⟩
  unfold mark
  rw [h2, Bool.false_or, decide_eq_false_iff_not, ← h3]
  intro hm
  obtain ⟨i, hi, e⟩ := List.getElem_of_mem hm
  have hi' : i < k := by simp at hi; omega
  have := pairwise_nth hp hi' hk
  have e2 : nth out i = nth out k := by
    rw [List.getElem_take] at e
    rw [← e]
    simp [nth, show i < out.length by omega]
  omega

/-- An array of bools in memory. -/
def Bools (w : World) (A N : Nat) (f : Nat → Bool) : Prop := ∀ i, i < N → w.cell? ⟨A, i, none⟩ = some (.bool (f i)) ∧ w.frozen? ⟨A, i, none⟩ = false

theorem Bools.only {w w' : World} {A N : Nat} {f : Nat → Bool} {S : List Nat} (h : Bools w A N f) (ho : Only S w w') (hA : A ∉ S) : Bools w' A N f := fun i hi => by
  obtain ⟨h1, h2⟩ := h i hi
  have hl := cell_lt h1
  exact ⟨(ho.cell (p := ⟨A, i, none⟩) hl hA).trans h1, (ho.frozen (p := ⟨A, i, none⟩) hl hA).trans h2⟩

theorem Bools.set {w : World} {A N : Nat} {f : Nat → Bool} (h : Bools w A N f) (j : Nat) (x : Bool) :
    Bools (w.setCell ⟨A, j, none⟩ (.bool x)) A N (fun i => if i = j then x else f i) := fun i hi => by
  obtain ⟨h1, h2⟩ := h i hi
  refine ⟨?_, by rw [World.frozen?_setCell]; exact h2⟩
  by_cases e : i = j
  · subst e
    rw [World.cell?_setCell_same _ _ _ h1]
    simp
  · rw [World.cell?_setCell_other _ _ _ _ (fun he => e (congrArg Addr.off he).symm), h1]
    simp [e]

theorem Bools.new (w : World) (cs : Array Value) (t : TypeId) (N : Nat) (h : ∀ i, i < N → cs[i]? = some (.bool false)) : Bools (w.alloc (.cells cs t)) w.heap.size N (fun _ => false) := fun i hi => by
  exact ⟨by rw [World.cell?_alloc_new]; exact h i hi, World.frozen?_alloc_at _ _ _ _ rfl⟩

end Go.Proofs.YtoofalchkedciaaDoor

namespace Go.Proofs.YtoofalchkedciaaDoor
open Go.RowKit Go.Deep

theorem make_bools (n : Nat) (hn : n ≤ 1000000) (w : World) :
    (Instr.makeSlice 38 (.int .i64 (n : Int)) (.int .i64 (n : Int))).run Tryd.prog w = .ok (.slice (some ⟨w.heap.size, 0, none⟩) n n) (w.alloc (.cells (madeCells #[.bool false] n) 4)) :=
  run_make_row' (P := Tryd.prog) 38 4 (.bool false) 1 Tryd.underlying38 (by kernel_rfl) rfl .i64 .i64 n (by omega) (by omega) w

theorem made_bools (w : World) (n : Nat) : Bools (w.alloc (.cells (madeCells #[.bool false] n) 4)) w.heap.size n (fun _ => false) :=
  Bools.new _ _ _ _ fun i hi => by
    have e := made_list (.bool false) n
    rw [← Array.getElem?_toList, e]
    simp [hi]

end Go.Proofs.YtoofalchkedciaaDoor
