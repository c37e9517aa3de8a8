/-
  An array of ints in memory, by its numbers; make([]int, n) as one.
  Who is ready, in plain words. No program is named here.
-/
import Derived.Test.YtoofalchkedciaaGreatDoorP11PlanTells
import Derived.Test.YtoofalchkedciaaGreatDoorP20PlanTells
namespace Go.Proofs.YtoofalchkedciaaGreatDoor
open Go.RowKit Go.Deep

def Nums (w : World) (A N : Nat) (f : Nat → Int) : Prop := ∀ i, i < N → w.cell? ⟨A, i, none⟩ = some (.int .i64 (f i)) ∧ w.frozen? ⟨A, i, none⟩ = false

theorem Nums.only {w w' : World} {A N : Nat} {f : Nat → Int} {S : List Nat} (h : Nums w A N f) (ho : Only S w w') (hA : A ∉ S) : Nums w' A N f := fun i hi => by
  obtain ⟨h1, h2⟩ := h i hi
  have hl := cell_lt h1
  exact ⟨(ho.cell (p := ⟨A, i, none⟩) hl hA).trans h1, (ho.frozen (p := ⟨A, i, none⟩) hl hA).trans h2⟩

def updI (f : Nat → Int) (j : Nat) (x : Int) : Nat → Int := fun i => if i = j then x else f i

theorem Nums.set {w : World} {A N : Nat} {f : Nat → Int} (h : Nums w A N f) (j : Nat) (x : Int) :
    Nums (w.setCell ⟨A, j, none⟩ (.int .i64 x)) A N (updI f j x) := fun i hi => by
  obtain ⟨h1, h2⟩ := h i hi
  refine ⟨?_, by rw [World.frozen?_setCell]; exact h2⟩
  unfold updI
  by_cases e : i = j
  · subst e
    rw [World.cell?_setCell_same _ _ _ h1]
    simp
  · rw [World.cell?_setCell_other _ _ _ _ (fun he => e (congrArg Addr.off he).symm), h1]
    simp [e]

theorem Nums.congr {w : World} {A N : Nat} {f g : Nat → Int} (h : Nums w A N f) (e : ∀ i, i < N → f i = g i) : Nums w A N g := fun i hi => by
  rw [← e i hi]; exact h i hi

theorem made_nums (w : World) (n : Nat) : Nums (w.alloc (.cells (madeCells #[.int .i64 0] n) 3)) w.heap.size n (fun _ => 0) := fun i hi => by
  refine ⟨?_, World.frozen?_alloc_at _ _ _ _ rfl⟩
  rw [World.cell?_alloc_new]
  have e := made_list (.int .i64 0) n
  rw [← Array.getElem?_toList, e]
  simp [hi]

/-- The numbers as a list. -/
def numL (n : Nat) (f : Nat → Int) : List Int := (List.range n).map f
theorem numL_len (n : Nat) (f : Nat → Int) : (numL n f).length = n := by simp [numL]
theorem numL_nth (n : Nat) (f : Nat → Int) (i : Nat) (h : i < n) : nth (numL n f) i = f i := by simp [nth, numL, h]

theorem Nums.reads {w : World} {A N : Nat} {f : Nat → Int} (h : Nums w A N f) (hN : N ≤ 1000000) : Reads w (.slice (some ⟨A, 0, none⟩) N N) (numL N f) := by
  by_cases h0 : N = 0
  · subst h0; exact .inl ⟨rfl, .inr ⟨_, 0, rfl, by unfold maxLen; omega⟩⟩
  · refine .inr ⟨by rw [numL_len]; omega, A, 0, N, by rw [numL_len], by rw [numL_len]; exact Nat.le_refl _, by unfold maxLen; omega, fun i hi => ?_⟩
    rw [numL_len] at hi
    rw [Nat.zero_add, (h i hi).1, numL_nth _ _ _ hi]

end Go.Proofs.YtoofalchkedciaaGreatDoor

namespace Go.Proofs.YtoofalchkedciaaGreatDoor

/-- How many a task lacks. -/
def lackN (p : PlanL) (D : Nat → Bool) (i : Nat) : Nat := (ndOf p i).countP (fun k => !D k.toNat)
def lackOf (p : PlanL) (D : Nat → Bool) (i : Nat) : Int := (lackN p D i : Int)
/-- How many are not done. -/
def leftN (p : PlanL) (D : Nat → Bool) : Nat := (List.range p.length).countP (fun i => !D i)

theorem countP_up (l : List Int) (hn : l.Nodup) (h0 : ∀ x ∈ l, 0 ≤ x) (D : Nat → Bool) (i : Nat) (hi : D i = false) :
    l.countP (fun k => !D k.toNat) = l.countP (fun k => !upB D i k.toNat) + if (i : Int) ∈ l then 1 else 0 := by
  induction l with
  | nil => simp
  | cons a l ih =>
    have ha := (List.nodup_cons.1 hn).1
    have h1 := ih (List.nodup_cons.1 hn).2 (fun x hx => h0 x (by simp [hx]))
    have ha0 := h0 a (by simp)
    rw [List.countP_cons, List.countP_cons, h1]
    by_cases e : a = (i : Int)
    · subst e
      simp [upB, hi, ha]
    · have e2 : a.toNat ≠ i := by omega
      have e3 : (i : Int) ≠ a := fun h => e h.symm
      simp only [upB, e2, if_false, List.mem_cons, e3, false_or]
      omega

theorem rise_nodup {l : List Int} (h : rising l = true) : l.Nodup := (rising_pair l h).imp (fun h => Int.ne_of_lt h)

theorem lack_up {p : PlanL} (hok : PlanOk p) (D : Nat → Bool) (i : Nat) (hi : D i = false) (k : Nat) : lackN p D k = lackN p (upB D i) k + if (i : Int) ∈ ndOf p k then 1 else 0 :=
  countP_up _ (rise_nodup (hok.rise k)) (fun x hx => (hok.need k x hx).1) D i hi

theorem left_up {p : PlanL} (D : Nat → Bool) (i : Nat) (hi : i < p.length) (hD : D i = false) : leftN p D = leftN p (upB D i) + 1 := by
  unfold leftN
  have key : ∀ n, i < n → (List.range n).countP (fun j => !D j) = (List.range n).countP (fun j => !upB D i j) + 1 := by
    intro n
    induction n with
    | zero => intro h; omega
    | succ n ih =>
      intro h
      rw [List.range_succ, List.countP_append, List.countP_append]
      by_cases e : i = n
      · subst e
        have : (List.range i).countP (fun j => !D j) = (List.range i).countP (fun j => !upB D i j) := by
          refine List.countP_congr fun x hx => ?_
          have : x ≠ i := by have := List.mem_range.1 hx; omega
          simp [upB, this]
        rw [this]
        simp [upB, hD]
      · have h1 := ih (by omega)
        have e2 : n ≠ i := fun h => e h.symm
        rw [h1]
        simp [upB, e2]
        omega
  exact key _ hi

theorem lack_zero (p : PlanL) (D : Nat → Bool) (i : Nat) : lackN p D i = 0 ↔ (ndOf p i).all (fun k => D k.toNat) = true := by
  unfold lackN
  rw [List.countP_eq_zero, List.all_eq_true]
  constructor
  · intro h x hx; have := h x hx; simpa using this
  · intro h x hx; have := h x hx; simpa using this

theorem lack_none (p : PlanL) (i : Nat) : lackN p (fun _ => false) i = (ndOf p i).length := by
  unfold lackN
  simp

theorem lack_le (p : PlanL) (hok : PlanOk p) (D : Nat → Bool) (i : Nat) : lackN p D i ≤ 30 := by
  have h1 := List.countP_le_length (p := fun k => !D k.toNat) (l := ndOf p i)
  have h2 := hok.needs i
  have h3 := hok.len
  unfold lackN
  omega
theorem left_le (p : PlanL) (D : Nat → Bool) : leftN p D ≤ p.length := by
  have h1 := List.countP_le_length (p := fun i => !D i) (l := List.range p.length)
  simpa [leftN] using h1
theorem left_none (p : PlanL) : leftN p (fun _ => false) = p.length := by simp [leftN]

/-- Who is ready. -/
def readyL (p : PlanL) (D : Nat → Bool) : List Nat := (List.range p.length).filter (readyB p D)
/-- Who becomes ready when i is done. -/
def newL (p : PlanL) (D : Nat → Bool) (i : Nat) : List Nat := (afterOf p i).filter (fun k => lackN p (upB D i) k == 0)

theorem ready_lack (p : PlanL) (D : Nat → Bool) (i : Nat) : readyB p D i = (!D i && (lackN p D i == 0)) := by
  unfold readyB
  congr 1
  rw [Bool.eq_iff_iff, ← lack_zero]
  simp

theorem afterOf_mem {p : PlanL} {i : Int} {k : Nat} : k ∈ afterOf p i ↔ k < p.length ∧ i ∈ ndOf p k := by
  simp [afterOf]
theorem afterOf_pair (p : PlanL) (i : Int) : (afterOf p i).Pairwise (· < ·) := List.Pairwise.filter _ (List.pairwise_lt_range (n := p.length))
theorem afterOf_nodup (p : PlanL) (i : Int) : (afterOf p i).Nodup := (afterOf_pair p i).imp (fun h => Nat.ne_of_lt h)
theorem afterOf_len (p : PlanL) (i : Int) : (afterOf p i).length ≤ p.length := by
  have := List.length_filter_le (fun k => (ndOf p k).contains i) (List.range p.length)
  simpa [afterOf] using this

/-- What each lacks while those after i are gone through. -/
def lackMid (p : PlanL) (D : Nat → Bool) (i : Nat) (l : List Nat) (j : Nat) : Int := if j ∈ l then lackOf p (upB D i) j else lackOf p D j
theorem lackMid_nil (p : PlanL) (D : Nat → Bool) (i : Nat) : lackMid p D i [] = lackOf p D := by funext j; simp [lackMid]
theorem lackMid_push (p : PlanL) (D : Nat → Bool) (i : Nat) (l : List Nat) (k : Nat) (hk : k ∉ l) (hi : D i = false) (hok : PlanOk p) (hm : (i : Int) ∈ ndOf p k) :
    lackMid p D i l k = lackOf p D k ∧ lackOf p D k - 1 = lackOf p (upB D i) k ∧ lackMid p D i (l ++ [k]) = updI (lackMid p D i l) k (lackOf p (upB D i) k) := by
  have h1 := lack_up hok D i hi k
  rw [if_pos hm] at h1
  refine ⟨by simp [lackMid, hk], by unfold lackOf; omega, ?_⟩
  funext j
  unfold lackMid updI
  by_cases e : j = k
  · subst e; simp
  · simp [e]
theorem lackMid_all (p : PlanL) (D : Nat → Bool) (i : Nat) (hi : D i = false) (hok : PlanOk p) (j : Nat) (hj : j < p.length) : lackMid p D i (afterOf p i) j = lackOf p (upB D i) j := by
  unfold lackMid
  split
  · rfl
  · rename_i h
    have h1 := lack_up hok D i hi j
    rw [if_neg (fun hm => h (afterOf_mem.2 ⟨hj, hm⟩))] at h1
    unfold lackOf; omega

theorem numL_set (n : Nat) (f : Nat → Int) (k : Nat) (x : Int) (h : k < n) : (numL n f).set k x = numL n (updI f k x) := by
  apply List.ext_getElem?
  intro j
  by_cases e : j = k
  · subst e
    rw [List.getElem?_set_self (by rw [numL_len]; exact h)]
    simp [numL, h, updI]
  · rw [List.getElem?_set_ne (Ne.symm e)]
    unfold numL
    rw [List.getElem?_map, List.getElem?_map]
    by_cases hj : j < n
    · rw [List.getElem?_range hj]; simp [updI, e]
    · rw [List.getElem?_eq_none (by simpa using hj)]; rfl
theorem numL_push (n : Nat) (f : Nat → Int) : numL n f ++ [f n] = numL (n + 1) f := by simp [numL, List.range_succ]
theorem numL_congr (n : Nat) (f g : Nat → Int) (h : ∀ i, i < n → f i = g i) : numL n f = numL n g := by
  unfold numL
  exact List.map_congr_left fun i hi => h i (by simpa using hi)

end Go.Proofs.YtoofalchkedciaaGreatDoor
