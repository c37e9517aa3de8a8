/-
  yardsame.Error at an error and its own number.
  Plans and lists written out in the text.
  Tasks one behind the other, and beside each other, as plans.
  Tasks one behind the other, and beside each other: they are plans. No program is named here.
  Plans written out in the text are right: by a test.
  Parts of slices of bits.
-/
import Derived.Test.YtmopbimineoogaaDoorP19JudgeSame
import Derived.Test.YtmopbimineoogaaDoorP2JudgeSame
import Derived.Test.YtmopbimineoogaaDoorP13JudgeSame
import Derived.Test.YtmopbimineoogaaDoorP12JudgeSame
namespace Go.Proofs.YtmopbimineoogaaDoor
open Go.RowKit

theorem same_errV (n : Int) (w : World) (hg : Glob w) : Calls Tryd.prog 8 #[errV n, .int .i64 n] w fun e w' => e = .returned (.bool true) ∧ Only [] w w' := by
  by_cases h : n = 0
  · subst h
    rw [errV_zero]
    refine (same_nil 0 w true rfl).mono ?_
    rintro e w' ⟨he, rfl⟩
    exact ⟨he, Only.refl _ _⟩
  · rw [errV_ne h]
    exact same_err n n w hg true (by simp)

end Go.Proofs.YtmopbimineoogaaDoor

namespace Go.Proofs.YtmopbimineoogaaDoor
open Go.RowKit

theorem lit_ints {W : World} {b : Nat} {cs : Array Value} {t : TypeId} (h : W.heap[b]? = some (.cells cs t (0, 0))) (l : List Int) (hcs : cs.toList = l.map (Value.int .i64)) (hn : l.length ≤ 1000) :
    Reads W (.slice (some ⟨b, 0, none⟩) l.length l.length) l := by
  by_cases h0 : l = []
  · subst h0
    exact .inl ⟨rfl, .inr ⟨_, 0, rfl, by unfold maxLen; omega⟩⟩
  · refine .inr ⟨List.length_pos_iff.2 h0, b, 0, l.length, rfl, Nat.le_refl _, by unfold maxLen; omega, fun i hi => ?_⟩
    rw [Nat.zero_add, cell_of_row W b i cs t (0, 0) h, ← Array.getElem?_toList, hcs]
    simp [nth, hi]

theorem lit_plan {W : World} {B : Nat} {cs : Array Value} {t : TypeId} (h : W.heap[B]? = some (.cells cs t (0, 0))) (p : PlanL) (N : Nat → Value) (hcs : cs.toList = flatP p N p.length) (hn : p.length ≤ 1000)
    (hr : ∀ i, i < p.length → Reads W (N i) (ndOf p i)) : InPlan W (.slice (some ⟨B, 0, none⟩) p.length p.length) p := by
  refine ⟨N, ⟨_, p.length, rfl, Nat.le_refl _, by unfold maxLen; omega, (fun h => by cases h), fun i hi => ⟨B, 0, rfl, ?_, ?_⟩⟩, hr, fun _ _ _ => trivial, fun _ _ _ _ _ => trivial⟩
  · rw [Nat.zero_add, cell_of_row W B _ cs t (0, 0) h, ← Array.getElem?_toList, hcs]
    exact flatP_0 _ _ _ _ hi
  · rw [Nat.zero_add, cell_of_row W B _ cs t (0, 0) h, ← Array.getElem?_toList, hcs]
    exact flatP_1 _ _ _ _ hi

theorem heap_alloc_old (w : World) (o : Obj) (k : Nat) (h : k < w.heap.size) : (w.alloc o).heap[k]? = w.heap[k]? := Below.heap_alloc w o k h
theorem heap_alloc_at (w : World) (o : Obj) (k : Nat) (h : k = w.heap.size) : (w.alloc o).heap[k]? = some o := by subst h; exact heap_alloc_new w o

/-- Two tasks of one unit each, the second behind the first. -/
theorem lit_two (W : World) : InPlan ((W.alloc (.cells #[.int .i64 0] 3)).alloc (.cells #[.int .i64 1, .slice none 0 0, .int .i64 1, .slice (some ⟨W.heap.size, 0, none⟩) 1 1] 41)) (.slice (some ⟨W.heap.size + 1, 0, none⟩) 2 2) [(1, []), (1, [0])] := by
  refine lit_plan (heap_alloc_at _ _ _ (by simp)) [(1, []), (1, [0])] (fun i => if i = 0 then .slice none 0 0 else .slice (some ⟨W.heap.size, 0, none⟩) 1 1) ?_ (by simp) ?_
  · rfl
  · intro i hi
    have : i = 0 ∨ i = 1 := by simp at hi; omega
    rcases this with rfl | rfl
    · exact .inl ⟨rfl, .inl rfl⟩
    · refine lit_ints (cs := #[.int .i64 0]) (t := 3) ?_ [0] rfl (by simp)
      rw [heap_alloc_old _ _ _ (by simp)]
      exact heap_alloc_new _ _

end Go.Proofs.YtmopbimineoogaaDoor

namespace Go.Proofs.YtmopbimineoogaaDoor
open Go.RowKit Go.Deep

def chainT (work : Int) (i : Nat) : Int × List Int := (work, if i = 0 then [] else [(i : Int) - 1])
def chainP (n : Nat) (work : Int) : PlanL := (List.range n).map (chainT work)
def besideP (n : Nat) (work : Int) : PlanL := (List.range n).map fun _ => (work, [])
theorem chainP_len (n : Nat) (work : Int) : (chainP n work).length = n := by simp [chainP]
theorem besideP_len (n : Nat) (work : Int) : (besideP n work).length = n := by simp [besideP]
theorem chainP_push (n : Nat) (work : Int) : chainP n work ++ [chainT work n] = chainP (n + 1) work := by simp [chainP, List.range_succ]
theorem besideP_push (n : Nat) (work : Int) : besideP n work ++ [(work, [])] = besideP (n + 1) work := by simp [besideP, List.range_succ]

end Go.Proofs.YtmopbimineoogaaDoor

namespace Go.Proofs.YtmopbimineoogaaDoor

theorem chain_wk (n : Nat) (work : Int) (i : Nat) (h : i < n) : wkOf (chainP n work) i = work := by simp [wkOf, chainP, h, chainT]
theorem chain_nd (n : Nat) (work : Int) (i : Nat) (h : i < n) : ndOf (chainP n work) i = if i = 0 then [] else [(i : Int) - 1] := by simp [ndOf, chainP, h, chainT]
theorem beside_wk (n : Nat) (work : Int) (i : Nat) (h : i < n) : wkOf (besideP n work) i = work := by simp [wkOf, besideP, h]
theorem beside_nd (n : Nat) (work : Int) (i : Nat) : ndOf (besideP n work) i = [] := by
  by_cases h : i < n
  · simp [ndOf, besideP, h]
  · exact ndOf_none _ _ (by rw [besideP_len]; omega)

/-- Where each needs only those ahead of it nobody needs itself. -/
theorem acyc_of {p : PlanL} (h : ∀ i k : Nat, (k : Int) ∈ ndOf p i → k < i) (i k : Nat) (hr : Reach p i k) : k < i := by
  induction hr with
  | one hk => exact h _ _ hk
  | more _ hk ih => have := h _ _ hk; omega

theorem chain_need {n : Nat} {work : Int} {i k : Nat} (h : (k : Int) ∈ ndOf (chainP n work) i) : k < i := by
  by_cases hi : i < n
  · rw [chain_nd _ _ _ hi] at h
    split at h
    · cases h
    · simp at h; omega
  · rw [ndOf_none _ _ (by rw [chainP_len]; omega)] at h; cases h

theorem chain_ok (n : Nat) (work : Int) (hn : n ≤ 30) (h1 : 1 ≤ work) (h2 : work ≤ 20) : PlanOk (chainP n work) := by
  refine ⟨by rw [chainP_len]; exact hn, fun i hi => ?_, fun i hi hr => ?_⟩
  · rw [chainP_len] at hi ⊢
    have e : (chainP n work)[i]?.getD (0, []) = chainT work i := by simp [chainP, hi]
    rw [e]
    unfold taskFault chainT
    have hany : (if i = 0 then ([] : List Int) else [(i : Int) - 1]).any (outOf n) = false := by
      split
      · rfl
      · simp [outOf]; omega
    have hris : rising (if i = 0 then ([] : List Int) else [(i : Int) - 1]) = true := by split <;> rfl
    simp only [hany, hris]
    rw [if_neg (by simp; omega)]
    rfl
  · have := acyc_of (fun i k => chain_need) i i hr
    omega

theorem beside_ok (n : Nat) (work : Int) (hn : n ≤ 30) (h1 : 1 ≤ work) (h2 : work ≤ 20) : PlanOk (besideP n work) := by
  refine ⟨by rw [besideP_len]; exact hn, fun i hi => ?_, fun i hi hr => ?_⟩
  · rw [besideP_len] at hi ⊢
    have e : (besideP n work)[i]?.getD (0, []) = (work, []) := by simp [besideP, hi]
    rw [e]
    unfold taskFault
    rw [if_neg (by simp; omega)]
    rfl
  · have := acyc_of (fun i k h => by rw [beside_nd] at h; cases h) i i hr
    omega

end Go.Proofs.YtmopbimineoogaaDoor

namespace Go.Proofs.YtmopbimineoogaaDoor
open Go.RowKit

/-- Each task is right by itself, and needs only those ahead of it. -/
def litOk (p : PlanL) : Bool := decide (p.length ≤ 30) && (List.range p.length).all fun i => decide (taskFault p.length (p[i]?.getD (0, [])) = 0) && (ndOf p i).all fun k => decide (k < i)

theorem litOk_ok {p : PlanL} (h : litOk p = true) : PlanOk p := by
  unfold litOk at h
  simp only [Bool.and_eq_true, decide_eq_true_eq, List.all_eq_true, List.mem_range] at h
  obtain ⟨h1, h2⟩ := h
  refine ⟨h1, fun i hi => (h2 i hi).1, fun i hi hr => ?_⟩
  have := acyc_of (p := p) (fun i k hk => by
    by_cases hi : i < p.length
    · have := (h2 i hi).2 (k : Int) hk
      omega
    · rw [ndOf_none _ _ (by omega)] at hk; cases hk) i i hr
  omega

/-- A row of numbers that is written out. -/
theorem lit_row {W : World} {b : Nat} (l : List Int) (h : W.heap[b]? = some (.cells (l.map (Value.int .i64)).toArray 3 (0, 0))) (hn : l.length ≤ 1000) : Reads W (.slice (some ⟨b, 0, none⟩) l.length l.length) l :=
  lit_ints h l (by simp) hn

end Go.Proofs.YtmopbimineoogaaDoor

namespace Go.Proofs.YtmopbimineoogaaDoor
open Go.RowKit

theorem flatB_app (a b : List Bt) : flatB (a ++ b) = flatB a ++ flatB b := by simp [flatB]
theorem BitsAt.part {w : World} {g n cap : Nat} {bs : List Bt} (h : BitsAt w (.slice (some ⟨g, 0, none⟩) n cap) bs) (a b c : Nat) (hab : a ≤ b) (hb : b ≤ bs.length) :
    RowAt w (.slice (some ⟨g, a * 3, none⟩) (b - a) c) (b - a) 3 (flatB ((bs.take b).drop a)) := by
  have hl : ((bs.take b).drop a).length = b - a := by simp; omega
  refine ⟨by rw [flatB_len, hl], flatB_one _, ?_⟩
  by_cases h0 : b - a = 0
  · exact .inl ⟨h0, .inr ⟨_, c, by rw [h0]⟩⟩
  · refine .inr ⟨by omega, g, a * 3, c, rfl, fun j y hy => ?_⟩
    obtain ⟨_, _, h⟩ := h
    rcases h with ⟨h1, _⟩ | ⟨_, b', off', cap', he, hc⟩
    · omega
    · injection he with e1 _ _
      injection e1 with e1
      injection e1 with e1 e2
      subst e1 e2
      have hs : bs = bs.take a ++ ((bs.take b).drop a ++ bs.drop b) := by
        have h1 : bs.take b = bs.take a ++ (bs.take b).drop a := by
          have := (List.take_append_drop a (bs.take b)).symm
          rwa [List.take_take, Nat.min_eq_left hab] at this
        rw [← List.append_assoc, ← h1, List.take_append_drop]
      have hj : j < (flatB ((bs.take b).drop a)).length := by
        rcases Nat.lt_or_ge j (flatB ((bs.take b).drop a)).length with hl2 | hl2
        · exact hl2
        · rw [List.getElem?_eq_none hl2] at hy; cases hy
      have e : (bs.take a).length = a := by simp; omega
      have := hc (a * 3 + j) y (by
        rw [hs, flatB_app, List.getElem?_append_right (by rw [flatB_len, e]; omega), flatB_app]
        have e2 : a * 3 + j - (flatB (bs.take a)).length = j := by rw [flatB_len, e]; omega
        rw [e2, List.getElem?_append_left hj]
        exact hy)
      rwa [Nat.zero_add] at this

end Go.Proofs.YtmopbimineoogaaDoor
