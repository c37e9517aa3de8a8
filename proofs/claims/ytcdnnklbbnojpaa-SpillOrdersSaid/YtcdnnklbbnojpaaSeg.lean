/-
  Plain facts on runs of numbers one behind the other.
-/
import Derived.Test.YtcdnnklbbnojpaaBase
namespace Go.Proofs.Ytcdnnklbbnojpaa

/-- The numbers from a on, n of them. -/
def seg (a : Int) (n : Nat) : List Int := (List.range n).map fun (j : Nat) => a + (j : Int)
theorem seg_length (a : Int) (n : Nat) : (seg a n).length = n := by simp [seg]
theorem seg_zero (a : Int) : seg a 0 = [] := rfl
theorem seg_push (a : Int) (n : Nat) : seg a n ++ [a + n] = seg a (n + 1) := by simp [seg, List.range_succ]
theorem seg_cons (a : Int) (n : Nat) : seg a (n + 1) = a :: seg (a + 1) n := by
  unfold seg
  rw [List.range_succ_eq_map, List.map_cons, List.map_map]
  congr 1
  · simp
  · exact List.map_congr_left fun i _ => by simp only [Function.comp]; omega
theorem seg_take (a : Int) (n k : Nat) (h : k ≤ n) : (seg a n).take k = seg a k := by
  unfold seg
  rw [← List.map_take, List.take_range, Nat.min_eq_left h]
theorem nth_seg (a : Int) (n i : Nat) (h : i < n) : nth (seg a n) i = a + i := by
  simp [nth, seg, h]

end Go.Proofs.Ytcdnnklbbnojpaa
