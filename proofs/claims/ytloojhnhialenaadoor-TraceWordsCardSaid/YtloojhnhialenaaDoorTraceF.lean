/-
  Contracts of package trace: fields, Print.
-/
import Derived.Test.YtloojhnhialenaaDoorTraceW
import Derived.Test.YtloojhnhialenaaDoorWords
namespace Go.Proofs.YtloojhnhialenaaDoor
open Go.RowKit Go.Deep

theorem obj_cell {w : World} {b : Nat} {cs : Array Value} {t : TypeId} (h : w.heap[b]? = some (.cells cs t (0, 0))) (i : Nat) (v : Value) (hv : cs[i]? = some v) : w.cell? ⟨b, i, none⟩ = some v := by
  rw [Lib.cell_of_heap h]; exact hv

set_option maxRecDepth 100000 in
theorem trace_fields (D : Nat) (what : Int) (w : World) (c : w.cell? ⟨D, 0, none⟩ = some (.int .i64 what)) :
    Calls Tryd.prog 28 #[.pointer (some ⟨D, 0, none⟩)] w fun e w' => ∃ F k, e = .returned (.slice (some ⟨F, 0, none⟩) k k) ∧ k = (ddPlaces what).length ∧
      w'.heap[F]? = some (.cells ((ddPlaces what).map fun j => .pointer (some ⟨D, j, none⟩)).toArray 71 (0, 0)) ∧ w.heap.size ≤ F ∧ Only [] w w' := by
  have ha := trace_alone what
  by_cases h1 : what = 5 ∨ what = 6
  · have e1 : aloneB what = true := by simp [aloneB, h1]
    rw [e1] at ha
    have e2 : ddPlaces what = [1] := by unfold ddPlaces; rw [if_pos h1]
    rw [e2]
    clear e1 e2 h1
    go_enter Tryd.func28, Tryd.ntmps28
    go_wp2_with fail
    refine (ha _).mono ?_
    rintro e w1 ⟨rfl, rfl⟩
    go_wp2
    go_ret
    exact ⟨w.heap.size, 1, rfl, rfl, heap_alloc_new _ _, Nat.le_refl _, (Only.refl [] w).alloc _⟩
  · have e1 : aloneB what = false := by simp [aloneB]; omega
    rw [e1] at ha
    by_cases h2 : what = 2
    · subst h2
      have e2 : ddPlaces 2 = [1, 2, 3] := rfl
      rw [e2]
      clear e1 e2 h1
      go_enter Tryd.func28, Tryd.ntmps28
      go_wp2_with fail
      refine (ha _).mono ?_
      rintro e w1 ⟨rfl, rfl⟩
      go_wp2_with fail
      go_region
      go_wp2
      go_ret
      exact ⟨w.heap.size, 3, rfl, rfl, heap_alloc_new _ _, Nat.le_refl _, ((Only.refl [] w).alloc _).drew⟩
    · have e2 : ddPlaces what = [1, 2] := by unfold ddPlaces; rw [if_neg h1, if_neg h2]
      rw [e2]
      have h3 : (what == 2) = false := by simpa using h2
      clear e1 e2 h1 h2
      go_enter Tryd.func28, Tryd.ntmps28
      go_wp2_with fail
      refine (ha _).mono ?_
      rintro e w1 ⟨rfl, rfl⟩
      go_wp2_with fail
      go_region
      go_wp2
      go_ret
      exact ⟨w.heap.size, 2, rfl, rfl, heap_alloc_new _ _, Nat.le_refl _, ((Only.refl [] w).alloc _).drew⟩

end Go.Proofs.YtloojhnhialenaaDoor
