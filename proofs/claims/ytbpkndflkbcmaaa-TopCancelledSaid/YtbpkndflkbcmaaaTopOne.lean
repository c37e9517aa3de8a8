/-
  Contract of yardtop.one: the closed fact.
-/
import Derived.Test.YtbpkndflkbcmaaaGreedy2
import Derived.Test.YtbpkndflkbcmaaaLit2
namespace Go.Proofs.Ytbpkndflkbcmaaa
open Go.RowKit Go.Deep

theorem top_lit (W : World) : InPlan ((W.alloc (.cells #[.int .i64 0] 3)).alloc (.cells #[.int .i64 1, .slice none 0 0, .int .i64 2, .slice (some ⟨W.heap.size, 0, none⟩) 1 1] 49)) (.slice (some ⟨W.heap.size + 1, 0, none⟩) 2 2) [(1, []), (2, [0])] := by
  refine lit_plan (heap_alloc_at _ _ _ (by simp)) [(1, []), (2, [0])] (fun i => if i = 0 then .slice none 0 0 else .slice (some ⟨W.heap.size, 0, none⟩) 1 1) ?_ (by simp) ?_
  · rfl
  · intro i hi
    have : i = 0 ∨ i = 1 := by simp at hi; omega
    rcases this with rfl | rfl
    · exact .inl ⟨rfl, .inl rfl⟩
    · refine lit_row [0] ?_ (by simp)
      rw [heap_alloc_old _ _ _ (by simp)]
      exact heap_alloc_new _ _
theorem top_ok : PlanOk [(1, []), (2, [0])] := litOk_ok (by decide)
theorem top_end : GEnd [(1, []), (2, [0])] 2 3 := ⟨by decide +kernel, by decide +kernel⟩

theorem top_one (w : World) : Calls Try.prog 26 #[] w fun e w' => e = .returned (.bool true) ∧ Only [] w w' := by
  have hol := ((Only.refl [] w).alloc (.cells #[.int .i64 0] 3)).alloc (.cells #[.int .i64 1, .slice none 0 0, .int .i64 2, .slice (some ⟨w.heap.size, 0, none⟩) 1 1] 49)
  have hl := greedy_Long _ _ 2 _ (top_lit w) top_ok (by omega) (by omega)
  go_enter Try.func26, Try.ntmps26
  go_wp2_with fail
  refine hl.mono ?_
  rintro e w1 ⟨s, rfl, hE, _, ho⟩
  obtain rfl := gEnd_unique hE top_end
  have hoo := hol.trans ho (by simp)
  clear hl hE hol ho
  go_wp2
  go_ret
  exact ⟨rfl, hoo⟩

end Go.Proofs.Ytbpkndflkbcmaaa
