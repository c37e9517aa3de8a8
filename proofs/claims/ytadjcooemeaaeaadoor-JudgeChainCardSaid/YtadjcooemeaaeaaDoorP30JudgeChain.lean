/-
  A map of ints to stays that the call made: the stay of each task.
-/
import Derived.Test.YtadjcooemeaaeaaDoorP26JudgeChain
import Derived.Test.YtadjcooemeaaeaaDoorP29JudgeChain
namespace Go.Proofs.YtadjcooemeaaeaaDoor
open Go.RowKit Go.Maps

def stV (s : St) : Value := .agg #[.int .i64 s.hand, .int .i64 s.task, .int .i64 s.frm, .int .i64 s.til]
theorem zero_stay (w : World) : (zeroValue 53).run Tryd.prog w = .ok (stV ⟨0, 0, 0, 0⟩) w := by kernel_rfl

def stayMF (ss : List St) : Value → Option Value
  | .int .i64 k => (stayOf ss k).map stV
  | _ => none

def StayMap (w : World) (b n : Nat) (ss : List St) : Prop := MapOf w Tryd.prog 3 b n (stayMF ss)

theorem StayMap.lt {w : World} {b n : Nat} {ss : List St} (h : StayMap w b n ss) : b < w.heap.size := MapOf.lt h
theorem StayMap.only {w w' : World} {b n : Nat} {ss : List St} {S : List Nat} (h : StayMap w b n ss) (ho : Only S w w') (hb : b ∉ S) : StayMap w' b n ss := MapOf.only h ho hb
theorem StayMap.made (w : World) : StayMap (w.alloc (.map #[] 0)) w.heap.size 0 [] := (MapOf.made w _ _).congr fun x => by
  unfold stayMF
  split <;> rfl

theorem StayMap.look {w : World} {b n : Nat} {ss : List St} (h : StayMap w b n ss) (k : Int) (hk : -1000000 ≤ k ∧ k ≤ 1000000) :
    (Instr.lookup 123 (.map (some b)) (.int .i64 k) false).run Tryd.prog w = .ok (stV (stF ss k)) w := by
  have := MapOf.look h false key_int Tryd.underlying123 (zero_stay w) (keyOf_int k (by omega) (by omega))
  rw [this]
  have e : (stayMF ss (.int .i64 k)).getD (stV ⟨0, 0, 0, 0⟩) = stV (stF ss k) := by
    show ((stayOf ss k).map stV).getD _ = _
    unfold stF
    cases stayOf ss k <;> rfl
  rw [e]
  rfl

theorem StayMap.put {w : World} {b n : Nat} {ss : List St} (h : StayMap w b n ss) (s : St) (hk : -1000000 ≤ s.task ∧ s.task ≤ 1000000) (hnone : stayOf ss s.task = none) :
    ∃ w', (Instr.mapUpdate 123 (.map (some b)) (.int .i64 s.task) (stV s)).run Tryd.prog w = .ok () w' ∧ StayMap w' b (n + 1) (ss ++ [s]) ∧ Only [b] w w' := by
  obtain ⟨w', h1, h2, h3⟩ := MapOf.put h key_int Tryd.underlying123 (keyOf_int s.task (by omega) (by omega)) (stV s)
  refine ⟨w', h1, ?_, h3⟩
  have e : (stayMF ss (.int .i64 s.task)).isSome = false := by simp [stayMF, hnone]
  rw [e] at h2
  refine MapOf.congr h2 fun x => ?_
  unfold updV?
  by_cases e : x = .int .i64 s.task
  · subst e
    rw [if_pos rfl]
    simp [stayMF, stayOf_push]
  · rw [if_neg e]
    unfold stayMF
    split
    · rename_i j
      have hj : ¬ s.task = j := fun h => e (by rw [h])
      rw [stayOf_push, if_neg hj]
    · rfl

end Go.Proofs.YtadjcooemeaaeaaDoor
