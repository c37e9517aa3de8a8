/-
  Tasks one behind the other, and beside each other, as plans.
-/
import Derived.Test.YtoofalchkedciaaDoorPlanM
namespace Go.Proofs.YtoofalchkedciaaDoor
open Go.RowKit Go.Deep

def chainT (work : Int) (i : Nat) : Int × List Int := (work, if i = 0 then [] else [(i : Int) - 1])
def chainP (n : Nat) (work : Int) : PlanL := (List.range n).map (chainT work)
def besideP (n : Nat) (work : Int) : PlanL := (List.range n).map fun _ => (work, [])
theorem chainP_len (n : Nat) (work : Int) : (chainP n work).length = n := by simp [chainP]
theorem besideP_len (n : Nat) (work : Int) : (besideP n work).length = n := by simp [besideP]
theorem chainP_push (n : Nat) (work : Int) : chainP n work ++ [chainT work n] = chainP (n + 1) work := by simp [chainP, List.range_succ]
theorem besideP_push (n : Nat) (work : Int) : besideP n work ++ [(work, [])] = besideP (n + 1) work := by simp [besideP, List.range_succ]

end Go.Proofs.YtoofalchkedciaaDoor
