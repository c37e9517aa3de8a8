/-
  A new [100]bool.
-/
import Derived.Test.YtcdnnklbbnojpaaMarks
import Derived.Test.YtcdnnklbbnojpaaRows
import Derived.Deep.CutBlock
import Derived.Deep.DeepCutAuto
namespace Go.Proofs.Ytcdnnklbbnojpaa
open Go.RowKit

def falses100 : Array Value := Array.replicate 100 (.bool false)
theorem zero_100 (w : World) : (zeroValue 49).run Try.prog w = .ok (.agg falses100) w := by kernel_rfl
theorem bools_100 (w : World) : Bools (w.alloc (.cells falses100 49)) w.heap.size 100 (fun _ => false) :=
  Bools.new w falses100 _ 100 fun i hi => by simp [falses100, hi]
end Go.Proofs.Ytcdnnklbbnojpaa
