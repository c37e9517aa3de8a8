/-
  A slice value's block hangs on its address alone.
-/
import Derived.Test.YtloojhnhialenaaDoorMore
namespace Go.Proofs.YtloojhnhialenaaDoor
theorem own_any (a : Option Addr) (n m c d : Nat) : own (.slice a n c) = own (.slice a m d) := by cases a <;> rfl
end Go.Proofs.YtloojhnhialenaaDoor
