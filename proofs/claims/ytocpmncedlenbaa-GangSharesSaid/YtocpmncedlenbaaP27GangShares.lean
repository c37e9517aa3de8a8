/-
  Contract of greedy.Hands.
-/
import Derived.Test.YtocpmncedlenbaaP1GangShares
import Derived.Test.YtocpmncedlenbaaRows
namespace Go.Proofs.Ytocpmncedlenbaa
open Go.RowKit

theorem hands_yes (n : Int) (w : World) (h1 : 1 ≤ n) (h2 : n ≤ 6) :
    Calls Try.prog 14 #[.int .i64 n] w fun e w' => e = .returned (.bool true) ∧ w = w' := by
  go_enter Try.func14, Try.ntmps14
  go_wp2
  go_ret
  exact ⟨by simp, rfl⟩

theorem hands_no (n : Int) (w : World) (h : n < 1 ∨ 6 < n) :
    Calls Try.prog 14 #[.int .i64 n] w fun e w' => e = .returned (.bool false) ∧ w = w' := by
  rcases h with h | h
  · go_enter Try.func14, Try.ntmps14
    go_wp2
    go_ret
    exact ⟨rfl, rfl⟩
  · have h1 : 1 ≤ n := by omega
    go_enter Try.func14, Try.ntmps14
    go_wp2
    go_ret
    exact ⟨by simp; omega, rfl⟩
end Go.Proofs.Ytocpmncedlenbaa
