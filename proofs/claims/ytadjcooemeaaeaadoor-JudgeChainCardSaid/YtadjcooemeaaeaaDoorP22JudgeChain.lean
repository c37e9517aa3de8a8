/-
  Contract of greedy.Hands.
-/
import Derived.Test.YtadjcooemeaaeaaDoorP1JudgeChain
import Derived.Test.YtadjcooemeaaeaaDoorRows
namespace Go.Proofs.YtadjcooemeaaeaaDoor
open Go.RowKit

theorem hands_yes (n : Int) (w : World) (h1 : 1 ≤ n) (h2 : n ≤ 6) :
    Calls Tryd.prog 108 #[.int .i64 n] w fun e w' => e = .returned (.bool true) ∧ w = w' := by
  go_enter Tryd.func108, Tryd.ntmps108
  go_wp2
  go_ret
  exact ⟨by simp, rfl⟩

theorem hands_no (n : Int) (w : World) (h : n < 1 ∨ 6 < n) :
    Calls Tryd.prog 108 #[.int .i64 n] w fun e w' => e = .returned (.bool false) ∧ w = w' := by
  rcases h with h | h
  · go_enter Tryd.func108, Tryd.ntmps108
    go_wp2
    go_ret
    exact ⟨rfl, rfl⟩
  · have h1 : 1 ≤ n := by omega
    go_enter Tryd.func108, Tryd.ntmps108
    go_wp2
    go_ret
    exact ⟨by simp; omega, rfl⟩
end Go.Proofs.YtadjcooemeaaeaaDoor
