/-
  The statement LogRefuses: what is refused leaves no byte. No condition.
-/
import Derived.Test.YtloojhnhialenaaDoorFrame
import Derived.Test.YtloojhnhialenaaDoorLaid
import Derived.Test.YtloojhnhialenaaDoorLog
import Derived.Test.YtloojhnhialenaaDoorChain
import Derived.Test.YtloojhnhialenaaDoorChainJ
namespace Go.Proofs.YtloojhnhialenaaDoor.logRefuses
open Go.ChangeShapes Go.WideShapes Go.ChangeAt Go.RowKit
open Go.ChangeMaps (open_string shut_string)
set_option linter.unusedVariables false


theorem chain_not1 (n : Nat) (hn : 2 ≤ n) : readyB (chainP n 1) (doneB []) 1 = false := by
  unfold readyB
  rw [chain_nd n 1 1 (by omega)]
  simp [doneB]
theorem chain_is0 (n : Nat) (hn : 2 ≤ n) : readyB (chainP n 1) (doneB []) 0 = true := by
  have := chain_ready n 0 (by omega)
  rw [chainD_zero, ← doneB_nil] at this
  exact this
theorem chain_not0 (n : Nat) : readyB (chainP n 1) (doneB [0]) 0 = false := by
  unfold readyB
  simp [doneB]

set_option maxHeartbeats 4000000 in
set_option maxRecDepth 100000 in
theorem walk (a0 : Int) (w : World) (hglob : Glob w) (w0 : (Lit.int .i64 a0).wf = true) :
    Calls Tryd.prog 4 #[.int .i64 a0] w fun e w' => e = .returned (.bool true) ∧ Below w.heap.size w w' := by
  have bd0 := bounds_i64 w0
  by_cases hin : 2 ≤ a0 ∧ a0 ≤ 30
  · obtain ⟨g1, g2⟩ := hin
    obtain ⟨n, rfl⟩ := Int.eq_ofNat_of_zero_le (show 0 ≤ a0 by omega)
    have hn30 : n ≤ 30 := by omega
    have hn2 : 2 ≤ n := by omega
    have HG := Lib.hid hglob
    clear w0 bd0 hglob
    go_enter Tryd.func4, Tryd.ntmps4
    go_wp2_with fail
    refine (law_chain n 1 w hn30).mono ?_
    rintro e w1 ⟨v1, rfl, hO1, ho1⟩
    go_wp2_with fail
    refine (Log.new v1 (chainP n 1) w1 hO1.plan (chain_ok n 1 hn30 (by omega) (by omega))).mono ?_
    rintro e w2 ⟨G, S, F, rfl, hJ, hS, hF, ho2⟩
    have hoo := ho1.trans ho2 (by simp)
    have hS2 : ∀ x ∈ S, w.heap.size ≤ x := fun x hx => by have := (hS x hx).1; have := ho1.size; omega
    have HS := Lib.hid hS2
    have HO := Lib.hid hoo
    clear hO1 ho1 ho2 hF hS hS2 hoo
    go_wp2_with fail
    refine (Log.done_no S F G (chainP n 1) _ 1 w2 hJ rfl (by rw [chainP_len]; omega) (chain_not1 n hn2)).mono ?_
    rintro e w3 ⟨rfl, rfl⟩
    go_wp2_with fail
    refine (same_err 6 6 _ (HG.out.only HO.out) true rfl).mono ?_
    rintro e w3 ⟨rfl, ho3⟩
    have hJ3 := hJ.same ho3
    have HO3 := Lib.hid (HO.out.trans ho3 (by simp))
    clear hJ ho3
    go_wp2_with fail
    refine (Log.done_out S F G (chainP n 1) _ n w3 hJ3 rfl (.inr (by rw [chainP_len]; omega))).mono ?_
    rintro e w4 ⟨rfl, rfl⟩
    go_wp2_with fail
    refine (same_err 1 1 _ (HG.out.only HO3.out) true rfl).mono ?_
    rintro e w5 ⟨rfl, ho5⟩
    have hJ5 := hJ3.same ho5
    have HO5 := Lib.hid (HO3.out.trans ho5 (by simp))
    clear hJ3 ho5
    go_wp2_with fail
    refine (Log.bytes_any S F G (chainP n 1) _ w5 hJ5 0 rfl).mono ?_
    rintro e w6 ⟨rfl, rfl⟩
    go_wp2_with fail
    refine (Log.done_ok S F G (chainP n 1) _ 0 w5 hJ5 rfl (by rw [chainP_len]; omega) (chain_is0 n hn2) (by simp) (by simp) (by simp) (by simp) (by simp)).mono ?_
    rintro e w6 ⟨rfl, S2, hJ6, hK6, ho6⟩
    have HO6 := Lib.hid (HO5.out.trans ho6 (fun x hx hl => by have := HS.out x hx; omega))
    have hlen : ((LSt.push ⟨[], [], 0, -1, false⟩ 0).bytes).length = 2 := by
      show ([] ++ lineOf 0).length = 2
      unfold lineOf
      rw [Lib.decDigits_one (by omega)]; rfl
    have HL := Lib.hid hlen
    clear hJ5 hK6 ho6 hlen
    go_wp2_with fail
    refine (Log.bytes_any S2 F G (chainP n 1) _ w6 hJ6 2 HL.out).mono ?_
    rintro e w7 ⟨rfl, rfl⟩
    go_wp2_with fail
    refine (Log.done_no S2 F G (chainP n 1) _ 0 w6 hJ6 rfl (by rw [chainP_len]; omega) (chain_not0 n)).mono ?_
    rintro e w7 ⟨rfl, rfl⟩
    go_wp2_with fail
    refine (same_err 6 6 _ (HG.out.only HO6.out) true rfl).mono ?_
    rintro e w8 ⟨rfl, ho8⟩
    have hJ8 := hJ6.same ho8
    have HO8 := Lib.hid (HO6.out.trans ho8 (by simp))
    clear hJ6 ho8
    go_wp2_with fail
    refine (Log.bytes_any S2 F G (chainP n 1) _ w8 hJ8 2 HL.out).mono ?_
    rintro e w9 ⟨rfl, rfl⟩
    go_wp2_with fail
    go_ret
    exact ⟨rfl, HO8.out.below (Nat.le_refl _) (by simp)⟩
  · have hor : a0 < 2 ∨ (2 ≤ a0 ∧ 30 < a0) := by omega
    clear hin w0 bd0
    rcases hor with h | ⟨h1, h2⟩
    all_goals
      go_enter Tryd.func4, Tryd.ntmps4
      go_wp2_with fail
      go_ret
      exact ⟨rfl, Below.refl _ _⟩

end Go.Proofs.YtloojhnhialenaaDoor.logRefuses
