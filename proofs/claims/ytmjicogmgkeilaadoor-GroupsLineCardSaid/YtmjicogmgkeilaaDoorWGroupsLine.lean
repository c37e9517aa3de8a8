/-
  The statement GroupsLine: who is above takes all with it: of groups in a row the last is gone, if one is cancelled. No condition but the listed variable's.
-/
import Derived.Test.YtmjicogmgkeilaaDoorFrame
import Derived.Test.YtmjicogmgkeilaaDoorTellFrame
import Derived.Test.YtmjicogmgkeilaaDoorGroups
import Derived.Test.YtmjicogmgkeilaaDoorTold
namespace Go.Proofs.YtmjicogmgkeilaaDoor.groupsLine
open Go.ChangeShapes Go.WideShapes Go.ChangeAt Go.RowKit
open Go.ChangeMaps (open_string shut_string)
set_option linter.unusedVariables false

def lineP (i : Nat) : Int := (i : Int) - 1
theorem tree_line (n : Nat) : Tree n lineP := fun i hi => by unfold lineP; omega
def noneC (_ : Nat) : Bool := false
theorem line_gone (a : Nat) (k : Nat) : (decide ((k : Int) ≥ (a : Int))) = (cancel noneC a k || decide (lineP k ≥ (a : Int))) := by
  unfold cancel noneC lineP
  by_cases h : k = a
  · subst h; simp
  · rw [if_neg h, Bool.false_or]
    apply decide_eq_decide.2
    omega

set_option maxHeartbeats 8000000 in
set_option maxRecDepth 100000 in
theorem walk (a0 : Int) (a1 : Int) (w : World) (hglob : Glob w) (w0 : (Lit.int .i64 a0).wf = true) (w1 : (Lit.int .i64 a1).wf = true) :
    Calls Tryd.prog 6 #[.int .i64 a0, .int .i64 a1] w fun e w' => e = .returned (.bool true) ∧ Below w.heap.size w w' := by
  have bd1 := bounds_i64 w1
  clear w0 w1
  have HG := Lib.hid hglob
  clear hglob
  go_enter Tryd.func6, Tryd.ntmps6
  by_cases hin : 1 ≤ a0 ∧ a0 ≤ 12
  · obtain ⟨g1, g2⟩ := hin
    obtain ⟨n, rfl⟩ := Int.eq_ofNat_of_zero_le (show 0 ≤ a0 by omega)
    go_wp2_with fail
    go_loopw [5, 6] (fun vg vi wr => ∃ i : Nat, i ≤ n ∧ vi = .int .i64 i ∧ OwnGroups wr w.heap.size vg i lineP noneC ∧ Only [] w wr)
      (fun _ vi _ => n - (intOf vi).toNat)
    case atStart => exact ⟨0, Nat.zero_le _, rfl, World.ownsRow_nil _ _ _ _, Only.refl _ _⟩
    case round =>
      obtain ⟨wo, rfl⟩ : ∃ wo : World, wo = wr := ⟨_, rfl⟩
      obtain ⟨i, hi, rfl, hO, ho⟩ := hrel
      by_cases hlt : i < n
      · have hsz := ho.size
        have ho1 := ho.alloc (.cells #[.int .i64 ((i : Int) - 1), .bool false] 52)
        have hO1 : OwnGroups (wo.alloc (.cells #[.int .i64 ((i : Int) - 1), .bool false] 52)) w.heap.size _ i lineP noneC := Row.same hO ((Only.refl [] wo).alloc _)
        have hr1 : RowAt (wo.alloc (.cells #[.int .i64 ((i : Int) - 1), .bool false] 52)) (.slice (some ⟨wo.heap.size, 0, none⟩) 1 1) 1 2 [.int .i64 ((i : Int) - 1), .bool false] :=
          RowAt.one (cs := #[.int .i64 ((i : Int) - 1), .bool false]) (heap_alloc_new _ _) rfl (by simp; exact ⟨rfl, rfl⟩)
        obtain ⟨a, cap, rfl, hf1, hf2, _⟩ := Row.form hO
        clear hO ho
        go_wp2_with (at_builtin; refine wpList_append_rows sliceOf_groups rfl (.tmp 23) (.tmp 27) rfl _ w.heap.size _ i _ _ 1 _ hO1 hr1 (by omega) (by have := ho1.size; omega) rfl rfl (Only.refl _ _) ?_; intro v' w' hI hOn _)
        have hI2 : OwnGroups w' w.heap.size v' (i + 1) lineP noneC := by
          have e := flatG_push lineP noneC i
          unfold OwnGroups
          rw [← e]
          exact hI
        have ho2 : Only [] w w' := ho1.trans hOn (fun x hx hl => by have := (Row.far hO1 x hx).1; omega)
        clear hO1 hr1 hI hOn ho1
        go_wp2
        go_roundw
        case rel => exact ⟨i + 1, by omega, by go_num, hI2, ho2⟩
        case measure => (simp [intOf]; try omega)
      · obtain rfl : i = n := by omega
        have hgl := HG.out.only ho
        have hsz := ho.size
        by_cases hat : 0 ≤ a1 ∧ a1 < i
        · obtain ⟨at0, at1⟩ := hat
          obtain ⟨m, rfl⟩ := Int.eq_ofNat_of_zero_le at0
          have hd0 : decide (i ≤ m) = false := by simp; omega
          obtain ⟨a, cap, rfl, hf1, hf2, _⟩ := Row.form hO
          go_wp2_with fail
          refine (groups_Cancel_ok _ i lineP noneC m wo (OwnGroups.reads hO) (by omega) (tree_line i) (by omega)).mono ?_
          rintro e w1 ⟨v1, rfl, hO1, ho1⟩
          have hoo := ho.trans ho1 (by simp)
          clear hO ho ho1
          obtain ⟨a2, cap2, rfl, hf3, hf4, _⟩ := Row.form hO1
          have hIn := OwnGroups.reads hO1
          clear hO1
          go_wp2_with fail
          go_loopw [9, 10] (fun vi v10 wr => ∃ k : Nat, k ≤ i ∧ vi = .int .i64 k ∧ Only [] w1 wr) (fun vi _ _ => i - (intOf vi).toNat)
          case atStart => exact ⟨0, Nat.zero_le _, rfl, Only.refl _ _⟩
          case round =>
            obtain ⟨k, hk, rfl, ho2⟩ := hrel
            by_cases hlk : k < i
            · have hGn := groups_Gone_ok _ i lineP (cancel noneC m) (fun j => decide (j ≥ (m : Int))) k wr (hIn.same ho2) (by omega) (tree_line i) (by omega) (by omega) (by simp; omega) (fun j _ => line_gone m j)
              go_wp2_with fail
              refine hGn.mono ?_
              rintro e w3 ⟨rfl, ho3⟩
              have ho4 := ho2.trans ho3 (by simp)
              clear hGn ho2 ho3
              by_cases hkm : m ≤ k
              all_goals
                go_wp2
                go_roundw
                case rel =>
                  exact ⟨k + 1, by omega, by go_num, ho4⟩
                case measure => (simp [intOf]; try omega)
            · obtain rfl : k = i := by omega
              go_wp2
              go_ret
              exact ⟨rfl, (hoo.trans ho2 (by simp)).below (Nat.le_refl _) (by simp)⟩
        · have hout : a1 < 0 ∨ (0 ≤ a1 ∧ (i : Int) ≤ a1) := by omega
          obtain ⟨a, cap, rfl, hf1, hf2, _⟩ := Row.form hO
          go_wp2_with fail
          refine (groups_Cancel_out _ i lineP noneC a1 wo (OwnGroups.reads hO) (by omega) (tree_line i) (by omega)).mono ?_
          rintro e w1 ⟨rfl, ho1⟩
          have hoo := ho.trans ho1 (by simp)
          have hgl1 := HG.out.only hoo
          clear hO ho ho1 hat
          rcases hout with h | ⟨h1, h2⟩
          all_goals
            go_wp2_with fail
            refine (same_err 1 1 _ hgl1 true rfl).mono ?_
            rintro e w2 ⟨rfl, ho2⟩
            go_wp2
            go_ret
            exact ⟨by simp, (hoo.trans ho2 (by simp)).below (Nat.le_refl _) (by simp)⟩
  · have hin2 : a0 < 1 ∨ (1 ≤ a0 ∧ 12 < a0) := by omega
    rcases hin2 with h | ⟨h1, h2⟩
    all_goals
      go_wp2
      go_ret
      exact ⟨by rfl, (Only.refl [] w).below (Nat.le_refl _) (by simp)⟩

end Go.Proofs.YtmjicogmgkeilaaDoor.groupsLine
