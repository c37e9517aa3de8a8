/-
  The statement PicksNone: with none handed in what is picked is 0. No condition but the listed variable's.
-/
import Derived.Test.YtmjicogmgkeilaaDoorFrame
import Derived.Test.YtmjicogmgkeilaaDoorTellFrame
import Derived.Test.YtmjicogmgkeilaaDoorPicks
namespace Go.Proofs.YtmjicogmgkeilaaDoor.picksNone
open Go.ChangeShapes Go.WideShapes Go.ChangeAt Go.RowKit
open Go.ChangeMaps (open_string shut_string)
set_option linter.unusedVariables false

set_option maxHeartbeats 2000000 in
set_option maxRecDepth 100000 in
theorem walk (a0 : Int) (w : World) (hglob : Glob w) (w0 : (Lit.int .i64 a0).wf = true) :
    Calls Tryd.prog 4 #[.int .i64 a0] w fun e w' => e = .returned (.bool true) ∧ Below w.heap.size w w' := by
  have bd0 := bounds_i64 w0
  have HG := Lib.hid hglob
  have hr1 : Reads (w.alloc (.cells #[.int .i64 5] 3)) (.slice (some ⟨w.heap.size, 0, none⟩) 1 1) [5] := by
    refine .inr ⟨by simp, w.heap.size, 0, 1, rfl, by simp, by unfold maxLen; omega, fun i hi => ?_⟩
    obtain rfl : i = 0 := by simp at hi; exact hi
    rw [World.cell?_alloc_new]; rfl
  clear w0 hglob
  go_enter Tryd.func4, Tryd.ntmps4
  go_wp2_with fail
  refine (Picks.new _ [5] _ hr1 (by simp) (by simp)).mono ?_
  rintro e w1 ⟨b, fp, rfl, hP, ho, hfp⟩
  have hoo := ((Only.refl [] w).alloc (.cells #[.int .i64 5] 3)).trans ho (by simp)
  have hfp2 : ∀ x ∈ fp, w.heap.size ≤ x := fun x hx => by have := hfp x hx; simp at this; omega
  clear hr1 ho hfp
  go_wp2_with fail
  refine (Picks.Next fp b [5] 0 3 _ hP (by omega) (by omega)).mono ?_
  rintro e w2 ⟨rfl, _, ho2⟩
  replace hb := hfp2 b hP.lt.1
  have hoo2 := hoo.fresh ho2 hb
  rw [show pickOf [5] 0 3 = 2 from rfl]
  clear hP ho2 hoo hfp2 hb
  go_wp2_with fail
  refine (Picks.new _ [] _ (.inl ⟨rfl, .inl rfl⟩) (by simp) (by simp)).mono ?_
  rintro e w3 ⟨b3, fp3, rfl, hP3, ho3, hfp3⟩
  have hoo3 := hoo2.trans ho3 (by simp)
  have hb3 := hfp3 b3 hP3.lt.1
  have hsz := hoo2.size
  have hb4 : w.heap.size ≤ b3 := by omega
  clear hoo2 ho3 hfp3 hb3 hsz
  go_wp2_with fail
  by_cases hn : 1 ≤ a0 ∧ a0 ≤ 400
  · obtain ⟨h1, h2⟩ := hn
    refine (Picks.Next fp3 b3 [] 0 a0 _ hP3 h1 h2).mono ?_
    rintro e w4 ⟨rfl, hP4, ho4⟩
    have hoo4 := hoo3.fresh ho4 hb4
    rw [show pickOf [] 0 a0 = 0 from rfl]
    rw [show pickUp [] 0 = 0 from rfl] at hP4
    clear hP3 hoo3 ho4
    go_wp2_with fail
    refine (Picks.used fp3 b3 [] 0 _ hP4).mono ?_
    rintro e w5 ⟨rfl, rfl⟩
    go_wp2
    go_ret
    exact ⟨by simp, hoo4.below (Nat.le_refl _) (by simp)⟩
  · have hn2 : a0 < 1 ∨ 400 < a0 := by omega
    refine (Picks.Next_no b3 a0 _ hn2).mono ?_
    rintro e w4 ⟨rfl, rfl⟩
    have hgl := HG.out.only hoo3
    clear hn
    rcases hn2 with h | h
    · go_wp2_with fail
      refine (same_err 1 1 _ hgl true rfl).mono ?_
      rintro e w5 ⟨rfl, ho5⟩
      go_wp2
      go_ret
      exact ⟨by simp, (hoo3.trans ho5 (by simp)).below (Nat.le_refl _) (by simp)⟩
    · have h1 : 1 ≤ a0 := by omega
      go_wp2_with fail
      refine (same_err 1 1 _ hgl true rfl).mono ?_
      rintro e w5 ⟨rfl, ho5⟩
      go_wp2
      go_ret
      exact ⟨by simp, (hoo3.trans ho5 (by simp)).below (Nat.le_refl _) (by simp)⟩

end Go.Proofs.YtmjicogmgkeilaaDoor.picksNone
