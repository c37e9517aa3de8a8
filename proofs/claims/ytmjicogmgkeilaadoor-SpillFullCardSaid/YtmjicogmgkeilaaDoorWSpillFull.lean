/-
  The statement SpillFull: sixty and no more; and what is refused leaves nothing. No condition but the listed variable's.
-/
import Derived.Test.YtmjicogmgkeilaaDoorFrame
import Derived.Test.YtmjicogmgkeilaaDoorTellFrame
import Derived.Test.YtmjicogmgkeilaaDoorSpill
import Derived.Test.YtmjicogmgkeilaaDoorMake
namespace Go.Proofs.YtmjicogmgkeilaaDoor.spillFull
open Go.ChangeShapes Go.WideShapes Go.ChangeAt Go.RowKit
open Go.ChangeMaps (open_string shut_string)
set_option linter.unusedVariables false

theorem rep_split (n room : Nat) : ((List.replicate n (0 : Int)).take room).length + ((List.replicate n (0 : Int)).drop room).length = n := by
  simp; omega

set_option maxHeartbeats 4000000 in
set_option maxRecDepth 100000 in
theorem walk (a0 : Int) (a1 : Int) (w : World) (hglob : Glob w) (w0 : (Lit.int .i64 a0).wf = true) (w1 : (Lit.int .i64 a1).wf = true) :
    Calls Tryd.prog 3 #[.int .i64 a0, .int .i64 a1] w fun e w' => e = .returned (.bool true) ∧ Below w.heap.size w w' := by
  have bd0 := bounds_i64 w0
  have bd1 := bounds_i64 w1
  clear w0 w1
  have HG := Lib.hid hglob
  clear hglob
  go_enter Tryd.func3, Tryd.ntmps3
  go_wp2_with fail
  refine (Spill.new _ _ (by omega) (by omega)).mono ?_
  rintro e w1 ⟨b, fp, rfl, hs, ho, hfp⟩
  replace hs : SpillIs w1 fp b 4 [] := hs
  by_cases hin : 0 ≤ a0 ∧ a0 ≤ 70 ∧ 0 ≤ a1 ∧ a1 ≤ 70
  · obtain ⟨g1, g2, g3, g4⟩ := hin
    obtain ⟨n, rfl⟩ := Int.eq_ofNat_of_zero_le g1
    obtain ⟨m, rfl⟩ := Int.eq_ofNat_of_zero_le g3
    have hmk := make_ints n (by omega)
    have hI := made_ints w1 n (by omega)
    have hal : Only [] w1 (w1.alloc (.cells (madeCells #[.int .i64 0] n) 3)) := (Only.refl [] w1).alloc _
    have hs1 := hs.only hal (by simp)
    have hsz1 := ho.size
    have hnew : ∀ x ∈ own (Value.slice (some ⟨w1.heap.size, 0, none⟩) n n), x ∉ fp := by
      intro x hx hx2
      have h1 := hs.lt x hx2
      have h2 := (hI.own_lt x hx).1
      omega
    have ho1 := ho.trans hal (by simp)
    clear hs
    go_wp2_with fail
    clear hmk
    by_cases h60 : n ≤ 60
    · refine (Spill.put _ _ _ _ _ _ _ hs1 hI.reads hnew (by simpa using h60)).mono ?_
      rintro e w2 ⟨rfl, fp2, hs2, ho2, hk2⟩
      rw [List.nil_append] at hs2
      have hoo2 := ho1.kin ho2 hfp
      have hfp2 := kin_ge hk2 hfp ho1.size
      have hmk := make_ints m (by omega)
      have hI2 := made_ints w2 m (by omega)
      have hal2 : Only [] w2 (w2.alloc (.cells (madeCells #[.int .i64 0] m) 3)) := (Only.refl [] w2).alloc _
      have hs3 := hs2.only hal2 (by simp)
      have hnew2 : ∀ x ∈ own (Value.slice (some ⟨w2.heap.size, 0, none⟩) m m), x ∉ fp2 := by
        intro x hx hx2
        have h1 := hs2.lt x hx2
        have h2 := (hI2.own_lt x hx).1
        omega
      have ho3 := hoo2.trans hal2 (by simp)
      clear hs1 hI hal hnew ho1 ho2 hk2 hs2 hfp hoo2
      go_wp2_with fail
      clear hmk
      by_cases hnm : n + m ≤ 60
      · refine (Spill.put _ _ _ _ _ _ _ hs3 hI2.reads hnew2 (by simpa using hnm)).mono ?_
        rintro e w3 ⟨rfl, fp3, hs3', ho4, _⟩
        rw [List.replicate_append_replicate] at hs3'
        have hoo4 := ho3.kin ho4 hfp2
        have hlen := Spill.len _ _ _ _ _ hs3'
        have hsp := rep_split (n + m) 4
        obtain ⟨p, hp⟩ : ∃ p, ((List.replicate (n + m) (0 : Int)).take 4).length = p := ⟨_, rfl⟩
        obtain ⟨q, hq⟩ : ∃ q, ((List.replicate (n + m) (0 : Int)).drop 4).length = q := ⟨_, rfl⟩
        rw [hp, hq] at hlen hsp
        clear hs3 hs3' ho4 hp hq hI2 hal2 hnew2
        go_wp2_with fail
        refine hlen.mono ?_
        rintro e w4 ⟨rfl, k4, rfl⟩
        have e1 : ((p : Int) + (q : Int) == (n : Int) + (m : Int)) = true := by simp; omega
        clear hlen
        go_wp2
        go_ret
        exact ⟨by simp, (hoo4.drewN k4).below (Nat.le_refl _) (by simp)⟩
      · refine (Spill.put_full _ _ _ _ _ _ _ hs3 hI2.reads (by simp; omega) (by simp; omega)).mono ?_
        rintro e w3 ⟨rfl, k3, rfl⟩
        have hs4 := hs3.only ((Only.refl [] _).drewN k3) (by simp)
        have hoo4 := ho3.drewN k3
        have hlen := Spill.len _ _ _ _ _ hs4
        have hsp := rep_split n 4
        obtain ⟨p, hp⟩ : ∃ p, ((List.replicate n (0 : Int)).take 4).length = p := ⟨_, rfl⟩
        obtain ⟨q, hq⟩ : ∃ q, ((List.replicate n (0 : Int)).drop 4).length = q := ⟨_, rfl⟩
        rw [hp, hq] at hlen hsp
        clear hs3 hs4 hp hq hI2 hal2 hnew2
        go_wp2_with fail
        refine hlen.mono ?_
        rintro e w4 ⟨rfl, k4, rfl⟩
        have hoo5 := ho3.drewN (k3 + k4)
        have hgl := HG.out.only hoo5
        have e1 : ((p : Int) + (q : Int) == (n : Int)) = true := by simp; omega
        clear hlen hoo4 ho3
        go_wp2_with fail
        refine (same_err 4 4 _ hgl true rfl).mono ?_
        rintro e w5 ⟨rfl, ho5⟩
        go_wp2
        go_ret
        exact ⟨by simp, (hoo5.trans ho5 (by simp)).below (Nat.le_refl _) (by simp)⟩
    · refine (Spill.put_full _ _ _ _ _ _ _ hs1 hI.reads (by simp; omega) (by simp; omega)).mono ?_
      rintro e w2 ⟨rfl, k2, rfl⟩
      have hs2 := hs1.only ((Only.refl [] _).drewN k2) (by simp)
      have ho2 := ho1.drewN k2
      have hlen := Spill.len _ _ _ _ _ hs2
      rw [show (([] : List Int).take 4).length = 0 from rfl, show (([] : List Int).drop 4).length = 0 from rfl] at hlen
      clear hs1 hs2 hI hal hnew
      go_wp2_with fail
      refine hlen.mono ?_
      rintro e w4 ⟨rfl, k4, rfl⟩
      have hoo5 := ho1.drewN (k2 + k4)
      have hgl := HG.out.only hoo5
      clear hlen ho2 ho1
      go_wp2_with fail
      refine (same_err 4 4 _ hgl true rfl).mono ?_
      rintro e w5 ⟨rfl, ho5⟩
      go_wp2
      go_ret
      exact ⟨by simp, (hoo5.trans ho5 (by simp)).below (Nat.le_refl _) (by simp)⟩
  · have hout : a0 < 0 ∨ (0 ≤ a0 ∧ 70 < a0) ∨ (0 ≤ a0 ∧ a0 ≤ 70 ∧ a1 < 0) ∨ (0 ≤ a0 ∧ a0 ≤ 70 ∧ 0 ≤ a1 ∧ 70 < a1) := by omega
    clear hin
    rcases hout with h | ⟨h, h2⟩ | ⟨h, h2, h3⟩ | ⟨h, h2, h3, h4⟩
    all_goals
      go_wp2
      go_ret
      exact ⟨by simp, ho.below (Nat.le_refl _) (by simp)⟩

end Go.Proofs.YtmjicogmgkeilaaDoor.spillFull
