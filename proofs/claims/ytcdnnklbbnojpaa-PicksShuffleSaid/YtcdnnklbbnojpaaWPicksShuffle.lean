/-
  The statement PicksShuffle: what is shuffled is each number once; what is picked is below what was asked. No condition.
-/
import Derived.Test.YtcdnnklbbnojpaaFrame
import Derived.Test.YtcdnnklbbnojpaaShuffle
import Derived.Test.YtcdnnklbbnojpaaMarks
namespace Go.Proofs.Ytcdnnklbbnojpaa.picksShuffle
open Go.ChangeShapes Go.WideShapes Go.ChangeAt Go.RowKit
open Go.ChangeMaps (open_string shut_string)
set_option linter.unusedVariables false

theorem zero_30 (w : World) : (zeroValue 62).run Try.prog w = .ok (.agg (Array.replicate 30 (.bool false))) w := by kernel_rfl
theorem bools_30 (w : World) : Bools (w.alloc (.cells (Array.replicate 30 (.bool false)) 62)) w.heap.size 30 (fun _ => false) :=
  Bools.new w _ _ 30 fun i hi => by simp [hi]

/-- Is a number among the first i? -/
def seen (xs : List Int) (i : Nat) : Nat → Bool := fun j => decide ((j : Int) ∈ xs.take i)
theorem seen_zero (xs : List Int) : seen xs 0 = fun _ => false := by funext j; simp [seen]
theorem seen_step (xs : List Int) (i j : Nat) (hi : i < xs.length) (hj : nth xs i = (j : Int)) : (fun m => if m = j then true else seen xs i m) = seen xs (i + 1) := by
  funext m
  unfold seen
  rw [take_succ_nth xs i hi, hj]
  by_cases e : m = j
  · subst e; simp
  · rw [if_neg e]
    have : ¬ ((m : Int) = (j : Int)) := by omega
    simp [this]
theorem seen_fresh {n : Nat} {xs : List Int} (h : Each n xs) (i j : Nat) (hi : i < n) (hj : nth xs i = (j : Int)) : seen xs i j = false := by
  unfold seen
  rw [decide_eq_false_iff_not]
  intro hm
  obtain ⟨m, hm1, hm2⟩ := List.getElem_of_mem hm
  have hml : m < i := by have := hm1; rw [List.length_take] at this; omega
  have hmx : m < xs.length := by rw [h.1]; omega
  have e : nth xs m = (j : Int) := by rw [← hm2]; simp [nth, hmx]
  have := h.2.2 m i (by omega) hi (by rw [e, hj])
  omega

set_option maxHeartbeats 4000000 in
set_option maxRecDepth 100000 in
theorem walk (v0 : Value) (l0 : List Int) (a1 : Int) (a2 : Int) (w : World) (w0 : InInts w v0 l0) (w1 : (Lit.int .i64 a1).wf = true) (w2 : (Lit.int .i64 a2).wf = true) :
    Calls Try.prog 10 #[v0, .int .i64 a1, .int .i64 a2] w fun e w' => e = .returned (.bool true) ∧ Below w.heap.size w w' := by
  have bd1 := bounds_i64 w1
  have bd2 := bounds_i64 w2
  have HA := w0
  have hr1 : Reads (w.alloc (.cells #[.int .i64 7, .int .i64 5] 3)) (.slice (some ⟨w.heap.size, 0, none⟩) 2 2) [7, 5] := by
    refine .inr ⟨by simp, w.heap.size, 0, 2, rfl, by simp, by unfold maxLen; omega, fun i hi => ?_⟩
    have hi2 : i = 0 ∨ i = 1 := by simp at hi; omega
    rw [World.cell?_alloc_new]
    rcases hi2 with rfl | rfl <;> rfl
  clear w0 w1 w2
  go_enter Try.func10, Try.ntmps10
  go_wp2_with fail
  refine (Picks.new _ [7, 5] _ hr1 (by simp) (by simp)).mono ?_
  rintro e w1 ⟨b, fp, rfl, hP, ho, hfp⟩
  have hoo := ((Only.refl [] w).alloc (.cells #[.int .i64 7, .int .i64 5] 3)).trans ho (by simp)
  have hb : w.heap.size ≤ b := by have := hfp b hP.lt.1; simp at this; omega
  clear hr1 ho hfp
  go_wp2_with fail
  refine (Picks.Next fp b [7, 5] 0 4 _ hP (by omega) (by omega)).mono ?_
  rintro e w2 ⟨rfl, hP2, ho2⟩
  have hoo2 := hoo.fresh ho2 hb
  rw [show pickOf [7, 5] 0 4 = 3 from rfl]
  rw [show pickUp [7, 5] 0 = 1 from rfl] at hP2
  clear hP ho2 hoo hb
  go_wp2_with fail
  refine (Picks.used fp b _ 1 _ hP2).mono ?_
  rintro e w3 ⟨rfl, rfl⟩
  clear hP2
  have HA2 := HA.only hoo2
  have hrd := HA2.reads
  have hbd := HA2.bounds
  have hln := HA2.len
  go_wp2_with fail
  by_cases h400 : l0.length ≤ 400
  · by_cases hpos : ∀ x ∈ l0, 0 ≤ x
    · refine (Picks.new _ l0 _ hrd h400 (fun x hx => ⟨hpos x hx, (hbd x hx).2⟩)).mono ?_
      rintro e w4 ⟨b, fp, rfl, hP, ho, hfp⟩
      have hsz := hoo2.size
      have hb : w.heap.size ≤ b := by have := hfp b hP.lt.1; omega
      have hfp2 : ∀ x ∈ fp, w.heap.size ≤ x := fun x hx => by have := hfp x hx; omega
      have hoo := hoo2.trans ho (by simp)
      obtain ⟨va, vc, rfl, _⟩ := HA.opt
      obtain ⟨ln, hlen⟩ : ∃ ln, l0.length = ln := ⟨_, rfl⟩
      have HLN := Lib.hid hlen
      have hall := Lib.hid hP.all
      rw [hlen] at h400 ⊢
      clear HA2 hrd hbd hln hpos hoo2 ho hfp hsz HA hlen
      go_wp2_with fail
      have key : ∃ (kk : Int) (er : Value) (u : Nat), (er = .nilIface ∧ 0 ≤ kk ∧ kk < a2 ∨ er = .iface 23 (.int .i64 1)) ∧ Calls Try.prog 34 #[.pointer (some ⟨b, 0, none⟩), .int .i64 a2] w4 fun e w' => e = .returned (.tuple #[.int .i64 kk, er]) ∧ PicksIs w' fp b l0 u ∧ Only [b] w4 w' := by
        by_cases hm : 1 ≤ a2 ∧ a2 ≤ 400
        · have := pickOf_range l0 0 a2 hall.out hm.1
          exact ⟨_, _, _, .inl ⟨rfl, this⟩, Picks.Next fp b l0 0 a2 w4 hP hm.1 hm.2⟩
        · exact ⟨0, _, 0, .inr rfl, (Picks.Next_no b a2 w4 (by omega)).mono fun e w' ⟨he, hw⟩ => ⟨he, by rw [← hw]; exact hP, by rw [← hw]; exact Only.refl _ _⟩⟩
      obtain ⟨kk, er, u, her, hcall⟩ := key
      refine hcall.mono ?_
      rintro e w5 ⟨rfl, hP5, ho5⟩
      have hoo5 := hoo.fresh ho5 hb
      clear hcall hP ho5 hoo
      rcases her with ⟨rfl, hk1, hk2⟩ | rfl
      all_goals
        go_wp2_with fail
        by_cases hn : 0 ≤ a1 ∧ a1 ≤ 30
        · obtain ⟨hn1, hn2⟩ := hn
          obtain ⟨n, rfl⟩ := Int.eq_ofNat_of_zero_le hn1
          have hE := shufTo_each l0 hall.out n (n - 1) (numsTo n, u)
          have hU := shufTo_used l0 (n - 1) (numsTo n, u) hP5.le
          refine (Picks.shuffle fp b l0 u n _ hP5 (by omega)).mono ?_
          rintro e w6 ⟨vs, rfl, hI, hP6, ho6⟩
          have hE2 : Each n (shuf l0 u n).1 := by
            rcases n with _ | n
            · exact numsTo_each 0
            · exact hE (by omega) (numsTo_each _)
          have hU2 : (shuf l0 u n).2 ≤ l0.length := hU
          generalize (shuf l0 u n).1 = xs at *
          generalize (shuf l0 u n).2 = u2 at *
          have hoo6 := hoo5.fresh ho6 hb
          have HE := Lib.hid hE2
          obtain ⟨xa, xc, rfl, hxc⟩ := hI.opt
          rw [hE2.1] at hxc ⊢
          rw [HLN.out] at hU2
          have hz := zero_30
          have hB := Lib.hid (bools_30 w6)
          have hal := Lib.hid ((Only.refl [] w6).alloc (.cells (Array.replicate 30 (.bool false)) 62))
          have hd1 : decide ((n : Int) < 0) = false := by simp
          clear hE hU hE2 hI ho6 hP5 hoo5
          go_wp2_with fail
          go_loopw [16] (fun vi wr => ∃ i : Nat, i ≤ n ∧ vi = .int .i64 i ∧ Bools wr w6.heap.size 30 (seen xs i) ∧ Only [] w6 wr) (fun vi _ => n - (intOf vi).toNat)
          case atStart => exact ⟨0, Nat.zero_le _, rfl, by rw [seen_zero]; exact hB.out, hal.out⟩
          case round =>
            obtain ⟨i, hi, rfl, hBr, hor⟩ := hrel
            clear hB hal hz
            by_cases hin : i < n
            · obtain ⟨j, hjn, hje⟩ := HE.out.2.1 i hin
              obtain ⟨g, rfl, hc0⟩ := hxc i hin
              have hc : wr.cell? ⟨g, i, none⟩ = some (.int .i64 (j : Int)) := by
                rw [hor.cell (p := ⟨g, i, none⟩) (cell_lt hc0) (by simp), hc0, hje]
              have hxl : i < xs.length := by rw [HE.out.1]; exact hin
              obtain ⟨hbc, hbf⟩ := hBr j (by omega)
              rw [seen_fresh HE.out i j hin hje] at hbc
              have hset := Lib.hid (hBr.set j true)
              rw [seen_step xs i j hxl hje] at hset
              have hos := Lib.hid (hor.setCell (p := ⟨w6.heap.size, j, none⟩) (fun h => by simp at h) (.bool true))
              have hj30 : j < 30 := by omega
              clear hxc hc0 hje hBr hor hxl
              go_wp2
              go_roundw
              case rel => exact ⟨i + 1, by omega, by go_num, hset.out, hos.out⟩
              case measure => (simp [intOf]; try omega)
            · obtain rfl : i = n := by omega
              have hP7 := hP6.only hor (by simp)
              have hoo7 := hoo6.trans hor (by simp)
              clear hxc hBr hor hP6 hoo6
              go_wp2_with fail
              refine (Picks.used fp b l0 u2 _ hP7).mono ?_
              rintro e w7 ⟨rfl, rfl⟩
              go_wp2
              go_ret
              exact ⟨by simp, hoo7.below (Nat.le_refl _) (by simp)⟩
        · have hn2 : a1 < 0 ∨ 30 < a1 := by omega
          clear hn
          refine (Picks.shuffle_no b a1 _ hn2).mono ?_
          rintro e w6 ⟨rfl, rfl⟩
          rcases hn2 with h | h
          · go_wp2
            go_ret
            exact ⟨by simp, hoo5.below (Nat.le_refl _) (by simp)⟩
          · have h0 : 0 ≤ a1 := by omega
            go_wp2
            go_ret
            exact ⟨by simp, hoo5.below (Nat.le_refl _) (by simp)⟩
    · refine (Picks.new_bad _ l0 _ hrd h400 hpos).mono ?_
      rintro e w4 ⟨rfl, ho⟩
      clear hpos
      go_wp2
      go_ret
      exact ⟨rfl, (hoo2.trans ho (by simp)).below (Nat.le_refl _) (by simp)⟩
  · refine (Picks.new_full _ l0 _ hrd hln (by omega)).mono ?_
    rintro e w4 ⟨rfl, rfl⟩
    go_wp2
    go_ret
    exact ⟨rfl, hoo2.below (Nat.le_refl _) (by simp)⟩

end Go.Proofs.Ytcdnnklbbnojpaa.picksShuffle
