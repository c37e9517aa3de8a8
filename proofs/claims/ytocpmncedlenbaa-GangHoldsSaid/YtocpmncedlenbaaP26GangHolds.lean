/-
  Contracts of package trace: whole.
  Contract of greedy.Hands.
  What is wrong with a plan, and hands.
-/
import Derived.Test.YtocpmncedlenbaaP20GangHolds
import Derived.Test.YtocpmncedlenbaaP14GangHolds
import Derived.Test.YtocpmncedlenbaaP1GangHolds
import Derived.Test.YtocpmncedlenbaaRows
namespace Go.Proofs.Ytocpmncedlenbaa
open Go.RowKit Go.Deep

set_option maxRecDepth 100000 in
theorem trace_alone (n : Int) (w : World) :
    Calls Try.prog 32 #[.int .i64 n] w fun e w' => e = .returned (.bool (aloneB n)) ∧ w = w' := by
  by_cases h1 : n = 5
  · subst h1
    go_enter Try.func32, Try.ntmps32
    go_wp2
    go_ret
    exact ⟨rfl, rfl⟩
  · have h5 : (n == 5) = false := by simpa using h1
    obtain ⟨b, hb⟩ : ∃ b, (n == 6) = b := ⟨_, rfl⟩
    have e : aloneB n = b := by rw [← hb]; unfold aloneB; by_cases h6 : n = 6 <;> simp [h1, h6]
    rw [e]
    clear e h1
    go_enter Try.func32, Try.ntmps32
    go_wp2
    go_ret
    exact ⟨rfl, rfl⟩

set_option maxRecDepth 100000 in
set_option maxHeartbeats 4000000 in
theorem trace_whole (v : Value) (l : List Dd) (w : World) (hv : DeedsAt w v l) (hl : l.length ≤ 9223372036854775807) :
    Calls Try.prog 31 #[v] w fun e w' => e = .returned (errV (ddsFault l)) ∧ Only [] w w' := by
  obtain ⟨a, cap, rfl, hc⟩ := hv.opt
  obtain ⟨n, hn⟩ : ∃ n, l.length = n := ⟨_, rfl⟩
  have HN := Lib.hid hn
  have HC := Lib.hid hc
  rw [hn] at HC hl ⊢
  clear hc hv
  by_cases hbig : 1000 < n
  · have e : ddsFault l = 4 := by unfold ddsFault; rw [if_pos (by omega)]
    rw [e, errV_ne (by decide)]
    clear e hn
    go_enter Try.func31, Try.ntmps31
    go_wp2
    go_ret
    exact ⟨rfl, Only.refl _ _⟩
  · have e : ddsFault l = firstDd l := by unfold ddsFault; rw [if_neg (by omega)]
    obtain ⟨E, hE⟩ : ∃ E, firstDd l = E := ⟨_, rfl⟩
    rw [e, hE]
    have HE := Lib.hid hE
    clear e hn hE
    go_enter Try.func31, Try.ntmps31
    go_wp2_with fail
    go_loopw [12] (fun vi wr => ∃ i : Nat, i ≤ n ∧ vi = .int .i64 i ∧ firstDd (l.drop i) = E ∧ Only [] w wr) (fun vi _ => n - (intOf vi).toNat)
    case atStart => exact ⟨0, Nat.zero_le _, rfl, HE.out, Only.refl _ _⟩
    case round =>
      obtain ⟨i, hi, rfl, hd, ho⟩ := hrel
      by_cases him : i < n
      · obtain ⟨b, off, rfl, k0, k1, k2, k3⟩ := HC.out i him
        have c0 := (ho.cell (p := ⟨b, _, none⟩) (cell_lt k0) (by simp)).trans k0
        have c1 := (ho.cell (p := ⟨b, _, none⟩) (cell_lt k1) (by simp)).trans k1
        have c2 := (ho.cell (p := ⟨b, _, none⟩) (cell_lt k2) (by simp)).trans k2
        have c3 := (ho.cell (p := ⟨b, _, none⟩) (cell_lt k3) (by simp)).trans k3
        rw [firstDd_drop l i (by rw [HN.out]; exact him)] at hd
        have HO := Lib.hid ho
        clear k0 k1 k2 k3 ho
        generalize ddAt l i = d at *
        have hcs := dd_three d
        have hr := @dd_range d
        have hs := @dd_shape d
        have hg := @dd_right d
        obtain ⟨dw, dh, dt, dr⟩ := d
        simp only at c0 c1 c2 c3 hr hs hg
        have hal := Lib.hid (HO.out.alloc (.cells #[.int .i64 dw, .int .i64 dh, .int .i64 dt, .int .i64 dr] 36))
        have HD := Lib.hid hd
        clear hd
        rcases hcs with h | h | h
        · have hE1 := Lib.hid (show E = 1 by rw [← HD.out, if_neg (by rw [h]; decide)]; exact h)
          have hx := hr h
          clear hr hs hg h HD
          rcases hx with h1 | ⟨h1, h2⟩ | ⟨h1, h2, h3⟩ | ⟨h1, h2, h3, h4⟩ | ⟨h1, h2, h3, h4, h5⟩ | ⟨h1, h2, h3, h4, h5, h6⟩ | ⟨h1, h3, h4, h5, h6, h7⟩ | ⟨h1, h3, h4, h5, h6, h7, h8⟩
          all_goals first | subst h1 | skip
          all_goals
            go_wp2
            go_ret
            exact ⟨by rw [hE1.out]; rfl, hal.out⟩
        · have hE3 := Lib.hid (show E = 3 by rw [← HD.out, if_neg (by rw [h]; decide)]; exact h)
          obtain ⟨h1, h2, h3, h4, h5, h6, hx⟩ := hs h
          clear hr hs hg h HD
          rcases hx with ⟨h7, h8⟩ | ⟨rfl, rfl, h9⟩ | ⟨rfl, rfl, h9⟩
          · have e2 : (dw == 2) = false := by simpa using h7
            have e0 : (dr != 0) = true := by simpa using h8
            go_wp2_with fail
            go_ret
            exact ⟨by rw [hE3.out]; rfl, hal.out⟩
          all_goals
            have e0 : (dt != 0) = true := by simpa using h9
            have hal1 := trace_alone
            go_wp2_with fail
            refine (trace_alone _ _).mono ?_
            rintro e w1 ⟨rfl, rfl⟩
            go_wp2
            go_ret
            exact ⟨by rw [hE3.out]; rfl, hal.out⟩
        · have hE0 := Lib.hid (show firstDd (l.drop (i + 1)) = E by rw [← HD.out, if_pos h])
          obtain ⟨h1, h2, h3, h4, h5, h6, hx⟩ := hg h
          clear hr hs hg h HD
          rcases hx with ⟨rfl, h7, h8⟩ | ⟨rfl, rfl, rfl⟩ | ⟨rfl, rfl, rfl⟩ | ⟨e2, e5, e6, rfl⟩
          · go_wp2_with fail
            refine (trace_alone _ _).mono ?_
            rintro e w1 ⟨rfl, rfl⟩
            go_wp2
            go_roundw
            case rel => exact ⟨i + 1, by omega, by go_num, hE0.out, hal.out⟩
            case measure => (simp [intOf]; try omega)
          · go_wp2_with fail
            refine (trace_alone _ _).mono ?_
            rintro e w1 ⟨rfl, rfl⟩
            go_wp2
            go_roundw
            case rel => exact ⟨i + 1, by omega, by go_num, hE0.out, hal.out⟩
            case measure => (simp [intOf]; try omega)
          · go_wp2_with fail
            refine (trace_alone _ _).mono ?_
            rintro e w1 ⟨rfl, rfl⟩
            go_wp2
            go_roundw
            case rel => exact ⟨i + 1, by omega, by go_num, hE0.out, hal.out⟩
            case measure => (simp [intOf]; try omega)
          · have e2' : (dw == 2) = false := by simpa using e2
            have ha : aloneB dw = false := by simp [aloneB, e5, e6]
            have hcl := fun W => trace_alone dw W
            rw [ha] at hcl
            clear ha
            go_wp2_with fail
            refine (hcl _).mono ?_
            rintro e w1 ⟨rfl, rfl⟩
            go_wp2
            go_roundw
            case rel => exact ⟨i + 1, by omega, by go_num, hE0.out, hal.out⟩
            case measure => (simp [intOf]; try omega)
      · obtain rfl : i = n := by omega
        have e : E = 0 := by rw [← hd, List.drop_of_length_le (by rw [HN.out]; exact Nat.le_refl _)]; rfl
        go_wp2
        go_ret
        exact ⟨by rw [e]; rfl, ho⟩

end Go.Proofs.Ytocpmncedlenbaa

namespace Go.Proofs.Ytocpmncedlenbaa
open Go.RowKit

theorem hands_yes (n : Int) (w : World) (h1 : 1 ≤ n) (h2 : n ≤ 6) :
    Calls Try.prog 14 #[.int .i64 n] w fun e w' => e = .returned (.bool true) ∧ w = w' := by
  go_enter Try.func14, Try.ntmps14
  go_wp2
  go_ret
  exact ⟨by simp, rfl⟩

theorem hands_no (n : Int) (w : World) (h : n < 1 ∨ 6 < n) :
    Calls Try.prog 14 #[.int .i64 n] w fun e w' => e = .returned (.bool false) ∧ w = w' := by
  rcases h with h | h
  · go_enter Try.func14, Try.ntmps14
    go_wp2
    go_ret
    exact ⟨rfl, rfl⟩
  · have h1 : 1 ≤ n := by omega
    go_enter Try.func14, Try.ntmps14
    go_wp2
    go_ret
    exact ⟨by simp; omega, rfl⟩
end Go.Proofs.Ytocpmncedlenbaa

namespace Go.Proofs.Ytocpmncedlenbaa
open Go.RowKit Go.Deep

/-- What is wrong with a plan, and hands. -/
noncomputable def hErr (p : PlanL) (hands : Int) : Int := if planFault p = 0 then (if 1 ≤ hands ∧ hands ≤ 6 then 0 else 1) else planFault p

theorem hErr_ok {p : PlanL} {hands : Int} (h : PlanOk p) (h1 : 1 ≤ hands) (h6 : hands ≤ 6) : hErr p hands = 0 := by
  unfold hErr; rw [if_pos ((planOk_iff p).1 h), if_pos ⟨h1, h6⟩]
theorem hErr_zero {p : PlanL} {hands : Int} (h : hErr p hands = 0) : PlanOk p ∧ 1 ≤ hands ∧ hands ≤ 6 := by
  unfold hErr at h
  by_cases hp : planFault p = 0
  · rw [if_pos hp] at h
    by_cases hh : 1 ≤ hands ∧ hands ≤ 6
    · exact ⟨(planOk_iff p).2 hp, hh⟩
    · rw [if_neg hh] at h; cases h
  · rw [if_neg hp] at h; exact absurd h hp

end Go.Proofs.Ytocpmncedlenbaa
