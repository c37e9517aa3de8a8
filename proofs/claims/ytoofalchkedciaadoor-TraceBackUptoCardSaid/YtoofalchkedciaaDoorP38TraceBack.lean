/-
  Contract of greedy.Hands.
  What is wrong with a plan, and hands.
  Contract of trace.Check.
-/
import Derived.Test.YtoofalchkedciaaDoorP1TraceBack
import Derived.Test.YtoofalchkedciaaDoorRows
import Derived.Test.YtoofalchkedciaaDoorP23TraceBack
import Derived.Test.YtoofalchkedciaaDoorP37TraceBack
namespace Go.Proofs.YtoofalchkedciaaDoor
open Go.RowKit

theorem hands_yes (n : Int) (w : World) (h1 : 1 ≤ n) (h2 : n ≤ 6) :
    Calls Tryd.prog 34 #[.int .i64 n] w fun e w' => e = .returned (.bool true) ∧ w = w' := by
  go_enter Tryd.func34, Tryd.ntmps34
  go_wp2
  go_ret
  exact ⟨by simp, rfl⟩

theorem hands_no (n : Int) (w : World) (h : n < 1 ∨ 6 < n) :
    Calls Tryd.prog 34 #[.int .i64 n] w fun e w' => e = .returned (.bool false) ∧ w = w' := by
  rcases h with h | h
  · go_enter Tryd.func34, Tryd.ntmps34
    go_wp2
    go_ret
    exact ⟨rfl, rfl⟩
  · have h1 : 1 ≤ n := by omega
    go_enter Tryd.func34, Tryd.ntmps34
    go_wp2
    go_ret
    exact ⟨by simp; omega, rfl⟩
end Go.Proofs.YtoofalchkedciaaDoor

namespace Go.Proofs.YtoofalchkedciaaDoor
open Go.RowKit Go.Deep

/-- What is wrong with a plan, and hands. -/
noncomputable def hErr (p : PlanL) (hands : Int) : Int := if planFault p = 0 then (if 1 ≤ hands ∧ hands ≤ 6 then 0 else 1) else planFault p

theorem hErr_ok {p : PlanL} {hands : Int} (h : PlanOk p) (h1 : 1 ≤ hands) (h6 : hands ≤ 6) : hErr p hands = 0 := by
  unfold hErr; rw [if_pos ((planOk_iff p).1 h), if_pos ⟨h1, h6⟩]
theorem hErr_zero {p : PlanL} {hands : Int} (h : hErr p hands = 0) : PlanOk p ∧ 1 ≤ hands ∧ hands ≤ 6 := by
  unfold hErr at h
  by_cases hp : planFault p = 0
  · rw [if_pos hp] at h
    by_cases hh : 1 ≤ hands ∧ hands ≤ 6
    · exact ⟨(planOk_iff p).2 hp, hh⟩
    · rw [if_neg hh] at h; cases h
  · rw [if_neg hp] at h; exact absurd h hp

end Go.Proofs.YtoofalchkedciaaDoor

namespace Go.Proofs.YtoofalchkedciaaDoor
open Go.RowKit Go.Deep Go.Maps

/-- A deed of a hand, of a task that are not there. -/
def ddOut (n : Nat) (hands : Int) (d : Dd) : Bool := decide (hands ≤ d.hand) || (decide (hands ≤ d.other) || (!aloneB d.what && decide ((n : Int) ≤ d.task)))
def dF (p : PlanL) (s : TSt) (d : Dd) : Int := doF p s d.what.toNat d.hand.toNat d.task.toNat d.other.toNat
def dT (s : TSt) (d : Dd) : TSt := doT s d.what.toNat d.hand.toNat d.task.toNat
/-- What is wrong with deeds that are done from s on. -/
def runF (p : PlanL) (hands : Int) : TSt → List Dd → Int
  | _, [] => 0
  | s, d :: l => if ddOut p.length hands d = true then 1 else if dF p s d = 0 then runF p hands (dT s d) l else dF p s d
def tZero : TSt := ⟨fun _ => none, fun _ => false, fun _ => false, fun _ => false⟩
/-- What is wrong with a plan, hands and deeds. -/
noncomputable def checkF (p : PlanL) (hands : Int) (l : List Dd) : Int := if hErr p hands ≠ 0 then hErr p hands else if ddsFault l ≠ 0 then ddsFault l else runF p hands tZero l

theorem runF_drop (p : PlanL) (hands : Int) (s : TSt) (l : List Dd) (i : Nat) (h : i < l.length) : runF p hands s (l.drop i) = if ddOut p.length hands (ddAt l i) = true then 1 else if dF p s (ddAt l i) = 0 then runF p hands (dT s (ddAt l i)) (l.drop (i + 1)) else dF p s (ddAt l i) := by
  rw [List.drop_eq_getElem_cons h]
  simp [runF, ddAt, h]

/-- A right deed in small numbers. -/
theorem dd_nat {d : Dd} (h : ddFault d = 0) : ∃ wh hd t o : Nat, d = ⟨(wh : Int), (hd : Int), (t : Int), (o : Int)⟩ ∧ hd < 6 ∧ o < 6 ∧ t < 30 ∧ (aloneB (wh : Int) = true → (wh = 5 ∨ wh = 6) ∧ t = 0) := by
  obtain ⟨h1, h2, h3, h4, h5, h6, h7⟩ := dd_right h
  obtain ⟨a, b, c, e⟩ := d
  simp only at h1 h2 h3 h4 h5 h6 h7
  refine ⟨a.toNat, b.toNat, c.toNat, e.toNat, ?_, by omega, by omega, by omega, ?_⟩
  · rw [Int.toNat_of_nonneg (by omega), Int.toNat_of_nonneg (by omega), Int.toNat_of_nonneg (by omega), Int.toNat_of_nonneg (by omega)]
  · intro ha
    have : a = 5 ∨ a = 6 := by
      rw [Int.toNat_of_nonneg (by omega)] at ha
      simpa [aloneB] using ha
    omega

/-- The state that Check lays. -/
theorem check_world (w : World) (pv : Value) :
    TrAt (((((w.alloc (.map #[] 0)).alloc (.map #[] 0)).alloc (.map #[] 0)).alloc (.map #[] 0)).alloc (.cells #[pv, .map (some w.heap.size), .map (some (w.heap.size + 1)), .map (some (w.heap.size + 1 + 1)), .map (some (w.heap.size + 1 + 1 + 1))] 89))
      (w.heap.size + 1 + 1 + 1 + 1) w.heap.size (w.heap.size + 1) (w.heap.size + 1 + 1) (w.heap.size + 1 + 1 + 1) pv tZero ∧
    Only [] w (((((w.alloc (.map #[] 0)).alloc (.map #[] 0)).alloc (.map #[] 0)).alloc (.map #[] 0)).alloc (.cells #[pv, .map (some w.heap.size), .map (some (w.heap.size + 1)), .map (some (w.heap.size + 1 + 1)), .map (some (w.heap.size + 1 + 1 + 1))] 89)) := by
  have o : ∀ (u : World) (x : Obj), Only [] u (u.alloc x) := fun u x => (Only.refl [] u).alloc x
  have s1 : (w.alloc (.map #[] 0)).heap.size = w.heap.size + 1 := by simp
  have s2 : ((w.alloc (.map #[] 0)).alloc (.map #[] 0)).heap.size = w.heap.size + 1 + 1 := by simp
  have s3 : (((w.alloc (.map #[] 0)).alloc (.map #[] 0)).alloc (.map #[] 0)).heap.size = w.heap.size + 1 + 1 + 1 := by simp
  have s4 : ((((w.alloc (.map #[] 0)).alloc (.map #[] 0)).alloc (.map #[] 0)).alloc (.map #[] 0)).heap.size = w.heap.size + 1 + 1 + 1 + 1 := by simp
  have m1 := IntMap.made w
  have m2 := BoolMap.made (w.alloc (.map #[] 0))
  have m3 := BoolMap.made ((w.alloc (.map #[] 0)).alloc (.map #[] 0))
  have m4 := BoolMap.made (((w.alloc (.map #[] 0)).alloc (.map #[] 0)).alloc (.map #[] 0))
  rw [s1] at m2
  rw [s2] at m3
  rw [s3] at m4
  have cc := Cells.new ((((w.alloc (.map #[] 0)).alloc (.map #[] 0)).alloc (.map #[] 0)).alloc (.map #[] 0)) #[pv, .map (some w.heap.size), .map (some (w.heap.size + 1)), .map (some (w.heap.size + 1 + 1)), .map (some (w.heap.size + 1 + 1 + 1))] 89
  rw [s4] at cc
  refine ⟨⟨cc, ?_, ?_, ?_, ?_, ?_⟩, ((((o _ _).trans (o _ _) (by simp)).trans (o _ _) (by simp)).trans (o _ _) (by simp)).trans (o _ _) (by simp)⟩
  · exact (((m1.only (o _ _) (by simp)).only (o _ _) (by simp)).only (o _ _) (by simp)).only (o _ _) (by simp)
  · exact ((m2.only (o _ _) (by simp)).only (o _ _) (by simp)).only (o _ _) (by simp)
  · exact (m3.only (o _ _) (by simp)).only (o _ _) (by simp)
  · exact m4.only (o _ _) (by simp)
  · simp; omega

set_option maxRecDepth 100000 in
set_option maxHeartbeats 4000000 in
theorem trace_Check_run (v u : Value) (p : PlanL) (hands : Int) (l : List Dd) (w : World) (hP : InPlan w v p) (hv : DeedsAt w u l) (he : hErr p hands = 0) (hf : ddsFault l = 0) :
    Calls Tryd.prog 15 #[v, .int .i64 hands, u] w fun e w' => e = .returned (errV (runF p hands tZero l)) ∧ Only [] w w' := by
  have hl : l.length ≤ 1000 := by
    unfold ddsFault at hf
    split at hf
    · simp at hf
    · omega
  have hall : ∀ d ∈ l, ddFault d = 0 := by
    unfold ddsFault at hf
    rw [if_neg (by omega)] at hf
    exact (firstDd_zero l).1 hf
  have hwh := fun W (ho : Only [] w W) => trace_whole u l W (hv.same ho) (by omega)
  rw [hf, errV_zero] at hwh
  have HWH := Lib.hid hwh
  have hr := plan_Right v p w hP
  obtain ⟨hok, h1, h6⟩ := hErr_zero he
  rw [(planOk_iff p).1 hok, errV_zero] at hr
  have HY := Lib.hid (fun W => hands_yes hands W h1 h6)
  have HP := Lib.hid hP
  have HALL := Lib.hid hall
  have HND := Lib.hid (show ∀ t, ∀ k ∈ ndOf p t, 0 ≤ k ∧ k < p.length from fun t k hk => by
    by_cases ht : t < p.length
    · exact (taskFault_zero (hok.fault t ht)).2.2.1 k hk
    · rw [ndOf_none p t (by omega)] at hk; cases hk)
  have h30 := hok.len
  obtain ⟨pa, pc, rfl, hpc, hpm, _⟩ := hP.task
  obtain ⟨a, cap, rfl, hc⟩ := hv.opt
  obtain ⟨n, hn⟩ : ∃ n, l.length = n := ⟨_, rfl⟩
  obtain ⟨m, hm⟩ : ∃ m, p.length = m := ⟨_, rfl⟩
  have HN := Lib.hid hn
  have HM := Lib.hid hm
  have HC := Lib.hid hc
  rw [hn] at HC hl HWH ⊢
  rw [hm] at HP hr h30 hpc ⊢
  obtain ⟨E, hE⟩ : ∃ E, runF p hands tZero l = E := ⟨_, rfl⟩
  have HE := Lib.hid hE
  rw [hE]
  have hmm := @run_makeMap Tryd.prog
  clear hc hv hP hf hok hall hwh hn hm hE he
  go_enter Tryd.func15, Tryd.ntmps15
  go_wp2_with fail
  refine hr.mono ?_
  rintro e w1 ⟨rfl, ho1⟩
  clear hr
  go_wp2_with fail
  refine (HY.out w1).mono ?_
  rintro e w2 ⟨rfl, rfl⟩
  go_wp2_with fail
  refine (HWH.out w1 ho1).mono ?_
  rintro e w3 ⟨rfl, ho3⟩
  have HO3 := Lib.hid (ho1.trans ho3 (by simp))
  clear ho1 ho3 w1
  have hcw := check_world w3 (.slice pa m pc)
  go_wp2_with fail
  obtain ⟨hT0, hoz⟩ := hcw
  have HT0 := Lib.hid hT0
  have HOZ := Lib.hid hoz
  have HLW := Lib.hid HO3.out.size
  have HFR := Lib.hid (fun (W W' : World) (ho : Only [] w W) (ho' : Only [w3.heap.size + 1 + 1 + 1 + 1, w3.heap.size, w3.heap.size + 1, w3.heap.size + 1 + 1, w3.heap.size + 1 + 1 + 1] W W') => ho.trans ho' (fun x hx _ => by have := HLW.out; simp at hx; omega))
  clear hT0 hoz hmm
  go_loopw [36] (fun vi wr => ∃ (i : Nat) (s : TSt), i ≤ n ∧ vi = .int .i64 i ∧ runF p hands s (l.drop i) = E ∧ TrAt wr (w3.heap.size + 1 + 1 + 1 + 1) w3.heap.size (w3.heap.size + 1) (w3.heap.size + 1 + 1) (w3.heap.size + 1 + 1 + 1) (.slice pa m pc) s ∧ Only [] w wr) (fun vi _ => n - (intOf vi).toNat)
  case atStart => exact ⟨0, tZero, Nat.zero_le _, rfl, HE.out, HT0.out, HO3.out.trans HOZ.out (by simp)⟩
  case round =>
    obtain ⟨wo, rfl⟩ : ∃ wo : World, wo = wr := ⟨_, rfl⟩
    obtain ⟨i, s, hi, rfl, hd, hT, ho⟩ := hrel
    have HT := Lib.hid hT
    by_cases him : i < n
    · obtain ⟨b, off, rfl, k0, k1, k2, k3⟩ := HC.out i him
      have c0 := (ho.cell (p := ⟨b, _, none⟩) (cell_lt k0) (by simp)).trans k0
      have c1 := (ho.cell (p := ⟨b, _, none⟩) (cell_lt k1) (by simp)).trans k1
      have c2 := (ho.cell (p := ⟨b, _, none⟩) (cell_lt k2) (by simp)).trans k2
      have c3 := (ho.cell (p := ⟨b, _, none⟩) (cell_lt k3) (by simp)).trans k3
      rw [runF_drop p hands s l i (by rw [HN.out]; exact him), HM.out] at hd
      have hz := HALL.out _ (ddAt_mem (by rw [HN.out]; exact him : i < l.length))
      obtain ⟨wh, h, t, o, hdd, q1, q2, q3, q4⟩ := dd_nat hz
      rw [hdd] at c0 c1 c2 c3 hd
      simp only at c0 c1 c2 c3
      have hd' : (if ddOut m hands ⟨(wh : Int), (h : Int), (t : Int), (o : Int)⟩ = true then (1 : Int) else if doF p s wh h t o = 0 then runF p hands (doT s wh h t) (l.drop (i + 1)) else doF p s wh h t o) = E := hd
      have HD := Lib.hid hd'
      have HO := Lib.hid ho
      have Hal := Lib.hid (ho.alloc (.cells #[.int .i64 (wh : Int), .int .i64 (h : Int), .int .i64 (t : Int), .int .i64 (o : Int)] 46))
      have HTW := Lib.hid (HT.out.same ((Only.refl [] wo).alloc (.cells #[.int .i64 (wh : Int), .int .i64 (h : Int), .int .i64 (t : Int), .int .i64 (o : Int)] 46)))
      have HAL := Lib.hid (fun W => trace_alone (wh : Int) W)
      clear k0 k1 k2 k3 hd hd' ho hT hz hdd
      by_cases b1 : hands ≤ (h : Int)
      · have hE1 := Lib.hid (show E = 1 by rw [← HD.out, if_pos (by simp [ddOut, b1])])
        have b1' : decide (hands ≤ (h : Int)) = true := decide_eq_true b1
        clear b1
        go_wp2
        go_ret
        exact ⟨by rw [hE1.out]; rfl, Hal.out⟩
      · by_cases b2 : hands ≤ (o : Int)
        · have hE1 := Lib.hid (show E = 1 by rw [← HD.out, if_pos (by simp [ddOut, b2])])
          have b1' : decide (hands ≤ (h : Int)) = false := decide_eq_false b1
          have b2' : decide (hands ≤ (o : Int)) = true := decide_eq_true b2
          clear b1 b2
          go_wp2
          go_ret
          exact ⟨by rw [hE1.out]; rfl, Hal.out⟩
        · have b1' : decide (hands ≤ (h : Int)) = false := decide_eq_false b1
          have b2' : decide (hands ≤ (o : Int)) = false := decide_eq_false b2
          obtain ⟨A, hA⟩ : ∃ A, aloneB (wh : Int) = A := ⟨_, rfl⟩
          rw [hA] at HAL q4
          by_cases b3 : A = false ∧ m ≤ t
          · obtain ⟨rfl, b3⟩ := b3
            have hE1 := Lib.hid (show E = 1 by rw [← HD.out, if_pos (by simp [ddOut, hA]; right; right; exact b3)])
            have b3' : decide ((m : Int) ≤ (t : Int)) = true := decide_eq_true (by omega)
            have b3'' : decide (m ≤ t) = true := decide_eq_true b3
            clear b1 b2 hA b3 q4
            go_wp2_with fail
            refine (HAL.out _).mono ?_
            rintro e w5 ⟨rfl, rfl⟩
            go_wp2
            go_ret
            exact ⟨by rw [hE1.out]; rfl, Hal.out⟩
          · have hno : ddOut m hands ⟨(wh : Int), (h : Int), (t : Int), (o : Int)⟩ = false := by
              cases A with
              | true => simp [ddOut, b1, b2, hA]; try omega
              | false => simp at b3; simp [ddOut, b1, b2, hA]; try omega
            have HD2 := Lib.hid (show (if doF p s wh h t o = 0 then runF p hands (doT s wh h t) (l.drop (i + 1)) else doF p s wh h t o) = E by have hh := HD.out; rw [if_neg (by rw [hno]; simp)] at hh; exact hh)
            have htt : (wh = 5 ∨ wh = 6) ∧ t = 0 ∨ t < p.length := by
              rw [HM.out]
              cases A with
              | true => exact .inl (q4 rfl)
              | false => right; simp at b3; omega
            have hguard : A = true ∨ (A = false ∧ decide ((m : Int) ≤ (t : Int)) = false ∧ decide (m ≤ t) = false) := by
              cases A with
              | true => exact .inl rfl
              | false => right; simp at b3 ⊢; omega
            obtain ⟨W, hW⟩ : ∃ W, wo.alloc (.cells #[.int .i64 (wh : Int), .int .i64 (h : Int), .int .i64 (t : Int), .int .i64 (o : Int)] 46) = W := ⟨_, rfl⟩
            have HDO := Lib.hid (trace_do wh h t o _ _ _ _ _ _ s p W (by rw [← hW]; exact HTW.out) (HP.out.same (by rw [← hW]; exact Hal.out)) (by omega) htt (by rw [HM.out]; exact h30) HND.out)
            have HW := Lib.hid hW
            rw [hW] at Hal
            obtain ⟨F, hF⟩ : ∃ F, doF p s wh h t o = F := ⟨_, rfl⟩
            rw [hF] at HDO HD2
            clear b1 b2 hA b3 q4 hno HD htt hW hF HTW HT
            by_cases hF0 : F = 0
            · subst hF0
              have hE2 := Lib.hid (show runF p hands (doT s wh h t) (l.drop (i + 1)) = E by rw [← HD2.out, if_pos rfl])
              have hDO := HDO.out
              rw [errV_zero] at hDO
              have HDO2 := Lib.hid hDO
              clear HD2 HDO hDO
              rcases hguard with rfl | ⟨rfl, b3', b3''⟩
              all_goals
                go_wp2_with fail
                refine (HAL.out _).mono ?_
                rintro e w5 ⟨rfl, rfl⟩
                go_wp2_with fail
                rw [HW.out]
                refine HDO2.out.mono ?_
                rintro e w6 ⟨rfl, ho6, hT6⟩
                have HT6 := Lib.hid (hT6 (by trivial))
                have HO6 := Lib.hid (HFR.out _ _ Hal.out ho6)
                clear ho6 hT6
                go_wp2
                go_roundw
                case rel => exact ⟨i + 1, _, by omega, by go_num, hE2.out, HT6.out, HO6.out⟩
                case measure => (simp [intOf]; try omega)
            · have hE2 := Lib.hid (show E = F by rw [← HD2.out, if_neg hF0])
              have hDO := HDO.out
              rw [errV_ne hF0] at hDO
              have HDO2 := Lib.hid hDO
              have HF0 := Lib.hid hF0
              clear HD2 HDO hDO hF0
              rcases hguard with rfl | ⟨rfl, b3', b3''⟩
              all_goals
                go_wp2_with fail
                refine (HAL.out _).mono ?_
                rintro e w5 ⟨rfl, rfl⟩
                go_wp2_with fail
                rw [HW.out]
                refine HDO2.out.mono ?_
                rintro e w6 ⟨rfl, ho6, hT6⟩
                have HO6 := Lib.hid (HFR.out _ _ Hal.out ho6)
                clear ho6 hT6
                go_wp2
                go_ret
                exact ⟨by rw [hE2.out, errV_ne HF0.out]; rfl, HO6.out⟩
    · obtain rfl : i = n := by omega
      have e : E = 0 := by rw [← hd, List.drop_of_length_le (by rw [HN.out]; exact Nat.le_refl _)]; rfl
      go_wp2
      go_ret
      exact ⟨by rw [e]; rfl, ho⟩

end Go.Proofs.YtoofalchkedciaaDoor
