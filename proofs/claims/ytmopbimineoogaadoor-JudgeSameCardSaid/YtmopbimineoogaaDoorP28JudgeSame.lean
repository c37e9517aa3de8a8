/-
  Contracts of judge.over and judge.stay.
-/
import Derived.Test.YtmopbimineoogaaDoorP19JudgeSame
import Derived.Test.YtmopbimineoogaaDoorP27JudgeSame
namespace Go.Proofs.YtmopbimineoogaaDoor
open Go.RowKit Go.Deep

set_option maxRecDepth 100000 in
theorem judge_over (a b c d a' b' c' d' : Int) (w : World) :
    Calls Tryd.prog 45 #[.agg #[.int .i64 a, .int .i64 b, .int .i64 c, .int .i64 d], .agg #[.int .i64 a', .int .i64 b', .int .i64 c', .int .i64 d']] w fun e w' => e = .returned (.bool (decide (c < d') && decide (c' < d))) ∧ Only [] w w' := by
  have ho := Lib.hid (((Only.refl [] w).alloc (.cells #[.int .i64 a, .int .i64 b, .int .i64 c, .int .i64 d] 45)).alloc (.cells #[.int .i64 a', .int .i64 b', .int .i64 c', .int .i64 d'] 45))
  by_cases h1 : c < d'
  · by_cases h2 : c' < d
    all_goals
      go_enter Tryd.func45, Tryd.ntmps45
      go_wp2
      go_ret
      exact ⟨by simp [h1, h2], ho.out⟩
  · have h3 : (decide (c < d') && decide (c' < d)) = false := by simp [h1]
    rw [h3]
    have h4 : d' ≤ c := by omega
    clear h3 h1
    go_enter Tryd.func45, Tryd.ntmps45
    go_wp2
    go_ret
    exact ⟨rfl, ho.out⟩

/-- Does one ahead stand in the way? -/
def clash1 (s x : St) : Bool := decide (x.task = s.task) || (decide (x.hand = s.hand) && overS x s)
theorem clashS_iff {ss : List St} {s : St} : clashS ss s = true ↔ ∃ k, k < ss.length ∧ clash1 s (stAt ss k) = true := by
  unfold clashS
  rw [List.any_eq_true]
  constructor
  · rintro ⟨x, hx, h⟩
    obtain ⟨k, hk, rfl⟩ := List.getElem_of_mem hx
    exact ⟨k, hk, by rw [show stAt ss k = ss[k] by simp [stAt, hk]]; exact h⟩
  · rintro ⟨k, hk, h⟩
    exact ⟨_, stAt_mem hk, h⟩

theorem sfault_1 {p : PlanL} {hands : Int} {ss : List St} {s : St} (h : s.hand < 0 ∨ hands ≤ s.hand ∨ s.task < 0 ∨ (p.length : Int) ≤ s.task ∨ s.frm < 0 ∨ s.til < s.frm ∨ 10000 < s.til) : stayFault p hands ss s = 1 := by
  unfold stayFault; rw [if_pos h]
theorem sfault_3 {p : PlanL} {hands : Int} {ss : List St} {s : St} (h : ¬ (s.hand < 0 ∨ hands ≤ s.hand ∨ s.task < 0 ∨ (p.length : Int) ≤ s.task ∨ s.frm < 0 ∨ s.til < s.frm ∨ 10000 < s.til)) (h3 : s.til - s.frm ≠ wkOf p s.task.toNat) : stayFault p hands ss s = 3 := by
  unfold stayFault; rw [if_neg h, if_pos h3]
theorem sfault_7 {p : PlanL} {hands : Int} {ss : List St} {s : St} (h : ¬ (s.hand < 0 ∨ hands ≤ s.hand ∨ s.task < 0 ∨ (p.length : Int) ≤ s.task ∨ s.frm < 0 ∨ s.til < s.frm ∨ 10000 < s.til)) (h3 : s.til - s.frm = wkOf p s.task.toNat) (h7 : clashS ss s = true) : stayFault p hands ss s = 7 := by
  unfold stayFault; rw [if_neg h, if_neg (by simp [h3]), if_pos h7]
theorem sfault_0 {p : PlanL} {hands : Int} {ss : List St} {s : St} (h : ¬ (s.hand < 0 ∨ hands ≤ s.hand ∨ s.task < 0 ∨ (p.length : Int) ≤ s.task ∨ s.frm < 0 ∨ s.til < s.frm ∨ 10000 < s.til)) (h3 : s.til - s.frm = wkOf p s.task.toNat) (h7 : clashS ss s = false) : stayFault p hands ss s = 0 := by
  unfold stayFault; rw [if_neg h, if_neg (by simp [h3]), if_neg (by simp [h7])]

set_option maxRecDepth 100000 in
set_option maxHeartbeats 4000000 in
theorem judge_stay (v u : Value) (p : PlanL) (hands : Int) (ss : List St) (s : St) (w : World) (h : InPlan w v p) (hs : StaysAt w u ss) (hl : ss.length ≤ 9223372036854775807) (hp : p.length ≤ 1000000) :
    Calls Tryd.prog 31 #[v, .int .i64 hands, u, .agg #[.int .i64 s.hand, .int .i64 s.task, .int .i64 s.frm, .int .i64 s.til]] w fun e w' => e = .returned (errV (stayFault p hands ss s)) ∧ Only [] w w' := by
  have HP := Lib.hid h
  obtain ⟨pa, cap, rfl, hc1, hc2, _⟩ := h.task
  obtain ⟨a, c, rfl, ha⟩ := hs.opt
  obtain ⟨n, hn⟩ : ∃ n, p.length = n := ⟨_, rfl⟩
  obtain ⟨m, hm⟩ : ∃ m, ss.length = m := ⟨_, rfl⟩
  have HL := Lib.hid hn
  have HM := Lib.hid hm
  have HA := Lib.hid ha
  have HCI := Lib.hid (clashS_iff (ss := ss) (s := s))
  rw [hn] at hc1 hp HP ⊢
  rw [hm] at HA hl HCI ⊢
  have hc1' : n ≤ 9223372036854775807 := by omega
  obtain ⟨E, hE⟩ : ∃ E, stayFault p hands ss s = E := ⟨_, rfl⟩
  have HE := Lib.hid hE
  rw [hE]
  obtain ⟨x, y, f, t⟩ := s
  clear h hs ha hn hm hE hc2
  have ho1 := (Only.refl [] w).alloc (.cells #[.int .i64 x, .int .i64 y, .int .i64 f, .int .i64 t] 45)
  by_cases hg : 0 ≤ x ∧ x < hands ∧ 0 ≤ y ∧ y < (n : Int) ∧ 0 ≤ f ∧ f ≤ t ∧ t ≤ 10000
  · have hgn : Hid (¬ ((St.mk x y f t).hand < 0 ∨ hands ≤ (St.mk x y f t).hand ∨ (St.mk x y f t).task < 0 ∨ (p.length : Int) ≤ (St.mk x y f t).task ∨ (St.mk x y f t).frm < 0 ∨ (St.mk x y f t).til < (St.mk x y f t).frm ∨ 10000 < (St.mk x y f t).til)) := by
      show ¬ (x < 0 ∨ hands ≤ x ∨ y < 0 ∨ (p.length : Int) ≤ y ∨ f < 0 ∨ t < f ∨ 10000 < t)
      rw [HL.out]; omega
    obtain ⟨g1, g2, g3, g4, g5, g6, g7⟩ := hg
    obtain ⟨y, rfl⟩ := Int.eq_ofNat_of_zero_le g3
    have hyn : y < n := by omega
    obtain ⟨pb, po, rfl⟩ := HP.out.any y (by rw [HL.out]; exact hyn)
    obtain ⟨_, _, cW, _, _⟩ := (HP.out.same ho1).at y (by rw [HL.out]; exact hyn)
    by_cases h3 : t - f = wkOf p y
    · have H3 : Hid ((St.mk x y f t).til - (St.mk x y f t).frm = wkOf p (St.mk x y f t).task.toNat) := by show t - f = wkOf p (y : Int).toNat; rw [Int.toNat_natCast]; exact h3
      rw [← h3] at cW
      have HO1 := Lib.hid ho1
      have hc0 := Lib.hid (Cells.new w #[.int .i64 x, .int .i64 y, .int .i64 f, .int .i64 t] 45)
      have hc71 : Hid (clashS ss ⟨x, y, f, t⟩ = true → E = 7) := fun h => by rw [← HE.out]; exact sfault_7 hgn.out H3.out h
      have hc70 : Hid (clashS ss ⟨x, y, f, t⟩ = false → E = 0) := fun h => by rw [← HE.out]; exact sfault_0 hgn.out H3.out h
      clear h3 ho1
      go_enter Tryd.func31, Tryd.ntmps31
      go_wp2_with fail
      go_quiet (fail)
      go_wp2_with fail
      go_loopw [67] (fun vi wr => ∃ i : Nat, i ≤ m ∧ vi = .int .i64 i ∧ (∀ k, k < i → clash1 ⟨x, y, f, t⟩ (stAt ss k) = false) ∧ Cells wr w.heap.size [.int .i64 x, .int .i64 y, .int .i64 f, .int .i64 t] ∧ Only [] w wr) (fun vi _ => m - (intOf vi).toNat)
      case atStart => exact ⟨0, Nat.zero_le _, rfl, fun k hk => by omega, hc0.out.drewN _, HO1.out.drewN _⟩
      case round =>
        obtain ⟨i, hi, rfl, hno, hC, ho⟩ := hrel
        have HNO := Lib.hid hno
        clear hno
        by_cases him : i < m
        · obtain ⟨b, off, rfl, k0, k1, k2, k3⟩ := HA.out i him
          have c0 := (ho.cell (p := ⟨b, _, none⟩) (cell_lt k0) (by simp)).trans k0
          have c1 := (ho.cell (p := ⟨b, _, none⟩) (cell_lt k1) (by simp)).trans k1
          have c2 := (ho.cell (p := ⟨b, _, none⟩) (cell_lt k2) (by simp)).trans k2
          have c3 := (ho.cell (p := ⟨b, _, none⟩) (cell_lt k3) (by simp)).trans k3
          have hyes := Lib.hid (fun (h : clash1 ⟨x, y, f, t⟩ (stAt ss i) = true) => hc71.out (HCI.out.2 ⟨i, him, h⟩))
          obtain ⟨s9, hs9⟩ : ∃ s9, stAt ss i = s9 := ⟨_, rfl⟩
          have HS9 := Lib.hid hs9
          rw [hs9] at c0 c1 c2 c3 hyes
          clear hs9
          obtain ⟨a1, b1, d1, e1⟩ := s9
          simp only at c0 c1 c2 c3
          have hcd : Hid (clash1 ⟨x, y, f, t⟩ ⟨a1, b1, d1, e1⟩ = (decide (b1 = y) || (decide (a1 = x) && (decide (d1 < t) && decide (f < e1))))) := rfl
          have hal := (Only.refl [] wr).alloc (.cells #[.int .i64 a1, .int .i64 b1, .int .i64 d1, .int .i64 e1] 45)
          have hC2 := hC.only hal (by simp)
          have q0 := hC2.cell 0 _ rfl
          have q1 := hC2.cell 1 _ rfl
          have q2 := hC2.cell 2 _ rfl
          have q3 := hC2.cell 3 _ rfl
          have HC2 := Lib.hid hC2
          have HO2 := Lib.hid (ho.trans hal (by simp))
          have hov := Lib.hid (judge_over a1 b1 d1 e1 x (y : Int) f t (wr.alloc (.cells #[.int .i64 a1, .int .i64 b1, .int .i64 d1, .int .i64 e1] 45)))
          have hnext : Hid (clash1 ⟨x, y, f, t⟩ ⟨a1, b1, d1, e1⟩ = false → ∀ k, k < i + 1 → clash1 ⟨x, y, f, t⟩ (stAt ss k) = false) := fun h k hk => by
            by_cases e : k = i
            · subst e; rw [HS9.out]; exact h
            · exact HNO.out k (by omega)
          clear k0 k1 k2 k3 hC hC2 hal ho
          by_cases hb1 : b1 = (y : Int)
          · have hf7 := Lib.hid (hyes.out (by rw [hcd.out, decide_eq_true hb1]; rfl))
            subst hb1
            go_wp2
            go_ret
            exact ⟨by rw [hf7.out]; rfl, HO2.out⟩
          · have hb1' : (b1 == (y : Int)) = false := by simpa using hb1
            by_cases ha1 : a1 = x
            · subst ha1
              obtain ⟨r, hr⟩ : ∃ r, (decide (d1 < t) && decide (f < e1)) = r := ⟨_, rfl⟩
              have hov := hov.out
              rw [hr] at hov
              have hcr : Hid (clash1 ⟨a1, y, f, t⟩ ⟨a1, b1, d1, e1⟩ = r) := by show _ = _; rw [hcd.out, hr, decide_eq_false hb1, decide_eq_true rfl]; rfl
              clear hr
              cases r with
              | true =>
                have hf7 := Lib.hid (hyes.out hcr.out)
                go_wp2_with fail
                refine hov.mono ?_
                rintro e w5 ⟨rfl, ho5⟩
                have ho5 := Lib.hid (HO2.out.trans ho5 (by simp))
                clear hov
                go_wp2
                go_ret
                exact ⟨by rw [hf7.out]; rfl, ho5.out⟩
              | false =>
                have hn2 := Lib.hid (hnext.out hcr.out)
                go_wp2_with fail
                refine hov.mono ?_
                rintro e w5 ⟨rfl, ho5⟩
                have hC5 := Lib.hid (HC2.out.only ho5 (by simp))
                have ho5 := Lib.hid (HO2.out.trans ho5 (by simp))
                clear hov
                go_wp2
                go_roundw
                case rel => exact ⟨i + 1, by omega, by go_num, hn2.out, hC5.out, ho5.out⟩
                case measure => (simp [intOf]; try omega)
            · have ha1' : (a1 == x) = false := by simpa using ha1
              have hn2 := Lib.hid (hnext.out (by rw [hcd.out, decide_eq_false hb1, decide_eq_false ha1]; rfl))
              go_wp2
              go_roundw
              case rel => exact ⟨i + 1, by omega, by go_num, hn2.out, HC2.out, HO2.out⟩
              case measure => (simp [intOf]; try omega)
        · obtain rfl : i = m := by omega
          have hf0 := Lib.hid (hc70.out (by
            cases e : clashS ss ⟨x, y, f, t⟩ with
            | false => rfl
            | true =>
              obtain ⟨k, hk, h⟩ := HCI.out.1 e
              rw [HNO.out k hk] at h; cases h))
          go_wp2
          go_ret
          exact ⟨by rw [hf0.out]; rfl, ho⟩
    · have hfa : Hid (E = 3) := by
        show _ = _
        rw [← HE.out]
        exact sfault_3 hgn.out (by show t - f ≠ wkOf p (y : Int).toNat; rw [Int.toNat_natCast]; exact h3)
      obtain ⟨k, hk⟩ : ∃ k, wkOf p y = k := ⟨_, rfl⟩
      rw [hk] at cW h3
      have HO1 := Lib.hid ho1
      clear hk ho1
      go_enter Tryd.func31, Tryd.ntmps31
      go_wp2_with fail
      go_quiet (fail)
      go_wp2
      go_ret
      exact ⟨by rw [hfa.out]; rfl, HO1.out.drewN _⟩
  · have hfa : Hid (E = 1) := by
      show _ = _
      rw [← HE.out]
      refine sfault_1 ?_
      rw [HL.out]
      show x < 0 ∨ hands ≤ x ∨ y < 0 ∨ (n : Int) ≤ y ∨ f < 0 ∨ t < f ∨ 10000 < t
      omega
    have hg2 : x < 0 ∨ (0 ≤ x ∧ hands ≤ x) ∨ (0 ≤ x ∧ x < hands ∧ y < 0) ∨ (0 ≤ x ∧ x < hands ∧ 0 ≤ y ∧ (n : Int) ≤ y) ∨ (0 ≤ x ∧ x < hands ∧ 0 ≤ y ∧ y < (n : Int) ∧ f < 0) ∨ (0 ≤ x ∧ x < hands ∧ 0 ≤ y ∧ y < (n : Int) ∧ 0 ≤ f ∧ t < f) ∨ (0 ≤ x ∧ x < hands ∧ 0 ≤ y ∧ y < (n : Int) ∧ 0 ≤ f ∧ f ≤ t ∧ 10000 < t) := by omega
    have HO1 := Lib.hid ho1
    clear hg ho1
    rcases hg2 with g1 | ⟨g1, g2⟩ | ⟨g1, g2, g3⟩ | ⟨g1, g2, g3, g4⟩ | ⟨g1, g2, g3, g4, g5⟩ | ⟨g1, g2, g3, g4, g5, g6⟩ | ⟨g1, g2, g3, g4, g5, g6, g7⟩
    all_goals
      go_enter Tryd.func31, Tryd.ntmps31
      go_wp2
      go_ret
      exact ⟨by rw [hfa.out]; rfl, HO1.out⟩

end Go.Proofs.YtmopbimineoogaaDoor
