/-
  Contract of yardref2.Stays.
-/
import Derived.Test.YtmopbimineoogaaDoorP28JudgeTells
import Derived.Test.YtmopbimineoogaaDoorP29JudgeTells
namespace Go.Proofs.YtmopbimineoogaaDoor
open Go.RowKit Go.Deep

theorem staysErr_scan {p : PlanL} {hands : Int} {ss : List St} {i : Nat} {e : Int} (hi : i < ss.length) (h1 : scanS p hands ss i = 0) (h2 : stayFault p hands (ss.take i) (stAt ss i) = e) (he : e ≠ 0) : staysErr p hands ss = e := by
  have := firstE_hit (F := fun i => stayFault p hands (ss.take i) (stAt ss i)) (k := i) (m := ss.length) h1 (by rw [h2]; exact he) hi
  unfold staysErr scanS
  rw [this, h2, if_pos he]
theorem staysErr_few {p : PlanL} {hands : Int} {ss : List St} (h1 : scanS p hands ss ss.length = 0) (h2 : ss.length < p.length) : staysErr p hands ss = 5 := by
  unfold staysErr
  rw [if_neg (by simp [h1]), if_pos h2]
theorem staysErr_early {p : PlanL} {hands : Int} {ss : List St} (h1 : scanS p hands ss ss.length = 0) (h2 : ¬ ss.length < p.length) {i k : Nat} (hi : i < ss.length) (hk : k < ss.length) (h3 : (stAt ss k).task ∈ ndOf p (stAt ss i).task.toNat) (h4 : (stAt ss i).frm < (stAt ss k).til) : staysErr p hands ss = 6 := by
  unfold staysErr
  rw [if_neg (by simp [h1]), if_neg h2, if_pos]
  exact List.any_eq_true.2 ⟨_, stAt_mem hi, List.any_eq_true.2 ⟨_, stAt_mem hk, by simp [h3, h4]⟩⟩
theorem staysErr_fine {p : PlanL} {hands : Int} {ss : List St} (h1 : scanS p hands ss ss.length = 0) (h2 : ¬ ss.length < p.length) (h3 : ∀ i, i < ss.length → ∀ k, k < ss.length → (stAt ss k).task ∈ ndOf p (stAt ss i).task.toNat → ¬ (stAt ss i).frm < (stAt ss k).til) : staysErr p hands ss = 0 := by
  unfold staysErr
  rw [if_neg (by simp [h1]), if_neg h2, if_neg]
  unfold earlyS
  rw [Bool.not_eq_true, List.any_eq_false]
  intro a ha
  rw [Bool.not_eq_true, List.any_eq_false]
  intro b hb
  obtain ⟨i, hi, rfl⟩ := List.getElem_of_mem ha
  obtain ⟨k, hk, rfl⟩ := List.getElem_of_mem hb
  have := h3 i hi k hk
  rw [show stAt ss i = ss[i] by simp [stAt, hi], show stAt ss k = ss[k] by simp [stAt, hk]] at this
  simp only [Bool.and_eq_true, decide_eq_true_eq, not_and]
  exact this
theorem stAt_take {ss : List St} {i k : Nat} (h : k < i) : stAt (ss.take i) k = stAt ss k := by unfold stAt; rw [List.getElem?_take_of_lt h]

set_option maxRecDepth 100000 in
set_option maxHeartbeats 16000000 in
theorem ref_Stays (v u : Value) (p : PlanL) (hands : Int) (ss : List St) (w : World) (h : InPlan w v p) (hok : PlanOk p) (hb : StaysAt w u ss) (hm9 : ss.length ≤ 9223372036854775807) :
    Calls Tryd.prog 12 #[v, .int .i64 hands, u] w fun e w' => e = .returned (.int .i64 (staysErr p hands ss)) ∧ Only [] w w' := by
  have HP := Lib.hid h
  obtain ⟨a, c, rfl, ha⟩ := hb.opt
  obtain ⟨pa, cap, rfl, hc1, hc2, _⟩ := h.task
  obtain ⟨n, hn⟩ : ∃ n, p.length = n := ⟨_, rfl⟩
  obtain ⟨m, hm⟩ : ∃ m, ss.length = m := ⟨_, rfl⟩
  have HL := Lib.hid hn
  have HM := Lib.hid hm
  have HA := Lib.hid ha
  have HO := Lib.hid hok
  have h30 : n ≤ 30 := by have := hok.len; rw [hn] at this; exact this
  rw [hn] at hc1 HP ⊢
  rw [hm] at HA hm9 ⊢
  obtain ⟨E, hE⟩ : ∃ E, staysErr p hands ss = E := ⟨_, rfl⟩
  have HE := Lib.hid hE
  rw [hE]
  clear h hb ha hn hm hE hc2 hok
  go_enter Tryd.func12, Tryd.ntmps12
  go_wp2_with fail
  go_loopw [7, 8, 9] (fun vi _ _ wr => ∃ i : Nat, i ≤ m ∧ vi = .int .i64 i ∧ scanS p hands ss i = 0 ∧ Only [] w wr) (fun vi _ _ _ => m - (intOf vi).toNat)
  case atStart => exact ⟨0, Nat.zero_le _, rfl, rfl, Only.refl _ _⟩
  case round =>
    obtain ⟨wo, rfl⟩ : ∃ wo : World, wo = wr := ⟨_, rfl⟩
    obtain ⟨i, hi, rfl, hsc, ho⟩ := hrel
    have HSC := Lib.hid hsc
    clear hsc
    by_cases him : i < m
    · -- <<
      as_aux_lemma =>
      have hib : i < ss.length := by rw [HM.out]; exact him
      obtain ⟨bb, off, rfl, k0, k1, k2, k3⟩ := HA.out i him
      have c0 := (ho.cell (p := ⟨bb, _, none⟩) (cell_lt k0) (by simp)).trans k0
      have c1 := (ho.cell (p := ⟨bb, _, none⟩) (cell_lt k1) (by simp)).trans k1
      have c2 := (ho.cell (p := ⟨bb, _, none⟩) (cell_lt k2) (by simp)).trans k2
      have c3 := (ho.cell (p := ⟨bb, _, none⟩) (cell_lt k3) (by simp)).trans k3
      have HE1 := Lib.hid (fun e (h2 : stayFault p hands (ss.take i) (stAt ss i) = e) he => staysErr_scan (e := e) hib HSC.out h2 he)
      have HE2 := Lib.hid (fun (h2 : stayFault p hands (ss.take i) (stAt ss i) = 0) => scanS_succ HSC.out h2)
      have HCI := Lib.hid (clashS_iff (ss := ss.take i) (s := stAt ss i))
      obtain ⟨s9, hs9⟩ : ∃ s9, stAt ss i = s9 := ⟨_, rfl⟩
      rw [hs9] at c0 c1 c2 c3 HE1 HE2 HCI
      clear hs9
      obtain ⟨x, y, f, t⟩ := s9
      simp only at c0 c1 c2 c3
      have hal := (Only.refl [] wo).alloc (.cells #[.int .i64 x, .int .i64 y, .int .i64 f, .int .i64 t] 45)
      have hoa := Lib.hid (ho.trans hal (by simp))
      clear k0 k1 k2 k3
      by_cases hg : 0 ≤ x ∧ x < hands ∧ 0 ≤ y ∧ y < (n : Int) ∧ 0 ≤ f ∧ f ≤ t ∧ t ≤ 10000
      · have hgn : Hid (¬ ((St.mk x y f t).hand < 0 ∨ hands ≤ (St.mk x y f t).hand ∨ (St.mk x y f t).task < 0 ∨ (p.length : Int) ≤ (St.mk x y f t).task ∨ (St.mk x y f t).frm < 0 ∨ (St.mk x y f t).til < (St.mk x y f t).frm ∨ 10000 < (St.mk x y f t).til)) := by
          show ¬ (x < 0 ∨ hands ≤ x ∨ y < 0 ∨ (p.length : Int) ≤ y ∨ f < 0 ∨ t < f ∨ 10000 < t)
          rw [HL.out]; omega
        obtain ⟨g1, g2, g3, g4, g5, g6, g7⟩ := hg
        obtain ⟨y, rfl⟩ := Int.eq_ofNat_of_zero_le g3
        have hyn : y < n := by omega
        obtain ⟨pb, po, rfl⟩ := HP.out.any y (by rw [HL.out]; exact hyn)
        have hC0 := Cells.new wo #[.int .i64 x, .int .i64 (y : Int), .int .i64 f, .int .i64 t] 45
        obtain ⟨wb, hwb⟩ : ∃ wb, wo.alloc (.cells #[.int .i64 x, .int .i64 (y : Int), .int .i64 f, .int .i64 t] 45) = wb := ⟨_, rfl⟩
        have hbs : wo.heap.size < wb.heap.size := by rw [← hwb]; simp
        have HOB : Hid (Only [] w wb) := by rw [← hwb]; exact hoa.out
        rw [hwb] at hC0
        have b0 := hC0.cell 0 _ rfl
        have b1 := hC0.cell 1 _ rfl
        have b2 := hC0.cell 2 _ rfl
        have b3 := hC0.cell 3 _ rfl
        have HC0 := Lib.hid hC0
        obtain ⟨_, _, cW, _, _⟩ := (HP.out.same HOB.out).at y (by rw [HL.out]; exact hyn)
        by_cases h3 : t - f = wkOf p y
        · have H3 : Hid ((St.mk x y f t).til - (St.mk x y f t).frm = wkOf p (St.mk x y f t).task.toNat) := by show t - f = wkOf p (y : Int).toNat; rw [Int.toNat_natCast]; exact h3
          rw [← h3] at cW
          have H7 : Hid (clashS (ss.take i) ⟨x, y, f, t⟩ = true → E = 7) := fun h => by rw [← HE.out]; exact HE1.out 7 (sfault_7 hgn.out H3.out h) (by decide)
          have H0 : Hid (clashS (ss.take i) ⟨x, y, f, t⟩ = false → scanS p hands ss (i + 1) = 0) := fun h => HE2.out (sfault_0 hgn.out H3.out h)
          clear hC0 hoa hal HE1 HE2 h3
          go_wp2_with fail
          go_quiet (fail)
          go_wp2_with fail
          clear hwb c0 c1 c2 c3 ho b0 b1 b2 b3 cW
          go_loopw [9] (fun vk wr => ∃ k : Nat, k ≤ i ∧ vk = .int .i64 k ∧ (∀ r, r < k → clash1 ⟨x, y, f, t⟩ (stAt ss r) = false) ∧ Only [] wb wr) (fun vk _ => i - (intOf vk).toNat)
          case atStart => exact ⟨0, Nat.zero_le _, rfl, fun r hr => by omega, (Only.refl _ _).drewN _⟩
          case round =>
            obtain ⟨wi, rfl⟩ : ∃ wi : World, wi = wr := ⟨_, rfl⟩
            obtain ⟨k, hk, rfl, hno, hoi⟩ := hrel
            have HNO := Lib.hid hno
            have hoo := HOB.out.trans hoi (by simp)
            have hC := HC0.out.only hoi (by simp)
            have q0 := hC.cell 0 _ rfl
            have q1 := hC.cell 1 _ rfl
            have q2 := hC.cell 2 _ rfl
            have q3 := hC.cell 3 _ rfl
            clear hno hC
            by_cases hki : k < i
            · -- <<
              as_aux_lemma =>
              obtain ⟨ba, bo, hba, k0, k1, k2, k3⟩ := HA.out k (by omega)
              injection hba with hba
              injection hba with e1 e2 _
              subst e1 e2
              have c0 := (hoo.cell (p := ⟨bb, _, none⟩) (cell_lt k0) (by simp)).trans k0
              have c1 := (hoo.cell (p := ⟨bb, _, none⟩) (cell_lt k1) (by simp)).trans k1
              have c2 := (hoo.cell (p := ⟨bb, _, none⟩) (cell_lt k2) (by simp)).trans k2
              have c3 := (hoo.cell (p := ⟨bb, _, none⟩) (cell_lt k3) (by simp)).trans k3
              have hyes := Lib.hid (fun (h : clash1 ⟨x, y, f, t⟩ (stAt ss k) = true) => H7.out (HCI.out.2 ⟨k, by rw [List.length_take]; omega, by rw [stAt_take hki]; exact h⟩))
              have hnext : Hid (clash1 ⟨x, y, f, t⟩ (stAt ss k) = false → ∀ r, r < k + 1 → clash1 ⟨x, y, f, t⟩ (stAt ss r) = false) := fun h r hr => by
                by_cases e : r = k
                · subst e; exact h
                · exact HNO.out r (by omega)
              obtain ⟨s8, hs8⟩ : ∃ s8, stAt ss k = s8 := ⟨_, rfl⟩
              rw [hs8] at c0 c1 c2 c3 hyes hnext
              clear hs8 k0 k1 k2 k3
              obtain ⟨a1, b1, d1, e1⟩ := s8
              simp only at c0 c1 c2 c3
              have hcd : Hid (clash1 ⟨x, y, f, t⟩ ⟨a1, b1, d1, e1⟩ = (decide (b1 = y) || (decide (a1 = x) && (decide (d1 < t) && decide (f < e1))))) := rfl
              have HOI := Lib.hid hoi
              have HOO := Lib.hid hoo
              clear hoi hoo
              by_cases hb1 : b1 = (y : Int)
              · have hf7 := Lib.hid (hyes.out (by rw [hcd.out, decide_eq_true hb1]; rfl))
                subst hb1
                go_wp2_with fail
                go_quiet (fail)
                go_wp2
                go_ret
                exact ⟨by rw [hf7.out]; rfl, HOO.out.drewN _⟩
              · have hb1' : (b1 == (y : Int)) = false := by simpa using hb1
                by_cases ha1 : a1 = x
                · subst ha1
                  by_cases hd1 : d1 < t
                  · have hd1' : decide (d1 < t) = true := decide_eq_true hd1
                    by_cases he1 : f < e1
                    · have hf7 := Lib.hid (hyes.out (by rw [hcd.out]; simp [hd1, he1]))
                      have he1' : decide (f < e1) = true := decide_eq_true he1
                      go_wp2_with fail
                      go_quiet (fail)
                      go_wp2
                      go_ret
                      exact ⟨by rw [hf7.out]; rfl, HOO.out.drewN _⟩
                    · have hn2 := Lib.hid (hnext.out (by rw [hcd.out]; simp [hb1]; omega))
                      have he1' : decide (f < e1) = false := decide_eq_false he1
                      go_wp2_with fail
                      go_quiet (fail)
                      go_wp2
                      go_roundw
                      case rel => exact ⟨k + 1, by omega, by go_num, hn2.out, HOI.out.drewN _⟩
                      case measure => (simp [intOf]; try omega)
                  · have hn2 := Lib.hid (hnext.out (by rw [hcd.out]; simp [hb1]; omega))
                    have hd1' : decide (d1 < t) = false := decide_eq_false hd1
                    go_wp2_with fail
                    go_quiet (fail)
                    go_wp2
                    go_roundw
                    case rel => exact ⟨k + 1, by omega, by go_num, hn2.out, HOI.out.drewN _⟩
                    case measure => (simp [intOf]; try omega)
                · have ha1' : (a1 == x) = false := by simpa using ha1
                  have hn2 := Lib.hid (hnext.out (by rw [hcd.out, decide_eq_false hb1, decide_eq_false ha1]; rfl))
                  go_wp2_with fail
                  go_quiet (fail)
                  go_wp2
                  go_roundw
                  case rel => exact ⟨k + 1, by omega, by go_num, hn2.out, HOI.out.drewN _⟩
                  case measure => (simp [intOf]; try omega)
              -- >>
            · obtain rfl : k = i := by omega
              have hcl : Hid (clashS (ss.take k) ⟨x, y, f, t⟩ = false) := by
                show _ = _
                cases e : clashS (ss.take k) ⟨x, y, f, t⟩ with
                | false => rfl
                | true =>
                  obtain ⟨r, hr, h⟩ := HCI.out.1 e
                  have hr' : r < k := by rw [List.length_take] at hr; omega
                  rw [stAt_take hr', HNO.out r hr'] at h; cases h
              have hs0 := Lib.hid (H0.out hcl.out)
              have HOO := Lib.hid hoo
              clear hoo hoi
              go_wp2
              go_roundw
              case rel => exact ⟨k + 1, by omega, by go_num, hs0.out, HOO.out⟩
              case measure => (simp [intOf]; try omega)
        · have hfa : Hid (E = 3) := by
            show _ = _
            rw [← HE.out]
            exact HE1.out 3 (sfault_3 hgn.out (by show t - f ≠ wkOf p (y : Int).toNat; rw [Int.toNat_natCast]; exact h3)) (by decide)
          obtain ⟨k, hk⟩ : ∃ k, wkOf p y = k := ⟨_, rfl⟩
          rw [hk] at cW h3
          clear hk hC0 hoa hal HE1 HE2
          go_wp2_with fail
          go_quiet (fail)
          go_wp2
          go_ret
          exact ⟨by rw [hfa.out]; rfl, HOB.out.drewN _⟩
      · have hbad : Hid (E = 1) := by
          show _ = _
          rw [← HE.out]
          refine HE1.out 1 (sfault_1 ?_) (by decide)
          rw [HL.out]
          show x < 0 ∨ hands ≤ x ∨ y < 0 ∨ (n : Int) ≤ y ∨ f < 0 ∨ t < f ∨ 10000 < t
          omega
        have hg2 : x < 0 ∨ (0 ≤ x ∧ hands ≤ x) ∨ (0 ≤ x ∧ x < hands ∧ y < 0) ∨ (0 ≤ x ∧ x < hands ∧ 0 ≤ y ∧ (n : Int) ≤ y) ∨ (0 ≤ x ∧ x < hands ∧ 0 ≤ y ∧ y < (n : Int) ∧ f < 0) ∨ (0 ≤ x ∧ x < hands ∧ 0 ≤ y ∧ y < (n : Int) ∧ 0 ≤ f ∧ t < f) ∨ (0 ≤ x ∧ x < hands ∧ 0 ≤ y ∧ y < (n : Int) ∧ 0 ≤ f ∧ f ≤ t ∧ 10000 < t) := by omega
        clear hg ho hal
        rcases hg2 with g1 | ⟨g1, g2⟩ | ⟨g1, g2, g3⟩ | ⟨g1, g2, g3, g4⟩ | ⟨g1, g2, g3, g4, g5⟩ | ⟨g1, g2, g3, g4, g5, g6⟩ | ⟨g1, g2, g3, g4, g5, g6, g7⟩
        all_goals
          go_wp2
          go_ret
          exact ⟨by rw [hbad.out]; rfl, hoa.out⟩
      -- >>
    · -- <<
      as_aux_lemma =>
      obtain rfl : i = m := by omega
      have hs0 : scanS p hands ss ss.length = 0 := by rw [HM.out]; exact HSC.out
      have HMM := Lib.hid (scanS_mem hs0)
      by_cases hfew : i < n
      · have hf5 : Hid (E = 5) := by
          show _ = _
          rw [← HE.out]
          exact staysErr_few hs0 (by rw [HM.out, HL.out]; exact hfew)
        go_wp2
        go_ret
        exact ⟨by rw [hf5.out]; rfl, ho⟩
      · have HE6 := Lib.hid (fun i hi k hk h3 h4 => staysErr_early hs0 (by rw [HM.out, HL.out]; exact hfew) (i := i) (k := k) hi hk h3 h4)
        have HE0 := Lib.hid (fun (h3 : ∀ i, i < ss.length → ∀ k, k < ss.length → (stAt ss k).task ∈ ndOf p (stAt ss i).task.toNat → (stAt ss k).til ≤ (stAt ss i).frm) => staysErr_fine hs0 (by rw [HM.out, HL.out]; exact hfew) (fun i hi k hk hm => by have := h3 i hi k hk hm; omega))
        obtain ⟨w1, rfl⟩ : ∃ w1 : World, w1 = wo := ⟨_, rfl⟩
        clear hs0 HSC him hi
        go_wp2_with fail
        go_loopw [10, 11, 12] (fun vi _ _ wr => ∃ j : Nat, j ≤ i ∧ vi = .int .i64 j ∧ (∀ a, a < j → ∀ k, k < ss.length → (stAt ss k).task ∈ ndOf p (stAt ss a).task.toNat → (stAt ss k).til ≤ (stAt ss a).frm) ∧ Only [] w wr) (fun vi _ _ _ => i - (intOf vi).toNat)
        case atStart => exact ⟨0, Nat.zero_le _, rfl, fun a ha => by omega, ho⟩
        case round =>
          clear ho
          obtain ⟨wx, rfl⟩ : ∃ wx : World, wx = wr := ⟨_, rfl⟩
          obtain ⟨j, hj, rfl, hgood, ho⟩ := hrel
          have HG := Lib.hid hgood
          clear hgood
          by_cases hji : j < i
          · have hjb : j < ss.length := by rw [HM.out]; exact hji
            obtain ⟨bb, off, rfl, k0, k1, k2, k3⟩ := HA.out j hji
            have hmj := HMM.out _ (stAt_mem hjb)
            have H6j := Lib.hid (fun k hk => HE6.out j hjb k hk)
            have HGN : Hid ((∀ k, k < i → (stAt ss k).task ∈ ndOf p (stAt ss j).task.toNat → (stAt ss k).til ≤ (stAt ss j).frm) → ∀ a, a < j + 1 → ∀ k, k < ss.length → (stAt ss k).task ∈ ndOf p (stAt ss a).task.toNat → (stAt ss k).til ≤ (stAt ss a).frm) := fun h a ha k hk => by
              by_cases e : a = j
              · subst e; exact h k (by rw [HM.out] at hk; exact hk)
              · exact HG.out a (by omega) k hk
            obtain ⟨s9, hs9⟩ : ∃ s9, stAt ss j = s9 := ⟨_, rfl⟩
            rw [hs9] at k0 k1 k2 k3 hmj H6j HGN
            obtain ⟨x, y, f, t⟩ := s9
            simp only at k0 k1 k2 k3 hmj H6j HGN
            obtain ⟨y, rfl⟩ := Int.eq_ofNat_of_zero_le hmj.2.2.1
            rw [Int.toNat_natCast] at H6j HGN
            have hyn : y < n := by have := hmj.2.2.2.1; rw [HL.out] at this; omega
            obtain ⟨pb, po, rfl⟩ := HP.out.any y (by rw [HL.out]; exact hyn)
            clear hs9 hmj hjb
            obtain ⟨w2, rfl⟩ : ∃ w2 : World, w2 = wx := ⟨_, rfl⟩
            go_wp2_with fail
            go_loopw [11, 12] (fun vk _ wr => ∃ k : Nat, k ≤ i ∧ vk = .int .i64 k ∧ (∀ r, r < k → (stAt ss r).task ∈ ndOf p y → (stAt ss r).til ≤ f) ∧ Only [] w wr) (fun vk _ _ => i - (intOf vk).toNat)
            case atStart => exact ⟨0, Nat.zero_le _, rfl, fun r hr => by omega, ho⟩
            case round =>
              clear ho
              obtain ⟨wz, rfl⟩ : ∃ wz : World, wz = wr := ⟨_, rfl⟩
              obtain ⟨k, hk, rfl, hlow, ho⟩ := hrel
              have HLOW := Lib.hid hlow
              clear hlow
              by_cases hki : k < i
              · have hkb : k < ss.length := by rw [HM.out]; exact hki
                obtain ⟨ba, bo, hba, l0, l1, l2, l3⟩ := HA.out k hki
                injection hba with hba
                injection hba with e1 e2 _
                subst e1 e2
                have c1 := (ho.cell (p := ⟨bb, _, none⟩) (cell_lt k1) (by simp)).trans k1
                have c2 := (ho.cell (p := ⟨bb, _, none⟩) (cell_lt k2) (by simp)).trans k2
                have d1 := (ho.cell (p := ⟨bb, _, none⟩) (cell_lt l1) (by simp)).trans l1
                have d3 := (ho.cell (p := ⟨bb, _, none⟩) (cell_lt l3) (by simp)).trans l3
                have H6k := Lib.hid (H6j.out k hkb)
                have HNX : Hid (((stAt ss k).task ∈ ndOf p y → (stAt ss k).til ≤ f) → ∀ r, r < k + 1 → (stAt ss r).task ∈ ndOf p y → (stAt ss r).til ≤ f) := fun h r hr => by
                  by_cases e : r = k
                  · subst e; exact h
                  · exact HLOW.out r (by omega)
                obtain ⟨s8, hs8⟩ : ∃ s8, stAt ss k = s8 := ⟨_, rfl⟩
                rw [hs8] at d1 d3 H6k HNX
                obtain ⟨a1, b1, f1, t1⟩ := s8
                simp only at d1 d3 H6k HNX
                obtain ⟨ua, uc, _, pc1, hrd⟩ := (HP.out.same ho).at y (by rw [HL.out]; exact hyn)
                have hnl : (ndOf p y).length ≤ 30 := by have := HO.out.needs y; rw [HL.out] at this; omega
                obtain ⟨R, hR⟩ : ∃ R, decide (b1 ∈ ndOf p y) = R := ⟨_, rfl⟩
                have HR := Lib.hid hR
                have hIn := fun q => ref_in _ (ndOf p y) b1 (wz.drewN q) (hrd.drewN q) (by omega) R hR
                obtain ⟨nl, hnl2⟩ : ∃ q, (ndOf p y).length = q := ⟨_, rfl⟩
                rw [hnl2] at pc1 hIn
                have HIN := Lib.hid hIn
                have HOO := Lib.hid ho
                clear hs8 l0 l1 l2 l3 hrd hR hnl2 hIn ho hkb hnl
                cases R with
                | true =>
                  have hmem : Hid (b1 ∈ ndOf p y) := by show _ ∈ _; exact of_decide_eq_true HR.out
                  by_cases hlt : f < t1
                  · have hf6 : Hid (E = 6) := by show _ = _; rw [← HE.out]; exact H6k.out hmem.out hlt
                    go_wp2_with fail
                    go_quiet ((go_at_call 29; exact quiet_eq (HIN.out _)))
                    go_wp2_with fail
                    go_quiet (fail)
                    go_wp2
                    go_ret
                    exact ⟨by rw [hf6.out]; rfl, by first | exact (HOO.out.drewN _).drewN _ | exact HOO.out.drewN _⟩
                  · have hn1 := Lib.hid (HNX.out (fun _ => by omega))
                    go_wp2_with fail
                    go_quiet ((go_at_call 29; exact quiet_eq (HIN.out _)))
                    go_wp2_with fail
                    go_quiet (fail)
                    go_wp2
                    go_roundw
                    case rel => exact ⟨k + 1, by omega, by go_num, hn1.out, by first | exact (HOO.out.drewN _).drewN _ | exact HOO.out.drewN _⟩
                    case measure => (simp [intOf]; try omega)
                | false =>
                  have hmem : Hid (¬ b1 ∈ ndOf p y) := by show ¬ _; exact of_decide_eq_false HR.out
                  have hn1 := Lib.hid (HNX.out (fun h => absurd h hmem.out))
                  go_wp2_with fail
                  go_quiet ((go_at_call 29; exact quiet_eq (HIN.out _)))
                  go_wp2_with fail
                  go_quiet (fail)
                  go_wp2
                  go_roundw
                  case rel => exact ⟨k + 1, by omega, by go_num, hn1.out, by first | exact (HOO.out.drewN _).drewN _ | exact HOO.out.drewN _⟩
                  case measure => (simp [intOf]; try omega)
              · obtain rfl : k = i := by omega
                have hn2 := Lib.hid (HGN.out HLOW.out)
                go_wp2
                go_roundw
                case rel => exact ⟨j + 1, by omega, by go_num, hn2.out, ho⟩
                case measure => (simp [intOf]; try omega)
          · obtain rfl : j = i := by omega
            have hf0 : Hid (E = 0) := by
              show _ = _
              rw [← HE.out]
              exact HE0.out (fun a ha k hk hm => HG.out a (by rw [HM.out] at ha; exact ha) k hk hm)
            go_wp2
            go_ret
            exact ⟨by rw [hf0.out]; rfl, ho⟩
      -- >>

end Go.Proofs.YtmopbimineoogaaDoor
