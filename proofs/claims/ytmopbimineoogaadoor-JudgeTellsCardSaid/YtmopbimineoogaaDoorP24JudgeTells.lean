/-
  Contract of yardref2.Bits.
-/
import Derived.Test.YtmopbimineoogaaDoorP23JudgeTells
namespace Go.Proofs.YtmopbimineoogaaDoor
open Go.RowKit Go.Deep

theorem bitsErr_scan {p : PlanL} {hands : Int} {bs : List Bt} {i : Nat} {e : Int} (hi : i < bs.length) (h1 : scanK p hands bs i = 0) (h2 : bitFault p hands (bs.take i) (bitAt bs i) = e) (he : e ≠ 0) : bitsErr p hands bs = e := by
  have := firstE_hit (F := fun i => bitFault p hands (bs.take i) (bitAt bs i)) (k := i) (m := bs.length) h1 (by rw [h2]; exact he) hi
  unfold bitsErr scanK
  rw [this, h2, if_pos he]
theorem bitsErr_lack {p : PlanL} {hands : Int} {bs : List Bt} {i : Nat} (h1 : scanK p hands bs bs.length = 0) (hi : i < p.length) (h2 : (manyOf bs (i : Int) : Int) < wkOf p i) : bitsErr p hands bs = 5 := by
  unfold bitsErr
  rw [if_neg (by simp [h1]), if_pos]
  exact List.any_eq_true.2 ⟨i, by simpa using hi, by simpa using h2⟩
theorem bitsErr_early {p : PlanL} {hands : Int} {bs : List Bt} (h1 : scanK p hands bs bs.length = 0) (h2 : ∀ i, i < p.length → ¬ (manyOf bs (i : Int) : Int) < wkOf p i) {i : Nat} (hi : i < bs.length) {k : Int} (hk : k ∈ ndOf p (bitAt bs i).task.toNat) (h3 : (bitAt bs i).step ≤ lastF bs k) : bitsErr p hands bs = 6 := by
  unfold bitsErr
  rw [if_neg (by simp [h1]), if_neg (by simp [lackB_false h2]), if_pos]
  exact List.any_eq_true.2 ⟨_, bitAt_mem hi, List.any_eq_true.2 ⟨k, hk, by simpa using h3⟩⟩
theorem bitsErr_fine {p : PlanL} {hands : Int} {bs : List Bt} (h1 : scanK p hands bs bs.length = 0) (h2 : ∀ i, i < p.length → ¬ (manyOf bs (i : Int) : Int) < wkOf p i) (h3 : ∀ i, i < bs.length → ∀ k ∈ ndOf p (bitAt bs i).task.toNat, lastF bs k < (bitAt bs i).step) : bitsErr p hands bs = 0 := by
  unfold bitsErr
  rw [if_neg (by simp [h1]), if_neg (by simp [lackB_false h2]), if_neg]
  unfold earlyB
  rw [Bool.not_eq_true, List.any_eq_false]
  intro b hb
  rw [Bool.not_eq_true, List.any_eq_false]
  intro k hk
  obtain ⟨i, hi, rfl⟩ := List.getElem_of_mem hb
  have e : bitAt bs i = bs[i] := by simp [bitAt, hi]
  have := h3 i hi
  rw [e] at this
  have := this k hk
  simp only [decide_eq_true_eq]; omega
theorem clashB_push (bs : List Bt) (x b : Bt) : clashB (bs ++ [x]) b = (clashB bs b || (decide (x.step = b.step) && (decide (x.hand = b.hand) || decide (x.task = b.task)))) := by
  simp [clashB]
theorem clashB_true {bs : List Bt} {b : Bt} {k : Nat} (hk : k < bs.length) (h : (bitAt bs k).step = b.step ∧ ((bitAt bs k).hand = b.hand ∨ (bitAt bs k).task = b.task)) : clashB bs b = true := by
  refine List.any_eq_true.2 ⟨_, bitAt_mem hk, ?_⟩
  simpa using h
theorem manyOf_le (bs : List Bt) (t : Int) : manyOf bs t ≤ bs.length := List.countP_le_length
theorem bitAt_take {bs : List Bt} {i k : Nat} (h : k < i) : bitAt (bs.take i) k = bitAt bs k := by unfold bitAt; rw [List.getElem?_take_of_lt h]

set_option maxRecDepth 100000 in
set_option maxHeartbeats 16000000 in
theorem ref_Bits (v l : Value) (p : PlanL) (hands : Int) (bs : List Bt) (w : World) (h : InPlan w v p) (hok : PlanOk p) (hb : BitsAt w l bs) (hm9 : bs.length ≤ 9223372036854775807) :
    Calls Tryd.prog 7 #[v, .int .i64 hands, l] w fun e w' =>
      ∃ v', e = .returned (.tuple #[v', .int .i64 (bitsErr p hands bs)]) ∧ BitsV (bitsErr p hands bs) p.length bs w w' v' ∧ Only [] w w' := by
  have HP := Lib.hid h
  obtain ⟨a, c, rfl, ha⟩ := hb.opt
  obtain ⟨pa, cap, rfl, hc1, hc2, _⟩ := h.task
  obtain ⟨n, hn⟩ : ∃ n, p.length = n := ⟨_, rfl⟩
  obtain ⟨m, hm⟩ : ∃ m, bs.length = m := ⟨_, rfl⟩
  have HL := Lib.hid hn
  have HM := Lib.hid hm
  have HA := Lib.hid ha
  have HO := Lib.hid hok
  have h30 : n ≤ 30 := by have := hok.len; rw [hn] at this; exact this
  rw [hn] at hc1 HP ⊢
  rw [hm] at HA hm9 ⊢
  obtain ⟨E, hE⟩ : ∃ E, bitsErr p hands bs = E := ⟨_, rfl⟩
  have HE := Lib.hid hE
  rw [hE]
  have hmk := make_ints n (by omega)
  clear h hb ha hn hm hE hc2 hok
  go_enter Tryd.func7, Tryd.ntmps7
  go_wp2_with fail
  go_loopw [8, 9, 10, 11] (fun vi _ _ _ wr => ∃ i : Nat, i ≤ m ∧ vi = .int .i64 i ∧ scanK p hands bs i = 0 ∧ Only [] w wr) (fun vi _ _ _ _ => m - (intOf vi).toNat)
  case atStart => exact ⟨0, Nat.zero_le _, rfl, rfl, Only.refl _ _⟩
  case round =>
    obtain ⟨wo, rfl⟩ : ∃ wo : World, wo = wr := ⟨_, rfl⟩
    obtain ⟨i, hi, rfl, hsc, ho⟩ := hrel
    have HSC := Lib.hid hsc
    clear hsc
    by_cases him : i < m
    · -- <<
      as_aux_lemma =>
      have hib : i < bs.length := by rw [HM.out]; exact him
      obtain ⟨bb, off, rfl, k0, k1, k2⟩ := HA.out i him
      have c0 := (ho.cell (p := ⟨bb, _, none⟩) (cell_lt k0) (by simp)).trans k0
      have c1 := (ho.cell (p := ⟨bb, _, none⟩) (cell_lt k1) (by simp)).trans k1
      have c2 := (ho.cell (p := ⟨bb, _, none⟩) (cell_lt k2) (by simp)).trans k2
      have HE1 := Lib.hid (fun e (h2 : bitFault p hands (bs.take i) (bitAt bs i) = e) he => bitsErr_scan (e := e) hib HSC.out h2 he)
      have HE2 := Lib.hid (fun (h2 : bitFault p hands (bs.take i) (bitAt bs i) = 0) => scanK_succ HSC.out h2)
      have HCT := Lib.hid (fun k (hk : k < i) (h : (bitAt bs k).step = (bitAt bs i).step ∧ ((bitAt bs k).hand = (bitAt bs i).hand ∨ (bitAt bs k).task = (bitAt bs i).task)) => clashB_true (bs := bs.take i) (b := bitAt bs i) (k := k) (by rw [List.length_take]; omega) (by rw [bitAt_take hk]; exact h))
      obtain ⟨b9, hb9⟩ : ∃ b9, bitAt bs i = b9 := ⟨_, rfl⟩
      have HB9 := Lib.hid hb9
      rw [hb9] at c0 c1 c2 HE1 HE2 HCT
      clear hb9
      obtain ⟨x, y, z⟩ := b9
      simp only at c0 c1 c2
      have hal := (Only.refl [] wo).alloc (.cells #[.int .i64 x, .int .i64 y, .int .i64 z] 43)
      have hoa := Lib.hid (ho.trans hal (by simp))
      clear k0 k1 k2
      by_cases hg : 0 ≤ x ∧ x ≤ 10000 ∧ 0 ≤ y ∧ y < hands ∧ 0 ≤ z ∧ z < (n : Int)
      · have hgn : Hid (¬ ((Bt.mk x y z).step < 0 ∨ 10000 < (Bt.mk x y z).step ∨ (Bt.mk x y z).hand < 0 ∨ hands ≤ (Bt.mk x y z).hand ∨ (Bt.mk x y z).task < 0 ∨ (p.length : Int) ≤ (Bt.mk x y z).task)) := by
          show ¬ (x < 0 ∨ 10000 < x ∨ y < 0 ∨ hands ≤ y ∨ z < 0 ∨ (p.length : Int) ≤ z)
          rw [HL.out]; omega
        obtain ⟨g1, g2, g3, g4, g5, g6⟩ := hg
        obtain ⟨z, rfl⟩ := Int.eq_ofNat_of_zero_le g5
        have hzn : z < n := by omega
        obtain ⟨pb, po, rfl⟩ := HP.out.any z (by rw [HL.out]; exact hzn)
        have H7 : Hid (clashB (bs.take i) ⟨x, y, (z : Int)⟩ = true → E = 7) := fun h => by rw [← HE.out]; exact HE1.out 7 (fault_7 hgn.out h) (by decide)
        have H4 : Hid (clashB (bs.take i) ⟨x, y, (z : Int)⟩ = false → ∀ q : Nat, manyOf (bs.take i) (z : Int) = q → wkOf p z ≤ (q : Int) → E = 4) := fun h q hq hle => by
          rw [← HE.out]; exact HE1.out 4 (fault_4 hgn.out h (by show wkOf p ((z : Int)).toNat ≤ (manyOf _ (z : Int) : Int); rw [Int.toNat_natCast, hq]; exact hle)) (by decide)
        have H0 : Hid (clashB (bs.take i) ⟨x, y, (z : Int)⟩ = false → ∀ q : Nat, manyOf (bs.take i) (z : Int) = q → ¬ wkOf p z ≤ (q : Int) → scanK p hands bs (i + 1) = 0) := fun h q hq hle =>
          HE2.out (fault_0 hgn.out h (by show ¬ wkOf p ((z : Int)).toNat ≤ (manyOf _ (z : Int) : Int); rw [Int.toNat_natCast, hq]; exact hle))
        have hC0 := Cells.new wo #[.int .i64 x, .int .i64 y, .int .i64 z] 43
        obtain ⟨wb, hwb⟩ : ∃ wb, wo.alloc (.cells #[.int .i64 x, .int .i64 y, .int .i64 z] 43) = wb := ⟨_, rfl⟩
        have hbs : wo.heap.size < wb.heap.size := by rw [← hwb]; simp
        have HOB : Hid (Only [] w wb) := by rw [← hwb]; exact hoa.out
        rw [hwb] at hC0
        have b0 := hC0.cell 0 _ rfl
        have b1 := hC0.cell 1 _ rfl
        have b2 := hC0.cell 2 _ rfl
        have HC0 := Lib.hid hC0
        clear hC0 hoa hal HE1 HE2
        go_wp2_with fail
        clear hwb c0 c1 c2 ho b0 b1 b2
        go_loopw [10, 11] (fun vm vk wr => ∃ k q : Nat, k ≤ i ∧ vk = .int .i64 k ∧ vm = .int .i64 q ∧ q = manyOf (bs.take k) (z : Int) ∧ clashB (bs.take k) ⟨x, y, (z : Int)⟩ = false ∧ Only [] wb wr) (fun _ vk _ => i - (intOf vk).toNat)
        case atStart => exact ⟨0, 0, Nat.zero_le _, rfl, rfl, rfl, rfl, Only.refl _ _⟩
        case round =>
          obtain ⟨wi, rfl⟩ : ∃ wi : World, wi = wr := ⟨_, rfl⟩
          obtain ⟨k, q, hk, rfl, rfl, hq, hcl, hoi⟩ := hrel
          have HQ := Lib.hid hq
          have HCL := Lib.hid hcl
          have hqk : q ≤ k := by rw [hq]; exact Nat.le_trans (manyOf_le _ _) (by simp; omega)
          have hoo := HOB.out.trans hoi (by simp)
          have hC := HC0.out.only hoi (by simp)
          have q0 := hC.cell 0 _ rfl
          have q1 := hC.cell 1 _ rfl
          have q2 := hC.cell 2 _ rfl
          clear hq hcl hC
          by_cases hki : k < i
          · -- <<
            as_aux_lemma =>
            have hkb : k < bs.length := by omega
            obtain ⟨ba, bo, hba, k0, k1, k2⟩ := HA.out k (by omega)
            injection hba with hba
            injection hba with e1 e2 _
            subst e1 e2
            have c0 := (hoo.cell (p := ⟨bb, _, none⟩) (cell_lt k0) (by simp)).trans k0
            have c1 := (hoo.cell (p := ⟨bb, _, none⟩) (cell_lt k1) (by simp)).trans k1
            have c2 := (hoo.cell (p := ⟨bb, _, none⟩) (cell_lt k2) (by simp)).trans k2
            have hct := HCT.out k hki
            have hcp := clashB_push (bs.take k) (bitAt bs k) ⟨x, y, (z : Int)⟩
            have hmp := manyOf_push (bs.take k) (bitAt bs k) (z : Int)
            rw [← take_bit bs k hkb, HCL.out] at hcp
            rw [← take_bit bs k hkb, ← HQ.out] at hmp
            obtain ⟨b8, hb8⟩ : ∃ b8, bitAt bs k = b8 := ⟨_, rfl⟩
            rw [hb8] at c0 c1 c2 hct hcp hmp
            clear hb8 k0 k1 k2
            obtain ⟨a1, b1, d1⟩ := b8
            simp only [Bool.false_or] at c0 c1 c2 hct hcp hmp
            have HCT1 := Lib.hid hct
            have HCP := Lib.hid hcp
            have HMP := Lib.hid hmp
            have HOI := Lib.hid hoi
            have HOO := Lib.hid hoo
            clear hct hcp hmp hoi hoo hkb
            by_cases ha1 : a1 = x
            · subst ha1
              by_cases hb1 : b1 = y
              · have hf7 := Lib.hid (H7.out (HCT1.out ⟨rfl, .inl hb1⟩))
                subst hb1
                go_wp2_with fail
                go_quiet (fail)
                go_wp2
                go_ret2
                exact ⟨_, by rw [hf7.out]; rfl, .inl ⟨by rw [hf7.out]; decide, rfl⟩, HOO.out.drewN _⟩
              · have hb1' : (b1 == y) = false := by simpa using hb1
                by_cases hd1 : d1 = (z : Int)
                · have hf7 := Lib.hid (H7.out (HCT1.out ⟨rfl, .inr hd1⟩))
                  subst hd1
                  go_wp2_with fail
                  go_quiet (fail)
                  go_wp2
                  go_ret2
                  exact ⟨_, by rw [hf7.out]; rfl, .inl ⟨by rw [hf7.out]; decide, rfl⟩, HOO.out.drewN _⟩
                · have hd1' : (d1 == (z : Int)) = false := by simpa using hd1
                  have hn1 := Lib.hid (HMP.out.trans (if_neg hd1))
                  have hn2 : Hid (clashB (bs.take (k + 1)) ⟨a1, y, (z : Int)⟩ = false) := HCP.out.trans (by simp [hb1, hd1])
                  go_wp2_with fail
                  go_quiet (fail)
                  go_wp2_with fail
                  go_quiet (fail)
                  go_wp2
                  go_roundw
                  case rel => exact ⟨k + 1, q, by omega, by go_num, rfl, hn1.out.symm, hn2.out, by first | exact (HOI.out.drewN _).drewN _ | exact HOI.out.drewN _⟩
                  case measure => (simp [intOf]; try omega)
            · have ha1' : (a1 == x) = false := by simpa using ha1
              have hn2 : Hid (clashB (bs.take (k + 1)) ⟨x, y, (z : Int)⟩ = false) := HCP.out.trans (by simp [ha1])
              by_cases hd1 : d1 = (z : Int)
              · have hn1 := Lib.hid (HMP.out.trans (if_pos hd1))
                subst hd1
                go_wp2_with fail
                go_quiet (fail)
                go_wp2_with fail
                go_quiet (fail)
                go_wp2
                go_roundw
                case rel => exact ⟨k + 1, q + 1, by omega, by go_num, by go_num, hn1.out.symm, hn2.out, by first | exact (HOI.out.drewN _).drewN _ | exact HOI.out.drewN _⟩
                case measure => (simp [intOf]; try omega)
              · have hd1' : (d1 == (z : Int)) = false := by simpa using hd1
                have hn1 := Lib.hid (HMP.out.trans (if_neg hd1))
                go_wp2_with fail
                go_quiet (fail)
                go_wp2_with fail
                go_quiet (fail)
                go_wp2
                go_roundw
                case rel => exact ⟨k + 1, q, by omega, by go_num, rfl, hn1.out.symm, hn2.out, by first | exact (HOI.out.drewN _).drewN _ | exact HOI.out.drewN _⟩
                case measure => (simp [intOf]; try omega)
            -- >>
          · -- <<
            obtain rfl : k = i := by omega
            obtain ⟨_, _, cW, _, _⟩ := (HP.out.same hoo).at z (by rw [HL.out]; exact hzn)
            have h4 := Lib.hid (H4.out HCL.out q HQ.out.symm)
            have h0 := Lib.hid (H0.out HCL.out q HQ.out.symm)
            obtain ⟨X, hX⟩ : ∃ X, wkOf p z = X := ⟨_, rfl⟩
            rw [hX] at cW h4 h0
            clear hX
            have HOO := Lib.hid hoo
            clear hoo hoi
            by_cases hle : X ≤ (q : Int)
            · have hf4 := Lib.hid (h4.out hle)
              go_wp2
              go_ret2
              exact ⟨_, by rw [hf4.out]; rfl, .inl ⟨by rw [hf4.out]; decide, rfl⟩, HOO.out⟩
            · have hf0 := Lib.hid (h0.out (by omega))
              go_wp2
              go_roundw
              case rel => exact ⟨k + 1, by omega, by go_num, hf0.out, HOO.out⟩
              case measure => (simp [intOf]; try omega)
            -- >>
      · have hbad : Hid (E = 1) := by
          show _ = _
          rw [← HE.out]
          refine HE1.out 1 (fault_1 ?_) (by decide)
          rw [HL.out]
          show x < 0 ∨ 10000 < x ∨ y < 0 ∨ hands ≤ y ∨ z < 0 ∨ (n : Int) ≤ z
          omega
        have hg2 : x < 0 ∨ (0 ≤ x ∧ 10000 < x) ∨ (0 ≤ x ∧ x ≤ 10000 ∧ y < 0) ∨ (0 ≤ x ∧ x ≤ 10000 ∧ 0 ≤ y ∧ hands ≤ y) ∨ (0 ≤ x ∧ x ≤ 10000 ∧ 0 ≤ y ∧ y < hands ∧ z < 0) ∨ (0 ≤ x ∧ x ≤ 10000 ∧ 0 ≤ y ∧ y < hands ∧ 0 ≤ z ∧ (n : Int) ≤ z) := by omega
        clear hg ho hal
        rcases hg2 with g1 | ⟨g1, g2⟩ | ⟨g1, g2, g3⟩ | ⟨g1, g2, g3, g4⟩ | ⟨g1, g2, g3, g4, g5⟩ | ⟨g1, g2, g3, g4, g5, g6⟩
        all_goals
          go_wp2
          go_ret2
          exact ⟨_, by rw [hbad.out]; rfl, .inl ⟨by rw [hbad.out]; decide, rfl⟩, hoa.out⟩
      -- >>
    · -- <<
      as_aux_lemma =>
      obtain rfl : i = m := by omega
      have hs0 : scanK p hands bs bs.length = 0 := by rw [HM.out]; exact HSC.out
      have HS0 := Lib.hid hs0
      have HR := Lib.hid (scanK_ok hs0 (Nat.le_refl _))
      have HE5 := Lib.hid (fun j hj h2 => bitsErr_lack (i := j) hs0 hj h2)
      have HE6 := Lib.hid (fun (h2 : ∀ t, t < p.length → wkOf p t ≤ (manyOf bs (t : Int) : Int)) j hj k hk h3 => bitsErr_early hs0 (fun t ht => by have := h2 t ht; omega) (i := j) hj (k := k) hk h3)
      have HE0 := Lib.hid (fun (h2 : ∀ t, t < p.length → wkOf p t ≤ (manyOf bs (t : Int) : Int)) h3 => bitsErr_fine hs0 (fun t ht => by have := h2 t ht; omega) h3)
      have hB0 := made_nums wo n
      have hal := (Only.refl [] wo).alloc (.cells (madeCells #[.int .i64 0] n) 3)
      have hB1 := made_nums (wo.alloc (.cells (madeCells #[.int .i64 0] n) 3)) n
      have hal2 := hal.alloc (.cells (madeCells #[.int .i64 0] n) 3)
      have hB0 := hB0.only ((Only.refl [] _).alloc (.cells (madeCells #[.int .i64 0] n) 3)) (by simp)
      rw [World.size_alloc] at hB1
      have hs1 := ho.size
      have ho2 := ho.trans hal2 (by simp)
      clear hs0 HSC hal hal2 him hi ho
      go_wp2_with fail
      go_loopw [14, 15] (fun vi _ wr => ∃ j : Nat, j ≤ i ∧ vi = .int .i64 j ∧ Nums wr wo.heap.size n (fun t => lastF (bs.take j) (t : Int)) ∧ Nums wr (wo.heap.size + 1) n (fun t => (manyOf (bs.take j) (t : Int) : Int)) ∧ Only [] w wr) (fun vi _ _ => i - (intOf vi).toNat)
      case atStart => exact ⟨0, Nat.zero_le _, rfl, hB0, hB1, ho2⟩
      case round =>
        clear hB0 hB1 ho2
        obtain ⟨wi, rfl⟩ : ∃ wi : World, wi = wr := ⟨_, rfl⟩
        obtain ⟨j, hj, rfl, nA, nB, ho⟩ := hrel
        by_cases hji : j < i
        · have hjb : j < bs.length := by rw [HM.out]; exact hji
          obtain ⟨bb, off, rfl, k0, k1, k2⟩ := HA.out j hji
          have hr := HR.out (bitAt bs j) (by rw [List.take_length]; exact bitAt_mem hjb)
          have HMP := Lib.hid (fun t => manyOf_push (bs.take j) (bitAt bs j) t)
          have HLP := Lib.hid (fun t => lastF_push (bs.take j) (bitAt bs j) t)
          have htk := take_bit bs j hjb
          rw [← htk] at HMP HLP
          have hmb : ∀ t, manyOf (bs.take j) t ≤ j := fun t => Nat.le_trans (manyOf_le _ _) (by simp; omega)
          have c0 := (ho.cell (p := ⟨bb, _, none⟩) (cell_lt k0) (by simp)).trans k0
          have c2 := (ho.cell (p := ⟨bb, _, none⟩) (cell_lt k2) (by simp)).trans k2
          have hlt0 := cell_lt c0
          obtain ⟨b9, hb9⟩ : ∃ b9, bitAt bs j = b9 := ⟨_, rfl⟩
          rw [hb9] at c0 c2 hr HMP HLP
          obtain ⟨x, y, z⟩ := b9
          simp only at c0 c2 hr HMP HLP
          obtain ⟨_, _, _, _, g5, g6⟩ := hr
          obtain ⟨z, rfl⟩ := Int.eq_ofNat_of_zero_le g5
          have hzn : z < n := by rw [HL.out] at g6; omega
          have hmz := hmb (z : Int)
          have cA : wi.cell? ⟨wo.heap.size, z, none⟩ = some (.int .i64 (lastF (bs.take j) (z : Int))) := (nA z hzn).1
          have cB : wi.cell? ⟨wo.heap.size + 1, z, none⟩ = some (.int .i64 (manyOf (bs.take j) (z : Int) : Int)) := (nB z hzn).1
          have fB := (nB z hzn).2
          have hfar : bb ≠ wo.heap.size ∧ bb ≠ wo.heap.size + 1 := by have h9 : bb < w.heap.size := cell_lt k0; omega
          clear k0 k1 k2 hb9 htk hmb
          obtain ⟨q, hq⟩ : ∃ q, manyOf (bs.take j) (z : Int) = q := ⟨_, rfl⟩
          obtain ⟨y2, hy2⟩ : ∃ y, lastF (bs.take j) (z : Int) = y := ⟨_, rfl⟩
          rw [hq] at cB hmz
          rw [hy2] at cA
          have HQ := Lib.hid hq
          have HY := Lib.hid hy2
          clear hq hy2
          have hset : Only [wo.heap.size + 1] wi (wi.setCell ⟨wo.heap.size + 1, z, none⟩ (.int .i64 ((q : Int) + 1))) := (Only.refl _ _).setCell (by simp) _
          have nA2 := nA.only hset (by simp)
          have nB2 := (nB.set z ((q : Int) + 1)).congr (g := fun t => (manyOf (bs.take (j + 1)) (t : Int) : Int)) (fun t ht => by
            unfold updI
            show _ = (manyOf (bs.take (j + 1)) (t : Int) : Int)
            rw [HMP.out]
            by_cases e : t = z
            · subst e; rw [if_pos rfl, if_pos rfl, HQ.out]; rfl
            · rw [if_neg e, if_neg (by omega)])
          have ho2 := ho.trans hset (fun x hx hl => by simp at hx; omega)
          have d0 := (hset.cell (p := ⟨bb, _, none⟩) (cell_lt c0) (by simp; omega)).trans c0
          have d2 := (hset.cell (p := ⟨bb, _, none⟩) (cell_lt c2) (by simp; omega)).trans c2
          have dA := (nA2 z hzn).1
          have fA := (nA2 z hzn).2
          simp only [HY.out] at dA
          obtain ⟨w3, hw3⟩ : ∃ w3, wi.setCell ⟨wo.heap.size + 1, z, none⟩ (.int .i64 ((q : Int) + 1)) = w3 := ⟨_, rfl⟩
          rw [hw3] at nA2 nB2 ho2 d0 d2 dA fA
          have HN2 := Lib.hid nA2
          have HB2 := Lib.hid nB2
          have HO2 := Lib.hid ho2
          clear nA nB nA2 nB2 hset ho2 hlt0
          go_wp2_with fail
          clear hw3 cA cB fB c0 c2 ho
          have hstep : Hid (lastF (bs.take (j + 1)) (z : Int) = max y2 x) := by
            show _ = _
            rw [HLP.out, if_pos rfl, HY.out]
          have hkeep : Hid (∀ t : Nat, t ≠ z → lastF (bs.take (j + 1)) (t : Int) = lastF (bs.take j) (t : Int)) := fun t ht => by rw [HLP.out, if_neg (by omega)]
          by_cases hgt : y2 < x
          · have hset : ∀ d : Nat, Only [wo.heap.size] w3 ((w3.drewN d).setCell ⟨wo.heap.size, z, none⟩ (.int .i64 x)) := fun d => ((Only.refl _ _).drewN d).setCell (by simp) _
            have nA4 : ∀ d : Nat, Hid (Nums ((w3.drewN d).setCell ⟨wo.heap.size, z, none⟩ (.int .i64 x)) wo.heap.size n (fun t => lastF (bs.take (j + 1)) (t : Int))) := fun d => ((HN2.out.only ((Only.refl [] _).drewN d) (by simp)).set z x).congr (g := fun t => lastF (bs.take (j + 1)) (t : Int)) (fun t ht => by
              unfold updI
              show _ = lastF (bs.take (j + 1)) (t : Int)
              by_cases e : t = z
              · subst e; rw [if_pos rfl, hstep.out]; omega
              · rw [if_neg e, hkeep.out t e])
            have nB4 := fun d => Lib.hid (HB2.out.only (hset d) (by simp))
            have ho4 := fun d => Lib.hid (HO2.out.trans (hset d) (fun a ha hl => by simp at ha; omega))
            clear hset
            go_quiet (fail)
            go_wp2
            go_roundw
            case rel => exact ⟨j + 1, by omega, by go_num, (nA4 _).out, (nB4 _).out, (ho4 _).out⟩
            case measure => (simp [intOf]; try omega)
          · have nA4 := Lib.hid (HN2.out.congr (g := fun t => lastF (bs.take (j + 1)) (t : Int)) (fun t ht => by
              show lastF (bs.take j) (t : Int) = lastF (bs.take (j + 1)) (t : Int)
              by_cases e : t = z
              · subst e; rw [hstep.out, HY.out]; omega
              · rw [hkeep.out t e]))
            go_quiet (fail)
            go_wp2
            go_roundw
            case rel => exact ⟨j + 1, by omega, by go_num, nA4.out.only ((Only.refl [] _).drewN _) (by simp), HB2.out.only ((Only.refl [] _).drewN _) (by simp), HO2.out.drewN _⟩
            case measure => (simp [intOf]; try omega)
        · obtain rfl : j = i := by omega
          have hfull : bs.take j = bs := List.take_of_length_le (by rw [HM.out]; exact Nat.le_refl _)
          rw [hfull] at nA nB
          obtain ⟨w5, rfl⟩ : ∃ w5 : World, w5 = wi := ⟨_, rfl⟩
          clear hfull hji hj
          go_wp2_with fail
          go_loopw [16] (fun vi wr => ∃ q : Nat, q ≤ n ∧ vi = .int .i64 q ∧ (∀ t, t < q → wkOf p t ≤ (manyOf bs (t : Int) : Int)) ∧ Only [] w5 wr) (fun vi _ => n - (intOf vi).toNat)
          case atStart => exact ⟨0, Nat.zero_le _, rfl, fun t ht => by omega, Only.refl _ _⟩
          case round =>
            obtain ⟨wx, rfl⟩ : ∃ wx : World, wx = wr := ⟨_, rfl⟩
            obtain ⟨q, hq, rfl, hno, hoi⟩ := hrel
            have HNO := Lib.hid hno
            clear hno
            have hox := ho.trans hoi (by simp)
            have nB2 := nB.only hoi (by simp)
            by_cases hqn : q < n
            · obtain ⟨pb, po, rfl⟩ := HP.out.any q (by rw [HL.out]; exact hqn)
              obtain ⟨_, _, cW, _, _⟩ := (HP.out.same hox).at q (by rw [HL.out]; exact hqn)
              have cB : wx.cell? ⟨wo.heap.size + 1, q, none⟩ = some (.int .i64 (manyOf bs (q : Int) : Int)) := (nB2 q hqn).1
              have h5 := Lib.hid (fun h => HE5.out q (by rw [HL.out]; exact hqn) h)
              obtain ⟨X, hX⟩ : ∃ X, wkOf p q = X := ⟨_, rfl⟩
              obtain ⟨Y, hY⟩ : ∃ Y, manyOf bs (q : Int) = Y := ⟨_, rfl⟩
              have HX := Lib.hid hX
              have HY := Lib.hid hY
              rw [hX, hY] at h5
              rw [hX] at cW
              rw [hY] at cB
              have HOX := Lib.hid hox
              have HOI := Lib.hid hoi
              clear hX hY nB2 hox hoi
              by_cases hlt : (Y : Int) < X
              · have hf5 : Hid (E = 5) := by show _ = _; rw [← HE.out]; exact h5.out hlt
                go_wp2_with fail
                go_quiet (fail)
                go_wp2
                go_ret2
                exact ⟨_, by rw [hf5.out]; rfl, .inl ⟨by rw [hf5.out]; decide, rfl⟩, HOX.out.drewN _⟩
              · have hn1 : Hid (∀ t, t < q + 1 → wkOf p t ≤ (manyOf bs (t : Int) : Int)) := fun t ht => by
                  by_cases e : t = q
                  · subst e; rw [HX.out, HY.out]; omega
                  · exact HNO.out t (by omega)
                go_wp2_with fail
                go_quiet (fail)
                go_wp2
                go_roundw
                case rel => exact ⟨q + 1, by omega, by go_num, hn1.out, HOI.out.drewN _⟩
                case measure => (simp [intOf]; try omega)
            · obtain rfl : q = n := by omega
              have hno : ∀ t, t < p.length → wkOf p t ≤ (manyOf bs (t : Int) : Int) := fun t ht => HNO.out t (by rw [HL.out] at ht; exact ht)
              have H6 := Lib.hid (HE6.out hno)
              have H0 := Lib.hid (HE0.out hno)
              have nA2 := nA.only hoi (by simp)
              clear hno nB nB2 nA hqn hq HNO HE5 HE6 HE0
              obtain ⟨w6, rfl⟩ : ∃ w6 : World, w6 = wx := ⟨_, rfl⟩
              go_wp2_with fail
              go_loopw [17, 18, 19] (fun vi _ _ wr => ∃ t : Nat, t ≤ j ∧ vi = .int .i64 t ∧ (∀ x, x < t → ∀ k ∈ ndOf p (bitAt bs x).task.toNat, lastF bs k < (bitAt bs x).step) ∧ Only [] w6 wr) (fun vi _ _ _ => j - (intOf vi).toNat)
              case atStart => exact ⟨0, Nat.zero_le _, rfl, fun t ht => by omega, Only.refl _ _⟩
              case round =>
                obtain ⟨wy, rfl⟩ : ∃ wy : World, wy = wr := ⟨_, rfl⟩
                obtain ⟨t, ht, rfl, hgood, hoy⟩ := hrel
                have HGOOD := Lib.hid hgood
                clear hgood
                have hoxy := hox.trans hoy (by simp)
                by_cases htj : t < j
                · have htb : t < bs.length := by rw [HM.out]; exact htj
                  obtain ⟨bb, off, rfl, k0, k1, k2⟩ := HA.out t htj
                  have c0 := (hoxy.cell (p := ⟨bb, _, none⟩) (cell_lt k0) (by simp)).trans k0
                  have c2 := (hoxy.cell (p := ⟨bb, _, none⟩) (cell_lt k2) (by simp)).trans k2
                  have hr := HR.out (bitAt bs t) (by rw [List.take_length]; exact bitAt_mem htb)
                  have H6t := Lib.hid (fun k hk h3 => H6.out t htb k hk h3)
                  have HG1 : Hid ((∀ k ∈ ndOf p (bitAt bs t).task.toNat, lastF bs k < (bitAt bs t).step) → ∀ x, x < t + 1 → ∀ k ∈ ndOf p (bitAt bs x).task.toNat, lastF bs k < (bitAt bs x).step) := fun h x hx k hk => by
                    by_cases e : x = t
                    · subst e; exact h k hk
                    · exact HGOOD.out x (by omega) k hk
                  obtain ⟨b9, hb9⟩ : ∃ b9, bitAt bs t = b9 := ⟨_, rfl⟩
                  rw [hb9] at c0 c2 hr H6t HG1
                  obtain ⟨x, y, z⟩ := b9
                  simp only at c0 c2 hr H6t HG1
                  obtain ⟨_, _, _, _, g5, g6⟩ := hr
                  obtain ⟨z, rfl⟩ := Int.eq_ofNat_of_zero_le g5
                  rw [Int.toNat_natCast] at H6t HG1
                  have hzn : z < q := by rw [HL.out] at g6; omega
                  obtain ⟨pb, po, rfl⟩ := HP.out.any z (by rw [HL.out]; exact hzn)
                  obtain ⟨ua, uc, _, c1, hrd⟩ := (HP.out.same hoxy).at z (by rw [HL.out]; exact hzn)
                  obtain ⟨ra, rc, er, hrc⟩ := hrd.opt
                  injection er with er1 _ er2
                  subst er1
                  have hnl : (ndOf p z).length ≤ 30 := by have := HO.out.needs z; rw [HL.out] at this; omega
                  have HMEM := Lib.hid (fun r (hr : r < (ndOf p z).length) => (by rw [nth, List.getElem?_eq_getElem hr]; exact List.getElem_mem hr : nth (ndOf p z) r ∈ ndOf p z))
                  have HALL := Lib.hid (fun (h : ∀ r, r < (ndOf p z).length → lastF bs (nth (ndOf p z) r) < x) => HG1.out (fun k hk => by
                    obtain ⟨r, hr, rfl⟩ := List.getElem_of_mem hk
                    have := h r hr
                    rw [nth, List.getElem?_eq_getElem hr] at this
                    exact this))
                  have HRC := Lib.hid hrc
                  obtain ⟨m2, hm2⟩ : ∃ m2, (ndOf p z).length = m2 := ⟨_, rfl⟩
                  rw [hm2] at c1 hnl HMEM HRC HALL
                  have HOXY := Lib.hid hoxy
                  have HOY := Lib.hid hoy
                  clear k0 k1 k2 hb9 hrd hrc er2 hm2 hoxy hoy
                  go_wp2_with fail
                  go_loopw [19] (fun vk wr => ∃ r : Nat, r ≤ m2 ∧ vk = .int .i64 r ∧ (∀ s, s < r → lastF bs (nth (ndOf p z) s) < x) ∧ Only [] wy wr) (fun vk _ => m2 - (intOf vk).toNat)
                  case atStart => exact ⟨0, Nat.zero_le _, rfl, fun s hs => by omega, Only.refl _ _⟩
                  case round =>
                    obtain ⟨wz, rfl⟩ : ∃ wz : World, wz = wr := ⟨_, rfl⟩
                    obtain ⟨r, hr, rfl, hlow, hoz⟩ := hrel
                    have HLOW := Lib.hid hlow
                    clear hlow
                    by_cases hrm : r < m2
                    · obtain ⟨rb, ro, rfl, cr⟩ := HRC.out r hrm
                      have hmem := HMEM.out r hrm
                      have hbn := HO.out.need z _ hmem
                      have h6r := Lib.hid (fun h3 => H6t.out _ hmem h3)
                      obtain ⟨yk, hyk⟩ : ∃ yk, nth (ndOf p z) r = yk := ⟨_, rfl⟩
                      have HYK := Lib.hid hyk
                      rw [hyk] at cr hbn h6r
                      obtain ⟨yn, rfl⟩ := Int.eq_ofNat_of_zero_le hbn.1
                      have hyn : yn < q := by have := HL.out; omega
                      have cr2 := (hoz.cell (p := ⟨rb, _, none⟩) (cell_lt cr) (by simp)).trans cr
                      have e0 := (hoz.cell (p := ⟨bb, _, none⟩) (cell_lt c0) (by simp)).trans c0
                      have cL : wz.cell? ⟨wo.heap.size, yn, none⟩ = some (.int .i64 (lastF bs (yn : Int))) := ((nA2.only (HOY.out.trans hoz (by simp)) (by simp)) yn hyn).1
                      obtain ⟨ly, hly⟩ : ∃ ly, lastF bs (yn : Int) = ly := ⟨_, rfl⟩
                      have HLY := Lib.hid hly
                      rw [hly] at cL h6r
                      have HOZ := Lib.hid hoz
                      clear hmem hyk cr hly hoz c1
                      by_cases hle : x ≤ ly
                      · have hf6 : Hid (E = 6) := by show _ = _; rw [← HE.out]; exact h6r.out hle
                        go_wp2_with fail
                        go_quiet (fail)
                        go_wp2
                        go_ret2
                        exact ⟨_, by rw [hf6.out]; rfl, .inl ⟨by rw [hf6.out]; decide, rfl⟩, (HOXY.out.trans HOZ.out (by simp)).drewN _⟩
                      · have hn1 : Hid (∀ s, s < r + 1 → lastF bs (nth (ndOf p z) s) < x) := fun s hs => by
                          by_cases e : s = r
                          · subst e; rw [HYK.out, HLY.out]; omega
                          · exact HLOW.out s (by omega)
                        go_wp2_with fail
                        go_quiet (fail)
                        go_wp2
                        go_roundw
                        case rel => exact ⟨r + 1, by omega, by go_num, hn1.out, HOZ.out.drewN _⟩
                        case measure => (simp [intOf]; try omega)
                    · obtain rfl : r = m2 := by omega
                      have hn2 := Lib.hid (HALL.out HLOW.out)
                      have ho9 := Lib.hid (HOY.out.trans hoz (by simp))
                      clear hoz c1
                      go_wp2
                      go_roundw
                      case rel => exact ⟨t + 1, by omega, by go_num, hn2.out, ho9.out⟩
                      case measure => (simp [intOf]; try omega)
                · obtain rfl : t = j := by omega
                  have hf0 : Hid (E = 0) := by
                    show _ = _
                    rw [← HE.out]
                    exact H0.out (fun i hi => HGOOD.out i (by rw [HM.out] at hi; exact hi))
                  have nA9 := Lib.hid (nA2.only hoy (by simp))
                  have HOXY := Lib.hid hoxy
                  clear hoy hoxy nA2
                  go_wp2
                  go_ret2
                  exact ⟨_, by rw [hf0.out]; rfl, .inr ⟨hf0.out, _, rfl, hs1, nA9.out⟩, HOXY.out⟩
      -- >>

end Go.Proofs.YtmopbimineoogaaDoor
