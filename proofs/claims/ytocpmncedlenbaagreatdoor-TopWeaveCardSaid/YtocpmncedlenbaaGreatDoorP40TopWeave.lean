/-
  Contract of judge.Stays.
  A map of pairs of numbers to bools that the call made: which pairs were seen.
  Slices of bits that came in.
-/
import Derived.Test.YtocpmncedlenbaaGreatDoorP39TopWeave
import Derived.Test.YtocpmncedlenbaaGreatDoorP1TopWeave
import Derived.DeepKeys4
import Derived.Test.YtocpmncedlenbaaGreatDoorP33TopWeave
import Derived.Test.YtocpmncedlenbaaGreatDoorP31TopWeave
namespace Go.Proofs.YtocpmncedlenbaaGreatDoor
open Go.RowKit Go.Deep

/-- What is wrong with stays of a plan. -/
noncomputable def staysErrH (p : PlanL) (hands : Int) (ss : List St) : Int := if hErr p hands ≠ 0 then hErr p hands else staysErr p hands ss

theorem staysH_h {p : PlanL} {hands : Int} {ss : List St} (h : hErr p hands ≠ 0) : staysErrH p hands ss = hErr p hands := by unfold staysErrH; rw [if_pos h]
theorem staysH_scan {p : PlanL} {hands : Int} {ss : List St} {i : Nat} {e : Int} (h : hErr p hands = 0) (hi : i < ss.length) (h1 : scanS p hands ss i = 0) (h2 : stayFault p hands (ss.take i) (stAt ss i) = e) (he : e ≠ 0) : staysErrH p hands ss = e := by
  have := firstE_hit (F := fun i => stayFault p hands (ss.take i) (stAt ss i)) (k := i) (m := ss.length) h1 (by rw [h2]; exact he) hi
  unfold staysErrH staysErr
  rw [if_neg (by simp [h])]
  unfold scanS
  rw [this, h2, if_pos he]
theorem scanS_succ {p : PlanL} {hands : Int} {ss : List St} {i : Nat} (h1 : scanS p hands ss i = 0) (h2 : stayFault p hands (ss.take i) (stAt ss i) = 0) : scanS p hands ss (i + 1) = 0 := by
  unfold scanS at h1 ⊢
  rw [firstE_step h1, h2]
theorem staysH_few {p : PlanL} {hands : Int} {ss : List St} (h : hErr p hands = 0) (h1 : scanS p hands ss ss.length = 0) (h2 : ss.length < p.length) : staysErrH p hands ss = 5 := by
  unfold staysErrH staysErr
  rw [if_neg (by simp [h]), if_neg (by simp [h1]), if_pos h2]
theorem staysH_early {p : PlanL} {hands : Int} {ss : List St} (h : hErr p hands = 0) (h1 : scanS p hands ss ss.length = 0) (h2 : ¬ ss.length < p.length) : staysErrH p hands ss = if earlyS p ss = true then 6 else 0 := by
  unfold staysErrH staysErr
  rw [if_neg (by simp [h]), if_neg (by simp [h1]), if_neg h2]

theorem StaysAt.take {w : World} {b off n cap : Nat} {ss : List St} (h : StaysAt w (.slice (some ⟨b, off, none⟩) n cap) ss) (i : Nat) (hi : i ≤ ss.length) : StaysAt w (.slice (some ⟨b, off, none⟩) i cap) (ss.take i) := by
  have hl : (ss.take i).length = i := by simp; omega
  unfold StaysAt
  rw [hl]
  refine ⟨by rw [flatS_len, hl], flatS_one _, ?_⟩
  by_cases h0 : i = 0
  · exact .inl ⟨h0, .inr ⟨_, cap, by rw [h0]⟩⟩
  · refine .inr ⟨by omega, b, off, cap, rfl, fun j y hy => ?_⟩
    obtain ⟨_, _, h⟩ := h
    rcases h with ⟨h1, _⟩ | ⟨_, b', off', cap', he, hc⟩
    · omega
    · injection he with e1 _ _
      injection e1 with e1
      injection e1 with e1 e2
      subst e1 e2
      refine hc j y ?_
      have hj : j < i * 4 := by
        rcases Nat.lt_or_ge j ((flatS (ss.take i)).length) with hl2 | hl2
        · rw [flatS_len, hl] at hl2; exact hl2
        · rw [List.getElem?_eq_none hl2] at hy; cases hy
      have e : j = j / 4 * 4 + j % 4 := by omega
      have hd : j / 4 < i := by omega
      rw [e, flatS_get _ _ _ (by rw [hl]; exact hd) (by omega)] at hy
      rw [e, flatS_get _ _ _ (by omega) (by omega)]
      rw [show stAt (ss.take i) (j / 4) = stAt ss (j / 4) by unfold stAt; rw [List.getElem?_take, if_pos hd]] at hy
      exact hy

/-- A field of an aggregate's value, reckoned. -/
theorem field_put {J : Act → World → Prop} {a : Act} {d : Option Nat} {v v' : Value} {w : World} (h : v = v') (k : J (a.put d v') w) : J (a.put d v) w := by subst h; exact k

theorem run_len_staymap {w : World} {b n : Nat} {ss : List St} (h : StayMap w b n ss) (ty : TypeId) : (Builtin.len_ #[124] ty #[.map (some b)]).run Tryz.prog w = .ok (.int .i64 (n : Int)) w := by
  obtain ⟨es, clock, hb, hn, _⟩ := h
  subst hn
  simp [Builtin.len_, run_underlying Tryz.underlying124, MapKept.run_getObj_map hb]
  rfl

set_option maxRecDepth 100000 in
set_option maxHeartbeats 8000000 in
theorem judge_Stays (v l : Value) (p : PlanL) (hands : Int) (ss : List St) (w : World) (h : InPlan w v p) (hb : StaysAt w l ss) (hm9 : ss.length ≤ 9223372036854775807) (hroom : ∀ a n c, l = .slice a n c → n ≤ c) :
    Calls Tryz.prog 15 #[v, .int .i64 hands, l] w fun e w' => e = .returned (errV (staysErrH p hands ss)) ∧ Only [] w w' := by
  have hr := judge_ready v p hands w h
  have HP := Lib.hid h
  have HS := Lib.hid hb
  obtain ⟨a, c, rfl, ha⟩ := hb.opt
  have hmc := hroom _ _ _ rfl
  clear hroom
  obtain ⟨pa, cap, rfl, hc1, hc2, _⟩ := h.task
  obtain ⟨n, hn⟩ : ∃ n, p.length = n := ⟨_, rfl⟩
  obtain ⟨m, hm⟩ : ∃ m, ss.length = m := ⟨_, rfl⟩
  have HL := Lib.hid hn
  have HM := Lib.hid hm
  have HA := Lib.hid ha
  rw [hn] at hc1 HP hr ⊢
  rw [hm] at HA HS hm9 hmc ⊢
  obtain ⟨E, hE⟩ : ∃ E, staysErrH p hands ss = E := ⟨_, rfl⟩
  have HE := Lib.hid hE
  rw [hE]
  clear h hb ha hn hm hE hc2
  by_cases hf : hErr p hands = 0
  · obtain ⟨hok, h1, h6⟩ := hErr_zero hf
    have HF := Lib.hid hf
    have HO := Lib.hid hok
    have h30 : n ≤ 30 := by have := hok.len; rw [HL.out] at this; exact this
    rw [hf, errV_zero] at hr
    have hmm := @run_makeMap Tryz.prog
    clear hf hok
    go_enter Tryz.func15, Tryz.ntmps15
    go_wp2_with fail
    refine hr.mono ?_
    rintro e w1 ⟨rfl, ho1⟩
    clear hr
    have hM1 := StayMap.made w1
    have hal := (Only.refl [] w1).alloc (.map #[] 0)
    have hB1 : w.heap.size ≤ w1.heap.size := ho1.size
    go_wp2_with fail
    go_loopw [25] (fun vi wr => ∃ i : Nat, i ≤ m ∧ vi = .int .i64 i ∧ scanS p hands ss i = 0 ∧ StayMap wr w1.heap.size i (ss.take i) ∧ Only [] w1 wr) (fun vi _ => m - (intOf vi).toNat)
    case atStart => exact ⟨0, Nat.zero_le _, rfl, rfl, by simpa using hM1, hal⟩
    case round =>
      clear hM1 hal hmm
      obtain ⟨wo, rfl⟩ : ∃ wo : World, wo = wr := ⟨_, rfl⟩
      obtain ⟨i, hi, rfl, hsc, hM, hoo⟩ := hrel
      have HSC := Lib.hid hsc
      have ho := ho1.trans hoo (by simp)
      clear hsc
      by_cases him : i < m
      · have hib : i < ss.length := by rw [HM.out]; exact him
        obtain ⟨b, off, rfl, k0, k1, k2, k3⟩ := HA.out i him
        have c0 := (ho.cell (p := ⟨b, _, none⟩) (cell_lt k0) (by simp)).trans k0
        have c1 := (ho.cell (p := ⟨b, _, none⟩) (cell_lt k1) (by simp)).trans k1
        have c2 := (ho.cell (p := ⟨b, _, none⟩) (cell_lt k2) (by simp)).trans k2
        have c3 := (ho.cell (p := ⟨b, _, none⟩) (cell_lt k3) (by simp)).trans k3
        have htk := take_st ss i hib
        have HE1 := Lib.hid (fun e (h2 : stayFault p hands (ss.take i) (stAt ss i) = e) he => staysH_scan (e := e) HF.out hib HSC.out h2 he)
        have HE2 := Lib.hid (fun (h2 : stayFault p hands (ss.take i) (stAt ss i) = 0) => scanS_succ HSC.out h2)
        have HAT := Lib.hid (fun h2 => scanS_at (p := p) (hands := hands) (ss := ss) (k := i) h2)
        have hst := Lib.hid (fun w' (ho' : Only [] w w') => judge_stay _ _ p hands (ss.take i) (stAt ss i) w' (HP.out.same ho') ((HS.out.same ho').take i (by omega)) (by simp; omega) (by rw [HL.out]; omega))
        obtain ⟨F, hF⟩ : ∃ F, stayFault p hands (ss.take i) (stAt ss i) = F := ⟨_, rfl⟩
        have HFF := Lib.hid hF
        rw [hF] at hst
        obtain ⟨s9, hs9⟩ : ∃ s9, stAt ss i = s9 := ⟨_, rfl⟩
        have HS9 := Lib.hid hs9
        rw [hs9] at c0 c1 c2 c3 hst htk
        clear hs9 hF
        obtain ⟨x, y, f, t⟩ := s9
        simp only at c0 c1 c2 c3 hst
        have hal := (Only.refl [] wo).alloc (.cells #[.int .i64 x, .int .i64 y, .int .i64 f, .int .i64 t] 120)
        have hM2 := Lib.hid (hM.only hal (by simp))
        have hoa := Lib.hid (hoo.trans hal (by simp))
        have HTK := Lib.hid htk
        have hMl := hM.lt
        clear k0 k1 k2 k3 htk hM
        have hic : i ≤ c := by omega
        have HS2 := Lib.hid (fun w' (ho' : Only [] w w') => ((HS.out.same ho').take i (by rw [HM.out]; omega)))
        by_cases h0 : F = 0
        · have hat := HAT.out (by rw [HFF.out]; exact h0)
          rw [HS9.out] at hat
          simp only at hat
          obtain ⟨_, _, g3, g4, _, _, _, _, g9⟩ := hat
          rw [HL.out] at g4
          have HNONE : Hid (stayOf (ss.take i) y = none) := stayOf_none (fun x hx => (g9 x hx).1)
          have HE2' := Lib.hid (HE2.out (by rw [HFF.out]; exact h0))
          subst h0
          rw [errV_zero] at hst
          clear g9
          go_wp2_with fail
          obtain ⟨W, hW⟩ : ∃ W, wo.alloc (.cells #[.int .i64 x, .int .i64 y, .int .i64 f, .int .i64 t] 120) = W := ⟨_, rfl⟩
          have hC := Cells.new wo #[.int .i64 x, .int .i64 y, .int .i64 f, .int .i64 t] 120
          rw [hW] at hal hM2 hoa hC ⊢
          have q0 := hC.cell 0 _ rfl
          have q1 := hC.cell 1 _ rfl
          have q2 := hC.cell 2 _ rfl
          have q3 := hC.cell 3 _ rfl
          go_still_tail 6, (by kernel_rfl)
          change wpList _ _ _ _ _ W.drew
          go_wp2_with fail
          refine (hst.out _ (ho.trans hal.drew (by simp))).mono ?_
          rintro e w5 ⟨rfl, ho5⟩
          have hd5 : Only [] W w5 := (Only.refl [] W).drew.trans ho5 (by simp)
          have hC5 := hC.only hd5 (by simp)
          have q0 := hC5.cell 0 _ rfl
          have q1 := hC5.cell 1 _ rfl
          have q2 := hC5.cell 2 _ rfl
          have q3 := hC5.cell 3 _ rfl
          have hM5 := hM2.out.only hd5 (by simp)
          obtain ⟨w6, hput, hM6, ho6⟩ := hM5.put ⟨x, y, f, t⟩ (by show -1000000 ≤ y ∧ y ≤ 1000000; omega) HNONE.out
          replace hput : (Instr.mapUpdate 124 (.map (some w1.heap.size)) (.int .i64 y) (.agg #[.int .i64 x, .int .i64 y, .int .i64 f, .int .i64 t])).run Tryz.prog w5 = .ok () w6 := hput
          rw [← HTK.out] at hM6
          have HM6 := Lib.hid hM6
          have HO6 := Lib.hid (((hoo.trans hal (by simp)).trans hd5 (by simp)).trans ho6 (by simp))
          clear hst hC hC5 hM5 hM6 ho5 hd5 hal hoo ho hW ho6
          go_wp2_with fail
          go_roundw
          case rel => exact ⟨i + 1, by omega, by go_num, HE2', HM6.out, HO6.out⟩
          case measure => (simp [intOf]; try omega)
        · have hEF : Hid (E = F) := by show _ = _; rw [← HE.out]; exact HE1.out F HFF.out h0
          rw [errV_ne h0] at hst
          have H0 := Lib.hid h0
          clear h0 HE1 HE2 HAT
          go_wp2_with fail
          obtain ⟨W, hW⟩ : ∃ W, wo.alloc (.cells #[.int .i64 x, .int .i64 y, .int .i64 f, .int .i64 t] 120) = W := ⟨_, rfl⟩
          have hC := Cells.new wo #[.int .i64 x, .int .i64 y, .int .i64 f, .int .i64 t] 120
          rw [hW] at hal hM2 hoa hC ⊢
          have q0 := hC.cell 0 _ rfl
          have q1 := hC.cell 1 _ rfl
          have q2 := hC.cell 2 _ rfl
          have q3 := hC.cell 3 _ rfl
          go_still_tail 6, (by kernel_rfl)
          change wpList _ _ _ _ _ W.drew
          go_wp2_with fail
          refine (hst.out _ (ho.trans hal.drew (by simp))).mono ?_
          rintro e w5 ⟨rfl, ho5⟩
          have hO := Lib.hid ((ho.trans hal (by simp)).trans ((Only.refl [] W).drew.trans ho5 (by simp)) (by simp))
          clear hst hC ho5 hal hoo ho hW
          go_wp2
          go_ret
          exact ⟨by rw [hEF.out, errV_ne H0.out]; rfl, hO.out⟩
      · obtain rfl : i = m := by omega
        have hlen := run_len_staymap hM 3
        by_cases hfew : i < n
        · have hE5 : Hid (E = 5) := by show _ = _; rw [← HE.out]; exact staysH_few HF.out (by rw [HM.out]; exact HSC.out) (by rw [HM.out, HL.out]; exact hfew)
          go_wp2
          go_ret
          exact ⟨by rw [hE5.out]; rfl, ho⟩
        · rw [List.take_of_length_le (by rw [HM.out]; exact Nat.le_refl _)] at hM
          have hscan0 : scanS p hands ss ss.length = 0 := by rw [HM.out]; exact HSC.out
          have HEI := Lib.hid (earlyS_iff hscan0 (by rw [HM.out, HL.out]; omega) (fun i k hk => HO.out.need i k hk))
          have HFE : Hid (E = if earlyS p ss = true then 6 else 0) := by show _ = _; rw [← HE.out]; exact staysH_early HF.out hscan0 (by rw [HM.out, HL.out]; exact hfew)
          have HMM := Lib.hid hM
          have HO1 := Lib.hid ho
          have hMl := hM.lt
          clear hscan0 hM HSC hoo ho
          go_wp2_with fail
          go_loopw [53] (fun vi wr => ∃ j : Nat, j ≤ n ∧ vi = .int .i64 j ∧ (∀ t, t < j → ∀ k ∈ ndOf p t, (stF ss k).til ≤ (stF ss (t : Int)).frm) ∧ Only [] wo wr) (fun vi _ => n - (intOf vi).toNat)
          case atStart => exact ⟨0, Nat.zero_le _, rfl, fun j hj => by omega, Only.refl _ _⟩
          case round =>
            clear hlen
            obtain ⟨wn, rfl⟩ : ∃ wn : World, wn = wr := ⟨_, rfl⟩
            obtain ⟨j, hj, rfl, hno, hon⟩ := hrel
            have HNO := Lib.hid hno
            clear hno
            have ho := HO1.out.trans hon (by simp)
            by_cases hjn : j < n
            · have hjl : j < p.length := by rw [HL.out]; exact hjn
              obtain ⟨b, off, rfl⟩ := HP.out.any j hjl
              obtain ⟨ua, uc, c0, c1, hrd⟩ := (HP.out.same ho).at j hjl
              have hnl : (ndOf p j).length ≤ 30 := by have := HO.out.needs j; rw [HL.out] at this; omega
              obtain ⟨ra, rc, er, hrc⟩ := hrd.opt
              injection er with er1 _ er2
              subst er1
              have HMEM := Lib.hid (fun q (hq : q < (ndOf p j).length) => (by rw [nth, List.getElem?_eq_getElem hq]; exact List.getElem_mem hq : nth (ndOf p j) q ∈ ndOf p j))
              have HRC := Lib.hid hrc
              obtain ⟨r, hr⟩ : ∃ r, (ndOf p j).length = r := ⟨_, rfl⟩
              rw [hr] at c1 hnl HMEM HRC
              have HR := Lib.hid hr
              obtain ⟨x, hx⟩ : ∃ x, wkOf p j = x := ⟨_, rfl⟩
              rw [hx] at c0
              have hal := (Only.refl [] wn).alloc (.cells #[.int .i64 x, .slice ua r uc] 97)
              have hoa := Lib.hid hal
              obtain ⟨sa, hsa⟩ : ∃ sa, stF ss (j : Int) = sa := ⟨_, rfl⟩
              have HSA := Lib.hid hsa
              clear hrc hrd er2 hr hx hal hsa
              go_wp2_with fail
              go_loopw [61] (fun vq wr => ∃ q : Nat, q ≤ r ∧ vq = .int .i64 q ∧ (∀ t, t < q → (stF ss (nth (ndOf p j) t)).til ≤ sa.frm) ∧ Only [] wn wr) (fun vq _ => r - (intOf vq).toNat)
              case atStart => exact ⟨0, Nat.zero_le _, rfl, fun t ht => by omega, hoa.out⟩
              case round =>
                obtain ⟨wi, rfl⟩ : ∃ wi : World, wi = wr := ⟨_, rfl⟩
                obtain ⟨q, hq, rfl, hnq, hoi⟩ := hrel
                have HNQ := Lib.hid hnq
                clear hnq
                by_cases hqr : q < r
                · obtain ⟨rb, ro, rfl, crq⟩ := HRC.out q hqr
                  have hmem := HMEM.out q hqr
                  have hb := HO.out.need j _ hmem
                  have HEY := Lib.hid (fun (hle : (stF ss (j : Int)).frm < (stF ss (nth (ndOf p j) q)).til) => HEI.out.2 ⟨j, hjl, _, hmem, hle⟩)
                  obtain ⟨y, hy⟩ : ∃ y, nth (ndOf p j) q = y := ⟨_, rfl⟩
                  have HY := Lib.hid hy
                  rw [hy] at crq hb HEY
                  have crq2 := (hoi.cell (p := ⟨rb, ro + q, none⟩) (cell_lt crq) (by simp)).trans crq
                  have hwi := ho.trans hoi (by simp)
                  have hMi := (HMM.out.only hon (by simp)).only hoi (by simp)
                  have hl1 := hMi.look (j : Int) (by omega)
                  have hl2 := hMi.look y (by have := HL.out; omega)
                  rw [HSA.out] at hl1 HEY
                  obtain ⟨sb, hsb⟩ : ∃ sb, stF ss y = sb := ⟨_, rfl⟩
                  have HSB := Lib.hid hsb
                  rw [hsb] at hl2 HEY
                  obtain ⟨a1, a2, a3, a4⟩ := sa
                  obtain ⟨b1, b2, b3, b4⟩ := sb
                  simp only [stV] at hl1 hl2
                  have HOI := Lib.hid hoi
                  have HQ := Lib.hid hqr
                  have HWI := Lib.hid hwi
                  clear crq hmem hy hsb hoi c0 c1 hMi hwi
                  by_cases hle : a3 < b4
                  · have hf6 : Hid (E = 6) := by show _ = _; rw [HFE.out, if_pos (HEY.out hle)]
                    go_wp2_with fail
                    refine field_put (v' := .int .i64 a3) rfl ?_
                    go_wp2_with fail
                    refine field_put (v' := .int .i64 b4) rfl ?_
                    go_wp2
                    go_ret
                    exact ⟨by rw [hf6.out]; rfl, HWI.out⟩
                  · have hle : b4 ≤ a3 := by omega
                    have HLE := Lib.hid hle
                    go_wp2_with fail
                    refine field_put (v' := .int .i64 a3) rfl ?_
                    go_wp2_with fail
                    refine field_put (v' := .int .i64 b4) rfl ?_
                    go_wp2
                    go_roundw
                    case rel =>
                      refine ⟨q + 1, by omega, by go_num, fun t ht => ?_, HOI.out⟩
                      by_cases e : t = q
                      · subst e; rw [HY.out, HSB.out]; exact HLE.out
                      · exact HNQ.out t (by omega)
                    case measure => (simp [intOf]; try omega)
                · obtain rfl : q = r := by omega
                  have hno2 : Hid (∀ t, t < j + 1 → ∀ k ∈ ndOf p t, (stF ss k).til ≤ (stF ss (t : Int)).frm) := by
                    show ∀ t, _
                    intro t ht k hk
                    by_cases e : t = j
                    · subst e
                      obtain ⟨t9, ht9, rfl⟩ := List.getElem_of_mem hk
                      have := HNQ.out t9 (by rw [← HR.out]; exact ht9)
                      rw [show nth (ndOf p t) t9 = (ndOf p t)[t9] by simp [nth, ht9], ← HSA.out] at this
                      exact this
                    · exact HNO.out t (by omega) k hk
                  go_wp2
                  go_roundw
                  case rel => exact ⟨j + 1, by omega, by go_num, hno2.out, hon.trans hoi (by simp)⟩
                  case measure => (simp [intOf]; try omega)
            · obtain rfl : j = n := by omega
              have hf0 : Hid (E = 0) := by
                show _ = _
                rw [HFE.out, if_neg]
                intro he
                obtain ⟨t, ht, k, hk, hle⟩ := HEI.out.1 he
                have := HNO.out t (by rw [← HL.out]; exact ht) k hk; omega
              go_wp2
              go_ret
              exact ⟨by rw [hf0.out]; rfl, ho⟩
  · have he : Hid (E = hErr p hands) := by show _ = _; rw [← HE.out]; exact staysH_h hf
    rw [errV_ne hf] at hr
    have HF := Lib.hid hf
    clear hf
    go_enter Tryz.func15, Tryz.ntmps15
    go_wp2_with fail
    refine hr.mono ?_
    rintro e w1 ⟨rfl, ho⟩
    clear hr
    go_wp2
    go_ret
    exact ⟨by rw [he.out, errV_ne HF.out]; rfl, ho⟩

end Go.Proofs.YtocpmncedlenbaaGreatDoor

namespace Go.Proofs.YtocpmncedlenbaaGreatDoor
open Go.RowKit Go.Maps

theorem key_pair : Keyed Tryz.prog 252 :=
  Keyed.of_law (deep_law_laid laid_out (m := 3) (by omega) (of_decide_eq_true (by kernel_rfl)) (by kernel_rfl) (by kernel_rfl))

theorem pair_kt : Tryz.prog.keyType 252 = true := by kernel_rfl
theorem pair_cells : Tryz.prog.cellsOf 252 = 2 := by kernel_rfl
theorem int_cells : Tryz.prog.cellsOf 3 = 1 := by kernel_rfl

theorem keyLits_int (d : Nat) (a : Int) (h : (Lit.int .i64 a).wf = true) : Tryz.prog.keyLits (d + 1) 3 [.int .i64 a] = some [.int .i64 a] := by
  unfold Program.keyLits
  rw [Tryz.underlying3]
  simp [h]
theorem keyLits_pair (d : Nat) (a b : Int) (ha : (Lit.int .i64 a).wf = true) (hb : (Lit.int .i64 b).wf = true) : ∃ l, Tryz.prog.keyLits (d + 2) 252 [.int .i64 a, .int .i64 b] = some l := by
  refine ⟨[.int .i64 a, .int .i64 b], ?_⟩
  rw [show d + 2 = (d + 1) + 1 from rfl]
  unfold Program.keyLits
  rw [Tryz.underlying252]
  simp [pair_cells, int_cells, keyLits_int d a ha, keyLits_int d b hb]

theorem keyOf_pair (a b : Int) (ha : (Lit.int .i64 a).wf = true) (hb : (Lit.int .i64 b).wf = true) : ∃ l, keyOf Tryz.prog 252 (.agg #[.int .i64 a, .int .i64 b]) = some l := by
  obtain ⟨l, hl⟩ := keyLits_pair (Tryz.prog.types.size - 1) a b ha hb
  rw [show Tryz.prog.types.size - 1 + 2 = Tryz.prog.types.size + 1 by
    have : 0 < Tryz.prog.types.size := of_decide_eq_true (by kernel_rfl)
    omega] at hl
  unfold keyOf
  rw [Tryz.underlying252]
  have hf : (Value.agg #[.int .i64 a, .int .i64 b]).formed Tryz.prog 252 = true := by
    simp [Value.formed, Tryz.underlying252, pair_cells]
  simp only [pair_kt, hf, Bool.and_self, if_true]
  refine ⟨.string (keyBytes l), ?_⟩
  rw [show (Value.agg #[.int .i64 a, .int .i64 b]).cells.toList = [.int .i64 a, .int .i64 b] from rfl, hl]
  rfl

/-- What a map of pairs that were seen holds. -/
def pairF (s : Int → Int → Bool) : Value → Option Value
  | .agg ⟨[.int .i64 a, .int .i64 b]⟩ => if s a b = true then some (.bool true) else none
  | _ => none

def PairMap (w : World) (b : Nat) (s : Int → Int → Bool) : Prop := ∃ n, MapOf w Tryz.prog 252 b n (pairF s)

def upP (s : Int → Int → Bool) (a b : Int) : Int → Int → Bool := fun x y => (decide (a = x) && decide (b = y)) || s x y

theorem PairMap.lt {w : World} {b : Nat} {s : Int → Int → Bool} (h : PairMap w b s) : b < w.heap.size := by obtain ⟨n, h⟩ := h; exact h.lt
theorem PairMap.only {w w' : World} {b : Nat} {s : Int → Int → Bool} {S : List Nat} (h : PairMap w b s) (ho : Only S w w') (hb : b ∉ S) : PairMap w' b s := by obtain ⟨n, h⟩ := h; exact ⟨n, h.only ho hb⟩
theorem PairMap.made (w : World) : PairMap (w.alloc (.map #[] 0)) w.heap.size (fun _ _ => false) := ⟨0, (MapOf.made w _ _).congr fun x => by
  unfold pairF
  split
  · simp
  · rfl⟩

theorem PairMap.look {w : World} {b : Nat} {s : Int → Int → Bool} (h : PairMap w b s) (x y : Int) (hx : (Lit.int .i64 x).wf = true) (hy : (Lit.int .i64 y).wf = true) :
    (Instr.lookup 250 (.map (some b)) (.agg #[.int .i64 x, .int .i64 y]) false).run Tryz.prog w = .ok (.bool (s x y)) w := by
  obtain ⟨n, h⟩ := h
  obtain ⟨l, hl⟩ := keyOf_pair x y hx hy
  have := h.look false key_pair Tryz.underlying250 (zero_bool w) hl
  rw [this]
  have e : (pairF s (.agg #[.int .i64 x, .int .i64 y])).getD (.bool false) = .bool (s x y) := by
    unfold pairF
    cases hs : s x y <;> simp [hs]
  rw [e]
  rfl

theorem PairMap.put {w : World} {b : Nat} {s : Int → Int → Bool} (h : PairMap w b s) (x y : Int) (hx : (Lit.int .i64 x).wf = true) (hy : (Lit.int .i64 y).wf = true) :
    ∃ w', (Instr.mapUpdate 250 (.map (some b)) (.agg #[.int .i64 x, .int .i64 y]) (.bool true)).run Tryz.prog w = .ok () w' ∧ PairMap w' b (upP s x y) ∧ Only [b] w w' := by
  obtain ⟨n, h⟩ := h
  obtain ⟨l, hl⟩ := keyOf_pair x y hx hy
  obtain ⟨w', h1, h2, h3⟩ := h.put key_pair Tryz.underlying250 hl (.bool true)
  refine ⟨w', h1, ⟨_, h2.congr fun v => ?_⟩, h3⟩
  unfold updV?
  by_cases e : v = .agg #[.int .i64 x, .int .i64 y]
  · subst e
    rw [if_pos rfl]
    simp [pairF, upP]
  · rw [if_neg e]
    unfold pairF
    split
    · rename_i a c
      have hac : ¬ (x = a ∧ y = c) := fun h => e (by rw [h.1, h.2])
      have : upP s x y a c = s a c := by
        unfold upP
        by_cases h1 : x = a
        · by_cases h2 : y = c
          · exact absurd ⟨h1, h2⟩ hac
          · simp [h2]
        · simp [h1]
      rw [this]
    · rfl

end Go.Proofs.YtocpmncedlenbaaGreatDoor

namespace Go.Proofs.YtocpmncedlenbaaGreatDoor
open Go.RowKit Go.Deep Go.ChangeShapes Go.WideShapes

def bitWf (b : Bt) : Prop := (Lit.int .i64 b.step).wf = true ∧ (Lit.int .i64 b.hand).wf = true ∧ (Lit.int .i64 b.task).wf = true

theorem wf_small {n : Int} (h0 : 0 ≤ n) (h1 : n ≤ 1000000) : (Lit.int .i64 n).wf = true := by
  simp [Lit.wf, IntKind.min, IntKind.max, IntKind.signed, IntKind.bits]
  omega

/-- The value v is a slice that came in, with the bits bs. -/
def InBits (w : World) (v : Value) (bs : List Bt) : Prop := (∀ b ∈ bs, bitWf b) ∧ BitsAt w v bs ∧ bs.length ≤ maxLen

theorem flatB_eq (bs : List Bt) : flatB bs = flatV (fun i j => (bitCells (bitAt bs i))[j]?.getD undef) bs.length 3 := by
  apply List.ext_getElem?
  intro m
  by_cases hm : m < bs.length * 3
  · have e : m = m / 3 * 3 + m % 3 := by omega
    have h1 : m / 3 < bs.length := by omega
    rw [e, flatB_get _ _ _ h1 (by omega), flatV_get _ _ _ _ _ h1 (by omega)]
    have : m % 3 = 0 ∨ m % 3 = 1 ∨ m % 3 = 2 := by omega
    rcases this with h | h | h <;> rw [h] <;> rfl
  · rw [List.getElem?_eq_none (by rw [flatB_len]; omega), List.getElem?_eq_none (by rw [flatV_len]; omega)]

set_option maxRecDepth 100000 in
theorem open_bits {H : Type} {enc : TypeId × Value → H} {W : World} {base : Nat} {v : Value} {d : DataW H} {p : List MemPlace}
    (hv : Value.okWide Tryz.prog W .any base 29 v) (h : DataW.Trod enc Tryz.prog W 0 (fun _ => true) true 29 v d p) : ∃ l, InBits W v l := by
  obtain ⟨n, V, hR, hV⟩ := open_recs (k := 3) Tryz.underlying29 Tryz.underlying203 rfl (by omega) (by kernel_rfl) (fields_ok (by kernel_rfl)) hv h
  have key : ∀ i, i < n → ∃ b : Bt, (V i 0 = .int .i64 b.step ∧ V i 1 = .int .i64 b.hand ∧ V i 2 = .int .i64 b.task) ∧ bitWf b := by
    intro i hi
    obtain ⟨_, x0, h0⟩ := hV i hi 0 _ rfl
    obtain ⟨_, x1, h1⟩ := hV i hi 1 _ rfl
    obtain ⟨_, x2, h2⟩ := hV i hi 2 _ rfl
    obtain ⟨a, e0, _, wa⟩ := DataW.trod_int Tryz.underlying3 h0
    obtain ⟨b, e1, _, wb⟩ := DataW.trod_int Tryz.underlying3 h1
    obtain ⟨c, e2, _, wc⟩ := DataW.trod_int Tryz.underlying3 h2
    simp at e0 e1 e2
    exact ⟨⟨a, b, c⟩, ⟨e0, e1, e2⟩, wa, wb, wc⟩
  haveI : Inhabited Bt := ⟨⟨0, 0, 0⟩⟩
  obtain ⟨q, hq⟩ := choose_lt key
  have hl : ((List.range n).map q).length = n := by simp
  have hat : ∀ i, i < n → bitAt ((List.range n).map q) i = q i := fun i hi => by simp [bitAt, hi]
  have hmax : n ≤ maxLen := by obtain ⟨a, cap, _, h1, h2, _⟩ := hR; omega
  refine ⟨(List.range n).map q, ?_, ?_, by rw [hl]; exact hmax⟩
  · intro j hj
    obtain ⟨i, hi, rfl⟩ := List.mem_map.1 hj
    exact (hq i (List.mem_range.1 hi)).2
  · unfold BitsAt
    rw [flatB_eq, hl]
    have hR2 := hR.congr (V' := fun i j => (bitCells (bitAt ((List.range n).map q) i))[j]?.getD undef) (fun i j hi hj => by
      rw [hat i hi]
      obtain ⟨⟨e0, e1, e2⟩, _⟩ := hq i hi
      have : j = 0 ∨ j = 1 ∨ j = 2 := by omega
      rcases this with rfl | rfl | rfl
      · exact e0
      · exact e1
      · exact e2)
    refine hR2.row (by omega) fun i j hi hj => ?_
    have : j = 0 ∨ j = 1 ∨ j = 2 := by omega
    rcases this with rfl | rfl | rfl <;> rfl

theorem InBits.same {w w' : World} {v : Value} {bs : List Bt} (h : InBits w v bs) (ho : Only [] w w') : InBits w' v bs := ⟨h.1, h.2.1.same ho, h.2.2⟩

end Go.Proofs.YtocpmncedlenbaaGreatDoor
