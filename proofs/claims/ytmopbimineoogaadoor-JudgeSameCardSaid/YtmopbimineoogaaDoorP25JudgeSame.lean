/-
  Contracts of judge.Ends and judge.Bits.
-/
import Derived.Test.YtmopbimineoogaaDoorP24JudgeSame
namespace Go.Proofs.YtmopbimineoogaaDoor
open Go.RowKit Go.Deep

/-- What is wrong with bits of a plan. -/
noncomputable def bitsErrH (p : PlanL) (hands : Int) (bs : List Bt) : Int := if hErr p hands ≠ 0 then hErr p hands else bitsErr p hands bs

theorem bitsErrH_ends {p : PlanL} {hands : Int} {bs : List Bt} (h : endsErr p hands bs ≠ 0) : bitsErrH p hands bs = endsErr p hands bs := by
  unfold endsErr bitsErrH bitsErr at *
  by_cases h1 : hErr p hands = 0
  · simp only [h1, ne_eq, not_true_eq_false, if_false] at h ⊢
    by_cases h2 : scanK p hands bs bs.length = 0
    · simp only [h2, not_true_eq_false, if_false] at h ⊢
      by_cases h3 : lackB p bs = true
      · simp only [h3, if_true]
      · rw [if_neg h3] at h; exact absurd rfl h
    · simp [h2]
  · simp [h1]
theorem endsErr_all {p : PlanL} {hands : Int} {bs : List Bt} (h : endsErr p hands bs = 0) : hErr p hands = 0 ∧ scanK p hands bs bs.length = 0 ∧ lackB p bs = false := by
  unfold endsErr at h
  by_cases h1 : hErr p hands = 0
  · rw [if_neg (by simp [h1])] at h
    by_cases h2 : scanK p hands bs bs.length = 0
    · rw [if_neg (by simp [h2])] at h
      by_cases h3 : lackB p bs = true
      · rw [if_pos h3] at h; cases h
      · exact ⟨h1, h2, by simpa using h3⟩
    · rw [if_pos h2] at h; exact absurd h h2
  · rw [if_pos h1] at h; exact absurd h h1
theorem bitsErrH_early {p : PlanL} {hands : Int} {bs : List Bt} (h : endsErr p hands bs = 0) : bitsErrH p hands bs = if earlyB p bs = true then 6 else 0 := by
  obtain ⟨h1, h2, h3⟩ := endsErr_all h
  unfold bitsErrH bitsErr
  rw [if_neg (by simp [h1]), if_neg (by simp [h2]), if_neg (by simp [h3])]

def BitsV (F : Int) (n : Nat) (bs : List Bt) (w w' : World) (v : Value) : Prop :=
  (F ≠ 0 ∧ v = .slice none 0 0) ∨ (F = 0 ∧ ∃ B, v = .slice (some ⟨B, 0, none⟩) n n ∧ w.heap.size ≤ B ∧ Nums w' B n (fun t => lastF bs (t : Int)))

set_option maxRecDepth 100000 in
set_option maxHeartbeats 4000000 in
theorem judge_Ends (v l : Value) (p : PlanL) (hands : Int) (bs : List Bt) (w : World) (h : InPlan w v p) (hb : InBits w l bs) :
    Calls Tryd.prog 10 #[v, .int .i64 hands, l] w fun e w' =>
      ∃ v', e = .returned (.tuple #[v', errV (bitsErrH p hands bs)]) ∧ BitsV (bitsErrH p hands bs) p.length bs w w' v' ∧ Only [] w w' := by
  have hr := judge_ends v l p hands bs w h hb
  have HP := Lib.hid h
  obtain ⟨pa, cap, rfl, hc1, hc2, _⟩ := h.task
  obtain ⟨n, hn⟩ : ∃ n, p.length = n := ⟨_, rfl⟩
  have HL := Lib.hid hn
  rw [hn] at hc1 HP hr ⊢
  obtain ⟨F, hF⟩ : ∃ F, bitsErrH p hands bs = F := ⟨_, rfl⟩
  have HF := Lib.hid hF
  rw [hF]
  clear h hb hn hF hc2
  by_cases h0 : endsErr p hands bs = 0
  · have hall := endsErr_all h0
    have hfe := bitsErrH_early h0
    have hok := (hErr_zero hall.1).1
    have hei := earlyB_iff hall.2.1 hall.2.2 (fun i hi => (hok.work i hi).1)
    rw [HF.out] at hfe
    have HFE := Lib.hid hfe
    have HEI := Lib.hid hei
    have HO := Lib.hid hok
    have h30 : n ≤ 30 := by have := hok.len; rw [HL.out] at this; exact this
    have hbd : Hid (∀ t : Int, 0 ≤ lastF bs t ∧ lastF bs t ≤ 10000 ∧ 0 ≤ firstF bs t ∧ firstF bs t ≤ 10000) := by
      show ∀ t : Int, _
      intro t
      have hs := scanK_ok hall.2.1 (Nat.le_refl _)
      rw [List.take_length] at hs
      have h1 := firstF_bd (bs := bs) (t := t) (B := 10000) (by omega) (fun b hb _ => ⟨(hs b hb).1, (hs b hb).2.1⟩)
      exact ⟨lastF_ge0 _ _, lastF_le (by omega) (fun b hb _ => (hs b hb).2.1), h1.1, h1.2⟩
    rw [h0, errV_zero] at hr
    clear h0 hall hfe hei hok
    go_enter Tryd.func10, Tryd.ntmps10
    go_wp2_with fail
    refine hr.mono ?_
    rintro e w1 ⟨v1, v2, rfl, hV, ho1⟩
    clear hr
    rcases hV with ⟨hx, _⟩ | ⟨_, A, B, rfl, rfl, hA, hB, nA, nB⟩
    · exact absurd rfl hx
    go_wp2_with fail
    go_loopw [28] (fun vi wr => ∃ i : Nat, i ≤ n ∧ vi = .int .i64 i ∧ (∀ j, j < i → ∀ k ∈ ndOf p j, lastF bs k < firstF bs (j : Int)) ∧ Only [] w1 wr) (fun vi _ => n - (intOf vi).toNat)
    case atStart => exact ⟨0, Nat.zero_le _, rfl, fun j hj => by omega, Only.refl _ _⟩
    case round =>
      obtain ⟨wo, rfl⟩ : ∃ wo : World, wo = wr := ⟨_, rfl⟩
      obtain ⟨i, hi, rfl, hno, hoo⟩ := hrel
      have HNO := Lib.hid hno
      clear hno
      have ho := ho1.trans hoo (by simp)
      by_cases hin : i < n
      · have hil : i < p.length := by rw [HL.out]; exact hin
        obtain ⟨b, off, rfl⟩ := HP.out.any i hil
        obtain ⟨ua, uc, c0, c1, hrd⟩ := (HP.out.same ho).at i hil
        have hnl : (ndOf p i).length ≤ 30 := by have := HO.out.needs i; rw [HL.out] at this; omega
        obtain ⟨ra, rc, er, hrc⟩ := hrd.opt
        injection er with er1 _ er2
        subst er1
        have HMEM := Lib.hid (fun q (hq : q < (ndOf p i).length) => (by rw [nth, List.getElem?_eq_getElem hq]; exact List.getElem_mem hq : nth (ndOf p i) q ∈ ndOf p i))
        have HRC := Lib.hid hrc
        obtain ⟨m, hm⟩ : ∃ m, (ndOf p i).length = m := ⟨_, rfl⟩
        rw [hm] at c1 hnl HMEM HRC
        have HM := Lib.hid hm
        obtain ⟨x, hx⟩ : ∃ x, wkOf p i = x := ⟨_, rfl⟩
        rw [hx] at c0
        have hal := (Only.refl [] wo).alloc (.cells #[.int .i64 x, .slice ua m uc] 41)
        have hoa := Lib.hid (hoo.trans hal (by simp))
        have HAL := Lib.hid hal
        clear hrc hrd er2 hm hx hal
        go_wp2_with fail
        go_loopw [36] (fun vq wr => ∃ q : Nat, q ≤ m ∧ vq = .int .i64 q ∧ (∀ t, t < q → lastF bs (nth (ndOf p i) t) < firstF bs (i : Int)) ∧ Only [] w1 wr ∧ Only [] wo wr) (fun vq _ => m - (intOf vq).toNat)
        case atStart => exact ⟨0, Nat.zero_le _, rfl, fun t ht => by omega, hoa.out, HAL.out⟩
        case round =>
          obtain ⟨wi, rfl⟩ : ∃ wi : World, wi = wr := ⟨_, rfl⟩
          obtain ⟨q, hq, rfl, hnq, hoi, hoj⟩ := hrel
          have HNQ := Lib.hid hnq
          clear hnq
          by_cases hqm : q < m
          · obtain ⟨rb, ro, rfl, crq⟩ := HRC.out q hqm
            have hmem := HMEM.out q hqm
            have hb := HO.out.need i _ hmem
            have HEY := Lib.hid (fun (hle : firstF bs (i : Int) ≤ lastF bs (nth (ndOf p i) q)) => HEI.out.2 ⟨i, hil, _, hmem, hle⟩)
            obtain ⟨y, hy⟩ : ∃ y, nth (ndOf p i) q = y := ⟨_, rfl⟩
            have HY := Lib.hid hy
            rw [hy] at crq hb HEY
            obtain ⟨yn, rfl⟩ := Int.eq_ofNat_of_zero_le hb.1
            have hyn : yn < n := by have := HL.out; omega
            have crq2 := (hoj.cell (p := ⟨rb, ro + q, none⟩) (cell_lt crq) (by simp)).trans crq
            have HOJ := Lib.hid hoj
            have cA := ((nA.only hoi (by simp)) i hin).1
            have cB := ((nB.only hoi (by simp)) yn hyn).1
            have hb1 := hbd.out (i : Int)
            have hb2 := hbd.out (yn : Int)
            obtain ⟨fi, hfi⟩ : ∃ fi, firstF bs (i : Int) = fi := ⟨_, rfl⟩
            obtain ⟨ly, hly⟩ : ∃ ly, lastF bs (yn : Int) = ly := ⟨_, rfl⟩
            have HFI := Lib.hid hfi
            have HLY := Lib.hid hly
            rw [hfi] at cA hb1 HEY
            rw [hly] at cB hb2 HEY
            have HOI := Lib.hid hoi
            have HQ := Lib.hid hqm
            clear crq hmem hb hy hfi hly hoi hoj c0 c1
            by_cases hle : fi ≤ ly
            · have hf6 : Hid (F = 6) := by show _ = _; rw [HFE.out, if_pos (HEY.out hle)]
              go_wp2_with fail
              go_quiet (fail)
              go_wp2
              go_ret2
              exact ⟨_, by rw [hf6.out]; rfl, .inl ⟨by rw [hf6.out]; decide, rfl⟩, (ho1.trans HOI.out (by simp)).drewN _⟩
            · go_wp2_with fail
              go_quiet (fail)
              go_wp2
              go_roundw
              case rel =>
                refine ⟨q + 1, by omega, by go_num, fun t ht => ?_, HOI.out.drewN _, HOJ.out.drewN _⟩
                by_cases e : t = q
                · subst e; rw [HY.out, HFI.out, HLY.out]; omega
                · exact HNQ.out t (by omega)
              case measure => (simp [intOf]; try omega)
          · obtain rfl : q = m := by omega
            have hno2 : Hid (∀ j, j < i + 1 → ∀ k ∈ ndOf p j, lastF bs k < firstF bs (j : Int)) := by
              show ∀ j, _
              intro j hj k hk
              by_cases e : j = i
              · subst e
                obtain ⟨t, ht, rfl⟩ := List.getElem_of_mem hk
                have := HNQ.out t (by rw [← HM.out]; exact ht)
                rw [show nth (ndOf p j) t = (ndOf p j)[t] by simp [nth, ht]] at this
                exact this
              · exact HNO.out j (by omega) k hk
            go_wp2
            go_roundw
            case rel => exact ⟨i + 1, by omega, by go_num, hno2.out, hoi⟩
            case measure => (simp [intOf]; try omega)
      · obtain rfl : i = n := by omega
        have hf0 : Hid (F = 0) := by
          show _ = _
          rw [HFE.out, if_neg]
          intro he
          obtain ⟨j, hj, k, hk, hle⟩ := HEI.out.1 he
          have := HNO.out j (by rw [← HL.out]; exact hj) k hk; omega
        have hnB := Lib.hid (nB.only hoo (by simp))
        clear nA nB
        go_wp2
        go_ret2
        exact ⟨_, by rw [hf0.out]; rfl, .inr ⟨hf0.out, B, rfl, hB, hnB.out⟩, ho⟩
  · have hfe := bitsErrH_ends h0
    rw [HF.out] at hfe
    rw [errV_ne h0] at hr
    obtain ⟨E, hE⟩ : ∃ E, endsErr p hands bs = E := ⟨_, rfl⟩
    rw [hE] at h0 hr hfe
    subst hfe
    have H0 := Lib.hid h0
    clear h0 hE
    go_enter Tryd.func10, Tryd.ntmps10
    go_wp2_with fail
    refine hr.mono ?_
    rintro e w1 ⟨v1, v2, rfl, hV, ho1⟩
    clear hr
    rcases hV with ⟨_, rfl, rfl⟩ | ⟨hx, _⟩
    · go_wp2
      go_ret2
      exact ⟨_, by rw [errV_ne H0.out]; rfl, .inl ⟨H0.out, rfl⟩, ho1⟩
    · exact absurd hx H0.out

set_option maxRecDepth 100000 in
theorem judge_Bits (v l : Value) (p : PlanL) (hands : Int) (bs : List Bt) (w : World) (h : InPlan w v p) (hb : InBits w l bs) :
    Calls Tryd.prog 9 #[v, .int .i64 hands, l] w fun e w' => e = .returned (errV (bitsErrH p hands bs)) ∧ Only [] w w' := by
  have hr := judge_Ends v l p hands bs w h hb
  obtain ⟨F, hF⟩ : ∃ F, bitsErrH p hands bs = F := ⟨_, rfl⟩
  rw [hF] at hr ⊢
  obtain ⟨ev, hev⟩ : ∃ ev, errV F = ev := ⟨_, rfl⟩
  rw [hev] at hr ⊢
  clear h hb hF hev
  go_enter Tryd.func9, Tryd.ntmps9
  go_wp2_with fail
  refine hr.mono ?_
  rintro e w1 ⟨v1, rfl, _, ho1⟩
  clear hr
  go_wp2
  go_ret
  exact ⟨rfl, ho1⟩

end Go.Proofs.YtmopbimineoogaaDoor
