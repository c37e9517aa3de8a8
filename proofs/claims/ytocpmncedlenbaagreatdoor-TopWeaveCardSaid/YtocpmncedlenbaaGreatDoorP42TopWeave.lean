/-
  Contracts of judge.Ends and judge.Bits.
  The greedy way's bits may be so, in plain words. No program is named here.
-/
import Derived.Test.YtocpmncedlenbaaGreatDoorP41TopWeave
import Derived.Test.YtocpmncedlenbaaGreatDoorP32TopWeave
import Derived.Test.YtocpmncedlenbaaGreatDoorP33TopWeave
namespace Go.Proofs.YtocpmncedlenbaaGreatDoor
open Go.RowKit Go.Deep

/-- What is wrong with bits of a plan. -/
noncomputable def bitsErrH (p : PlanL) (hands : Int) (bs : List Bt) : Int := if hErr p hands ≠ 0 then hErr p hands else bitsErr p hands bs

theorem bitsErrH_ends {p : PlanL} {hands : Int} {bs : List Bt} (h : endsErr p hands bs ≠ 0) : bitsErrH p hands bs = endsErr p hands bs := by
  unfold endsErr bitsErrH bitsErr at *
  by_cases h1 : hErr p hands = 0
  · simp only [h1, ne_eq, not_true_eq_false, if_false] at h ⊢
    by_cases h2 : scanK p hands bs bs.length = 0
    · simp only [h2, not_true_eq_false, if_false] at h ⊢
      by_cases h3 : lackB p bs = true
      · simp only [h3, if_true]
      · rw [if_neg h3] at h; exact absurd rfl h
    · simp [h2]
  · simp [h1]
theorem endsErr_all {p : PlanL} {hands : Int} {bs : List Bt} (h : endsErr p hands bs = 0) : hErr p hands = 0 ∧ scanK p hands bs bs.length = 0 ∧ lackB p bs = false := by
  unfold endsErr at h
  by_cases h1 : hErr p hands = 0
  · rw [if_neg (by simp [h1])] at h
    by_cases h2 : scanK p hands bs bs.length = 0
    · rw [if_neg (by simp [h2])] at h
      by_cases h3 : lackB p bs = true
      · rw [if_pos h3] at h; cases h
      · exact ⟨h1, h2, by simpa using h3⟩
    · rw [if_pos h2] at h; exact absurd h h2
  · rw [if_pos h1] at h; exact absurd h h1
theorem bitsErrH_early {p : PlanL} {hands : Int} {bs : List Bt} (h : endsErr p hands bs = 0) : bitsErrH p hands bs = if earlyB p bs = true then 6 else 0 := by
  obtain ⟨h1, h2, h3⟩ := endsErr_all h
  unfold bitsErrH bitsErr
  rw [if_neg (by simp [h1]), if_neg (by simp [h2]), if_neg (by simp [h3])]

def BitsV (F : Int) (n : Nat) (bs : List Bt) (w w' : World) (v : Value) : Prop :=
  (F ≠ 0 ∧ v = .slice none 0 0) ∨ (F = 0 ∧ ∃ B, v = .slice (some ⟨B, 0, none⟩) n n ∧ w.heap.size ≤ B ∧ Nums w' B n (fun t => lastF bs (t : Int)))

set_option maxRecDepth 100000 in
set_option maxHeartbeats 4000000 in
theorem judge_Ends (v l : Value) (p : PlanL) (hands : Int) (bs : List Bt) (w : World) (h : InPlan w v p) (hb : InBits w l bs) :
    Calls Tryz.prog 63 #[v, .int .i64 hands, l] w fun e w' =>
      ∃ v', e = .returned (.tuple #[v', errV (bitsErrH p hands bs)]) ∧ BitsV (bitsErrH p hands bs) p.length bs w w' v' ∧ Only [] w w' := by
  have hr := judge_ends v l p hands bs w h hb
  have HP := Lib.hid h
  obtain ⟨pa, cap, rfl, hc1, hc2, _⟩ := h.task
  obtain ⟨n, hn⟩ : ∃ n, p.length = n := ⟨_, rfl⟩
  have HL := Lib.hid hn
  rw [hn] at hc1 HP hr ⊢
  obtain ⟨F, hF⟩ : ∃ F, bitsErrH p hands bs = F := ⟨_, rfl⟩
  have HF := Lib.hid hF
  rw [hF]
  clear h hb hn hF hc2
  by_cases h0 : endsErr p hands bs = 0
  · have hall := endsErr_all h0
    have hfe := bitsErrH_early h0
    have hok := (hErr_zero hall.1).1
    have hei := earlyB_iff hall.2.1 hall.2.2 (fun i hi => (hok.work i hi).1)
    rw [HF.out] at hfe
    have HFE := Lib.hid hfe
    have HEI := Lib.hid hei
    have HO := Lib.hid hok
    have h30 : n ≤ 30 := by have := hok.len; rw [HL.out] at this; exact this
    have hbd : Hid (∀ t : Int, 0 ≤ lastF bs t ∧ lastF bs t ≤ 10000 ∧ 0 ≤ firstF bs t ∧ firstF bs t ≤ 10000) := by
      show ∀ t : Int, _
      intro t
      have hs := scanK_ok hall.2.1 (Nat.le_refl _)
      rw [List.take_length] at hs
      have h1 := firstF_bd (bs := bs) (t := t) (B := 10000) (by omega) (fun b hb _ => ⟨(hs b hb).1, (hs b hb).2.1⟩)
      exact ⟨lastF_ge0 _ _, lastF_le (by omega) (fun b hb _ => (hs b hb).2.1), h1.1, h1.2⟩
    rw [h0, errV_zero] at hr
    clear h0 hall hfe hei hok
    go_enter Tryz.func63, Tryz.ntmps63
    go_wp2_with fail
    refine hr.mono ?_
    rintro e w1 ⟨v1, v2, rfl, hV, ho1⟩
    clear hr
    rcases hV with ⟨hx, _⟩ | ⟨_, A, B, rfl, rfl, hA, hB, nA, nB⟩
    · exact absurd rfl hx
    go_wp2_with fail
    go_loopw [28] (fun vi wr => ∃ i : Nat, i ≤ n ∧ vi = .int .i64 i ∧ (∀ j, j < i → ∀ k ∈ ndOf p j, lastF bs k < firstF bs (j : Int)) ∧ Only [] w1 wr) (fun vi _ => n - (intOf vi).toNat)
    case atStart => exact ⟨0, Nat.zero_le _, rfl, fun j hj => by omega, Only.refl _ _⟩
    case round =>
      obtain ⟨wo, rfl⟩ : ∃ wo : World, wo = wr := ⟨_, rfl⟩
      obtain ⟨i, hi, rfl, hno, hoo⟩ := hrel
      have HNO := Lib.hid hno
      clear hno
      have ho := ho1.trans hoo (by simp)
      by_cases hin : i < n
      · have hil : i < p.length := by rw [HL.out]; exact hin
        obtain ⟨b, off, rfl⟩ := HP.out.any i hil
        obtain ⟨ua, uc, c0, c1, hrd⟩ := (HP.out.same ho).at i hil
        have hnl : (ndOf p i).length ≤ 30 := by have := HO.out.needs i; rw [HL.out] at this; omega
        obtain ⟨ra, rc, er, hrc⟩ := hrd.opt
        injection er with er1 _ er2
        subst er1
        have HMEM := Lib.hid (fun q (hq : q < (ndOf p i).length) => (by rw [nth, List.getElem?_eq_getElem hq]; exact List.getElem_mem hq : nth (ndOf p i) q ∈ ndOf p i))
        have HRC := Lib.hid hrc
        obtain ⟨m, hm⟩ : ∃ m, (ndOf p i).length = m := ⟨_, rfl⟩
        rw [hm] at c1 hnl HMEM HRC
        have HM := Lib.hid hm
        obtain ⟨x, hx⟩ : ∃ x, wkOf p i = x := ⟨_, rfl⟩
        rw [hx] at c0
        have hal := (Only.refl [] wo).alloc (.cells #[.int .i64 x, .slice ua m uc] 97)
        have hoa := Lib.hid (hoo.trans hal (by simp))
        have HAL := Lib.hid hal
        clear hrc hrd er2 hm hx hal
        go_wp2_with fail
        go_loopw [36] (fun vq wr => ∃ q : Nat, q ≤ m ∧ vq = .int .i64 q ∧ (∀ t, t < q → lastF bs (nth (ndOf p i) t) < firstF bs (i : Int)) ∧ Only [] w1 wr ∧ Only [] wo wr) (fun vq _ => m - (intOf vq).toNat)
        case atStart => exact ⟨0, Nat.zero_le _, rfl, fun t ht => by omega, hoa.out, HAL.out⟩
        case round =>
          obtain ⟨wi, rfl⟩ : ∃ wi : World, wi = wr := ⟨_, rfl⟩
          obtain ⟨q, hq, rfl, hnq, hoi, hoj⟩ := hrel
          have HNQ := Lib.hid hnq
          clear hnq
          by_cases hqm : q < m
          · obtain ⟨rb, ro, rfl, crq⟩ := HRC.out q hqm
            have hmem := HMEM.out q hqm
            have hb := HO.out.need i _ hmem
            have HEY := Lib.hid (fun (hle : firstF bs (i : Int) ≤ lastF bs (nth (ndOf p i) q)) => HEI.out.2 ⟨i, hil, _, hmem, hle⟩)
            obtain ⟨y, hy⟩ : ∃ y, nth (ndOf p i) q = y := ⟨_, rfl⟩
            have HY := Lib.hid hy
            rw [hy] at crq hb HEY
            obtain ⟨yn, rfl⟩ := Int.eq_ofNat_of_zero_le hb.1
            have hyn : yn < n := by have := HL.out; omega
            have crq2 := (hoj.cell (p := ⟨rb, ro + q, none⟩) (cell_lt crq) (by simp)).trans crq
            have HOJ := Lib.hid hoj
            have cA := ((nA.only hoi (by simp)) i hin).1
            have cB := ((nB.only hoi (by simp)) yn hyn).1
            have hb1 := hbd.out (i : Int)
            have hb2 := hbd.out (yn : Int)
            obtain ⟨fi, hfi⟩ : ∃ fi, firstF bs (i : Int) = fi := ⟨_, rfl⟩
            obtain ⟨ly, hly⟩ : ∃ ly, lastF bs (yn : Int) = ly := ⟨_, rfl⟩
            have HFI := Lib.hid hfi
            have HLY := Lib.hid hly
            rw [hfi] at cA hb1 HEY
            rw [hly] at cB hb2 HEY
            have HOI := Lib.hid hoi
            have HQ := Lib.hid hqm
            clear crq hmem hb hy hfi hly hoi hoj c0 c1
            by_cases hle : fi ≤ ly
            · have hf6 : Hid (F = 6) := by show _ = _; rw [HFE.out, if_pos (HEY.out hle)]
              go_wp2_with fail
              go_quiet (fail)
              go_wp2
              go_ret2
              exact ⟨_, by rw [hf6.out]; rfl, .inl ⟨by rw [hf6.out]; decide, rfl⟩, (ho1.trans HOI.out (by simp)).drewN _⟩
            · go_wp2_with fail
              go_quiet (fail)
              go_wp2
              go_roundw
              case rel =>
                refine ⟨q + 1, by omega, by go_num, fun t ht => ?_, HOI.out.drewN _, HOJ.out.drewN _⟩
                by_cases e : t = q
                · subst e; rw [HY.out, HFI.out, HLY.out]; omega
                · exact HNQ.out t (by omega)
              case measure => (simp [intOf]; try omega)
          · obtain rfl : q = m := by omega
            have hno2 : Hid (∀ j, j < i + 1 → ∀ k ∈ ndOf p j, lastF bs k < firstF bs (j : Int)) := by
              show ∀ j, _
              intro j hj k hk
              by_cases e : j = i
              · subst e
                obtain ⟨t, ht, rfl⟩ := List.getElem_of_mem hk
                have := HNQ.out t (by rw [← HM.out]; exact ht)
                rw [show nth (ndOf p j) t = (ndOf p j)[t] by simp [nth, ht]] at this
                exact this
              · exact HNO.out j (by omega) k hk
            go_wp2
            go_roundw
            case rel => exact ⟨i + 1, by omega, by go_num, hno2.out, hoi⟩
            case measure => (simp [intOf]; try omega)
      · obtain rfl : i = n := by omega
        have hf0 : Hid (F = 0) := by
          show _ = _
          rw [HFE.out, if_neg]
          intro he
          obtain ⟨j, hj, k, hk, hle⟩ := HEI.out.1 he
          have := HNO.out j (by rw [← HL.out]; exact hj) k hk; omega
        have hnB := Lib.hid (nB.only hoo (by simp))
        clear nA nB
        go_wp2
        go_ret2
        exact ⟨_, by rw [hf0.out]; rfl, .inr ⟨hf0.out, B, rfl, hB, hnB.out⟩, ho⟩
  · have hfe := bitsErrH_ends h0
    rw [HF.out] at hfe
    rw [errV_ne h0] at hr
    obtain ⟨E, hE⟩ : ∃ E, endsErr p hands bs = E := ⟨_, rfl⟩
    rw [hE] at h0 hr hfe
    subst hfe
    have H0 := Lib.hid h0
    clear h0 hE
    go_enter Tryz.func63, Tryz.ntmps63
    go_wp2_with fail
    refine hr.mono ?_
    rintro e w1 ⟨v1, v2, rfl, hV, ho1⟩
    clear hr
    rcases hV with ⟨_, rfl, rfl⟩ | ⟨hx, _⟩
    · go_wp2
      go_ret2
      exact ⟨_, by rw [errV_ne H0.out]; rfl, .inl ⟨H0.out, rfl⟩, ho1⟩
    · exact absurd hx H0.out

set_option maxRecDepth 100000 in
theorem judge_Bits (v l : Value) (p : PlanL) (hands : Int) (bs : List Bt) (w : World) (h : InPlan w v p) (hb : InBits w l bs) :
    Calls Tryz.prog 14 #[v, .int .i64 hands, l] w fun e w' => e = .returned (errV (bitsErrH p hands bs)) ∧ Only [] w w' := by
  have hr := judge_Ends v l p hands bs w h hb
  obtain ⟨F, hF⟩ : ∃ F, bitsErrH p hands bs = F := ⟨_, rfl⟩
  rw [hF] at hr ⊢
  obtain ⟨ev, hev⟩ : ∃ ev, errV F = ev := ⟨_, rfl⟩
  rw [hev] at hr ⊢
  clear h hb hF hev
  go_enter Tryz.func14, Tryz.ntmps14
  go_wp2_with fail
  refine hr.mono ?_
  rintro e w1 ⟨v1, rfl, _, ho1⟩
  clear hr
  go_wp2
  go_ret
  exact ⟨rfl, ho1⟩

end Go.Proofs.YtocpmncedlenbaaGreatDoor

namespace Go.Proofs.YtocpmncedlenbaaGreatDoor

theorem scan_push {p : PlanL} {hands : Int} {bs : List Bt} {b : Bt} (h : scanK p hands bs bs.length = 0) (hb : bitFault p hands bs b = 0) :
    scanK p hands (bs ++ [b]) (bs ++ [b]).length = 0 := by
  unfold scanK at *
  rw [firstE_all] at h ⊢
  intro k hk
  rw [List.length_append, List.length_singleton] at hk
  by_cases e : k = bs.length
  · subst e
    rw [List.take_left']
    · have : bitAt (bs ++ [b]) bs.length = b := by simp [bitAt]
      rw [this]; exact hb
    · rfl
  · have h1 := h k (by omega)
    rw [List.take_append_of_le_length (by omega)]
    have : bitAt (bs ++ [b]) k = bitAt bs k := by unfold bitAt; rw [List.getElem?_append_left (by omega)]
    rw [this]; exact h1

theorem rowBits_mem {s : Nat} {row : List Nat} {b : Bt} (h : b ∈ rowBits s row) : ∃ j, ∃ hj : j < row.length, b = ⟨(s : Int), (j : Int), ((row[j] : Nat) : Int)⟩ := by
  unfold rowBits at h
  rw [List.mem_map] at h
  obtain ⟨j, hj, rfl⟩ := h
  have hj' : j < row.length := by simpa using hj
  exact ⟨j, hj', by rw [List.getElem?_eq_getElem hj']; rfl⟩

theorem gBits_mem {p : PlanL} {hands s : Nat} {b : Bt} (h : b ∈ gBits p hands s) : ∃ t j, t < s ∧ ∃ hj : j < (gAt p hands t).length, b = ⟨(t : Int), (j : Int), (((gAt p hands t)[j] : Nat) : Int)⟩ := by
  induction s with
  | zero => simp [gBits] at h
  | succ s ih =>
    rw [gBits, List.mem_append] at h
    rcases h with h | h
    · obtain ⟨t, j, ht, hj, e⟩ := ih h
      exact ⟨t, j, by omega, hj, e⟩
    · obtain ⟨j, hj, e⟩ := rowBits_mem h
      exact ⟨s, j, by omega, hj, e⟩

theorem manyOf_app (a b : List Bt) (t : Int) : manyOf (a ++ b) t = manyOf a t + manyOf b t := by unfold manyOf; rw [List.countP_append]

theorem manyOf_row (s : Nat) (row : List Nat) (hn : row.Nodup) (i : Nat) : manyOf (rowBits s row) (i : Int) = if i ∈ row then 1 else 0 := by
  induction row using snoc_cases with
  | h0 => simp [rowBits, manyOf]
  | h1 l a ih =>
    rw [List.nodup_append] at hn
    rw [rowBits_push, manyOf_push, ih hn.1]
    have ha : a ∉ l := fun hm => hn.2.2 a hm a (by simp) rfl
    by_cases e : a = i
    · subst e; simp [ha]
    · have e2 : ¬ i = a := fun h => e h.symm
      simp [e2]; omega

theorem gBits_many (p : PlanL) (hands s i : Nat) : (manyOf (gBits p hands s) (i : Int) : Int) + gLeft p hands s i = wkOf p i := by
  induction s with
  | zero => simp [gBits, manyOf, gLeft]
  | succ s ih =>
    rw [gBits, manyOf_app, manyOf_row s (gAt p hands s) (gRow_nodup _ _ _ _), gLeft_succ]
    by_cases e : i ∈ gAt p hands s
    · simp only [if_pos e]; omega
    · simp only [if_neg e]; omega

theorem bitAt_row (s : Nat) (row : List Nat) (j : Nat) (hj : j < row.length) : rowBits s (row.take (j + 1)) = rowBits s (row.take j) ++ [⟨(s : Int), (j : Int), ((row[j] : Nat) : Int)⟩] := by
  rw [List.take_succ_eq_append_getElem hj, rowBits_push, List.length_take, Nat.min_eq_left (by omega)]

theorem gBits_scan {p : PlanL} {hands s : Nat} (hs : s ≤ 10000) : scanK p hands (gBits p hands s) (gBits p hands s).length = 0 := by
  induction s with
  | zero => rfl
  | succ s ih =>
    have ih := ih (by omega)
    have hnd := gRow_nodup p hands (gLeft p hands s) p.length
    have hlen := gRow_len p hands (gLeft p hands s) p.length
    have hpre : ∀ j, j ≤ (gAt p hands s).length → scanK p hands (gBits p hands s ++ rowBits s ((gAt p hands s).take j)) (gBits p hands s ++ rowBits s ((gAt p hands s).take j)).length = 0 := by
      intro j
      induction j with
      | zero => intro _; simpa [rowBits] using ih
      | succ j ihj =>
        intro hj
        have ihj := ihj (by omega)
        rw [bitAt_row s _ j (by omega), ← List.append_assoc]
        refine scan_push ihj ?_
        have hm := gAt_mem (List.getElem_mem (show j < (gAt p hands s).length by omega))
        have hpos := gOk_pos hm.2
        have hlt := hm.1
        have hnot : (gAt p hands s)[j] ∉ (gAt p hands s).take j := by
          intro hin
          obtain ⟨q, hq, e⟩ := List.mem_iff_getElem.1 hin
          rw [List.length_take] at hq
          rw [List.getElem_take] at e
          have := (List.getElem_inj (show (gAt p hands s).Nodup from hnd)).1 e
          omega
        have hmany : manyOf (gBits p hands s ++ rowBits s ((gAt p hands s).take j)) (((gAt p hands s)[j] : Nat) : Int) = manyOf (gBits p hands s) (((gAt p hands s)[j] : Nat) : Int) := by
          rw [manyOf_app, manyOf_row s ((gAt p hands s).take j) (List.Sublist.nodup (List.take_sublist _ _) hnd), if_neg hnot]; rfl
        have hgm := gBits_many p hands s (gAt p hands s)[j]
        have hjh : j < hands := by have : (gAt p hands s).length ≤ hands := hlen; omega
        unfold bitFault
        rw [if_neg (by simp only []; omega), if_neg, if_neg]
        · rw [hmany, Int.toNat_natCast]; omega
        · unfold clashB
          rw [Bool.not_eq_true, List.any_eq_false]
          intro x hx
          rw [List.mem_append] at hx
          rcases hx with hx | hx
          · obtain ⟨t, q, ht, hq, rfl⟩ := gBits_mem hx
            have : ¬ ((t : Int) = (s : Int)) := by omega
            simp [this]
          · obtain ⟨q, hq, rfl⟩ := rowBits_mem hx
            rw [List.length_take] at hq
            have h1 : ¬ ((q : Int) = (j : Int)) := by omega
            have h2 : ((gAt p hands s).take j)[q]'(by rw [List.length_take]; exact hq) ≠ (gAt p hands s)[j] := fun e => hnot (e ▸ List.getElem_mem _)
            simp only [h1, decide_false, Bool.false_or, Bool.and_eq_true, decide_eq_true_eq, true_and]
            intro e
            exact h2 (by omega)
    have := hpre _ (Nat.le_refl _)
    rw [List.take_length] at this
    exact this

theorem gLeft_mono (p : PlanL) (hands : Nat) {s t : Nat} (h : s ≤ t) (i : Nat) : gLeft p hands t i ≤ gLeft p hands s i := by
  induction t with
  | zero => obtain rfl : s = 0 := by omega
            exact Int.le_refl _
  | succ t ih =>
    by_cases e : s = t + 1
    · subst e; exact Int.le_refl _
    · have := (gLeft_down p hands t i).1
      have := ih (by omega)
      omega

/-- The bits of the greedy way may be so. -/
theorem gBits_ok {p : PlanL} {hands s : Nat} (h : PlanOk p) (h1 : 1 ≤ hands) (he : GEnd p hands s) (hs : s ≤ 10000) : bitsErr p hands (gBits p hands s) = 0 := by
  unfold bitsErr
  rw [if_neg (by rw [gBits_scan hs]; simp), if_neg, if_neg]
  · unfold earlyB
    rw [Bool.not_eq_true, List.any_eq_false]
    intro b hb
    obtain ⟨t, j, ht, hj, rfl⟩ := gBits_mem hb
    have hm := gAt_mem (List.getElem_mem hj)
    have hnd := gOk_need hm.2
    rw [Bool.not_eq_true, List.any_eq_false]
    simp only [Int.toNat_natCast]
    intro k hk
    have hkl := hnd k hk
    have hkb := h.need _ k hk
    obtain ⟨kn, rfl⟩ := Int.eq_ofNat_of_zero_le hkb.1
    rw [Int.toNat_natCast] at hkl
    have hkp : kn < p.length := by omega
    have hwk := (h.work kn hkp).1
    have ht1 : 1 ≤ t := by
      rcases t with _ | t
      · have : gLeft p hands 0 kn = wkOf p kn := rfl
        omega
      · omega
    have hle : lastF (gBits p hands s) (kn : Int) ≤ (t : Int) - 1 := by
      refine lastF_le (by omega) fun c hc hct => ?_
      obtain ⟨u, q, hu, hq, rfl⟩ := gBits_mem hc
      have hm2 := gAt_mem (List.getElem_mem hq)
      have hp2 := gOk_pos hm2.2
      have hct : ((((gAt p hands u)[q] : Nat)) : Int) = (kn : Int) := hct
      have e : (gAt p hands u)[q] = kn := by omega
      rw [e] at hp2
      by_cases hut : t ≤ u
      · have := gLeft_mono p hands hut kn
        omega
      · show (u : Int) ≤ _; omega
    simp only [decide_eq_true_eq]
    omega
  · unfold lackB
    rw [Bool.not_eq_true, List.any_eq_false]
    intro i hi
    have hi' : i < p.length := by simpa using hi
    have := gBits_many p hands s i
    have := gEnd_zero h h1 he i hi'
    simp only [decide_eq_true_eq]
    omega

end Go.Proofs.YtocpmncedlenbaaGreatDoor
