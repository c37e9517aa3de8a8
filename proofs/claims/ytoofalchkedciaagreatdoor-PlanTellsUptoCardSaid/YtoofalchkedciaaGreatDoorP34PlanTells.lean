/-
  Contract of yardref1.Text.
-/
import Derived.Test.YtoofalchkedciaaGreatDoorP29PlanTells
import Derived.Test.YtoofalchkedciaaGreatDoorP33PlanTells
namespace Go.Proofs.YtoofalchkedciaaGreatDoor
open Go.RowKit Go.Deep

theorem textP_snoc (p : PlanL) (t : Int × List Int) : textP (p ++ [t]) = textP p ++ ((if p = [] then [] else [32]) ++ textT t) := by
  cases p with
  | nil => simp [textP]
  | cons a q => simp [textP, List.append_assoc]
theorem mk_data (s : ByteArray) : (⟨s.data.toList.toArray⟩ : ByteArray) = s := by
  cases s
  simp
theorem data_eq {s t : ByteArray} (h : s.data.toList = t.data.toList) : s = t := by
  rw [← mk_data s, h, mk_data]

set_option maxRecDepth 100000 in
set_option maxHeartbeats 4000000 in
theorem ref_Text (v : Value) (p : PlanL) (w : World) (h : InPlan w v p) (hok : PlanOk p) :
    Calls Tryz.prog 13 #[v] w fun e w' => e = .returned (.string ⟨(textP p).toArray⟩) ∧ Only [] w w' := by
  have hp30 := hok.len
  have HP := Lib.hid h
  have HOK := Lib.hid hok
  obtain ⟨a, cap, rfl, hc1, hc2, _⟩ := h.task
  obtain ⟨n, hn⟩ : ∃ n, p.length = n := ⟨_, rfl⟩
  have HN := Lib.hid hn
  rw [hn] at hp30 hc1 HP ⊢
  have HLEN : Hid (∀ i, (textP (p.take i)).length ≤ 3000) := by
    intro i
    have h1 := textP_len p HOK.out
    by_cases hi : i < p.length
    · have e : p = p.take i ++ p.drop i := (List.take_append_drop i p).symm
      have hpre : ∀ (a b : PlanL), (textP a).length ≤ (textP (a ++ b)).length := by
        intro a b
        cases a with
        | nil => simp [textP]
        | cons t a => simp [textP]
      have := hpre (p.take i) (p.drop i)
      rw [← e] at this
      omega
    · rw [List.take_of_length_le (by omega)]; exact h1
  clear h hok hn
  go_enter Tryz.func13, Tryz.ntmps13
  go_wp2_with fail
  go_loopw [3, 4, 5, 6, 7] (fun vs vi _ _ _ wr => ∃ (i : Nat) (sb : ByteArray), i ≤ n ∧ vi = .int .i64 (i : Int) ∧ vs = .string sb ∧ sb.data.toList = textP (p.take i) ∧ Only [] w wr) (fun _ vi _ _ _ _ => n - (intOf vi).toNat)
  case atStart => exact ⟨0, _, Nat.zero_le _, rfl, rfl, rfl, Only.refl _ _⟩
  case round =>
    obtain ⟨wo, rfl⟩ : ∃ wo : World, wo = wr := ⟨_, rfl⟩
    obtain ⟨i, sb, hi, rfl, rfl, hsb, ho⟩ := hrel
    have HSB := Lib.hid hsb
    have HO := Lib.hid ho
    by_cases hin : i < n
    · obtain ⟨b, off, rfl⟩ := HP.out.any i (by rw [HN.out]; exact hin)
      obtain ⟨ua, uc, c0, c1, hrd⟩ := (HP.out.same ho).at i (by rw [HN.out]; exact hin)
      have hwk := HOK.out.work i (by rw [HN.out]; exact hin)
      have hnd := HOK.out.needs i
      have hne := HOK.out.need i
      rw [HN.out] at hnd hne
      have htk : Hid (textP (p.take (i + 1)) = textP (p.take i) ++ ((if i = 0 then [] else [32]) ++ (decI (wkOf p i) ++ textN (ndOf p i)))) := by
        have h1 : i < p.length := by rw [HN.out]; exact hin
        show _ = _
        rw [List.take_succ_eq_append_getElem h1, textP_snoc]
        have h2 : p[i] = (wkOf p i, ndOf p i) := by simp [wkOf, ndOf, h1]
        have h3 : (p.take i = []) = (i = 0) := by
          rw [List.take_eq_nil_iff]
          apply propext
          constructor
          · rintro (h | h)
            · exact h
            · rw [h] at h1; simp at h1
          · intro h; exact .inl h
        rw [h2]
        simp only [h3]
        rfl
      have hsz : sb.size ≤ 3000 := by
        have h1 : sb.data.toList.length = sb.size := Array.length_toList
        have h2 := congrArg List.length hsb
        have h3 := HLEN.out i
        omega
      generalize wkOf p i = wk at *
      generalize ndOf p i = nd at *
      obtain ⟨m, hm⟩ : ∃ m, nd.length = m := ⟨_, rfl⟩
      have HM := Lib.hid hm
      rw [hm] at c1 hnd hrd
      have HRD := Lib.hid hrd
      have HNE := Lib.hid hne
      obtain ⟨wn, rfl⟩ : ∃ wn : Nat, wk = (wn : Int) := ⟨wk.toNat, by omega⟩
      have hdg := ref_Digits wn (by omega) wo
      obtain ⟨S0, hS0⟩ : ∃ S0 : ByteArray, (⟨(Lib.decDigits wn).toArray⟩ : ByteArray) = S0 := ⟨_, rfl⟩
      have HS0 : Hid (S0.data.toList = decI (wn : Int)) := by show _ = _; rw [← hS0]; rfl
      rw [hS0] at hdg
      have hz0 : S0.size ≤ 2 := by
        have h1 : S0.data.toList.length = S0.size := Array.length_toList
        have h2 := decI_len (n := (wn : Int)) (by omega) (by omega)
        rw [← h1, HS0.out]; exact h2
      have hd0 : decide (0 < (i : Int)) = decide (0 < i) := by simp
      obtain ⟨X, hX, hXz, hXd⟩ : ∃ X : ByteArray, (⟨#[32]⟩ : ByteArray) = X ∧ X.size = 1 ∧ X.data.toList = [32] := ⟨_, rfl, rfl, rfl⟩
      have HX := Lib.hid hXd
      have HXX := Lib.hid hX
      clear hrd hne ho hm hsb hS0 hX hXd hd0
      go_upto_if 15 with (fail)
      rw [HXX.out]
      go_cut [3] (fun vs wx => ∃ sc : ByteArray, vs = .string sc ∧ sc.data.toList = textP (p.take i) ++ (if i = 0 then [] else [32]) ∧ sc.size ≤ 3001 ∧ wx = wo)
      case first =>
        rcases Nat.eq_zero_or_pos i with rfl | hi1
        · rw [show (((0 : Nat)) : Int) = 0 from rfl]
          go_wp2
          go_meet
          exact ⟨sb, rfl, by rw [HSB.out]; simp, by omega, rfl⟩
        · have hb1 : ¬ 9223372036854775807 < sb.size + X.size := by omega
          go_wp2
          go_meet
          exact ⟨_, rfl, by rw [ByteArray.data_append, Array.toList_append, HSB.out, HX.out, if_neg (by omega)], by rw [ByteArray.size_append]; omega, rfl⟩
      case rest =>
      obtain ⟨sc, rfl, hsc, hscz, rfl⟩ := hcut
      have HSC := Lib.hid hsc
      have hb2 : ¬ 9223372036854775807 < sc.size + S0.size := by omega
      clear hsc
      go_wp2_with fail
      refine hdg.mono ?_
      rintro e w1 ⟨rfl, ho1⟩
      have HO1 := Lib.hid (HO.out.trans ho1 (by simp))
      have HRD1 := Lib.hid (HRD.out.same ho1)
      have c11 := (ho1.cell (cell_lt c1) (by simp)).trans c1
      clear hdg ho1 c0 c1
      obtain ⟨sd, hsd⟩ : ∃ sd, sc ++ S0 = sd := ⟨_, rfl⟩
      have HSD : Hid (sd.data.toList = textP (p.take i) ++ ((if i = 0 then [] else [32]) ++ decI (wn : Int))) := by
        show _ = _
        rw [← hsd, ByteArray.data_append, Array.toList_append, HSC.out, HS0.out, List.append_assoc]
      have hsdz : sd.size ≤ 3003 := by rw [← hsd, ByteArray.size_append]; omega
      have HSDE := Lib.hid hsd
      clear hsd
      go_upto_region 9 with (fail)
      rw [HSDE.out]
      go_wp2_with fail
      go_loopw [3, 6, 7] (fun vs vk _ wr => ∃ (k : Nat) (se : ByteArray), k ≤ m ∧ vk = .int .i64 (k : Int) ∧ vs = .string se ∧ se.data.toList = textP (p.take i) ++ ((if i = 0 then [] else [32]) ++ (decI (wn : Int) ++ textN (nd.take k))) ∧ Only [] w1 wr) (fun _ vk _ _ => m - (intOf vk).toNat)
      case atStart => exact ⟨0, sd, Nat.zero_le _, rfl, rfl, by rw [HSD.out]; simp [textN], Only.refl _ _⟩
      case round =>
        obtain ⟨wq, rfl⟩ : ∃ wq : World, wq = wr := ⟨_, rfl⟩
        obtain ⟨k, se, hk, rfl, rfl, hse, hoq⟩ := hrel
        have c1q := (hoq.cell (cell_lt c11) (by simp)).trans c11
        by_cases hkm : k < m
        · obtain ⟨kb, koff, rfl, hkc⟩ : ∃ kb koff, ua = some ⟨kb, koff, none⟩ ∧ wq.cell? ⟨kb, koff + k, none⟩ = some (.int .i64 (nth nd k)) := by
            obtain ⟨a', c', e, h⟩ := (HRD1.out.same hoq).opt
            obtain ⟨b, o, h1, h2⟩ := h k (by rw [HM.out]; exact hkm)
            injection e with e
            exact ⟨b, o, by rw [e]; exact h1, h2⟩
          have hmem : nth nd k ∈ nd := by
            have h1 : k < nd.length := by rw [HM.out]; exact hkm
            unfold nth
            simp only [List.getElem?_eq_getElem h1, Option.getD_some]
            exact List.getElem_mem h1
          have hkb := HNE.out _ hmem
          have hts : Hid (textN (nd.take (k + 1)) = textN (nd.take k) ++ ((if k = 0 then 60 else 44) :: decI (nth nd k))) := by
            have h1 : k < nd.length := by rw [HM.out]; exact hkm
            have h2 : nd.take (k + 1) = nd.take k ++ [nth nd k] := by
              rw [List.take_succ_eq_append_getElem h1]
              simp [nth, h1]
            have h3 : (nd.take k = []) = (k = 0) := by
              rw [List.take_eq_nil_iff]
              apply propext
              constructor
              · rintro (h | h)
                · exact h
                · rw [h] at h1; simp at h1
              · intro h; exact .inl h
            show _ = _
            rw [h2, textN_snoc]
            simp only [h3]
          have hsz : se.size ≤ 6000 := by
            have h1 : se.data.toList.length = se.size := Array.length_toList
            have h2 := congrArg List.length hse
            have h3 := textN_len (nd.take k) (fun x hx => by have := HNE.out x (List.mem_of_mem_take hx); omega)
            have h4 := decI_len (n := (wn : Int)) (by omega) (by omega)
            have h5 := HLEN.out i
            have h6 : (if i = 0 then ([] : List UInt8) else [32]).length ≤ 1 := by split <;> simp
            rw [List.length_append, List.length_append, List.length_append] at h2
            rw [List.length_take] at h3
            have := HM.out
            omega
          obtain ⟨kn, hkn⟩ : ∃ kn : Nat, nth nd k = (kn : Int) := ⟨(nth nd k).toNat, by omega⟩
          rw [hkn] at hkc hkb
          have hdg := ref_Digits kn (by omega) wq
          obtain ⟨S1, hS1⟩ : ∃ S1 : ByteArray, (⟨(Lib.decDigits kn).toArray⟩ : ByteArray) = S1 := ⟨_, rfl⟩
          have HS1 : Hid (S1.data.toList = decI (kn : Int)) := by show _ = _; rw [← hS1]; rfl
          rw [hS1] at hdg
          have hz1 : S1.size ≤ 2 := by
            have h1 : S1.data.toList.length = S1.size := Array.length_toList
            have h2 := decI_len (n := (kn : Int)) (by omega) (by omega)
            rw [← h1, HS1.out]; exact h2
          have HSE := Lib.hid hse
          have HKN := Lib.hid hkn
          have HOQ := Lib.hid hoq
          clear hmem hse hkn hoq hS1
          have hcase : ∃ (Y : ByteArray), Y.size = 1 ∧ Y.data.toList = [if k = 0 then 60 else 44] ∧ ((k = 0 ∧ (⟨#[60]⟩ : ByteArray) = Y) ∨ (0 < k ∧ (⟨#[44]⟩ : ByteArray) = Y)) := by
            by_cases h : k = 0
            · exact ⟨⟨#[60]⟩, rfl, by rw [if_pos h], .inl ⟨h, rfl⟩⟩
            · exact ⟨⟨#[44]⟩, rfl, by rw [if_neg h], .inr ⟨by omega, rfl⟩⟩
          obtain ⟨Y, hYz, hYd, hY⟩ := hcase
          have HYD := Lib.hid hYd
          have hb3 : ¬ 9223372036854775807 < se.size + Y.size := by omega
          have hb4 : ¬ 9223372036854775807 < (se ++ Y).size + S1.size := by rw [ByteArray.size_append]; omega
          have hfin : Hid (((se ++ Y) ++ S1).data.toList = textP (p.take i) ++ ((if i = 0 then [] else [32]) ++ (decI (wn : Int) ++ textN (nd.take (k + 1))))) := by
            show _ = _
            rw [hts.out, HKN.out, ByteArray.data_append, ByteArray.data_append, Array.toList_append, Array.toList_append, HYD.out, HS1.out, HSE.out]
            simp [List.append_assoc]
          obtain ⟨S2, hS2⟩ : ∃ S2, se ++ Y = S2 := ⟨_, rfl⟩
          have HS2 := Lib.hid hS2
          rw [hS2] at hb4 hfin
          clear hYd hS2
          rcases hY with ⟨rfl, hY⟩ | ⟨hk1, hY⟩
          · rw [show (((0 : Nat)) : Int) = 0 from rfl]
            rw [Nat.add_zero] at hkc
            have HY := Lib.hid hY
            clear hY
            go_upto_region 13 with (fail)
            rw [HY.out]
            go_upto_region 15 with (fail)
            rw [HS2.out]
            go_wp2_with fail
            refine hdg.mono ?_
            rintro e w5 ⟨rfl, ho5⟩
            have HO5 := Lib.hid (HOQ.out.trans ho5 (by simp))
            clear hdg ho5
            go_wp2
            go_roundw
            case rel => exact ⟨0 + 1, _, by omega, by go_num, rfl, hfin.out, HO5.out⟩
            case measure => (simp [intOf]; try omega)
          · have HY := Lib.hid hY
            clear hY
            go_upto_region 14 with (fail)
            rw [HY.out]
            go_upto_region 15 with (fail)
            rw [HS2.out]
            go_wp2_with fail
            refine hdg.mono ?_
            rintro e w5 ⟨rfl, ho5⟩
            have HO5 := Lib.hid (HOQ.out.trans ho5 (by simp))
            clear hdg ho5
            go_wp2
            go_roundw
            case rel => exact ⟨k + 1, _, by omega, by go_num, rfl, hfin.out, HO5.out⟩
            case measure => (simp [intOf]; try omega)
        · obtain rfl : k = m := by omega
          have hfull : nd.take k = nd := List.take_of_length_le (by rw [HM.out]; exact Nat.le_refl _)
          rw [hfull] at hse
          have hfin := Lib.hid (hse.trans htk.out.symm)
          have HOW := Lib.hid (HO1.out.trans hoq (by simp))
          clear hse hoq hfull
          go_wp2
          go_roundw
          case rel => exact ⟨i + 1, se, by omega, by go_num, rfl, hfin.out, HOW.out⟩
          case measure => (simp [intOf]; try omega)
    · obtain rfl : i = n := by omega
      have hfull : p.take i = p := List.take_of_length_le (by rw [HN.out]; exact Nat.le_refl _)
      rw [hfull] at hsb
      have e : sb = ⟨(textP p).toArray⟩ := by rw [← hsb, mk_data]
      have HE := Lib.hid e
      clear hsb hfull e ho
      go_wp2
      go_ret
      exact ⟨by rw [← HE.out]; rfl, HO.out⟩

end Go.Proofs.YtoofalchkedciaaGreatDoor
