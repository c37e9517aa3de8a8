/-
  Contracts of yardref1.Digits, yardref1.Number.
-/
import Derived.Test.YtoofalchkedciaaGreatDoorP27PlanTells
import Derived.Test.YtoofalchkedciaaGreatDoorP28PlanTells
import Derived.Lib.Strings
namespace Go.Proofs.YtoofalchkedciaaGreatDoor
open Go.RowKit Go.Deep

/-- The digits, as the text that the reference cuts them of. -/
theorem dig_cut : ∀ n : Nat, n < 10 → (⟨#[48, 49, 50, 51, 52, 53, 54, 55, 56, 57]⟩ : ByteArray).extract n (n + 1) = ⟨#[UInt8.ofNat (48 + n)]⟩ := by
  intro n h
  have : n = 0 ∨ n = 1 ∨ n = 2 ∨ n = 3 ∨ n = 4 ∨ n = 5 ∨ n = 6 ∨ n = 7 ∨ n = 8 ∨ n = 9 := by omega
  rcases this with rfl | rfl | rfl | rfl | rfl | rfl | rfl | rfl | rfl | rfl <;> rfl
theorem dec_len20 (n : Nat) (h : n ≤ 1000000000000) : (Lib.decDigits n).length ≤ 13 := by
  have : ∀ (k n : Nat), n < 10 ^ (k + 1) → (Lib.decDigits n).length ≤ k + 1 := by
    intro k
    induction k with
    | zero => intro n h; rw [Lib.decDigits_one (by omega)]; simp
    | succ k ih =>
      intro n h
      by_cases h1 : n < 10
      · rw [Lib.decDigits_one h1]; simp
      · rw [dec_step n h1, List.length_append, List.length_singleton]
        have := ih (n / 10) (by rw [Nat.pow_succ] at h; omega)
        omega
  exact this 12 n (by omega)

set_option maxRecDepth 100000 in
set_option maxHeartbeats 2000000 in
theorem ref_Digits (n : Nat) : n ≤ 1000000000000 → ∀ (w : World), Calls Tryz.prog 35 #[.int .i64 (n : Int)] w fun e w' => e = .returned (.string ⟨(Lib.decDigits n).toArray⟩) ∧ Only [] w w' := by
  induction n using Nat.strongRecOn with
  | ind n ih =>
    intro hn w
    by_cases h : n < 10
    · have hd := Lib.hid (dig_cut n h)
      have hr := Lib.hid (Lib.decDigits_one h)
      clear ih
      go_enter Tryz.func35, Tryz.ntmps35
      go_wp2
      go_ret
      exact ⟨by rw [hd.out, hr.out]; rfl, Only.refl _ _⟩
    · have hd := Lib.hid (dig_cut (n % 10) (by omega))
      have hr := Lib.hid (dec_step n h)
      have h1 : Int.tmod (n : Int) 10 = ((n % 10 : Nat) : Int) := by rw [Int.tmod_eq_emod_of_nonneg (by omega)]; omega
      have h2 : Int.tdiv (n : Int) 10 = ((n / 10 : Nat) : Int) := by rw [Int.tdiv_eq_ediv_of_nonneg (by omega)]; omega
      have hc := ih (n / 10) (by omega) (by omega) w
      have hz := dec_len20 (n / 10) (by omega)
      obtain ⟨k, hk⟩ : ∃ k, n % 10 = k := ⟨_, rfl⟩
      have hk10 : k < 10 := by omega
      rw [hk] at h1 hd hr
      obtain ⟨q, hq⟩ : ∃ q, n / 10 = q := ⟨_, rfl⟩
      have hq12 : q ≤ 1000000000000 := by omega
      rw [hq] at h2 hc hz hr
      obtain ⟨S0, hS0⟩ : ∃ S0 : ByteArray, (⟨(Lib.decDigits q).toArray⟩ : ByteArray) = S0 := ⟨_, rfl⟩
      have HS0 : Hid (S0.data.toList = Lib.decDigits q) := by show _ = _; rw [← hS0]
      have hz0 : S0.size ≤ 13 := by
        have h1 : S0.data.toList.length = S0.size := Array.length_toList
        rw [← h1, HS0.out]; exact hz
      rw [hS0] at hc
      obtain ⟨T, hT⟩ : ∃ T : ByteArray, (⟨#[UInt8.ofNat (48 + k)]⟩ : ByteArray) = T := ⟨_, rfl⟩
      have HTT : Hid (T.data.toList = [UInt8.ofNat (48 + k)]) := by show _ = _; rw [← hT]
      have hTs : T.size = 1 := by rw [← hT]; rfl
      have hb : ¬ 9223372036854775807 < S0.size + T.size := by omega
      have HD : Hid ((⟨#[48, 49, 50, 51, 52, 53, 54, 55, 56, 57]⟩ : ByteArray).extract k (k + 1) = T) := by show _ = _; rw [hd.out, hT]
      clear ih hq hk hS0 hz hd hT
      go_enter Tryz.func35, Tryz.ntmps35
      go_wp2_with fail
      refine hc.mono ?_
      rintro e w1 ⟨rfl, ho⟩
      have HO := Lib.hid ho
      have hd := HD.out
      clear hc ho HD h1 h2 h hn
      go_wp2
      go_ret
      refine ⟨?_, HO.out⟩
      rw [hr.out]
      have e : S0 ++ T = (⟨(Lib.decDigits q ++ [UInt8.ofNat (48 + k)]).toArray⟩ : ByteArray) := by
        apply ByteArray.ext
        apply Array.toList_inj.1
        rw [ByteArray.data_append, Array.toList_append, HS0.out, HTT.out]
      rw [← e]
      rfl

theorem numOk_false {most : Nat} {l : List UInt8} (i : Nat) (h : i < l.length) (hd : isDig l[i] = false) : numOk most l = false := by
  cases hk : numOk most l with
  | false => rfl
  | true =>
    have := List.all_eq_true.1 (numOk_iff.1 hk).2.2.1 _ (List.getElem_mem h)
    rw [hd] at this
    cases this

set_option maxRecDepth 100000 in
set_option maxHeartbeats 2000000 in
theorem ref_Number (s : ByteArray) (most : Nat) (hm : most ≤ 9) (w : World) (hs : s.size ≤ 2000000) :
    Calls Tryz.prog 58 #[.string s, .int .i64 (most : Int)] w fun e w' => ∃ n : Int, e = .returned (.tuple #[.int .i64 n, .bool (numOk most s.data.toList)]) ∧ (numOk most s.data.toList = true → n = (digV s.data.toList : Int)) ∧ (numOk most s.data.toList = false → n = 0) ∧ Only [] w w' := by
  obtain ⟨n, hn⟩ : ∃ n, s.size = n := ⟨_, rfl⟩
  have hsl : s.data.toList.length = n := by rw [← hn]; exact Array.length_toList
  have HSL := Lib.hid hsl
  have HN := Lib.hid hn
  have hsm : s.size ≤ 2000000 := hs
  clear hsl
  by_cases h0 : n = 0
  · have hq : (s.toList == ([] : List UInt8)) = true := by
      rw [Lib.toList_data, List.length_eq_zero_iff.1 (HSL.out.trans h0)]; rfl
    have hf : Hid (numOk most s.data.toList = false) := by
      show _ = _
      rw [List.length_eq_zero_iff.1 (HSL.out.trans h0)]; rfl
    clear h0 hn hsm hs
    go_enter Tryz.func58, Tryz.ntmps58
    go_wp2
    go_ret2
    exact ⟨0, by rw [hf.out]; rfl, fun h => (by rw [hf.out] at h; cases h), fun _ => rfl, Only.refl _ _⟩
  · have hq : (s.toList == ([] : List UInt8)) = false := by
      rw [Lib.toList_data]
      exact beq_eq_false_iff_ne.2 (fun e => h0 (by rw [← HSL.out, e]; rfl))
    by_cases hbig : most < n
    · have hf : Hid (numOk most s.data.toList = false) := by
        show _ = _
        cases h : numOk most s.data.toList with
        | false => rfl
        | true => have := (numOk_iff.1 h).2.1; have := HSL.out; omega
      have hbig' : most < s.size := by omega
      clear hn h0 hbig
      go_enter Tryz.func58, Tryz.ntmps58
      go_wp2
      go_ret2
      exact ⟨0, by rw [hf.out]; rfl, fun h => (by rw [hf.out] at h; cases h), fun _ => rfl, Only.refl _ _⟩
    · have h0s : 0 < s.size := by omega
      have hbig' : ¬ most < s.size := by omega
      have hg0 : s.data.toList[0]? = some s[0] := by rw [Array.getElem?_toList]; exact Array.getElem?_eq_getElem h0s
      by_cases hz : s[0] = 48 ∧ 1 < s.size
      · obtain ⟨hz, h1⟩ := hz
        have hf : Hid (numOk most s.data.toList = false) := by
          show _ = _
          cases h : numOk most s.data.toList with
          | false => rfl
          | true =>
            have := (numOk_iff.1 h).2.2.2 (by rw [List.head?_eq_getElem?, hg0, hz])
            have := HSL.out
            omega
        have hzn : ((s[0].toNat : Int) == 48) = true := by rw [hz]; rfl
        clear hn h0 hbig hg0 hz
        go_enter Tryz.func58, Tryz.ntmps58
        go_wp2
        go_ret2
        exact ⟨0, by rw [hf.out]; rfl, fun h => (by rw [hf.out] at h; cases h), fun _ => rfl, Only.refl _ _⟩
      · have hhead : Hid (s.data.toList.head? = some 48 → s.data.toList.length ≤ 1) := fun h => by
          rw [List.head?_eq_getElem?, hg0] at h
          have h1 : s[0] = 48 := Option.some.inj h
          have := HSL.out
          have : ¬ 1 < s.size := fun h2 => hz ⟨h1, h2⟩
          omega
        have hor : ((s[0].toNat : Int) == 48) = false ∨ (((s[0].toNat : Int) == 48) = true ∧ ¬ 1 < s.size) := by
          by_cases e : s[0] = 48
          · exact .inr ⟨by rw [e]; rfl, fun h2 => hz ⟨e, h2⟩⟩
          · left
            rw [beq_eq_false_iff_ne]
            intro h
            exact e (UInt8.toNat_inj.1 (by show _ = 48; omega))
        have hn9 : n ≤ 9 := by omega
        have hdn : decide (most < n) = false := decide_eq_false (by omega)
        clear hg0 hz h0 hbig
        have hd1 : ¬ 1 < s.size → decide ((1 : Int) < (n : Int)) = false := fun h => decide_eq_false (by omega)
        rcases hor with hor | ⟨hor, hor1⟩
        all_goals
          first | (have hd1 := hd1 hor1) | clear hd1
          go_enter Tryz.func58, Tryz.ntmps58
          go_wp2_with fail
          go_loopw [6, 7] (fun vn vi wr => ∃ i : Nat, i ≤ n ∧ vi = .int .i64 (i : Int) ∧ vn = .int .i64 (digV (s.data.toList.take i) : Int) ∧ (s.data.toList.take i).all isDig = true ∧ Only [] w wr) (fun _ vi _ => n - (intOf vi).toNat)
          case atStart => exact ⟨0, Nat.zero_le _, rfl, rfl, rfl, Only.refl _ _⟩
          case round =>
            obtain ⟨wo, rfl⟩ : ∃ wo : World, wo = wr := ⟨_, rfl⟩
            obtain ⟨i, hi, rfl, rfl, hall, ho⟩ := hrel
            have HALL := Lib.hid hall
            have HO := Lib.hid ho
            clear hall ho
            by_cases hin : i < n
            · have his : i < s.size := by omega
              have hil : i < s.data.toList.length := by rw [HSL.out]; exact hin
              have hgi : s.data.toList[i] = s[i] := Array.getElem_toList his
              have hpw := digV_pow _ HALL.out
              have hpl : (s.data.toList.take i).length ≤ 8 := by rw [List.length_take]; omega
              have hp8 : 10 ^ (s.data.toList.take i).length ≤ 10 ^ 8 := Nat.pow_le_pow_right (by omega) hpl
              have htk : Hid (s.data.toList.take (i + 1) = s.data.toList.take i ++ [s[i]]) := by
                show _ = _
                rw [List.take_succ_eq_append_getElem hil, hgi]
              have hds := digV_snoc (s.data.toList.take i) s[i]
              have hbad : Hid (isDig s[i] = false → numOk most s.data.toList = false) := fun h => numOk_false i hil (by rw [hgi]; exact h)
              have HDS := Lib.hid hds
              generalize digV (s.data.toList.take i) = v at *
              have hb := UInt8.toNat_lt s[i]
              have hdd : Hid (isDig s[i] = (decide (48 ≤ s[i].toNat) && decide (s[i].toNat ≤ 57))) := rfl
              have hv : v < 100000000 := by omega
              clear hds hpw hpl hp8 hgi
              by_cases hd : 48 ≤ s[i].toNat ∧ s[i].toNat ≤ 57
              · obtain ⟨hd1, hd2⟩ := hd
                have hdig : Hid (isDig s[i] = true) := by show _ = _; rw [hdd.out]; simp [hd1, hd2]
                have hall : Hid ((s.data.toList.take (i + 1)).all isDig = true) := by
                  show _ = _
                  rw [htk.out, List.all_append, HALL.out]
                  simpa using hdig.out
                have hval : Hid ((digV (s.data.toList.take (i + 1)) : Int) = v * 10 + s[i].toNat - 48) := by
                  show _ = _
                  rw [htk.out, HDS.out]; omega
                go_wp2
                go_roundw
                case rel => exact ⟨i + 1, by omega, by go_num, by rw [hval.out], hall.out, HO.out⟩
                case measure => (simp [intOf]; try omega)
              · have hno : Hid (numOk most s.data.toList = false) := hbad.out (by rw [hdd.out]; simp; omega)
                have hor2 : s[i].toNat < 48 ∨ (48 ≤ s[i].toNat ∧ 57 < s[i].toNat) := by omega
                clear hd
                rcases hor2 with h | ⟨h, h2⟩
                all_goals
                  go_wp2
                  go_ret2
                  exact ⟨0, by rw [hno.out]; rfl, fun h => (by rw [hno.out] at h; cases h), fun _ => rfl, HO.out⟩
            · obtain rfl : i = n := by omega
              have hfull : s.data.toList.take i = s.data.toList := List.take_of_length_le (by rw [HSL.out]; exact Nat.le_refl _)
              have hok : Hid (numOk most s.data.toList = true) := by
                have h1 := HALL.out
                rw [hfull] at h1
                exact numOk_iff.2 ⟨fun e => by rw [e] at HSL; have := HSL.out; simp at this; omega, by rw [HSL.out]; omega, h1, hhead.out⟩
              rw [hfull]
              clear hfull
              go_wp2
              go_ret2
              exact ⟨_, by rw [hok.out]; rfl, fun _ => rfl, fun h => (by rw [hok.out] at h; cases h), HO.out⟩

end Go.Proofs.YtoofalchkedciaaGreatDoor
