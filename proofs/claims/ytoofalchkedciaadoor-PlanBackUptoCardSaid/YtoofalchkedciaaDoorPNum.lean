/-
  Contract of plan.Number: a number of at most so many digits, without a zero ahead.
-/
import Derived.Test.YtoofalchkedciaaDoorStd
import Derived.Test.YtoofalchkedciaaDoorNumP
namespace Go.Proofs.YtoofalchkedciaaDoor
open Go.RowKit Go.Deep

/-- .. of a number. -/
theorem num_atoi {most : Nat} (hm : most ≤ 9) {l : List UInt8} (h : numOk most l = true) : Lib.atoiAll l = .ok (digV l : Int) := by
  obtain ⟨h1, h2, h3, _⟩ := numOk_iff.1 h
  rcases atoi_digits l h3 h1 with h4 | ⟨_, h4⟩
  · exact h4
  · have h5 := digV_pow l h3
    have h6 : 10 ^ l.length ≤ 10 ^ 9 := Nat.pow_le_pow_right (by omega) (by omega)
    omega

set_option maxRecDepth 100000 in
theorem plan_Number (s : ByteArray) (most : Nat) (hm : most ≤ 9) (hs : s.size ≤ 2000000) (w : World) (hstd : Std w) :
    Calls Tryd.prog 39 #[.string s, .int .i64 most] w fun e w' => ∃ n : Int, e = .returned (.tuple #[.int .i64 n, .bool (numOk most s.data.toList)]) ∧ (-9223372036854775808 ≤ n ∧ n ≤ 9223372036854775807) ∧ (numOk most s.data.toList = true → n = (digV s.data.toList : Int)) ∧ Only [] w w' := by
  have hat := atoi_any s hs w hstd
  have hsl : s.data.toList.length = s.size := Array.length_toList
  have HSL := Lib.hid hsl
  have HSTD := Lib.hid hstd
  clear hsl hstd
  go_enter Tryd.func39, Tryd.ntmps39
  go_wp2_with fail
  refine hat.mono ?_
  rintro e w1 ⟨n, v, rfl, hbd, ho, hv⟩
  have HO := Lib.hid ho
  clear hat ho
  rcases hv with ⟨rfl, hk⟩ | ⟨⟨t, N, rfl⟩, hno⟩
  · have hnum : Hid (numOk most s.data.toList = true → n = (digV s.data.toList : Int)) := fun h => by
      have := num_atoi hm h
      rw [hk] at this
      injection this
    by_cases h0 : 0 ≤ n
    · by_cases hlen : s.size ≤ most
      · obtain ⟨k, rfl⟩ := Int.eq_ofNat_of_zero_le h0
        have hito := Tryd.strconv_Itoa (k : Int) (by omega) (by omega) w1 (HSTD.out.only HO.out).2.2.1
        rw [Lib.itoa_nonneg] at hito
        have hd1 : decide ((s.size : Int) ≤ (most : Int)) = true := decide_eq_true (by omega)
        have hd0 : decide (0 ≤ (k : Int)) = true := by simp
        obtain ⟨b, hb⟩ : ∃ b, numOk most s.data.toList = b := ⟨_, rfl⟩
        obtain ⟨sb, hsb⟩ : ∃ sb : ByteArray, (⟨(Lib.decDigits k).toArray⟩ : ByteArray) = sb := ⟨_, rfl⟩
        have hsd : sb.data.toList = Lib.decDigits k := by rw [← hsb]
        have hcmp : (sb.toList == s.toList) = b := by
          rw [← hb, Lib.toList_data, Lib.toList_data, hsd]
          by_cases e : Lib.decDigits k = s.data.toList
          · have h1 := (dec_num (most := most) e (by rw [HSL.out]; exact hlen)).1
            rw [h1]
            exact beq_iff_eq.2 e
          · have h1 : numOk most s.data.toList = false := by
              cases h : numOk most s.data.toList with
              | false => rfl
              | true =>
                have h2 := hnum.out h
                have h3 := num_dec h
                rw [show digV s.data.toList = k by omega] at h3
                exact absurd h3 e
            rw [h1]
            exact beq_eq_false_iff_ne.2 e
        rw [hsb] at hito
        clear hsb hsd
        have HB := Lib.hid hb
        clear hk h0 hb
        go_wp2_with fail
        refine hito.mono ?_
        rintro e w2 ⟨rfl, kk, os, hw2⟩
        have ho2 : Only [] w1 w2 := by rw [hw2]; exact ((Only.refl [] w1).drewN kk).trans (grow_only _ os) (by simp)
        clear hito hw2
        go_wp2
        go_ret2
        exact ⟨k, by rw [HB.out]; rfl, hbd, hnum.out, HO.out.trans ho2 (by simp)⟩
      · have hb : numOk most s.data.toList = false := by
          cases h : numOk most s.data.toList with
          | false => rfl
          | true => have := (numOk_iff.1 h).2.1; have := HSL.out; omega
        have HB := Lib.hid hb
        have hd1 : decide ((s.size : Int) ≤ (most : Int)) = false := decide_eq_false (by omega)
        have hd0 : decide (0 ≤ n) = true := by simpa using h0
        clear hk hb
        go_wp2
        go_ret2
        exact ⟨n, by rw [HB.out]; rfl, hbd, hnum.out, HO.out⟩
    · have hb : numOk most s.data.toList = false := by
        cases h : numOk most s.data.toList with
        | false => rfl
        | true => have := hnum.out h; omega
      have HB := Lib.hid hb
      have hd0 : decide (0 ≤ n) = false := by simpa using h0
      clear hk hb
      go_wp2
      go_ret2
      exact ⟨n, by rw [HB.out]; rfl, hbd, hnum.out, HO.out⟩
  · have hb : numOk most s.data.toList = false := by
      cases h : numOk most s.data.toList with
      | false => rfl
      | true => exact absurd (num_atoi hm h) (hno _)
    have HB := Lib.hid hb
    clear hno hb
    go_wp2
    go_ret2
    exact ⟨n, by rw [HB.out]; rfl, hbd, fun h => (by rw [HB.out] at h; cases h), HO.out⟩

end Go.Proofs.YtoofalchkedciaaDoor
