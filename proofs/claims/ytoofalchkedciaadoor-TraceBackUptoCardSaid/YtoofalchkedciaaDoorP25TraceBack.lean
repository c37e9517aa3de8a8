/-
  What a text's reading and printing ask of the library's variables, as one fact; what Atoi does with any text.
  Contract of plan.Number: a number of at most so many digits, without a zero ahead.
  strings.Split and strings.Cut at one byte, in the words of cutL.
-/
import Derived.Test.YtoofalchkedciaaDoorP24TraceBack
import Derived.Shelf.Vars
import Derived.Lib.ItoaMem
import Derived.Sort.Grow
import Derived.Test.YtoofalchkedciaaDoorP10TraceBack
import Derived.Lib.Split
import Derived.Lib.SplitLaws
namespace Go.Proofs.YtoofalchkedciaaDoor
open Go.RowKit Go.Deep

/-- The library's variables hold what they held. -/
def Std (w : World) : Prop := VarErr "strconv.ErrSyntax" w ∧ VarErr "strconv.ErrRange" w ∧ Lib.TabIs Tryd.prog w "internal/strconv.uint64pow10" .u64 Lib.pow10Tab ∧ ∃ m, w.cell? ⟨1, 0, none⟩ = some (.int .i64 m)

theorem Std.only {w w' : World} (h : Std w) (ho : Only [] w w') : Std w' := by
  obtain ⟨h1, h2, h3, m, h4⟩ := h
  exact ⟨h1.only ho, h2.only ho, var_only h3 ho, m, (ho.cell (cell_lt h4) (by simp)).trans h4⟩

theorem max_len (W : World) (h : W.ShapedOpen Tryd.prog) : ∃ m, W.cell? ⟨1, 0, none⟩ = some (.int .i64 m) :=
  cell_of_shapedOpen_int (t := 3) (zero := #[.int .i64 0]) h (of_decide_eq_true (by kernel_rfl)) (by kernel_rfl) rfl (by kernel_rfl) (by kernel_rfl) Tryd.underlying3

theorem grow_only (w : World) (os : Array Obj) : Only [] w (Sort.grow w os) :=
  ⟨rfl, rfl, rfl, by rw [Sort.size_grow]; omega, fun k hk _ => Sort.heap_grow_old w os hk⟩

/-- What Atoi does with any text. -/
theorem atoi_any (s : ByteArray) (hs : s.size ≤ 2000000) (w : World) (hstd : Std w) :
    Calls Tryd.prog 57 #[.string s] w fun e w' => ∃ (n : Int) (v : Value), e = .returned (.tuple #[.int .i64 n, v]) ∧ (-9223372036854775808 ≤ n ∧ n ≤ 9223372036854775807) ∧ Only [] w w' ∧
      ((v = .nilIface ∧ Lib.atoiAll s.data.toList = .ok n) ∨ ((∃ t N, v = .iface t (.pointer (some ⟨N, 0, none⟩))) ∧ ∀ v, Lib.atoiAll s.data.toList ≠ .ok v)) := by
  obtain ⟨hsyn, hran, _⟩ := hstd
  cases hk : Lib.atoiAll s.data.toList with
  | ok v =>
    have hbd := Lib.atoiAll_bounds hk
    refine (Tryd.strconv_Atoi_ok s (by omega) _ hk w).mono ?_
    rintro e w' ⟨rfl, hw⟩
    refine ⟨_, _, rfl, hbd, ?_, .inl ⟨rfl, rfl⟩⟩
    rcases hw with rfl | ⟨t, rfl⟩
    · exact Only.refl _ _
    · exact Only.ofBelow (Lib.below_freeze ((Below.drew (Below.refl _ w)).alloc (Nat.le_refl _) _) (p := ⟨w.heap.size, _, none⟩) (Nat.le_refl _) _)
  | range =>
    obtain ⟨tp, p, hv⟩ := hran
    refine (Tryd.strconv_Atoi_range_var s (by omega) hk tp p w hv).mono ?_
    rintro e w' ⟨N, rfl, _, _, hb⟩
    refine ⟨_, _, rfl, ?_, Only.ofBelow hb, .inr ⟨⟨_, N, rfl⟩, fun v h => by cases h⟩⟩
    unfold Lib.atoiSat
    split <;> omega
  | _ =>
    obtain ⟨tp, p, hv⟩ := hsyn
    refine (Tryd.strconv_Atoi_bad_var s (by omega) (fun v h => by rw [hk] at h; cases h) (fun h => by rw [hk] at h; cases h) tp p w hv).mono ?_
    rintro e w' ⟨N, rfl, _, _, hb⟩
    exact ⟨_, _, rfl, by omega, Only.ofBelow hb, .inr ⟨⟨_, N, rfl⟩, fun v h => by cases h⟩⟩

end Go.Proofs.YtoofalchkedciaaDoor

namespace Go.Proofs.YtoofalchkedciaaDoor
open Go.RowKit Go.Deep

/-- .. of a number. -/
theorem num_atoi {most : Nat} (hm : most ≤ 9) {l : List UInt8} (h : numOk most l = true) : Lib.atoiAll l = .ok (digV l : Int) := by
  obtain ⟨h1, h2, h3, _⟩ := numOk_iff.1 h
  rcases atoi_digits l h3 h1 with h4 | ⟨_, h4⟩
  · exact h4
  · have h5 := digV_pow l h3
    have h6 : 10 ^ l.length ≤ 10 ^ 9 := Nat.pow_le_pow_right (by omega) (by omega)
    omega

set_option maxRecDepth 100000 in
theorem plan_Number (s : ByteArray) (most : Nat) (hm : most ≤ 9) (hs : s.size ≤ 2000000) (w : World) (hstd : Std w) :
    Calls Tryd.prog 39 #[.string s, .int .i64 most] w fun e w' => ∃ n : Int, e = .returned (.tuple #[.int .i64 n, .bool (numOk most s.data.toList)]) ∧ (-9223372036854775808 ≤ n ∧ n ≤ 9223372036854775807) ∧ (numOk most s.data.toList = true → n = (digV s.data.toList : Int)) ∧ Only [] w w' := by
  have hat := atoi_any s hs w hstd
  have hsl : s.data.toList.length = s.size := Array.length_toList
  have HSL := Lib.hid hsl
  have HSTD := Lib.hid hstd
  clear hsl hstd
  go_enter Tryd.func39, Tryd.ntmps39
  go_wp2_with fail
  refine hat.mono ?_
  rintro e w1 ⟨n, v, rfl, hbd, ho, hv⟩
  have HO := Lib.hid ho
  clear hat ho
  rcases hv with ⟨rfl, hk⟩ | ⟨⟨t, N, rfl⟩, hno⟩
  · have hnum : Hid (numOk most s.data.toList = true → n = (digV s.data.toList : Int)) := fun h => by
      have := num_atoi hm h
      rw [hk] at this
      injection this
    by_cases h0 : 0 ≤ n
    · by_cases hlen : s.size ≤ most
      · obtain ⟨k, rfl⟩ := Int.eq_ofNat_of_zero_le h0
        have hito := Tryd.strconv_Itoa (k : Int) (by omega) (by omega) w1 (HSTD.out.only HO.out).2.2.1
        rw [Lib.itoa_nonneg] at hito
        have hd1 : decide ((s.size : Int) ≤ (most : Int)) = true := decide_eq_true (by omega)
        have hd0 : decide (0 ≤ (k : Int)) = true := by simp
        obtain ⟨b, hb⟩ : ∃ b, numOk most s.data.toList = b := ⟨_, rfl⟩
        obtain ⟨sb, hsb⟩ : ∃ sb : ByteArray, (⟨(Lib.decDigits k).toArray⟩ : ByteArray) = sb := ⟨_, rfl⟩
        have hsd : sb.data.toList = Lib.decDigits k := by rw [← hsb]
        have hcmp : (sb.toList == s.toList) = b := by
          rw [← hb, Lib.toList_data, Lib.toList_data, hsd]
          by_cases e : Lib.decDigits k = s.data.toList
          · have h1 := (dec_num (most := most) e (by rw [HSL.out]; exact hlen)).1
            rw [h1]
            exact beq_iff_eq.2 e
          · have h1 : numOk most s.data.toList = false := by
              cases h : numOk most s.data.toList with
              | false => rfl
              | true =>
                have h2 := hnum.out h
                have h3 := num_dec h
                rw [show digV s.data.toList = k by omega] at h3
                exact absurd h3 e
            rw [h1]
            exact beq_eq_false_iff_ne.2 e
        rw [hsb] at hito
        clear hsb hsd
        have HB := Lib.hid hb
        clear hk h0 hb
        go_wp2_with fail
        refine hito.mono ?_
        rintro e w2 ⟨rfl, kk, os, hw2⟩
        have ho2 : Only [] w1 w2 := by rw [hw2]; exact ((Only.refl [] w1).drewN kk).trans (grow_only _ os) (by simp)
        clear hito hw2
        go_wp2
        go_ret2
        exact ⟨k, by rw [HB.out]; rfl, hbd, hnum.out, HO.out.trans ho2 (by simp)⟩
      · have hb : numOk most s.data.toList = false := by
          cases h : numOk most s.data.toList with
          | false => rfl
          | true => have := (numOk_iff.1 h).2.1; have := HSL.out; omega
        have HB := Lib.hid hb
        have hd1 : decide ((s.size : Int) ≤ (most : Int)) = false := decide_eq_false (by omega)
        have hd0 : decide (0 ≤ n) = true := by simpa using h0
        clear hk hb
        go_wp2
        go_ret2
        exact ⟨n, by rw [HB.out]; rfl, hbd, hnum.out, HO.out⟩
    · have hb : numOk most s.data.toList = false := by
        cases h : numOk most s.data.toList with
        | false => rfl
        | true => have := hnum.out h; omega
      have HB := Lib.hid hb
      have hd0 : decide (0 ≤ n) = false := by simpa using h0
      clear hk hb
      go_wp2
      go_ret2
      exact ⟨n, by rw [HB.out]; rfl, hbd, hnum.out, HO.out⟩
  · have hb : numOk most s.data.toList = false := by
      cases h : numOk most s.data.toList with
      | false => rfl
      | true => exact absurd (num_atoi hm h) (hno _)
    have HB := Lib.hid hb
    clear hno hb
    go_wp2
    go_ret2
    exact ⟨n, by rw [HB.out]; rfl, hbd, fun h => (by rw [HB.out] at h; cases h), HO.out⟩

end Go.Proofs.YtoofalchkedciaaDoor

namespace Go.Proofs.YtoofalchkedciaaDoor
open Go.RowKit Go.Deep


theorem idx_no (c : UInt8) : ∀ (l : List UInt8), c ∉ l → Lib.index l [c] = -1
  | [], _ => rfl
  | b :: l, h => by
    have h1 : b ≠ c := fun e => h (by simp [e])
    have h2 := idx_no c l (fun hm => h (by simp [hm]))
    unfold Lib.index
    rw [h2]
    have h3 : (c == b) = false := beq_eq_false_iff_ne.2 (fun e => h1 e.symm)
    simp [List.isPrefixOf, h3]
theorem idx_at (c : UInt8) : ∀ (p r : List UInt8), c ∉ p → Lib.index (p ++ c :: r) [c] = p.length
  | [], r, _ => by
    show Lib.index (c :: r) [c] = 0
    unfold Lib.index
    simp [List.isPrefixOf]
  | b :: p, r, h => by
    have h1 : b ≠ c := fun e => h (by simp [e])
    have h2 := idx_at c p r (fun hm => h (by simp [hm]))
    rw [List.cons_append]
    unfold Lib.index
    rw [h2]
    have h3 : (c == b) = false := beq_eq_false_iff_ne.2 (fun e => h1 e.symm)
    have h4 : ((p.length : Int) == -1) = false := beq_eq_false_iff_ne.2 (by omega)
    simp [List.isPrefixOf, h3, h4]

theorem cut_no (c : UInt8) (l : List UInt8) (h : c ∉ l) : Lib.cut l [c] = (l, [], false) := by
  unfold Lib.cut
  rw [idx_no c l h, if_neg (by omega)]
theorem cut_has (c : UInt8) (p r : List UInt8) (h : c ∉ p) : Lib.cut (p ++ c :: r) [c] = (p, r, true) := by
  unfold Lib.cut
  rw [idx_at c p r h, if_pos (by omega)]
  have e : ((p.length : Int)).toNat = p.length := by omega
  rw [e]
  have h1 : (p ++ c :: r).take p.length = p := by simp
  have h2 : (p ++ c :: r).drop (p.length + [c].length) = r := by
    rw [← List.drop_drop]
    simp
  rw [h1, h2]

theorem splitK_cut (c : UInt8) : ∀ (f : Nat) (l : List UInt8), l.length < f → Lib.splitK [c] 0 (Lib.countFrom [c] f l) l = cutL c l ∧ Lib.countFrom [c] f l + 1 = (cutL c l).length
  | 0, l, h => by omega
  | f + 1, l, h => by
    by_cases hm : c ∈ l
    · obtain ⟨p, r, rfl, hp⟩ := List.eq_append_cons_of_mem hm
      obtain ⟨ih1, ih2⟩ := splitK_cut c f r (by simp at h; omega)
      have hx := idx_at c p r hp
      have e : ((p.length : Int)).toNat = p.length := by omega
      have hd : (p ++ c :: r).drop (p.length + [c].length) = r := by
        rw [← List.drop_drop]
        simp
      have h4 : ((p.length : Int) == -1) = false := beq_eq_false_iff_ne.2 (by omega)
      have hc : Lib.countFrom [c] (f + 1) (p ++ c :: r) = Lib.countFrom [c] f r + 1 := by
        conv => lhs; unfold Lib.countFrom
        rw [hx, h4, e, hd]
        simp
        omega
      rw [hc, cutL_at c p r hp]
      refine ⟨?_, by rw [List.length_cons]; omega⟩
      conv => lhs; unfold Lib.splitK
      rw [hx, h4, e, hd, ih1]
      simp
    · have hx := idx_no c l hm
      have hc : Lib.countFrom [c] (f + 1) l = 0 := by
        unfold Lib.countFrom
        rw [hx]
        simp
      rw [hc, cutL_no c l hm]
      exact ⟨rfl, rfl⟩

theorem split_cut (c : UInt8) (s : ByteArray) : Lib.splitB ⟨#[c]⟩ 0 (Lib.countB s ⟨#[c]⟩) s = cutS c s ∧ Lib.countB s ⟨#[c]⟩ + 1 = (cutS c s).length := by
  obtain ⟨h1, h2⟩ := splitK_cut c (s.data.toList.length + 1) s.data.toList (by omega)
  have e : Lib.countB s ⟨#[c]⟩ = Lib.countFrom [c] (s.data.toList.length + 1) s.data.toList := rfl
  refine ⟨?_, by rw [cutS_len, e]; exact h2⟩
  have h3 := Lib.splitB_data ⟨#[c]⟩ 0 (Lib.countB s ⟨#[c]⟩) s
  rw [e] at h3 ⊢
  have h4 : (Lib.splitB ⟨#[c]⟩ 0 (Lib.countFrom [c] (s.data.toList.length + 1) s.data.toList) s).map (·.data.toList) = cutL c s.data.toList := h3.trans h1
  unfold cutS
  rw [← h4, List.map_map]
  conv => lhs; rw [← List.map_id (Lib.splitB ⟨#[c]⟩ 0 (Lib.countFrom [c] (s.data.toList.length + 1) s.data.toList) s)]
  refine List.map_congr_left fun x _ => ?_
  cases x
  simp

theorem str_Split (s : ByteArray) (c : UInt8) (hs : s.size ≤ 2000000) (w : World) (h : Std w) :
    Calls Tryd.prog 17 #[.string s, .string ⟨#[c]⟩] w fun e w' => ∃ a k, e = .returned (.slice a (cutS c s).length k) ∧ OwnStrs w' w.heap.size (.slice a (cutS c s).length k) (cutS c s) ∧ Only [] w w' := by
  obtain ⟨_, _, _, m, hm⟩ := h
  obtain ⟨h1, h2⟩ := split_cut c s
  refine (Tryd.strings_Split s ⟨#[c]⟩ m w (by omega) hm (Nat.le_refl _)).mono ?_
  rintro e w' ⟨rfl, rfl⟩
  rw [h1, h2]
  refine ⟨_, _, rfl, ⟨by simp, .inr ⟨w.heap.size, (cutS c s).length, _, rfl, Nat.le_refl _, heap_alloc_new _ _, Nat.le_refl _, ?_, by simp, by simp [List.take_of_length_le]⟩⟩, (Only.refl [] w).alloc _⟩
  have h3 := cutL_len c s.data.toList
  have h4 : s.data.toList.length = s.size := Array.length_toList
  rw [cutS_len]
  unfold maxLen
  omega

theorem str_Cut (s : ByteArray) (c : UInt8) (hs : s.size ≤ 2000000) (w : World) (h : Std w) :
    Calls Tryd.prog 38 #[.string s, .string ⟨#[c]⟩] w fun e w' => ∃ (p r : ByteArray) (b : Bool), e = .returned (.tuple #[.string p, .string r, .bool b]) ∧
      ((b = false ∧ p = s ∧ r = ⟨#[]⟩ ∧ c ∉ s.data.toList) ∨ (b = true ∧ s.data.toList = p.data.toList ++ c :: r.data.toList ∧ c ∉ p.data.toList)) ∧ Only [] w w' := by
  obtain ⟨_, _, _, m, hm⟩ := h
  refine (Tryd.strings_Cut s ⟨#[c]⟩ m w (by omega) hm).mono ?_
  rintro e w' ⟨rfl, n, rfl⟩
  refine ⟨_, _, _, rfl, ?_, (Only.refl [] w).drewN n⟩
  by_cases hc : c ∈ s.data.toList
  · obtain ⟨p, r, e, hp⟩ := List.eq_append_cons_of_mem hc
    have h1 : Lib.cut s.data.toList (⟨#[c]⟩ : ByteArray).data.toList = (p, r, true) := by rw [e]; exact cut_has c p r hp
    rw [h1]
    exact .inr ⟨rfl, e, hp⟩
  · have h1 : Lib.cut s.data.toList (⟨#[c]⟩ : ByteArray).data.toList = (s.data.toList, [], false) := cut_no c _ hc
    rw [h1]
    refine .inl ⟨rfl, ?_, rfl, hc⟩
    cases s
    simp

end Go.Proofs.YtoofalchkedciaaDoor
