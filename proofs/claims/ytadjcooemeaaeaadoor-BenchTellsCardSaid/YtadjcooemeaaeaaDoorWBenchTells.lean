/-
  The statement BenchTells: how busy each hand was by any bits, how many there were in each step, what was wasted, and how fast any plan is. No condition but the listed variable's.
-/
import Derived.Test.YtadjcooemeaaeaaDoorP1BenchTells
import Derived.Test.YtadjcooemeaaeaaDoorP2BenchTells
import Derived.Test.YtadjcooemeaaeaaDoorP6BenchTells
import Derived.Test.YtadjcooemeaaeaaDoorP25BenchTells
import Derived.Test.YtadjcooemeaaeaaDoorP28BenchTells
import Derived.Test.YtadjcooemeaaeaaDoorP31BenchTells
import Derived.Test.YtadjcooemeaaeaaDoorP34BenchTells
namespace Go.Proofs.YtadjcooemeaaeaaDoor.benchTells
open Go.ChangeShapes Go.WideShapes Go.ChangeAt Go.RowKit
open Go.ChangeMaps (open_string shut_string)
set_option linter.unusedVariables false


/-- Numbers, where there is no fault; else none. -/
def OkL (E : Int) (L : List Int) (w : World) (v : Value) : Prop := (E ≠ 0 ∧ v = .slice none 0 0) ∨ (E = 0 ∧ Reads w v L ∧ L.length ≤ 1000000)
theorem OkL.moved {E : Int} {L : List Int} {w w' : World} {v : Value} (h : OkL E L w v) (ho : Only [] w w') : OkL E L w' v := by
  rcases h with h | ⟨h1, h2, h3⟩
  · exact .inl h
  · exact .inr ⟨h1, h2.only' ho (by simp), h3⟩
theorem OkL.form {E : Int} {L : List Int} {w : World} {v : Value} (h : OkL E L w v) : ∃ a n c, v = .slice a n c := by
  rcases h with ⟨_, rfl⟩ | ⟨_, h, _⟩
  · exact ⟨_, _, _, rfl⟩
  · obtain ⟨a, c, rfl, _⟩ := h.opt; exact ⟨_, _, _, rfl⟩
theorem OkL.same2 {E : Int} {L : List Int} {w : World} {u v : Value} (hu : OkL E L w u) (hv : OkL E L w v) :
    Calls Tryd.prog 17 #[u, v] w fun e w' => e = .returned (.bool true) ∧ ∃ n, w' = w.drewN n := by
  rcases hu with ⟨h1, rfl⟩ | ⟨h1, hu, hl⟩
  · rcases hv with ⟨_, rfl⟩ | ⟨h2, _⟩
    · exact same_ints _ _ [] w (.inl ⟨rfl, .inl rfl⟩) (.inl ⟨rfl, .inl rfl⟩) (by simp)
    · exact absurd h2 h1
  · rcases hv with ⟨h2, _⟩ | ⟨_, hv, _⟩
    · exact absurd h1 h2
    · exact same_ints u v L w hu hv hl

theorem busy_all (v : Value) (bs : List Bt) (hands : Int) (w : World) (h : BitsAt w v bs) (hlm : bs.length ≤ 9223372036854775807) :
    Calls Tryd.prog 48 #[v, .int .i64 hands] w fun e w' => ∃ vo, e = .returned (.tuple #[vo, errV (benchErr bs hands)]) ∧ OkL (benchErr bs hands) (handL bs hands.toNat) w' vo ∧ Only [] w w' := by
  by_cases h0 : benchErr bs hands = 0
  · obtain ⟨h1, h2, h3, h4⟩ := benchErr_zero h0
    obtain ⟨hn, rfl⟩ := Int.eq_ofNat_of_zero_le (show 0 ≤ hands by omega)
    refine (bench_busy v bs hn w h h1 (by omega) (by omega) h4).mono ?_
    rintro e w' ⟨vo, rfl, hI, ho⟩
    exact ⟨vo, by rw [h0, errV_zero], .inr ⟨h0, by rw [Int.toNat_natCast]; exact hI.reads, by rw [handL_len]; omega⟩, ho⟩
  · refine (bench_busy_no v bs hands w h hlm h0).mono ?_
    rintro e w' ⟨rfl, ho⟩
    exact ⟨_, by rw [errV_ne h0], .inl ⟨h0, rfl⟩, ho⟩
theorem row_all (v : Value) (bs : List Bt) (w : World) (h : BitsAt w v bs) (hlm : bs.length ≤ 9223372036854775807) :
    Calls Tryd.prog 50 #[v] w fun e w' => ∃ vo, e = .returned (.tuple #[vo, errV (benchErr bs 6)]) ∧ OkL (benchErr bs 6) (rowL bs (stepsOf bs)) w' vo ∧ Only [] w w' := by
  by_cases h0 : benchErr bs 6 = 0
  · obtain ⟨h1, h2, h3, h4⟩ := benchErr_zero h0
    refine (bench_Row v bs w h h1 h4).mono ?_
    rintro e w' ⟨vo, rfl, hI, ho⟩
    exact ⟨vo, by rw [h0, errV_zero], .inr ⟨h0, hI.reads, by rw [rowL_len]; have := stepsOf_le (n := 10001) (fun b hb => by have := h4 b hb; unfold bitOk at this; omega); omega⟩, ho⟩
  · refine (bench_Row_no v bs w h hlm h0).mono ?_
    rintro e w' ⟨rfl, ho⟩
    exact ⟨_, by rw [errV_ne h0], .inl ⟨h0, rfl⟩, ho⟩
def wasteF (bs : List Bt) (hands : Int) : Int := if benchErr bs hands = 0 then hands * (stepsOf bs : Int) - (bs.length : Int) else 0
theorem waste_all (v : Value) (bs : List Bt) (hands : Int) (w : World) (h : BitsAt w v bs) (hlm : bs.length ≤ 9223372036854775807) :
    Calls Tryd.prog 51 #[v, .int .i64 hands] w fun e w' => e = .returned (.tuple #[.int .i64 (wasteF bs hands), errV (benchErr bs hands)]) ∧ Only [] w w' := by
  unfold wasteF
  by_cases h0 : benchErr bs hands = 0
  · obtain ⟨h1, h2, h3, h4⟩ := benchErr_zero h0
    rw [if_pos h0, h0, errV_zero]
    obtain ⟨hn, rfl⟩ := Int.eq_ofNat_of_zero_le (show 0 ≤ hands by omega)
    exact bench_waste v bs hn w h h1 (by omega) (by omega) h4
  · rw [if_neg h0, errV_ne h0]
    exact bench_waste_no v bs hands w h hlm h0
theorem rowL_nil (n : Nat) : rowL [] n = List.replicate n 0 := by
  apply List.ext_getElem <;> simp [rowL, atStep]
theorem benchErr_ok {bs : List Bt} {hands : Int} (h : benchErr bs hands = 0) : ∀ b ∈ bs, 0 ≤ b.step ∧ b.step ≤ 10000 := fun b hb => by have := (benchErr_zero h).2.2.2 b hb; unfold bitOk at this; omega

theorem least_of (P : Nat → Prop) (n : Nat) : (∀ t, t ≤ n → ¬ P t) ∨ ∃ s, s ≤ n ∧ P s ∧ ∀ t, t < s → ¬ P t := by
  induction n with
  | zero =>
    by_cases h : P 0
    · exact .inr ⟨0, Nat.le_refl _, h, fun t ht => absurd ht (by omega)⟩
    · left; intro t ht; obtain rfl : t = 0 := by omega
      exact h
  | succ n ih =>
    rcases ih with ih | ⟨s, h1, h2⟩
    · by_cases h : P (n + 1)
      · exact .inr ⟨n + 1, Nat.le_refl _, h, fun t ht => ih t (by omega)⟩
      · left; intro t ht
        by_cases e : t = n + 1
        · subst e; exact h
        · exact ih t (by omega)
    · exact .inr ⟨s, by omega, h2⟩
theorem gEnd_ex {p : PlanL} (hok : PlanOk p) (hands : Nat) : ∃ s, s ≤ 600 ∧ GEnd p hands s := by
  rcases least_of (fun t => gAt p hands t = []) 600 with h | ⟨s, h1, h2, h3⟩
  · have h1 := gBits_steps p hands 601 (fun t ht => h t (by omega))
    have h2 := gBits_600 p hands 601 hok
    omega
  · exact ⟨s, h1, h2, h3⟩
theorem gBits_wf {p : PlanL} (hok : PlanOk p) (hands t : Nat) : ∀ b ∈ gBits p hands t, 0 ≤ b.step ∧ b.step < t := by
  induction t with
  | zero => intro b hb; cases hb
  | succ t ih =>
    intro b hb
    rcases List.mem_append.1 hb with hb | hb
    · have := ih b hb; omega
    · unfold rowBits at hb
      obtain ⟨j, _, rfl⟩ := List.mem_map.1 hb
      show (0 : Int) ≤ (t : Int) ∧ (t : Int) < ((t + 1 : Nat) : Int)
      omega
theorem steps_gBits {p : PlanL} (hok : PlanOk p) {hands s : Nat} (he : GEnd p hands s) : stepsOf (gBits p hands s) = s := by
  have h1 : stepsOf (gBits p hands s) ≤ s := stepsOf_le (fun b hb => by have := gBits_wf hok hands s b hb; omega)
  rcases s with _ | s
  · omega
  · have h2 := he.2 s (by omega)
    have h3 : ∃ b ∈ gBits p hands (s + 1), b.step = (s : Int) := by
      obtain ⟨x, r, hx⟩ := List.exists_cons_of_ne_nil h2
      refine ⟨⟨(s : Int), ((0 : Nat) : Int), ((((gAt p hands s)[0]?.getD 0 : Nat)) : Int)⟩, List.mem_append.2 (.inr ?_), rfl⟩
      unfold rowBits
      exact List.mem_map.2 ⟨0, by rw [hx]; simp, rfl⟩
    obtain ⟨b, hb, e⟩ := h3
    have := stepsOf_lt hb
    omega
theorem zero_of_empty {p : PlanL} (hok : PlanOk p) (h0 : p.length = 0) {hands s : Nat} (h1 : 1 ≤ hands) (he : GEnd p hands s) : s = 0 := by
  have hl : p = [] := List.length_eq_zero_iff.1 h0
  rcases s with _ | s
  · rfl
  · exfalso
    have h2 := he.2 s (by omega)
    have h3 : (gAt p hands s).length ≤ p.length := gRow_le _ _ _ _
    exact h2 (List.length_eq_zero_iff.1 (by omega))
theorem pos_of_some {p : PlanL} (hok : PlanOk p) (h0 : 0 < p.length) {hands s : Nat} (h1 : 1 ≤ hands) (he : GEnd p hands s) : 0 < s := by
  rcases s with _ | s
  · exfalso
    obtain ⟨_, b1, _⟩ := greedy_bounds hok h1 he
    have := workF_bd hok
    simp at b1
    omega
  · omega

set_option maxHeartbeats 16000000 in
set_option maxRecDepth 100000 in
theorem walk (v0 : Value) (l0 : List Bt) (a1 : Int) (v2 : Value) (l2 : PlanL) (w : World) (hglob : Glob w) (w0 : InBits w v0 l0) (w1 : (Lit.int .i64 a1).wf = true) (w2 : ArgPlan w v2 l2) :
    Calls Tryd.prog 10 #[v0, .int .i64 a1, v2] w fun e w' => e = .returned (.bool true) ∧ Below w.heap.size w w' := by
  have bd1 := bounds_i64 w1
  obtain ⟨_, hat, hmx⟩ := w0
  have hlm : l0.length ≤ 9223372036854775807 := by unfold maxLen at hmx; omega
  have HA := Lib.hid hat
  have HLM := Lib.hid hlm
  have HP := Lib.hid w2.2
  have HG := Lib.hid hglob
  have hB1 := ref_Bench v0 l0 a1 w hat hlm
  have hB6 := Lib.hid (fun w' (ho : Only [] w w') => ref_Bench v0 l0 6 w' (HA.out.same ho) HLM.out)
  have hSt := Lib.hid (fun w' (ho : Only [] w w') hok => ref_Steps v0 l0 w' (HA.out.same ho) hok HLM.out)
  have gBu := Lib.hid (fun w' (ho : Only [] w w') => busy_all v0 l0 a1 w' (HA.out.same ho) HLM.out)
  have gRo := Lib.hid (fun w' (ho : Only [] w w') => row_all v0 l0 w' (HA.out.same ho) HLM.out)
  have gWa := Lib.hid (fun w' (ho : Only [] w w') => waste_all v0 l0 a1 w' (HA.out.same ho) HLM.out)
  obtain ⟨va, vc, rfl, hbit⟩ := hat.opt
  obtain ⟨q, hq⟩ : ∃ q, l0.length = q := ⟨_, rfl⟩
  have HQ := Lib.hid hq
  have HBIT := Lib.hid hbit
  rw [hq] at hB1 hB6 hSt gBu gRo gWa HBIT hlm HA
  rw [hq]
  obtain ⟨E, hE⟩ : ∃ E, benchErr l0 a1 = E := ⟨_, rfl⟩
  obtain ⟨F, hF⟩ : ∃ F, benchErr l0 6 = F := ⟨_, rfl⟩
  have HE := Lib.hid hE
  have HF := Lib.hid hF
  rw [hE] at hB1 gBu gWa
  rw [hF] at hB6 gRo
  clear hglob w1 w2 hat hmx hbit hq hE hF
  go_enter Tryd.func10, Tryd.ntmps10
  go_wp2_with fail
  refine hB1.mono ?_
  rintro e w1 ⟨rfl, ho1⟩
  clear hB1
  go_wp2_with fail
  refine (hB6.out w1 ho1).mono ?_
  rintro e w2 ⟨rfl, ho2⟩
  have ho2 := ho1.trans ho2 (by simp)
  clear hB6 ho1
  go_upto_if 31 with (fail)
  go_cut [9] (fun vb wx => ((E ≠ 0 ∧ vb = .slice none 0 0) ∨ (E = 0 ∧ ∃ (B hn : Nat), a1 = (hn : Int) ∧ vb = .slice (some ⟨B, 0, none⟩) hn hn ∧ w2.heap.size ≤ B ∧ Ints wx B (.slice (some ⟨B, 0, none⟩) hn hn) (handL [] hn))) ∧ Only [] w2 wx)
  case first =>
    as_aux_lemma =>
      by_cases h0 : E = 0
      · have hz := benchErr_zero (HE.out.trans h0)
        obtain ⟨hn, rfl⟩ := Int.eq_ofNat_of_zero_le (show 0 ≤ a1 by omega)
        have hmk := make_ints hn (by omega)
        have hI := Lib.hid (made_ints w2 hn (by omega))
        subst h0
        go_wp2
        go_meet
        exact ⟨.inr ⟨trivial, w2.heap.size, hn, rfl, rfl, Nat.le_refl _, by rw [handL_nil]; exact hI.out⟩, (Only.refl [] w2).alloc _⟩
      · have h1 : (E == 0) = false := by simpa using h0
        have H0 := Lib.hid h0
        clear h0
        go_wp2
        go_meet
        exact ⟨.inl ⟨H0.out, rfl⟩, Only.refl _ _⟩
  case rest =>
  obtain ⟨hcb, hoc⟩ := hcut
  have ho3 := ho2.trans hoc (by simp)
  have hs2 : w.heap.size ≤ w2.heap.size := ho2.size
  have HOC := Lib.hid hoc
  have ho2h := Lib.hid ho2
  have ho3w : Hid (∀ w', Only [] w2 w' → Only [] w w') := fun w' h => ho2.trans h (by simp)
  clear ho2 hoc ho3
  go_upto_block 0 with (fail)
  go_cut [9, 11] (fun vb _ wx => OkL E (handL l0 a1.toNat) wx vb ∧ Only [] w2 wx)
  case first =>
    as_aux_lemma =>
      obtain ⟨w3, rfl⟩ : ∃ w3, w3 = wc := ⟨_, rfl⟩
      rcases hcb with ⟨h0, rfl⟩ | ⟨rfl, B, hn, rfl, rfl, hB, hI⟩
      · have h1 : (E == 0) = false := by simpa using h0
        have H0 := Lib.hid h0
        clear h0
        go_wp2_with fail
        go_loopw [11] (fun vi wr => vi = .int .i64 0 ∧ w3 = wr) (fun _ _ => 0)
        case atStart => exact ⟨rfl, rfl⟩
        case round =>
          obtain ⟨rfl, rfl⟩ := hrel
          by_cases hq0 : 0 < q
          · have hq1 : ((0 : Int) < (q : Int)) := by omega
            go_wp2
            go_meet
            exact ⟨.inl ⟨H0.out, rfl⟩, HOC.out⟩
          · have hq1 : q = 0 := by omega
            subst hq1
            go_wp2
            go_meet
            exact ⟨.inl ⟨H0.out, rfl⟩, HOC.out⟩
      · have hz := benchErr_zero HE.out
        have HOK := Lib.hid hz.2.2.2
        have hn6 : hn ≤ 6 := by omega
        have hq6 : q ≤ 600 := by have := hz.1; rw [HQ.out] at this; exact this
        clear hz
        go_wp2_with fail
        go_loopw [11] (fun vi wr => ∃ i : Nat, i ≤ q ∧ vi = .int .i64 i ∧ Ints wr B (.slice (some ⟨B, 0, none⟩) hn hn) (handL (l0.take i) hn) ∧ Only [] w2 wr) (fun vi _ => q - (intOf vi).toNat)
        case atStart => exact ⟨0, Nat.zero_le _, rfl, hI, HOC.out⟩
        case round =>
          clear hI
          obtain ⟨i, hi, rfl, hI2, ho⟩ := hrel
          by_cases hin : i < q
          · obtain ⟨b, off, rfl, k0, k1, k2⟩ := HBIT.out i hin
            have how := ho3w.out wr ho
            have c1 := (how.cell (p := ⟨b, _, none⟩) (cell_lt k1) (by simp)).trans k1
            have hb := HOK.out (bitAt l0 i) (bitAt_mem (by rw [HQ.out]; exact hin))
            have htk := take_bit l0 i (by rw [HQ.out]; exact hin)
            unfold bitOk at hb
            generalize bitAt l0 i = b9 at *
            obtain ⟨x, y, z⟩ := b9
            obtain ⟨g1, g2, g3, g4, g5, g6⟩ := hb
            simp only at c1 g3 g4
            obtain ⟨y, rfl⟩ := Int.eq_ofNat_of_zero_le g3
            have hyh : y < hn := by omega
            have hcy := hI2.cell y (by rw [handL_len]; exact hyh)
            rw [handL_nth _ _ _ hyh] at hcy
            have hfy := hI2.free y
            have hle : ofHand (l0.take i) y ≤ i := Nat.le_trans List.countP_le_length (List.length_take_le _ _)
            have hset := Lib.hid (hI2.set y ((ofHand (l0.take i) y : Int) + 1))
            rw [handL_set (l0.take i) ⟨x, y, z⟩ hn y rfl hyh, ← htk] at hset
            have hos := Lib.hid (ho.setCell (p := ⟨B, y, none⟩) (fun hlt => by simp at hlt; omega) (.int .i64 ((ofHand (l0.take i) y : Int) + 1)))
            obtain ⟨k, hk⟩ : ∃ k, ofHand (l0.take i) y = k := ⟨_, rfl⟩
            rw [hk] at hcy hle hset hos
            clear k0 k1 k2 ho hI2 htk hk g1 g2 g5 g6 how
            go_wp2
            go_roundw
            case rel => exact ⟨i + 1, by omega, by go_num, hset.out, hos.out⟩
            case measure => (simp [intOf]; try omega)
          · obtain rfl : i = q := by omega
            rw [List.take_of_length_le (by rw [HQ.out]; exact Nat.le_refl _)] at hI2
            have hR := Lib.hid hI2.reads
            clear hI2
            go_wp2
            go_meet
            exact ⟨.inr ⟨rfl, by rw [Int.toNat_natCast]; exact hR.out, by rw [handL_len]; omega⟩, ho⟩
  case rest =>
  obtain ⟨hbu, hoc⟩ := hcut
  obtain ⟨w4, rfl⟩ : ∃ w4, w4 = wc := ⟨_, rfl⟩
  have ho4 := ho2h.out.trans hoc (by simp)
  obtain ⟨ba, bn, bc, rfl⟩ := hbu.form
  have HBU := Lib.hid hbu
  clear hoc hbu
  have hEr := same_errV E
  obtain ⟨ev, hev⟩ : ∃ ev, errV E = ev := ⟨_, rfl⟩
  rw [hev] at hEr gBu gWa
  have HER := Lib.hid hEr
  have hFr := same_errV F
  obtain ⟨fv, hfv⟩ : ∃ fv, errV F = fv := ⟨_, rfl⟩
  rw [hfv] at hFr gRo
  have HFR := Lib.hid hFr
  clear hev hfv hEr hFr
  go_wp2_with fail
  refine (gBu.out w4 ho4).mono ?_
  rintro e w5 ⟨vx, rfl, hx, ho5⟩
  have HBU := Lib.hid (HBU.out.moved ho5)
  have HX := Lib.hid hx
  obtain ⟨xa, xn, xc, rfl⟩ := hx.form
  have ho5 := ho4.trans ho5 (by simp)
  have hgl := HG.out.only ho5
  clear gBu ho4 hx
  go_wp2_with fail
  refine (HER.out w5 hgl).mono ?_
  rintro e w6 ⟨rfl, ho6⟩
  have hsm := OkL.same2 (HX.out.moved ho6) (HBU.out.moved ho6)
  have ho6 := ho5.trans ho6 (by simp)
  clear hgl ho5 HX HBU
  go_wp2_with fail
  refine hsm.mono ?_
  rintro e wx ⟨rfl, d6, rfl⟩
  have ho7 := ho6.drewN d6
  clear hsm ho6
  obtain ⟨w7, hw7⟩ : ∃ w7, w6.drewN d6 = w7 := ⟨_, rfl⟩
  rw [hw7] at ho7 ⊢
  clear hw7
  have hs7 : w.heap.size ≤ w7.heap.size := ho7.size
  have ho7h := Lib.hid ho7
  have ho7w : Hid (∀ w', Only [] w7 w' → Only [] w w') := fun w' h => ho7.trans h (by simp)
  clear ho7
  go_upto_if 67 with (fail)
  go_cut [10] (fun vb wx => ((F ≠ 0 ∧ vb = .slice none 0 0) ∨ (F = 0 ∧ ∃ (B st : Nat), stepsOf l0 = st ∧ vb = .slice (some ⟨B, 0, none⟩) st st ∧ w7.heap.size ≤ B ∧ Ints wx B (.slice (some ⟨B, 0, none⟩) st st) (rowL [] st))) ∧ Only [] w7 wx)
  case first =>
    as_aux_lemma =>
      by_cases h0 : F = 0
      · have hok := benchErr_ok (HF.out.trans h0)
        have hs := hSt.out w7 ho7h.out hok
        have hsl : stepsOf l0 ≤ 10001 := stepsOf_le (fun b hb => by have := hok b hb; omega)
        obtain ⟨st, hst9⟩ : ∃ st, stepsOf l0 = st := ⟨_, rfl⟩
        rw [hst9] at hs hsl
        have HST := Lib.hid hst9
        have hmk := make_ints st (by omega)
        subst h0
        clear hst9 hok
        go_wp2_with fail
        refine hs.mono ?_
        rintro e w8 ⟨rfl, ho8⟩
        have hI := Lib.hid (made_ints w8 st (by omega))
        clear hs
        go_wp2
        go_meet
        exact ⟨.inr ⟨trivial, w8.heap.size, st, HST.out, rfl, ho8.size, by rw [rowL_nil]; exact hI.out⟩, ho8.alloc _⟩
      · have h1 : (F == 0) = false := by simpa using h0
        have H0 := Lib.hid h0
        clear h0
        go_wp2
        go_meet
        exact ⟨.inl ⟨H0.out, rfl⟩, Only.refl _ _⟩
  case rest =>
  obtain ⟨hcb, hoc⟩ := hcut
  have HOC := Lib.hid hoc
  clear hoc
  go_upto_block 2 with (fail)
  go_cut [10, 16] (fun vb _ wx => OkL F (rowL l0 (stepsOf l0)) wx vb ∧ Only [] w7 wx)
  case first =>
    as_aux_lemma =>
      obtain ⟨w8, rfl⟩ : ∃ w8, w8 = wc := ⟨_, rfl⟩
      rcases hcb with ⟨h0, rfl⟩ | ⟨rfl, B, st, hst, rfl, hB, hI⟩
      · have h1 : (F == 0) = false := by simpa using h0
        have H0 := Lib.hid h0
        clear h0
        go_wp2_with fail
        go_loopw [16] (fun vi wr => vi = .int .i64 0 ∧ w8 = wr) (fun _ _ => 0)
        case atStart => exact ⟨rfl, rfl⟩
        case round =>
          obtain ⟨rfl, rfl⟩ := hrel
          by_cases hq0 : 0 < q
          · have hq1 : ((0 : Int) < (q : Int)) := by omega
            go_wp2
            go_meet
            exact ⟨.inl ⟨H0.out, rfl⟩, HOC.out⟩
          · have hq1 : q = 0 := by omega
            subst hq1
            go_wp2
            go_meet
            exact ⟨.inl ⟨H0.out, rfl⟩, HOC.out⟩
      · have hz := benchErr_zero HF.out
        have HOK := Lib.hid hz.2.2.2
        have HST := Lib.hid hst
        have hsl : st ≤ 10001 := by rw [← hst]; exact stepsOf_le (fun b hb => by have := hz.2.2.2 b hb; unfold bitOk at this; omega)
        have hq6 : q ≤ 600 := by have := hz.1; rw [HQ.out] at this; exact this
        clear hz hst
        go_wp2_with fail
        go_loopw [16] (fun vi wr => ∃ i : Nat, i ≤ q ∧ vi = .int .i64 i ∧ Ints wr B (.slice (some ⟨B, 0, none⟩) st st) (rowL (l0.take i) st) ∧ Only [] w7 wr) (fun vi _ => q - (intOf vi).toNat)
        case atStart => exact ⟨0, Nat.zero_le _, rfl, hI, HOC.out⟩
        case round =>
          clear hI
          obtain ⟨i, hi, rfl, hI2, ho⟩ := hrel
          by_cases hin : i < q
          · obtain ⟨b, off, rfl, k0, k1, k2⟩ := HBIT.out i hin
            have how := ho7w.out wr ho
            have c0 := (how.cell (p := ⟨b, _, none⟩) (cell_lt k0) (by simp)).trans k0
            have hmem := bitAt_mem (bs := l0) (k := i) (by rw [HQ.out]; exact hin)
            have hb := HOK.out (bitAt l0 i) hmem
            have hlt := stepsOf_lt hmem
            rw [HST.out] at hlt
            have htk := take_bit l0 i (by rw [HQ.out]; exact hin)
            unfold bitOk at hb
            generalize bitAt l0 i = b9 at *
            obtain ⟨x, y, z⟩ := b9
            obtain ⟨g1, g2, g3, g4, g5, g6⟩ := hb
            simp only at c0 g1 g2 hlt
            obtain ⟨x, rfl⟩ := Int.eq_ofNat_of_zero_le g1
            have hxh : x < st := by omega
            have hcx := hI2.cell x (by rw [rowL_len]; exact hxh)
            rw [rowL_nth _ _ _ hxh] at hcx
            have hfx := hI2.free x
            have hle : atStep (l0.take i) x ≤ i := Nat.le_trans List.countP_le_length (List.length_take_le _ _)
            have hset := Lib.hid (hI2.set x ((atStep (l0.take i) x : Int) + 1))
            rw [rowL_set (l0.take i) ⟨x, y, z⟩ st x rfl hxh, ← htk] at hset
            have hos := Lib.hid (ho.setCell (p := ⟨B, x, none⟩) (fun hlt => by simp at hlt; omega) (.int .i64 ((atStep (l0.take i) x : Int) + 1)))
            obtain ⟨k, hk⟩ : ∃ k, atStep (l0.take i) x = k := ⟨_, rfl⟩
            rw [hk] at hcx hle hset hos
            clear k0 k1 k2 ho hI2 htk hk g1 g2 g3 g4 g5 g6 how hmem hlt
            go_wp2
            go_roundw
            case rel => exact ⟨i + 1, by omega, by go_num, hset.out, hos.out⟩
            case measure => (simp [intOf]; try omega)
          · obtain rfl : i = q := by omega
            rw [List.take_of_length_le (by rw [HQ.out]; exact Nat.le_refl _)] at hI2
            have hR := Lib.hid hI2.reads
            clear hI2
            go_wp2
            go_meet
            exact ⟨.inr ⟨rfl, by rw [HST.out]; exact hR.out, by rw [rowL_len, HST.out]; omega⟩, ho⟩
  case rest =>
  obtain ⟨hro, hoc⟩ := hcut
  obtain ⟨w8, rfl⟩ : ∃ w8, w8 = wc := ⟨_, rfl⟩
  have ho8 := ho7h.out.trans hoc (by simp)
  obtain ⟨ra, rn, rc, rfl⟩ := hro.form
  have HRO := Lib.hid hro
  clear hoc hro ho7h ho7w HOC hcb hs7
  go_wp2_with fail
  refine (gRo.out w8 ho8).mono ?_
  rintro e w9 ⟨vx, rfl, hx, ho9⟩
  have HRO := Lib.hid (HRO.out.moved ho9)
  have HX := Lib.hid hx
  obtain ⟨ya, yn, yc, rfl⟩ := hx.form
  have ho9 := ho8.trans ho9 (by simp)
  have hgl := HG.out.only ho9
  clear gRo ho8 hx
  go_wp2_with fail
  refine (HFR.out w9 hgl).mono ?_
  rintro e w10 ⟨rfl, ho10⟩
  have hsm := OkL.same2 (HX.out.moved ho10) (HRO.out.moved ho10)
  have ho10 := ho9.trans ho10 (by simp)
  clear hgl ho9 HX HRO HFR
  go_wp2_with fail
  refine hsm.mono ?_
  rintro e wx ⟨rfl, d10, rfl⟩
  have ho11 := ho10.drewN d10
  clear hsm ho10
  obtain ⟨w11, hw11⟩ : ∃ w11, w10.drewN d10 = w11 := ⟨_, rfl⟩
  rw [hw11] at ho11 ⊢
  clear hw11
  obtain ⟨wf, hwf⟩ : ∃ wf, wasteF l0 a1 = wf := ⟨_, rfl⟩
  rw [hwf] at gWa
  have HWF := Lib.hid hwf
  clear hwf
  go_upto_if 103 with (fail)
  go_cut [20] (fun vz wx => vz = .int .i64 wf ∧ Only [] w11 wx)
  case first =>
    as_aux_lemma =>
      by_cases h0 : E = 0
      · have hz := benchErr_zero (HE.out.trans h0)
        have hok := benchErr_ok (HE.out.trans h0)
        have hs := hSt.out w11 ho11 hok
        have hsl : stepsOf l0 ≤ 10001 := stepsOf_le (fun b hb => by have := hok b hb; omega)
        obtain ⟨hn, rfl⟩ := Int.eq_ofNat_of_zero_le (show 0 ≤ a1 by omega)
        obtain ⟨st, hst9⟩ : ∃ st, stepsOf l0 = st := ⟨_, rfl⟩
        have HW : Hid (wf = (hn : Int) * (st : Int) - (q : Int)) := by show _ = _; rw [← HWF.out]; unfold wasteF; rw [if_pos (HE.out.trans h0), hst9, HQ.out]
        rw [hst9] at hs hsl
        have hq6 : q ≤ 600 := by have := hz.1; rw [HQ.out] at this; exact this
        have hn1 : 1 ≤ hn ∧ hn ≤ 6 := by omega
        have hmul : (hn : Int) * (st : Int) ≤ 60006 ∧ 0 ≤ (hn : Int) * (st : Int) := by
          rw [← Int.natCast_mul]
          have : hn * st ≤ 6 * 10001 := Nat.mul_le_mul hn1.2 (by omega)
          omega
        obtain ⟨hm1, hm2⟩ := hmul
        subst h0
        clear hst9 hok hz
        go_wp2_with fail
        refine hs.mono ?_
        rintro e w12 ⟨rfl, ho12⟩
        clear hs
        go_wp2
        go_meet
        exact ⟨by rw [HW.out], ho12⟩
      · have h1 : (E == 0) = false := by simpa using h0
        have HW : Hid (wf = 0) := by show _ = _; rw [← HWF.out]; unfold wasteF; rw [if_neg (by rw [HE.out]; exact h0)]
        clear h0
        go_wp2
        go_meet
        exact ⟨by rw [HW.out], Only.refl _ _⟩
  case rest =>
  obtain ⟨rfl, hoc⟩ := hcut
  obtain ⟨w12, rfl⟩ : ∃ w12, w12 = wc := ⟨_, rfl⟩
  have ho12 := ho11.trans hoc (by simp)
  clear hoc ho11 hSt HWF
  go_wp2_with fail
  refine (gWa.out w12 ho12).mono ?_
  rintro e w13 ⟨rfl, ho13⟩
  have ho13 := ho12.trans ho13 (by simp)
  have hgl := HG.out.only ho13
  clear gWa ho12
  go_wp2_with fail
  refine (HER.out w13 hgl).mono ?_
  rintro e w14 ⟨rfl, ho14⟩
  have ho14 := ho13.trans ho14 (by simp)
  clear hgl ho13 HER HE HF HQ HBIT HA HLM
  have hR := ref_Right v2 l2 w14 (HP.out.same ho14)
  by_cases h0 : hErr l2 a1 = 0
  · obtain ⟨hok, h1, h6⟩ := hErr_zero h0
    have hpf : planFault l2 = 0 := by
      unfold hErr at h0
      by_cases hp : planFault l2 = 0
      · exact hp
      · rw [if_neg hp] at h0; exact absurd h0 hp
    rw [hpf] at hR
    obtain ⟨hands, rfl⟩ := Int.eq_ofNat_of_zero_le (show 0 ≤ a1 by omega)
    have hh1 : 1 ≤ hands := by omega
    have hh6 : hands ≤ 6 := by omega
    obtain ⟨s, hs6, hE⟩ := gEnd_ex hok hands
    have HE := Lib.hid hE
    have HO := Lib.hid hok
    have hwb := workF_bd hok
    have hRG := Lib.hid (fun w' (ho : Only [] w w') => ref_Greedy v2 l2 hands w' (HP.out.same ho) hok hh1 hh6)
    have hWk := Lib.hid (fun w' (ho : Only [] w w') => ref_Work v2 l2 w' (HP.out.same ho) hok)
    have hSp := Lib.hid (fun w' (ho : Only [] w w') => bench_Speed v2 l2 hands w' (HP.out.same ho) hok hh1 hh6)
    obtain ⟨pa, pc, rfl, _⟩ := HP.out.task
    have hsb : Hid (speedF l2 s = if s = 0 then 100 else 100 * workF l2 / (s : Int)) := rfl
    obtain ⟨n, hn⟩ : ∃ n, l2.length = n := ⟨_, rfl⟩
    have HN := Lib.hid hn
    rw [hn] at hR hRG hWk hSp hwb ⊢
    obtain ⟨wk, hwk⟩ : ∃ x, workF l2 = x := ⟨_, rfl⟩
    rw [hwk] at hWk hwb hsb
    clear h0 hpf hok hn hwk hE
    by_cases hn0 : n = 0
    · have hs0 := zero_of_empty HO.out (HN.out.trans hn0) hh1 HE.out
      have h100 : Hid (speedF l2 0 = 100) := by show _ = _; unfold speedF; simp
      subst hn0
      subst hs0
      clear hsb
      go_wp2_with fail
      refine hR.mono ?_
      rintro e w15 ⟨rfl, ho15⟩
      have ho15 := ho14.trans ho15 (by simp)
      clear hR ho14
      go_wp2_with fail
      refine (hSp.out w15 ho15).mono ?_
      rintro e w16 ⟨s, rfl, hE2, ho16⟩
      have hs := gEnd_unique HE.out hE2
      subst hs
      have ho16 := ho15.trans ho16 (by simp)
      rw [h100.out]
      clear hSp hE2 ho15
      go_wp2_with fail
      refine (same_nil 0 _ true rfl).mono ?_
      rintro e w17 ⟨rfl, rfl⟩
      go_wp2
      go_ret
      exact ⟨by rfl, ho16.below (Nat.le_refl _) (by simp)⟩
    · have hs1 := pos_of_some HO.out (by rw [HN.out]; omega) hh1 HE.out
      have hst := steps_gBits HO.out HE.out
      have hend := (gLeft_end (t := 601) HE.out (by omega)).2.2
      have HB6 := Lib.hid (gBits_600 l2 hands s HO.out)
      have HWFB := Lib.hid (fun b hb => gBits_wf HO.out hands s b hb)
      rw [hend] at hRG
      have HEQ := Lib.hid hst
      have hnb : ((n : Int) == 0) = false := by simp; omega
      have hq : (100 * wk).tdiv (s : Int) = 100 * wk / (s : Int) := Int.tdiv_eq_ediv_of_nonneg (by omega)
      have HSP : Hid (speedF l2 s = (100 * wk).tdiv (s : Int)) := by show _ = _; rw [hsb.out, if_neg (by omega), hq]
      have hqb : 0 ≤ (100 * wk).tdiv (s : Int) ∧ (100 * wk).tdiv (s : Int) ≤ 100 * wk := by
        rw [hq]; exact ⟨Int.ediv_nonneg (by omega) (by omega), Int.ediv_le_self _ (by omega)⟩
      have hb : ((s : Int) == 0) = false := by simp; omega
      obtain ⟨sp, hsp⟩ : ∃ x, (100 * wk).tdiv (s : Int) = x := ⟨_, rfl⟩
      rw [hsp] at hqb HSP
      have hw64 : wrap64 sp = sp := by unfold wrap64; omega
      clear hst hend hq hn0 hsb
      go_wp2_with fail
      refine hR.mono ?_
      rintro e w15 ⟨rfl, ho15⟩
      have ho15 := ho14.trans ho15 (by simp)
      clear hR ho14
      go_wp2_with fail
      refine (hWk.out w15 ho15).mono ?_
      rintro e w16 ⟨rfl, rfl⟩
      clear hWk
      go_wp2_with fail
      refine (hRG.out w16 ho15).mono ?_
      rintro e w17 ⟨vg, rfl, hOB, ho17⟩
      have HAT := hOB.at
      have hst := ref_Steps vg _ w17 HAT (fun b hb => by have := HWFB.out b hb; omega) (by have := HB6.out; omega)
      rw [HEQ.out] at hst
      have ho17 := ho15.trans ho17 (by simp)
      clear hRG hOB HAT ho15
      go_wp2_with fail
      refine hst.mono ?_
      rintro e w18 ⟨rfl, ho18⟩
      have ho18 := ho17.trans ho18 (by simp)
      clear hst ho17
      go_wp2_with fail
      refine (hSp.out w18 ho18).mono ?_
      rintro e w19 ⟨s9, rfl, hE2, ho19⟩
      have hs := gEnd_unique HE.out hE2
      subst hs
      have ho19 := ho18.trans ho19 (by simp)
      rw [HSP.out]
      clear hSp hE2 ho18
      go_wp2_with fail
      refine (same_nil 0 _ true rfl).mono ?_
      rintro e w20 ⟨rfl, rfl⟩
      go_wp2
      go_ret
      exact ⟨by rfl, ho19.below (Nat.le_refl _) (by simp)⟩
  · have hSp := Lib.hid (fun w' (ho : Only [] w w') => bench_Speed_no v2 l2 a1 w' (HP.out.same ho) h0)
    obtain ⟨pa, pc, rfl, _⟩ := HP.out.task
    generalize l2.length = n at *
    have hcs : Hid ((planFault l2 ≠ 0 ∧ hErr l2 a1 = planFault l2) ∨ (planFault l2 = 0 ∧ hErr l2 a1 = 1 ∧ (a1 < 1 ∨ (1 ≤ a1 ∧ 6 < a1)))) := by
      show _ ∨ _
      by_cases hp : planFault l2 = 0
      · right
        unfold hErr at h0 ⊢
        rw [if_pos hp] at h0 ⊢
        by_cases hh : 1 ≤ a1 ∧ a1 ≤ 6
        · rw [if_pos hh] at h0; exact absurd rfl h0
        · rw [if_neg hh]; exact ⟨hp, rfl, by omega⟩
      · left; exact ⟨hp, by unfold hErr; rw [if_neg hp]⟩
    obtain ⟨E2, hE⟩ : ∃ E2, hErr l2 a1 = E2 := ⟨_, rfl⟩
    obtain ⟨pf, hpf⟩ : ∃ pf, planFault l2 = pf := ⟨_, rfl⟩
    rw [hE] at hcs hSp h0
    rw [hpf] at hcs hR
    clear hE hpf
    rcases hcs.out with ⟨hp, rfl⟩ | ⟨rfl, rfl, hh | ⟨hh, hh2⟩⟩
    all_goals
      clear hcs
      try have hp0 : (E2 == 0) = false := by simpa using h0
      try clear hp
      clear h0
      go_wp2_with fail
      refine hR.mono ?_
      rintro e w15 ⟨rfl, ho15⟩
      have ho15 := ho14.trans ho15 (by simp)
      clear hR ho14
      go_wp2_with fail
      refine (hSp.out w15 ho15).mono ?_
      rintro e w16 ⟨rfl, ho16⟩
      have ho16 := ho15.trans ho16 (by simp)
      have hgl := HG.out.only ho16
      clear hSp ho15
      go_wp2_with fail
      refine (same_err _ _ _ hgl true (by simp)).mono ?_
      rintro e w17 ⟨rfl, ho17⟩
      have ho17 := ho16.trans ho17 (by simp)
      clear hgl ho16
      go_wp2
      go_ret
      exact ⟨by rfl, ho17.below (Nat.le_refl _) (by simp)⟩

end Go.Proofs.YtadjcooemeaaeaaDoor.benchTells
