/-
  Contracts of package bench, of any bits; and how fast a plan is.
-/
import Derived.Test.YtadjcooemeaaeaaDoorP7BenchTells
import Derived.Test.YtadjcooemeaaeaaDoorP22BenchTells
import Derived.Test.YtadjcooemeaaeaaDoorP23BenchTells
namespace Go.Proofs.YtadjcooemeaaeaaDoor
open Go.RowKit Go.Deep

instance (hands : Int) (b : Bt) : Decidable (bitOk hands b) := by unfold bitOk; exact inferInstance

/-- What is wrong with bits. -/
def benchErr (bs : List Bt) (hands : Int) : Int := if 600 < bs.length then 4 else if hands < 1 ∨ 6 < hands then 1 else if bs.any (fun b => !decide (bitOk hands b)) = true then 1 else 0

theorem benchErr_zero {bs : List Bt} {hands : Int} (h : benchErr bs hands = 0) : bs.length ≤ 600 ∧ 1 ≤ hands ∧ hands ≤ 6 ∧ ∀ b ∈ bs, bitOk hands b := by
  unfold benchErr at h
  split at h
  · cases h
  · split at h
    · cases h
    · split at h
      · cases h
      · rename_i h1 h2 h3
        refine ⟨by omega, by omega, by omega, fun b hb => ?_⟩
        rw [List.any_eq_true] at h3
        by_cases e : bitOk hands b
        · exact e
        · exact absurd ⟨b, hb, by simp [e]⟩ h3

set_option maxHeartbeats 4000000 in
theorem bench_check_no (v : Value) (bs : List Bt) (hands : Int) (w : World) (h : BitsAt w v bs) (hlm : bs.length ≤ 9223372036854775807) (he : benchErr bs hands ≠ 0) :
    Calls Tryd.prog 92 #[v, .int .i64 hands] w fun e w' => e = .returned (.iface 115 (.int .i64 (benchErr bs hands))) ∧ Only [] w w' := by
  obtain ⟨a, c, rfl, ha⟩ := h.opt
  obtain ⟨n, hn⟩ : ∃ n, bs.length = n := ⟨_, rfl⟩
  have HN := Lib.hid hn
  by_cases h6 : 600 < bs.length
  · have hr : benchErr bs hands = 4 := by unfold benchErr; rw [if_pos h6]
    rw [hr]
    rw [hn] at h6 hlm ⊢
    clear h hn he ha hr
    go_enter Tryd.func92, Tryd.ntmps92
    go_wp2
    go_ret
    exact ⟨rfl, Only.refl _ _⟩
  · by_cases hh : hands < 1 ∨ 6 < hands
    · have hr : benchErr bs hands = 1 := by unfold benchErr; rw [if_neg h6, if_pos hh]
      rw [hr]
      rw [hn] at h6 ⊢
      clear h hn he ha hr hlm
      go_enter Tryd.func92, Tryd.ntmps92
      go_wp2_with fail
      refine (hands_no _ _ hh).mono ?_
      rintro e w1 ⟨rfl, rfl⟩
      go_wp2
      go_ret
      exact ⟨rfl, Only.refl _ _⟩
    · have hany : bs.any (fun b => !decide (bitOk hands b)) = true := by
        unfold benchErr at he
        rw [if_neg h6, if_neg hh] at he
        by_cases e : bs.any (fun b => !decide (bitOk hands b)) = true
        · exact e
        · rw [if_neg e] at he; exact absurd rfl he
      have hr : benchErr bs hands = 1 := by unfold benchErr; rw [if_neg h6, if_neg hh, if_pos hany]
      rw [hr]
      have HANY := Lib.hid hany
      have h1 : 1 ≤ hands := by omega
      have h2 : hands ≤ 6 := by omega
      rw [hn] at h6 ha hlm ⊢
      clear h hn he hany hr hh
      go_enter Tryd.func92, Tryd.ntmps92
      go_wp2_with fail
      refine (hands_yes _ _ h1 h2).mono ?_
      rintro e w1 ⟨rfl, rfl⟩
      go_wp2_with fail
      go_loopw [19] (fun vi wr => ∃ i : Nat, i ≤ n ∧ vi = .int .i64 i ∧ (∀ j, j < i → bitOk hands (bitAt bs j)) ∧ Only [] w wr) (fun vi _ => n - (intOf vi).toNat)
      case atStart => exact ⟨0, Nat.zero_le _, rfl, fun j hj => by omega, Only.refl _ _⟩
      case round =>
        obtain ⟨i, hi, rfl, hok, ho⟩ := hrel
        have HOK := Lib.hid hok
        clear hok
        by_cases hin : i < n
        · obtain ⟨b, off, rfl, k0, k1, k2⟩ := ha i hin
          have c0 := (ho.cell (p := ⟨b, _, none⟩) (cell_lt k0) (by simp)).trans k0
          have c1 := (ho.cell (p := ⟨b, _, none⟩) (cell_lt k1) (by simp)).trans k1
          have c2 := (ho.cell (p := ⟨b, _, none⟩) (cell_lt k2) (by simp)).trans k2
          have hdec : Hid (bitOk hands (bitAt bs i) ↔ 0 ≤ (bitAt bs i).step ∧ (bitAt bs i).step ≤ 10000 ∧ 0 ≤ (bitAt bs i).hand ∧ (bitAt bs i).hand < hands ∧ 0 ≤ (bitAt bs i).task ∧ (bitAt bs i).task < 30) := Iff.rfl
          obtain ⟨b9, hb9⟩ : ∃ b9, bitAt bs i = b9 := ⟨_, rfl⟩
          have HB9 := Lib.hid hb9
          rw [hb9] at c0 c1 c2 hdec
          clear hb9
          obtain ⟨x, y, z⟩ := b9
          simp only at c0 c1 c2
          have ho2 := Lib.hid (ho.alloc (.cells #[.int .i64 x, .int .i64 y, .int .i64 z] 93))
          clear ha k0 k1 k2 ho
          by_cases hg : 0 ≤ x ∧ x ≤ 10000 ∧ 0 ≤ y ∧ y < hands ∧ 0 ≤ z ∧ z < 30
          · have HG := Lib.hid hg
            obtain ⟨g1, g2, g3, g4, g5, g6⟩ := hg
            go_wp2
            go_roundw
            case rel => exact ⟨i + 1, by omega, by go_num, fun j hj => by
              by_cases e : j = i
              · subst e; rw [HB9.out]; exact hdec.out.2 HG.out
              · exact HOK.out j (by omega), ho2.out⟩
            case measure => (simp [intOf]; try omega)
          · have hg2 : x < 0 ∨ (0 ≤ x ∧ 10000 < x) ∨ (0 ≤ x ∧ x ≤ 10000 ∧ y < 0) ∨ (0 ≤ x ∧ x ≤ 10000 ∧ 0 ≤ y ∧ hands ≤ y) ∨ (0 ≤ x ∧ x ≤ 10000 ∧ 0 ≤ y ∧ y < hands ∧ z < 0) ∨ (0 ≤ x ∧ x ≤ 10000 ∧ 0 ≤ y ∧ y < hands ∧ 0 ≤ z ∧ 30 ≤ z) := by omega
            clear hg
            rcases hg2 with g1 | ⟨g1, g2⟩ | ⟨g1, g2, g3⟩ | ⟨g1, g2, g3, g4⟩ | ⟨g1, g2, g3, g4, g5⟩ | ⟨g1, g2, g3, g4, g5, g6⟩
            all_goals
              go_wp2
              go_ret
              exact ⟨rfl, ho2.out⟩
        · exfalso
          obtain rfl : i = n := by omega
          have h9 := HANY.out
          rw [List.any_eq_true] at h9
          obtain ⟨b, hb, hb2⟩ := h9
          obtain ⟨j, hj, rfl⟩ := List.getElem_of_mem hb
          have := HOK.out j (by rw [← HN.out]; exact hj)
          have e : bitAt bs j = bs[j] := by simp [bitAt, hj]
          rw [e] at this
          simp [this] at hb2

theorem bench_busy_no (v : Value) (bs : List Bt) (hands : Int) (w : World) (h : BitsAt w v bs) (hlm : bs.length ≤ 9223372036854775807) (he : benchErr bs hands ≠ 0) :
    Calls Tryd.prog 48 #[v, .int .i64 hands] w fun e w' => e = .returned (.tuple #[.slice none 0 0, .iface 115 (.int .i64 (benchErr bs hands))]) ∧ Only [] w w' := by
  have hr := bench_check_no v bs hands w h hlm he
  generalize benchErr bs hands = f at *
  clear h he
  go_enter Tryd.func48, Tryd.ntmps48
  go_wp2_with fail
  refine hr.mono ?_
  rintro e w1 ⟨rfl, ho⟩
  clear hr
  go_wp2
  go_ret2
  exact ⟨rfl, ho⟩

theorem bench_waste_no (v : Value) (bs : List Bt) (hands : Int) (w : World) (h : BitsAt w v bs) (hlm : bs.length ≤ 9223372036854775807) (he : benchErr bs hands ≠ 0) :
    Calls Tryd.prog 51 #[v, .int .i64 hands] w fun e w' => e = .returned (.tuple #[.int .i64 0, .iface 115 (.int .i64 (benchErr bs hands))]) ∧ Only [] w w' := by
  have hr := bench_check_no v bs hands w h hlm he
  generalize benchErr bs hands = f at *
  clear h he
  go_enter Tryd.func51, Tryd.ntmps51
  go_wp2_with fail
  refine hr.mono ?_
  rintro e w1 ⟨rfl, ho⟩
  clear hr
  go_wp2
  go_ret2
  exact ⟨rfl, ho⟩

theorem bench_Row_no (v : Value) (bs : List Bt) (w : World) (h : BitsAt w v bs) (hlm : bs.length ≤ 9223372036854775807) (he : benchErr bs 6 ≠ 0) :
    Calls Tryd.prog 50 #[v] w fun e w' => e = .returned (.tuple #[.slice none 0 0, .iface 115 (.int .i64 (benchErr bs 6))]) ∧ Only [] w w' := by
  have hr := bench_check_no v bs 6 w h hlm he
  generalize benchErr bs 6 = f at *
  clear h he
  go_enter Tryd.func50, Tryd.ntmps50
  go_wp2_with fail
  refine hr.mono ?_
  rintro e w1 ⟨rfl, ho⟩
  clear hr
  go_wp2
  go_ret2
  exact ⟨rfl, ho⟩

theorem bench_Row (v : Value) (bs : List Bt) (w : World) (h : BitsAt w v bs) (hl : bs.length ≤ 600) (hok : ∀ b ∈ bs, bitOk 6 b) :
    Calls Tryd.prog 50 #[v] w fun e w' => ∃ vo, e = .returned (.tuple #[vo, .nilIface]) ∧ Ints w' w.heap.size vo (rowL bs (stepsOf bs)) ∧ Only [] w w' := by
  have hr := bench_check v bs 6 w h hl (by omega) (by omega) hok
  have HG := Lib.hid (fun w' (ho : Only [] w w') => bench_row v bs 6 w' (h.same ho) hl hok)
  clear h hl hok
  go_enter Tryd.func50, Tryd.ntmps50
  go_wp2_with fail
  refine hr.mono ?_
  rintro e w1 ⟨rfl, ho⟩
  clear hr
  go_wp2_with fail
  refine (HG.out w1 ho).mono ?_
  rintro e w2 ⟨vo, rfl, hI, ho2⟩
  have hI2 := Lib.hid (hI.mono (base' := w.heap.size) ho.size)
  have hoo := ho.trans ho2 (by simp)
  clear hI ho2
  go_wp2
  go_ret2
  exact ⟨_, rfl, hI2.out, hoo⟩

/-- How fast, in hundredths. -/
def speedF (p : PlanL) (s : Nat) : Int := if s = 0 then 100 else 100 * workF p / (s : Int)

theorem bench_Speed (v : Value) (p : PlanL) (hands : Nat) (w : World) (h : InPlan w v p) (hok : PlanOk p) (h1 : 1 ≤ hands) (h6 : hands ≤ 6) :
    Calls Tryd.prog 54 #[v, .int .i64 hands] w fun e w' => ∃ s, e = .returned (.tuple #[.int .i64 (speedF p s), .nilIface]) ∧ GEnd p hands s ∧ Only [] w w' := by
  have hl := greedy_Long v p hands w h hok h1 h6
  have hg := Lib.hid (fun w' (ho : Only [] w w') => greedy_Long v p 1 w' (h.same ho) hok (by omega) (by omega))
  have hal := Lib.hid (fun s he => greedy_alone hok (s := s) he)
  have hwb := workF_bd hok
  unfold speedF
  generalize workF p = x at *
  clear h hok
  go_enter Tryd.func54, Tryd.ntmps54
  go_wp2_with fail
  refine hl.mono ?_
  rintro e w1 ⟨s, rfl, hE, hs6, ho1⟩
  have HE := Lib.hid hE
  clear hl hE
  go_wp2_with fail
  refine (hg.out w1 ho1).mono ?_
  rintro e w2 ⟨t, rfl, hE, ht6, ho2⟩
  have ht := hal.out t hE
  have hoo := ho1.trans ho2 (by simp)
  clear hE ho1 ho2 hg hal
  subst ht
  by_cases h0 : s = 0
  · subst h0
    go_wp2
    go_ret2
    exact ⟨0, rfl, HE.out, hoo⟩
  · have hs0 : 0 < s := by omega
    have hq : (100 * (t : Int)).tdiv (s : Int) = 100 * (t : Int) / (s : Int) := Int.tdiv_eq_ediv_of_nonneg (by omega)
    have HQ : Hid ((if s = 0 then 100 else 100 * (t : Int) / (s : Int)) = 100 * (t : Int) / (s : Int)) := by show _ = _; rw [if_neg h0]
    have hb : ((s : Int) == 0) = false := by simp; omega
    clear hq h0
    go_wp2
    go_ret2
    exact ⟨s, by rw [HQ.out]; rfl, HE.out, hoo⟩

theorem bench_Speed_no (v : Value) (p : PlanL) (hands : Int) (w : World) (h : InPlan w v p) (he : hErr p hands ≠ 0) :
    Calls Tryd.prog 54 #[v, .int .i64 hands] w fun e w' => e = .returned (.tuple #[.int .i64 0, .iface 115 (.int .i64 (hErr p hands))]) ∧ Only [] w w' := by
  have hr := greedy_Long_no v p hands w h he
  generalize hErr p hands = f at *
  clear h he
  go_enter Tryd.func54, Tryd.ntmps54
  go_wp2_with fail
  refine hr.mono ?_
  rintro e w1 ⟨rfl, ho⟩
  clear hr
  go_wp2
  go_ret2
  exact ⟨rfl, ho⟩

end Go.Proofs.YtadjcooemeaaeaaDoor
