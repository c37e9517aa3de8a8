/-
  Contracts of greedy.ready, greedy.Run, greedy.Long.
  Contracts of greedy.Bound, and greedy.Long of what is wrong.
-/
import Derived.Test.YtmopbimineoogaaP33ListBound
import Derived.Test.YtmopbimineoogaaP25ListBound
import Derived.Test.YtmopbimineoogaaP29ListBound
namespace Go.Proofs.Ytmopbimineoogaa
open Go.RowKit Go.Deep

set_option maxRecDepth 100000 in
theorem greedy_ready (v : Value) (p : PlanL) (hands : Int) (w : World) (h : InPlan w v p) :
    Calls Try.prog 16 #[v, .int .i64 hands] w fun e w' => e = .returned (errV (hErr p hands)) ∧ Only [] w w' := by
  have hr := plan_Right v p w h
  unfold hErr
  obtain ⟨f, hf⟩ : ∃ f, planFault p = f := ⟨_, rfl⟩
  rw [hf] at hr ⊢
  clear hf h
  by_cases h0 : f = 0
  · subst h0
    rw [if_pos rfl]
    rw [errV_zero] at hr
    by_cases hh : 1 ≤ hands ∧ hands ≤ 6
    · rw [if_pos hh]
      obtain ⟨h1, h6⟩ := hh
      go_enter Try.func16, Try.ntmps16
      go_wp2_with fail
      refine hr.mono ?_
      rintro e w1 ⟨rfl, ho⟩
      clear hr
      go_wp2_with (go_at_call 22; refine (hands_yes _ _ h1 h6).mono ?_; rintro e w2 ⟨rfl, rfl⟩)
      go_ret
      exact ⟨rfl, ho⟩
    · rw [if_neg hh]
      have hh2 : hands < 1 ∨ 6 < hands := by omega
      clear hh
      go_enter Try.func16, Try.ntmps16
      go_wp2_with fail
      refine hr.mono ?_
      rintro e w1 ⟨rfl, ho⟩
      clear hr
      go_wp2_with (go_at_call 22; refine (hands_no _ _ hh2).mono ?_; rintro e w2 ⟨rfl, rfl⟩)
      go_ret
      exact ⟨rfl, ho⟩
  · rw [if_neg h0]
    have hE := errV_ne h0
    rw [hE] at hr
    have HE := Lib.hid hE
    clear h0 hE
    go_enter Try.func16, Try.ntmps16
    go_wp2_with fail
    refine hr.mono ?_
    rintro e w1 ⟨rfl, ho⟩
    clear hr
    go_wp2
    go_ret
    exact ⟨by rw [HE.out]; rfl, ho⟩

set_option maxRecDepth 100000 in
theorem greedy_Run (v : Value) (p : PlanL) (hands : Nat) (w : World) (h : InPlan w v p) (hok : PlanOk p) (h1 : 1 ≤ hands) (h6 : hands ≤ 6) :
    Calls Try.prog 7 #[v, .int .i64 hands] w fun e w' => ∃ v' s, e = .returned (.tuple #[v', .nilIface]) ∧ GEnd p hands s ∧ OwnBits w' w.heap.size v' (gBits p hands s) ∧ Only [] w w' := by
  have hr := greedy_ready v p hands w h
  rw [hErr_ok hok (by omega) (by omega), errV_zero] at hr
  have hg := fun w' (ho : Only [] w w') => greedy_run v p hands w' (h.same ho) hok h1 h6
  have HG := Lib.hid hg
  clear hg h hok
  go_enter Try.func7, Try.ntmps7
  go_wp2_with fail
  refine hr.mono ?_
  rintro e w1 ⟨rfl, ho⟩
  clear hr
  go_wp2_with fail
  refine (HG.out w1 ho).mono ?_
  rintro e w2 ⟨v', s, rfl, hE, hO, ho2⟩
  have hO2 : Hid (OwnBits w2 w.heap.size v' (gBits p hands s)) := Row.mono hO ho.size
  have hoo := ho.trans ho2 (by simp)
  clear hO ho ho2
  go_wp2
  go_ret2
  exact ⟨_, s, rfl, hE, hO2.out, hoo⟩

set_option maxRecDepth 100000 in
theorem greedy_Run_no (v : Value) (p : PlanL) (hands : Int) (w : World) (h : InPlan w v p) (he : hErr p hands ≠ 0) :
    Calls Try.prog 7 #[v, .int .i64 hands] w fun e w' => e = .returned (.tuple #[.slice none 0 0, .iface 55 (.int .i64 (hErr p hands))]) ∧ Only [] w w' := by
  have hr := greedy_ready v p hands w h
  rw [errV_ne he] at hr
  generalize hErr p hands = f at *
  clear h he
  go_enter Try.func7, Try.ntmps7
  go_wp2_with fail
  refine hr.mono ?_
  rintro e w1 ⟨rfl, ho⟩
  clear hr
  go_wp2
  go_ret2
  exact ⟨rfl, ho⟩

theorem gBits_last (p : PlanL) (hands s : Nat) (h : GEnd p hands s) (h0 : 0 < (gBits p hands s).length) : 0 < s ∧ (bitAt (gBits p hands s) ((gBits p hands s).length - 1)).step = (s : Int) - 1 := by
  rcases s with _ | s
  · simp [gBits] at h0
  · refine ⟨by omega, ?_⟩
    have h1 := h.2 s (by omega)
    have hl := List.length_pos_iff.2 h1
    unfold bitAt
    rw [gBits, List.length_append, rowBits_len, List.getElem?_append_right (by omega)]
    have e : (gBits p hands s).length + (gAt p hands s).length - 1 - (gBits p hands s).length = (gAt p hands s).length - 1 := by omega
    rw [e]
    unfold rowBits
    rw [List.getElem?_map, List.getElem?_range (by omega)]
    simp

theorem gBits_empty (p : PlanL) (hands s : Nat) (h : GEnd p hands s) (h0 : (gBits p hands s).length = 0) : s = 0 := by
  have := gBits_steps p hands s h.2
  omega

set_option maxRecDepth 100000 in
theorem greedy_Long (v : Value) (p : PlanL) (hands : Nat) (w : World) (h : InPlan w v p) (hok : PlanOk p) (h1 : 1 ≤ hands) (h6 : hands ≤ 6) :
    Calls Try.prog 6 #[v, .int .i64 hands] w fun e w' => ∃ s : Nat, e = .returned (.tuple #[.int .i64 s, .nilIface]) ∧ GEnd p hands s ∧ s ≤ 600 ∧ Only [] w w' := by
  have hg := greedy_Run v p hands w h hok h1 h6
  have h600 := fun s => gBits_600 p hands s hok
  have H6 := Lib.hid h600
  clear h h600 hok
  go_enter Try.func6, Try.ntmps6
  go_wp2_with fail
  refine hg.mono ?_
  rintro e w1 ⟨v', s, rfl, hE, hO, ho⟩
  clear hg
  have hs := gBits_steps p hands s hE.2
  have hs2 := H6.out s
  have hst : Hid (s ≤ 600) := by show _ ≤ _; omega
  obtain ⟨a, cap, rfl, hc⟩ := (OwnBits.at hO).opt
  have he := gBits_empty p hands s hE
  have hl := gBits_last p hands s hE
  obtain ⟨q, hq⟩ : ∃ q, (gBits p hands s).length = q := ⟨_, rfl⟩
  rw [hq] at hc he hl hs hs2
  have HE := Lib.hid hE
  clear hO hE
  by_cases h0 : q = 0
  · have hs0 := he h0
    subst hs0 h0
    clear hc he hl
    go_wp2
    go_ret2
    exact ⟨0, rfl, HE.out, by omega, ho⟩
  · obtain ⟨b, off, rfl, c0, _, _⟩ := hc (q - 1) (by omega)
    obtain ⟨hs0, hl2⟩ := hl (by omega)
    rw [hl2] at c0
    obtain ⟨k, rfl⟩ : ∃ k, q = k + 1 := ⟨q - 1, by omega⟩
    obtain ⟨t, rfl⟩ : ∃ t, s = t + 1 := ⟨s - 1, by omega⟩
    rw [show k + 1 - 1 = k by omega, show (((t + 1 : Nat) : Int) - 1) = (t : Int) by omega] at c0
    clear hc he hl hl2 h0 hs0
    go_wp2
    go_ret2
    exact ⟨t + 1, by simp, HE.out, hst.out, ho⟩

end Go.Proofs.Ytmopbimineoogaa

namespace Go.Proofs.Ytmopbimineoogaa
open Go.RowKit Go.Deep

theorem workF_bd {p : PlanL} (h : PlanOk p) : (p.length : Int) ≤ workF p ∧ workF p ≤ 600 := workK_bd h p.length (Nat.le_refl _)

theorem greedy_Long_no (v : Value) (p : PlanL) (hands : Int) (w : World) (h : InPlan w v p) (he : hErr p hands ≠ 0) :
    Calls Try.prog 6 #[v, .int .i64 hands] w fun e w' => e = .returned (.tuple #[.int .i64 0, .iface 55 (.int .i64 (hErr p hands))]) ∧ Only [] w w' := by
  have hr := greedy_Run_no v p hands w h he
  generalize hErr p hands = f at *
  clear h he
  go_enter Try.func6, Try.ntmps6
  go_wp2_with fail
  refine hr.mono ?_
  rintro e w1 ⟨rfl, ho⟩
  clear hr
  go_wp2
  go_ret2
  exact ⟨rfl, ho⟩

theorem greedy_Bound_no (v : Value) (p : PlanL) (hands : Int) (w : World) (h : InPlan w v p) (he : hErr p hands ≠ 0) :
    Calls Try.prog 8 #[v, .int .i64 hands] w fun e w' => e = .returned (.tuple #[.int .i64 0, .iface 55 (.int .i64 (hErr p hands))]) ∧ Only [] w w' := by
  have hr := greedy_ready v p hands w h
  rw [errV_ne he] at hr
  generalize hErr p hands = f at *
  clear h he
  go_enter Try.func8, Try.ntmps8
  go_wp2_with fail
  refine hr.mono ?_
  rintro e w1 ⟨rfl, ho⟩
  clear hr
  go_wp2
  go_ret2
  exact ⟨rfl, ho⟩

/-- Graham's bound. -/
def boundF (p : PlanL) (hands : Int) : Int := (workF p + (hands - 1) * spanF p) / hands

theorem bound_num (s k : Int) (h1 : 1 ≤ k) (h6 : k ≤ 6) (hs : 0 ≤ s ∧ s ≤ 600) : 0 ≤ (k - 1) * s ∧ (k - 1) * s ≤ 3000 := by
  refine ⟨Int.mul_nonneg (by omega) hs.1, ?_⟩
  have h := Int.mul_le_mul (show k - 1 ≤ 5 by omega) hs.2 hs.1 (by omega)
  omega

theorem greedy_Bound (v : Value) (p : PlanL) (hands : Int) (w : World) (h : InPlan w v p) (hok : PlanOk p) (h1 : 1 ≤ hands) (h6 : hands ≤ 6) :
    Calls Try.prog 8 #[v, .int .i64 hands] w fun e w' => e = .returned (.tuple #[.int .i64 (boundF p hands), .nilIface]) ∧ Only [] w w' := by
  have hr := greedy_ready v p hands w h
  rw [hErr_ok hok h1 h6, errV_zero] at hr
  have hw := fun w' (ho : Only [] w w') => depth_WorkOf v p w' (h.same ho) hok
  have hs := fun w' (ho : Only [] w w') => depth_SpanOf v p w' (h.same ho) hok
  have hwb := workF_bd hok
  have hsb := spanF_bd hok
  unfold boundF
  generalize workF p = x at *
  generalize spanF p = s at *
  have hn := bound_num s hands h1 h6 hsb
  have HW := Lib.hid hw
  have HS := Lib.hid hs
  clear h hok hw hs
  go_enter Try.func8, Try.ntmps8
  go_wp2_with fail
  refine hr.mono ?_
  rintro e w1 ⟨rfl, ho⟩
  clear hr
  go_wp2_with fail
  refine (HW.out w1 ho).mono ?_
  rintro e w2 ⟨rfl, ho2⟩
  have ho2 := ho.trans ho2 (by simp)
  go_wp2_with fail
  refine (HS.out w2 ho2).mono ?_
  rintro e w3 ⟨rfl, ho3⟩
  have ho3 := ho2.trans ho3 (by simp)
  go_wp2
  go_ret2
  exact ⟨rfl, ho3⟩

end Go.Proofs.Ytmopbimineoogaa
