/-
  Contracts of depth.WorkOf, SpanOf, Work, Span, Tails.
-/
import Derived.Test.YtloojhnhialenaaDoorTails
namespace Go.Proofs.YtloojhnhialenaaDoor
open Go.RowKit Go.Deep

set_option maxRecDepth 100000 in
theorem depth_WorkOf (v : Value) (p : PlanL) (w : World) (h : InPlan w v p) (hok : PlanOk p) :
    Calls Tryd.prog 42 #[v] w fun e w' => e = .returned (.int .i64 (workF p)) ∧ Only [] w w' := by
  have HP := Lib.hid h
  have HO := Lib.hid hok
  obtain ⟨a, cap, rfl, hc1, hc2, _⟩ := h.task
  obtain ⟨n, hn⟩ : ∃ n, p.length = n := ⟨_, rfl⟩
  have HL := Lib.hid hn
  unfold workF
  rw [hn] at hc1 HP ⊢
  have h30 : n ≤ 30 := by rw [← hn]; exact hok.len
  clear h hn hok
  go_enter Tryd.func42, Tryd.ntmps42
  go_wp2
  go_loopw [3, 8] (fun vn vi wr => ∃ k : Nat, k ≤ n ∧ vi = .int .i64 k ∧ vn = .int .i64 (sumI (wkOf p) k) ∧ Only [] w wr) (fun _ vi _ => n - (intOf vi).toNat)
  case atStart => exact ⟨0, Nat.zero_le _, rfl, rfl, Only.refl _ _⟩
  case round =>
    obtain ⟨k, hk, rfl, rfl, ho⟩ := hrel
    by_cases hkn : k < n
    · obtain ⟨b, off, rfl⟩ := HP.out.any k (by rw [HL.out]; exact hkn)
      obtain ⟨ua, uc, c0, c1, _⟩ := (HP.out.same ho).at k (by rw [HL.out]; exact hkn)
      have hw := HO.out.work k (by rw [HL.out]; exact hkn)
      have hs := workK_bd HO.out k (by rw [HL.out]; exact hk)
      have hst : Hid (sumI (wkOf p) (k + 1) = sumI (wkOf p) k + wkOf p k) := rfl
      generalize sumI (wkOf p) k = s at *
      generalize wkOf p k = x at *
      generalize (ndOf p k).length = m at *
      have ho3 := ho.alloc (.cells #[.int .i64 x, .slice ua m uc] 53)
      go_wp2
      go_roundw
      case rel => exact ⟨k + 1, by omega, by go_num, by rw [hst.out], ho3⟩
      case measure => (simp [intOf]; try omega)
    · obtain rfl : k = n := by omega
      go_wp2
      go_ret
      exact ⟨rfl, ho⟩

set_option maxRecDepth 100000 in
theorem depth_SpanOf (v : Value) (p : PlanL) (w : World) (h : InPlan w v p) (hok : PlanOk p) :
    Calls Tryd.prog 43 #[v] w fun e w' => e = .returned (.int .i64 (spanF p)) ∧ Only [] w w' := by
  have ht := depth_TailsOf v p w h hok
  have HO := Lib.hid hok
  unfold spanF
  have h30 := hok.len
  obtain ⟨n, hn⟩ : ∃ n, p.length = n := ⟨_, rfl⟩
  have HL := Lib.hid hn
  rw [hn] at ht h30 ⊢
  clear h hok hn
  go_enter Tryd.func43, Tryd.ntmps43
  go_wp2_with fail
  refine ht.mono ?_
  rintro e w1 ⟨v', rfl, ⟨A, rfl, _, hB⟩, ho⟩
  clear ht
  go_wp2_with fail
  go_loopw [3, 9] (fun vn vi wr => ∃ k : Nat, k ≤ n ∧ vi = .int .i64 k ∧ vn = .int .i64 (maxL ((List.range k).map (tailF p))) ∧ wr = w1) (fun _ vi _ => n - (intOf vi).toNat)
  case atStart => exact ⟨0, Nat.zero_le _, rfl, rfl, rfl⟩
  case round =>
    obtain ⟨k, hk, rfl, rfl, rfl⟩ := hrel
    by_cases hkn : k < n
    · have cA := (hB k hkn).1
      have hst : Hid (maxL ((List.range (k + 1)).map (tailF p)) = max (maxL ((List.range k).map (tailF p))) (tailF p k)) := by
        show _ = _
        rw [List.range_succ, List.map_append, List.map_singleton, maxL_snoc]
      generalize maxL ((List.range k).map (tailF p)) = s at *
      generalize tailF p k = x at *
      have HK := Lib.hid hkn
      go_wp2
      all_goals
        go_roundw
        case rel => exact ⟨k + 1, HK.out, by go_num, by rw [hst.out]; try (congr 1 <;> omega), by first | rfl | trivial⟩
        case measure => (have := HK.out; simp [intOf]; try omega)
    · obtain rfl : k = n := by omega
      go_wp2
      go_ret
      exact ⟨rfl, ho⟩


theorem depth_Work (v : Value) (p : PlanL) (w : World) (h : InPlan w v p) (hok : PlanOk p) :
    Calls Tryd.prog 20 #[v] w fun e w' => e = .returned (.tuple #[.int .i64 (workF p), .nilIface]) ∧ Only [] w w' := by
  have hr := plan_Right v p w h
  rw [(planOk_iff p).1 hok, errV_zero] at hr
  have hg := fun w' (ho : Only [] w w') => depth_WorkOf v p w' (h.same ho) hok
  generalize workF p = x at *
  have HG := Lib.hid hg
  clear h hok hg
  go_enter Tryd.func20, Tryd.ntmps20
  go_wp2_with fail
  refine hr.mono ?_
  rintro e w1 ⟨rfl, ho⟩
  clear hr
  go_wp2_with fail
  refine (HG.out w1 ho).mono ?_
  rintro e w2 ⟨rfl, ho2⟩
  have hoo := ho.trans ho2 (by simp)
  go_wp2
  go_ret2
  exact ⟨rfl, hoo⟩

theorem depth_Span (v : Value) (p : PlanL) (w : World) (h : InPlan w v p) (hok : PlanOk p) :
    Calls Tryd.prog 21 #[v] w fun e w' => e = .returned (.tuple #[.int .i64 (spanF p), .nilIface]) ∧ Only [] w w' := by
  have hr := plan_Right v p w h
  rw [(planOk_iff p).1 hok, errV_zero] at hr
  have hg := fun w' (ho : Only [] w w') => depth_SpanOf v p w' (h.same ho) hok
  generalize spanF p = x at *
  have HG := Lib.hid hg
  clear h hok hg
  go_enter Tryd.func21, Tryd.ntmps21
  go_wp2_with fail
  refine hr.mono ?_
  rintro e w1 ⟨rfl, ho⟩
  clear hr
  go_wp2_with fail
  refine (HG.out w1 ho).mono ?_
  rintro e w2 ⟨rfl, ho2⟩
  have hoo := ho.trans ho2 (by simp)
  go_wp2
  go_ret2
  exact ⟨rfl, hoo⟩

end Go.Proofs.YtloojhnhialenaaDoor
