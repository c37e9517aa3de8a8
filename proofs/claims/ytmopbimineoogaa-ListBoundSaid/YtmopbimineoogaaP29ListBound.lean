/-
  Contracts of depth.WorkOf, SpanOf, Work, Span, Tails.
  What depth and greedy answer of plans that are wrong.
  Plans and lists written out in the text.
  Tasks one behind the other, and beside each other, as plans.
  Tasks one behind the other, and beside each other: they are plans. No program is named here.
  Plans written out in the text are right: by a test.
  Contract of judge.ready.
-/
import Derived.Test.YtmopbimineoogaaP28ListBound
import Derived.Test.YtmopbimineoogaaP5ListBound
import Derived.Test.YtmopbimineoogaaP25ListBound
namespace Go.Proofs.Ytmopbimineoogaa
open Go.RowKit Go.Deep

set_option maxRecDepth 100000 in
theorem depth_WorkOf (v : Value) (p : PlanL) (w : World) (h : InPlan w v p) (hok : PlanOk p) :
    Calls Try.prog 18 #[v] w fun e w' => e = .returned (.int .i64 (workF p)) ∧ Only [] w w' := by
  have HP := Lib.hid h
  have HO := Lib.hid hok
  obtain ⟨a, cap, rfl, hc1, hc2, _⟩ := h.task
  obtain ⟨n, hn⟩ : ∃ n, p.length = n := ⟨_, rfl⟩
  have HL := Lib.hid hn
  unfold workF
  rw [hn] at hc1 HP ⊢
  have h30 : n ≤ 30 := by rw [← hn]; exact hok.len
  clear h hn hok
  go_enter Try.func18, Try.ntmps18
  go_wp2
  go_loopw [3, 8] (fun vn vi wr => ∃ k : Nat, k ≤ n ∧ vi = .int .i64 k ∧ vn = .int .i64 (sumI (wkOf p) k) ∧ Only [] w wr) (fun _ vi _ => n - (intOf vi).toNat)
  case atStart => exact ⟨0, Nat.zero_le _, rfl, rfl, Only.refl _ _⟩
  case round =>
    obtain ⟨k, hk, rfl, rfl, ho⟩ := hrel
    by_cases hkn : k < n
    · obtain ⟨b, off, rfl⟩ := HP.out.any k (by rw [HL.out]; exact hkn)
      obtain ⟨ua, uc, c0, c1, _⟩ := (HP.out.same ho).at k (by rw [HL.out]; exact hkn)
      have hw := HO.out.work k (by rw [HL.out]; exact hkn)
      have hs := workK_bd HO.out k (by rw [HL.out]; exact hk)
      have hst : Hid (sumI (wkOf p) (k + 1) = sumI (wkOf p) k + wkOf p k) := rfl
      generalize sumI (wkOf p) k = s at *
      generalize wkOf p k = x at *
      generalize (ndOf p k).length = m at *
      have ho3 := ho.alloc (.cells #[.int .i64 x, .slice ua m uc] 26)
      go_wp2
      go_roundw
      case rel => exact ⟨k + 1, by omega, by go_num, by rw [hst.out], ho3⟩
      case measure => (simp [intOf]; try omega)
    · obtain rfl : k = n := by omega
      go_wp2
      go_ret
      exact ⟨rfl, ho⟩

set_option maxRecDepth 100000 in
theorem depth_SpanOf (v : Value) (p : PlanL) (w : World) (h : InPlan w v p) (hok : PlanOk p) :
    Calls Try.prog 19 #[v] w fun e w' => e = .returned (.int .i64 (spanF p)) ∧ Only [] w w' := by
  have ht := depth_TailsOf v p w h hok
  have HO := Lib.hid hok
  unfold spanF
  have h30 := hok.len
  obtain ⟨n, hn⟩ : ∃ n, p.length = n := ⟨_, rfl⟩
  have HL := Lib.hid hn
  rw [hn] at ht h30 ⊢
  clear h hok hn
  go_enter Try.func19, Try.ntmps19
  go_wp2_with fail
  refine ht.mono ?_
  rintro e w1 ⟨v', rfl, ⟨A, rfl, _, hB⟩, ho⟩
  clear ht
  go_wp2_with fail
  go_loopw [3, 9] (fun vn vi wr => ∃ k : Nat, k ≤ n ∧ vi = .int .i64 k ∧ vn = .int .i64 (maxL ((List.range k).map (tailF p))) ∧ wr = w1) (fun _ vi _ => n - (intOf vi).toNat)
  case atStart => exact ⟨0, Nat.zero_le _, rfl, rfl, rfl⟩
  case round =>
    obtain ⟨k, hk, rfl, rfl, rfl⟩ := hrel
    by_cases hkn : k < n
    · have cA := (hB k hkn).1
      have hst : Hid (maxL ((List.range (k + 1)).map (tailF p)) = max (maxL ((List.range k).map (tailF p))) (tailF p k)) := by
        show _ = _
        rw [List.range_succ, List.map_append, List.map_singleton, maxL_snoc]
      generalize maxL ((List.range k).map (tailF p)) = s at *
      generalize tailF p k = x at *
      have HK := Lib.hid hkn
      go_wp2
      all_goals
        go_roundw
        case rel => exact ⟨k + 1, HK.out, by go_num, by rw [hst.out]; try (congr 1 <;> omega), by first | rfl | trivial⟩
        case measure => (have := HK.out; simp [intOf]; try omega)
    · obtain rfl : k = n := by omega
      go_wp2
      go_ret
      exact ⟨rfl, ho⟩


theorem depth_Work (v : Value) (p : PlanL) (w : World) (h : InPlan w v p) (hok : PlanOk p) :
    Calls Try.prog 9 #[v] w fun e w' => e = .returned (.tuple #[.int .i64 (workF p), .nilIface]) ∧ Only [] w w' := by
  have hr := plan_Right v p w h
  rw [(planOk_iff p).1 hok, errV_zero] at hr
  have hg := fun w' (ho : Only [] w w') => depth_WorkOf v p w' (h.same ho) hok
  generalize workF p = x at *
  have HG := Lib.hid hg
  clear h hok hg
  go_enter Try.func9, Try.ntmps9
  go_wp2_with fail
  refine hr.mono ?_
  rintro e w1 ⟨rfl, ho⟩
  clear hr
  go_wp2_with fail
  refine (HG.out w1 ho).mono ?_
  rintro e w2 ⟨rfl, ho2⟩
  have hoo := ho.trans ho2 (by simp)
  go_wp2
  go_ret2
  exact ⟨rfl, hoo⟩

theorem depth_Span (v : Value) (p : PlanL) (w : World) (h : InPlan w v p) (hok : PlanOk p) :
    Calls Try.prog 10 #[v] w fun e w' => e = .returned (.tuple #[.int .i64 (spanF p), .nilIface]) ∧ Only [] w w' := by
  have hr := plan_Right v p w h
  rw [(planOk_iff p).1 hok, errV_zero] at hr
  have hg := fun w' (ho : Only [] w w') => depth_SpanOf v p w' (h.same ho) hok
  generalize spanF p = x at *
  have HG := Lib.hid hg
  clear h hok hg
  go_enter Try.func10, Try.ntmps10
  go_wp2_with fail
  refine hr.mono ?_
  rintro e w1 ⟨rfl, ho⟩
  clear hr
  go_wp2_with fail
  refine (HG.out w1 ho).mono ?_
  rintro e w2 ⟨rfl, ho2⟩
  have hoo := ho.trans ho2 (by simp)
  go_wp2
  go_ret2
  exact ⟨rfl, hoo⟩

end Go.Proofs.Ytmopbimineoogaa

namespace Go.Proofs.Ytmopbimineoogaa
open Go.RowKit Go.Deep

theorem depth_Work_no (v : Value) (p : PlanL) (w : World) (h : InPlan w v p) (he : planFault p ≠ 0) :
    Calls Try.prog 9 #[v] w fun e w' => e = .returned (.tuple #[.int .i64 0, .iface 55 (.int .i64 (planFault p))]) ∧ Only [] w w' := by
  have hr := plan_Right v p w h
  rw [errV_ne he] at hr
  generalize planFault p = f at *
  clear h he
  go_enter Try.func9, Try.ntmps9
  go_wp2_with fail
  refine hr.mono ?_
  rintro e w1 ⟨rfl, ho⟩
  clear hr
  go_wp2
  go_ret2
  exact ⟨rfl, ho⟩

theorem depth_Span_no (v : Value) (p : PlanL) (w : World) (h : InPlan w v p) (he : planFault p ≠ 0) :
    Calls Try.prog 10 #[v] w fun e w' => e = .returned (.tuple #[.int .i64 0, .iface 55 (.int .i64 (planFault p))]) ∧ Only [] w w' := by
  have hr := plan_Right v p w h
  rw [errV_ne he] at hr
  generalize planFault p = f at *
  clear h he
  go_enter Try.func10, Try.ntmps10
  go_wp2_with fail
  refine hr.mono ?_
  rintro e w1 ⟨rfl, ho⟩
  clear hr
  go_wp2
  go_ret2
  exact ⟨rfl, ho⟩


end Go.Proofs.Ytmopbimineoogaa

namespace Go.Proofs.Ytmopbimineoogaa
open Go.RowKit

theorem lit_ints {W : World} {b : Nat} {cs : Array Value} {t : TypeId} (h : W.heap[b]? = some (.cells cs t (0, 0))) (l : List Int) (hcs : cs.toList = l.map (Value.int .i64)) (hn : l.length ≤ 1000) :
    Reads W (.slice (some ⟨b, 0, none⟩) l.length l.length) l := by
  by_cases h0 : l = []
  · subst h0
    exact .inl ⟨rfl, .inr ⟨_, 0, rfl, by unfold maxLen; omega⟩⟩
  · refine .inr ⟨List.length_pos_iff.2 h0, b, 0, l.length, rfl, Nat.le_refl _, by unfold maxLen; omega, fun i hi => ?_⟩
    rw [Nat.zero_add, cell_of_row W b i cs t (0, 0) h, ← Array.getElem?_toList, hcs]
    simp [nth, hi]

theorem lit_plan {W : World} {B : Nat} {cs : Array Value} {t : TypeId} (h : W.heap[B]? = some (.cells cs t (0, 0))) (p : PlanL) (N : Nat → Value) (hcs : cs.toList = flatP p N p.length) (hn : p.length ≤ 1000)
    (hr : ∀ i, i < p.length → Reads W (N i) (ndOf p i)) : InPlan W (.slice (some ⟨B, 0, none⟩) p.length p.length) p := by
  refine ⟨N, ⟨_, p.length, rfl, Nat.le_refl _, by unfold maxLen; omega, (fun h => by cases h), fun i hi => ⟨B, 0, rfl, ?_, ?_⟩⟩, hr, fun _ _ _ => trivial, fun _ _ _ _ _ => trivial⟩
  · rw [Nat.zero_add, cell_of_row W B _ cs t (0, 0) h, ← Array.getElem?_toList, hcs]
    exact flatP_0 _ _ _ _ hi
  · rw [Nat.zero_add, cell_of_row W B _ cs t (0, 0) h, ← Array.getElem?_toList, hcs]
    exact flatP_1 _ _ _ _ hi

theorem heap_alloc_old (w : World) (o : Obj) (k : Nat) (h : k < w.heap.size) : (w.alloc o).heap[k]? = w.heap[k]? := Below.heap_alloc w o k h
theorem heap_alloc_at (w : World) (o : Obj) (k : Nat) (h : k = w.heap.size) : (w.alloc o).heap[k]? = some o := by subst h; exact heap_alloc_new w o

/-- Two tasks of one unit each, the second behind the first. -/
theorem lit_two (W : World) : InPlan ((W.alloc (.cells #[.int .i64 0] 3)).alloc (.cells #[.int .i64 1, .slice none 0 0, .int .i64 1, .slice (some ⟨W.heap.size, 0, none⟩) 1 1] 26)) (.slice (some ⟨W.heap.size + 1, 0, none⟩) 2 2) [(1, []), (1, [0])] := by
  refine lit_plan (heap_alloc_at _ _ _ (by simp)) [(1, []), (1, [0])] (fun i => if i = 0 then .slice none 0 0 else .slice (some ⟨W.heap.size, 0, none⟩) 1 1) ?_ (by simp) ?_
  · rfl
  · intro i hi
    have : i = 0 ∨ i = 1 := by simp at hi; omega
    rcases this with rfl | rfl
    · exact .inl ⟨rfl, .inl rfl⟩
    · refine lit_ints (cs := #[.int .i64 0]) (t := 3) ?_ [0] rfl (by simp)
      rw [heap_alloc_old _ _ _ (by simp)]
      exact heap_alloc_new _ _

end Go.Proofs.Ytmopbimineoogaa

namespace Go.Proofs.Ytmopbimineoogaa
open Go.RowKit Go.Deep

def chainT (work : Int) (i : Nat) : Int × List Int := (work, if i = 0 then [] else [(i : Int) - 1])
def chainP (n : Nat) (work : Int) : PlanL := (List.range n).map (chainT work)
def besideP (n : Nat) (work : Int) : PlanL := (List.range n).map fun _ => (work, [])
theorem chainP_len (n : Nat) (work : Int) : (chainP n work).length = n := by simp [chainP]
theorem besideP_len (n : Nat) (work : Int) : (besideP n work).length = n := by simp [besideP]
theorem chainP_push (n : Nat) (work : Int) : chainP n work ++ [chainT work n] = chainP (n + 1) work := by simp [chainP, List.range_succ]
theorem besideP_push (n : Nat) (work : Int) : besideP n work ++ [(work, [])] = besideP (n + 1) work := by simp [besideP, List.range_succ]

end Go.Proofs.Ytmopbimineoogaa

namespace Go.Proofs.Ytmopbimineoogaa

theorem chain_wk (n : Nat) (work : Int) (i : Nat) (h : i < n) : wkOf (chainP n work) i = work := by simp [wkOf, chainP, h, chainT]
theorem chain_nd (n : Nat) (work : Int) (i : Nat) (h : i < n) : ndOf (chainP n work) i = if i = 0 then [] else [(i : Int) - 1] := by simp [ndOf, chainP, h, chainT]
theorem beside_wk (n : Nat) (work : Int) (i : Nat) (h : i < n) : wkOf (besideP n work) i = work := by simp [wkOf, besideP, h]
theorem beside_nd (n : Nat) (work : Int) (i : Nat) : ndOf (besideP n work) i = [] := by
  by_cases h : i < n
  · simp [ndOf, besideP, h]
  · exact ndOf_none _ _ (by rw [besideP_len]; omega)

/-- Where each needs only those ahead of it nobody needs itself. -/
theorem acyc_of {p : PlanL} (h : ∀ i k : Nat, (k : Int) ∈ ndOf p i → k < i) (i k : Nat) (hr : Reach p i k) : k < i := by
  induction hr with
  | one hk => exact h _ _ hk
  | more _ hk ih => have := h _ _ hk; omega

theorem chain_need {n : Nat} {work : Int} {i k : Nat} (h : (k : Int) ∈ ndOf (chainP n work) i) : k < i := by
  by_cases hi : i < n
  · rw [chain_nd _ _ _ hi] at h
    split at h
    · cases h
    · simp at h; omega
  · rw [ndOf_none _ _ (by rw [chainP_len]; omega)] at h; cases h

theorem chain_ok (n : Nat) (work : Int) (hn : n ≤ 30) (h1 : 1 ≤ work) (h2 : work ≤ 20) : PlanOk (chainP n work) := by
  refine ⟨by rw [chainP_len]; exact hn, fun i hi => ?_, fun i hi hr => ?_⟩
  · rw [chainP_len] at hi ⊢
    have e : (chainP n work)[i]?.getD (0, []) = chainT work i := by simp [chainP, hi]
    rw [e]
    unfold taskFault chainT
    have hany : (if i = 0 then ([] : List Int) else [(i : Int) - 1]).any (outOf n) = false := by
      split
      · rfl
      · simp [outOf]; omega
    have hris : rising (if i = 0 then ([] : List Int) else [(i : Int) - 1]) = true := by split <;> rfl
    simp only [hany, hris]
    rw [if_neg (by simp; omega)]
    rfl
  · have := acyc_of (fun i k => chain_need) i i hr
    omega

theorem beside_ok (n : Nat) (work : Int) (hn : n ≤ 30) (h1 : 1 ≤ work) (h2 : work ≤ 20) : PlanOk (besideP n work) := by
  refine ⟨by rw [besideP_len]; exact hn, fun i hi => ?_, fun i hi hr => ?_⟩
  · rw [besideP_len] at hi ⊢
    have e : (besideP n work)[i]?.getD (0, []) = (work, []) := by simp [besideP, hi]
    rw [e]
    unfold taskFault
    rw [if_neg (by simp; omega)]
    rfl
  · have := acyc_of (fun i k h => by rw [beside_nd] at h; cases h) i i hr
    omega

end Go.Proofs.Ytmopbimineoogaa

namespace Go.Proofs.Ytmopbimineoogaa
open Go.RowKit

/-- Each task is right by itself, and needs only those ahead of it. -/
def litOk (p : PlanL) : Bool := decide (p.length ≤ 30) && (List.range p.length).all fun i => decide (taskFault p.length (p[i]?.getD (0, [])) = 0) && (ndOf p i).all fun k => decide (k < i)

theorem litOk_ok {p : PlanL} (h : litOk p = true) : PlanOk p := by
  unfold litOk at h
  simp only [Bool.and_eq_true, decide_eq_true_eq, List.all_eq_true, List.mem_range] at h
  obtain ⟨h1, h2⟩ := h
  refine ⟨h1, fun i hi => (h2 i hi).1, fun i hi hr => ?_⟩
  have := acyc_of (p := p) (fun i k hk => by
    by_cases hi : i < p.length
    · have := (h2 i hi).2 (k : Int) hk
      omega
    · rw [ndOf_none _ _ (by omega)] at hk; cases hk) i i hr
  omega

/-- A row of numbers that is written out. -/
theorem lit_row {W : World} {b : Nat} (l : List Int) (h : W.heap[b]? = some (.cells (l.map (Value.int .i64)).toArray 3 (0, 0))) (hn : l.length ≤ 1000) : Reads W (.slice (some ⟨b, 0, none⟩) l.length l.length) l :=
  lit_ints h l (by simp) hn

end Go.Proofs.Ytmopbimineoogaa

namespace Go.Proofs.Ytmopbimineoogaa
open Go.RowKit Go.Deep

set_option maxRecDepth 100000 in
theorem judge_ready (v : Value) (p : PlanL) (hands : Int) (w : World) (h : InPlan w v p) :
    Calls Try.prog 25 #[v, .int .i64 hands] w fun e w' => e = .returned (errV (hErr p hands)) ∧ Only [] w w' := by
  have hr := plan_Right v p w h
  unfold hErr
  obtain ⟨f, hf⟩ : ∃ f, planFault p = f := ⟨_, rfl⟩
  rw [hf] at hr ⊢
  clear hf h
  by_cases h0 : f = 0
  · subst h0
    rw [if_pos rfl]
    rw [errV_zero] at hr
    by_cases hh : 1 ≤ hands ∧ hands ≤ 6
    · rw [if_pos hh]
      obtain ⟨h1, h6⟩ := hh
      go_enter Try.func25, Try.ntmps25
      go_wp2_with fail
      refine hr.mono ?_
      rintro e w1 ⟨rfl, ho⟩
      clear hr
      go_wp2_with (go_at_call 22; refine (hands_yes _ _ h1 h6).mono ?_; rintro e w2 ⟨rfl, rfl⟩)
      go_ret
      exact ⟨rfl, ho⟩
    · rw [if_neg hh]
      have hh2 : hands < 1 ∨ 6 < hands := by omega
      clear hh
      go_enter Try.func25, Try.ntmps25
      go_wp2_with fail
      refine hr.mono ?_
      rintro e w1 ⟨rfl, ho⟩
      clear hr
      go_wp2_with (go_at_call 22; refine (hands_no _ _ hh2).mono ?_; rintro e w2 ⟨rfl, rfl⟩)
      go_ret
      exact ⟨rfl, ho⟩
  · rw [if_neg h0]
    have hE := errV_ne h0
    rw [hE] at hr
    have HE := Lib.hid hE
    clear h0 hE
    go_enter Try.func25, Try.ntmps25
    go_wp2_with fail
    refine hr.mono ?_
    rintro e w1 ⟨rfl, ho⟩
    clear hr
    go_wp2
    go_ret
    exact ⟨by rw [HE.out]; rfl, ho⟩

end Go.Proofs.Ytmopbimineoogaa
