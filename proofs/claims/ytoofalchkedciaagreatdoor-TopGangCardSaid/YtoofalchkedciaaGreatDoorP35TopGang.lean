/-
  Contracts of greedy.ready, greedy.Run, greedy.Long.
  Tasks one behind the other, and beside each other, as plans.
  Tasks one behind the other, and beside each other: they are plans. No program is named here.
  Plans written out in the text are right: by a test.
  Contract of yardtop.one: the closed fact.
  Contract of yardsame.Cells.
  Contracts of depth.WorkOf, Work.
  Slices of slices of ints that came in.
-/
import Derived.Test.YtoofalchkedciaaGreatDoorP34TopGang
import Derived.Test.YtoofalchkedciaaGreatDoorP18TopGang
import Derived.Test.YtoofalchkedciaaGreatDoorP7TopGang
import Derived.Test.YtoofalchkedciaaGreatDoorP23TopGang
import Derived.Test.YtoofalchkedciaaGreatDoorP27TopGang
import Derived.Test.YtoofalchkedciaaGreatDoorP8TopGang
import Derived.Test.YtoofalchkedciaaGreatDoorP12TopGang
import Derived.Test.YtoofalchkedciaaGreatDoorP5TopGang
import Derived.Deep.Matrix
namespace Go.Proofs.YtoofalchkedciaaGreatDoor
open Go.RowKit Go.Deep

set_option maxRecDepth 100000 in
theorem greedy_ready (v : Value) (p : PlanL) (hands : Int) (w : World) (h : InPlan w v p) :
    Calls Tryz.prog 129 #[v, .int .i64 hands] w fun e w' => e = .returned (errV (hErr p hands)) ∧ Only [] w w' := by
  have hr := plan_Right v p w h
  unfold hErr
  obtain ⟨f, hf⟩ : ∃ f, planFault p = f := ⟨_, rfl⟩
  rw [hf] at hr ⊢
  clear hf h
  by_cases h0 : f = 0
  · subst h0
    rw [if_pos rfl]
    rw [errV_zero] at hr
    by_cases hh : 1 ≤ hands ∧ hands ≤ 6
    · rw [if_pos hh]
      obtain ⟨h1, h6⟩ := hh
      go_enter Tryz.func129, Tryz.ntmps129
      go_wp2_with fail
      refine hr.mono ?_
      rintro e w1 ⟨rfl, ho⟩
      clear hr
      go_wp2_with (go_at_call 61; refine (hands_yes _ _ h1 h6).mono ?_; rintro e w2 ⟨rfl, rfl⟩)
      go_ret
      exact ⟨rfl, ho⟩
    · rw [if_neg hh]
      have hh2 : hands < 1 ∨ 6 < hands := by omega
      clear hh
      go_enter Tryz.func129, Tryz.ntmps129
      go_wp2_with fail
      refine hr.mono ?_
      rintro e w1 ⟨rfl, ho⟩
      clear hr
      go_wp2_with (go_at_call 61; refine (hands_no _ _ hh2).mono ?_; rintro e w2 ⟨rfl, rfl⟩)
      go_ret
      exact ⟨rfl, ho⟩
  · rw [if_neg h0]
    have hE := errV_ne h0
    rw [hE] at hr
    have HE := Lib.hid hE
    clear h0 hE
    go_enter Tryz.func129, Tryz.ntmps129
    go_wp2_with fail
    refine hr.mono ?_
    rintro e w1 ⟨rfl, ho⟩
    clear hr
    go_wp2
    go_ret
    exact ⟨by rw [HE.out]; rfl, ho⟩

set_option maxRecDepth 100000 in
theorem greedy_Run (v : Value) (p : PlanL) (hands : Nat) (w : World) (h : InPlan w v p) (hok : PlanOk p) (h1 : 1 ≤ hands) (h6 : hands ≤ 6) :
    Calls Tryz.prog 84 #[v, .int .i64 hands] w fun e w' => ∃ v' s, e = .returned (.tuple #[v', .nilIface]) ∧ GEnd p hands s ∧ OwnBits w' w.heap.size v' (gBits p hands s) ∧ Only [] w w' := by
  have hr := greedy_ready v p hands w h
  rw [hErr_ok hok (by omega) (by omega), errV_zero] at hr
  have hg := fun w' (ho : Only [] w w') => greedy_run v p hands w' (h.same ho) hok h1 h6
  have HG := Lib.hid hg
  clear hg h hok
  go_enter Tryz.func84, Tryz.ntmps84
  go_wp2_with fail
  refine hr.mono ?_
  rintro e w1 ⟨rfl, ho⟩
  clear hr
  go_wp2_with fail
  refine (HG.out w1 ho).mono ?_
  rintro e w2 ⟨v', s, rfl, hE, hO, ho2⟩
  have hO2 : Hid (OwnBits w2 w.heap.size v' (gBits p hands s)) := Row.mono hO ho.size
  have hoo := ho.trans ho2 (by simp)
  clear hO ho ho2
  go_wp2
  go_ret2
  exact ⟨_, s, rfl, hE, hO2.out, hoo⟩

set_option maxRecDepth 100000 in
theorem greedy_Run_no (v : Value) (p : PlanL) (hands : Int) (w : World) (h : InPlan w v p) (he : hErr p hands ≠ 0) :
    Calls Tryz.prog 84 #[v, .int .i64 hands] w fun e w' => e = .returned (.tuple #[.slice none 0 0, .iface 98 (.int .i64 (hErr p hands))]) ∧ Only [] w w' := by
  have hr := greedy_ready v p hands w h
  rw [errV_ne he] at hr
  generalize hErr p hands = f at *
  clear h he
  go_enter Tryz.func84, Tryz.ntmps84
  go_wp2_with fail
  refine hr.mono ?_
  rintro e w1 ⟨rfl, ho⟩
  clear hr
  go_wp2
  go_ret2
  exact ⟨rfl, ho⟩

theorem gBits_last (p : PlanL) (hands s : Nat) (h : GEnd p hands s) (h0 : 0 < (gBits p hands s).length) : 0 < s ∧ (bitAt (gBits p hands s) ((gBits p hands s).length - 1)).step = (s : Int) - 1 := by
  rcases s with _ | s
  · simp [gBits] at h0
  · refine ⟨by omega, ?_⟩
    have h1 := h.2 s (by omega)
    have hl := List.length_pos_iff.2 h1
    unfold bitAt
    rw [gBits, List.length_append, rowBits_len, List.getElem?_append_right (by omega)]
    have e : (gBits p hands s).length + (gAt p hands s).length - 1 - (gBits p hands s).length = (gAt p hands s).length - 1 := by omega
    rw [e]
    unfold rowBits
    rw [List.getElem?_map, List.getElem?_range (by omega)]
    simp

theorem gBits_empty (p : PlanL) (hands s : Nat) (h : GEnd p hands s) (h0 : (gBits p hands s).length = 0) : s = 0 := by
  have := gBits_steps p hands s h.2
  omega

set_option maxRecDepth 100000 in
theorem greedy_Long (v : Value) (p : PlanL) (hands : Nat) (w : World) (h : InPlan w v p) (hok : PlanOk p) (h1 : 1 ≤ hands) (h6 : hands ≤ 6) :
    Calls Tryz.prog 36 #[v, .int .i64 hands] w fun e w' => ∃ s : Nat, e = .returned (.tuple #[.int .i64 s, .nilIface]) ∧ GEnd p hands s ∧ s ≤ 600 ∧ Only [] w w' := by
  have hg := greedy_Run v p hands w h hok h1 h6
  have h600 := fun s => gBits_600 p hands s hok
  have H6 := Lib.hid h600
  clear h h600 hok
  go_enter Tryz.func36, Tryz.ntmps36
  go_wp2_with fail
  refine hg.mono ?_
  rintro e w1 ⟨v', s, rfl, hE, hO, ho⟩
  clear hg
  have hs := gBits_steps p hands s hE.2
  have hs2 := H6.out s
  have hst : Hid (s ≤ 600) := by show _ ≤ _; omega
  obtain ⟨a, cap, rfl, hc⟩ := (OwnBits.at hO).opt
  have he := gBits_empty p hands s hE
  have hl := gBits_last p hands s hE
  obtain ⟨q, hq⟩ : ∃ q, (gBits p hands s).length = q := ⟨_, rfl⟩
  rw [hq] at hc he hl hs hs2
  have HE := Lib.hid hE
  clear hO hE
  by_cases h0 : q = 0
  · have hs0 := he h0
    subst hs0 h0
    clear hc he hl
    go_wp2
    go_ret2
    exact ⟨0, rfl, HE.out, by omega, ho⟩
  · obtain ⟨b, off, rfl, c0, _, _⟩ := hc (q - 1) (by omega)
    obtain ⟨hs0, hl2⟩ := hl (by omega)
    rw [hl2] at c0
    obtain ⟨k, rfl⟩ : ∃ k, q = k + 1 := ⟨q - 1, by omega⟩
    obtain ⟨t, rfl⟩ : ∃ t, s = t + 1 := ⟨s - 1, by omega⟩
    rw [show k + 1 - 1 = k by omega, show (((t + 1 : Nat) : Int) - 1) = (t : Int) by omega] at c0
    clear hc he hl hl2 h0 hs0
    go_wp2
    go_ret2
    exact ⟨t + 1, by simp, HE.out, hst.out, ho⟩

end Go.Proofs.YtoofalchkedciaaGreatDoor

namespace Go.Proofs.YtoofalchkedciaaGreatDoor
open Go.RowKit Go.Deep

def chainT (work : Int) (i : Nat) : Int × List Int := (work, if i = 0 then [] else [(i : Int) - 1])
def chainP (n : Nat) (work : Int) : PlanL := (List.range n).map (chainT work)
def besideP (n : Nat) (work : Int) : PlanL := (List.range n).map fun _ => (work, [])
theorem chainP_len (n : Nat) (work : Int) : (chainP n work).length = n := by simp [chainP]
theorem besideP_len (n : Nat) (work : Int) : (besideP n work).length = n := by simp [besideP]
theorem chainP_push (n : Nat) (work : Int) : chainP n work ++ [chainT work n] = chainP (n + 1) work := by simp [chainP, List.range_succ]
theorem besideP_push (n : Nat) (work : Int) : besideP n work ++ [(work, [])] = besideP (n + 1) work := by simp [besideP, List.range_succ]

end Go.Proofs.YtoofalchkedciaaGreatDoor

namespace Go.Proofs.YtoofalchkedciaaGreatDoor

theorem chain_wk (n : Nat) (work : Int) (i : Nat) (h : i < n) : wkOf (chainP n work) i = work := by simp [wkOf, chainP, h, chainT]
theorem chain_nd (n : Nat) (work : Int) (i : Nat) (h : i < n) : ndOf (chainP n work) i = if i = 0 then [] else [(i : Int) - 1] := by simp [ndOf, chainP, h, chainT]
theorem beside_wk (n : Nat) (work : Int) (i : Nat) (h : i < n) : wkOf (besideP n work) i = work := by simp [wkOf, besideP, h]
theorem beside_nd (n : Nat) (work : Int) (i : Nat) : ndOf (besideP n work) i = [] := by
  by_cases h : i < n
  · simp [ndOf, besideP, h]
  · exact ndOf_none _ _ (by rw [besideP_len]; omega)

/-- Where each needs only those ahead of it nobody needs itself. -/
theorem acyc_of {p : PlanL} (h : ∀ i k : Nat, (k : Int) ∈ ndOf p i → k < i) (i k : Nat) (hr : Reach p i k) : k < i := by
  induction hr with
  | one hk => exact h _ _ hk
  | more _ hk ih => have := h _ _ hk; omega

theorem chain_need {n : Nat} {work : Int} {i k : Nat} (h : (k : Int) ∈ ndOf (chainP n work) i) : k < i := by
  by_cases hi : i < n
  · rw [chain_nd _ _ _ hi] at h
    split at h
    · cases h
    · simp at h; omega
  · rw [ndOf_none _ _ (by rw [chainP_len]; omega)] at h; cases h

theorem chain_ok (n : Nat) (work : Int) (hn : n ≤ 30) (h1 : 1 ≤ work) (h2 : work ≤ 20) : PlanOk (chainP n work) := by
  refine ⟨by rw [chainP_len]; exact hn, fun i hi => ?_, fun i hi hr => ?_⟩
  · rw [chainP_len] at hi ⊢
    have e : (chainP n work)[i]?.getD (0, []) = chainT work i := by simp [chainP, hi]
    rw [e]
    unfold taskFault chainT
    have hany : (if i = 0 then ([] : List Int) else [(i : Int) - 1]).any (outOf n) = false := by
      split
      · rfl
      · simp [outOf]; omega
    have hris : rising (if i = 0 then ([] : List Int) else [(i : Int) - 1]) = true := by split <;> rfl
    simp only [hany, hris]
    rw [if_neg (by simp; omega)]
    rfl
  · have := acyc_of (fun i k => chain_need) i i hr
    omega

theorem beside_ok (n : Nat) (work : Int) (hn : n ≤ 30) (h1 : 1 ≤ work) (h2 : work ≤ 20) : PlanOk (besideP n work) := by
  refine ⟨by rw [besideP_len]; exact hn, fun i hi => ?_, fun i hi hr => ?_⟩
  · rw [besideP_len] at hi ⊢
    have e : (besideP n work)[i]?.getD (0, []) = (work, []) := by simp [besideP, hi]
    rw [e]
    unfold taskFault
    rw [if_neg (by simp; omega)]
    rfl
  · have := acyc_of (fun i k h => by rw [beside_nd] at h; cases h) i i hr
    omega

end Go.Proofs.YtoofalchkedciaaGreatDoor

namespace Go.Proofs.YtoofalchkedciaaGreatDoor
open Go.RowKit

/-- Each task is right by itself, and needs only those ahead of it. -/
def litOk (p : PlanL) : Bool := decide (p.length ≤ 30) && (List.range p.length).all fun i => decide (taskFault p.length (p[i]?.getD (0, [])) = 0) && (ndOf p i).all fun k => decide (k < i)

theorem litOk_ok {p : PlanL} (h : litOk p = true) : PlanOk p := by
  unfold litOk at h
  simp only [Bool.and_eq_true, decide_eq_true_eq, List.all_eq_true, List.mem_range] at h
  obtain ⟨h1, h2⟩ := h
  refine ⟨h1, fun i hi => (h2 i hi).1, fun i hi hr => ?_⟩
  have := acyc_of (p := p) (fun i k hk => by
    by_cases hi : i < p.length
    · have := (h2 i hi).2 (k : Int) hk
      omega
    · rw [ndOf_none _ _ (by omega)] at hk; cases hk) i i hr
  omega

/-- A row of numbers that is written out. -/
theorem lit_row {W : World} {b : Nat} (l : List Int) (h : W.heap[b]? = some (.cells (l.map (Value.int .i64)).toArray 3 (0, 0))) (hn : l.length ≤ 1000) : Reads W (.slice (some ⟨b, 0, none⟩) l.length l.length) l :=
  lit_ints h l (by simp) hn

end Go.Proofs.YtoofalchkedciaaGreatDoor

namespace Go.Proofs.YtoofalchkedciaaGreatDoor
open Go.RowKit Go.Deep

theorem top_lit (W : World) : InPlan ((W.alloc (.cells #[.int .i64 0] 3)).alloc (.cells #[.int .i64 1, .slice none 0 0, .int .i64 2, .slice (some ⟨W.heap.size, 0, none⟩) 1 1] 94)) (.slice (some ⟨W.heap.size + 1, 0, none⟩) 2 2) [(1, []), (2, [0])] := by
  refine lit_plan (heap_alloc_at _ _ _ (by simp)) [(1, []), (2, [0])] (fun i => if i = 0 then .slice none 0 0 else .slice (some ⟨W.heap.size, 0, none⟩) 1 1) ?_ (by simp) ?_
  · rfl
  · intro i hi
    have : i = 0 ∨ i = 1 := by simp at hi; omega
    rcases this with rfl | rfl
    · exact .inl ⟨rfl, .inl rfl⟩
    · refine lit_row [0] ?_ (by simp)
      rw [heap_alloc_old _ _ _ (by simp)]
      exact heap_alloc_new _ _
theorem top_ok : PlanOk [(1, []), (2, [0])] := litOk_ok (by decide)
theorem top_end : GEnd [(1, []), (2, [0])] 2 3 := ⟨by decide +kernel, by decide +kernel⟩

theorem top_one (w : World) : Calls Tryz.prog 41 #[] w fun e w' => e = .returned (.bool true) ∧ Only [] w w' := by
  have hol := ((Only.refl [] w).alloc (.cells #[.int .i64 0] 3)).alloc (.cells #[.int .i64 1, .slice none 0 0, .int .i64 2, .slice (some ⟨w.heap.size, 0, none⟩) 1 1] 94)
  have hl := greedy_Long _ _ 2 _ (top_lit w) top_ok (by omega) (by omega)
  go_enter Tryz.func41, Tryz.ntmps41
  go_wp2_with fail
  refine hl.mono ?_
  rintro e w1 ⟨s, rfl, hE, _, ho⟩
  obtain rfl := gEnd_unique hE top_end
  have hoo := hol.trans ho (by simp)
  clear hl hE hol ho
  go_wp2
  go_ret
  exact ⟨rfl, hoo⟩

end Go.Proofs.YtoofalchkedciaaGreatDoor

namespace Go.Proofs.YtoofalchkedciaaGreatDoor
open Go.RowKit Go.Deep
attribute [local go_sem] Oper.semAt_some

set_option maxRecDepth 100000 in
theorem same_kells (u v : Value) (l : List Ce) (w : World) (hu : KellsAt w u l) (hv : KellsAt w v l) (hl : l.length ≤ 1000) :
    Calls Tryz.prog 46 #[u, v] w fun e w' => e = .returned (.bool true) ∧ ∃ n, w' = w.drewN n := by
  obtain ⟨a, ca, rfl, ha⟩ := hu.opt
  obtain ⟨b, cb, rfl, hb⟩ := hv.opt
  obtain ⟨n, hn⟩ : ∃ n, l.length = n := ⟨_, rfl⟩
  rw [hn] at ha hb hl ⊢
  clear hu hv hn
  go_enter Tryz.func46, Tryz.ntmps46
  go_wp2_with fail
  go_loopw [5] (fun vi wr => ∃ i : Nat, i ≤ n ∧ vi = .int .i64 i ∧ ∃ m, wr = w.drewN m) (fun vi _ => n - (intOf vi).toNat)
  case atStart => exact ⟨0, Nat.zero_le _, rfl, 0, rfl⟩
  case round =>
    obtain ⟨i, hi, rfl, m, rfl⟩ := hrel
    by_cases hin : i < n
    · obtain ⟨g1, o1, rfl, k0, k1⟩ := ha i hin
      obtain ⟨g2, o2, rfl, l0, l1⟩ := hb i hin
      obtain ⟨c, hc⟩ : ∃ c, clAt l i = c := ⟨_, rfl⟩
      rw [hc] at k0 k1 l0 l1
      obtain ⟨cn, cb⟩ := c
      simp only at k0 k1 l0 l1
      clear ha hb hc
      go_wp2_with fail
      go_quiet (fail)
      go_wp2
      go_roundw
      case rel => exact ⟨i + 1, by omega, by go_num, _, rfl⟩
      case measure => (simp [intOf]; try omega)
    · obtain rfl : i = n := by omega
      clear ha hb
      go_wp2
      go_ret
      exact ⟨rfl, _, rfl⟩

end Go.Proofs.YtoofalchkedciaaGreatDoor

namespace Go.Proofs.YtoofalchkedciaaGreatDoor
open Go.RowKit Go.Deep

set_option maxRecDepth 100000 in
theorem depth_WorkOf (v : Value) (p : PlanL) (w : World) (h : InPlan w v p) (hok : PlanOk p) :
    Calls Tryz.prog 93 #[v] w fun e w' => e = .returned (.int .i64 (workF p)) ∧ Only [] w w' := by
  have HP := Lib.hid h
  have HO := Lib.hid hok
  obtain ⟨a, cap, rfl, hc1, hc2, _⟩ := h.task
  obtain ⟨n, hn⟩ : ∃ n, p.length = n := ⟨_, rfl⟩
  have HL := Lib.hid hn
  unfold workF
  rw [hn] at hc1 HP ⊢
  have h30 : n ≤ 30 := by rw [← hn]; exact hok.len
  clear h hn hok
  go_enter Tryz.func93, Tryz.ntmps93
  go_wp2
  go_loopw [3, 8] (fun vn vi wr => ∃ k : Nat, k ≤ n ∧ vi = .int .i64 k ∧ vn = .int .i64 (sumI (wkOf p) k) ∧ Only [] w wr) (fun _ vi _ => n - (intOf vi).toNat)
  case atStart => exact ⟨0, Nat.zero_le _, rfl, rfl, Only.refl _ _⟩
  case round =>
    obtain ⟨k, hk, rfl, rfl, ho⟩ := hrel
    by_cases hkn : k < n
    · obtain ⟨b, off, rfl⟩ := HP.out.any k (by rw [HL.out]; exact hkn)
      obtain ⟨ua, uc, c0, c1, _⟩ := (HP.out.same ho).at k (by rw [HL.out]; exact hkn)
      have hw := HO.out.work k (by rw [HL.out]; exact hkn)
      have hs := workK_bd HO.out k (by rw [HL.out]; exact hk)
      have hst : Hid (sumI (wkOf p) (k + 1) = sumI (wkOf p) k + wkOf p k) := rfl
      generalize sumI (wkOf p) k = s at *
      generalize wkOf p k = x at *
      generalize (ndOf p k).length = m at *
      have ho3 := ho.alloc (.cells #[.int .i64 x, .slice ua m uc] 94)
      go_wp2
      go_roundw
      case rel => exact ⟨k + 1, by omega, by go_num, by rw [hst.out], ho3⟩
      case measure => (simp [intOf]; try omega)
    · obtain rfl : k = n := by omega
      go_wp2
      go_ret
      exact ⟨rfl, ho⟩

theorem depth_Work (v : Value) (p : PlanL) (w : World) (h : InPlan w v p) (hok : PlanOk p) :
    Calls Tryz.prog 43 #[v] w fun e w' => e = .returned (.tuple #[.int .i64 (workF p), .nilIface]) ∧ Only [] w w' := by
  have hr := plan_Right v p w h
  rw [(planOk_iff p).1 hok, errV_zero] at hr
  have hg := fun w' (ho : Only [] w w') => depth_WorkOf v p w' (h.same ho) hok
  generalize workF p = x at *
  have HG := Lib.hid hg
  clear h hok hg
  go_enter Tryz.func43, Tryz.ntmps43
  go_wp2_with fail
  refine hr.mono ?_
  rintro e w1 ⟨rfl, ho⟩
  clear hr
  go_wp2_with fail
  refine (HG.out w1 ho).mono ?_
  rintro e w2 ⟨rfl, ho2⟩
  have hoo := ho.trans ho2 (by simp)
  go_wp2
  go_ret2
  exact ⟨rfl, hoo⟩

end Go.Proofs.YtoofalchkedciaaGreatDoor

namespace Go.Proofs.YtoofalchkedciaaGreatDoor
open Go.RowKit Go.Deep Go.ChangeShapes Go.WideShapes

def InRows (w : World) (v : Value) (ls : List (List Int)) : Prop :=
  ∃ V : Nat → Value, (∃ a cap, v = .slice a ls.length cap ∧ ls.length ≤ cap ∧ cap ≤ maxLen ∧ ∀ i, i < ls.length → ∃ b off, a = some ⟨b, off, none⟩ ∧ w.cell? ⟨b, off + i, none⟩ = some (V i)) ∧
    ∀ i, i < ls.length → InInts w (V i) (ls[i]?.getD [])

theorem InRows.only {w w' : World} {v : Value} {ls : List (List Int)} (h : InRows w v ls) (ho : Only [] w w') : InRows w' v ls := by
  obtain ⟨V, ⟨a, cap, rfl, h1, h2, h3⟩, h4⟩ := h
  refine ⟨V, ⟨a, cap, rfl, h1, h2, fun i hi => ?_⟩, fun i hi => (h4 i hi).only ho⟩
  obtain ⟨b, off, rfl, hc⟩ := h3 i hi
  exact ⟨b, off, rfl, (ho.cell (p := ⟨b, _, none⟩) (cell_lt hc) (by simp)).trans hc⟩

set_option maxRecDepth 100000 in
theorem open_rows {H : Type} {enc : TypeId × Value → H} {W : World} {base : Nat} {v : Value} {d : DataW H} {p : List MemPlace}
    (hv : Value.okWide Tryz.prog W .any base 83 v) (h : DataW.Trod enc Tryz.prog W 0 (fun _ => true) true 83 v d p) : ∃ l, InRows W v l := by
  obtain ⟨s, len, cap, rfl⟩ := okWide_slice Tryz.underlying83 hv
  obtain ⟨fuel, hf⟩ := h
  rcases open_int_rows Tryz.underlying83 Tryz.underlying31 Tryz.underlying3 (by kernel_rfl) (by kernel_rfl) hf with ⟨hcs, _⟩ | ⟨a, len', cap', A, L, C, Z, hcs, _, hl, hm, _, hr⟩
  · simp [Value.cells] at hcs
    obtain ⟨rfl, rfl, rfl⟩ := hcs
    exact ⟨[], fun _ => .nilIface, ⟨none, 0, rfl, Nat.le_refl _, Nat.zero_le _, fun i hi => by simp at hi⟩, fun i hi => by simp at hi⟩
  · simp [Value.cells] at hcs
    obtain ⟨rfl, rfl, rfl⟩ := hcs
    refine ⟨(List.range len).map (fun r => (Z r).take (L r)), fun r => .slice (A r) (L r) (C r), ⟨some a, cap, by simp, by simpa using hl, hm, fun i hi => ?_⟩, fun i hi => ?_⟩
    · simp at hi
      obtain ⟨k0, _⟩ := hr 0 (by omega)
      have hs := spot_none (x := a) k0
      obtain ⟨b, off, spot⟩ := a
      obtain rfl : spot = none := hs
      have := (hr i (by omega)).1
      rw [add_flat] at this
      exact ⟨b, off, rfl, this⟩
    · simp at hi
      obtain ⟨_, k1, k2, k3, k4, k5, k6⟩ := hr i (by omega)
      rw [show ((List.range len).map (fun r => (Z r).take (L r)))[i]?.getD [] = (Z i).take (L i) by simp [hi]]
      apply inInts_of_row
      cases hA : A i with
      | none =>
        have h0 := k5 hA
        exact .inl ⟨rfl, by omega, h0, List.eq_nil_of_length_eq_zero (by omega)⟩
      | some x => exact .inr ⟨x, rfl, k1, k2, k3, fun c hc => (k6 x hA).2 c (by omega), k4⟩

end Go.Proofs.YtoofalchkedciaaGreatDoor
