/-
  What is wrong with a plan, and hands.
  Contracts of greedy.ready, greedy.Run, greedy.Long.
  Plans and lists written out in the text.
  Tasks one behind the other, and beside each other, as plans.
  Tasks one behind the other, and beside each other: they are plans. No program is named here.
  Plans written out in the text are right: by a test.
  Contract of yardtop.one: the closed fact.
  Contract of yardsame.Cells.
  What is told of tasks that become ready, in plain words.
-/
import Derived.Test.YtloojhnhialenaaGreatDoorP10TopKept
import Derived.Test.YtloojhnhialenaaGreatDoorP28TopKept
import Derived.Test.YtloojhnhialenaaGreatDoorP29TopKept
import Derived.Test.YtloojhnhialenaaGreatDoorP7TopKept
import Derived.Test.YtloojhnhialenaaGreatDoorP22TopKept
import Derived.Test.YtloojhnhialenaaGreatDoorP12TopKept
import Derived.Test.YtloojhnhialenaaGreatDoorP8TopKept
namespace Go.Proofs.YtloojhnhialenaaGreatDoor
open Go.RowKit Go.Deep

/-- What is wrong with a plan, and hands. -/
noncomputable def hErr (p : PlanL) (hands : Int) : Int := if planFault p = 0 then (if 1 ≤ hands ∧ hands ≤ 6 then 0 else 1) else planFault p

theorem hErr_ok {p : PlanL} {hands : Int} (h : PlanOk p) (h1 : 1 ≤ hands) (h6 : hands ≤ 6) : hErr p hands = 0 := by
  unfold hErr; rw [if_pos ((planOk_iff p).1 h), if_pos ⟨h1, h6⟩]
theorem hErr_zero {p : PlanL} {hands : Int} (h : hErr p hands = 0) : PlanOk p ∧ 1 ≤ hands ∧ hands ≤ 6 := by
  unfold hErr at h
  by_cases hp : planFault p = 0
  · rw [if_pos hp] at h
    by_cases hh : 1 ≤ hands ∧ hands ≤ 6
    · exact ⟨(planOk_iff p).2 hp, hh⟩
    · rw [if_neg hh] at h; cases h
  · rw [if_neg hp] at h; exact absurd h hp

end Go.Proofs.YtloojhnhialenaaGreatDoor

namespace Go.Proofs.YtloojhnhialenaaGreatDoor
open Go.RowKit Go.Deep

set_option maxRecDepth 100000 in
theorem greedy_ready (v : Value) (p : PlanL) (hands : Int) (w : World) (h : InPlan w v p) :
    Calls Tryz.prog 59 #[v, .int .i64 hands] w fun e w' => e = .returned (errV (hErr p hands)) ∧ Only [] w w' := by
  have hr := plan_Right v p w h
  unfold hErr
  obtain ⟨f, hf⟩ : ∃ f, planFault p = f := ⟨_, rfl⟩
  rw [hf] at hr ⊢
  clear hf h
  by_cases h0 : f = 0
  · subst h0
    rw [if_pos rfl]
    rw [errV_zero] at hr
    by_cases hh : 1 ≤ hands ∧ hands ≤ 6
    · rw [if_pos hh]
      obtain ⟨h1, h6⟩ := hh
      go_enter Tryz.func59, Tryz.ntmps59
      go_wp2_with fail
      refine hr.mono ?_
      rintro e w1 ⟨rfl, ho⟩
      clear hr
      go_wp2_with (go_at_call 66; refine (hands_yes _ _ h1 h6).mono ?_; rintro e w2 ⟨rfl, rfl⟩)
      go_ret
      exact ⟨rfl, ho⟩
    · rw [if_neg hh]
      have hh2 : hands < 1 ∨ 6 < hands := by omega
      clear hh
      go_enter Tryz.func59, Tryz.ntmps59
      go_wp2_with fail
      refine hr.mono ?_
      rintro e w1 ⟨rfl, ho⟩
      clear hr
      go_wp2_with (go_at_call 66; refine (hands_no _ _ hh2).mono ?_; rintro e w2 ⟨rfl, rfl⟩)
      go_ret
      exact ⟨rfl, ho⟩
  · rw [if_neg h0]
    have hE := errV_ne h0
    rw [hE] at hr
    have HE := Lib.hid hE
    clear h0 hE
    go_enter Tryz.func59, Tryz.ntmps59
    go_wp2_with fail
    refine hr.mono ?_
    rintro e w1 ⟨rfl, ho⟩
    clear hr
    go_wp2
    go_ret
    exact ⟨by rw [HE.out]; rfl, ho⟩

set_option maxRecDepth 100000 in
theorem greedy_Run (v : Value) (p : PlanL) (hands : Nat) (w : World) (h : InPlan w v p) (hok : PlanOk p) (h1 : 1 ≤ hands) (h6 : hands ≤ 6) :
    Calls Tryz.prog 18 #[v, .int .i64 hands] w fun e w' => ∃ v' s, e = .returned (.tuple #[v', .nilIface]) ∧ GEnd p hands s ∧ OwnBits w' w.heap.size v' (gBits p hands s) ∧ Only [] w w' := by
  have hr := greedy_ready v p hands w h
  rw [hErr_ok hok (by omega) (by omega), errV_zero] at hr
  have hg := fun w' (ho : Only [] w w') => greedy_run v p hands w' (h.same ho) hok h1 h6
  have HG := Lib.hid hg
  clear hg h hok
  go_enter Tryz.func18, Tryz.ntmps18
  go_wp2_with fail
  refine hr.mono ?_
  rintro e w1 ⟨rfl, ho⟩
  clear hr
  go_wp2_with fail
  refine (HG.out w1 ho).mono ?_
  rintro e w2 ⟨v', s, rfl, hE, hO, ho2⟩
  have hO2 : Hid (OwnBits w2 w.heap.size v' (gBits p hands s)) := Row.mono hO ho.size
  have hoo := ho.trans ho2 (by simp)
  clear hO ho ho2
  go_wp2
  go_ret2
  exact ⟨_, s, rfl, hE, hO2.out, hoo⟩

set_option maxRecDepth 100000 in
theorem greedy_Run_no (v : Value) (p : PlanL) (hands : Int) (w : World) (h : InPlan w v p) (he : hErr p hands ≠ 0) :
    Calls Tryz.prog 18 #[v, .int .i64 hands] w fun e w' => e = .returned (.tuple #[.slice none 0 0, .iface 86 (.int .i64 (hErr p hands))]) ∧ Only [] w w' := by
  have hr := greedy_ready v p hands w h
  rw [errV_ne he] at hr
  generalize hErr p hands = f at *
  clear h he
  go_enter Tryz.func18, Tryz.ntmps18
  go_wp2_with fail
  refine hr.mono ?_
  rintro e w1 ⟨rfl, ho⟩
  clear hr
  go_wp2
  go_ret2
  exact ⟨rfl, ho⟩

theorem gBits_last (p : PlanL) (hands s : Nat) (h : GEnd p hands s) (h0 : 0 < (gBits p hands s).length) : 0 < s ∧ (bitAt (gBits p hands s) ((gBits p hands s).length - 1)).step = (s : Int) - 1 := by
  rcases s with _ | s
  · simp [gBits] at h0
  · refine ⟨by omega, ?_⟩
    have h1 := h.2 s (by omega)
    have hl := List.length_pos_iff.2 h1
    unfold bitAt
    rw [gBits, List.length_append, rowBits_len, List.getElem?_append_right (by omega)]
    have e : (gBits p hands s).length + (gAt p hands s).length - 1 - (gBits p hands s).length = (gAt p hands s).length - 1 := by omega
    rw [e]
    unfold rowBits
    rw [List.getElem?_map, List.getElem?_range (by omega)]
    simp

theorem gBits_empty (p : PlanL) (hands s : Nat) (h : GEnd p hands s) (h0 : (gBits p hands s).length = 0) : s = 0 := by
  have := gBits_steps p hands s h.2
  omega

set_option maxRecDepth 100000 in
theorem greedy_Long (v : Value) (p : PlanL) (hands : Nat) (w : World) (h : InPlan w v p) (hok : PlanOk p) (h1 : 1 ≤ hands) (h6 : hands ≤ 6) :
    Calls Tryz.prog 40 #[v, .int .i64 hands] w fun e w' => ∃ s : Nat, e = .returned (.tuple #[.int .i64 s, .nilIface]) ∧ GEnd p hands s ∧ s ≤ 600 ∧ Only [] w w' := by
  have hg := greedy_Run v p hands w h hok h1 h6
  have h600 := fun s => gBits_600 p hands s hok
  have H6 := Lib.hid h600
  clear h h600 hok
  go_enter Tryz.func40, Tryz.ntmps40
  go_wp2_with fail
  refine hg.mono ?_
  rintro e w1 ⟨v', s, rfl, hE, hO, ho⟩
  clear hg
  have hs := gBits_steps p hands s hE.2
  have hs2 := H6.out s
  have hst : Hid (s ≤ 600) := by show _ ≤ _; omega
  obtain ⟨a, cap, rfl, hc⟩ := (OwnBits.at hO).opt
  have he := gBits_empty p hands s hE
  have hl := gBits_last p hands s hE
  obtain ⟨q, hq⟩ : ∃ q, (gBits p hands s).length = q := ⟨_, rfl⟩
  rw [hq] at hc he hl hs hs2
  have HE := Lib.hid hE
  clear hO hE
  by_cases h0 : q = 0
  · have hs0 := he h0
    subst hs0 h0
    clear hc he hl
    go_wp2
    go_ret2
    exact ⟨0, rfl, HE.out, by omega, ho⟩
  · obtain ⟨b, off, rfl, c0, _, _⟩ := hc (q - 1) (by omega)
    obtain ⟨hs0, hl2⟩ := hl (by omega)
    rw [hl2] at c0
    obtain ⟨k, rfl⟩ : ∃ k, q = k + 1 := ⟨q - 1, by omega⟩
    obtain ⟨t, rfl⟩ : ∃ t, s = t + 1 := ⟨s - 1, by omega⟩
    rw [show k + 1 - 1 = k by omega, show (((t + 1 : Nat) : Int) - 1) = (t : Int) by omega] at c0
    clear hc he hl hl2 h0 hs0
    go_wp2
    go_ret2
    exact ⟨t + 1, by simp, HE.out, hst.out, ho⟩

end Go.Proofs.YtloojhnhialenaaGreatDoor

namespace Go.Proofs.YtloojhnhialenaaGreatDoor
open Go.RowKit

theorem lit_ints {W : World} {b : Nat} {cs : Array Value} {t : TypeId} (h : W.heap[b]? = some (.cells cs t (0, 0))) (l : List Int) (hcs : cs.toList = l.map (Value.int .i64)) (hn : l.length ≤ 1000) :
    Reads W (.slice (some ⟨b, 0, none⟩) l.length l.length) l := by
  by_cases h0 : l = []
  · subst h0
    exact .inl ⟨rfl, .inr ⟨_, 0, rfl, by unfold maxLen; omega⟩⟩
  · refine .inr ⟨List.length_pos_iff.2 h0, b, 0, l.length, rfl, Nat.le_refl _, by unfold maxLen; omega, fun i hi => ?_⟩
    rw [Nat.zero_add, cell_of_row W b i cs t (0, 0) h, ← Array.getElem?_toList, hcs]
    simp [nth, hi]

theorem lit_plan {W : World} {B : Nat} {cs : Array Value} {t : TypeId} (h : W.heap[B]? = some (.cells cs t (0, 0))) (p : PlanL) (N : Nat → Value) (hcs : cs.toList = flatP p N p.length) (hn : p.length ≤ 1000)
    (hr : ∀ i, i < p.length → Reads W (N i) (ndOf p i)) : InPlan W (.slice (some ⟨B, 0, none⟩) p.length p.length) p := by
  refine ⟨N, ⟨_, p.length, rfl, Nat.le_refl _, by unfold maxLen; omega, (fun h => by cases h), fun i hi => ⟨B, 0, rfl, ?_, ?_⟩⟩, hr, fun _ _ _ => trivial, fun _ _ _ _ _ => trivial⟩
  · rw [Nat.zero_add, cell_of_row W B _ cs t (0, 0) h, ← Array.getElem?_toList, hcs]
    exact flatP_0 _ _ _ _ hi
  · rw [Nat.zero_add, cell_of_row W B _ cs t (0, 0) h, ← Array.getElem?_toList, hcs]
    exact flatP_1 _ _ _ _ hi

theorem heap_alloc_old (w : World) (o : Obj) (k : Nat) (h : k < w.heap.size) : (w.alloc o).heap[k]? = w.heap[k]? := Below.heap_alloc w o k h
theorem heap_alloc_at (w : World) (o : Obj) (k : Nat) (h : k = w.heap.size) : (w.alloc o).heap[k]? = some o := by subst h; exact heap_alloc_new w o

/-- Two tasks of one unit each, the second behind the first. -/
theorem lit_two (W : World) : InPlan ((W.alloc (.cells #[.int .i64 0] 3)).alloc (.cells #[.int .i64 1, .slice none 0 0, .int .i64 1, .slice (some ⟨W.heap.size, 0, none⟩) 1 1] 68)) (.slice (some ⟨W.heap.size + 1, 0, none⟩) 2 2) [(1, []), (1, [0])] := by
  refine lit_plan (heap_alloc_at _ _ _ (by simp)) [(1, []), (1, [0])] (fun i => if i = 0 then .slice none 0 0 else .slice (some ⟨W.heap.size, 0, none⟩) 1 1) ?_ (by simp) ?_
  · rfl
  · intro i hi
    have : i = 0 ∨ i = 1 := by simp at hi; omega
    rcases this with rfl | rfl
    · exact .inl ⟨rfl, .inl rfl⟩
    · refine lit_ints (cs := #[.int .i64 0]) (t := 3) ?_ [0] rfl (by simp)
      rw [heap_alloc_old _ _ _ (by simp)]
      exact heap_alloc_new _ _

end Go.Proofs.YtloojhnhialenaaGreatDoor

namespace Go.Proofs.YtloojhnhialenaaGreatDoor
open Go.RowKit Go.Deep

def chainT (work : Int) (i : Nat) : Int × List Int := (work, if i = 0 then [] else [(i : Int) - 1])
def chainP (n : Nat) (work : Int) : PlanL := (List.range n).map (chainT work)
def besideP (n : Nat) (work : Int) : PlanL := (List.range n).map fun _ => (work, [])
theorem chainP_len (n : Nat) (work : Int) : (chainP n work).length = n := by simp [chainP]
theorem besideP_len (n : Nat) (work : Int) : (besideP n work).length = n := by simp [besideP]
theorem chainP_push (n : Nat) (work : Int) : chainP n work ++ [chainT work n] = chainP (n + 1) work := by simp [chainP, List.range_succ]
theorem besideP_push (n : Nat) (work : Int) : besideP n work ++ [(work, [])] = besideP (n + 1) work := by simp [besideP, List.range_succ]

end Go.Proofs.YtloojhnhialenaaGreatDoor

namespace Go.Proofs.YtloojhnhialenaaGreatDoor

theorem chain_wk (n : Nat) (work : Int) (i : Nat) (h : i < n) : wkOf (chainP n work) i = work := by simp [wkOf, chainP, h, chainT]
theorem chain_nd (n : Nat) (work : Int) (i : Nat) (h : i < n) : ndOf (chainP n work) i = if i = 0 then [] else [(i : Int) - 1] := by simp [ndOf, chainP, h, chainT]
theorem beside_wk (n : Nat) (work : Int) (i : Nat) (h : i < n) : wkOf (besideP n work) i = work := by simp [wkOf, besideP, h]
theorem beside_nd (n : Nat) (work : Int) (i : Nat) : ndOf (besideP n work) i = [] := by
  by_cases h : i < n
  · simp [ndOf, besideP, h]
  · exact ndOf_none _ _ (by rw [besideP_len]; omega)

/-- Where each needs only those ahead of it nobody needs itself. -/
theorem acyc_of {p : PlanL} (h : ∀ i k : Nat, (k : Int) ∈ ndOf p i → k < i) (i k : Nat) (hr : Reach p i k) : k < i := by
  induction hr with
  | one hk => exact h _ _ hk
  | more _ hk ih => have := h _ _ hk; omega

theorem chain_need {n : Nat} {work : Int} {i k : Nat} (h : (k : Int) ∈ ndOf (chainP n work) i) : k < i := by
  by_cases hi : i < n
  · rw [chain_nd _ _ _ hi] at h
    split at h
    · cases h
    · simp at h; omega
  · rw [ndOf_none _ _ (by rw [chainP_len]; omega)] at h; cases h

theorem chain_ok (n : Nat) (work : Int) (hn : n ≤ 30) (h1 : 1 ≤ work) (h2 : work ≤ 20) : PlanOk (chainP n work) := by
  refine ⟨by rw [chainP_len]; exact hn, fun i hi => ?_, fun i hi hr => ?_⟩
  · rw [chainP_len] at hi ⊢
    have e : (chainP n work)[i]?.getD (0, []) = chainT work i := by simp [chainP, hi]
    rw [e]
    unfold taskFault chainT
    have hany : (if i = 0 then ([] : List Int) else [(i : Int) - 1]).any (outOf n) = false := by
      split
      · rfl
      · simp [outOf]; omega
    have hris : rising (if i = 0 then ([] : List Int) else [(i : Int) - 1]) = true := by split <;> rfl
    simp only [hany, hris]
    rw [if_neg (by simp; omega)]
    rfl
  · have := acyc_of (fun i k => chain_need) i i hr
    omega

theorem beside_ok (n : Nat) (work : Int) (hn : n ≤ 30) (h1 : 1 ≤ work) (h2 : work ≤ 20) : PlanOk (besideP n work) := by
  refine ⟨by rw [besideP_len]; exact hn, fun i hi => ?_, fun i hi hr => ?_⟩
  · rw [besideP_len] at hi ⊢
    have e : (besideP n work)[i]?.getD (0, []) = (work, []) := by simp [besideP, hi]
    rw [e]
    unfold taskFault
    rw [if_neg (by simp; omega)]
    rfl
  · have := acyc_of (fun i k h => by rw [beside_nd] at h; cases h) i i hr
    omega

end Go.Proofs.YtloojhnhialenaaGreatDoor

namespace Go.Proofs.YtloojhnhialenaaGreatDoor
open Go.RowKit

/-- Each task is right by itself, and needs only those ahead of it. -/
def litOk (p : PlanL) : Bool := decide (p.length ≤ 30) && (List.range p.length).all fun i => decide (taskFault p.length (p[i]?.getD (0, [])) = 0) && (ndOf p i).all fun k => decide (k < i)

theorem litOk_ok {p : PlanL} (h : litOk p = true) : PlanOk p := by
  unfold litOk at h
  simp only [Bool.and_eq_true, decide_eq_true_eq, List.all_eq_true, List.mem_range] at h
  obtain ⟨h1, h2⟩ := h
  refine ⟨h1, fun i hi => (h2 i hi).1, fun i hi hr => ?_⟩
  have := acyc_of (p := p) (fun i k hk => by
    by_cases hi : i < p.length
    · have := (h2 i hi).2 (k : Int) hk
      omega
    · rw [ndOf_none _ _ (by omega)] at hk; cases hk) i i hr
  omega

/-- A row of numbers that is written out. -/
theorem lit_row {W : World} {b : Nat} (l : List Int) (h : W.heap[b]? = some (.cells (l.map (Value.int .i64)).toArray 3 (0, 0))) (hn : l.length ≤ 1000) : Reads W (.slice (some ⟨b, 0, none⟩) l.length l.length) l :=
  lit_ints h l (by simp) hn

end Go.Proofs.YtloojhnhialenaaGreatDoor

namespace Go.Proofs.YtloojhnhialenaaGreatDoor
open Go.RowKit Go.Deep

theorem top_lit (W : World) : InPlan ((W.alloc (.cells #[.int .i64 0] 3)).alloc (.cells #[.int .i64 1, .slice none 0 0, .int .i64 2, .slice (some ⟨W.heap.size, 0, none⟩) 1 1] 68)) (.slice (some ⟨W.heap.size + 1, 0, none⟩) 2 2) [(1, []), (2, [0])] := by
  refine lit_plan (heap_alloc_at _ _ _ (by simp)) [(1, []), (2, [0])] (fun i => if i = 0 then .slice none 0 0 else .slice (some ⟨W.heap.size, 0, none⟩) 1 1) ?_ (by simp) ?_
  · rfl
  · intro i hi
    have : i = 0 ∨ i = 1 := by simp at hi; omega
    rcases this with rfl | rfl
    · exact .inl ⟨rfl, .inl rfl⟩
    · refine lit_row [0] ?_ (by simp)
      rw [heap_alloc_old _ _ _ (by simp)]
      exact heap_alloc_new _ _
theorem top_ok : PlanOk [(1, []), (2, [0])] := litOk_ok (by decide)
theorem top_end : GEnd [(1, []), (2, [0])] 2 3 := ⟨by decide +kernel, by decide +kernel⟩

theorem top_one (w : World) : Calls Tryz.prog 7 #[] w fun e w' => e = .returned (.bool true) ∧ Only [] w w' := by
  have hol := ((Only.refl [] w).alloc (.cells #[.int .i64 0] 3)).alloc (.cells #[.int .i64 1, .slice none 0 0, .int .i64 2, .slice (some ⟨w.heap.size, 0, none⟩) 1 1] 68)
  have hl := greedy_Long _ _ 2 _ (top_lit w) top_ok (by omega) (by omega)
  go_enter Tryz.func7, Tryz.ntmps7
  go_wp2_with fail
  refine hl.mono ?_
  rintro e w1 ⟨s, rfl, hE, _, ho⟩
  obtain rfl := gEnd_unique hE top_end
  have hoo := hol.trans ho (by simp)
  clear hl hE hol ho
  go_wp2
  go_ret
  exact ⟨rfl, hoo⟩

end Go.Proofs.YtloojhnhialenaaGreatDoor

namespace Go.Proofs.YtloojhnhialenaaGreatDoor
open Go.RowKit Go.Deep
attribute [local go_sem] Oper.semAt_some

set_option maxRecDepth 100000 in
theorem same_kells (u v : Value) (l : List Ce) (w : World) (hu : KellsAt w u l) (hv : KellsAt w v l) (hl : l.length ≤ 1000) :
    Calls Tryz.prog 16 #[u, v] w fun e w' => e = .returned (.bool true) ∧ ∃ n, w' = w.drewN n := by
  obtain ⟨a, ca, rfl, ha⟩ := hu.opt
  obtain ⟨b, cb, rfl, hb⟩ := hv.opt
  obtain ⟨n, hn⟩ : ∃ n, l.length = n := ⟨_, rfl⟩
  rw [hn] at ha hb hl ⊢
  clear hu hv hn
  go_enter Tryz.func16, Tryz.ntmps16
  go_wp2_with fail
  go_loopw [5] (fun vi wr => ∃ i : Nat, i ≤ n ∧ vi = .int .i64 i ∧ ∃ m, wr = w.drewN m) (fun vi _ => n - (intOf vi).toNat)
  case atStart => exact ⟨0, Nat.zero_le _, rfl, 0, rfl⟩
  case round =>
    obtain ⟨i, hi, rfl, m, rfl⟩ := hrel
    by_cases hin : i < n
    · obtain ⟨g1, o1, rfl, k0, k1⟩ := ha i hin
      obtain ⟨g2, o2, rfl, l0, l1⟩ := hb i hin
      obtain ⟨c, hc⟩ : ∃ c, clAt l i = c := ⟨_, rfl⟩
      rw [hc] at k0 k1 l0 l1
      obtain ⟨cn, cb⟩ := c
      simp only at k0 k1 l0 l1
      clear ha hb hc
      go_wp2_with fail
      go_quiet (fail)
      go_wp2
      go_roundw
      case rel => exact ⟨i + 1, by omega, by go_num, _, rfl⟩
      case measure => (simp [intOf]; try omega)
    · obtain rfl : i = n := by omega
      clear ha hb
      go_wp2
      go_ret
      exact ⟨rfl, _, rfl⟩

end Go.Proofs.YtloojhnhialenaaGreatDoor

namespace Go.Proofs.YtloojhnhialenaaGreatDoor

theorem Bools.congr {w : World} {A N : Nat} {f g : Nat → Bool} (h : Bools w A N f) (e : ∀ i, i < N → f i = g i) : Bools w A N g := fun i hi => by
  rw [← e i hi]; exact h i hi

/-- Who was ready, or is. -/
def tD (p : PlanL) (D : Nat → Bool) : Nat → Bool := fun k => lackN p D k == 0

/-- Who is done lacks nothing. -/
def Closed (p : PlanL) (D : Nat → Bool) : Prop := ∀ k, k < p.length → D k = true → lackN p D k = 0

theorem closed_none (p : PlanL) : Closed p (fun _ => false) := fun k _ h => by cases h

theorem lack_mono {p : PlanL} (hok : PlanOk p) {D : Nat → Bool} {i : Nat} (hi : D i = false) (k : Nat) : lackN p (upB D i) k ≤ lackN p D k := by
  have := lack_up hok D i hi k
  omega

theorem closed_up {p : PlanL} (hok : PlanOk p) {D : Nat → Bool} {i : Nat} (h : Closed p D) (hr : readyB p D i = true) : Closed p (upB D i) := by
  have hi : D i = false := by simp [readyB] at hr; exact hr.1
  intro k hk hd
  have hm := lack_mono hok hi k
  unfold upB at hd
  by_cases e : k = i
  · subst e
    rw [ready_lack] at hr
    have : lackN p D k = 0 := by simp at hr; exact hr.2
    omega
  · rw [if_neg e] at hd
    have := h k hk hd
    omega

theorem ready_of_lack {p : PlanL} {D : Nat → Bool} {i : Nat} (h : i ∈ readyL p D) : i < p.length ∧ readyB p D i = true := by
  simpa [readyL] using h

theorem ready_ne {p : PlanL} (hok : PlanOk p) {D : Nat → Bool} (h : 0 < leftN p D) : 0 < (readyL p D).length := by
  have hx : ∃ i, i < p.length ∧ D i = false := by
    unfold leftN at h
    obtain ⟨i, hi, hd⟩ := List.countP_pos_iff.1 h
    exact ⟨i, by simpa using hi, by simpa using hd⟩
  obtain ⟨i, hi, hr⟩ := exists_ready hok D hx
  exact List.length_pos_of_mem (show i ∈ readyL p D by simp [readyL, hi, hr])

theorem ready_none {p : PlanL} {D : Nat → Bool} (h : leftN p D = 0) : readyL p D = [] := by
  unfold leftN at h
  rw [List.countP_eq_zero] at h
  unfold readyL
  rw [List.filter_eq_nil_iff]
  intro i hi
  have := h i hi
  simp at this
  simp [readyB, this]

theorem natL_pair {l : List Nat} (h : l.Pairwise (· < ·)) : (natL l).Pairwise (· < ·) := by
  unfold natL
  rw [List.pairwise_map]
  exact h.imp (fun h => by omega)

theorem readyL_pair (p : PlanL) (D : Nat → Bool) : (readyL p D).Pairwise (· < ·) := List.Pairwise.filter _ (List.pairwise_lt_range (n := p.length))
theorem newL_pair (p : PlanL) (D : Nat → Bool) (i : Nat) : (newL p D i).Pairwise (· < ·) := List.Pairwise.filter _ (afterOf_pair p i)

theorem start_fresh (p : PlanL) : ∀ x ∈ natL (readyL p (fun _ => false)), x ∈ U p.length (fun _ => false) := by
  intro x hx
  obtain ⟨i, hi, rfl⟩ := List.mem_map.1 hx
  exact mem_U.2 ⟨i, (ready_of_lack hi).1, rfl, rfl⟩
theorem start_told (p : PlanL) (j : Nat) (hj : j < p.length) : mark (fun _ => false) (natL (readyL p (fun _ => false))) j = tD p (fun _ => false) j := by
  unfold mark tD
  rw [Bool.false_or, Bool.eq_iff_iff, decide_eq_true_eq, natL_mem]
  simp [readyL, hj, ready_lack]

theorem new_fresh {p : PlanL} (hok : PlanOk p) {D : Nat → Bool} {i : Nat} (hi : D i = false) : ∀ x ∈ natL (newL p D i), x ∈ U p.length (tD p D) := by
  intro x hx
  obtain ⟨k, hk, rfl⟩ := List.mem_map.1 hx
  have hk2 := List.mem_filter.1 hk
  have hm := afterOf_mem.1 hk2.1
  have h1 := lack_up hok D i hi k
  rw [if_pos hm.2] at h1
  exact mem_U.2 ⟨k, hm.1, by unfold tD; simp; omega, rfl⟩

theorem new_told {p : PlanL} (hok : PlanOk p) {D : Nat → Bool} {i : Nat} (hi : D i = false) (j : Nat) (hj : j < p.length) : mark (tD p D) (natL (newL p D i)) j = tD p (upB D i) j := by
  unfold mark tD
  rw [Bool.eq_iff_iff]
  simp only [Bool.or_eq_true, beq_iff_eq, decide_eq_true_eq, natL_mem]
  have h1 := lack_up hok D i hi j
  constructor
  · rintro (h | h)
    · omega
    · have := (List.mem_filter.1 h).2
      simpa using this
  · intro h
    by_cases hm : (i : Int) ∈ ndOf p j
    · right
      exact List.mem_filter.2 ⟨afterOf_mem.2 ⟨hj, hm⟩, by simp [h]⟩
    · left
      rw [if_neg hm] at h1
      omega

theorem state_ready {p : PlanL} {D : Nat → Bool} {i : Nat} (h : readyB p D i = true) : D i = false ∧ lackN p D i = 0 := by
  rw [ready_lack] at h
  simpa using h

end Go.Proofs.YtloojhnhialenaaGreatDoor
