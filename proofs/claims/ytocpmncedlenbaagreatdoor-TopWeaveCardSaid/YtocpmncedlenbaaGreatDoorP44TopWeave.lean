/-
  Contracts of greedy.ready, greedy.Run, greedy.Long.
  Plans and lists written out in the text.
  Tasks one behind the other, and beside each other, as plans.
  Tasks one behind the other, and beside each other: they are plans. No program is named here.
  Plans written out in the text are right: by a test.
  Contract of yardtop.one: the closed fact.
  Contracts of package bench, of bits that may be.
-/
import Derived.Test.YtocpmncedlenbaaGreatDoorP43TopWeave
import Derived.Test.YtocpmncedlenbaaGreatDoorP38TopWeave
import Derived.Test.YtocpmncedlenbaaGreatDoorP7TopWeave
import Derived.Test.YtocpmncedlenbaaGreatDoorP31TopWeave
namespace Go.Proofs.YtocpmncedlenbaaGreatDoor
open Go.RowKit Go.Deep

set_option maxRecDepth 100000 in
theorem greedy_ready (v : Value) (p : PlanL) (hands : Int) (w : World) (h : InPlan w v p) :
    Calls Tryz.prog 51 #[v, .int .i64 hands] w fun e w' => e = .returned (errV (hErr p hands)) ∧ Only [] w w' := by
  have hr := plan_Right v p w h
  unfold hErr
  obtain ⟨f, hf⟩ : ∃ f, planFault p = f := ⟨_, rfl⟩
  rw [hf] at hr ⊢
  clear hf h
  by_cases h0 : f = 0
  · subst h0
    rw [if_pos rfl]
    rw [errV_zero] at hr
    by_cases hh : 1 ≤ hands ∧ hands ≤ 6
    · rw [if_pos hh]
      obtain ⟨h1, h6⟩ := hh
      go_enter Tryz.func51, Tryz.ntmps51
      go_wp2_with fail
      refine hr.mono ?_
      rintro e w1 ⟨rfl, ho⟩
      clear hr
      go_wp2_with (go_at_call 58; refine (hands_yes _ _ h1 h6).mono ?_; rintro e w2 ⟨rfl, rfl⟩)
      go_ret
      exact ⟨rfl, ho⟩
    · rw [if_neg hh]
      have hh2 : hands < 1 ∨ 6 < hands := by omega
      clear hh
      go_enter Tryz.func51, Tryz.ntmps51
      go_wp2_with fail
      refine hr.mono ?_
      rintro e w1 ⟨rfl, ho⟩
      clear hr
      go_wp2_with (go_at_call 58; refine (hands_no _ _ hh2).mono ?_; rintro e w2 ⟨rfl, rfl⟩)
      go_ret
      exact ⟨rfl, ho⟩
  · rw [if_neg h0]
    have hE := errV_ne h0
    rw [hE] at hr
    have HE := Lib.hid hE
    clear h0 hE
    go_enter Tryz.func51, Tryz.ntmps51
    go_wp2_with fail
    refine hr.mono ?_
    rintro e w1 ⟨rfl, ho⟩
    clear hr
    go_wp2
    go_ret
    exact ⟨by rw [HE.out]; rfl, ho⟩

set_option maxRecDepth 100000 in
theorem greedy_Run (v : Value) (p : PlanL) (hands : Nat) (w : World) (h : InPlan w v p) (hok : PlanOk p) (h1 : 1 ≤ hands) (h6 : hands ≤ 6) :
    Calls Tryz.prog 9 #[v, .int .i64 hands] w fun e w' => ∃ v' s, e = .returned (.tuple #[v', .nilIface]) ∧ GEnd p hands s ∧ OwnBits w' w.heap.size v' (gBits p hands s) ∧ Only [] w w' := by
  have hr := greedy_ready v p hands w h
  rw [hErr_ok hok (by omega) (by omega), errV_zero] at hr
  have hg := fun w' (ho : Only [] w w') => greedy_run v p hands w' (h.same ho) hok h1 h6
  have HG := Lib.hid hg
  clear hg h hok
  go_enter Tryz.func9, Tryz.ntmps9
  go_wp2_with fail
  refine hr.mono ?_
  rintro e w1 ⟨rfl, ho⟩
  clear hr
  go_wp2_with fail
  refine (HG.out w1 ho).mono ?_
  rintro e w2 ⟨v', s, rfl, hE, hO, ho2⟩
  have hO2 : Hid (OwnBits w2 w.heap.size v' (gBits p hands s)) := Row.mono hO ho.size
  have hoo := ho.trans ho2 (by simp)
  clear hO ho ho2
  go_wp2
  go_ret2
  exact ⟨_, s, rfl, hE, hO2.out, hoo⟩

set_option maxRecDepth 100000 in
theorem greedy_Run_no (v : Value) (p : PlanL) (hands : Int) (w : World) (h : InPlan w v p) (he : hErr p hands ≠ 0) :
    Calls Tryz.prog 9 #[v, .int .i64 hands] w fun e w' => e = .returned (.tuple #[.slice none 0 0, .iface 99 (.int .i64 (hErr p hands))]) ∧ Only [] w w' := by
  have hr := greedy_ready v p hands w h
  rw [errV_ne he] at hr
  generalize hErr p hands = f at *
  clear h he
  go_enter Tryz.func9, Tryz.ntmps9
  go_wp2_with fail
  refine hr.mono ?_
  rintro e w1 ⟨rfl, ho⟩
  clear hr
  go_wp2
  go_ret2
  exact ⟨rfl, ho⟩

theorem gBits_last (p : PlanL) (hands s : Nat) (h : GEnd p hands s) (h0 : 0 < (gBits p hands s).length) : 0 < s ∧ (bitAt (gBits p hands s) ((gBits p hands s).length - 1)).step = (s : Int) - 1 := by
  rcases s with _ | s
  · simp [gBits] at h0
  · refine ⟨by omega, ?_⟩
    have h1 := h.2 s (by omega)
    have hl := List.length_pos_iff.2 h1
    unfold bitAt
    rw [gBits, List.length_append, rowBits_len, List.getElem?_append_right (by omega)]
    have e : (gBits p hands s).length + (gAt p hands s).length - 1 - (gBits p hands s).length = (gAt p hands s).length - 1 := by omega
    rw [e]
    unfold rowBits
    rw [List.getElem?_map, List.getElem?_range (by omega)]
    simp

theorem gBits_empty (p : PlanL) (hands s : Nat) (h : GEnd p hands s) (h0 : (gBits p hands s).length = 0) : s = 0 := by
  have := gBits_steps p hands s h.2
  omega

set_option maxRecDepth 100000 in
theorem greedy_Long (v : Value) (p : PlanL) (hands : Nat) (w : World) (h : InPlan w v p) (hok : PlanOk p) (h1 : 1 ≤ hands) (h6 : hands ≤ 6) :
    Calls Tryz.prog 48 #[v, .int .i64 hands] w fun e w' => ∃ s : Nat, e = .returned (.tuple #[.int .i64 s, .nilIface]) ∧ GEnd p hands s ∧ s ≤ 600 ∧ Only [] w w' := by
  have hg := greedy_Run v p hands w h hok h1 h6
  have h600 := fun s => gBits_600 p hands s hok
  have H6 := Lib.hid h600
  clear h h600 hok
  go_enter Tryz.func48, Tryz.ntmps48
  go_wp2_with fail
  refine hg.mono ?_
  rintro e w1 ⟨v', s, rfl, hE, hO, ho⟩
  clear hg
  have hs := gBits_steps p hands s hE.2
  have hs2 := H6.out s
  have hst : Hid (s ≤ 600) := by show _ ≤ _; omega
  obtain ⟨a, cap, rfl, hc⟩ := (OwnBits.at hO).opt
  have he := gBits_empty p hands s hE
  have hl := gBits_last p hands s hE
  obtain ⟨q, hq⟩ : ∃ q, (gBits p hands s).length = q := ⟨_, rfl⟩
  rw [hq] at hc he hl hs hs2
  have HE := Lib.hid hE
  clear hO hE
  by_cases h0 : q = 0
  · have hs0 := he h0
    subst hs0 h0
    clear hc he hl
    go_wp2
    go_ret2
    exact ⟨0, rfl, HE.out, by omega, ho⟩
  · obtain ⟨b, off, rfl, c0, _, _⟩ := hc (q - 1) (by omega)
    obtain ⟨hs0, hl2⟩ := hl (by omega)
    rw [hl2] at c0
    obtain ⟨k, rfl⟩ : ∃ k, q = k + 1 := ⟨q - 1, by omega⟩
    obtain ⟨t, rfl⟩ : ∃ t, s = t + 1 := ⟨s - 1, by omega⟩
    rw [show k + 1 - 1 = k by omega, show (((t + 1 : Nat) : Int) - 1) = (t : Int) by omega] at c0
    clear hc he hl hl2 h0 hs0
    go_wp2
    go_ret2
    exact ⟨t + 1, by simp, HE.out, hst.out, ho⟩

end Go.Proofs.YtocpmncedlenbaaGreatDoor

namespace Go.Proofs.YtocpmncedlenbaaGreatDoor
open Go.RowKit

theorem lit_ints {W : World} {b : Nat} {cs : Array Value} {t : TypeId} (h : W.heap[b]? = some (.cells cs t (0, 0))) (l : List Int) (hcs : cs.toList = l.map (Value.int .i64)) (hn : l.length ≤ 1000) :
    Reads W (.slice (some ⟨b, 0, none⟩) l.length l.length) l := by
  by_cases h0 : l = []
  · subst h0
    exact .inl ⟨rfl, .inr ⟨_, 0, rfl, by unfold maxLen; omega⟩⟩
  · refine .inr ⟨List.length_pos_iff.2 h0, b, 0, l.length, rfl, Nat.le_refl _, by unfold maxLen; omega, fun i hi => ?_⟩
    rw [Nat.zero_add, cell_of_row W b i cs t (0, 0) h, ← Array.getElem?_toList, hcs]
    simp [nth, hi]

theorem lit_plan {W : World} {B : Nat} {cs : Array Value} {t : TypeId} (h : W.heap[B]? = some (.cells cs t (0, 0))) (p : PlanL) (N : Nat → Value) (hcs : cs.toList = flatP p N p.length) (hn : p.length ≤ 1000)
    (hr : ∀ i, i < p.length → Reads W (N i) (ndOf p i)) : InPlan W (.slice (some ⟨B, 0, none⟩) p.length p.length) p := by
  refine ⟨N, ⟨_, p.length, rfl, Nat.le_refl _, by unfold maxLen; omega, (fun h => by cases h), fun i hi => ⟨B, 0, rfl, ?_, ?_⟩⟩, hr, fun _ _ _ => trivial, fun _ _ _ _ _ => trivial⟩
  · rw [Nat.zero_add, cell_of_row W B _ cs t (0, 0) h, ← Array.getElem?_toList, hcs]
    exact flatP_0 _ _ _ _ hi
  · rw [Nat.zero_add, cell_of_row W B _ cs t (0, 0) h, ← Array.getElem?_toList, hcs]
    exact flatP_1 _ _ _ _ hi

theorem heap_alloc_old (w : World) (o : Obj) (k : Nat) (h : k < w.heap.size) : (w.alloc o).heap[k]? = w.heap[k]? := Below.heap_alloc w o k h
theorem heap_alloc_at (w : World) (o : Obj) (k : Nat) (h : k = w.heap.size) : (w.alloc o).heap[k]? = some o := by subst h; exact heap_alloc_new w o

/-- Two tasks of one unit each, the second behind the first. -/
theorem lit_two (W : World) : InPlan ((W.alloc (.cells #[.int .i64 0] 3)).alloc (.cells #[.int .i64 1, .slice none 0 0, .int .i64 1, .slice (some ⟨W.heap.size, 0, none⟩) 1 1] 97)) (.slice (some ⟨W.heap.size + 1, 0, none⟩) 2 2) [(1, []), (1, [0])] := by
  refine lit_plan (heap_alloc_at _ _ _ (by simp)) [(1, []), (1, [0])] (fun i => if i = 0 then .slice none 0 0 else .slice (some ⟨W.heap.size, 0, none⟩) 1 1) ?_ (by simp) ?_
  · rfl
  · intro i hi
    have : i = 0 ∨ i = 1 := by simp at hi; omega
    rcases this with rfl | rfl
    · exact .inl ⟨rfl, .inl rfl⟩
    · refine lit_ints (cs := #[.int .i64 0]) (t := 3) ?_ [0] rfl (by simp)
      rw [heap_alloc_old _ _ _ (by simp)]
      exact heap_alloc_new _ _

end Go.Proofs.YtocpmncedlenbaaGreatDoor

namespace Go.Proofs.YtocpmncedlenbaaGreatDoor
open Go.RowKit Go.Deep

def chainT (work : Int) (i : Nat) : Int × List Int := (work, if i = 0 then [] else [(i : Int) - 1])
def chainP (n : Nat) (work : Int) : PlanL := (List.range n).map (chainT work)
def besideP (n : Nat) (work : Int) : PlanL := (List.range n).map fun _ => (work, [])
theorem chainP_len (n : Nat) (work : Int) : (chainP n work).length = n := by simp [chainP]
theorem besideP_len (n : Nat) (work : Int) : (besideP n work).length = n := by simp [besideP]
theorem chainP_push (n : Nat) (work : Int) : chainP n work ++ [chainT work n] = chainP (n + 1) work := by simp [chainP, List.range_succ]
theorem besideP_push (n : Nat) (work : Int) : besideP n work ++ [(work, [])] = besideP (n + 1) work := by simp [besideP, List.range_succ]

end Go.Proofs.YtocpmncedlenbaaGreatDoor

namespace Go.Proofs.YtocpmncedlenbaaGreatDoor

theorem chain_wk (n : Nat) (work : Int) (i : Nat) (h : i < n) : wkOf (chainP n work) i = work := by simp [wkOf, chainP, h, chainT]
theorem chain_nd (n : Nat) (work : Int) (i : Nat) (h : i < n) : ndOf (chainP n work) i = if i = 0 then [] else [(i : Int) - 1] := by simp [ndOf, chainP, h, chainT]
theorem beside_wk (n : Nat) (work : Int) (i : Nat) (h : i < n) : wkOf (besideP n work) i = work := by simp [wkOf, besideP, h]
theorem beside_nd (n : Nat) (work : Int) (i : Nat) : ndOf (besideP n work) i = [] := by
  by_cases h : i < n
  · simp [ndOf, besideP, h]
  · exact ndOf_none _ _ (by rw [besideP_len]; omega)

/-- Where each needs only those ahead of it nobody needs itself. -/
theorem acyc_of {p : PlanL} (h : ∀ i k : Nat, (k : Int) ∈ ndOf p i → k < i) (i k : Nat) (hr : Reach p i k) : k < i := by
  induction hr with
  | one hk => exact h _ _ hk
  | more _ hk ih => have := h _ _ hk; omega

theorem chain_need {n : Nat} {work : Int} {i k : Nat} (h : (k : Int) ∈ ndOf (chainP n work) i) : k < i := by
  by_cases hi : i < n
  · rw [chain_nd _ _ _ hi] at h
    split at h
    · cases h
    · simp at h; omega
  · rw [ndOf_none _ _ (by rw [chainP_len]; omega)] at h; cases h

theorem chain_ok (n : Nat) (work : Int) (hn : n ≤ 30) (h1 : 1 ≤ work) (h2 : work ≤ 20) : PlanOk (chainP n work) := by
  refine ⟨by rw [chainP_len]; exact hn, fun i hi => ?_, fun i hi hr => ?_⟩
  · rw [chainP_len] at hi ⊢
    have e : (chainP n work)[i]?.getD (0, []) = chainT work i := by simp [chainP, hi]
    rw [e]
    unfold taskFault chainT
    have hany : (if i = 0 then ([] : List Int) else [(i : Int) - 1]).any (outOf n) = false := by
      split
      · rfl
      · simp [outOf]; omega
    have hris : rising (if i = 0 then ([] : List Int) else [(i : Int) - 1]) = true := by split <;> rfl
    simp only [hany, hris]
    rw [if_neg (by simp; omega)]
    rfl
  · have := acyc_of (fun i k => chain_need) i i hr
    omega

theorem beside_ok (n : Nat) (work : Int) (hn : n ≤ 30) (h1 : 1 ≤ work) (h2 : work ≤ 20) : PlanOk (besideP n work) := by
  refine ⟨by rw [besideP_len]; exact hn, fun i hi => ?_, fun i hi hr => ?_⟩
  · rw [besideP_len] at hi ⊢
    have e : (besideP n work)[i]?.getD (0, []) = (work, []) := by simp [besideP, hi]
    rw [e]
    unfold taskFault
    rw [if_neg (by simp; omega)]
    rfl
  · have := acyc_of (fun i k h => by rw [beside_nd] at h; cases h) i i hr
    omega

end Go.Proofs.YtocpmncedlenbaaGreatDoor

namespace Go.Proofs.YtocpmncedlenbaaGreatDoor
open Go.RowKit

/-- Each task is right by itself, and needs only those ahead of it. -/
def litOk (p : PlanL) : Bool := decide (p.length ≤ 30) && (List.range p.length).all fun i => decide (taskFault p.length (p[i]?.getD (0, [])) = 0) && (ndOf p i).all fun k => decide (k < i)

theorem litOk_ok {p : PlanL} (h : litOk p = true) : PlanOk p := by
  unfold litOk at h
  simp only [Bool.and_eq_true, decide_eq_true_eq, List.all_eq_true, List.mem_range] at h
  obtain ⟨h1, h2⟩ := h
  refine ⟨h1, fun i hi => (h2 i hi).1, fun i hi hr => ?_⟩
  have := acyc_of (p := p) (fun i k hk => by
    by_cases hi : i < p.length
    · have := (h2 i hi).2 (k : Int) hk
      omega
    · rw [ndOf_none _ _ (by omega)] at hk; cases hk) i i hr
  omega

/-- A row of numbers that is written out. -/
theorem lit_row {W : World} {b : Nat} (l : List Int) (h : W.heap[b]? = some (.cells (l.map (Value.int .i64)).toArray 3 (0, 0))) (hn : l.length ≤ 1000) : Reads W (.slice (some ⟨b, 0, none⟩) l.length l.length) l :=
  lit_ints h l (by simp) hn

end Go.Proofs.YtocpmncedlenbaaGreatDoor

namespace Go.Proofs.YtocpmncedlenbaaGreatDoor
open Go.RowKit Go.Deep

theorem top_lit (W : World) : InPlan ((W.alloc (.cells #[.int .i64 0] 3)).alloc (.cells #[.int .i64 1, .slice none 0 0, .int .i64 2, .slice (some ⟨W.heap.size, 0, none⟩) 1 1] 97)) (.slice (some ⟨W.heap.size + 1, 0, none⟩) 2 2) [(1, []), (2, [0])] := by
  refine lit_plan (heap_alloc_at _ _ _ (by simp)) [(1, []), (2, [0])] (fun i => if i = 0 then .slice none 0 0 else .slice (some ⟨W.heap.size, 0, none⟩) 1 1) ?_ (by simp) ?_
  · rfl
  · intro i hi
    have : i = 0 ∨ i = 1 := by simp at hi; omega
    rcases this with rfl | rfl
    · exact .inl ⟨rfl, .inl rfl⟩
    · refine lit_row [0] ?_ (by simp)
      rw [heap_alloc_old _ _ _ (by simp)]
      exact heap_alloc_new _ _
theorem top_ok : PlanOk [(1, []), (2, [0])] := litOk_ok (by decide)
theorem top_end : GEnd [(1, []), (2, [0])] 2 3 := ⟨by decide +kernel, by decide +kernel⟩

theorem top_one (w : World) : Calls Tryz.prog 7 #[] w fun e w' => e = .returned (.bool true) ∧ Only [] w w' := by
  have hol := ((Only.refl [] w).alloc (.cells #[.int .i64 0] 3)).alloc (.cells #[.int .i64 1, .slice none 0 0, .int .i64 2, .slice (some ⟨w.heap.size, 0, none⟩) 1 1] 97)
  have hl := greedy_Long _ _ 2 _ (top_lit w) top_ok (by omega) (by omega)
  go_enter Tryz.func7, Tryz.ntmps7
  go_wp2_with fail
  refine hl.mono ?_
  rintro e w1 ⟨s, rfl, hE, _, ho⟩
  obtain rfl := gEnd_unique hE top_end
  have hoo := hol.trans ho (by simp)
  clear hl hE hol ho
  go_wp2
  go_ret
  exact ⟨rfl, hoo⟩

end Go.Proofs.YtocpmncedlenbaaGreatDoor

namespace Go.Proofs.YtocpmncedlenbaaGreatDoor
open Go.RowKit

set_option maxHeartbeats 2000000 in
theorem bench_check (v : Value) (bs : List Bt) (hands : Int) (w : World) (h : BitsAt w v bs) (hl : bs.length ≤ 600) (h1 : 1 ≤ hands) (h6 : hands ≤ 6) (hok : ∀ b ∈ bs, bitOk hands b) :
    Calls Tryz.prog 61 #[v, .int .i64 hands] w fun e w' => e = .returned .nilIface ∧ Only [] w w' := by
  obtain ⟨a, c, rfl, ha⟩ := h.opt
  obtain ⟨n, hn⟩ : ∃ n, bs.length = n := ⟨_, rfl⟩
  have HN := Lib.hid hn
  have HOK := Lib.hid hok
  rw [hn] at ha hl ⊢
  clear h hn hok
  go_enter Tryz.func61, Tryz.ntmps61
  go_wp2_with fail
  refine (hands_yes _ _ h1 h6).mono ?_
  rintro e w1 ⟨rfl, rfl⟩
  go_wp2_with fail
  go_loopw [19] (fun vi wr => ∃ i : Nat, i ≤ n ∧ vi = .int .i64 i ∧ Only [] w wr) (fun vi _ => n - (intOf vi).toNat)
  case atStart => exact ⟨0, Nat.zero_le _, rfl, Only.refl _ _⟩
  case round =>
    obtain ⟨i, hi, rfl, ho⟩ := hrel
    by_cases hin : i < n
    · obtain ⟨b, off, rfl, k0, k1, k2⟩ := ha i hin
      have c0 := (ho.cell (p := ⟨b, _, none⟩) (cell_lt k0) (by simp)).trans k0
      have c1 := (ho.cell (p := ⟨b, _, none⟩) (cell_lt k1) (by simp)).trans k1
      have c2 := (ho.cell (p := ⟨b, _, none⟩) (cell_lt k2) (by simp)).trans k2
      have hb := HOK.out (bitAt bs i) (bitAt_mem (by rw [HN.out]; exact hin))
      unfold bitOk at hb
      generalize bitAt bs i = b9 at *
      obtain ⟨x, y, z⟩ := b9
      obtain ⟨g1, g2, g3, g4, g5, g6⟩ := hb
      simp only at c0 c1 c2 g1 g2 g3 g4 g5 g6
      have ho2 := Lib.hid (ho.alloc (.cells #[.int .i64 x, .int .i64 y, .int .i64 z] 203))
      clear ha k0 k1 k2 ho
      go_wp2
      go_roundw
      case rel => exact ⟨i + 1, by omega, by go_num, ho2.out⟩
      case measure => (simp [intOf]; try omega)
    · obtain rfl : i = n := by omega
      clear ha
      go_wp2
      go_ret
      exact ⟨rfl, ho⟩


set_option maxHeartbeats 4000000 in
theorem bench_row (v : Value) (bs : List Bt) (hands : Int) (w : World) (h : BitsAt w v bs) (hl : bs.length ≤ 600) (hok : ∀ b ∈ bs, bitOk hands b) :
    Calls Tryz.prog 62 #[v] w fun e w' => ∃ vo, e = .returned vo ∧ Ints w' w.heap.size vo (rowL bs (stepsOf bs)) ∧ Only [] w w' := by
  obtain ⟨a, c, rfl, ha⟩ := h.opt
  obtain ⟨n, hn⟩ : ∃ n, bs.length = n := ⟨_, rfl⟩
  have HN := Lib.hid hn
  have HOK := Lib.hid hok
  rw [hn] at ha hl ⊢
  clear h hn hok
  go_enter Tryz.func62, Tryz.ntmps62
  go_wp2_with fail
  go_loopw [3, 8] (fun vo vi wr => ∃ i : Nat, i ≤ n ∧ vi = .int .i64 i ∧ Ints wr w.heap.size vo (rowL (bs.take i) (stepsOf (bs.take i))) ∧ Only [] w wr) (fun _ vi _ => n - (intOf vi).toNat)
  case atStart => exact ⟨0, Nat.zero_le _, rfl, Ints.nil _ _, Only.refl _ _⟩
  case round =>
    obtain ⟨wo, rfl⟩ : ∃ wo : World, wo = wr := ⟨_, rfl⟩
    obtain ⟨i, hi, rfl, hI, ho⟩ := hrel
    by_cases hin : i < n
    · obtain ⟨b, off, rfl, k0, k1, k2⟩ := ha i hin
      have c0 := (ho.cell (p := ⟨b, _, none⟩) (cell_lt k0) (by simp)).trans k0
      have c1 := (ho.cell (p := ⟨b, _, none⟩) (cell_lt k1) (by simp)).trans k1
      have c2 := (ho.cell (p := ⟨b, _, none⟩) (cell_lt k2) (by simp)).trans k2
      have hb := HOK.out (bitAt bs i) (bitAt_mem (by rw [HN.out]; exact hin))
      have htk := take_bit bs i (by rw [HN.out]; exact hin)
      have hall : Hid (∀ x ∈ bs.take i, 0 ≤ x.step ∧ x.step.toNat < 10001) := by
        show ∀ x ∈ _, _
        intro x hx
        have := HOK.out x (List.mem_of_mem_take hx)
        unfold bitOk at this; omega
      unfold bitOk at hb
      generalize bitAt bs i = b9 at *
      obtain ⟨x, y, z⟩ := b9
      obtain ⟨g1, g2, g3, g4, g5, g6⟩ := hb
      simp only at c0 c1 c2 g1 g2
      obtain ⟨x, rfl⟩ := Int.eq_ofNat_of_zero_le g1
      have HTK := Lib.hid htk
      obtain ⟨bt, hbt⟩ : ∃ bt, bs.take i = bt := ⟨_, rfl⟩
      have hbl : bt.length ≤ i := by rw [← hbt]; exact List.length_take_le _ _
      rw [hbt] at hI hall HTK
      have hs10 : stepsOf bt ≤ 10001 := stepsOf_le (fun y hy => (hall.out y hy).2)
      obtain ⟨s, hs⟩ : ∃ s, stepsOf bt = s := ⟨_, rfl⟩
      have HS := Lib.hid hs
      rw [hs] at hI hs10
      obtain ⟨oa, oc, rfl, _⟩ := hI.opt
      rw [rowL_len] at hI ⊢
      have hal := (Only.refl [] wo).alloc (.cells #[.int .i64 x, .int .i64 y, .int .i64 z] 203)
      have hng0 : wo.heap.size ∉ own (Value.slice oa s oc) := fun hx => by have := (hI.own_lt _ hx).2; omega
      have hI2 := hI.only hal (by simp)
      have hoa := ho.trans hal (by simp)
      have hcx : (wo.alloc (.cells #[.int .i64 x, .int .i64 y, .int .i64 z] 203)).cell? ⟨wo.heap.size, 0, none⟩ = some (.int .i64 x) := by rw [World.cell?_alloc_new]; rfl
      clear ha k0 k1 k2 hI hal htk hbt hs
      go_wp2_with fail
      go_loopw [3] (fun vo wr => ∃ m : Nat, s ≤ m ∧ m ≤ max s (x + 1) ∧ Ints wr w.heap.size vo (rowL bt m) ∧ Only [] w wr ∧ wr.cell? ⟨wo.heap.size, 0, none⟩ = some (.int .i64 x) ∧ wo.heap.size < wr.heap.size ∧ wo.heap.size ∉ own vo) (fun vo _ => x + 1 - lenOf3 vo)
      case atStart => exact ⟨s, Nat.le_refl _, Nat.le_max_left _ _, hI2, hoa, hcx, by simp, hng0⟩
      case round =>
        obtain ⟨wi, rfl⟩ : ∃ wi : World, wi = wr := ⟨_, rfl⟩
        obtain ⟨m, hm1, hm2, hI3, ho3, hcx3, hA3, hng⟩ := hrel
        clear hI2 hoa hcx hng0
        obtain ⟨oa3, oc3, rfl, _⟩ := hI3.opt
        rw [rowL_len] at hI3 ⊢
        have hml : Hid ((rowL bt m).length = m) := rowL_len _ _
        have hsz3 := ho3.size
        by_cases hmx : m ≤ x
        · have hp := Lib.hid (rowL_push bt m (atStep_zero (fun y hy => (hall.out y hy).1) (by rw [HS.out]; exact hm1)))
          have hm1b : m ≤ 10001 := by omega
          go_wp2_with (at_builtin; refine wpList_push rfl (.tmp 17) (.tmp 18) rfl wi w.heap.size _ _ _ 0 m hI3 hml.out (by omega) hsz3 rfl rfl ((Only.refl [] wi).alloc _) (World.cell?_alloc_at _ _ _ _ rfl) ?_; intro g cap w4 hI4 hO4 hK4)
          rw [hp.out] at hI4
          have ho4 := Lib.hid (ho3.pushed hI3 (Nat.le_refl _) hO4)
          replace hng : wo.heap.size ∉ own (Value.slice oa3 m oc3) := by cases oa3 <;> exact hng
          have hcx4 := (hO4.cell (p := ⟨wo.heap.size, 0, none⟩) hA3 hng).trans hcx3
          have hA4 := hO4.size
          have hng4 : Hid (wo.heap.size ∉ own (Value.slice (some ⟨g, 0, none⟩) (m + 1) cap)) := fun hx => by
            obtain e : wo.heap.size = g := by simpa [own, Value.ownBlock] using hx
            rcases hK4 with h | h
            · rw [← e] at h; exact hng h
            · omega
          go_roundw
          case rel => exact ⟨m + 1, by omega, by omega, hI4, ho4.out, hcx4, by omega, hng4.out⟩
          case measure => (simp [lenOf3]; omega)
        · have hxm : x < m := by omega
          obtain ⟨g, cap9, hge, hgb, hgl⟩ := hI3.sized m hml.out (by omega)
          injection hge with hge1 hge2 hge3
          subst hge1
          subst hge3
          have hcy := hI3.cell x (by rw [hml.out]; exact hxm)
          rw [rowL_nth _ _ _ hxm] at hcy
          have hfy := hI3.free x
          have hle : atStep bt x ≤ 600 := by
            exact Nat.le_trans List.countP_le_length (by omega)
          have hst : Hid (stepsOf (bs.take (i + 1)) = m) := by
            show _ = _
            rw [HTK.out, stepsOf_append, HS.out]
            simp [stepsOf]; omega
          have hset := Lib.hid (hI3.set x ((atStep bt x : Int) + 1))
          rw [rowL_set bt ⟨x, y, z⟩ m x rfl hxm, ← HTK.out] at hset
          have hos := Lib.hid (ho3.setCell (p := ⟨g, x, none⟩) (fun hlt => by simp at hlt; omega) (.int .i64 ((atStep bt x : Int) + 1)))
          obtain ⟨q, hq⟩ : ∃ q, atStep bt x = q := ⟨_, rfl⟩
          rw [hq] at hcy hle hset hos
          clear hI3 ho3 hq
          go_wp2
          go_roundw
          case rel => exact ⟨i + 1, by omega, by go_num, by rw [hst.out]; exact hset.out, hos.out⟩
          case measure => (simp [intOf]; try omega)
    · obtain rfl : i = n := by omega
      rw [show bs.take i = bs from List.take_of_length_le (by rw [HN.out]; exact Nat.le_refl _)] at hI
      clear ha
      go_wp2
      go_ret
      exact ⟨_, rfl, hI, ho⟩

theorem bench_waste (v : Value) (bs : List Bt) (hands : Nat) (w : World) (h : BitsAt w v bs) (hl : bs.length ≤ 600) (h1 : 1 ≤ hands) (h6 : hands ≤ 6) (hok : ∀ b ∈ bs, bitOk hands b) :
    Calls Tryz.prog 13 #[v, .int .i64 hands] w fun e w' => e = .returned (.tuple #[.int .i64 ((hands : Int) * (stepsOf bs : Int) - (bs.length : Int)), .nilIface]) ∧ Only [] w w' := by
  have hck := bench_check v bs hands w h hl (by omega) (by omega) hok
  have hrow := fun w1 (ho : Only [] w w1) => bench_row v bs hands w1 (h.same ho) hl hok
  have HRow := Lib.hid hrow
  have hs10 : stepsOf bs ≤ 10001 := stepsOf_le (fun b hb => by have := hok b hb; unfold bitOk at this; omega)
  obtain ⟨a, c, rfl, _⟩ := h.opt
  obtain ⟨n, hn⟩ : ∃ n, bs.length = n := ⟨_, rfl⟩
  obtain ⟨s, hs⟩ : ∃ s, stepsOf bs = s := ⟨_, rfl⟩
  have HS := Lib.hid hs
  have hmul : (hands : Int) * (s : Int) ≤ 60006 ∧ 0 ≤ (hands : Int) * (s : Int) := by
    rw [← Int.natCast_mul]
    have : hands * s ≤ 6 * 10001 := Nat.mul_le_mul h6 (by omega)
    omega
  obtain ⟨hm1, hm2⟩ := hmul
  rw [hn] at hl hck HRow ⊢
  rw [hs] at hs10 ⊢
  clear h hrow hok hn hs
  go_enter Tryz.func13, Tryz.ntmps13
  go_wp2_with fail
  refine hck.mono ?_
  rintro e w1 ⟨rfl, ho1⟩
  clear hck
  go_wp2_with fail
  refine (HRow.out w1 ho1).mono ?_
  rintro e w2 ⟨vo, rfl, hI, ho2⟩
  have hoo := ho1.trans ho2 (by simp)
  obtain ⟨oa, oc, rfl, _⟩ := hI.opt
  rw [rowL_len, HS.out]
  clear HRow hI ho1 ho2
  go_wp2
  go_ret2
  exact ⟨rfl, hoo⟩

end Go.Proofs.YtocpmncedlenbaaGreatDoor
