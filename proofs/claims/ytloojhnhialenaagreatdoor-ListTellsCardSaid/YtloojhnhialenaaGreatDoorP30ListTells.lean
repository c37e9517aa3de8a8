/-
  Contracts of yardref1.Order and yardref1.Work.
  Tails, as the document reckons them: backwards along the order. No program is named here.
-/
import Derived.Test.YtloojhnhialenaaGreatDoorP28ListTells
import Derived.Test.YtloojhnhialenaaGreatDoorP9ListTells
import Derived.Test.YtloojhnhialenaaGreatDoorP11ListTells
namespace Go.Proofs.YtloojhnhialenaaGreatDoor
open Go.RowKit Go.Deep


set_option maxRecDepth 100000 in
set_option maxHeartbeats 4000000 in
theorem ref_Order (v : Value) (p : PlanL) (w : World) (h : InPlan w v p) (hok : PlanOk p) :
    Calls Tryz.prog 112 #[v] w fun e w' => ∃ v', e = .returned v' ∧ Ints w' w.heap.size v' (natL (orderOf p)) ∧ Only [] w w' := by
  have HP := Lib.hid h
  have HO := Lib.hid hok
  have HN := Lib.hid hok.needsOk
  obtain ⟨a, cap, rfl, hc1, hc2, _⟩ := h.task
  obtain ⟨n, hn⟩ : ∃ n, p.length = n := ⟨_, rfl⟩
  have HL := Lib.hid hn
  rw [hn] at hc1 HP ⊢
  have h30 : n ≤ 30 := by rw [← hn]; exact hok.len
  have hmk := make_bools n (by omega)
  have hB1 := made_bools w n
  have ho1 := (Only.refl [] w).alloc (.cells (madeCells #[.bool false] n) 4)
  have hI1 : Ints (w.alloc (.cells (madeCells #[.bool false] n) 4)) (w.heap.size + 1) (.slice none 0 0) (natL (topo p 0)) := Ints.nil _ _
  clear h hn hok
  go_enter Tryz.func112, Tryz.ntmps112
  go_wp2_with fail
  go_loopw [4, 5, 6] (fun vo _ _ wr => ∃ k : Nat, k ≤ n ∧ Ints wr (w.heap.size + 1) vo (natL (topo p k)) ∧ Bools wr w.heap.size n (fun j => (topo p k).contains j) ∧ Only [] w wr ∧ w.heap.size < wr.heap.size) (fun vo _ _ _ => n - (lenOfV vo))
  case atStart => exact ⟨0, Nat.zero_le _, hI1, hB1, ho1, by simp⟩
  case round =>
    obtain ⟨wo, rfl⟩ : ∃ wo : World, wo = wr := ⟨_, rfl⟩
    clear hI1 hB1 ho1
    obtain ⟨k, hk, hI, hB, ho, hgt⟩ := hrel
    have htl := topo_len HO.out k (by rw [HL.out]; exact hk)
    obtain ⟨va, vc, rfl, _⟩ := hI.opt
    rw [natL_len, htl] at hI ⊢
    by_cases hkn : k < n
    · go_wp2_with fail
      go_loopw [4, 5, 6] (fun vo vi _ wr => ∃ i : Nat, i ≤ n ∧ vo = .slice va k vc ∧ vi = .int .i64 i ∧ (∀ j, j < i → readyB p (fun j => (topo p k).contains j) j = false) ∧ wo = wr) (fun _ vi _ _ => n - (intOf vi).toNat)
      case atStart => exact ⟨0, Nat.zero_le _, rfl, rfl, fun j hj => by omega, rfl⟩
      case round =>
        obtain ⟨i, hi, rfl, rfl, hnr, rfl⟩ := hrel
        have HNR := Lib.hid hnr
        clear hnr
        by_cases hin : i < n
        · have hF := ref_Free _ p i w.heap.size n (fun j => (topo p k).contains j) wo (HP.out.same ho) HN.out hB (by rw [HL.out]; exact hin) HL.out
          have cA : wo.cell? ⟨w.heap.size, i, none⟩ = some (.bool ((topo p k).contains i)) := (hB i hin).1
          have fA := (hB i hin).2
          have hre := ready_free p (fun j => (topo p k).contains j) i
          obtain ⟨fr, hfr⟩ : ∃ b, freeB p (fun j => (topo p k).contains j) i = b := ⟨_, rfl⟩
          obtain ⟨fi, hfi⟩ : ∃ b, (topo p k).contains i = b := ⟨_, rfl⟩
          rw [hfr] at hF hre
          rw [hfi] at cA
          simp only [hfi] at hre
          have HRE := Lib.hid hre
          clear hfr hfi hre
          by_cases hr : fi = false ∧ fr = true
          · obtain ⟨rfl, rfl⟩ := hr
            have hst : Hid (topo p (k + 1) = topo p k ++ [i]) := by
              show _ = _
              obtain ⟨i2, h1, h2, h3, h4⟩ := topo_step HO.out k (by rw [HL.out]; exact hkn) htl
              have : i2 = i := by
                rcases Nat.lt_trichotomy i2 i with hl | hl | hl
                · have := HNR.out i2 hl; rw [this] at h2; cases h2
                · exact hl
                · have := h3 i hl
                  rw [HRE.out] at this; cases this
              rw [h4, this]
            have hset : Only [w.heap.size] wo (wo.setCell ⟨w.heap.size, i, none⟩ (.bool true)) := (Only.refl _ _).setCell (by simp) _
            have hIw := hI.only hset (fun g hg hx => by have h1 := (hI.own_lt g (own_of hg)).1; simp at hx; omega)
            have hBw : Bools (wo.setCell ⟨w.heap.size, i, none⟩ (.bool true)) w.heap.size n (fun j => (topo p (k + 1)).contains j) := by
              have h1 := hB.set i true
              have e : (fun j => if j = i then true else (topo p k).contains j) = fun j => (topo p (k + 1)).contains j := by
                funext j
                rw [hst.out]
                by_cases e : j = i
                · subst e; simp
                · simp [e]
              rw [e] at h1
              exact h1
            have hwW : Only [] w (wo.setCell ⟨w.heap.size, i, none⟩ (.bool true)) := ho.trans hset (by simp)
            have hszW : w.heap.size + 1 ≤ (wo.setCell ⟨w.heap.size, i, none⟩ (.bool true)).heap.size := by simp; omega
            have hlk := natL_len (topo p k)
            clear hset hI hB ho
            obtain ⟨W, hW⟩ : ∃ W, wo.setCell ⟨w.heap.size, i, none⟩ (.bool true) = W := ⟨_, rfl⟩
            rw [hW] at hIw hBw hwW hszW
            go_wp2_with fail
            refine hF.mono ?_
            rintro e w1 ⟨rfl, hw1⟩
            subst hw1
            clear hF
            go_wp2_with (at_builtin; refine wpList_push rfl (.tmp 36) (.tmp 38) rfl W (w.heap.size + 1) _ _ W.heap.size i k hIw (by rw [hlk, htl]) (by omega) hszW rfl rfl ((Only.refl [] W).alloc _) (World.cell?_alloc_at _ _ _ _ rfl) ?_; intro g cap3 w3 hI3 hO3 hK3)
            rw [← natL_push, ← hst.out] at hI3
            have hB4 := Lib.hid (hBw.only hO3 (fun hx => by have := (hIw.own_lt _ hx).1; omega))
            have ho4 := Lib.hid (hwW.trans hO3 (fun x hx hl => by have := (hIw.own_lt _ hx).1; omega))
            have hs4 : Hid (w.heap.size < w3.heap.size) := by show _ < _; have := hO3.size; omega
            clear hIw hBw hO3 hwW hW
            go_roundw
            case rel => exact ⟨k + 1, by omega, hI3, hB4.out, ho4.out, hs4.out⟩
            case measure => (simp [lenOfV]; omega)
          · have hf : Hid (readyB p (fun j => (topo p k).contains j) i = false) := by
              show _ = _
              rw [HRE.out]
              cases fi <;> cases fr <;> simp at hr ⊢
            cases fi
            · cases fr
              · go_wp2_with fail
                refine hF.mono ?_
                rintro e w1 ⟨rfl, hw1⟩
                subst hw1
                clear hF
                go_wp2
                go_roundw
                case rel =>
                  refine ⟨i + 1, by omega, rfl, by go_num, fun j hj => ?_, trivial⟩
                  by_cases e : j = i
                  · subst e; exact hf.out
                  · exact HNR.out j (by omega)
                case measure => (simp [intOf]; try omega)
              · exact absurd ⟨rfl, rfl⟩ hr
            · clear hr
              cases fr
              all_goals
                go_wp2_with fail
                refine hF.mono ?_
                rintro e w1 ⟨rfl, hw1⟩
                subst hw1
                clear hF
                go_wp2
                go_roundw
                case rel =>
                  refine ⟨i + 1, by omega, rfl, by go_num, fun j hj => ?_, trivial⟩
                  by_cases e : j = i
                  · subst e; exact hf.out
                  · exact HNR.out j (by omega)
                case measure => (simp [intOf]; try omega)
        · obtain rfl : i = n := by omega
          exfalso
          obtain ⟨i0, h1, h2⟩ := exists_ready HO.out (fun j => (topo p k).contains j) (exists_notin (topo p k) p.length (by rw [htl, HL.out]; exact hkn))
          rw [HNR.out i0 (by rw [← HL.out]; exact h1)] at h2
          cases h2
    · obtain rfl : k = n := by omega
      clear hB
      go_wp2
      go_ret
      refine ⟨_, rfl, ?_, ho⟩
      have e : orderOf p = topo p k := by unfold orderOf; rw [HL.out]
      rw [e]
      exact hI.mono (by omega)

end Go.Proofs.YtloojhnhialenaaGreatDoor

namespace Go.Proofs.YtloojhnhialenaaGreatDoor

/-- What stands for a task when those of D are reckoned. -/
def tailG (p : PlanL) (D : Nat → Bool) (j : Nat) : Int := maxL (((afterOf p j).filter D).map (tailF p)) + (if D j = true then wkOf p j else 0)
/-- Those behind the first i of the order. -/
def doneT (p : PlanL) (i : Nat) : Nat → Bool := fun j => decide (j ∈ (orderOf p).drop i)

theorem maxL_filter_or (A : List Nat) (D : Nat → Bool) (x : Nat) (f : Nat → Int) : maxL ((A.filter (fun j => decide (j = x) || D j)).map f) = max (maxL ((A.filter D).map f)) (if x ∈ A then f x else 0) := by
  have h0 := maxL_ge ((A.filter D).map f)
  have h1 := maxL_ge ((A.filter (fun j => decide (j = x) || D j)).map f)
  apply Int.le_antisymm
  · refine maxL_le (by omega) (fun y hy => ?_)
    obtain ⟨z, hz, rfl⟩ := List.mem_map.1 hy
    obtain ⟨hzA, hzD⟩ := List.mem_filter.1 hz
    simp only [Bool.or_eq_true, decide_eq_true_eq] at hzD
    rcases hzD with rfl | hzD
    · rw [if_pos hzA]; omega
    · have := maxL_mem (l := (A.filter D).map f) (List.mem_map.2 ⟨z, List.mem_filter.2 ⟨hzA, hzD⟩, rfl⟩)
      omega
  · have h2 : maxL ((A.filter D).map f) ≤ maxL ((A.filter (fun j => decide (j = x) || D j)).map f) := maxL_le h1 (fun y hy => by
      obtain ⟨z, hz, rfl⟩ := List.mem_map.1 hy
      obtain ⟨hzA, hzD⟩ := List.mem_filter.1 hz
      exact maxL_mem (List.mem_map.2 ⟨z, List.mem_filter.2 ⟨hzA, by simp [hzD]⟩, rfl⟩))
    have h3 : (if x ∈ A then f x else 0) ≤ maxL ((A.filter (fun j => decide (j = x) || D j)).map f) := by
      split
      · rename_i hx
        exact maxL_mem (List.mem_map.2 ⟨x, List.mem_filter.2 ⟨hx, by simp⟩, rfl⟩)
      · exact h1
    omega

theorem doneT_step {p : PlanL} {i : Nat} (hi : i < (orderOf p).length) (j : Nat) : doneT p i j = (decide (j = (orderOf p)[i]) || doneT p (i + 1) j) := by
  unfold doneT
  rw [List.drop_eq_getElem_cons hi, Bool.eq_iff_iff]
  simp only [decide_eq_true_eq, Bool.or_eq_true, List.mem_cons]
theorem order_nodup {p : PlanL} (h : PlanOk p) : (orderOf p).Nodup := topo_nodup h _ (Nat.le_refl _)
theorem doneT_self {p : PlanL} (h : PlanOk p) {i : Nat} (hi : i < (orderOf p).length) : doneT p (i + 1) (orderOf p)[i] = false := by
  unfold doneT
  rw [decide_eq_false_iff_not]
  intro hm
  obtain ⟨a, ha, e⟩ := List.getElem_of_mem hm
  rw [List.getElem_drop] at e
  simp only [List.length_drop] at ha
  exact (List.pairwise_iff_getElem.1 (order_nodup h)) i (i + 1 + a) hi (by omega) (by omega) e.symm
theorem before_take {p : PlanL} (h : PlanOk p) (k : Nat) (hk : k < (orderOf p).length) : ∀ y ∈ ndOf p (orderOf p)[k], y.toNat ∈ (orderOf p).take k := by
  intro y hy
  have := (orderOf_ready h k (orderOf p)[k] (List.getElem?_eq_getElem hk)).2
  simp only [readyB, Bool.and_eq_true, List.all_eq_true] at this
  simpa using this.2 y hy
theorem doneT_need {p : PlanL} (h : PlanOk p) {i : Nat} (hi : i < (orderOf p).length) {k : Int} (hk : k ∈ ndOf p (orderOf p)[i]) : doneT p (i + 1) k.toNat = false ∧ k.toNat ≠ (orderOf p)[i] := by
  have hb := before_take h i hi k hk
  obtain ⟨a, ha, e⟩ := List.getElem_of_mem hb
  rw [List.getElem_take] at e
  have ha' : a < i := by simp at ha; omega
  refine ⟨?_, fun e2 => ?_⟩
  · unfold doneT
    rw [decide_eq_false_iff_not]
    intro hm
    obtain ⟨c, hc, e2⟩ := List.getElem_of_mem hm
    rw [List.getElem_drop] at e2
    simp only [List.length_drop] at hc
    exact (List.pairwise_iff_getElem.1 (order_nodup h)) a (i + 1 + c) (by omega) (by omega) (by omega) (e.trans e2.symm)
  · rw [← e] at e2
    exact (List.pairwise_iff_getElem.1 (order_nodup h)) a i (by omega) hi ha' e2
theorem doneT_after {p : PlanL} (h : PlanOk p) {i : Nat} (hi : i < (orderOf p).length) {z : Nat} (hz : z ∈ afterOf p ((orderOf p)[i] : Nat)) : doneT p (i + 1) z = true := by
  obtain ⟨hzn, hzi⟩ := mem_after.1 hz
  obtain ⟨k, hk, e⟩ := List.getElem_of_mem ((orderOf_mem h z).2 hzn)
  have hb := before_take h k hk ((orderOf p)[i] : Nat) (by rw [e]; exact hzi)
  rw [Int.toNat_natCast] at hb
  obtain ⟨a, ha, e2⟩ := List.getElem_of_mem hb
  rw [List.getElem_take] at e2
  have ha' : a < k := by simp at ha; omega
  have hai : a = i := by
    rcases Nat.lt_trichotomy a i with hl | hl | hl
    · exact absurd e2 ((List.pairwise_iff_getElem.1 (order_nodup h)) a i (by omega) hi hl)
    · exact hl
    · exact absurd e2.symm ((List.pairwise_iff_getElem.1 (order_nodup h)) i a hi (by omega) hl)
  unfold doneT
  rw [decide_eq_true_eq, List.mem_iff_getElem]
  exact ⟨k - (i + 1), by simp; omega, by rw [List.getElem_drop]; rw [← e]; congr 1; omega⟩

/-- The task itself. -/
theorem tailG_self {p : PlanL} (h : PlanOk p) {i : Nat} (hi : i < (orderOf p).length) : tailG p (doneT p (i + 1)) (orderOf p)[i] + wkOf p (orderOf p)[i] = tailF p (orderOf p)[i] := by
  have hn : (orderOf p)[i] < p.length := (orderOf_mem h _).1 (List.getElem_mem hi)
  unfold tailG
  rw [doneT_self h hi, List.filter_eq_self.2 (fun z hz => doneT_after h hi hz), tailF_eq h hn]
  simp
  omega
theorem tailG_self' {p : PlanL} (h : PlanOk p) {i : Nat} (hi : i < (orderOf p).length) : tailG p (doneT p i) (orderOf p)[i] = tailF p (orderOf p)[i] := by
  have hn : (orderOf p)[i] < p.length := (orderOf_mem h _).1 (List.getElem_mem hi)
  unfold tailG
  have h1 : doneT p i (orderOf p)[i] = true := by rw [doneT_step hi]; simp
  rw [h1, List.filter_eq_self.2 (fun z hz => by rw [doneT_step hi, doneT_after h hi hz, Bool.or_true]), tailF_eq h hn, if_pos rfl]
  omega
/-- Another one. -/
theorem tailG_other {p : PlanL} (h : PlanOk p) {i : Nat} (hi : i < (orderOf p).length) {j : Nat} (hj : j ≠ (orderOf p)[i]) :
    tailG p (doneT p i) j = if (j : Int) ∈ ndOf p (orderOf p)[i] then max (tailG p (doneT p (i + 1)) j) (tailF p (orderOf p)[i]) else tailG p (doneT p (i + 1)) j := by
  have hn : (orderOf p)[i] < p.length := (orderOf_mem h _).1 (List.getElem_mem hi)
  have e1 : doneT p i j = doneT p (i + 1) j := by rw [doneT_step hi]; simp [hj]
  have e2 : (fun z => doneT p i z) = fun z => decide (z = (orderOf p)[i]) || doneT p (i + 1) z := funext fun z => doneT_step hi z
  have e3 : (doneT p i) = fun z => decide (z = (orderOf p)[i]) || doneT p (i + 1) z := e2
  have hA : (orderOf p)[i] ∈ afterOf p (j : Int) ↔ (j : Int) ∈ ndOf p (orderOf p)[i] := ⟨fun hm => (mem_after.1 hm).2, fun hm => mem_after.2 ⟨hn, hm⟩⟩
  have hm := maxL_filter_or (afterOf p (j : Int)) (doneT p (i + 1)) (orderOf p)[i] (tailF p)
  have hf : tailG p (doneT p i) j = maxL (((afterOf p (j : Int)).filter (fun z => decide (z = (orderOf p)[i]) || doneT p (i + 1) z)).map (tailF p)) + (if doneT p (i + 1) j = true then wkOf p j else 0) := by
    unfold tailG
    rw [e1, e3]
  rw [hf, hm]
  by_cases hx : (j : Int) ∈ ndOf p (orderOf p)[i]
  · have hd := (doneT_need h hi hx).1
    rw [Int.toNat_natCast] at hd
    rw [if_pos (hA.2 hx), if_pos hx]
    unfold tailG
    rw [hd]
    simp
  · rw [if_neg (fun hm => hx (hA.1 hm)), if_neg hx]
    unfold tailG
    have := maxL_ge (((afterOf p (j : Int)).filter (doneT p (i + 1))).map (tailF p))
    omega

theorem tailG_zero (p : PlanL) (j : Nat) : tailG p (doneT p (orderOf p).length) j = 0 := by
  have e : doneT p (orderOf p).length = fun _ => false := by funext z; unfold doneT; simp
  unfold tailG
  rw [e, List.filter_eq_nil_iff.2 (by simp)]
  rfl
theorem tailG_all {p : PlanL} (h : PlanOk p) {j : Nat} (hj : j < p.length) : tailG p (doneT p 0) j = tailF p j := by
  have e : ∀ z, z < p.length → doneT p 0 z = true := fun z hz => by unfold doneT; rw [List.drop_zero, decide_eq_true_eq]; exact (orderOf_mem h z).2 hz
  unfold tailG
  rw [List.filter_eq_self.2 (fun z hz => e z (mem_after.1 hz).1), tailF_eq h hj, e j hj, if_pos rfl]
  omega
theorem tailG_bd {p : PlanL} (h : PlanOk p) (D : Nat → Bool) (j : Nat) (hj : j < p.length) : 0 ≤ tailG p D j ∧ tailG p D j ≤ 620 := by
  have h1 := maxL_ge (((afterOf p (j : Int)).filter D).map (tailF p))
  have h2 : maxL (((afterOf p (j : Int)).filter D).map (tailF p)) ≤ 600 := maxL_le (by omega) (fun y hy => by
    obtain ⟨z, hz, rfl⟩ := List.mem_map.1 hy
    exact (tailF_le h (mem_after.1 (List.mem_filter.1 hz).1).1).2)
  have h3 := h.work j hj
  unfold tailG
  split <;> omega

/-- On the way through the needs of x, q of them gone through. -/
def tailH (p : PlanL) (D : Nat → Bool) (x q : Nat) (j : Nat) : Int := if j = x then tailF p x else if (j : Int) ∈ (ndOf p x).take q then max (tailG p D j) (tailF p x) else tailG p D j

theorem tailH_step {p : PlanL} {D : Nat → Bool} {x q y : Nat} (hq : q < (ndOf p x).length) (hy : nth (ndOf p x) q = (y : Int)) (hyx : y ≠ x) (j : Nat) :
    tailH p D x (q + 1) j = if j = y then max (tailH p D x q y) (tailF p x) else tailH p D x q j := by
  unfold tailH
  have e : (ndOf p x).take (q + 1) = (ndOf p x).take q ++ [(y : Int)] := by rw [List.take_succ_eq_append_getElem hq, ← hy]; simp [nth, hq]
  by_cases e1 : j = y
  · subst e1
    rw [if_neg hyx, if_pos rfl, if_neg hyx, if_pos (by rw [e]; simp)]
    by_cases e2 : (j : Int) ∈ (ndOf p x).take q
    · rw [if_pos e2]; omega
    · rw [if_neg e2]
  · rw [if_neg e1]
    by_cases e2 : j = x
    · rw [if_pos e2, if_pos e2]
    · rw [if_neg e2, if_neg e2, e]
      have : ((j : Int) ∈ (ndOf p x).take q ++ [(y : Int)]) ↔ (j : Int) ∈ (ndOf p x).take q := by
        rw [List.mem_append, List.mem_singleton]
        exact ⟨fun h => h.resolve_right (fun h2 => e1 (by omega)), .inl⟩
      simp only [this]
theorem tailH_end {p : PlanL} (h : PlanOk p) {i : Nat} (hi : i < (orderOf p).length) (j : Nat) : tailH p (doneT p (i + 1)) (orderOf p)[i] (ndOf p (orderOf p)[i]).length j = tailG p (doneT p i) j := by
  unfold tailH
  rw [List.take_length]
  by_cases e : j = (orderOf p)[i]
  · rw [if_pos e, e, tailG_self' h hi]
  · rw [if_neg e, tailG_other h hi e]
theorem tailH_bd {p : PlanL} (h : PlanOk p) (D : Nat → Bool) (x q : Nat) (hx : x < p.length) (j : Nat) (hj : j < p.length) : 0 ≤ tailH p D x q j ∧ tailH p D x q j ≤ 620 := by
  have h1 := tailG_bd h D j hj
  have h2 := tailF_le h hx
  have h3 := h.work x hx
  unfold tailH
  split
  · omega
  · split <;> omega

end Go.Proofs.YtloojhnhialenaaGreatDoor
