/-
  Contract of depth.TailsOf.
  Contract of list.Urgent, of a right plan.
  The urgent order, in plain words: each task put behind all that are at least as urgent.
-/
import Derived.Test.YtocpmncedlenbaaGreatDoorP29TopWeave
import Derived.Test.YtocpmncedlenbaaGreatDoorP4TopWeave
import Derived.Test.YtocpmncedlenbaaGreatDoorP13TopWeave
import Derived.Test.YtocpmncedlenbaaGreatDoorP25TopWeave
import Derived.Outline
import Derived.Test.YtocpmncedlenbaaGreatDoorP10TopWeave
import Derived.Test.YtocpmncedlenbaaGreatDoorP27TopWeave
namespace Go.Proofs.YtocpmncedlenbaaGreatDoor
open Go.RowKit Go.Deep
attribute [local go_sem] Oper.semAt_some

theorem Nums.abides {w w' : World} {A N : Nat} {f : Nat → Int} {row : Option Nat} (h : Nums w A N f) (hg : w.grownBy w' row) (hr : ∀ r, row = some r → ∃ o : Obj, w.heap[r]? = some o ∧ o.isCells = false) : Nums w' A N f := fun i hi =>
  ⟨cell_kept (h i hi).1 hg hr, (frozen_kept (h i hi).1 hg hr).trans (h i hi).2⟩

theorem natL_get (l : List Nat) (k : Nat) : nth (natL l) k = ((l[k]?.getD 0 : Nat) : Int) := by
  unfold nth natL
  rw [List.getElem?_map]
  cases l[k]? <;> rfl

theorem rev_map (o : List Nat) (n : Nat) (hn : o.length = n) : (List.range n).map (fun j => o[n - 1 - j]?.getD 0) = o.reverse := by
  apply List.ext_getElem
  · simp [hn]
  · intro i h1 h2
    have hi : i < n := by simpa using h1
    have e : o[n - 1 - i]? = some (o[n - 1 - i]'(by omega)) := List.getElem?_eq_getElem (by omega)
    simp only [List.getElem_map, List.getElem_range, e, Option.getD_some, List.getElem_reverse]
    congr 1
    omega

theorem not_self {p : PlanL} (h : PlanOk p) {i : Nat} (hi : i < p.length) : (i : Int) ∉ ndOf p i := fun hm => h.acyc i hi (.one hm)

set_option maxRecDepth 100000 in
set_option maxHeartbeats 4000000 in
theorem depth_TailsOf (v : Value) (p : PlanL) (w : World) (h : InPlan w v p) (hok : PlanOk p) :
    Calls Tryz.prog 54 #[v] w fun e w' => ∃ v', e = .returned v' ∧ (∃ A, v' = .slice (some ⟨A, 0, none⟩) p.length p.length ∧ w.heap.size ≤ A ∧ Nums w' A p.length (tailF p)) ∧ Only [] w w' := by
  have HP := Lib.hid h
  have HO := Lib.hid hok
  obtain ⟨a, cap, rfl, hc1, hc2, _⟩ := h.task
  obtain ⟨n, hn⟩ : ∃ n, p.length = n := ⟨_, rfl⟩
  have HL := Lib.hid hn
  rw [hn] at hc1 HP ⊢
  have h30 : n ≤ 30 := by rw [← hn]; exact hok.len
  have hmk := make_ints n (by omega)
  clear h hn hok
  refine (callsIn_wide (n := 9)).1 ?_
  refine callsIn_of_wp_marks Tryz.func54 rfl trivial ?_ rfl
  simp only [Tryz.ntmps54, List.size_toArray, List.length_cons, List.length_nil, Nat.reduceAdd, Nat.reduceSub, Array.replicate_succ, Array.replicate_zero, List.push_toArray, List.append_toArray, List.nil_append, List.cons_append]
  obtain ⟨W0, hW0⟩ : ∃ W0, ((w.alloc (.cells #[.slice a n cap] 24)).alloc (.cells (madeCells #[.int .i64 0] n) 3)).alloc (.cells #[.slice (some ⟨w.heap.size + 1, 0, none⟩) n n] 32) = W0 := ⟨_, rfl⟩
  have ho0 : Only [] w W0 := by rw [← hW0]; exact (((Only.refl [] w).alloc _).alloc _).alloc _
  have hP0 : Cells W0 w.heap.size [.slice a n cap] := by
    have h1 := Cells.new w #[.slice a n cap] 24
    have h2 := (h1.only ((Only.refl [] _).alloc (.cells (madeCells #[.int .i64 0] n) 3)) (by simp)).only ((Only.refl [] _).alloc (.cells #[.slice (some ⟨w.heap.size + 1, 0, none⟩) n n] 32)) (by simp)
    rw [hW0] at h2; exact h2
  have hB0 : Nums W0 (w.heap.size + 1) n (fun _ => 0) := by
    have h1 := made_nums (w.alloc (.cells #[.slice a n cap] 24)) n
    have h2 := h1.only ((Only.refl [] _).alloc (.cells #[.slice (some ⟨w.heap.size + 1, 0, none⟩) n n] 32)) (by simp)
    rw [hW0] at h2; simpa using h2
  have hC0 : Cells W0 (w.heap.size + 1 + 1) [.slice (some ⟨w.heap.size + 1, 0, none⟩) n n] := by
    have h1 := Cells.new ((w.alloc (.cells #[.slice a n cap] 24)).alloc (.cells (madeCells #[.int .i64 0] n) 3)) #[.slice (some ⟨w.heap.size + 1, 0, none⟩) n n] 32
    rw [hW0] at h1; simpa using h1
  have hs0 : W0.heap.size = w.heap.size + 3 := by rw [← hW0]; simp
  have HW0 := Lib.hid hW0
  clear hW0
  gi_wp2_with fail
  rw [HW0.out]
  refine ⟨trivial, ?_⟩
  refine (callsIn_wide.2 (plan_OrderOf _ p _ (HP.out.same ho0) HO.out)).mono ?_
  rintro e w1 ⟨vo, rfl, hI, ho1⟩
  have hol : (natL (orderOf p)).length = n := by rw [natL_len]; exact (topo_len HO.out p.length (Nat.le_refl _)).trans HL.out
  have HOL := Lib.hid hol
  obtain ⟨oa, oc, rfl, _⟩ := hI.opt
  rw [hol] at hI ⊢
  have hP1 := hP0.only ho1 (by simp)
  have hB1 := hB0.only ho1 (by simp)
  have hC1 := hC0.only ho1 (by simp)
  have hoo1 := ho0.trans ho1 (by simp)
  have hs1 := ho1.size
  clear hol hP0 hB0 hC0 ho0 ho1
  gi_wp2_with fail
  refine ⟨trivial, ?_⟩
  refine (backward_mk _ _ _ _ _).mono ?_
  rintro e w2 ⟨rfl, rfl⟩
  gi_wp2_with fail
  have hfar := hI.own_lt
  have hvx : ∀ j, (orderOf p)[n - 1 - j]?.getD 0 < n ∨ n = 0 := fun j => by
    by_cases h0 : n = 0
    · exact .inr h0
    · left
      have hl : (orderOf p).length = n := (topo_len HO.out p.length (Nat.le_refl _)).trans HL.out
      rw [List.getElem?_eq_getElem (by omega)]
      have := (orderOf_mem HO.out _).1 (List.getElem_mem (l := orderOf p) (n := n - 1 - j) (by omega))
      rw [HL.out] at this
      exact this
  refine wpIn_rangeFunc_ownG (α := Nat × { x : Nat // x < n ∨ n = 0 }) rfl (by omega) (gf := 160) (lb := #[.pointer (some ⟨w1.heap.size, 0, none⟩)]) rfl trivial (enters_of Tryz.func160 (by kernel_rfl) rfl)
    (backward_stops (fun x : Nat × { x : Nat // x < n ∨ n = 0 } => #[.int .i64 (x.1 : Int), .int .i64 ((x.2.1 : Nat) : Int)]) (fun j => (n - 1 - j, ⟨(orderOf p)[n - 1 - j]?.getD 0, hvx j⟩)) _ w1.heap.size (w1.heap.size + 1) [w.heap.size + 1] (.slice oa n oc) (natL (orderOf p)) _
      (by rw [HOL.out]; omega) (fun x hx => ⟨by have := (hfar x hx).2; omega, by have := (hfar x hx).1; simp; omega⟩) ⟨by omega, by simp; omega⟩
      (fun j hj => by rw [HOL.out]; simp only [natL_get]) ((Cells.new w1 #[.slice oa n oc] 32).cell 0 _ rfl) ((hI.reads).same ((Only.refl [] w1).alloc _)))
    keepW_t (keepW_b (by simp)) (Below.refl _ _) (fun _ => rfl)
    (fun pre W => (Nums W (w.heap.size + 1) n (foldT p (pre.map (fun x => x.2.1))) ∧ Cells W (w.heap.size + 1 + 1) [.slice (some ⟨w.heap.size + 1, 0, none⟩) n n] ∧ Cells W w.heap.size [.slice a n cap]) ∧ Only [w.heap.size + 1] (w1.alloc (.cells #[.slice oa n oc] 32)) W)
    (fun _ _ _ => False)
    (OwnFrom.and (Own.from (fun s A B row hs hg hr => ⟨hs.1.abides hg hr, hs.2.1.abides hg hr, hs.2.2.abides hg hr⟩) _) (ownFrom_only (Nat.le_refl _)))
    (fun _ _ _ _ _ hs _ _ => hs)
    ⟨⟨hB1.only ((Only.refl [] w1).alloc _) (by simp), hC1.only ((Only.refl [] w1).alloc _) (by simp), hP1.only ((Only.refl [] w1).alloc _) (by simp)⟩, Only.refl _ _⟩
    (fun x => { tmps := #[.slice a n cap, .pointer (some ⟨w.heap.size, 0, none⟩), .slice none 0 0, .pointer (some ⟨w.heap.size + 1 + 1, 0, none⟩), undef, .int .i64 ((x.2.1 : Nat) : Int), undef, undef, .slice a n cap, .int .i64 n, .slice (some ⟨w.heap.size + 1, 0, none⟩) n n, .slice a n cap, .slice oa n oc, .func (.func 160) #[] #[.pointer (some ⟨w1.heap.size, 0, none⟩)], .int .i64 (x.1 : Int), .int .i64 ((x.2.1 : Nat) : Int), undef, undef, undef, undef, undef, undef, undef, undef, undef, undef, undef, undef, undef, undef, undef, undef, undef, undef, undef, undef, undef, undef, undef, undef, undef, undef, undef, undef, undef, undef, undef, undef, undef], defers := [] }) ?assign ?body ?done ?stop
  case assign =>
    intro l x W K hK
    gi_wp2
    exact hK
  case body =>
    rintro l pre x W ⟨⟨hB, hC, hP⟩, hoL⟩ hlen
    rw [HOL.out] at hlen
    have ho : Only [] w W := (hoo1.alloc _).trans hoL (fun y hy hlt => by simp at hy; omega)
    have hsL := hoL.size
    rw [World.size_alloc] at hsL
    have HOLL := Lib.hid hoL
    clear hoL
    obtain ⟨xi, x, hxn⟩ := x
    have hxn : x < n := by omega
    have cP := hP.cell 0 _ rfl
    have hA := plan_AfterOf _ p (x : Int) W (HP.out.same ho) HO.out
    have hpl : ∀ y ∈ pre.map (fun x : Nat × { x : Nat // x < n ∨ n = 0 } => x.2.1), y < p.length := fun y hy => by
      obtain ⟨z, _, rfl⟩ := List.mem_map.1 hy
      have := z.2.2
      rw [HL.out]; omega
    have hbd := foldT_bd HO.out _ hpl
    rw [List.length_map] at hbd
    have hsn : Hid (foldT p ((pre ++ [(xi, (⟨x, .inl hxn⟩ : { x : Nat // x < n ∨ n = 0 }))]).map (fun x => x.2.1)) = stepT p (foldT p (pre.map (fun x => x.2.1))) x) := by
      show _ = _
      rw [List.map_append]; exact foldT_snoc _ _ _
    generalize foldT p (pre.map (fun x => x.2.1)) = f at *
    have hbd2 : Hid (∀ j, 0 ≤ f j ∧ f j ≤ 600) := by
      show ∀ j, _
      intro j; have := hbd j; omega
    clear hbd hpl
    gi_wp2_with fail
    refine ⟨trivial, ?_⟩
    refine (CallsIn.inRound l (callsIn_wide.2 hA)).mono ?_
    rintro e w3 ⟨va, rfl, hIa, ho3⟩
    obtain ⟨aa, ac, rfl, hca⟩ := hIa.opt
    obtain ⟨q, hq⟩ : ∃ q, (natL (afterOf p (x : Int))).length = q := ⟨_, rfl⟩
    have HQ := Lib.hid hq
    rw [hq] at hca ⊢
    have HCA := Lib.hid hca
    have hq30 : q ≤ 30 := by rw [← hq, natL_len, ← afterK_all]; have := afterK_len p (x : Int) p.length; rw [HL.out] at this ⊢; omega
    clear hA hca hq
    have hB3 := hB.only ho3 (by simp)
    gi_wp2_with fail
    gi_loopw [20] (fun v20 wr => ∃ k : Nat, k ≤ q ∧ v20 = .int .i64 k ∧ Nums wr (w.heap.size + 1) n (setI f x (max (f x) (maxL (((afterOf p (x : Int)).take k).map f)))) ∧ Only [w.heap.size + 1] w3 wr) (fun v20 _ => q - (intOf v20).toNat)
    case atStart => exact ⟨0, Nat.zero_le _, rfl, hB3.congr (fun j _ => by
      have h0 := (hbd2.out x).1
      unfold setI
      split
      · rename_i e; subst e; simp [maxL]; omega
      · rfl), Only.refl _ _⟩
    case round =>
      obtain ⟨k, hk, rfl, hBr, ho4⟩ := hrel
      have hlq : (afterOf p (x : Int)).length = q := by rw [← natL_len]; exact HQ.out
      have hC4 := (hC.only ho3 (by simp)).only ho4 (by simp)
      have hP4 := (hP.only ho3 (by simp)).only ho4 (by simp)
      have cC4 := hC4.cell 0 _ rfl
      have cP4 := hP4.cell 0 _ rfl
      have hML : 0 ≤ maxL (((afterOf p (x : Int)).take k).map f) ∧ maxL (((afterOf p (x : Int)).take k).map f) ≤ 600 := ⟨maxL_ge _, maxL_le (by omega) (fun y hy => by
        obtain ⟨z, _, rfl⟩ := List.mem_map.1 hy
        exact (hbd2.out z).2)⟩
      have hfx := hbd2.out x
      have cX := (hBr x hxn).1
      have fX := (hBr x hxn).2
      rw [show setI f x (max (f x) (maxL (((afterOf p (x : Int)).take k).map f))) x = max (f x) (maxL (((afterOf p (x : Int)).take k).map f)) by simp [setI]] at cX
      by_cases hkq : k < q
      · obtain ⟨g, rfl, hcg⟩ := HCA.out k hkq
        have hkl : k < (afterOf p (x : Int)).length := by omega
        obtain ⟨m, hm⟩ : ∃ m, (afterOf p (x : Int))[k] = m := ⟨_, rfl⟩
        rw [natL_nth _ _ hkl, hm] at hcg
        have hmm : m ∈ afterOf p (x : Int) := by rw [← hm]; exact List.getElem_mem hkl
        obtain ⟨hmn, hmx⟩ := mem_after.1 hmm
        rw [HL.out] at hmn
        have hne : m ≠ x := fun e => by subst e; exact not_self HO.out (by rw [HL.out]; exact hmn) hmx
        have hgl := (hIa.own_lt g (by simp [own, Value.ownBlock])).1
        have hoW := hC.lt
        have cG := (ho4.cell (p := ⟨g, k, none⟩) (cell_lt hcg) (by simp; omega)).trans hcg
        have cM := (hBr m hmn).1
        rw [show setI f x (max (f x) (maxL (((afterOf p (x : Int)).take k).map f))) m = f m by simp [setI, hne]] at cM
        have htk : Hid (max (f x) (maxL (((afterOf p (x : Int)).take (k + 1)).map f)) = max (max (f x) (maxL (((afterOf p (x : Int)).take k).map f))) (f m)) := by
          show _ = _
          rw [List.take_succ_eq_append_getElem hkl, hm, List.map_append, List.map_singleton, maxL_snoc]; omega
        generalize maxL (((afterOf p (x : Int)).take k).map f) = ML at *
        have hfm := hbd2.out m
        generalize hfmv : f m = fm at *
        have hlq2 := Lib.hid hlq
        generalize hfxv : f x = fx at *
        have hybd : 0 ≤ max fx ML ∧ max fx ML ≤ 600 := by omega
        generalize max fx ML = y at *
        have HS : Hid (∀ v, v = max y fm → Nums ((wr.setCell ⟨w.heap.size + 1, x, none⟩ (.int .i64 v)).drewN 1) (w.heap.size + 1) n (setI f x (max fx (maxL (((afterOf p (x : Int)).take (k + 1)).map f))))) := by
          show ∀ v, _
          intro v hv
          refine ((hBr.set x v).only ((Only.refl [] _).drewN 1) (by simp)).congr fun j _ => ?_
          rw [htk.out, ← hv]
          unfold updI setI
          split <;> rfl
        have HKQ := Lib.hid hkq
        have HO4 : Hid (∀ v, Only [w.heap.size + 1] w3 ((wr.setCell ⟨w.heap.size + 1, x, none⟩ (.int .i64 v)).drewN 1)) := fun v => (ho4.setCell (by simp) _).drewN 1
        clear hfmv hfxv hlq hm hcg htk hBr ho4 hC4 hP4 hML hfx
        gi_wp2_with fail
        refine round_still_tail 12 (by kernel_rfl) (by kernel_rfl) (by kernel_rfl) ?_
        simp only [List.take_succ_cons, List.take_zero, List.drop_succ_cons, List.drop_zero]
        repeat still_step
        refine wpStill_nil ?_
        go_wp2
        all_goals
          refine ⟨rfl, ?_⟩
          gi_wp2
          go_roundw
          case rel => exact ⟨k + 1, HKQ.out, by go_num, HS.out _ (by omega), HO4.out _⟩
          case measure => (have := HKQ.out; simp [intOf]; try omega)
      · obtain rfl : k = q := by omega
        have htk : Hid ((afterOf p (x : Int)).take k = afterOf p (x : Int)) := List.take_of_length_le (Nat.le_of_eq hlq)
        rw [htk.out] at hBr cX hML
        have hpx := (HP.out.same ((ho.trans ho3 (by simp)).trans ho4 (by simp)))
        obtain ⟨b, off, rfl⟩ := hpx.any x (by rw [HL.out]; exact hxn)
        obtain ⟨_, _, cW, _, _⟩ := hpx.at x (by rw [HL.out]; exact hxn)
        have hwk := HO.out.work x (by rw [HL.out]; exact hxn)
        have hst : Hid (∀ v, v = max (f x) (maxL ((afterOf p (x : Int)).map f)) + wkOf p x → Nums ((wr.setCell ⟨w.heap.size + 1, x, none⟩ (.int .i64 v)).drewN 1) (w.heap.size + 1) n (stepT p f x)) := by
          show ∀ v, _
          intro v hv
          refine ((hBr.set x v).only ((Only.refl [] _).drewN 1) (by simp)).congr fun j _ => ?_
          unfold updI stepT setI
          rw [hv]
          split <;> rfl
        have hybd : 0 ≤ max (f x) (maxL ((afterOf p (x : Int)).map f)) ∧ max (f x) (maxL ((afterOf p (x : Int)).map f)) ≤ 600 := by omega
        have hsW := ho.size
        have hsW3 := ho3.size
        have HO5 : Hid (∀ v, Only [w.heap.size + 1] W ((wr.setCell ⟨w.heap.size + 1, x, none⟩ (.int .i64 v)).drewN 1)) := fun v => (((ho3.mono (by simp) : Only [w.heap.size + 1] W w3).trans ho4 (by simp)).setCell (by simp) _).drewN 1
        generalize max (f x) (maxL ((afterOf p (x : Int)).map f)) = y at *
        generalize wkOf p x = wx at *
        have HCC := Lib.hid hC
        have HPP := Lib.hid hP
        clear hBr ho4 hC4 hML hfx htk hlq hpx hB hB3 hC hP
        gi_wp2_with fail
        refine round_still_tail 11 (by kernel_rfl) (by kernel_rfl) (by kernel_rfl) ?_
        simp only [List.take_succ_cons, List.take_zero, List.drop_succ_cons, List.drop_zero]
        repeat still_step
        refine wpStill_nil ?_
        go_wp2
        refine ⟨rfl, ?_⟩
        gi_wp2
        exact ⟨(HO5.out _).keepsFrom (fun y hy => .inl (by simp at hy; subst hy; simp; omega)), (HO5.out _).keepW hsL (fun y hy _ => hy), ⟨by rw [hsn.out]; exact hst.out _ rfl, HCC.out.only (HO5.out _) (by simp), HPP.out.only (HO5.out _) (by simp)⟩, HOLL.out.trans (HO5.out _) (fun y hy _ => hy)⟩
  case done =>
    rintro D ys W hD rfl ⟨⟨hB, hC, hP⟩, hoL⟩ hK
    have ho : Only [] w W := (hoo1.alloc _).trans hoL (fun y hy hlt => by simp at hy; omega)
    have cD := hC.cell 0 _ rfl
    have hHB := Lib.hid hB
    clear hB
    gi_wp2
    refine ⟨by simp, .inl ⟨_, _, rfl, run_takeDeferred hK, ?_⟩⟩
    refine ⟨_, results_tmp rfl _ _ _, _, rfl, ⟨_, rfl, Nat.le_succ _, ?_⟩, ho.shut (by simp at hD; have := ho.size; omega) hK⟩
    refine (hHB.out.abides (grownBy_putObj' W D _) (fun r e => by cases e; exact ⟨_, hK, rfl⟩)).congr fun j hj => ?_
    rw [HOL.out]
    have e : (upto (fun j => ((n - 1 - j, ⟨(orderOf p)[n - 1 - j]?.getD 0, hvx j⟩) : Nat × { x : Nat // x < n ∨ n = 0 })) n).map (fun x => x.2.1) = (orderOf p).reverse := by
      unfold upto
      rw [List.map_map]
      exact rev_map _ n ((topo_len HO.out p.length (Nat.le_refl _)).trans HL.out)
    rw [e]
    exact foldT_all HO.out j (by rw [HL.out]; exact hj)
  case stop =>
    rintro D c pre W _ _ h _
    exact h.elim

end Go.Proofs.YtocpmncedlenbaaGreatDoor

namespace Go.Proofs.YtocpmncedlenbaaGreatDoor
open Go.RowKit Go.Deep

theorem numL_push (n : Nat) (f : Nat → Int) : numL n f ++ [f n] = numL (n + 1) f := by simp [numL, List.range_succ]

set_option maxRecDepth 100000 in
set_option maxHeartbeats 8000000 in
theorem list_Urgent (v : Value) (p : PlanL) (w : World) (h : InPlan w v p) (hok : PlanOk p) :
    Calls Tryz.prog 10 #[v] w fun e w' => ∃ v', e = .returned (.tuple #[v', .nilIface]) ∧ Only [] w w' ∧
      ((p.length = 0 ∧ v' = .slice none 0 0) ∨ (0 < p.length ∧ ∃ G c g, v' = .slice (some ⟨G, 0, none⟩) p.length c ∧ w.heap.size ≤ G ∧ Nums w' G p.length g ∧ SR (tt (tailF p)) g 0 p.length ∧ Re (fun i => (i : Int)) g 0 p.length ∧ p.length ≤ c ∧ c ≤ maxLen)) := by
  have hr := plan_Right v p w h
  have hz : planFault p = 0 := (planOk_iff p).1 hok
  rw [hz, errV_zero] at hr
  have hT := Lib.hid (fun w' (ho : Only [] w w') => depth_TailsOf v p w' (h.same ho) hok)
  have h30 := hok.len
  obtain ⟨a, cap, rfl, hc1, hc2, _⟩ := h.task
  obtain ⟨n, hn⟩ : ∃ n, p.length = n := ⟨_, rfl⟩
  rw [hn] at hr hT h30 hc1 ⊢
  obtain ⟨T, hTT⟩ : ∃ T, tailF p = T := ⟨_, rfl⟩
  rw [hTT] at hT ⊢
  clear h hok hz hn hTT hc2
  go_enter Tryz.func10, Tryz.ntmps10
  go_wp2_with fail
  refine hr.mono ?_
  rintro e w1 ⟨rfl, ho1⟩
  clear hr
  go_wp2_with fail
  refine (hT.out w1 ho1).mono ?_
  rintro e w2 ⟨v2, rfl, ⟨A, rfl, hA, hN⟩, ho2⟩
  have ho2w := ho1.trans ho2 (by simp)
  clear hT
  go_wp2_with fail
  have hC := Cells.new w2 #[.slice (some ⟨A, 0, none⟩) n n] 32
  have hal := (Only.refl [] w2).alloc (.cells #[.slice (some ⟨A, 0, none⟩) n n] 32)
  have hsz2 : w2.heap.size < (w2.alloc (.cells #[.slice (some ⟨A, 0, none⟩) n n] 32)).heap.size := by simp
  obtain ⟨W, hW⟩ : ∃ W, w2.alloc (.cells #[.slice (some ⟨A, 0, none⟩) n n] 32) = W := ⟨_, rfl⟩
  rw [hW] at hC hal hsz2 ⊢
  have hbox := hC.cell 0 _ rfl
  have hNW := hN.only hal (by simp)
  have hWw := ho2w.trans hal (by simp)
  have hAW : n = 0 ∨ A < W.heap.size := by
    by_cases h0 : n = 0
    · exact .inl h0
    · exact .inr (cell_lt (hNW 0 (by omega)).1)
  clear hC hal hW hN ho2 ho1 ho2w
  go_loopw [17, 6] (fun vi vo wr => ∃ i : Nat, i ≤ n ∧ vi = .int .i64 i ∧ Ints wr W.heap.size vo (numL i (fun k => (k : Int))) ∧ Only [] W wr ∧ Hid (i = 0 → vo = .slice none 0 0)) (fun vi _ _ => n - (intOf vi).toNat)
  case atStart => exact ⟨0, Nat.zero_le _, rfl, Ints.nil _ _, Only.refl _ _, Lib.hid (fun _ => rfl)⟩
  case round =>
    obtain ⟨wo, rfl⟩ : ∃ wo : World, wo = wr := ⟨_, rfl⟩
    obtain ⟨i, hi, rfl, hI, ho, hnil⟩ := hrel
    have hl := numL_len i (fun k => (k : Int))
    have hsz := ho.size
    by_cases hin : i < n
    · have HO := Lib.hid ho
      clear ho
      go_wp2_with (at_builtin; refine wpList_push rfl (.tmp 20) (.tmp 22) rfl wo W.heap.size _ _ _ (i : Int) i hI hl (by omega) hsz rfl rfl ((Only.refl [] wo).alloc _) (World.cell?_alloc_at _ _ _ _ rfl) ?_; intro g cap3 w3 hI3 hO3 hK3)
      have ho3 := Lib.hid (HO.out.pushed hI (Nat.le_refl _) hO3)
      have hI4 : Hid (Ints w3 W.heap.size (.slice (some ⟨g, 0, none⟩) (i + 1) cap3) (numL (i + 1) (fun k => (k : Int)))) := by
        show Ints _ _ _ _
        rw [← numL_push]; exact hI3
      clear hI3 hO3 hK3
      go_roundw
      case rel => exact ⟨i + 1, by omega, by go_num, hI4.out, ho3.out, Lib.hid (fun h => by omega)⟩
      case measure => (simp [intOf]; try omega)
    · obtain rfl : i = n := by omega
      have HW := Lib.hid (hWw.trans ho (by simp))
      by_cases h0 : i = 0
      · have hv := hnil.out h0
        subst hv
        subst h0
        clear hnil hI
        go_wp2_with fail
        refine (sortStable_none _ wo).mono ?_
        rintro e w3 ⟨rfl, rfl⟩
        go_wp2
        go_ret2
        exact ⟨rfl, HW.out⟩
      · have hfm := hI.form
        obtain ⟨g, c, rfl, hg1, hg2⟩ := hI.sized i hl (by omega)
        have hcc : Hid (i ≤ c ∧ c ≤ maxLen) := by
          rcases hfm with ⟨e, _⟩ | ⟨g', cap', e, _, _, q1, q2⟩
          · cases e
          · injection e with _ _ e3
            subst e3
            rw [hl] at q1
            exact ⟨q1, q2⟩
        clear hfm
        have hNg : Nums wo g i (fun k => (k : Int)) := fun k hk => ⟨by rw [hI.cell k (by rw [hl]; exact hk), numL_nth _ _ _ hk], hI.free k⟩
        have hS : SortAt wo g i w2.heap.size A T := ⟨(ho.cell (p := ⟨w2.heap.size, 0, none⟩) (cell_lt hbox) (by simp)).trans hbox, hNW.only ho (by simp), by omega, by omega⟩
        have hc := sort_stable g c i w2.heap.size A (fun k => (k : Int)) T wo hNg (fun k hk => ⟨by show (0 : Int) ≤ (k : Int); omega, by show (k : Int) < _; omega⟩) (fun x y h1 _ => by show (x : Int) < (y : Int); omega) hS h30
        unfold cvU at hc
        have hsz0 : w.heap.size ≤ g := by have := hWw.size; omega
        have hgW : W.heap.size ≤ g := hg1
        have HO := Lib.hid ho
        have HWW := Lib.hid hWw
        clear hNg hS hI hNW ho hWw
        go_wp2_with fail
        refine hc.mono ?_
        rintro e w3 ⟨rfl, g3, hN3, hs3, hr3, ho3⟩
        have S3 := Lib.hid hs3
        have R3 := Lib.hid hr3
        have ho4 := HWW.out.trans (HO.out.trans ho3 (fun x hx hl => by simp at hx; omega)) (by simp)
        have hpos : 0 < i := by omega
        clear hc hs3 hr3
        go_wp2
        go_ret2
        exact ⟨_, rfl, ho4, .inr ⟨hpos, g, c, g3, rfl, hsz0, hN3, S3.out, R3.out, hcc.out.1, hcc.out.2⟩⟩

set_option maxRecDepth 100000 in
theorem list_Urgent_no (v : Value) (p : PlanL) (w : World) (h : InPlan w v p) (h0 : planFault p ≠ 0) :
    Calls Tryz.prog 10 #[v] w fun e w' => e = .returned (.tuple #[.slice none 0 0, .iface 99 (.int .i64 (planFault p))]) ∧ Only [] w w' := by
  have hr := plan_Right v p w h
  rw [errV_ne h0] at hr
  obtain ⟨F, hF⟩ : ∃ F, planFault p = F := ⟨_, rfl⟩
  rw [hF] at hr ⊢
  clear h h0 hF
  go_enter Tryz.func10, Tryz.ntmps10
  go_wp2_with fail
  refine hr.mono ?_
  rintro e w1 ⟨rfl, ho⟩
  clear hr
  go_wp2
  go_ret2
  exact ⟨rfl, ho⟩

end Go.Proofs.YtocpmncedlenbaaGreatDoor

namespace Go.Proofs.YtocpmncedlenbaaGreatDoor
open Go.RowKit

/-- How many of the front are at least as urgent. -/
def leadU (T : Nat → Int) (l : List Int) (x : Nat) : Nat := (l.takeWhile fun k => decide (T x ≤ T k.toNat)).length
def insU (T : Nat → Int) (l : List Int) (x : Nat) : List Int := (l.take (leadU T l x) ++ [(x : Int)]) ++ l.drop (leadU T l x)
def urgL (T : Nat → Int) : Nat → List Int
  | 0 => []
  | n + 1 => insU T (urgL T n) n

theorem leadU_le (T : Nat → Int) (l : List Int) (x : Nat) : leadU T l x ≤ l.length := by
  unfold leadU
  induction l with
  | nil => simp
  | cons a l ih => simp only [List.takeWhile_cons]; split <;> simp <;> omega
theorem leadU_front (T : Nat → Int) (l : List Int) (x : Nat) : ∀ k ∈ l.take (leadU T l x), T x ≤ T k.toNat := by
  unfold leadU
  induction l with
  | nil => simp
  | cons a l ih =>
    simp only [List.takeWhile_cons]
    split
    · rename_i h
      intro k hk
      simp only [List.length_cons, List.take_succ_cons, List.mem_cons] at hk
      rcases hk with rfl | hk
      · simpa using h
      · exact ih k hk
    · simp
theorem leadU_stop (T : Nat → Int) (l : List Int) (x : Nat) (h : leadU T l x < l.length) : T (nth l (leadU T l x)).toNat < T x := by
  unfold leadU at *
  induction l with
  | nil => simp at h
  | cons a l ih =>
    simp only [List.takeWhile_cons] at h ⊢
    split at h
    · rename_i h1
      rw [if_pos h1]
      simp only [List.length_cons] at h ⊢
      have := ih (by omega)
      simpa [nth] using this
    · rename_i h1
      rw [if_neg h1]
      simpa [nth] using h1
/-- The walk's own count. -/
theorem leadU_is {T : Nat → Int} {l : List Int} {x k : Nat} (hk : k ≤ l.length) (h1 : ∀ j, j < k → T x ≤ T (nth l j).toNat) (h2 : k = l.length ∨ T (nth l k).toNat < T x) : leadU T l x = k := by
  have h3 := leadU_le T l x
  have h4 := leadU_front T l x
  have h5 := leadU_stop T l x
  rcases Nat.lt_trichotomy (leadU T l x) k with h | h | h
  · have := h5 (by omega)
    have := h1 _ h
    omega
  · exact h
  · rcases h2 with h2 | h2
    · omega
    · have hm : nth l k ∈ l.take (leadU T l x) := by
        have : (l.take (leadU T l x))[k]? = some (nth l k) := by
          rw [List.getElem?_take_of_lt h]; simp [nth, show k < l.length by omega]
        exact List.mem_of_getElem? this
      have := h4 _ hm
      omega

theorem urgL_mem (T : Nat → Int) (n : Nat) (x : Int) : x ∈ urgL T n ↔ ∃ j : Nat, j < n ∧ x = (j : Int) := by
  induction n with
  | zero => simp [urgL]
  | succ n ih =>
    have e : x ∈ urgL T (n + 1) ↔ x ∈ urgL T n ∨ x = (n : Int) := by
      simp only [urgL, insU, List.mem_append, List.mem_singleton]
      have : x ∈ urgL T n ↔ x ∈ (urgL T n).take (leadU T (urgL T n) n) ∨ x ∈ (urgL T n).drop (leadU T (urgL T n) n) := by
        rw [← List.mem_append, List.take_append_drop]
      rw [this]
      grind
    rw [e, ih]
    constructor
    · rintro (⟨j, h, rfl⟩ | rfl)
      · exact ⟨j, by omega, rfl⟩
      · exact ⟨n, by omega, rfl⟩
    · rintro ⟨j, h, rfl⟩
      by_cases hj : j < n
      · exact .inl ⟨j, hj, rfl⟩
      · exact .inr (by omega)
theorem urgL_len (T : Nat → Int) (n : Nat) : (urgL T n).length = n := by
  induction n with
  | zero => rfl
  | succ n ih =>
    have := leadU_le T (urgL T n) n
    simp only [urgL, insU, List.length_append, List.length_take, List.length_drop, List.length_singleton, ih] at this ⊢
    omega
theorem urgL_sorted (T : Nat → Int) (n : Nat) : (urgL T n).Pairwise (ltK (tt T)) := by
  induction n with
  | zero => exact List.Pairwise.nil
  | succ n ih =>
    have hm := urgL_mem T n
    have hf := leadU_front T (urgL T n) n
    have hs := leadU_stop T (urgL T n) n
    have hle := leadU_le T (urgL T n) n
    show (insU T (urgL T n) n).Pairwise _
    unfold insU
    generalize leadU T (urgL T n) n = k at *
    generalize urgL T n = l at *
    have ih' := ih
    rw [← List.take_append_drop k l, List.pairwise_append] at ih'
    obtain ⟨i1, i2, i3⟩ := ih'
    have hback : ∀ b ∈ l.drop k, T b.toNat < T n := by
      intro b hb
      have hk : k < l.length := by
        rcases Nat.lt_or_ge k l.length with h | h
        · exact h
        · rw [List.drop_eq_nil_of_le h] at hb; simp at hb
      have h0 := hs hk
      rw [List.drop_eq_getElem_cons hk] at hb i2
      have e0 : nth l k = l[k] := by simp [nth, hk]
      rw [e0] at h0
      rcases List.mem_cons.1 hb with rfl | hb
      · exact h0
      · have := (List.pairwise_cons.1 i2).1 b hb
        unfold ltK tt at this
        omega
    rw [List.pairwise_append, List.pairwise_append]
    refine ⟨⟨i1, List.pairwise_singleton _ _, ?_⟩, i2, ?_⟩
    · intro a ha b hb
      rw [List.mem_singleton.1 hb]
      have h1 := hf a ha
      obtain ⟨j, hj, rfl⟩ := (hm a).1 (List.mem_of_mem_take ha)
      unfold ltK tt
      simp only [Int.toNat_natCast] at h1 ⊢
      omega
    · intro a ha b hb
      rcases List.mem_append.1 ha with ha | ha
      · exact i3 a ha b hb
      · rw [List.mem_singleton.1 ha]
        have := hback b hb
        unfold ltK tt
        simp only [Int.toNat_natCast]
        omega

theorem eq_of_sorted {R : Int → Int → Prop} (irr : ∀ a, ¬ R a a) (asy : ∀ a b, R a b → ¬ R b a) : ∀ l m : List Int, l.Pairwise R → m.Pairwise R → (∀ x, x ∈ l ↔ x ∈ m) → l = m := by
  intro l
  induction l with
  | nil =>
    intro m _ _ h
    rcases m with _ | ⟨b, m⟩
    · rfl
    · have := (h b).2 (by simp); simp at this
  | cons a l ih =>
    intro m hl hm h
    rcases m with _ | ⟨b, m⟩
    · have := (h a).1 (by simp); simp at this
    · obtain ⟨h1, h2⟩ := List.pairwise_cons.1 hl
      obtain ⟨k1, k2⟩ := List.pairwise_cons.1 hm
      have e : a = b := by
        rcases List.mem_cons.1 ((h a).1 (by simp)) with e | ha
        · exact e
        · rcases List.mem_cons.1 ((h b).2 (by simp)) with e | hb
          · exact e.symm
          · exact absurd (k1 a ha) (asy _ _ (h1 b hb))
      subst e
      rw [ih m h2 k2 (fun x => ?_)]
      constructor
      · intro hx
        rcases List.mem_cons.1 ((h x).1 (by simp [hx])) with e | hx'
        · subst e; exact absurd (h1 x hx) (irr x)
        · exact hx'
      · intro hx
        rcases List.mem_cons.1 ((h x).2 (by simp [hx])) with e | hx'
        · subst e; exact absurd (k1 x hx) (irr x)
        · exact hx'

theorem pairwise_numL {T : Int → Int} {g : Nat → Int} {n : Nat} (h : SR T g 0 n) : (numL n g).Pairwise (ltK T) := by
  rw [List.pairwise_iff_getElem]
  intro i j hi hj hij
  rw [numL_len] at hi hj
  simpa [numL] using h i j (Nat.zero_le _) hij hj
theorem urgent_is {T g : Nat → Int} {n : Nat} (h : SR (tt T) g 0 n) (k : Re (fun i => (i : Int)) g 0 n) : numL n g = urgL T n := by
  refine eq_of_sorted (R := ltK (tt T)) (fun a h => by unfold ltK at h; omega) (fun a b h k => by unfold ltK at h k; omega) _ _ (pairwise_numL h) (urgL_sorted T n) fun x => ?_
  rw [urgL_mem]
  simp only [numL, List.mem_map, List.mem_range]
  constructor
  · rintro ⟨i, hi, rfl⟩
    obtain ⟨j, _, hj, e⟩ := k.2.1 i (Nat.zero_le _) hi
    exact ⟨j, hj, e⟩
  · rintro ⟨j, hj, rfl⟩
    obtain ⟨i, _, hi, e⟩ := k.2.2 j (Nat.zero_le _) hj
    exact ⟨i, hi, e.symm⟩

end Go.Proofs.YtocpmncedlenbaaGreatDoor
