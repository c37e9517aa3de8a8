/-
  Contract of depth.TailsOf.
-/
import Derived.Test.YtloojhnhialenaaDoorBack
import Derived.Test.YtloojhnhialenaaDoorRound
import Derived.Test.YtloojhnhialenaaDoorDepthP
import Derived.Test.YtloojhnhialenaaDoorPlanA
import Derived.Test.YtloojhnhialenaaDoorNums
import Derived.Outline
namespace Go.Proofs.YtloojhnhialenaaDoor
open Go.RowKit Go.Deep
attribute [local go_sem] Oper.semAt_some

theorem Nums.abides {w w' : World} {A N : Nat} {f : Nat → Int} {row : Option Nat} (h : Nums w A N f) (hg : w.grownBy w' row) (hr : ∀ r, row = some r → ∃ o : Obj, w.heap[r]? = some o ∧ o.isCells = false) : Nums w' A N f := fun i hi =>
  ⟨cell_kept (h i hi).1 hg hr, (frozen_kept (h i hi).1 hg hr).trans (h i hi).2⟩

theorem natL_get (l : List Nat) (k : Nat) : nth (natL l) k = ((l[k]?.getD 0 : Nat) : Int) := by
  unfold nth natL
  rw [List.getElem?_map]
  cases l[k]? <;> rfl

theorem rev_map (o : List Nat) (n : Nat) (hn : o.length = n) : (List.range n).map (fun j => o[n - 1 - j]?.getD 0) = o.reverse := by
  apply List.ext_getElem
  · simp [hn]
  · intro i h1 h2
    have hi : i < n := by simpa using h1
    have e : o[n - 1 - i]? = some (o[n - 1 - i]'(by omega)) := List.getElem?_eq_getElem (by omega)
    simp only [List.getElem_map, List.getElem_range, e, Option.getD_some, List.getElem_reverse]
    congr 1
    omega

theorem not_self {p : PlanL} (h : PlanOk p) {i : Nat} (hi : i < p.length) : (i : Int) ∉ ndOf p i := fun hm => h.acyc i hi (.one hm)

set_option maxRecDepth 100000 in
set_option maxHeartbeats 4000000 in
theorem depth_TailsOf (v : Value) (p : PlanL) (w : World) (h : InPlan w v p) (hok : PlanOk p) :
    Calls Tryd.prog 60 #[v] w fun e w' => ∃ v', e = .returned v' ∧ (∃ A, v' = .slice (some ⟨A, 0, none⟩) p.length p.length ∧ w.heap.size ≤ A ∧ Nums w' A p.length (tailF p)) ∧ Only [] w w' := by
  have HP := Lib.hid h
  have HO := Lib.hid hok
  obtain ⟨a, cap, rfl, hc1, hc2, _⟩ := h.task
  obtain ⟨n, hn⟩ : ∃ n, p.length = n := ⟨_, rfl⟩
  have HL := Lib.hid hn
  rw [hn] at hc1 HP ⊢
  have h30 : n ≤ 30 := by rw [← hn]; exact hok.len
  have hmk := make_ints n (by omega)
  clear h hn hok
  refine (callsIn_wide (n := 9)).1 ?_
  refine callsIn_of_wp_marks Tryd.func60 rfl trivial ?_ rfl
  simp only [Tryd.ntmps60, List.size_toArray, List.length_cons, List.length_nil, Nat.reduceAdd, Nat.reduceSub, Array.replicate_succ, Array.replicate_zero, List.push_toArray, List.append_toArray, List.nil_append, List.cons_append]
  obtain ⟨W0, hW0⟩ : ∃ W0, ((w.alloc (.cells #[.slice a n cap] 36)).alloc (.cells (madeCells #[.int .i64 0] n) 3)).alloc (.cells #[.slice (some ⟨w.heap.size + 1, 0, none⟩) n n] 51) = W0 := ⟨_, rfl⟩
  have ho0 : Only [] w W0 := by rw [← hW0]; exact (((Only.refl [] w).alloc _).alloc _).alloc _
  have hP0 : Cells W0 w.heap.size [.slice a n cap] := by
    have h1 := Cells.new w #[.slice a n cap] 36
    have h2 := (h1.only ((Only.refl [] _).alloc (.cells (madeCells #[.int .i64 0] n) 3)) (by simp)).only ((Only.refl [] _).alloc (.cells #[.slice (some ⟨w.heap.size + 1, 0, none⟩) n n] 51)) (by simp)
    rw [hW0] at h2; exact h2
  have hB0 : Nums W0 (w.heap.size + 1) n (fun _ => 0) := by
    have h1 := made_nums (w.alloc (.cells #[.slice a n cap] 36)) n
    have h2 := h1.only ((Only.refl [] _).alloc (.cells #[.slice (some ⟨w.heap.size + 1, 0, none⟩) n n] 51)) (by simp)
    rw [hW0] at h2; simpa using h2
  have hC0 : Cells W0 (w.heap.size + 1 + 1) [.slice (some ⟨w.heap.size + 1, 0, none⟩) n n] := by
    have h1 := Cells.new ((w.alloc (.cells #[.slice a n cap] 36)).alloc (.cells (madeCells #[.int .i64 0] n) 3)) #[.slice (some ⟨w.heap.size + 1, 0, none⟩) n n] 51
    rw [hW0] at h1; simpa using h1
  have hs0 : W0.heap.size = w.heap.size + 3 := by rw [← hW0]; simp
  have HW0 := Lib.hid hW0
  clear hW0
  gi_wp2_with fail
  rw [HW0.out]
  refine ⟨trivial, ?_⟩
  refine (callsIn_wide.2 (plan_OrderOf _ p _ (HP.out.same ho0) HO.out)).mono ?_
  rintro e w1 ⟨vo, rfl, hI, ho1⟩
  have hol : (natL (orderOf p)).length = n := by rw [natL_len]; exact (topo_len HO.out p.length (Nat.le_refl _)).trans HL.out
  have HOL := Lib.hid hol
  obtain ⟨oa, oc, rfl, _⟩ := hI.opt
  rw [hol] at hI ⊢
  have hP1 := hP0.only ho1 (by simp)
  have hB1 := hB0.only ho1 (by simp)
  have hC1 := hC0.only ho1 (by simp)
  have hoo1 := ho0.trans ho1 (by simp)
  have hs1 := ho1.size
  clear hol hP0 hB0 hC0 ho0 ho1
  gi_wp2_with fail
  refine ⟨trivial, ?_⟩
  refine (backward_mk _ _ _ _ _).mono ?_
  rintro e w2 ⟨rfl, rfl⟩
  gi_wp2_with fail
  have hfar := hI.own_lt
  have hvx : ∀ j, (orderOf p)[n - 1 - j]?.getD 0 < n ∨ n = 0 := fun j => by
    by_cases h0 : n = 0
    · exact .inr h0
    · left
      have hl : (orderOf p).length = n := (topo_len HO.out p.length (Nat.le_refl _)).trans HL.out
      rw [List.getElem?_eq_getElem (by omega)]
      have := (orderOf_mem HO.out _).1 (List.getElem_mem (l := orderOf p) (n := n - 1 - j) (by omega))
      rw [HL.out] at this
      exact this
  refine wpIn_rangeFunc_ownG (α := Nat × { x : Nat // x < n ∨ n = 0 }) rfl (by omega) (gf := 100) (lb := #[.pointer (some ⟨w1.heap.size, 0, none⟩)]) rfl trivial (enters_of Tryd.func100 (by kernel_rfl) rfl)
    (backward_stops (fun x : Nat × { x : Nat // x < n ∨ n = 0 } => #[.int .i64 (x.1 : Int), .int .i64 ((x.2.1 : Nat) : Int)]) (fun j => (n - 1 - j, ⟨(orderOf p)[n - 1 - j]?.getD 0, hvx j⟩)) _ w1.heap.size (w1.heap.size + 1) [w.heap.size + 1] (.slice oa n oc) (natL (orderOf p)) _
      (by rw [HOL.out]; omega) (fun x hx => ⟨by have := (hfar x hx).2; omega, by have := (hfar x hx).1; simp; omega⟩) ⟨by omega, by simp; omega⟩
      (fun j hj => by rw [HOL.out]; simp only [natL_get]) ((Cells.new w1 #[.slice oa n oc] 51).cell 0 _ rfl) ((hI.reads).same ((Only.refl [] w1).alloc _)))
    keepW_t (keepW_b (by simp)) (Below.refl _ _) (fun _ => rfl)
    (fun pre W => (Nums W (w.heap.size + 1) n (foldT p (pre.map (fun x => x.2.1))) ∧ Cells W (w.heap.size + 1 + 1) [.slice (some ⟨w.heap.size + 1, 0, none⟩) n n] ∧ Cells W w.heap.size [.slice a n cap]) ∧ Only [w.heap.size + 1] (w1.alloc (.cells #[.slice oa n oc] 51)) W)
    (fun _ _ _ => False)
    (OwnFrom.and (Own.from (fun s A B row hs hg hr => ⟨hs.1.abides hg hr, hs.2.1.abides hg hr, hs.2.2.abides hg hr⟩) _) (ownFrom_only (Nat.le_refl _)))
    (fun _ _ _ _ _ hs _ _ => hs)
    ⟨⟨hB1.only ((Only.refl [] w1).alloc _) (by simp), hC1.only ((Only.refl [] w1).alloc _) (by simp), hP1.only ((Only.refl [] w1).alloc _) (by simp)⟩, Only.refl _ _⟩
    (fun x => { tmps := #[.slice a n cap, .pointer (some ⟨w.heap.size, 0, none⟩), .slice none 0 0, .pointer (some ⟨w.heap.size + 1 + 1, 0, none⟩), undef, .int .i64 ((x.2.1 : Nat) : Int), undef, undef, .slice a n cap, .int .i64 n, .slice (some ⟨w.heap.size + 1, 0, none⟩) n n, .slice a n cap, .slice oa n oc, .func (.func 100) #[] #[.pointer (some ⟨w1.heap.size, 0, none⟩)], .int .i64 (x.1 : Int), .int .i64 ((x.2.1 : Nat) : Int), undef, undef, undef, undef, undef, undef, undef, undef, undef, undef, undef, undef, undef, undef, undef, undef, undef, undef, undef, undef, undef, undef, undef, undef, undef, undef, undef, undef, undef, undef, undef, undef, undef], defers := [] }) ?assign ?body ?done ?stop
  case assign =>
    intro l x W K hK
    gi_wp2
    exact hK
  case body =>
    rintro l pre x W ⟨⟨hB, hC, hP⟩, hoL⟩ hlen
    rw [HOL.out] at hlen
    have ho : Only [] w W := (hoo1.alloc _).trans hoL (fun y hy hlt => by simp at hy; omega)
    have hsL := hoL.size
    rw [World.size_alloc] at hsL
    have HOLL := Lib.hid hoL
    clear hoL
    obtain ⟨xi, x, hxn⟩ := x
    have hxn : x < n := by omega
    have cP := hP.cell 0 _ rfl
    have hA := plan_AfterOf _ p (x : Int) W (HP.out.same ho) HO.out
    have hpl : ∀ y ∈ pre.map (fun x : Nat × { x : Nat // x < n ∨ n = 0 } => x.2.1), y < p.length := fun y hy => by
      obtain ⟨z, _, rfl⟩ := List.mem_map.1 hy
      have := z.2.2
      rw [HL.out]; omega
    have hbd := foldT_bd HO.out _ hpl
    rw [List.length_map] at hbd
    have hsn : Hid (foldT p ((pre ++ [(xi, (⟨x, .inl hxn⟩ : { x : Nat // x < n ∨ n = 0 }))]).map (fun x => x.2.1)) = stepT p (foldT p (pre.map (fun x => x.2.1))) x) := by
      show _ = _
      rw [List.map_append]; exact foldT_snoc _ _ _
    generalize foldT p (pre.map (fun x => x.2.1)) = f at *
    have hbd2 : Hid (∀ j, 0 ≤ f j ∧ f j ≤ 600) := by
      show ∀ j, _
      intro j; have := hbd j; omega
    clear hbd hpl
    gi_wp2_with fail
    refine ⟨trivial, ?_⟩
    refine (CallsIn.inRound l (callsIn_wide.2 hA)).mono ?_
    rintro e w3 ⟨va, rfl, hIa, ho3⟩
    obtain ⟨aa, ac, rfl, hca⟩ := hIa.opt
    obtain ⟨q, hq⟩ : ∃ q, (natL (afterOf p (x : Int))).length = q := ⟨_, rfl⟩
    have HQ := Lib.hid hq
    rw [hq] at hca ⊢
    have HCA := Lib.hid hca
    have hq30 : q ≤ 30 := by rw [← hq, natL_len, ← afterK_all]; have := afterK_len p (x : Int) p.length; rw [HL.out] at this ⊢; omega
    clear hA hca hq
    have hB3 := hB.only ho3 (by simp)
    gi_wp2_with fail
    gi_loopw [20] (fun v20 wr => ∃ k : Nat, k ≤ q ∧ v20 = .int .i64 k ∧ Nums wr (w.heap.size + 1) n (setI f x (max (f x) (maxL (((afterOf p (x : Int)).take k).map f)))) ∧ Only [w.heap.size + 1] w3 wr) (fun v20 _ => q - (intOf v20).toNat)
    case atStart => exact ⟨0, Nat.zero_le _, rfl, hB3.congr (fun j _ => by
      have h0 := (hbd2.out x).1
      unfold setI
      split
      · rename_i e; subst e; simp [maxL]; omega
      · rfl), Only.refl _ _⟩
    case round =>
      obtain ⟨k, hk, rfl, hBr, ho4⟩ := hrel
      have hlq : (afterOf p (x : Int)).length = q := by rw [← natL_len]; exact HQ.out
      have hC4 := (hC.only ho3 (by simp)).only ho4 (by simp)
      have hP4 := (hP.only ho3 (by simp)).only ho4 (by simp)
      have cC4 := hC4.cell 0 _ rfl
      have cP4 := hP4.cell 0 _ rfl
      have hML : 0 ≤ maxL (((afterOf p (x : Int)).take k).map f) ∧ maxL (((afterOf p (x : Int)).take k).map f) ≤ 600 := ⟨maxL_ge _, maxL_le (by omega) (fun y hy => by
        obtain ⟨z, _, rfl⟩ := List.mem_map.1 hy
        exact (hbd2.out z).2)⟩
      have hfx := hbd2.out x
      have cX := (hBr x hxn).1
      have fX := (hBr x hxn).2
      rw [show setI f x (max (f x) (maxL (((afterOf p (x : Int)).take k).map f))) x = max (f x) (maxL (((afterOf p (x : Int)).take k).map f)) by simp [setI]] at cX
      by_cases hkq : k < q
      · obtain ⟨g, rfl, hcg⟩ := HCA.out k hkq
        have hkl : k < (afterOf p (x : Int)).length := by omega
        obtain ⟨m, hm⟩ : ∃ m, (afterOf p (x : Int))[k] = m := ⟨_, rfl⟩
        rw [natL_nth _ _ hkl, hm] at hcg
        have hmm : m ∈ afterOf p (x : Int) := by rw [← hm]; exact List.getElem_mem hkl
        obtain ⟨hmn, hmx⟩ := mem_after.1 hmm
        rw [HL.out] at hmn
        have hne : m ≠ x := fun e => by subst e; exact not_self HO.out (by rw [HL.out]; exact hmn) hmx
        have hgl := (hIa.own_lt g (by simp [own, Value.ownBlock])).1
        have hoW := hC.lt
        have cG := (ho4.cell (p := ⟨g, k, none⟩) (cell_lt hcg) (by simp; omega)).trans hcg
        have cM := (hBr m hmn).1
        rw [show setI f x (max (f x) (maxL (((afterOf p (x : Int)).take k).map f))) m = f m by simp [setI, hne]] at cM
        have htk : Hid (max (f x) (maxL (((afterOf p (x : Int)).take (k + 1)).map f)) = max (max (f x) (maxL (((afterOf p (x : Int)).take k).map f))) (f m)) := by
          show _ = _
          rw [List.take_succ_eq_append_getElem hkl, hm, List.map_append, List.map_singleton, maxL_snoc]; omega
        generalize maxL (((afterOf p (x : Int)).take k).map f) = ML at *
        have hfm := hbd2.out m
        generalize hfmv : f m = fm at *
        have hlq2 := Lib.hid hlq
        generalize hfxv : f x = fx at *
        have hybd : 0 ≤ max fx ML ∧ max fx ML ≤ 600 := by omega
        generalize max fx ML = y at *
        have HS : Hid (∀ v, v = max y fm → Nums ((wr.setCell ⟨w.heap.size + 1, x, none⟩ (.int .i64 v)).drewN 1) (w.heap.size + 1) n (setI f x (max fx (maxL (((afterOf p (x : Int)).take (k + 1)).map f))))) := by
          show ∀ v, _
          intro v hv
          refine ((hBr.set x v).only ((Only.refl [] _).drewN 1) (by simp)).congr fun j _ => ?_
          rw [htk.out, ← hv]
          unfold updI setI
          split <;> rfl
        have HKQ := Lib.hid hkq
        have HO4 : Hid (∀ v, Only [w.heap.size + 1] w3 ((wr.setCell ⟨w.heap.size + 1, x, none⟩ (.int .i64 v)).drewN 1)) := fun v => (ho4.setCell (by simp) _).drewN 1
        clear hfmv hfxv hlq hm hcg htk hBr ho4 hC4 hP4 hML hfx
        gi_wp2_with fail
        refine round_still_tail 12 (by kernel_rfl) (by kernel_rfl) (by kernel_rfl) ?_
        simp only [List.take_succ_cons, List.take_zero, List.drop_succ_cons, List.drop_zero]
        repeat still_step
        refine wpStill_nil ?_
        go_wp2
        all_goals
          refine ⟨rfl, ?_⟩
          gi_wp2
          go_roundw
          case rel => exact ⟨k + 1, HKQ.out, by go_num, HS.out _ (by omega), HO4.out _⟩
          case measure => (have := HKQ.out; simp [intOf]; try omega)
      · obtain rfl : k = q := by omega
        have htk : Hid ((afterOf p (x : Int)).take k = afterOf p (x : Int)) := List.take_of_length_le (Nat.le_of_eq hlq)
        rw [htk.out] at hBr cX hML
        have hpx := (HP.out.same ((ho.trans ho3 (by simp)).trans ho4 (by simp)))
        obtain ⟨b, off, rfl⟩ := hpx.any x (by rw [HL.out]; exact hxn)
        obtain ⟨_, _, cW, _, _⟩ := hpx.at x (by rw [HL.out]; exact hxn)
        have hwk := HO.out.work x (by rw [HL.out]; exact hxn)
        have hst : Hid (∀ v, v = max (f x) (maxL ((afterOf p (x : Int)).map f)) + wkOf p x → Nums ((wr.setCell ⟨w.heap.size + 1, x, none⟩ (.int .i64 v)).drewN 1) (w.heap.size + 1) n (stepT p f x)) := by
          show ∀ v, _
          intro v hv
          refine ((hBr.set x v).only ((Only.refl [] _).drewN 1) (by simp)).congr fun j _ => ?_
          unfold updI stepT setI
          rw [hv]
          split <;> rfl
        have hybd : 0 ≤ max (f x) (maxL ((afterOf p (x : Int)).map f)) ∧ max (f x) (maxL ((afterOf p (x : Int)).map f)) ≤ 600 := by omega
        have hsW := ho.size
        have hsW3 := ho3.size
        have HO5 : Hid (∀ v, Only [w.heap.size + 1] W ((wr.setCell ⟨w.heap.size + 1, x, none⟩ (.int .i64 v)).drewN 1)) := fun v => (((ho3.mono (by simp) : Only [w.heap.size + 1] W w3).trans ho4 (by simp)).setCell (by simp) _).drewN 1
        generalize max (f x) (maxL ((afterOf p (x : Int)).map f)) = y at *
        generalize wkOf p x = wx at *
        have HCC := Lib.hid hC
        have HPP := Lib.hid hP
        clear hBr ho4 hC4 hML hfx htk hlq hpx hB hB3 hC hP
        gi_wp2_with fail
        refine round_still_tail 11 (by kernel_rfl) (by kernel_rfl) (by kernel_rfl) ?_
        simp only [List.take_succ_cons, List.take_zero, List.drop_succ_cons, List.drop_zero]
        repeat still_step
        refine wpStill_nil ?_
        go_wp2
        refine ⟨rfl, ?_⟩
        gi_wp2
        exact ⟨(HO5.out _).keepsFrom (fun y hy => .inl (by simp at hy; subst hy; simp; omega)), (HO5.out _).keepW hsL (fun y hy _ => hy), ⟨by rw [hsn.out]; exact hst.out _ rfl, HCC.out.only (HO5.out _) (by simp), HPP.out.only (HO5.out _) (by simp)⟩, HOLL.out.trans (HO5.out _) (fun y hy _ => hy)⟩
  case done =>
    rintro D ys W hD rfl ⟨⟨hB, hC, hP⟩, hoL⟩ hK
    have ho : Only [] w W := (hoo1.alloc _).trans hoL (fun y hy hlt => by simp at hy; omega)
    have cD := hC.cell 0 _ rfl
    have hHB := Lib.hid hB
    clear hB
    gi_wp2
    refine ⟨by simp, .inl ⟨_, _, rfl, run_takeDeferred hK, ?_⟩⟩
    refine ⟨_, results_tmp rfl _ _ _, _, rfl, ⟨_, rfl, Nat.le_succ _, ?_⟩, ho.shut (by simp at hD; have := ho.size; omega) hK⟩
    refine (hHB.out.abides (grownBy_putObj' W D _) (fun r e => by cases e; exact ⟨_, hK, rfl⟩)).congr fun j hj => ?_
    rw [HOL.out]
    have e : (upto (fun j => ((n - 1 - j, ⟨(orderOf p)[n - 1 - j]?.getD 0, hvx j⟩) : Nat × { x : Nat // x < n ∨ n = 0 })) n).map (fun x => x.2.1) = (orderOf p).reverse := by
      unfold upto
      rw [List.map_map]
      exact rev_map _ n ((topo_len HO.out p.length (Nat.le_refl _)).trans HL.out)
    rw [e]
    exact foldT_all HO.out j (by rw [HL.out]; exact hj)
  case stop =>
    rintro D c pre W _ _ h _
    exact h.elim

end Go.Proofs.YtloojhnhialenaaDoor
