/-
  Contract of list.Urgent, of a right plan.
-/
import Derived.Test.YtnolckhideellaaSortN
import Derived.Test.YtnolckhideellaaTails
import Derived.Test.YtnolckhideellaaPlanK
namespace Go.Proofs.Ytnolckhideellaa
open Go.RowKit Go.Deep

theorem numL_push (n : Nat) (f : Nat → Int) : numL n f ++ [f n] = numL (n + 1) f := by simp [numL, List.range_succ]

set_option maxRecDepth 100000 in
set_option maxHeartbeats 8000000 in
theorem list_Urgent (v : Value) (p : PlanL) (w : World) (h : InPlan w v p) (hok : PlanOk p) :
    Calls Try.prog 4 #[v] w fun e w' => ∃ v', e = .returned (.tuple #[v', .nilIface]) ∧ Only [] w w' ∧
      ((p.length = 0 ∧ v' = .slice none 0 0) ∨ (0 < p.length ∧ ∃ G c g, v' = .slice (some ⟨G, 0, none⟩) p.length c ∧ w.heap.size ≤ G ∧ Nums w' G p.length g ∧ SR (tt (tailF p)) g 0 p.length ∧ Re (fun i => (i : Int)) g 0 p.length ∧ p.length ≤ c ∧ c ≤ maxLen)) := by
  have hr := plan_Right v p w h
  have hz : planFault p = 0 := (planOk_iff p).1 hok
  rw [hz, errV_zero] at hr
  have hT := Lib.hid (fun w' (ho : Only [] w w') => depth_TailsOf v p w' (h.same ho) hok)
  have h30 := hok.len
  obtain ⟨a, cap, rfl, hc1, hc2, _⟩ := h.task
  obtain ⟨n, hn⟩ : ∃ n, p.length = n := ⟨_, rfl⟩
  rw [hn] at hr hT h30 hc1 ⊢
  obtain ⟨T, hTT⟩ : ∃ T, tailF p = T := ⟨_, rfl⟩
  rw [hTT] at hT ⊢
  clear h hok hz hn hTT hc2
  go_enter Try.func4, Try.ntmps4
  go_wp2_with fail
  refine hr.mono ?_
  rintro e w1 ⟨rfl, ho1⟩
  clear hr
  go_wp2_with fail
  refine (hT.out w1 ho1).mono ?_
  rintro e w2 ⟨v2, rfl, ⟨A, rfl, hA, hN⟩, ho2⟩
  have ho2w := ho1.trans ho2 (by simp)
  clear hT
  go_wp2_with fail
  have hC := Cells.new w2 #[.slice (some ⟨A, 0, none⟩) n n] 24
  have hal := (Only.refl [] w2).alloc (.cells #[.slice (some ⟨A, 0, none⟩) n n] 24)
  have hsz2 : w2.heap.size < (w2.alloc (.cells #[.slice (some ⟨A, 0, none⟩) n n] 24)).heap.size := by simp
  obtain ⟨W, hW⟩ : ∃ W, w2.alloc (.cells #[.slice (some ⟨A, 0, none⟩) n n] 24) = W := ⟨_, rfl⟩
  rw [hW] at hC hal hsz2 ⊢
  have hbox := hC.cell 0 _ rfl
  have hNW := hN.only hal (by simp)
  have hWw := ho2w.trans hal (by simp)
  have hAW : n = 0 ∨ A < W.heap.size := by
    by_cases h0 : n = 0
    · exact .inl h0
    · exact .inr (cell_lt (hNW 0 (by omega)).1)
  clear hC hal hW hN ho2 ho1 ho2w
  go_loopw [17, 6] (fun vi vo wr => ∃ i : Nat, i ≤ n ∧ vi = .int .i64 i ∧ Ints wr W.heap.size vo (numL i (fun k => (k : Int))) ∧ Only [] W wr ∧ Hid (i = 0 → vo = .slice none 0 0)) (fun vi _ _ => n - (intOf vi).toNat)
  case atStart => exact ⟨0, Nat.zero_le _, rfl, Ints.nil _ _, Only.refl _ _, Lib.hid (fun _ => rfl)⟩
  case round =>
    obtain ⟨wo, rfl⟩ : ∃ wo : World, wo = wr := ⟨_, rfl⟩
    obtain ⟨i, hi, rfl, hI, ho, hnil⟩ := hrel
    have hl := numL_len i (fun k => (k : Int))
    have hsz := ho.size
    by_cases hin : i < n
    · have HO := Lib.hid ho
      clear ho
      go_wp2_with (at_builtin; refine wpList_push rfl (.tmp 20) (.tmp 22) rfl wo W.heap.size _ _ _ (i : Int) i hI hl (by omega) hsz rfl rfl ((Only.refl [] wo).alloc _) (World.cell?_alloc_at _ _ _ _ rfl) ?_; intro g cap3 w3 hI3 hO3 hK3)
      have ho3 := Lib.hid (HO.out.pushed hI (Nat.le_refl _) hO3)
      have hI4 : Hid (Ints w3 W.heap.size (.slice (some ⟨g, 0, none⟩) (i + 1) cap3) (numL (i + 1) (fun k => (k : Int)))) := by
        show Ints _ _ _ _
        rw [← numL_push]; exact hI3
      clear hI3 hO3 hK3
      go_roundw
      case rel => exact ⟨i + 1, by omega, by go_num, hI4.out, ho3.out, Lib.hid (fun h => by omega)⟩
      case measure => (simp [intOf]; try omega)
    · obtain rfl : i = n := by omega
      have HW := Lib.hid (hWw.trans ho (by simp))
      by_cases h0 : i = 0
      · have hv := hnil.out h0
        subst hv
        subst h0
        clear hnil hI
        go_wp2_with fail
        refine (sortStable_none _ wo).mono ?_
        rintro e w3 ⟨rfl, rfl⟩
        go_wp2
        go_ret2
        exact ⟨rfl, HW.out⟩
      · have hfm := hI.form
        obtain ⟨g, c, rfl, hg1, hg2⟩ := hI.sized i hl (by omega)
        have hcc : Hid (i ≤ c ∧ c ≤ maxLen) := by
          rcases hfm with ⟨e, _⟩ | ⟨g', cap', e, _, _, q1, q2⟩
          · cases e
          · injection e with _ _ e3
            subst e3
            rw [hl] at q1
            exact ⟨q1, q2⟩
        clear hfm
        have hNg : Nums wo g i (fun k => (k : Int)) := fun k hk => ⟨by rw [hI.cell k (by rw [hl]; exact hk), numL_nth _ _ _ hk], hI.free k⟩
        have hS : SortAt wo g i w2.heap.size A T := ⟨(ho.cell (p := ⟨w2.heap.size, 0, none⟩) (cell_lt hbox) (by simp)).trans hbox, hNW.only ho (by simp), by omega, by omega⟩
        have hc := sort_stable g c i w2.heap.size A (fun k => (k : Int)) T wo hNg (fun k hk => ⟨by show (0 : Int) ≤ (k : Int); omega, by show (k : Int) < _; omega⟩) (fun x y h1 _ => by show (x : Int) < (y : Int); omega) hS h30
        unfold cvU at hc
        have hsz0 : w.heap.size ≤ g := by have := hWw.size; omega
        have hgW : W.heap.size ≤ g := hg1
        have HO := Lib.hid ho
        have HWW := Lib.hid hWw
        clear hNg hS hI hNW ho hWw
        go_wp2_with fail
        refine hc.mono ?_
        rintro e w3 ⟨rfl, g3, hN3, hs3, hr3, ho3⟩
        have S3 := Lib.hid hs3
        have R3 := Lib.hid hr3
        have ho4 := HWW.out.trans (HO.out.trans ho3 (fun x hx hl => by simp at hx; omega)) (by simp)
        have hpos : 0 < i := by omega
        clear hc hs3 hr3
        go_wp2
        go_ret2
        exact ⟨_, rfl, ho4, .inr ⟨hpos, g, c, g3, rfl, hsz0, hN3, S3.out, R3.out, hcc.out.1, hcc.out.2⟩⟩

set_option maxRecDepth 100000 in
theorem list_Urgent_no (v : Value) (p : PlanL) (w : World) (h : InPlan w v p) (h0 : planFault p ≠ 0) :
    Calls Try.prog 4 #[v] w fun e w' => e = .returned (.tuple #[.slice none 0 0, .iface 46 (.int .i64 (planFault p))]) ∧ Only [] w w' := by
  have hr := plan_Right v p w h
  rw [errV_ne h0] at hr
  obtain ⟨F, hF⟩ : ∃ F, planFault p = F := ⟨_, rfl⟩
  rw [hF] at hr ⊢
  clear h h0 hF
  go_enter Try.func4, Try.ntmps4
  go_wp2_with fail
  refine hr.mono ?_
  rintro e w1 ⟨rfl, ho⟩
  clear hr
  go_wp2
  go_ret2
  exact ⟨rfl, ho⟩

end Go.Proofs.Ytnolckhideellaa
