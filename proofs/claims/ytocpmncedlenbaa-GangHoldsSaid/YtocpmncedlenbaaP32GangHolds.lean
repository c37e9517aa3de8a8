/-
  Contracts of package join.
-/
import Derived.Test.YtocpmncedlenbaaP15GangHolds
namespace Go.Proofs.Ytocpmncedlenbaa
open Go.RowKit Go.Deep

/-- A join in block J: its plan pv, its lack lv, what is done in block A. FP: the plan's blocks. -/
structure JoinRaw (w : World) (FP : Nat → Prop) (J : Nat) (pv lv : Value) (A : Nat) (p : PlanL) (D : Nat → Bool) : Prop where
  cells : Cells w J [pv, lv, .slice (some ⟨A, 0, none⟩) p.length p.length, .int .i64 (leftN p D : Int)]
  plan : PlanAt w FP pv p
  lack : Ints w 0 lv (numL p.length (lackOf p D))
  done : Bools w A p.length D
  n1 : J ≠ A
  n2 : J ∉ own lv
  n3 : A ∉ own lv
  n4 : ¬ FP J
  n5 : ¬ FP A
  n6 : ∀ x ∈ own lv, ¬ FP x
  ok : PlanOk p

/-- .. S: the blocks that it writes. -/
def JoinIs (w : World) (S : List Nat) (FP : Nat → Prop) (J : Nat) (p : PlanL) (D : Nat → Bool) : Prop := ∃ pv lv A, JoinRaw w FP J pv lv A p D ∧ S = J :: A :: own lv

theorem JoinRaw.only {w w' : World} {FP : Nat → Prop} {J : Nat} {pv lv : Value} {A : Nat} {p : PlanL} {D : Nat → Bool} {T : List Nat} (h : JoinRaw w FP J pv lv A p D) (ho : Only T w w') (h1 : J ∉ T) (h2 : A ∉ T) (h3 : ∀ x ∈ own lv, x ∉ T) (h4 : ∀ x, FP x → x ∉ T) : JoinRaw w' FP J pv lv A p D :=
  ⟨h.cells.only ho h1, h.plan.only ho h4, h.lack.only ho (fun g hg => h3 g (own_of hg)), h.done.only ho h2, h.n1, h.n2, h.n3, h.n4, h.n5, h.n6, h.ok⟩

theorem JoinIs.only {w w' : World} {S : List Nat} {FP : Nat → Prop} {J : Nat} {p : PlanL} {D : Nat → Bool} {T : List Nat} (h : JoinIs w S FP J p D) (ho : Only T w w') (h1 : ∀ x ∈ S, x ∉ T) (h4 : ∀ x, FP x → x ∉ T) : JoinIs w' S FP J p D := by
  obtain ⟨pv, lv, A, h, rfl⟩ := h
  exact ⟨pv, lv, A, h.only ho (h1 J (by simp)) (h1 A (by simp)) (fun x hx => h1 x (by simp [hx])) h4, rfl⟩

theorem JoinIs.same {w w' : World} {S : List Nat} {FP : Nat → Prop} {J : Nat} {p : PlanL} {D : Nat → Bool} (h : JoinIs w S FP J p D) (ho : Only [] w w') : JoinIs w' S FP J p D := h.only ho (by simp) (by simp)
theorem JoinIs.ok {w : World} {S : List Nat} {FP : Nat → Prop} {J : Nat} {p : PlanL} {D : Nat → Bool} (h : JoinIs w S FP J p D) : PlanOk p := by
  obtain ⟨_, _, _, h, _⟩ := h; exact h.ok

set_option maxRecDepth 100000 in
theorem Join.new_no (v : Value) (p : PlanL) (w : World) (h : InPlan w v p) (he : planFault p ≠ 0) :
    Calls Try.prog 13 #[v] w fun e w' => e = .returned (.tuple #[.pointer none, .iface 52 (.int .i64 (planFault p))]) ∧ Only [] w w' := by
  have hr := plan_Right v p w h
  rw [errV_ne he] at hr
  generalize planFault p = f at *
  clear h he
  go_enter Try.func13, Try.ntmps13
  go_wp2_with fail
  refine hr.mono ?_
  rintro e w1 ⟨rfl, ho⟩
  clear hr
  go_wp2
  go_ret2
  exact ⟨rfl, ho⟩

/-- A join that is being made. -/
structure JoinMid (w W : World) (FP : Nat → Prop) (J : Nat) (pv : Value) (A : Nat) (p : PlanL) : Prop where
  cells : Cells W J [pv, .slice none 0 0, .slice (some ⟨A, 0, none⟩) p.length p.length, .int .i64 (p.length : Int)]
  plan : PlanAt W FP pv p
  done : Bools W A p.length (fun _ => false)
  n1 : J ≠ A
  n4 : ¬ FP J
  n5 : ¬ FP A
  j0 : w.heap.size ≤ J
  a0 : w.heap.size ≤ A
  al : A < W.heap.size
  f0 : ∀ x, FP x → w.heap.size ≤ x ∧ x < W.heap.size
  only : Only [] w W

theorem join_mid1 {w w1 w2 : World} {pv : Value} {p : PlanL} (ho1 : Only [] w w1) (ho2 : Only [] w1 w2) (hO : OwnPlan w2 w1.heap.size (fun x => w1.heap.size ≤ x ∧ x < w2.heap.size) pv p) :
    JoinMid w ((w2.alloc (.cells (madeCells #[.bool false] p.length) 4)).alloc (.cells #[pv, .slice none 0 0, .slice (some ⟨w2.heap.size, 0, none⟩) p.length p.length, .int .i64 (p.length : Int)] 88))
      (fun x => w1.heap.size ≤ x ∧ x < w2.heap.size) (w2.heap.size + 1) pv w2.heap.size p := by
  have hoo : Only [] w2 ((w2.alloc (.cells (madeCells #[.bool false] p.length) 4)).alloc (.cells #[pv, .slice none 0 0, .slice (some ⟨w2.heap.size, 0, none⟩) p.length p.length, .int .i64 (p.length : Int)] 88)) := ((Only.refl [] w2).alloc _).alloc _
  have h1 := ho1.size
  have h2 := ho2.size
  have h3 := hoo.size
  have hp := (hO.row.mono (G := fun x => w1.heap.size ≤ x ∧ x < w2.heap.size) (fun x hx => by rcases hx with h | h <;> exact h)).only hoo (by simp)
  refine ⟨?_, hp, (made_bools w2 p.length).only ((Only.refl [] _).alloc _) (by simp), by omega, by omega, by omega, by omega, by omega, by simp; omega, fun x hx => ⟨by omega, by omega⟩, (ho1.trans ho2 (by simp)).trans hoo (by simp)⟩
  have := Cells.new (w2.alloc (.cells (madeCells #[.bool false] p.length) 4)) #[pv, .slice none 0 0, .slice (some ⟨w2.heap.size, 0, none⟩) p.length p.length, .int .i64 (p.length : Int)] 88
  simpa using this

theorem join_mid2 {w w1 w2 : World} {pv : Value} {p : PlanL} (ho1 : Only [] w w1) (ho2 : Only [] (w1.alloc (.cells (madeCells #[.bool false] p.length) 4)) w2)
    (hO : OwnPlan w2 (w1.alloc (.cells (madeCells #[.bool false] p.length) 4)).heap.size (fun x => (w1.alloc (.cells (madeCells #[.bool false] p.length) 4)).heap.size ≤ x ∧ x < w2.heap.size) pv p) :
    JoinMid w (w2.alloc (.cells #[pv, .slice none 0 0, .slice (some ⟨w1.heap.size, 0, none⟩) p.length p.length, .int .i64 (p.length : Int)] 88))
      (fun x => (w1.alloc (.cells (madeCells #[.bool false] p.length) 4)).heap.size ≤ x ∧ x < w2.heap.size) w2.heap.size pv w1.heap.size p := by
  have hoo : Only [] w2 (w2.alloc (.cells #[pv, .slice none 0 0, .slice (some ⟨w1.heap.size, 0, none⟩) p.length p.length, .int .i64 (p.length : Int)] 88)) := (Only.refl [] w2).alloc _
  have h1 := ho1.size
  have h2 := ho2.size
  have h3 := hoo.size
  have hs := size_alloc w1 (.cells (madeCells #[.bool false] p.length) 4)
  have hp := (hO.row.mono (G := fun x => (w1.alloc (.cells (madeCells #[.bool false] p.length) 4)).heap.size ≤ x ∧ x < w2.heap.size) (fun x hx => by rcases hx with h | h <;> exact h)).only hoo (by simp)
  have hB := ((made_bools w1 p.length).only ho2 (by simp)).only hoo (by simp)
  refine ⟨?_, hp, hB, by omega, by omega, by omega, by omega, by omega, by omega, fun x hx => ⟨by omega, by omega⟩, ((ho1.alloc _).trans ho2 (by simp)).trans hoo (by simp)⟩
  have := Cells.new w2 #[pv, .slice none 0 0, .slice (some ⟨w1.heap.size, 0, none⟩) p.length p.length, .int .i64 (p.length : Int)] 88
  simpa using this

set_option maxRecDepth 100000 in
set_option maxHeartbeats 4000000 in
theorem Join.new (v : Value) (p : PlanL) (w : World) (h : InPlan w v p) (hok : PlanOk p) :
    Calls Try.prog 13 #[v] w fun e w' => ∃ J S FP, e = .returned (.tuple #[.pointer (some ⟨J, 0, none⟩), .nilIface]) ∧ JoinIs w' S FP J p (fun _ => false) ∧ (∀ x ∈ S, w.heap.size ≤ x ∧ x < w'.heap.size) ∧ (∀ x, FP x → w.heap.size ≤ x ∧ x < w'.heap.size) ∧ Only [] w w' := by
  have HO := Lib.hid hok
  have hr := plan_Right v p w h
  rw [(planOk_iff p).1 hok, errV_zero] at hr
  have HP := Lib.hid h
  obtain ⟨a, cap, rfl, _, _, _⟩ := h.task
  obtain ⟨n, hn⟩ : ∃ n, p.length = n := ⟨_, rfl⟩
  have HL := Lib.hid hn
  rw [hn] at HP hr ⊢
  have h30 : n ≤ 30 := by rw [← hn]; exact hok.len
  have hmk := make_bools n (by omega)
  clear h hok hn
  go_enter Try.func13, Try.ntmps13
  go_wp2_with fail
  refine hr.mono ?_
  rintro e w1 ⟨rfl, ho1⟩
  clear hr
  have hOwn := Lib.hid (fun W (h : Only [] w W) => plan_Own _ p W (HP.out.same h) HO.out)
  go_wp2_with fail
  go_region_law (first | (go_simp; go_at_call 17; refine (hOwn.out _ (by first | exact ho1.drew | exact ho1.drew.alloc _)).mono ?_; rintro e w2 ⟨v2, rfl, hO2, ho2⟩; obtain ⟨oa, oc, rfl, _, _⟩ := hO2.form))
  all_goals
    clear hOwn hmk
    rw [HL.out] at hO2 ⊢
    first
      | have hM := join_mid1 ho1.drew ho2 hO2
        rw [HL.out] at hM
        have HM := Lib.hid hM
        clear hM hO2 ho2
        generalize (fun x => w1.drew.heap.size ≤ x ∧ x < w2.heap.size) = FP at HM
        generalize ((w2.alloc (.cells (madeCells #[.bool false] n) 4)).alloc (.cells #[.slice oa n oc, .slice none 0 0, .slice (some ⟨w2.heap.size, 0, none⟩) n n, .int .i64 (n : Int)] 88)) = W at HM ⊢
        generalize w2.heap.size + 1 = J at HM ⊢
        generalize w2.heap.size = A at HM ⊢
      | have hM := join_mid2 (w1 := w1) ho1 (by rw [HL.out]; exact (Only.refl [] _).drew.trans ho2 (by simp)) (by rw [HL.out]; exact hO2)
        rw [HL.out] at hM
        have HM := Lib.hid hM
        clear hM hO2 ho2
        generalize (fun x => (w1.alloc (.cells (madeCells #[.bool false] n) 4)).heap.size ≤ x ∧ x < w2.heap.size) = FP at HM
        generalize (w2.alloc (.cells #[.slice oa n oc, .slice none 0 0, .slice (some ⟨w1.heap.size, 0, none⟩) n n, .int .i64 (n : Int)] 88)) = W at HM ⊢
        generalize w2.heap.size = J at HM ⊢
        generalize w1.heap.size = A at HM ⊢
  all_goals
    have hM := HM.out
    have hc0 := hM.cells
    rw [HL.out] at hc0
    have hWs := hM.only.size
    have hjl := hc0.lt
    clear hM ho1
    go_wp2_with fail
    go_loopw [24] (fun vi wr => ∃ i : Nat, i ≤ n ∧ vi = .int .i64 i ∧ ∃ lv, Cells wr J [.slice oa n oc, lv, .slice (some ⟨A, 0, none⟩) n n, .int .i64 (n : Int)] ∧ Ints wr W.heap.size lv (numL i (fun j => ((ndOf p j).length : Int))) ∧ Only [J] W wr) (fun vi _ => n - (intOf vi).toNat)
    case atStart => exact ⟨0, Nat.zero_le _, rfl, _, hc0, Ints.nil _ _, Only.refl _ _⟩
    case round =>
      obtain ⟨wo, rfl⟩ : ∃ wo : World, wo = wr := ⟨_, rfl⟩
      clear hc0
      obtain ⟨i, hi, rfl, lv, hC, hI, ho⟩ := hrel
      have hszo := ho.size
      have hjlo := hC.lt
      by_cases hin : i < n
      · have how := HM.out.only.kin ho (by intro x hx; simp at hx; subst hx; exact HM.out.j0)
        obtain ⟨b, off, rfl⟩ := HP.out.any i (by rw [HL.out]; exact hin)
        obtain ⟨ua, uc, c0, c1, _⟩ := (HP.out.same how).at i (by rw [HL.out]; exact hin)
        obtain ⟨x, hx⟩ : ∃ x, wkOf p i = x := ⟨_, rfl⟩
        obtain ⟨m, hm⟩ : ∃ m, (ndOf p i).length = m := ⟨_, rfl⟩
        have hpu := numL_push i (fun j => ((ndOf p j).length : Int))
        simp only [hm] at hpu
        have HPU := Lib.hid hpu
        rw [hx] at c0
        rw [hm] at c1
        have hal := (Only.refl [] wo).alloc (.cells #[.int .i64 x, .slice ua m uc] 24)
        have hI3 := hI.only hal (by simp)
        have hC3 := hC.only hal (by simp)
        have hsz3 := hal.size
        have hnl := numL_len i (fun j => ((ndOf p j).length : Int))
        obtain ⟨la, lc, rfl, _⟩ := hI.opt
        rw [hnl] at hI3 hC3
        have c13 := hC3.cell 1 _ rfl
        have hJn := hI3.far hjl
        clear hx hm hpu hI hC how
        go_wp2_with fail
        go_region_law (first | (refine step_push rfl (.tmp 32) (.tmp 36) rfl (wo.alloc (.cells #[.int .i64 x, .slice ua m uc] 24)) W.heap.size _ _ (wo.heap.size + 1) m i hI3 hnl (by omega) (by omega) rfl rfl (((Only.refl [] _).alloc _).drewN _) (World.cell?_alloc_at _ _ _ _ (by simp)) ?_; intro g cap2 w5 hI5 hO5 hK5; have hC5 := hC3.only hO5 hJn; have c51 := hC5.cell 1 _ rfl; have f51 := hC5.free 1 _ rfl))
        all_goals
          rw [HPU.out] at hI5
          have hset : Only [J] w5 (w5.setCell ⟨J, 1, none⟩ (.slice (some ⟨g, 0, none⟩) (i + 1) cap2)) := (Only.refl _ _).setCell (by simp) _
          have hC6 := Lib.hid (hC5.set 1 (.slice (some ⟨g, 0, none⟩) (i + 1) cap2))
          have hI6 := Lib.hid (hI5.only hset (fun g9 h9 hx => by have := (hI5.own_lt g9 (own_of h9)).1; simp at hx; omega))
          have ho6 : Hid (Only [J] W (w5.setCell ⟨J, 1, none⟩ (.slice (some ⟨g, 0, none⟩) (i + 1) cap2))) := ((ho.trans hal (by simp)).trans hO5 (fun x hx hl => by have := (hI3.own_lt x hx).1; omega)).trans hset (by simp)
          clear hI5 hC5 hset hI3 hC3 hal ho hO5 c51 f51 c13
          go_wp2
          go_roundw
          case rel => exact ⟨i + 1, by omega, by go_num, _, hC6.out, hI6.out, ho6.out⟩
          case measure => (simp [intOf]; try omega)
      · obtain rfl : n = i := by omega
        have hM := HM.out
        have hfar : ∀ x ∈ own lv, W.heap.size ≤ x ∧ x < wo.heap.size := fun x hx => hI.own_lt x hx
        have hA := hM.al
        have hR : Hid (JoinRaw wo FP J (.slice oa n oc) lv A p (fun _ => false)) := by
          refine ⟨?_, hM.plan.only ho (fun x hx hx2 => by simp at hx2; subst hx2; exact hM.n4 hx), ?_, hM.done.only ho (by simp; exact Ne.symm hM.n1), hM.n1, hI.far hjl, hI.far hA, hM.n4, hM.n5, fun x hx hF => ?_, HO.out⟩
          · rw [left_none, HL.out]; exact hC
          · have e : numL p.length (lackOf p fun _ => false) = numL n (fun j => ((ndOf p j).length : Int)) := by
              rw [HL.out]
              exact numL_congr _ _ _ (fun j _ => by unfold lackOf; rw [lack_none])
            rw [e]
            exact hI.mono (Nat.zero_le _)
          · have h1 := (hfar x hx).1
            have h2 := (hM.f0 x hF).2
            omega
        have hS : Hid (∀ x ∈ J :: A :: own lv, w.heap.size ≤ x ∧ x < wo.heap.size) := by
          show ∀ x ∈ _, _
          intro x hx
          have h1 := hM.j0
          have h2 := hM.a0
          rcases List.mem_cons.1 hx with rfl | hx
          · omega
          · rcases List.mem_cons.1 hx with rfl | hx
            · omega
            · have := hfar x hx; omega
        have hF : Hid (∀ x, FP x → w.heap.size ≤ x ∧ x < wo.heap.size) := by
          show ∀ x, _
          intro x hx
          have := hM.f0 x hx
          omega
        have hoo := Lib.hid (hM.only.kin ho (by intro x hx; simp at hx; subst hx; exact hM.j0))
        clear hM hI hC ho hfar
        go_wp2
        go_ret2
        exact ⟨J, _, FP, rfl, ⟨_, _, _, hR.out, rfl⟩, hS.out, hF.out, hoo.out⟩

end Go.Proofs.Ytocpmncedlenbaa
