/-
  Contracts of package join.
  A gang in memory: its parts, and that they lie apart.
-/
import Derived.Test.YtoofalchkedciaaGreatDoorP9TopGang
import Derived.Test.YtoofalchkedciaaGreatDoorP11TopGang
import Derived.Test.YtoofalchkedciaaGreatDoorP20TopGang
import Derived.Test.YtoofalchkedciaaGreatDoorP4TopGang
import Derived.Test.YtoofalchkedciaaGreatDoorP2TopGang
namespace Go.Proofs.YtoofalchkedciaaGreatDoor
open Go.RowKit Go.Deep

/-- A join in block J: its plan pv, its lack lv, what is done in block A. FP: the plan's blocks. -/
structure JoinRaw (w : World) (FP : Nat → Prop) (J : Nat) (pv lv : Value) (A : Nat) (p : PlanL) (D : Nat → Bool) : Prop where
  cells : Cells w J [pv, lv, .slice (some ⟨A, 0, none⟩) p.length p.length, .int .i64 (leftN p D : Int)]
  plan : PlanAt w FP pv p
  lack : Ints w 0 lv (numL p.length (lackOf p D))
  done : Bools w A p.length D
  n1 : J ≠ A
  n2 : J ∉ own lv
  n3 : A ∉ own lv
  n4 : ¬ FP J
  n5 : ¬ FP A
  n6 : ∀ x ∈ own lv, ¬ FP x
  ok : PlanOk p

/-- .. S: the blocks that it writes. -/
def JoinIs (w : World) (S : List Nat) (FP : Nat → Prop) (J : Nat) (p : PlanL) (D : Nat → Bool) : Prop := ∃ pv lv A, JoinRaw w FP J pv lv A p D ∧ S = J :: A :: own lv

theorem JoinRaw.only {w w' : World} {FP : Nat → Prop} {J : Nat} {pv lv : Value} {A : Nat} {p : PlanL} {D : Nat → Bool} {T : List Nat} (h : JoinRaw w FP J pv lv A p D) (ho : Only T w w') (h1 : J ∉ T) (h2 : A ∉ T) (h3 : ∀ x ∈ own lv, x ∉ T) (h4 : ∀ x, FP x → x ∉ T) : JoinRaw w' FP J pv lv A p D :=
  ⟨h.cells.only ho h1, h.plan.only ho h4, h.lack.only ho (fun g hg => h3 g (own_of hg)), h.done.only ho h2, h.n1, h.n2, h.n3, h.n4, h.n5, h.n6, h.ok⟩

theorem JoinIs.only {w w' : World} {S : List Nat} {FP : Nat → Prop} {J : Nat} {p : PlanL} {D : Nat → Bool} {T : List Nat} (h : JoinIs w S FP J p D) (ho : Only T w w') (h1 : ∀ x ∈ S, x ∉ T) (h4 : ∀ x, FP x → x ∉ T) : JoinIs w' S FP J p D := by
  obtain ⟨pv, lv, A, h, rfl⟩ := h
  exact ⟨pv, lv, A, h.only ho (h1 J (by simp)) (h1 A (by simp)) (fun x hx => h1 x (by simp [hx])) h4, rfl⟩

theorem JoinIs.same {w w' : World} {S : List Nat} {FP : Nat → Prop} {J : Nat} {p : PlanL} {D : Nat → Bool} (h : JoinIs w S FP J p D) (ho : Only [] w w') : JoinIs w' S FP J p D := h.only ho (by simp) (by simp)
theorem JoinIs.ok {w : World} {S : List Nat} {FP : Nat → Prop} {J : Nat} {p : PlanL} {D : Nat → Bool} (h : JoinIs w S FP J p D) : PlanOk p := by
  obtain ⟨_, _, _, h, _⟩ := h; exact h.ok

set_option maxRecDepth 100000 in
theorem Join.new_no (v : Value) (p : PlanL) (w : World) (h : InPlan w v p) (he : planFault p ≠ 0) :
    Calls Tryz.prog 37 #[v] w fun e w' => e = .returned (.tuple #[.pointer none, .iface 98 (.int .i64 (planFault p))]) ∧ Only [] w w' := by
  have hr := plan_Right v p w h
  rw [errV_ne he] at hr
  generalize planFault p = f at *
  clear h he
  go_enter Tryz.func37, Tryz.ntmps37
  go_wp2_with fail
  refine hr.mono ?_
  rintro e w1 ⟨rfl, ho⟩
  clear hr
  go_wp2
  go_ret2
  exact ⟨rfl, ho⟩

/-- A join that is being made. -/
structure JoinMid (w W : World) (FP : Nat → Prop) (J : Nat) (pv : Value) (A : Nat) (p : PlanL) : Prop where
  cells : Cells W J [pv, .slice none 0 0, .slice (some ⟨A, 0, none⟩) p.length p.length, .int .i64 (p.length : Int)]
  plan : PlanAt W FP pv p
  done : Bools W A p.length (fun _ => false)
  n1 : J ≠ A
  n4 : ¬ FP J
  n5 : ¬ FP A
  j0 : w.heap.size ≤ J
  a0 : w.heap.size ≤ A
  al : A < W.heap.size
  f0 : ∀ x, FP x → w.heap.size ≤ x ∧ x < W.heap.size
  only : Only [] w W

theorem join_mid1 {w w1 w2 : World} {pv : Value} {p : PlanL} (ho1 : Only [] w w1) (ho2 : Only [] w1 w2) (hO : OwnPlan w2 w1.heap.size (fun x => w1.heap.size ≤ x ∧ x < w2.heap.size) pv p) :
    JoinMid w ((w2.alloc (.cells (madeCells #[.bool false] p.length) 4)).alloc (.cells #[pv, .slice none 0 0, .slice (some ⟨w2.heap.size, 0, none⟩) p.length p.length, .int .i64 (p.length : Int)] 162))
      (fun x => w1.heap.size ≤ x ∧ x < w2.heap.size) (w2.heap.size + 1) pv w2.heap.size p := by
  have hoo : Only [] w2 ((w2.alloc (.cells (madeCells #[.bool false] p.length) 4)).alloc (.cells #[pv, .slice none 0 0, .slice (some ⟨w2.heap.size, 0, none⟩) p.length p.length, .int .i64 (p.length : Int)] 162)) := ((Only.refl [] w2).alloc _).alloc _
  have h1 := ho1.size
  have h2 := ho2.size
  have h3 := hoo.size
  have hp := (hO.row.mono (G := fun x => w1.heap.size ≤ x ∧ x < w2.heap.size) (fun x hx => by rcases hx with h | h <;> exact h)).only hoo (by simp)
  refine ⟨?_, hp, (made_bools w2 p.length).only ((Only.refl [] _).alloc _) (by simp), by omega, by omega, by omega, by omega, by omega, by simp; omega, fun x hx => ⟨by omega, by omega⟩, (ho1.trans ho2 (by simp)).trans hoo (by simp)⟩
  have := Cells.new (w2.alloc (.cells (madeCells #[.bool false] p.length) 4)) #[pv, .slice none 0 0, .slice (some ⟨w2.heap.size, 0, none⟩) p.length p.length, .int .i64 (p.length : Int)] 162
  simpa using this

theorem join_mid2 {w w1 w2 : World} {pv : Value} {p : PlanL} (ho1 : Only [] w w1) (ho2 : Only [] (w1.alloc (.cells (madeCells #[.bool false] p.length) 4)) w2)
    (hO : OwnPlan w2 (w1.alloc (.cells (madeCells #[.bool false] p.length) 4)).heap.size (fun x => (w1.alloc (.cells (madeCells #[.bool false] p.length) 4)).heap.size ≤ x ∧ x < w2.heap.size) pv p) :
    JoinMid w (w2.alloc (.cells #[pv, .slice none 0 0, .slice (some ⟨w1.heap.size, 0, none⟩) p.length p.length, .int .i64 (p.length : Int)] 162))
      (fun x => (w1.alloc (.cells (madeCells #[.bool false] p.length) 4)).heap.size ≤ x ∧ x < w2.heap.size) w2.heap.size pv w1.heap.size p := by
  have hoo : Only [] w2 (w2.alloc (.cells #[pv, .slice none 0 0, .slice (some ⟨w1.heap.size, 0, none⟩) p.length p.length, .int .i64 (p.length : Int)] 162)) := (Only.refl [] w2).alloc _
  have h1 := ho1.size
  have h2 := ho2.size
  have h3 := hoo.size
  have hs := size_alloc w1 (.cells (madeCells #[.bool false] p.length) 4)
  have hp := (hO.row.mono (G := fun x => (w1.alloc (.cells (madeCells #[.bool false] p.length) 4)).heap.size ≤ x ∧ x < w2.heap.size) (fun x hx => by rcases hx with h | h <;> exact h)).only hoo (by simp)
  have hB := ((made_bools w1 p.length).only ho2 (by simp)).only hoo (by simp)
  refine ⟨?_, hp, hB, by omega, by omega, by omega, by omega, by omega, by omega, fun x hx => ⟨by omega, by omega⟩, ((ho1.alloc _).trans ho2 (by simp)).trans hoo (by simp)⟩
  have := Cells.new w2 #[pv, .slice none 0 0, .slice (some ⟨w1.heap.size, 0, none⟩) p.length p.length, .int .i64 (p.length : Int)] 162
  simpa using this

set_option maxRecDepth 100000 in
set_option maxHeartbeats 4000000 in
theorem Join.new (v : Value) (p : PlanL) (w : World) (h : InPlan w v p) (hok : PlanOk p) :
    Calls Tryz.prog 37 #[v] w fun e w' => ∃ J S FP, e = .returned (.tuple #[.pointer (some ⟨J, 0, none⟩), .nilIface]) ∧ JoinIs w' S FP J p (fun _ => false) ∧ (∀ x ∈ S, w.heap.size ≤ x ∧ x < w'.heap.size) ∧ (∀ x, FP x → w.heap.size ≤ x ∧ x < w'.heap.size) ∧ Only [] w w' := by
  have HO := Lib.hid hok
  have hr := plan_Right v p w h
  rw [(planOk_iff p).1 hok, errV_zero] at hr
  have HP := Lib.hid h
  obtain ⟨a, cap, rfl, _, _, _⟩ := h.task
  obtain ⟨n, hn⟩ : ∃ n, p.length = n := ⟨_, rfl⟩
  have HL := Lib.hid hn
  rw [hn] at HP hr ⊢
  have h30 : n ≤ 30 := by rw [← hn]; exact hok.len
  have hmk := make_bools n (by omega)
  clear h hok hn
  go_enter Tryz.func37, Tryz.ntmps37
  go_wp2_with fail
  refine hr.mono ?_
  rintro e w1 ⟨rfl, ho1⟩
  clear hr
  have hOwn := Lib.hid (fun W (h : Only [] w W) => plan_Own _ p W (HP.out.same h) HO.out)
  go_wp2_with fail
  go_region_law (first | (go_simp; go_at_call 85; refine (hOwn.out _ (by first | exact ho1.drew | exact ho1.drew.alloc _)).mono ?_; rintro e w2 ⟨v2, rfl, hO2, ho2⟩; obtain ⟨oa, oc, rfl, _, _⟩ := hO2.form))
  all_goals
    clear hOwn hmk
    rw [HL.out] at hO2 ⊢
    first
      | have hM := join_mid1 ho1.drew ho2 hO2
        rw [HL.out] at hM
        have HM := Lib.hid hM
        clear hM hO2 ho2
        generalize (fun x => w1.drew.heap.size ≤ x ∧ x < w2.heap.size) = FP at HM
        generalize ((w2.alloc (.cells (madeCells #[.bool false] n) 4)).alloc (.cells #[.slice oa n oc, .slice none 0 0, .slice (some ⟨w2.heap.size, 0, none⟩) n n, .int .i64 (n : Int)] 162)) = W at HM ⊢
        generalize w2.heap.size + 1 = J at HM ⊢
        generalize w2.heap.size = A at HM ⊢
      | have hM := join_mid2 (w1 := w1) ho1 (by rw [HL.out]; exact (Only.refl [] _).drew.trans ho2 (by simp)) (by rw [HL.out]; exact hO2)
        rw [HL.out] at hM
        have HM := Lib.hid hM
        clear hM hO2 ho2
        generalize (fun x => (w1.alloc (.cells (madeCells #[.bool false] n) 4)).heap.size ≤ x ∧ x < w2.heap.size) = FP at HM
        generalize (w2.alloc (.cells #[.slice oa n oc, .slice none 0 0, .slice (some ⟨w1.heap.size, 0, none⟩) n n, .int .i64 (n : Int)] 162)) = W at HM ⊢
        generalize w2.heap.size = J at HM ⊢
        generalize w1.heap.size = A at HM ⊢
  all_goals
    have hM := HM.out
    have hc0 := hM.cells
    rw [HL.out] at hc0
    have hWs := hM.only.size
    have hjl := hc0.lt
    clear hM ho1
    go_wp2_with fail
    go_loopw [24] (fun vi wr => ∃ i : Nat, i ≤ n ∧ vi = .int .i64 i ∧ ∃ lv, Cells wr J [.slice oa n oc, lv, .slice (some ⟨A, 0, none⟩) n n, .int .i64 (n : Int)] ∧ Ints wr W.heap.size lv (numL i (fun j => ((ndOf p j).length : Int))) ∧ Only [J] W wr) (fun vi _ => n - (intOf vi).toNat)
    case atStart => exact ⟨0, Nat.zero_le _, rfl, _, hc0, Ints.nil _ _, Only.refl _ _⟩
    case round =>
      obtain ⟨wo, rfl⟩ : ∃ wo : World, wo = wr := ⟨_, rfl⟩
      clear hc0
      obtain ⟨i, hi, rfl, lv, hC, hI, ho⟩ := hrel
      have hszo := ho.size
      have hjlo := hC.lt
      by_cases hin : i < n
      · have how := HM.out.only.kin ho (by intro x hx; simp at hx; subst hx; exact HM.out.j0)
        obtain ⟨b, off, rfl⟩ := HP.out.any i (by rw [HL.out]; exact hin)
        obtain ⟨ua, uc, c0, c1, _⟩ := (HP.out.same how).at i (by rw [HL.out]; exact hin)
        obtain ⟨x, hx⟩ : ∃ x, wkOf p i = x := ⟨_, rfl⟩
        obtain ⟨m, hm⟩ : ∃ m, (ndOf p i).length = m := ⟨_, rfl⟩
        have hpu := numL_push i (fun j => ((ndOf p j).length : Int))
        simp only [hm] at hpu
        have HPU := Lib.hid hpu
        rw [hx] at c0
        rw [hm] at c1
        have hal := (Only.refl [] wo).alloc (.cells #[.int .i64 x, .slice ua m uc] 94)
        have hI3 := hI.only hal (by simp)
        have hC3 := hC.only hal (by simp)
        have hsz3 := hal.size
        have hnl := numL_len i (fun j => ((ndOf p j).length : Int))
        obtain ⟨la, lc, rfl, _⟩ := hI.opt
        rw [hnl] at hI3 hC3
        have c13 := hC3.cell 1 _ rfl
        have hJn := hI3.far hjl
        clear hx hm hpu hI hC how
        go_wp2_with fail
        go_region_law (first | (refine step_push rfl (.tmp 32) (.tmp 36) rfl (wo.alloc (.cells #[.int .i64 x, .slice ua m uc] 94)) W.heap.size _ _ (wo.heap.size + 1) m i hI3 hnl (by omega) (by omega) rfl rfl (((Only.refl [] _).alloc _).drewN _) (World.cell?_alloc_at _ _ _ _ (by simp)) ?_; intro g cap2 w5 hI5 hO5 hK5; have hC5 := hC3.only hO5 hJn; have c51 := hC5.cell 1 _ rfl; have f51 := hC5.free 1 _ rfl))
        all_goals
          rw [HPU.out] at hI5
          have hset : Only [J] w5 (w5.setCell ⟨J, 1, none⟩ (.slice (some ⟨g, 0, none⟩) (i + 1) cap2)) := (Only.refl _ _).setCell (by simp) _
          have hC6 := Lib.hid (hC5.set 1 (.slice (some ⟨g, 0, none⟩) (i + 1) cap2))
          have hI6 := Lib.hid (hI5.only hset (fun g9 h9 hx => by have := (hI5.own_lt g9 (own_of h9)).1; simp at hx; omega))
          have ho6 : Hid (Only [J] W (w5.setCell ⟨J, 1, none⟩ (.slice (some ⟨g, 0, none⟩) (i + 1) cap2))) := ((ho.trans hal (by simp)).trans hO5 (fun x hx hl => by have := (hI3.own_lt x hx).1; omega)).trans hset (by simp)
          clear hI5 hC5 hset hI3 hC3 hal ho hO5 c51 f51 c13
          go_wp2
          go_roundw
          case rel => exact ⟨i + 1, by omega, by go_num, _, hC6.out, hI6.out, ho6.out⟩
          case measure => (simp [intOf]; try omega)
      · obtain rfl : n = i := by omega
        have hM := HM.out
        have hfar : ∀ x ∈ own lv, W.heap.size ≤ x ∧ x < wo.heap.size := fun x hx => hI.own_lt x hx
        have hA := hM.al
        have hR : Hid (JoinRaw wo FP J (.slice oa n oc) lv A p (fun _ => false)) := by
          refine ⟨?_, hM.plan.only ho (fun x hx hx2 => by simp at hx2; subst hx2; exact hM.n4 hx), ?_, hM.done.only ho (by simp; exact Ne.symm hM.n1), hM.n1, hI.far hjl, hI.far hA, hM.n4, hM.n5, fun x hx hF => ?_, HO.out⟩
          · rw [left_none, HL.out]; exact hC
          · have e : numL p.length (lackOf p fun _ => false) = numL n (fun j => ((ndOf p j).length : Int)) := by
              rw [HL.out]
              exact numL_congr _ _ _ (fun j _ => by unfold lackOf; rw [lack_none])
            rw [e]
            exact hI.mono (Nat.zero_le _)
          · have h1 := (hfar x hx).1
            have h2 := (hM.f0 x hF).2
            omega
        have hS : Hid (∀ x ∈ J :: A :: own lv, w.heap.size ≤ x ∧ x < wo.heap.size) := by
          show ∀ x ∈ _, _
          intro x hx
          have h1 := hM.j0
          have h2 := hM.a0
          rcases List.mem_cons.1 hx with rfl | hx
          · omega
          · rcases List.mem_cons.1 hx with rfl | hx
            · omega
            · have := hfar x hx; omega
        have hF : Hid (∀ x, FP x → w.heap.size ≤ x ∧ x < wo.heap.size) := by
          show ∀ x, _
          intro x hx
          have := hM.f0 x hx
          omega
        have hoo := Lib.hid (hM.only.kin ho (by intro x hx; simp at hx; subst hx; exact hM.j0))
        clear hM hI hC ho hfar
        go_wp2
        go_ret2
        exact ⟨J, _, FP, rfl, ⟨_, _, _, hR.out, rfl⟩, hS.out, hF.out, hoo.out⟩

end Go.Proofs.YtoofalchkedciaaGreatDoor

namespace Go.Proofs.YtoofalchkedciaaGreatDoor
open Go.RowKit Go.Deep

/-- Changed: at most blocks of F. -/
def OnlyF (F : Nat → Prop) (w w' : World) : Prop := ∃ T : List Nat, (∀ x ∈ T, F x) ∧ Only T w w'

theorem OnlyF.refl (F : Nat → Prop) (w : World) : OnlyF F w w := ⟨[], by simp, Only.refl _ _⟩
theorem OnlyF.of {F : Nat → Prop} {T : List Nat} {w w' : World} (ho : Only T w w') (h : ∀ x ∈ T, F x) : OnlyF F w w' := ⟨T, h, ho⟩
theorem OnlyF.same {F : Nat → Prop} {w w' : World} (ho : Only [] w w') : OnlyF F w w' := ⟨[], by simp, ho⟩
theorem OnlyF.mono {F F' : Nat → Prop} {w w' : World} (h : OnlyF F w w') (hF : ∀ x, F x → F' x) : OnlyF F' w w' := by
  obtain ⟨T, h1, h2⟩ := h
  exact ⟨T, fun x hx => hF x (h1 x hx), h2⟩
theorem OnlyF.trans {F F' : Nat → Prop} {a b c : World} (h : OnlyF F a b) (k : OnlyF F' b c) (hF : ∀ x, F' x → F x ∨ a.heap.size ≤ x) : OnlyF F a c := by
  obtain ⟨T, h1, h2⟩ := h
  obtain ⟨U, k1, k2⟩ := k
  refine ⟨T ++ U.filter (fun x => decide (x < a.heap.size)), fun x hx => ?_, ?_⟩
  · rcases List.mem_append.1 hx with hx | hx
    · exact h1 x hx
    · obtain ⟨hx, hl⟩ := List.mem_filter.1 hx
      rcases hF x (k1 x hx) with h | h
      · exact h
      · simp at hl; omega
  · refine (h2.mono (fun x hx _ => List.mem_append.2 (.inl hx))).trans k2 fun x hx hl => ?_
    exact List.mem_append.2 (.inr (List.mem_filter.2 ⟨hx, by simpa using hl⟩))
theorem OnlyF.size {F : Nat → Prop} {w w' : World} (h : OnlyF F w w') : w.heap.size ≤ w'.heap.size := by
  obtain ⟨T, _, h⟩ := h; exact h.size
theorem OnlyF.none {w w' : World} (h : OnlyF (fun _ => False) w w') : Only [] w w' := by
  obtain ⟨T, h1, h2⟩ := h
  exact h2.mono (fun x hx _ => (h1 x hx).elim)

theorem Row.onlyF {w w' : World} {base : Nat} {e : TypeId} {k : Nat} {v : Value} {n : Nat} {xs : List Value} {F : Nat → Prop} (h : w.ownsRow base e k v n xs) (ho : OnlyF F w w') (hS : ∀ x ∈ own v, ¬ F x) : w'.ownsRow base e k v n xs := by
  obtain ⟨T, h1, h2⟩ := ho
  exact Row.only h h2 (fun x hx hT => hS x hx (h1 x hT))
theorem Ints.onlyF {w w' : World} {base : Nat} {v : Value} {xs : List Int} {F : Nat → Prop} (h : Ints w base v xs) (ho : OnlyF F w w') (hS : ∀ x ∈ own v, ¬ F x) : Ints w' base v xs := Row.onlyF h ho hS
theorem OwnDeeds.onlyF {w w' : World} {base : Nat} {v : Value} {bs : List Dd} {F : Nat → Prop} (h : OwnDeeds w base v bs) (ho : OnlyF F w w') (hS : ∀ x ∈ own v, ¬ F x) : OwnDeeds w' base v bs := Row.onlyF h ho hS

/-- Where a gang lies. -/
structure GPar where
  G : Nat
  J : Nat
  S : Nat
  K : Nat
  L : Nat
  cap : Nat
  pv : Value
  SJ : List Nat
  FJ : Nat → Prop
  FP : Nat → Prop
  WB : Nat → Nat
  HB : Nat → Nat
  RB : Nat → Nat

structure GangAt (w : World) (lab : Nat → Nat) (q : GPar) (SS SK : List Nat) (p : PlanL) (room m : Nat) (s : GSt) : Prop where
  cells : Cells w q.G [q.pv, .pointer (some ⟨q.J, 0, none⟩), .pointer (some ⟨q.S, 0, none⟩), .pointer (some ⟨q.K, 0, none⟩), .slice (some ⟨q.L, 0, none⟩) m q.cap]
  plan : PlanAt w q.FP q.pv p
  join : JoinIs w q.SJ q.FJ q.J p s.done
  spill : SpillIs w SS q.S room s.spill
  park : ParkIs w SK q.K m s.row
  row : ∀ i, i < m → w.cell? ⟨q.L, i, none⟩ = some (.pointer (some ⟨q.WB i, 0, none⟩))
  works : ∀ i, i < m → Cells w (q.WB i) [.pointer (some ⟨q.HB i, 0, none⟩), .int .i64 (s.ws i).task, .int .i64 (s.ws i).left]
  hands : ∀ i, i < m → HandIs w (q.HB i) (q.RB i) (s.ws i).near room (s.ws i).ring
  lt : ∀ x, lab x ≠ 0 → x < w.heap.size
  l1 : lab q.G = 1
  l2 : lab q.L = 2
  l3 : ∀ x, q.FP x → lab x = 3
  l4 : ∀ x ∈ q.SJ, lab x = 4
  l4f : ∀ x, q.FJ x → lab x = 4
  l5 : ∀ x ∈ SS, lab x = 5
  l6 : ∀ x ∈ SK, lab x = 6
  lw : ∀ i, i < m → lab (q.WB i) = 10 + 2 * i
  lh : ∀ i, i < m → lab (q.HB i) = 11 + 2 * i ∧ lab (q.RB i) = 11 + 2 * i
  m1 : 1 ≤ m
  m6 : m ≤ 6
  mc : m ≤ q.cap
  cm : q.cap ≤ maxLen

def relab (lab : Nat → Nat) (a b c : Nat) : Nat → Nat := fun x => if a ≤ x ∧ x < b then c else lab x
theorem relab_old {lab : Nat → Nat} {a b c x : Nat} (h : x < a) : relab lab a b c x = lab x := by unfold relab; rw [if_neg (by omega)]

/-- What one part's change leaves: all other parts. -/
theorem GangAt.other {w w' : World} {lab : Nat → Nat} {q : GPar} {SS SK : List Nat} {p : PlanL} {room m : Nat} {s : GSt} {T : List Nat} (h : GangAt w lab q SS SK p room m s) (ho : Only T w w') (c : Nat) (hT : ∀ x ∈ T, lab x = c) :
    (c ≠ 1 → Cells w' q.G [q.pv, .pointer (some ⟨q.J, 0, none⟩), .pointer (some ⟨q.S, 0, none⟩), .pointer (some ⟨q.K, 0, none⟩), .slice (some ⟨q.L, 0, none⟩) m q.cap]) ∧ (c ≠ 3 → PlanAt w' q.FP q.pv p) ∧ (c ≠ 4 → JoinIs w' q.SJ q.FJ q.J p s.done) ∧
    (c ≠ 5 → SpillIs w' SS q.S room s.spill) ∧ (c ≠ 6 → ParkIs w' SK q.K m s.row) ∧ (c ≠ 2 → ∀ i, i < m → w'.cell? ⟨q.L, i, none⟩ = some (.pointer (some ⟨q.WB i, 0, none⟩))) ∧
    (∀ i, i < m → c ≠ 10 + 2 * i → Cells w' (q.WB i) [.pointer (some ⟨q.HB i, 0, none⟩), .int .i64 (s.ws i).task, .int .i64 (s.ws i).left]) ∧ (∀ i, i < m → c ≠ 11 + 2 * i → HandIs w' (q.HB i) (q.RB i) (s.ws i).near room (s.ws i).ring) := by
  have nc : ∀ x, lab x ≠ c → x ∉ T := fun x h hx => h (hT x hx)
  refine ⟨fun e => h.cells.only ho (nc _ (by rw [h.l1]; omega)), fun e => h.plan.only ho (fun x hx => nc x (by rw [h.l3 x hx]; omega)), fun e => h.join.only ho (fun x hx => nc x (by rw [h.l4 x hx]; omega)) (fun x hx => nc x (by rw [h.l4f x hx]; omega)),
    fun e => h.spill.only ho (fun x hx => nc x (by rw [h.l5 x hx]; omega)), fun e => h.park.only ho (fun x hx => nc x (by rw [h.l6 x hx]; omega)), fun e i hi => ?_, fun i hi e => (h.works i hi).only ho (nc _ (by rw [h.lw i hi]; omega)),
    fun i hi e => (h.hands i hi).only ho (nc _ (by rw [(h.lh i hi).1]; omega)) (nc _ (by rw [(h.lh i hi).2]; omega))⟩
  have hl := cell_lt (h.row i hi)
  exact (ho.cell (p := ⟨q.L, i, none⟩) hl (nc _ (by rw [h.l2]; omega))).trans (h.row i hi)

theorem GangAt.same {w w' : World} {lab : Nat → Nat} {q : GPar} {SS SK : List Nat} {p : PlanL} {room m : Nat} {s : GSt} (h : GangAt w lab q SS SK p room m s) (ho : Only [] w w') : GangAt w' lab q SS SK p room m s := by
  obtain ⟨a1, a2, a3, a4, a5, a6, a7, a8⟩ := h.other ho 0 (by simp)
  exact ⟨a1 (by omega), a2 (by omega), a3 (by omega), a4 (by omega), a5 (by omega), a6 (by omega), fun i hi => a7 i hi (by omega), fun i hi => a8 i hi (by omega),
    fun x hx => by have := h.lt x hx; have := ho.size; omega, h.l1, h.l2, h.l3, h.l4, h.l4f, h.l5, h.l6, h.lw, h.lh, h.m1, h.m6, h.mc, h.cm⟩

theorem GangAt.setSpill {w w' : World} {lab : Nat → Nat} {q : GPar} {SS SK SS' : List Nat} {p : PlanL} {room m : Nat} {s : GSt} (h : GangAt w lab q SS SK p room m s) {sp : List Int} (hs : SpillIs w' SS' q.S room sp) (ho : Only SS w w') (hk : Kin w SS SS') :
    GangAt w' (relab lab w.heap.size w'.heap.size 5) q SS' SK p room m ⟨s.done, sp, s.row, s.ws⟩ := by
  obtain ⟨a1, a2, a3, _, a5, a6, a7, a8⟩ := h.other ho 5 h.l5
  have old : ∀ {x c : Nat}, lab x = c → c ≠ 0 → relab lab w.heap.size w'.heap.size 5 x = c := fun {x c} e hc => by rw [relab_old (h.lt x (by omega))]; exact e
  refine ⟨a1 (by omega), a2 (by omega), a3 (by omega), hs, a5 (by omega), a6 (by omega), fun i hi => a7 i hi (by omega), fun i hi => a8 i hi (by omega), fun x hx => ?_, old h.l1 (by omega), old h.l2 (by omega), fun x hx => old (h.l3 x hx) (by omega), fun x hx => old (h.l4 x hx) (by omega),
    fun x hx => old (h.l4f x hx) (by omega), fun x hx => ?_, fun x hx => old (h.l6 x hx) (by omega), fun i hi => old (h.lw i hi) (by omega), fun i hi => ⟨old (h.lh i hi).1 (by omega), old (h.lh i hi).2 (by omega)⟩, h.m1, h.m6, h.mc, h.cm⟩
  · unfold relab at hx
    have := ho.size
    split at hx
    · omega
    · have := h.lt x hx; omega
  · rcases hk x hx with h1 | h1
    · exact old (h.l5 x h1) (by omega)
    · unfold relab
      rw [if_pos ⟨h1, hs.lt x hx⟩]

theorem GangAt.setPark {w w' : World} {lab : Nat → Nat} {q : GPar} {SS SK SK' T : List Nat} {p : PlanL} {room m : Nat} {s : GSt} (h : GangAt w lab q SS SK p room m s) {row : List Int} (hs : ParkIs w' SK' q.K m row) (ho : Only T w w') (hT : ∀ x ∈ T, x ∈ SK) (hk : Kin w SK SK') :
    GangAt w' (relab lab w.heap.size w'.heap.size 6) q SS SK' p room m ⟨s.done, s.spill, row, s.ws⟩ := by
  obtain ⟨a1, a2, a3, a4, _, a6, a7, a8⟩ := h.other ho 6 (fun x hx => h.l6 x (hT x hx))
  have old : ∀ {x c : Nat}, lab x = c → c ≠ 0 → relab lab w.heap.size w'.heap.size 6 x = c := fun {x c} e hc => by rw [relab_old (h.lt x (by omega))]; exact e
  refine ⟨a1 (by omega), a2 (by omega), a3 (by omega), a4 (by omega), hs, a6 (by omega), fun i hi => a7 i hi (by omega), fun i hi => a8 i hi (by omega), fun x hx => ?_, old h.l1 (by omega), old h.l2 (by omega), fun x hx => old (h.l3 x hx) (by omega), fun x hx => old (h.l4 x hx) (by omega),
    fun x hx => old (h.l4f x hx) (by omega), fun x hx => old (h.l5 x hx) (by omega), fun x hx => ?_, fun i hi => old (h.lw i hi) (by omega), fun i hi => ⟨old (h.lh i hi).1 (by omega), old (h.lh i hi).2 (by omega)⟩, h.m1, h.m6, h.mc, h.cm⟩
  · unfold relab at hx
    have := ho.size
    split at hx
    · omega
    · have := h.lt x hx; omega
  · rcases hk x hx with h1 | h1
    · exact old (h.l6 x h1) (by omega)
    · unfold relab
      rw [if_pos ⟨h1, hs.lt x hx⟩]

theorem GangAt.setJoin {w w' : World} {lab : Nat → Nat} {q : GPar} {SS SK : List Nat} {p : PlanL} {room m : Nat} {s : GSt} (h : GangAt w lab q SS SK p room m s) {D : Nat → Bool} (hs : JoinIs w' q.SJ q.FJ q.J p D) (ho : Only q.SJ w w') :
    GangAt w' lab q SS SK p room m ⟨D, s.spill, s.row, s.ws⟩ := by
  obtain ⟨a1, a2, _, a4, a5, a6, a7, a8⟩ := h.other ho 4 h.l4
  exact ⟨a1 (by omega), a2 (by omega), hs, a4 (by omega), a5 (by omega), a6 (by omega), fun i hi => a7 i hi (by omega), fun i hi => a8 i hi (by omega), fun x hx => by have := h.lt x hx; have := ho.size; omega, h.l1, h.l2, h.l3, h.l4, h.l4f, h.l5, h.l6, h.lw, h.lh, h.m1, h.m6, h.mc, h.cm⟩

theorem GangAt.setHand {w w' : World} {lab : Nat → Nat} {q : GPar} {SS SK T : List Nat} {p : PlanL} {room m : Nat} {s : GSt} (h : GangAt w lab q SS SK p room m s) {i : Nat} (hi : i < m) {near : Int} {ring : List Int} (hs : HandIs w' (q.HB i) (q.RB i) near room ring) (ho : Only T w w') (hT : ∀ x ∈ T, x = q.HB i ∨ x = q.RB i) :
    GangAt w' lab q SS SK p room m ⟨s.done, s.spill, s.row, upW s.ws i ⟨near, ring, (s.ws i).task, (s.ws i).left⟩⟩ := by
  obtain ⟨a1, a2, a3, a4, a5, a6, a7, a8⟩ := h.other ho (11 + 2 * i) (fun x hx => by
    rcases hT x hx with e | e
    · rw [e]; exact (h.lh i hi).1
    · rw [e]; exact (h.lh i hi).2)
  refine ⟨a1 (by omega), a2 (by omega), a3 (by omega), a4 (by omega), a5 (by omega), a6 (by omega), fun j hj => ?_, fun j hj => ?_, fun x hx => by have := h.lt x hx; have := ho.size; omega, h.l1, h.l2, h.l3, h.l4, h.l4f, h.l5, h.l6, h.lw, h.lh, h.m1, h.m6, h.mc, h.cm⟩
  · show Cells w' (q.WB j) [_, .int .i64 (upW s.ws i _ j).task, .int .i64 (upW s.ws i _ j).left]
    by_cases e : j = i
    · subst e; rw [upW_same]; exact a7 j hj (by omega)
    · rw [upW_other _ _ _ _ e]; exact a7 j hj (by omega)
  · show HandIs w' (q.HB j) (q.RB j) (upW s.ws i _ j).near room (upW s.ws i _ j).ring
    by_cases e : j = i
    · subst e; rw [upW_same]; exact hs
    · rw [upW_other _ _ _ _ e]; exact a8 j hj (by omega)

theorem GangAt.setWork {w w' : World} {lab : Nat → Nat} {q : GPar} {SS SK : List Nat} {p : PlanL} {room m : Nat} {s : GSt} (h : GangAt w lab q SS SK p room m s) {i : Nat} (hi : i < m) {task left : Int} (hs : Cells w' (q.WB i) [.pointer (some ⟨q.HB i, 0, none⟩), .int .i64 task, .int .i64 left]) (ho : Only [q.WB i] w w') :
    GangAt w' lab q SS SK p room m ⟨s.done, s.spill, s.row, upW s.ws i ⟨(s.ws i).near, (s.ws i).ring, task, left⟩⟩ := by
  obtain ⟨a1, a2, a3, a4, a5, a6, a7, a8⟩ := h.other ho (10 + 2 * i) (fun x hx => by
    obtain rfl : x = q.WB i := by simpa using hx
    exact h.lw i hi)
  refine ⟨a1 (by omega), a2 (by omega), a3 (by omega), a4 (by omega), a5 (by omega), a6 (by omega), fun j hj => ?_, fun j hj => ?_, fun x hx => by have := h.lt x hx; have := ho.size; omega, h.l1, h.l2, h.l3, h.l4, h.l4f, h.l5, h.l6, h.lw, h.lh, h.m1, h.m6, h.mc, h.cm⟩
  · show Cells w' (q.WB j) [_, .int .i64 (upW s.ws i _ j).task, .int .i64 (upW s.ws i _ j).left]
    by_cases e : j = i
    · subst e; rw [upW_same]; exact hs
    · rw [upW_other _ _ _ _ e]; exact a7 j hj (by omega)
  · show HandIs w' (q.HB j) (q.RB j) (upW s.ws i _ j).near room (upW s.ws i _ j).ring
    by_cases e : j = i
    · subst e; rw [upW_same]; exact a8 j hj (by omega)
    · rw [upW_other _ _ _ _ e]; exact a8 j hj (by omega)

/-- A gang, and the blocks that are its own. -/
def GangIs (w : World) (q : GPar) (p : PlanL) (room m : Nat) (s : GSt) (F : Nat → Prop) : Prop := ∃ lab SS SK, GangAt w lab q SS SK p room m s ∧ ∀ x, lab x ≠ 0 ↔ F x

theorem GangIs.lt {w : World} {q : GPar} {p : PlanL} {room m : Nat} {s : GSt} {F : Nat → Prop} (h : GangIs w q p room m s F) : ∀ x, F x → x < w.heap.size := fun x hx => by
  obtain ⟨lab, SS, SK, h, hF⟩ := h
  exact h.lt x ((hF x).2 hx)
theorem GangIs.same {w w' : World} {q : GPar} {p : PlanL} {room m : Nat} {s : GSt} {F : Nat → Prop} (h : GangIs w q p room m s F) (ho : Only [] w w') : GangIs w' q p room m s F := by
  obtain ⟨lab, SS, SK, h, hF⟩ := h
  exact ⟨lab, SS, SK, h.same ho, hF⟩
theorem GangIs.apart {w w' : World} {q : GPar} {p : PlanL} {room m : Nat} {s : GSt} {F : Nat → Prop} {T : List Nat} (h : GangIs w q p room m s F) (ho : Only T w w') (hT : ∀ x ∈ T, ¬ F x) : GangIs w' q p room m s F := by
  obtain ⟨lab, SS, SK, h, hF⟩ := h
  obtain ⟨a1, a2, a3, a4, a5, a6, a7, a8⟩ := h.other ho 0 (fun x hx => Decidable.byContradiction fun e => hT x hx ((hF x).1 e))
  exact ⟨lab, SS, SK, ⟨a1 (by omega), a2 (by omega), a3 (by omega), a4 (by omega), a5 (by omega), a6 (by omega), fun i hi => a7 i hi (by omega), fun i hi => a8 i hi (by omega),
    fun x hx => by have := h.lt x hx; have := ho.size; omega, h.l1, h.l2, h.l3, h.l4, h.l4f, h.l5, h.l6, h.lw, h.lh, h.m1, h.m6, h.mc, h.cm⟩, hF⟩

/-- A gang behind some of its operations. -/
structure GRel (w0 : World) (F0 : Nat → Prop) (w : World) (q : GPar) (p : PlanL) (room m : Nat) (s : GSt) (F : Nat → Prop) : Prop where
  gang : GangIs w q p room m s F
  kin : ∀ x, F x → F0 x ∨ w0.heap.size ≤ x
  only : OnlyF F0 w0 w

theorem GRel.start {w : World} {q : GPar} {p : PlanL} {room m : Nat} {s : GSt} {F : Nat → Prop} (h : GangIs w q p room m s F) : GRel w F w q p room m s F := ⟨h, fun _ hx => .inl hx, OnlyF.refl _ _⟩
theorem GRel.same {w0 w w' : World} {F0 F : Nat → Prop} {q : GPar} {p : PlanL} {room m : Nat} {s : GSt} (h : GRel w0 F0 w q p room m s F) (ho : Only [] w w') : GRel w0 F0 w' q p room m s F :=
  ⟨h.gang.same ho, h.kin, h.only.trans (OnlyF.same (F := F0) ho) (fun _ hx => .inl hx)⟩
theorem GRel.step {w0 w w' : World} {F0 F F' : Nat → Prop} {q : GPar} {p : PlanL} {room m : Nat} {s s' : GSt} (h : GRel w0 F0 w q p room m s F) (hg : GangIs w' q p room m s' F') (ho : OnlyF F w w') (hk : ∀ x, F' x → F x ∨ w.heap.size ≤ x) : GRel w0 F0 w' q p room m s' F' :=
  ⟨hg, fun x hx => by
    rcases hk x hx with h1 | h1
    · exact h.kin x h1
    · right; have := h.only.size; omega, h.only.trans ho h.kin⟩
theorem GRel.trans {w0 w1 w : World} {F0 F1 F : Nat → Prop} {q : GPar} {p : PlanL} {room m : Nat} {s1 s : GSt} (h : GRel w0 F0 w1 q p room m s1 F1) (k : GRel w1 F1 w q p room m s F) : GRel w0 F0 w q p room m s F :=
  h.step k.gang k.only k.kin

/-- .. behind a change of what is not its own. -/
theorem GRel.fresh {w0 w w' : World} {F0 F : Nat → Prop} {q : GPar} {p : PlanL} {room m : Nat} {s : GSt} {T : List Nat} (h : GRel w0 F0 w q p room m s F) (ho : Only T w w') (hT : ∀ x ∈ T, ¬ F x ∧ w0.heap.size ≤ x) : GRel w0 F0 w' q p room m s F :=
  ⟨h.gang.apart ho (fun x hx => (hT x hx).1), h.kin, h.only.trans (OnlyF.of (F := fun x => w0.heap.size ≤ x) ho (fun x hx => (hT x hx).2)) (fun _ hx => .inr hx)⟩

/-- The blocks of a thing behind a call: those that it had, or new ones. -/
def Kin' (w : World) (F F' : Nat → Prop) : Prop := ∀ x, F' x → F x ∨ w.heap.size ≤ x

/-- New blocks have come to it. -/
def more (F : Nat → Prop) (w w' : World) : Nat → Prop := fun x => F x ∨ (w.heap.size ≤ x ∧ x < w'.heap.size)
theorem relab_more {lab : Nat → Nat} {F : Nat → Prop} {w w' : World} {c : Nat} (hc : c ≠ 0) (h : ∀ x, lab x ≠ 0 ↔ F x) : ∀ x, relab lab w.heap.size w'.heap.size c x ≠ 0 ↔ more F w w' x := fun x => by
  unfold relab more
  split
  · rename_i hx
    exact ⟨fun _ => .inr hx, fun _ => hc⟩
  · rename_i hx
    rw [h x]
    exact ⟨fun h => .inl h, fun h1 => by
      rcases h1 with h1 | h1
      · exact h1
      · exact absurd h1 hx⟩

end Go.Proofs.YtoofalchkedciaaGreatDoor
