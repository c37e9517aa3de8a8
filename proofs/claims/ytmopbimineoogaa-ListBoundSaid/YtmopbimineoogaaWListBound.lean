/-
  The statement ListBound: whatever the order, never twice as long (Graham), outright: by any order a plan takes at most its work by the hands, and the span for the others; it may be so; with one hand it takes its work. No condition.
-/
import Derived.Test.YtmopbimineoogaaP1ListBound
import Derived.Test.YtmopbimineoogaaP26ListBound
import Derived.Test.YtmopbimineoogaaP29ListBound
import Derived.Test.YtmopbimineoogaaP32ListBound
import Derived.Test.YtmopbimineoogaaP34ListBound
namespace Go.Proofs.Ytmopbimineoogaa.listBound
open Go.ChangeShapes Go.WideShapes Go.ChangeAt Go.RowKit
open Go.ChangeMaps (open_string shut_string)
set_option linter.unusedVariables false

theorem litL (W : World) : InPlan ((W.alloc (.cells #[.int .i64 0] 3)).alloc (.cells #[.int .i64 3, .slice none 0 0, .int .i64 2, .slice (some ⟨W.heap.size, 0, none⟩) 1 1] 26)) (.slice (some ⟨W.heap.size + 1, 0, none⟩) 2 2) [(3, []), (2, [0])] := by
  refine lit_plan (heap_alloc_at _ _ _ (by simp)) [(3, []), (2, [0])] (fun i => if i = 0 then .slice none 0 0 else .slice (some ⟨W.heap.size, 0, none⟩) 1 1) ?_ (by simp) ?_
  · rfl
  · intro i hi
    have : i = 0 ∨ i = 1 := by simp at hi; omega
    rcases this with rfl | rfl
    · exact .inl ⟨rfl, .inl rfl⟩
    · refine lit_row [0] ?_ (by simp)
      rw [heap_alloc_old _ _ _ (by simp)]
      exact heap_alloc_new _ _
theorem litL_ok : PlanOk [(3, []), (2, [0])] := litOk_ok (by decide)
theorem litL_each : EachOf [((3 : Int), ([] : List Int)), (2, [0])].length [1, 0] := by
  unfold EachOf
  show List.Perm [(1 : Int), 0] [0, 1]
  exact List.Perm.swap _ _ _
theorem litL_end : LEnd [(3, []), (2, [0])] 2 [1, 0] [⟨0, 0, 0, 3⟩, ⟨0, 1, 3, 5⟩] := by
  have a0 := LAt.start (p := [(3, []), (2, [0])]) (hands := 2) (order := [1, 0])
  have a1 := a0.give 0 1 0 (by decide) (by decide) (by decide)
  have a2 := a1.tick (.inr (by decide)) (by decide)
  have a3 := a2.tick (.inr (by decide)) (by decide)
  have a4 := a3.tick (.inr (by decide)) (by decide)
  have a5 := a4.give 0 0 1 (by decide) (by decide) (by decide)
  exact ⟨_, _, a5, rfl, rfl⟩
theorem mul_bdL (a s : Int) (h0 : 1 ≤ a) (ha : a ≤ 6) (h1 : 0 ≤ s) (hs : s ≤ 600) : 0 ≤ a * s ∧ a * s ≤ 3600 := by
  refine ⟨Int.mul_nonneg (by omega) h1, ?_⟩
  have := Int.mul_le_mul ha hs h1 (by omega)
  omega

set_option maxHeartbeats 8000000 in
set_option maxRecDepth 100000 in
theorem walk (v0 : Value) (l0 : PlanL) (a1 : Int) (v2 : Value) (l2 : List Int) (w : World) (w0 : ArgPlan w v0 l0) (w1 : (Lit.int .i64 a1).wf = true) (w2 : SizedInts w v2 l2) :
    Calls Try.prog 5 #[v0, .int .i64 a1, v2] w fun e w' => e = .returned (.bool true) ∧ Below w.heap.size w w' := by
  have bd1 := bounds_i64 w1
  have HP := Lib.hid w0.2
  have hol := w2.2
  have HV := Lib.hid w2.1.reads
  clear w0 w2
  have hl := (litL w).same ((Only.refl [] _).alloc (.cells #[.int .i64 1, .int .i64 0] 3))
  have hoo := (((Only.refl [] w).alloc (.cells #[.int .i64 0] 3)).alloc (.cells #[.int .i64 3, .slice none 0 0, .int .i64 2, .slice (some ⟨w.heap.size, 0, none⟩) 1 1] 26)).alloc (.cells #[.int .i64 1, .int .i64 0] 3)
  have hrd : Reads (((w.alloc (.cells #[.int .i64 0] 3)).alloc (.cells #[.int .i64 3, .slice none 0 0, .int .i64 2, .slice (some ⟨w.heap.size, 0, none⟩) 1 1] 26)).alloc (.cells #[.int .i64 1, .int .i64 0] 3)) (.slice (some ⟨w.heap.size + 1 + 1, 0, none⟩) 2 2) [1, 0] :=
    lit_row [1, 0] (heap_alloc_at _ _ _ (by simp)) (by simp)
  have hlr := list_Run _ _ _ 2 _ _ hl hrd litL_ok (by omega) (by omega) litL_each
  clear hl hrd
  go_enter Try.func5, Try.ntmps5
  go_wp2_with fail
  refine hlr.mono ?_
  rintro e wa ⟨v3, s3, rfl, hE3, hO3, ho1⟩
  obtain rfl := lEnd_unique hE3 litL_end
  have hoo := hoo.trans ho1 (by simp)
  obtain ⟨a3, c3, rfl, hc3⟩ := hO3.at.opt
  obtain ⟨b3, o3, rfl, z0, z1, z2, z3⟩ := hc3 0 (by simp)
  obtain ⟨b4, o4, hb4, y0, y1, y2, y3⟩ := hc3 1 (by simp)
  injection hb4 with hb4
  injection hb4 with e1 e2 _
  subst e1 e2
  clear hlr ho1 hE3 hc3 hO3
  simp only [stAt, List.getElem?_cons_zero, List.getElem?_cons_succ, Option.getD_some] at z0 z1 z2 z3 y0 y1 y2 y3
  by_cases he : lErr l0 a1 l2 = 0
  · have he2 : hErr l0 a1 = 0 := by
      by_cases hx : hErr l0 a1 = 0
      · exact hx
      · rw [lErr_h hx] at he; exact absurd he hx
    rw [lErr_each he2] at he
    have hEach : EachOf l0.length l2 := by
      by_cases hx : EachOf l0.length l2
      · exact hx
      · rw [if_neg hx] at he; cases he
    obtain ⟨hok, h1, h6⟩ := hErr_zero he2
    obtain ⟨k, rfl⟩ := Int.eq_ofNat_of_zero_le (show 0 ≤ a1 by omega)
    have hk1 : 1 ≤ k := by omega
    have hk6 : k ≤ 6 := by omega
    have hrun := list_Run v0 v2 l0 k l2 wa (HP.out.same hoo) (HV.out.same hoo) hok hk1 hk6 hEach
    have HL := Lib.hid (fun w' (ho : Only [] w w') => list_Long v0 v2 l0 k l2 w' (HP.out.same ho) (HV.out.same ho) hok hk1 hk6 hEach)
    have HW := Lib.hid (fun w' (ho : Only [] w w') => depth_Work v0 l0 w' (HP.out.same ho) hok)
    have HS := Lib.hid (fun w' (ho : Only [] w w') => depth_Span v0 l0 w' (HP.out.same ho) hok)
    have HJ := Lib.hid (fun w' v' ss (ho : Only [] w w') (hb : StaysAt w' v' ss) h9 hr => judge_Stays v0 v' l0 k ss w' (HP.out.same ho) hb h9 hr)
    have HBD := Lib.hid (fun ss (h : LEnd l0 k l2 ss) => lEnd_bounds hok hEach.ok.1 hk1 h)
    have HST := Lib.hid (fun ss (h : LEnd l0 k l2 ss) => (by
      unfold staysErrH
      rw [if_neg (by rw [he2]; simp)]
      exact lEnd_stays hok hEach.ok.1 hk1 h : staysErrH l0 k ss = 0))
    have HLN := Lib.hid (fun ss (h : LEnd l0 k l2 ss) => (by obtain ⟨_, _, _, _, h⟩ := h; rw [h]; exact hok.len : ss.length ≤ 30))
    have hwb := workF_bd hok
    have hsb := spanF_bd hok
    obtain ⟨va, vc, rfl, _⟩ := HV.out.opt
    clear he he2 hEach hok h1 h6 w1 bd1 hol
    go_wp2_with fail
    refine hrun.mono ?_
    rintro e wb ⟨vb, ss, rfl, hE, hO, ho2⟩
    have hoo2 := hoo.trans ho2 (by simp)
    have hbd := HBD.out ss hE
    have hst := HST.out ss hE
    have hln := HLN.out ss hE
    have hst0 := HJ.out
    obtain ⟨ba, bc, rfl, hbc, _⟩ := Row.form hO
    have hat := Lib.hid hO.at
    have HE := Lib.hid hE
    obtain ⟨m, hm⟩ : ∃ m, ss.length = m := ⟨_, rfl⟩
    have HM := Lib.hid hm
    have HJ2 := Lib.hid (fun w' (ho : Only [] w w') (hb : StaysAt w' (.slice ba ss.length bc) ss) => HJ.out w' (.slice ba ss.length bc) ss ho hb (by omega) (by rintro a n c ⟨⟩; exact hbc))
    rw [hst, errV_zero] at HJ2
    rw [hm] at HJ2 hat ⊢
    clear hrun hoo ho2 hE hO hst hst0 HJ HST HBD hm hbc z0 z1 z2 z3 y0 y1 y2 y3
    go_wp2_with fail
    refine (HL.out wb hoo2).mono ?_
    rintro e wc ⟨ss', rfl, hE', ho3⟩
    obtain rfl := lEnd_unique hE' HE.out
    have hoo3 := hoo2.trans ho3 (by simp)
    have hat3 := Lib.hid (hat.out.same ho3)
    obtain ⟨b1, b2, b3, b4⟩ := hbd
    have hg0 := lLong_ge0 ss'
    obtain ⟨L, hL⟩ : ∃ L, lLong ss' = L := ⟨_, rfl⟩
    rw [hL] at b1 b2 b3 b4 hg0 ⊢
    clear HL hoo2 ho3 hat hE' hL
    go_wp2_with fail
    refine (HW.out wc hoo3).mono ?_
    rintro e wd ⟨rfl, ho4⟩
    have hoo4 := hoo3.trans ho4 (by simp)
    have hat4 := Lib.hid (hat3.out.same ho4)
    clear HW hoo3 ho4 hat3
    go_wp2_with fail
    refine (HS.out wd hoo4).mono ?_
    rintro e we ⟨rfl, ho5⟩
    have hoo5 := hoo4.trans ho5 (by simp)
    have hat5 := Lib.hid (hat4.out.same ho5)
    clear HS hoo4 ho5 hat4
    have hm1 := mul_bdL k L (by omega) (by omega) hg0 b1
    have hm2 := bound_num (spanF l0) k (by omega) (by omega) hsb
    have hone : k = 1 → L = workF l0 := fun e => by subst e; simp at b3 b4; omega
    obtain ⟨W0, hW0⟩ : ∃ W0, workF l0 = W0 := ⟨_, rfl⟩
    obtain ⟨S0, hS0⟩ : ∃ S0, spanF l0 = S0 := ⟨_, rfl⟩
    rw [hW0] at hwb b3 b4 hone ⊢
    rw [hS0] at hsb b2 b4 hm2 ⊢
    obtain ⟨M1, hM1⟩ : ∃ M1, (k : Int) * L = M1 := ⟨_, rfl⟩
    obtain ⟨M2, hM2⟩ : ∃ M2, ((k : Int) - 1) * S0 = M2 := ⟨_, rfl⟩
    rw [hM1] at b3 b4 hm1
    rw [hM2] at b4 hm2
    clear hW0 hS0
    go_wp2_with fail
    refine (HJ2.out we hoo5 hat5.out).mono ?_
    rintro e wf ⟨rfl, ho6⟩
    have hoo6 := hoo5.trans ho6 (by simp)
    by_cases hk : k = 1
    · have h1 := hone hk
      subst hk h1
      clear hone
      go_wp2
      go_ret
      exact ⟨rfl, hoo6.below (Nat.le_refl _) (by simp)⟩
    · have hk2 : 2 ≤ k := by omega
      clear hone hk
      go_wp2
      go_ret
      exact ⟨rfl, hoo6.below (Nat.le_refl _) (by simp)⟩
  · have hrun := list_Run_no v0 v2 l0 a1 l2 wa (HP.out.same hoo) (HV.out.same hoo) (by omega) he
    generalize lErr l0 a1 l2 = f at *
    clear he
    go_wp2_with fail
    refine hrun.mono ?_
    rintro e wb ⟨rfl, ho2⟩
    have hoo2 := hoo.trans ho2 (by simp)
    clear hrun
    go_wp2
    go_ret
    exact ⟨rfl, hoo2.below (Nat.le_refl _) (by simp)⟩

end Go.Proofs.Ytmopbimineoogaa.listBound
