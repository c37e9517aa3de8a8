/-
  The statement ListAnomaly: more hands are never much slower (Graham): by one order with one hand more a plan takes at most twice as long as without. No condition.
-/
import Derived.Test.YtmopbimineoogaaP1ListAnomaly
import Derived.Test.YtmopbimineoogaaP33ListAnomaly
import Derived.Test.YtmopbimineoogaaP34ListAnomaly
namespace Go.Proofs.Ytmopbimineoogaa.listAnomaly
open Go.ChangeShapes Go.WideShapes Go.ChangeAt Go.RowKit
open Go.ChangeMaps (open_string shut_string)
set_option linter.unusedVariables false

theorem litA_ok : PlanOk (besideP 4 3) := litOk_ok (by decide)
theorem litA_each : EachOf (besideP 4 3).length [0, 1, 2, 3] := by
  unfold EachOf
  show List.Perm [(0 : Int), 1, 2, 3] [0, 1, 2, 3]
  exact List.Perm.refl _
theorem litA_end : LEnd (besideP 4 3) 2 [0, 1, 2, 3] [⟨0, 0, 0, 3⟩, ⟨1, 1, 0, 3⟩, ⟨0, 2, 3, 6⟩, ⟨1, 3, 3, 6⟩] := by
  have a0 := LAt.start (p := besideP 4 3) (hands := 2) (order := [0, 1, 2, 3])
  have a1 := a0.give 0 0 0 (by decide) (by decide) (by decide)
  have a2 := a1.give 1 1 1 (by decide) (by decide) (by decide)
  have a3 := a2.tick (.inl (by decide)) (by decide)
  have a4 := a3.tick (.inl (by decide)) (by decide)
  have a5 := a4.tick (.inl (by decide)) (by decide)
  have a6 := a5.give 0 2 2 (by decide) (by decide) (by decide)
  have a7 := a6.give 1 3 3 (by decide) (by decide) (by decide)
  exact ⟨_, _, a7, rfl, rfl⟩

/-- What list.Long gives, whatever comes in. -/
def LongIs (p : PlanL) (hands : Int) (order : List Int) (e : Ending) : Prop :=
  (∃ (k : Nat) (ss : List St), hands = (k : Int) ∧ PlanOk p ∧ OrdOk p.length order ∧ 1 ≤ k ∧ k ≤ 6 ∧ LEnd p k order ss ∧ e = .returned (.tuple #[.int .i64 (lLong ss), .nilIface])) ∨
  ∃ f, e = .returned (.tuple #[.int .i64 0, .iface 55 (.int .i64 f)])

theorem long_any (v u : Value) (p : PlanL) (hands : Int) (order : List Int) (w : World) (h : InPlan w v p) (hv : Reads w u order) (hl : order.length ≤ 17592186044416) :
    Calls Try.prog 12 #[v, .int .i64 hands, u] w fun e w' => LongIs p hands order e ∧ Only [] w w' := by
  by_cases he : lErr p hands order = 0
  · have he2 : hErr p hands = 0 := by
      by_cases hx : hErr p hands = 0
      · exact hx
      · rw [lErr_h hx] at he; exact absurd he hx
    rw [lErr_each he2] at he
    have hEach : EachOf p.length order := by
      by_cases hx : EachOf p.length order
      · exact hx
      · rw [if_neg hx] at he; cases he
    obtain ⟨hok, h1, h6⟩ := hErr_zero he2
    obtain ⟨k, rfl⟩ := Int.eq_ofNat_of_zero_le (show 0 ≤ hands by omega)
    refine (list_Long v u p k order w h hv hok (by omega) (by omega) hEach).mono ?_
    rintro e w' ⟨ss, rfl, hE, ho⟩
    exact ⟨.inl ⟨k, ss, rfl, hok, hEach.ok.1, by omega, by omega, hE, rfl⟩, ho⟩
  · refine (list_Long_no v u p hands order w h hv hl he).mono ?_
    rintro e w' ⟨rfl, ho⟩
    exact ⟨.inr ⟨_, rfl⟩, ho⟩

/-- Graham: with one hand more at most twice as long. -/
theorem anomaly {p : PlanL} {order : List Int} {k : Nat} {a b : List St} (hok : PlanOk p) (ho : OrdOk p.length order) (h1 : 1 ≤ k) (ha : LEnd p k order a) (hb : LEnd p (k + 1) order b) : lLong b ≤ 2 * lLong a := by
  obtain ⟨_, a2, a3, _⟩ := lEnd_bounds hok ho h1 ha
  obtain ⟨_, _, _, b4⟩ := lEnd_bounds hok ho (by omega) hb
  have hx0 := lLong_ge0 a
  generalize lLong a = x at *
  generalize lLong b = y at *
  generalize spanF p = s at *
  generalize workF p = wk at *
  have e1 : ((k + 1 : Nat) : Int) * y = k * y + y := by rw [Int.natCast_add, Int.add_mul]; simp
  have e2 : (((k + 1 : Nat) : Int) - 1) * s = k * s := by simp
  rw [e1, e2] at b4
  have e3 : (k : Int) * s ≤ k * x := Int.mul_le_mul_of_nonneg_left a2 (by omega)
  -- (k + 1) y ≤ 2 k x
  by_cases h : y ≤ 2 * x
  · exact h
  · exfalso
    have h5 : 2 * x + 1 ≤ y := by omega
    have e4 : (k : Int) * (2 * x + 1) ≤ k * y := Int.mul_le_mul_of_nonneg_left h5 (by omega)
    rw [Int.mul_add, Int.mul_one, Int.mul_left_comm] at e4
    omega

set_option maxHeartbeats 8000000 in
set_option maxRecDepth 100000 in
theorem walk (v0 : Value) (l0 : PlanL) (a1 : Int) (v2 : Value) (l2 : List Int) (w : World) (w0 : ArgPlan w v0 l0) (w1 : (Lit.int .i64 a1).wf = true) (w2 : SizedInts w v2 l2) :
    Calls Try.prog 4 #[v0, .int .i64 a1, v2] w fun e w' => e = .returned (.bool true) ∧ Below w.heap.size w w' := by
  have bd1 := bounds_i64 w1
  have HP := Lib.hid w0.2
  have hol := w2.2
  have HV := Lib.hid w2.1.reads
  clear w0 w2
  have HLA := Lib.hid (fun (hands : Int) w' (ho : Only [] w w') => long_any v0 v2 l0 hands l2 w' (HP.out.same ho) (HV.out.same ho) (by omega))
  obtain ⟨va, vc, rfl, _⟩ := HV.out.opt
  clear hol
  go_enter Try.func4, Try.ntmps4
  go_wp2_with fail
  refine (law_beside 4 3 w (by omega)).mono ?_
  rintro e w1 ⟨v1, rfl, hO1, ho1⟩
  have hal := (Only.refl [] w1).alloc (.cells #[.int .i64 0, .int .i64 1, .int .i64 2, .int .i64 3] 3)
  have hrd : Reads (w1.alloc (.cells #[.int .i64 0, .int .i64 1, .int .i64 2, .int .i64 3] 3)) (.slice (some ⟨w1.heap.size, 0, none⟩) 4 4) [0, 1, 2, 3] := lit_row [0, 1, 2, 3] (heap_alloc_at _ _ _ (by simp)) (by simp)
  have hll := list_Long v1 _ (besideP 4 3) 2 _ _ (hO1.plan.same hal) hrd litA_ok (by omega) (by omega) litA_each
  have hoo := ho1.trans hal (by simp)
  clear hO1 hrd hal ho1
  go_wp2_with fail
  refine hll.mono ?_
  rintro e w2 ⟨ss, rfl, hE, ho2⟩
  obtain rfl := lEnd_unique hE litA_end
  have hoo := hoo.trans ho2 (by simp)
  have h6 : lLong [⟨0, 0, 0, 3⟩, ⟨1, 1, 0, 3⟩, ⟨0, 2, 3, 6⟩, ⟨1, 3, 3, 6⟩] = 6 := by decide
  rw [h6]
  clear hll ho2 hE h6
  go_wp2_with fail
  refine (HLA.out a1 w2 hoo).mono ?_
  rintro e w3 ⟨hA, ho3⟩
  have hoo3 := hoo.trans ho3 (by simp)
  have hcall := HLA.out (IntKind.i64.wrap (a1 + 1)) w3 hoo3
  clear HLA ho3 hoo
  rcases hA with ⟨k, ss, rfl, hok, hOrd, hk1, hk6, hE1, rfl⟩ | ⟨f, rfl⟩
  · have hw1 : IntKind.i64.wrap ((k : Int) + 1) = (k : Int) + 1 := IntWalk.i64_in _ (by omega)
    rw [hw1] at hcall
    have hb1 := (lEnd_bounds hok hOrd hk1 hE1).1
    have hg1 := lLong_ge0 ss
    have HE1 := Lib.hid hE1
    have HOK := Lib.hid hok
    have HORD := Lib.hid hOrd
    obtain ⟨x, hx⟩ : ∃ x, lLong ss = x := ⟨_, rfl⟩
    have HX := Lib.hid hx
    rw [hx] at hb1 hg1 ⊢
    clear hE1 hok hOrd hx w1 bd1 hw1
    go_wp2_with fail
    refine hcall.mono ?_
    rintro e w4 ⟨hB, ho4⟩
    have hoo4 := hoo3.trans ho4 (by simp)
    clear hcall ho4 hoo3
    rcases hB with ⟨k', tt, hk, _, _, hk1', hk6', hE2, rfl⟩ | ⟨f, rfl⟩
    · obtain rfl : k' = k + 1 := by omega
      have han := anomaly HOK.out HORD.out hk1 HE1.out hE2
      have hb2 := (lEnd_bounds HOK.out HORD.out hk1' hE2).1
      have hg2 := lLong_ge0 tt
      rw [HX.out] at han
      obtain ⟨y, hy⟩ : ∃ y, lLong tt = y := ⟨_, rfl⟩
      rw [hy] at han hb2 hg2 ⊢
      clear hE2 hy hk hk6'
      go_wp2
      go_ret
      exact ⟨rfl, hoo4.below (Nat.le_refl _) (by simp)⟩
    · go_wp2
      go_ret
      exact ⟨rfl, hoo4.below (Nat.le_refl _) (by simp)⟩
  · obtain ⟨X, hX⟩ : ∃ X, IntKind.i64.wrap (a1 + 1) = X := ⟨_, rfl⟩
    rw [hX] at hcall
    go_wp2_with fail
    refine hcall.mono ?_
    rintro e w4 ⟨hB, ho4⟩
    have hoo4 := hoo3.trans ho4 (by simp)
    clear hcall ho4 hoo3
    rcases hB with ⟨k', tt, hk, _, _, hk1', hk6', hE2, rfl⟩ | ⟨f2, rfl⟩
    · generalize lLong tt = y at *
      go_wp2
      go_ret
      exact ⟨rfl, hoo4.below (Nat.le_refl _) (by simp)⟩
    · go_wp2
      go_ret
      exact ⟨rfl, hoo4.below (Nat.le_refl _) (by simp)⟩

end Go.Proofs.Ytmopbimineoogaa.listAnomaly
