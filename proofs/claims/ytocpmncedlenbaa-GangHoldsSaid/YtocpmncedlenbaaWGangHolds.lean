/-
  The statement GangHolds: no task is lost, none done twice; in so many rounds as there is work, and tasks, all are done. No condition.
-/
import Derived.Test.YtocpmncedlenbaaP1GangHolds
import Derived.Test.YtocpmncedlenbaaP43GangHolds
import Derived.Test.YtocpmncedlenbaaP44GangHolds
import Derived.Test.YtocpmncedlenbaaP40GangHolds
namespace Go.Proofs.Ytocpmncedlenbaa.gangHolds
open Go.ChangeShapes Go.WideShapes Go.ChangeAt Go.RowKit
open Go.ChangeMaps (open_string shut_string)
set_option linter.unusedVariables false


/-- The plan of one task. -/
def oneP : PlanL := [(1, [])]
theorem one_ok : PlanOk oneP := litOk_ok (by decide +kernel)
def go1 : GSt × List Dd := gStep oneP 1 1 (gNew oneP) 0 0
def go2 : GSt × List Dd := gStep oneP 1 1 go1.1 0 0
theorem go1_is : go1.2 = [⟨3, 0, 0, 0⟩] := by kernel_rfl
theorem go2_is : go2.2 = [⟨4, 0, 0, 0⟩] := by kernel_rfl
theorem go0_left : leftN oneP (gNew oneP).done = 1 := by kernel_rfl
theorem go2_left : leftN oneP go2.1.done = 0 := by kernel_rfl
theorem gErr_zero {p : PlanL} {m r : Int} (h : gErr p m r = 0) : PlanOk p ∧ 1 ≤ m ∧ m ≤ 6 ∧ 1 ≤ r ∧ r ≤ 16 := by
  unfold gErr at h
  by_cases hp : planFault p = 0
  · rw [if_pos hp] at h
    by_cases hh : 1 ≤ m ∧ m ≤ 6 ∧ 1 ≤ r ∧ r ≤ 16
    · exact ⟨(planOk_iff p).2 hp, hh⟩
    · rw [if_neg hh] at h; cases h
  · rw [if_neg hp] at h; exact absurd h hp

set_option maxRecDepth 100000 in
set_option maxHeartbeats 8000000 in
theorem walk (v0 : Value) (l0 : PlanL) (a1 : Int) (a2 : Int) (v3 : Value) (l3 : List (List Int)) (w : World) (w0 : ArgPlan w v0 l0) (w1 : (Lit.int .i64 a1).wf = true) (w2 : (Lit.int .i64 a2).wf = true) (w3 : InRows w v3 l3) :
    Calls Try.prog 4 #[v0, .int .i64 a1, .int .i64 a2, v3] w fun e w' => e = .returned (.bool true) ∧ Below w.heap.size w w' := by
  have bd1 := bounds_i64 w1
  have bd2 := bounds_i64 w2
  have HP := Lib.hid w0.2
  have HS := Lib.hid w3
  have HPW := Lib.hid (fun (W : World) (ho : Only [] w W) => w0.2.same ho)
  obtain ⟨pa, pc, rfl, hpc, hpm, _⟩ := w0.2.task
  obtain ⟨n, hn⟩ : ∃ n, l0.length = n := ⟨_, rfl⟩
  have HN := Lib.hid hn
  rw [hn] at HP HPW hpc ⊢
  have hP0 : InPlan (w.alloc (.cells #[.int .i64 1, .slice none 0 0] 24)) (.slice (some ⟨w.heap.size, 0, none⟩) 1 1) oneP := by
    have h : OwnPlan (w.alloc (.cells #[.int .i64 1, .slice none 0 0] 24)) w.heap.size (fun x => w.heap.size ≤ x) (.slice (some ⟨w.heap.size, 0, none⟩) 1 1) oneP := by
      refine ⟨fun _ => .slice none 0 0, ⟨by simp [flatP_len], .inr ⟨w.heap.size, 1, _, rfl, Nat.le_refl _, heap_alloc_new _ _, Nat.le_refl _, by unfold maxLen; omega, rfl, rfl⟩⟩, fun i hi => ?_, fun i hi => rfl, fun i hi h0 => ?_⟩
      all_goals
        obtain rfl : i = 0 := by have h1 : i < 1 := hi; omega
      · exact .inl ⟨rfl, .inl rfl⟩
      · exact absurd rfl h0
    exact h.plan
  have hnw := gang_New _ oneP 1 1 _ hP0 one_ok (by omega) (by omega) (by omega) (by omega)
  rw [show ((1 : Nat) : Int) = 1 from rfl] at hnw
  have HO0 := Lib.hid ((Only.refl [] w).alloc (.cells #[.int .i64 1, .slice none 0 0] 24))
  clear w0 w1 w2 w3 hP0 hn hpm
  go_enter Try.func4, Try.ntmps4
  go_wp2_with fail
  refine hnw.mono ?_
  rintro e w1 ⟨q, F, rfl, hG, hF, ho1⟩
  have hi0 := gNew_inv oneP 1 1
  have hlf := gang_Left hG
  rw [go0_left, show ((1 : Nat) : Int) = 1 from rfl] at hlf
  have hs1 := gang_step hG hi0 (show 0 < 1 by omega) 0
  have hi1 := gStep_inv one_ok (by omega) hi0 (h := 0) 0 (show 0 < 1 by omega)
  have hz1 : gStep oneP 1 1 (gNew oneP) 0 0 = go1 := rfl
  rw [hz1] at hs1 hi1
  rw [show ((0 : Nat) : Int) = 0 from rfl] at hs1
  have HF := Lib.hid hF
  have HO1 := Lib.hid (HO0.out.trans ho1 (by simp))
  have HI1 := Lib.hid hi1
  clear hnw hG hF ho1 hi0 hi1 hz1
  go_wp2_with fail
  refine hlf.mono ?_
  rintro e w2 ⟨rfl, rfl⟩
  clear hlf
  go_wp2_with fail
  refine hs1.mono ?_
  rintro e w2 ⟨v2, F2, rfl, hD2, hG2, hN2⟩
  rw [go1_is] at hD2
  have hs2 := gang_step hG2.gang HI1.out (show 0 < 1 by omega) 0
  have hi2 := gStep_inv one_ok (by omega) HI1.out (h := 0) 0 (show 0 < 1 by omega)
  have hz1 : gStep oneP 1 1 go1.1 0 0 = go2 := rfl
  rw [hz1] at hs2 hi2
  rw [show ((0 : Nat) : Int) = 0 from rfl] at hs2
  have HG2 := Lib.hid hG2
  have HN2 := Lib.hid hN2
  have HD2 := Lib.hid hD2
  obtain ⟨a2, c2, rfl, _⟩ := Row.form hD2
  clear hs1 hD2 hG2 hi2 hz1 hN2
  go_wp2_with fail
  refine hs2.mono ?_
  rintro e w3 ⟨v3, F3, rfl, hD3, hG3, _⟩
  rw [go2_is] at hD3
  have hlf := gang_Left hG3.gang
  rw [go2_left, show ((0 : Nat) : Int) = 0 from rfl] at hlf
  have hD2 := HD2.out.onlyF hG3.only HN2.out
  obtain ⟨_, _, e2, hc2⟩ := hD2.at.opt
  injection e2 with ea eb ec
  obtain ⟨B, off, hB, z0, _⟩ := hc2 0 (by simp)
  rw [hB] at ea
  subst ea
  obtain ⟨a3, c3, rfl, hc3⟩ := hD3.at.opt
  obtain ⟨B3, off3, rfl, z3, _⟩ := hc3 0 (by simp)
  have y0 : w3.cell? ⟨B, off, none⟩ = some (.int .i64 3) := by simpa [ddAt] using z0
  have y3 : w3.cell? ⟨B3, off3, none⟩ = some (.int .i64 4) := by simpa [ddAt] using z3
  have HO3 := Lib.hid (by
    obtain ⟨T, hT, hoT⟩ := (HG2.out.trans hG3).only
    exact HO1.out.trans hoT (fun x hx hl => by have := HF.out x (hT x hx); have := HO0.out.size; omega) : Only [] w w3)
  clear hs2 hD3 hG3 hD2 hc2 hc3 z0 z3 eb ec hB
  go_wp2_with fail
  refine hlf.mono ?_
  rintro e w4 ⟨rfl, rfl⟩
  clear hlf y0 y3
  by_cases hge : gErr l0 a1 a2 = 0
  · obtain ⟨hok, m1, m6, r1, r16⟩ := gErr_zero hge
    obtain ⟨m, rfl⟩ := Int.eq_ofNat_of_zero_le (show 0 ≤ a1 by omega)
    obtain ⟨r, rfl⟩ := Int.eq_ofNat_of_zero_le (show 0 ≤ a2 by omega)
    have hnw := gang_New _ l0 m r w3 (HPW.out w3 HO3.out) hok (by omega) (by omega) (by omega) (by omega)
    go_wp2_with fail
    refine hnw.mono ?_
    rintro e w5 ⟨q, F, rfl, hG, hF, ho5⟩
    obtain ⟨V, ⟨sa, sc, rfl, hs1, hs2, hs3⟩, hs4⟩ := HS.out
    have HS3 := Lib.hid hs3
    have HS4 := Lib.hid hs4
    have hl9 : l3.length ≤ 9223372036854775807 := by unfold maxLen at hs2; omega
    have h30 : n ≤ 30 := by rw [← HN.out]; exact hok.len
    have hmk := make_bools n (by omega)
    have HOK := Lib.hid hok
    have ho5' := HO3.out.trans ho5 (by simp)
    have hst : GH w l0 r m n q w5.heap.size (w5.alloc (.cells (madeCells #[.bool false] n) 4)) 0 (.slice none 0 0) (gNew l0) tZero [] F := by
      have hal : Only [] w5 (w5.alloc (.cells (madeCells #[.bool false] n) 4)) := (Only.refl [] w5).alloc _
      have hlt := hG.lt
      refine ⟨hG.same hal, gNew_inv l0 r m, new_watch l0 m (by omega), made_bools w5 n, OwnDeeds.nil _ _, Leads.nil _ _ _, RelT.new l0 m, ?_, fun x hx => ⟨?_, ?_, ?_⟩, ?_, ⟨?_, ?_⟩, ho5'.trans hal (by simp)⟩
      · show 0 + 0 ≤ 0; omega
      · have := hF x hx; have := HO3.out.size; omega
      · have := hlt x hx; omega
      · simp [own, Value.ownBlock]
      · simp [own, Value.ownBlock]
      · exact ho5'.size
      · simp
    have HST := Lib.hid hst
    clear hnw hG hF ho5 hok hge hs3 hs4 hst HS bd1 bd2 ho5'
    go_wp2_with fail
    go_loopw [17, 19] (fun va vi wr => ∃ (i : Nat) (s : GSt) (t : TSt) (AL : List Dd) (F : Nat → Prop), i ≤ l3.length ∧ i ≤ 200 ∧ vi = .int .i64 i ∧ GH w l0 r m n q w5.heap.size wr i va s t AL F) (fun _ vi _ => 200 - (intOf vi).toNat)
    case atStart => exact ⟨0, gNew l0, tZero, [], F, Nat.zero_le _, by omega, rfl, HST.out⟩
    case round =>
      clear HST hmk
      obtain ⟨wo, rfl⟩ : ∃ wo : World, wo = wr := ⟨_, rfl⟩
      obtain ⟨i, s, t, AL, F, hi, hi2, rfl, hGH⟩ := hrel
      generalize w5.heap.size = A at *
      have HGH := Lib.hid hGH
      by_cases hlt : i < l3.length ∧ i < 200
      · obtain ⟨hlt, hlt2⟩ := hlt
        obtain ⟨sb, so, rfl, hcV⟩ := HS3.out i hlt
        have hVi := HS4.out i hlt
        obtain ⟨va, vcap, hVe, hvc⟩ := hVi.opt
        have hvb := hVi.bounds
        rw [hVe] at hcV
        obtain ⟨li, hli⟩ : ∃ li, l3[i]?.getD [] = li := ⟨_, rfl⟩
        rw [hli] at hcV hvc hvb
        obtain ⟨c, hm⟩ : ∃ c, li.length = c := ⟨_, rfl⟩
        have HM := Lib.hid hm
        rw [hm] at hcV hvc
        have HVC := Lib.hid hvc
        have hc0 := Cells.new wo #[.int .i64 0, .int .i64 0] 42
        have hoA := hGH.only.alloc (.cells #[.int .i64 0, .int .i64 0] 42)
        have hsz := hGH.only.size
        have hAlt : wo.heap.size < (wo.alloc (.cells #[.int .i64 0, .int .i64 0] 42)).heap.size := by simp
        clear hGH hvc hVi hVe hli hm
        go_wp2_with fail
        go_loopw [21] (fun vj wr => ∃ j : Nat, j ≤ 2 ∧ j ≤ c ∧ vj = .int .i64 j ∧ Cells wr wo.heap.size [.int .i64 (if 0 < j then nth li 0 else 0), .int .i64 (if 1 < j then nth li 1 else 0)] ∧ Only [wo.heap.size] (wo.alloc (.cells #[.int .i64 0, .int .i64 0] 42)) wr) (fun vj _ => 2 - (intOf vj).toNat)
        case atStart => exact ⟨0, by omega, Nat.zero_le _, rfl, by simpa using hc0, Only.refl _ _⟩
        case round =>
          obtain ⟨wp, rfl⟩ : ∃ wp : World, wp = wr := ⟨_, rfl⟩
          clear hc0
          obtain ⟨j, hj2, hjm, rfl, hC, hov⟩ := hrel
          have hop := hoA.kin hov (by simpa using hsz)
          have cV := (hop.cell (p := ⟨sb, so + i, none⟩) (cell_lt hcV) (by simp)).trans hcV
          by_cases hjl : j < c ∧ j < 2
          · obtain ⟨hjm2, hj22⟩ := hjl
            obtain ⟨xb, xo, rfl, cx⟩ := HVC.out j hjm2
            have cx2 := (hop.cell (p := ⟨xb, xo + j, none⟩) (cell_lt cx) (by simp)).trans cx
            have hj01 : j = 0 ∨ j = 1 := by omega
            have hs2 := hov.setCell (p := ⟨wo.heap.size, j, none⟩) (fun _ => by simp) (.int .i64 (nth li j))
            have hC2 : Cells (wp.setCell ⟨wo.heap.size, j, none⟩ (.int .i64 (nth li j))) wo.heap.size [.int .i64 (if 0 < j + 1 then nth li 0 else 0), .int .i64 (if 1 < j + 1 then nth li 1 else 0)] := by
              have := hC.set j (.int .i64 (nth li j))
              rcases hj01 with rfl | rfl <;> simpa using this
            have hcj : ∃ u, wp.cell? ⟨wo.heap.size, j, none⟩ = some u ∧ wp.frozen? ⟨wo.heap.size, j, none⟩ = false := by
              rcases hj01 with rfl | rfl
              · exact ⟨_, hC.cell 0 _ rfl, hC.free 0 _ rfl⟩
              · exact ⟨_, hC.cell 1 _ rfl, hC.free 1 _ rfl⟩
            obtain ⟨u, c0, f0⟩ := hcj
            have HC2 := Lib.hid (And.intro hC2 hs2)
            generalize nth li j = x at *
            clear cx hcV hop hC hC2 hs2 hov hj01
            go_wp2
            go_roundw
            case rel => exact ⟨j + 1, by omega, by omega, by go_num, HC2.out.1, HC2.out.2⟩
            case measure => (simp [intOf]; try omega)
          · have hxy : Cells wp wo.heap.size [.int .i64 (nth li 0), .int .i64 (nth li 1)] := by
              have e0 : (if 0 < j then nth li 0 else 0) = nth li 0 := by
                by_cases h : 0 < j
                · rw [if_pos h]
                · rw [if_neg h]
                  unfold nth
                  rw [List.getElem?_eq_none (by rw [HM.out]; omega)]; rfl
              have e1 : (if 1 < j then nth li 1 else 0) = nth li 1 := by
                by_cases h : 1 < j
                · rw [if_pos h]
                · rw [if_neg h]
                  unfold nth
                  rw [List.getElem?_eq_none (by rw [HM.out]; omega)]; rfl
              rw [e0, e1] at hC
              exact hC
            obtain ⟨x, hx⟩ : ∃ x, nth li 0 = x := ⟨_, rfl⟩
            obtain ⟨y, hy⟩ : ∃ y, nth li 1 = y := ⟨_, rfl⟩
            rw [hx, hy] at hxy
            have HGP := Lib.hid (HGH.out.moved hov)
            have c0 := hxy.cell 0 _ rfl
            have c1 := hxy.cell 1 _ rfl
            have hout : c ≤ j ∨ (j < c ∧ 2 ≤ j) := by omega
            clear hC hov hoA hx hy hvb hjl hxy hop HGH HVC HM hcV
            by_cases hbad : x < 0 ∨ (m : Int) ≤ x ∨ y < 0
            · have hno := gang_step_no HGP.out.gang x y hbad
              clear hbad
              rcases hout with hout | ⟨hout, hout2⟩
              all_goals
                go_wp2_with fail
                refine hno.mono ?_
                rintro e w6 ⟨rfl, rfl⟩
                go_wp2
                go_roundw
                case rel => exact ⟨i + 1, s, t, AL, F, by omega, by omega, by go_num, HGP.out.next⟩
                case measure => (simp [intOf]; try omega)
            · obtain ⟨k, rfl⟩ := Int.eq_ofNat_of_zero_le (show 0 ≤ x by omega)
              obtain ⟨pk, rfl⟩ := Int.eq_ofNat_of_zero_le (show 0 ≤ y by omega)
              have hk : k < m := by omega
              have hstep := gang_step HGP.out.gang HGP.out.inv hk pk
              clear hbad
              rcases hout with hout | ⟨hout, hout2⟩
              all_goals
                go_wp2_with fail
                refine hstep.mono ?_
                rintro e w6 ⟨vl, F6, rfl, hD6, hR6, _⟩
                obtain ⟨t6, hS6⟩ := HGP.out.step HOK.out (by omega) (by omega) hk pk hR6
                have hsay := step_says HGP.out.inv pk hk
                obtain ⟨Z, hZ⟩ : ∃ Z, gStep l0 r m s k pk = Z := ⟨_, rfl⟩
                rw [hZ] at hD6 hS6 hsay
                obtain ⟨s6, ds⟩ := Z
                simp only at hD6 hS6 hsay
                have hfew := hS6.few
                have hsz6 : w.heap.size ≤ w6.heap.size := hS6.only.size
                obtain ⟨la, lc, rfl, _⟩ := hD6.at.opt
                obtain ⟨b, hb⟩ : ∃ b, AL.length = b := ⟨_, rfl⟩
                obtain ⟨d, hd⟩ : ∃ d, ds.length = d := ⟨_, rfl⟩
                have hA6 : A < w6.heap.size := hS6.a1.2
                have hown6 : ∀ x ∈ own (.slice la ds.length lc), x ≠ A ∧ x ∉ own u17 := fun x hx => by
                  have h1 := (Row.far hD6 x hx).1
                  refine ⟨fun e => ?_, fun h => ?_⟩
                  · have := HGP.out.a1.2; omega
                  · have := (Row.far HGP.out.deeds x h).2; omega
                have HS6 := Lib.hid hS6
                have HSAY := Lib.hid hsay
                have HB := Lib.hid hb
                have HDD := Lib.hid hd
                have HD6 := Lib.hid hD6
                have HOW6 := Lib.hid hown6
                have hDl : w6.ownsRow w.heap.size 36 4 u17 AL.length (flatE AL) := hS6.deeds
                have hDr : RowAt w6 (.slice la ds.length lc) ds.length 4 (flatE ds) := hD6.at
                rw [hd] at HD6 HOW6 hDr ⊢
                rw [hb, hd] at hfew
                rw [hb] at hDl
                have HDL := Lib.hid hDl
                have HDR := Lib.hid hDr
                clear hS6 hsay hstep hR6 hZ hown6 hb hd hD6 hDl hDr
                go_wp2_with (at_builtin; refine wpList_append_rows sliceOf_deeds rfl (.tmp 147) (.tmp 148) rfl w6 w.heap.size _ b _ _ d _ HDL.out HDR.out (by omega) hsz6 rfl rfl (Only.refl _ _) ?_; intro v7 w7 hI7 hO7 hK7)
                obtain ⟨hG7, hB7, hfar7, haa7, hA7, hO7w⟩ := HS6.out.laid hO7 hK7
                have hI7' : OwnDeeds w7 w.heap.size v7 (AL ++ ds) := by
                  unfold OwnDeeds
                  have e : flatE (AL ++ ds) = flatE AL ++ flatE ds := by simp [flatE]
                  rw [List.length_append, HB.out, HDD.out, e]
                  exact hI7
                have HI7 := Lib.hid hI7'
                have HD7 := Lib.hid (Row.only HD6.out hO7 (fun x hx h => (HOW6.out x hx).2 h) : OwnDeeds w7 wp.heap.size (.slice la d lc) ds)
                have HG7 := Lib.hid hG7
                have HB7 := Lib.hid hB7
                have HFAR7 := Lib.hid hfar7
                have HAA7 := Lib.hid haa7
                have HA7 := Lib.hid hA7
                have HO7W := Lib.hid hO7w
                have hd4 : d ≤ 1000 := by omega
                clear hI7 hI7' hO7 hK7 hG7 hB7 hfar7 haa7 hA7 hO7w c0 c1 cV HDL HDR HD6
                go_wp2_with fail
                go_loopw [24] (fun vk wr => ∃ e : Nat, e ≤ d ∧ vk = .int .i64 e ∧ Bools wr A n (dUp s.done (ds.take e)) ∧ Only [A] w7 wr) (fun vk _ => d - (intOf vk).toNat)
                case atStart => exact ⟨0, Nat.zero_le _, rfl, HB7.out, Only.refl _ _⟩
                case round =>
                  obtain ⟨wq, rfl⟩ : ∃ wq : World, wq = wr := ⟨_, rfl⟩
                  obtain ⟨e, he, rfl, hBe, hoe⟩ := hrel
                  by_cases hed : e < d
                  · have hDe : OwnDeeds wq wp.heap.size (.slice la d lc) ds := Row.only HD7.out hoe (fun x hx h => (HOW6.out x hx).1 (by simpa using h))
                    obtain ⟨la', lc', e1, hc⟩ := hDe.at.opt
                    injection e1 with ea eb ec
                    obtain ⟨g, off, hg, z0, _, z2, _⟩ := hc e (by rw [HDD.out]; exact hed)
                    rw [← ea] at hg
                    subst hg
                    clear eb ec ea
                    have htk := take_dd ds e (by rw [HDD.out]; exact hed)
                    have hsay := HSAY.out.2 _ (ddAt_mem (show e < ds.length by rw [HDD.out]; exact hed))
                    have hup := dUp_push s.done (ds.take e) (ddAt ds e)
                    rw [← htk] at hup
                    generalize ddAt ds e = D1 at *
                    obtain ⟨dw, dh, dt, dx⟩ := D1
                    simp only at z0 z2 hsay hup
                    have hoW := Lib.hid hoe
                    by_cases h4 : dw = 4
                    · obtain ⟨h1, h2⟩ := hsay h4
                      obtain ⟨T, rfl⟩ := Int.eq_ofNat_of_zero_le h1
                      rw [HN.out] at h2
                      have hTn : T < n := by omega
                      rw [if_pos h4, Int.toNat_natCast] at hup
                      subst h4
                      obtain ⟨cb, fb⟩ := hBe T hTn
                      have hBs := hBe.set T true
                      have hset : Hid (Only [A] w7 (wq.setCell ⟨A, T, none⟩ (.bool true))) := hoe.setCell (by simp) _
                      have HBS : Hid (Bools (wq.setCell ⟨A, T, none⟩ (.bool true)) A n (dUp s.done (ds.take (e + 1)))) := by
                        show Bools _ _ _ _
                        rw [hup]; exact hBs
                      clear hsay hup htk hBs hBe hoe hDe hc h1 h2 hfew
                      go_wp2
                      go_roundw
                      case rel => exact ⟨e + 1, by omega, by go_num, HBS.out, hset.out⟩
                      case measure => (simp [intOf]; try omega)
                    · rw [if_neg h4] at hup
                      have h4' : (dw == 4) = false := by simpa using h4
                      have HBS : Hid (Bools wq A n (dUp s.done (ds.take (e + 1)))) := by
                        show Bools _ _ _ _
                        rw [hup]; exact hBe
                      clear hsay hup htk hBe hoe hDe hc h4 hfew
                      go_wp2
                      go_roundw
                      case rel => exact ⟨e + 1, by omega, by go_num, HBS.out, hoW.out⟩
                      case measure => (simp [intOf]; try omega)
                  · obtain rfl : e = d := by omega
                    have htk : ds.take e = ds := List.take_of_length_le (by rw [HDD.out]; exact Nat.le_refl _)
                    rw [htk, HSAY.out.1] at hBe
                    have hGH := HS6.out.over HI7.out HG7.out HFAR7.out HAA7.out HA7.out HO7W.out hoe hBe
                    have HGN := Lib.hid hGH
                    have hheld := gang_Held hGH.gang hGH.inv
                    clear htk hBe hoe hGH hed hfew
                    go_wp2_with fail
                    refine hheld.mono ?_
                    rintro e w8 ⟨v8, rfl, hI8, ho8⟩
                    have HG8 := Lib.hid (HGN.out.move ho8 (by simp))
                    have hrd := ref_Ready _ l0 A n s6.done w8 (HPW.out w8 HG8.out.only) (needsOk HOK.out.len HOK.out.fault) HG8.out.bools HN.out
                    have HI8 := Lib.hid hI8
                    clear hheld hI8 ho8
                    go_wp2_with fail
                    refine hrd.mono ?_
                    rintro e w9 ⟨v9, rfl, hI9, ho9⟩
                    have hrl : (natL (readyL l0 s6.done)).length ≤ 1000000 := by
                      have := List.length_filter_le (readyB l0 s6.done) (List.range l0.length)
                      have h9 := HN.out
                      rw [natL_len]
                      simp only [List.length_range] at this
                      unfold readyL
                      omega
                    have hsm := same_ints v8 v9 (natL (readyL l0 s6.done)) w9 (HI8.out.reads.same ho9) hI9.reads hrl
                    have HG9 := Lib.hid (HG8.out.move ho9 (by simp))
                    clear hrd hI9 ho9 hrl
                    go_wp2_with fail
                    refine hsm.mono ?_
                    rintro e wa ⟨rfl, dn, rfl⟩
                    have HGA := Lib.hid (HG9.out.move ((Only.refl [] w9).drewN dn) (by simp))
                    clear hsm
                    go_wp2
                    go_roundw
                    case rel => exact ⟨i + 1, s6, t6, AL ++ ds, F6, by omega, by omega, by go_num, HGA.out⟩
                    case measure => (simp [intOf]; try omega)
      · have hout : l3.length ≤ i ∨ (i < l3.length ∧ 200 ≤ i) := by omega
        obtain ⟨t1, t2, t3⟩ := hGH.told hi2
        obtain ⟨ua, uc, rfl, _⟩ := Row.form hGH.deeds
        have hck := trace_Check_run _ _ l0 m AL wo (HPW.out wo hGH.only) hGH.deeds.at (hErr_ok HOK.out (by omega) (by omega)) t2
        rw [t3, errV_zero] at hck
        have hwb := workK_bd HOK.out l0.length (Nat.le_refl _)
        have HWK := Lib.hid (fun (W : World) (ho : Only [] w W) => depth_Work _ l0 W (HPW.out W ho) HOK.out)
        obtain ⟨b, hb⟩ : ∃ b, AL.length = b := ⟨_, rfl⟩
        rw [hb] at hck t1 ⊢
        obtain ⟨W0, hW0⟩ : ∃ W0 : Nat, workF l0 = (W0 : Int) := ⟨(workF l0).toNat, by unfold workF; omega⟩
        have hw6 : W0 + n ≤ 630 := by
          have h1 : sumI (wkOf l0) l0.length = (W0 : Int) := hW0
          omega
        have HW0 := Lib.hid hW0
        rw [hW0] at HWK
        have HB := Lib.hid hb
        clear hGH hlt t2 t3 hwb hb hW0 hi hi2
        rcases hout with hout | ⟨hout, hout2⟩
        all_goals
          go_wp2_with fail
          refine hck.mono ?_
          rintro e w6 ⟨rfl, ho6⟩
          have HG6 := Lib.hid (HGH.out.move ho6 (by simp))
          have hwk := HWK.out w6 HG6.out.only
          clear hck ho6 hout
          go_wp2_with fail
          refine hwk.mono ?_
          rintro e w7 ⟨rfl, ho7⟩
          have HG7 := Lib.hid (HG6.out.move ho7 (by simp))
          clear hwk ho7
          go_wp2_with fail
          go_loopw [30] (fun vr wr => ∃ (rr : Nat) (s : GSt) (F : Nat → Prop), rr ≤ W0 + n ∧ vr = .int .i64 rr ∧ GangIs wr q l0 r m s F ∧ GInv l0 r m s ∧ Watch m s ∧ Late l0 m rr s ∧ (∀ x, F x → w.heap.size ≤ x) ∧ Only [] w wr) (fun vr _ => W0 + n - (intOf vr).toNat)
          case atStart => exact ⟨0, s, F, Nat.zero_le _, rfl, HG7.out.gang, HG7.out.inv, HG7.out.watch, late_start HOK.out HG7.out.inv, fun x hx => (HG7.out.far x hx).1, HG7.out.only⟩
          case round =>
            clear HG6 HG7 HGH
            obtain ⟨wq, rfl⟩ : ∃ wq : World, wq = wr := ⟨_, rfl⟩
            obtain ⟨rr, S, FS, hrr, rfl, hG, hI, hWa, hLa, hFS, hoq⟩ := hrel
            have HG := Lib.hid hG
            have HI := Lib.hid hI
            have HWA := Lib.hid hWa
            have HLA := Lib.hid hLa
            have HFS := Lib.hid hFS
            have HOQ := Lib.hid hoq
            by_cases hrl : rr < W0 + n
            · clear hG hI hWa hLa hFS hoq
              have hd7 : decide ((rr : Int) < 700) = true := decide_eq_true (by omega)
              go_wp2_with fail
              go_loopw [31] (fun vh wr => ∃ (h : Nat) (F : Nat → Prop), h ≤ m ∧ vh = .int .i64 h ∧ GangIs wr q l0 r m (roundN l0 r m rr S h) F ∧ (∀ x, F x → w.heap.size ≤ x) ∧ Only [] w wr) (fun vh _ => m - (intOf vh).toNat)
              case atStart => exact ⟨0, FS, Nat.zero_le _, rfl, HG.out, HFS.out, HOQ.out⟩
              case round =>
                obtain ⟨wz, rfl⟩ : ∃ wz : World, wz = wr := ⟨_, rfl⟩
                obtain ⟨h, FH, hh, rfl, hGh, hFH, hoz⟩ := hrel
                by_cases hhm : h < m
                · have hk := round_keeps HOK.out (by omega) HI.out HWA.out rr h hh
                  have hst := gang_step hGh hk.1 hhm rr
                  have HFH := Lib.hid hFH
                  have HOZ := Lib.hid hoz
                  clear hGh hFH hoz hk
                  go_wp2_with fail
                  refine hst.mono ?_
                  rintro e w8 ⟨vl, F8, rfl, hD8, hR8, _⟩
                  obtain ⟨la, lc, rfl, _⟩ := Row.form hD8
                  have hF8 : Hid (∀ x, F8 x → w.heap.size ≤ x) := fun x hx => by
                    rcases hR8.kin x hx with h9 | h9
                    · exact HFH.out x h9
                    · have := HOZ.out.size; omega
                  have hO8 : Hid (Only [] w w8) := by
                    obtain ⟨T, hT, hoT⟩ := hR8.only
                    exact HOZ.out.trans hoT (fun x hx hl => by have := HFH.out x (hT x hx); omega)
                  have HR8 := Lib.hid hR8.gang
                  clear hst hD8 hR8
                  go_wp2
                  go_roundw
                  case rel => exact ⟨h + 1, F8, by omega, by go_num, HR8.out, hF8.out, hO8.out⟩
                  case measure => (simp [intOf]; try omega)
                · obtain rfl : h = m := by omega
                  have hk := round_keeps HOK.out (by omega) HI.out HWA.out rr h (Nat.le_refl _)
                  have hla := late_round HOK.out (by omega) HI.out HWA.out HLA.out
                  have HGh := Lib.hid hGh
                  have HFH := Lib.hid hFH
                  have HOZ := Lib.hid hoz
                  have HK := Lib.hid hk
                  have HLA2 := Lib.hid hla
                  clear hGh hFH hoz hk hla hhm
                  go_wp2
                  go_roundw
                  case rel => exact ⟨rr + 1, _, FH, by omega, by go_num, HGh.out, HK.out.1, HK.out.2, HLA2.out, HFH.out, HOZ.out⟩
                  case measure => (simp [intOf]; try omega)
            · have hzero : leftN l0 S.done = 0 := late_end HOK.out hI hLa (by have h1 := HW0.out; have h2 := HN.out; omega)
              have hlf := gang_Left hG
              rw [hzero, show ((0 : Nat) : Int) = 0 from rfl] at hlf
              have hhd := gang_Held hG hI
              rw [ready_none hzero] at hhd
              clear hG hI hWa hLa hFS hoq hzero
              go_wp2_with fail
              refine hlf.mono ?_
              rintro e w8 ⟨rfl, rfl⟩
              go_wp2_with fail
              refine hhd.mono ?_
              rintro e w9 ⟨v9, rfl, hI9, ho9⟩
              obtain ⟨a9, c9, rfl, _⟩ := hI9.opt
              have hfin := Lib.hid (HOQ.out.trans ho9 (by simp))
              clear hlf hhd hI9 ho9
              go_wp2
              go_ret
              exact ⟨rfl, hfin.out.below (Nat.le_refl _) (by simp)⟩
  · have hnw := gang_New_no _ l0 a1 a2 w3 (HPW.out w3 HO3.out) hge
    have hfin := HO3.out
    clear bd1 bd2
    go_wp2_with fail
    refine hnw.mono ?_
    rintro e w5 ⟨rfl, ho5⟩
    go_wp2
    go_ret
    exact ⟨rfl, (hfin.trans ho5 (by simp)).below (Nat.le_refl _) (by simp)⟩

end Go.Proofs.Ytocpmncedlenbaa.gangHolds
