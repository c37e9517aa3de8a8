/-
  The statement YardFair: all bits are some job's; none has more than waited; while all wait no two are apart, by weight, by more than a round; and shares are together what there was. No condition.
-/
import Derived.Test.YtcdnnklbbnojpaaFrame
import Derived.Test.YtcdnnklbbnojpaaYardLaws
namespace Go.Proofs.Ytcdnnklbbnojpaa.yardFair
open Go.ChangeShapes Go.WideShapes Go.ChangeAt Go.RowKit
open Go.ChangeMaps (open_string shut_string)
set_option linter.unusedVariables false

theorem fact_law (r : Nat) (h : Served 4 2 (iter 4 (pick2 2 1) 2 r ([], fun _ => 9))) :
    (iter 4 (pick2 2 1) 2 r ([], fun _ => 9)).1 = [0, 0, 1, 0] ∧ (iter 4 (pick2 2 1) 2 r ([], fun _ => 9)).2 0 = 6 := by
  rw [iter_one (s := 2) h (.inl rfl)]
  exact ⟨rfl, rfl⟩

theorem zero_6 (w : World) : (zeroValue 77).run Try.prog w = .ok (.agg #[.int .i64 0, .int .i64 0, .int .i64 0, .int .i64 0, .int .i64 0, .int .i64 0]) w := by kernel_rfl
theorem nums_6 (w : World) (o : List Int) : Nums (w.alloc (.cells #[.int .i64 0, .int .i64 0, .int .i64 0, .int .i64 0, .int .i64 0, .int .i64 0] 77)) w.heap.size 6 (tally o 0) := by
  intro i hi
  refine ⟨?_, World.frozen?_alloc_at _ _ _ _ rfl⟩
  rw [World.cell?_alloc_new]
  rcases i with _|_|_|_|_|_|i <;> first | rfl | omega

theorem nth_in {l : List Int} {i : Nat} (h : i < l.length) : nth l i ∈ l := by simp [nth, h]

theorem near_div (q W c : Nat) (hW : 1 ≤ W) (h1 : q * W ≤ c) (h2 : c ≤ (q + 1) * W) : q ≤ c / W ∧ c / W ≤ q + 1 := by
  refine ⟨(Nat.le_div_iff_mul_le hW).2 h1, ?_⟩
  have := Nat.div_le_div_right (c := W) h2
  rwa [Nat.mul_div_cancel _ hW] at this

set_option maxHeartbeats 8000000 in
set_option maxRecDepth 100000 in
theorem walk (v0 : Value) (l0 : List (Int × Int)) (a1 : Int) (w : World) (w0 : InJobs w v0 l0) (w1 : (Lit.int .i64 a1).wf = true) :
    Calls Try.prog 13 #[v0, .int .i64 a1] w fun e w' => e = .returned (.bool true) ∧ Below w.heap.size w w' := by
  have bd1 := bounds_i64 w1
  have hj1 := two_jobs w 2 1 9 9 (by decide) (by decide) (by decide) (by decide)
  have hla := w0
  clear w1 w0
  go_enter Try.func13, Try.ntmps13
  go_wp2_with fail
  refine (yard_serve _ _ 2 (pick2 2 1) (fun _ => 9) 4 _ hj1 rfl (by omega) ?_ ?_ ?_ (by intro i hi; decide) (by omega)).mono ?_
  · intro i hi
    have hi2 : i = 0 ∨ i = 1 := by omega
    rcases hi2 with rfl | rfl <;> rfl
  · intro j hj
    simp at hj
    rcases hj with rfl | rfl <;> exact ⟨by simp, by simp, by simp, by simp⟩
  · intro i hi
    unfold pick2; split <;> omega
  rintro e wa ⟨r, vo, vl, rfl, hs, hI, hJ, ho⟩
  obtain ⟨f1, f2⟩ := fact_law r hs
  rw [f1] at hI
  obtain ⟨g, scap, rfl, _⟩ := hI.sized 4 rfl (by omega)
  have c0 : wa.cell? ⟨g, 0, none⟩ = some (.int .i64 0) := hI.cell 0 (by simp)
  have c1 : wa.cell? ⟨g, 1, none⟩ = some (.int .i64 0) := hI.cell 1 (by simp)
  have c2 : wa.cell? ⟨g, 2, none⟩ = some (.int .i64 1) := hI.cell 2 (by simp)
  have c3 : wa.cell? ⟨g, 3, none⟩ = some (.int .i64 0) := hI.cell 3 (by simp)
  obtain ⟨la, lcap, rfl, _, _, hlg⟩ := Row.form hJ
  obtain ⟨lg, rfl, _⟩ := hlg (by omega)
  have d0 := (hJ.cells 0 (by omega)).2.1
  rw [f2] at d0
  have d0' : wa.cell? ⟨lg, 1, none⟩ = some (.int .i64 6) := d0
  have hoo := ((Only.refl [] w).alloc (.cells #[.int .i64 2, .int .i64 9, .int .i64 1, .int .i64 9] 74)).trans ho (by simp)
  have hlb := hla.only hoo
  have hsza := hoo.size
  clear hs f1 f2 hI hJ hlg d0 hj1 ho hla
  go_wp2_with fail
  clear c0 c1 c2 c3 d0'
  by_cases hok : l0.length ≤ 6 ∧ (∀ j ∈ l0, jobOk j) ∧ 0 ≤ a1 ∧ a1 ≤ 1000
  · obtain ⟨h6, hok, g1, g2⟩ := hok
    obtain ⟨most, rfl⟩ := Int.eq_ofNat_of_zero_le (show 0 ≤ a1 by omega)
    have hparts := ok_parts hok
    obtain ⟨nn, hnn⟩ : ∃ nn, l0.length = nn := ⟨_, rfl⟩
    refine (yard_serve v0 l0 nn (wtOf l0) (waOf l0) most _ hlb hnn (by omega) (fun i hi => (hparts i (by omega)).1) hok (fun i hi => ⟨(hparts i (by omega)).2.1, (hparts i (by omega)).2.2.1⟩) (fun i hi => (hparts i (by omega)).2.2.2) (by omega)).mono ?_
    rintro e wb ⟨r, vo, vl, rfl, hs, hI, hJ, ho⟩
    have hk := iter_kept (most := most) (W := wtOf l0) (kept_start nn (waOf l0)) r
    have hm := iter_most (most := most) (W := wtOf l0) (n := nn) (p := ([], waOf l0)) r (Nat.zero_le _)
    obtain ⟨q, hq⟩ := iter_near (most := most) (W := wtOf l0) (n := nn) (S0 := waOf l0) r
    generalize iter most (wtOf l0) nn r ([], waOf l0) = p at *
    obtain ⟨o, S⟩ := p
    obtain ⟨hkis, hkall⟩ := hk
    simp only at hkis hkall hm hI hJ hq
    have hcl0 : ∃ a cap, v0 = .slice a nn cap ∧ ∀ i, i < nn → ∃ b off, a = some ⟨b, off, none⟩ ∧ wa.cell? ⟨b, off + i * 2, none⟩ = some (.int .i64 (wtOf l0 i)) ∧ wa.cell? ⟨b, off + i * 2 + 1, none⟩ = some (.int .i64 (waOf l0 i)) := by
      obtain ⟨a, cap, rfl, _, _, _, h3⟩ := hlb.2
      rw [hnn] at h3
      refine ⟨a, cap, by rw [hnn], fun i hi => ?_⟩
      have := h3 i hi
      simp only [(hparts i (by omega)).1] at this
      exact this
    have hwt : ∀ i, i < nn → 1 ≤ wtOf l0 i ∧ wtOf l0 i ≤ 20 ∧ waOf l0 i ≤ 10000 := fun i hi => (hparts i (by omega)).2
    have hWS := fun i (hi : i < nn) => (hparts i (by omega)).1
    obtain ⟨va, vcap, rfl, hcl⟩ := hcl0
    obtain ⟨vla, vlcap, rfl, _, _, hlg⟩ := Row.form hJ
    obtain ⟨oa, ocap, rfl, hoc⟩ := hI.opt
    have hoo2 := hoo.trans ho (by simp)
    have hlb2 := hlb.only ho
    have HOK := Lib.hid hok
    have HNN := Lib.hid hnn
    have HWS := Lib.hid hWS
    obtain ⟨W, hWd⟩ : ∃ W, wtOf l0 = W := ⟨_, rfl⟩
    obtain ⟨S0, hSd⟩ : ∃ S0, waOf l0 = S0 := ⟨_, rfl⟩
    rw [hWd] at hcl hwt hq HWS hJ
    rw [hSd] at hcl hwt hkall HWS
    obtain ⟨M, hMd⟩ : ∃ M, o.length = M := ⟨_, rfl⟩
    have HM := Lib.hid hMd
    rw [hMd] at hm hoc ⊢
    have Hserved : Hid (M = most ∨ ∀ i, i < nn → S i = 0) := by
      show _ ∨ _
      rcases hs with hs | hs
      · exact .inl (by rw [← hMd]; exact hs)
      · exact .inr hs
    have Hkis := Lib.hid hkis
    have Hkall := Lib.hid hkall
    have Hwt := Lib.hid hwt
    have Hq := Lib.hid hq
    have hnn6 : nn ≤ 6 := by omega
    have hlcell : ∀ i, i < nn → ∃ b off, va = some ⟨b, off, none⟩ ∧ wb.cell? ⟨b, off + i * 2, none⟩ = some (.int .i64 (W i)) ∧ wb.cell? ⟨b, off + i * 2 + 1, none⟩ = some (.int .i64 (S0 i)) := by
      intro i hi
      obtain ⟨b, off, e, k0, k1⟩ := hcl i hi
      exact ⟨b, off, e, (ho.cell (p := ⟨b, _, none⟩) (cell_lt k0) (by simp)).trans k0, (ho.cell (p := ⟨b, _, none⟩) (cell_lt k1) (by simp)).trans k1⟩
    have hmcell : ∀ i, i < nn → ∃ g, vla = some ⟨g, 0, none⟩ ∧ wb.cell? ⟨g, i * 2, none⟩ = some (.int .i64 (W i)) ∧ wb.cell? ⟨g, i * 2 + 1, none⟩ = some (.int .i64 (S i)) := by
      intro i hi
      obtain ⟨g, rfl, _⟩ := hlg (by omega)
      have := hJ.cells i hi
      exact ⟨g, rfl, this.1, this.2.1⟩
    have HLC := Lib.hid hlcell
    have HMC := Lib.hid hmcell
    have hz := zero_6
    have hN0 := Lib.hid (nums_6 wb o)
    have hal := Lib.hid ((Only.refl [] wb).alloc (.cells #[.int .i64 0, .int .i64 0, .int .i64 0, .int .i64 0, .int .i64 0, .int .i64 0] 77))
    clear hs hI hJ hlg hcl hlb ho hoo hok hnn hWS hWd hSd hMd hkis hkall hwt hq hlcell hmcell hparts h6
    have hd1 : decide (most < M) = false := by simp; omega
    have hd2 : decide ((6 : Int) < (nn : Int)) = false := by simp; omega
    go_wp2_with fail
    go_loopw [12] (fun vi wr => ∃ i : Nat, i ≤ M ∧ vi = .int .i64 i ∧ Nums wr wb.heap.size 6 (tally o i) ∧ Only [] wb wr ∧ wb.heap.size < wr.heap.size) (fun vi _ => M - (intOf vi).toNat)
    case atStart => exact ⟨0, Nat.zero_le _, rfl, hN0.out, hal.out, by simp⟩
    case round =>
      obtain ⟨i, hi, rfl, hN, hor, hA⟩ := hrel
      clear hal hN0 hz
      by_cases hlt : i < M
      · obtain ⟨j, hjn, hje⟩ := Hkis.out (nth o i) (nth_in (by rw [HM.out]; exact hlt))
        obtain ⟨g, rfl, hc0⟩ := hoc i hlt
        have hc : wr.cell? ⟨g, i, none⟩ = some (.int .i64 (j : Int)) := by
          rw [hor.cell (p := ⟨g, i, none⟩) (cell_lt hc0) (by simp), hc0, hje]
        obtain ⟨hb, hf⟩ := hN j (by omega)
        have hst := tally_step o i j (by rw [HM.out]; exact hlt) hje
        have htl := tally_le o i j
        have hset := hN.set j (tally o i j + 1) (by omega)
        rw [hst] at hset
        obtain ⟨c, hce⟩ : ∃ c, tally o i j = c := ⟨_, rfl⟩
        rw [hce] at hb htl hset
        have hset2 : Hid (Nums (wr.setCell ⟨wb.heap.size, j, none⟩ (.int .i64 ((c : Int) + 1))) wb.heap.size 6 (tally o (i + 1))) := hset
        have hos := Lib.hid (hor.setCell (p := ⟨wb.heap.size, j, none⟩) (fun hlt => by simp at hlt) (.int .i64 ((c : Int) + 1)))
        have hj6 : j < 6 := by omega
        clear hoc hc0 hje hst hset hce hN hor
        go_wp2
        go_roundw
        case rel => exact ⟨i + 1, by omega, by go_num, hset2.out, hos.out, by simp; omega⟩
        case measure => (simp [intOf]; try omega)
      · obtain rfl : i = M := by omega
        obtain ⟨C, hCd⟩ : ∃ C : Nat → Nat, C = fun (j : Nat) => o.count (j : Int) := ⟨_, rfl⟩
        have hN2 : Nums wr wb.heap.size 6 C := hN.congr (fun j _ => by rw [hCd]; exact tally_all o i j (by rw [HM.out]; exact Nat.le_refl _))
        have Hkall2 : Hid (∀ j, j < nn → C j + S j = S0 j) := by
          rw [hCd]; exact Hkall.out
        have Hq2 : Hid (∀ j, j < nn → 0 < S j → q * W j ≤ C j ∧ C j ≤ (q + 1) * W j) := by
          rw [hCd]; exact Hq.out
        have HN2 := Lib.hid hN2
        have hoo3 := hoo2.trans hor (by simp)
        have hlb3 := hlb2.only hor
        clear hN hCd Hkall Hq hN2 hoc hlb2 hoo2
        have Hc2 : Hid (∀ j, j < nn → wr.cell? ⟨wb.heap.size, j, none⟩ = some (.int .i64 (C j))) := fun j hj => (HN2.out j (by omega)).1
        have HL2 : Hid (∀ i, i < nn → ∃ b off, va = some ⟨b, off, none⟩ ∧ wr.cell? ⟨b, off + i * 2, none⟩ = some (.int .i64 (W i)) ∧ wr.cell? ⟨b, off + i * 2 + 1, none⟩ = some (.int .i64 (S0 i))) := by
          intro i hi
          obtain ⟨b, off, e, k0, k1⟩ := HLC.out i hi
          exact ⟨b, off, e, (hor.cell (p := ⟨b, _, none⟩) (cell_lt k0) (by simp)).trans k0, (hor.cell (p := ⟨b, _, none⟩) (cell_lt k1) (by simp)).trans k1⟩
        have HM2 : Hid (∀ i, i < nn → ∃ g, vla = some ⟨g, 0, none⟩ ∧ wr.cell? ⟨g, i * 2, none⟩ = some (.int .i64 (W i)) ∧ wr.cell? ⟨g, i * 2 + 1, none⟩ = some (.int .i64 (S i))) := by
          intro i hi
          obtain ⟨g, e, k0, k1⟩ := HMC.out i hi
          exact ⟨g, e, (hor.cell (p := ⟨g, _, none⟩) (cell_lt k0) (by simp)).trans k0, (hor.cell (p := ⟨g, _, none⟩) (cell_lt k1) (by simp)).trans k1⟩
        clear HLC HMC hor HN2
        go_wp2_with fail
        go_loopw [13, 14, 15] (fun vw va vi wq => ∃ i : Nat, i ≤ nn ∧ vi = .int .i64 i ∧ vw = .int .i64 (sumTo S i) ∧ va = .bool (allPos S i) ∧ ∃ m, wq = wr.drewN m) (fun _ _ vi _ => nn - (intOf vi).toNat)
        case atStart => exact ⟨0, Nat.zero_le _, rfl, rfl, rfl, 0, rfl⟩
        case round =>
          obtain ⟨j, hj, rfl, rfl, rfl, m, rfl⟩ := hrel
          by_cases hjn : j < nn
          · obtain ⟨b, off, rfl, k0, k1⟩ := HL2.out j hjn
            obtain ⟨g, rfl, k2, k3⟩ := HM2.out j hjn
            have k4 := Hc2.out j hjn
            have hwj := Hwt.out j hjn
            have hall := Hkall2.out j hjn
            have hst : Hid (sumTo S (j + 1) = sumTo S j + S j) := rfl
            have hsa : Hid (allPos S (j + 1) = (allPos S j && decide (0 < S j))) := rfl
            have hsl : sumTo S j ≤ j * 10000 := sumTo_le (fun i hi => by have := Hkall2.out i (by omega); have := Hwt.out i (by omega); omega)
            have hsl2 : j * 10000 ≤ 6 * 10000 := Nat.mul_le_mul_right _ (by omega)
            rw [← hall] at k1 hwj
            obtain ⟨c, hce⟩ : ∃ c, C j = c := ⟨_, rfl⟩
            obtain ⟨s, hse⟩ : ∃ s, S j = s := ⟨_, rfl⟩
            obtain ⟨z, hze⟩ : ∃ z, sumTo S j = z := ⟨_, rfl⟩
            rw [hce] at k1 k4 hwj
            rw [hse] at k1 k3 hwj hst hsa
            rw [hze] at hst hsl ⊢
            simp only [Int.natCast_add] at k1
            have hj6 : j < 6 := by omega
            have e1 : decide ((c : Int) + (s : Int) < (c : Int)) = false := by simp; omega
            have e2 : ((s : Int) != (c : Int) + (s : Int) - (c : Int)) = false := by rw [bne_eq_false_iff_eq]; omega
            obtain ⟨wt, hwe⟩ : ∃ wt, W j = wt := ⟨_, rfl⟩
            rw [hwe] at k0 k2 hwj
            have hz6 : z ≤ 60000 := by omega
            clear hall hce hse hze hwe hsl hsl2
            cases hb : allPos S j
            · rw [hb] at hsa
              clear hb
              go_wp2_with fail
              go_quiet (fail)
              go_wp2
              go_roundw
              case rel => exact ⟨j + 1, by omega, by go_num, by rw [hst.out]; go_num, by rw [hsa.out]; rfl, _, rfl⟩
              case measure => (simp [intOf]; try omega)
            · rw [hb] at hsa
              clear hb
              go_wp2_with fail
              go_quiet (fail)
              go_wp2
              go_roundw
              case rel => exact ⟨j + 1, by omega, by go_num, by rw [hst.out]; go_num, by rw [hsa.out]; simp, _, rfl⟩
              case measure => (simp [intOf]; try omega)
          · obtain rfl : j = nn := by omega
            obtain ⟨z, hze⟩ : ∃ z, sumTo S j = z := ⟨_, rfl⟩
            have hzz : Hid (i = most ∨ (i < most ∧ z = 0)) := by
              show _ ∨ _
              rcases Hserved.out with h | h
              · exact .inl h
              · by_cases e : i = most
                · exact .inl e
                · exact .inr ⟨by omega, by rw [← hze]; exact sumTo_zero h⟩
            have hz6 : z ≤ 60000 := by
              rw [← hze]
              have : sumTo S j ≤ j * 10000 := sumTo_le (fun i hi => by have := Hkall2.out i (by omega); have := Hwt.out i (by omega); omega)
              have : j * 10000 ≤ 6 * 10000 := Nat.mul_le_mul_right _ (by omega)
              omega
            have Hpos : Hid (allPos S j = true → ∀ i, i < j → 0 < S i) := fun h i hi => allPos_get h i hi
            have Hpos0 : Hid (allPos S j = false → 0 < j) := by
              show _ → _
              intro h
              rcases Nat.eq_zero_or_pos j with e | e
              · subst e; cases h
              · exact e
            obtain ⟨bp, hbp⟩ : ∃ b, allPos S j = b := ⟨_, rfl⟩
            rw [hbp] at Hpos Hpos0 ⊢
            rw [hze]
            have hzz2 : decide (i < most) = false ∨ (decide (i < most) = true ∧ z = 0) := by
              rcases hzz.out with h | ⟨h, h2⟩
              · left; simp; omega
              · right; constructor
                · simpa using h
                · exact h2
            clear hze hbp hzz Hserved
            rcases hzz2 with hd3 | ⟨hd3, rfl⟩
            all_goals
              try rw [show ((0 : Nat) : Int) = 0 from rfl]
              go_wp2_with fail
              cases bp
              · have hj0 := Hpos0.out rfl
                go_loop [16] (fun vi => vi = .int .i64 0) (fun _ => 0)
                case atStart => rfl
                case round =>
                  obtain rfl := hrel
                  have hlb4 := hlb3.only ((Only.refl [] wr).drewN m)
                  have hoo4 := hoo3.drewN m
                  clear hlb3 hoo3
                  by_cases hn0 : j = 0
                  · subst hn0
                    have hl0 : l0 = [] := List.length_eq_zero_iff.1 HNN.out
                    subst hl0
                    go_wp2_with fail
                    refine (yard_shares_none _ _ _ hlb4).mono ?_
                    rintro e we ⟨rfl, hoe⟩
                    go_wp2
                    go_ret
                    exact ⟨rfl, (hoo4.trans hoe (by simp)).below (Nat.le_refl _) (by simp)⟩
                  · have hj1 : 1 ≤ j := by omega
                    clear hn0
                    go_wp2_with fail
                    refine (yard_shares _ l0 j W S0 most _ hlb4 HNN.out (by omega) hnn6 HWS.out HOK.out (fun i hi => ⟨(Hwt.out i hi).1, (Hwt.out i hi).2.1⟩) (by omega)).mono ?_
                    rintro e we ⟨vs, rfl, hIs, hoe⟩
                    have hsum : Hid (sumTo (shareOf most j W) j = most) := share_sum most j W (sumTo_pos (by omega) (fun i hi => (Hwt.out i hi).1))
                    have hmono : Hid (∀ i, i ≤ j → sumTo (shareOf most j W) i ≤ most) := by
                      show ∀ i, i ≤ j → _
                      intro i hi
                      have := sumTo_mono (f := shareOf most j W) hi
                      rwa [hsum.out] at this
                    have hsc : ∀ i, i < j → nth ((List.range j).map fun i => (shareOf most j W i : Int)) i = (shareOf most j W i : Int) := fun i hi => by simp [nth, hi]
                    obtain ⟨f, hf⟩ : ∃ f, shareOf most j W = f := ⟨_, rfl⟩
                    rw [hf] at hsum hmono hsc hIs
                    obtain ⟨sa, scap2, rfl, hcs⟩ := hIs.opt
                    have hcs2 : ∀ i, i < j → ∃ g, sa = some ⟨g, 0, none⟩ ∧ we.cell? ⟨g, i, none⟩ = some (.int .i64 (f i)) := by
                      intro i hi
                      obtain ⟨g, e, hc⟩ := hcs i (by simpa using hi)
                      rw [hsc i hi] at hc
                      exact ⟨g, e, hc⟩
                    simp only [List.length_map, List.length_range]
                    have hoo5 := hoo4.trans hoe (by simp)
                    clear hcs hsc hf hIs hlb4 hoo4 hoe
                    go_wp2_with fail
                    go_loop [21, 22] (fun vs vi => ∃ i : Nat, i ≤ j ∧ vi = .int .i64 i ∧ vs = .int .i64 (sumTo f i)) (fun _ vi => j - (intOf vi).toNat)
                    case atStart => exact ⟨0, Nat.zero_le _, rfl, rfl⟩
                    case round =>
                      obtain ⟨i, hi, rfl, rfl⟩ := hrel
                      by_cases hij : i < j
                      · obtain ⟨g9, rfl, hc⟩ := hcs2 i hij
                        have h1 := hmono.out i hi
                        have h2 := hmono.out (i + 1) hij
                        have hst : Hid (sumTo f (i + 1) = sumTo f i + f i) := rfl
                        rw [hst.out] at h2
                        obtain ⟨z9, hz9⟩ : ∃ z, sumTo f i = z := ⟨_, rfl⟩
                        rw [hz9] at h1 h2 hst ⊢
                        clear hcs2 hz9
                        go_wp2
                        go_round
                        case rel => exact ⟨i + 1, by omega, by go_num, by rw [hst.out]; go_num⟩
                        case measure => (simp [intOf]; try omega)
                      · obtain rfl : i = j := by omega
                        rw [hsum.out]
                        clear hcs2
                        go_wp2
                        go_ret
                        exact ⟨by simp, hoo5.below (Nat.le_refl _) (by simp)⟩
              · have Hp := Lib.hid (Hpos.out rfl)
                clear Hpos Hpos0
                go_loopw [16] (fun vi wq => ∃ i : Nat, i ≤ j ∧ vi = .int .i64 i ∧ ∃ m', wq = wr.drewN m') (fun vi _ => j - (intOf vi).toNat)
                case atStart => exact ⟨0, Nat.zero_le _, rfl, m, rfl⟩
                case round =>
                  obtain ⟨i, hi, rfl, m1, rfl⟩ := hrel
                  by_cases hij : i < j
                  · have hwi := Hwt.out i hij
                    have hni := Hq2.out i hij (Hp.out i hij)
                    have hdi := near_div q (W i) (C i) hwi.1 hni.1 hni.2
                    have hCi : C i ≤ 10000 := by have := Hkall2.out i hij; omega
                    obtain ⟨b, off, rfl, k0, _⟩ := HL2.out i hij
                    have k4 := Hc2.out i hij
                    have hei : (C i : Int) / (W i : Int) = ((C i / W i : Nat) : Int) := by simp
                    have hlei : C i / W i ≤ C i := Nat.div_le_self _ _
                    obtain ⟨ai, hai⟩ : ∃ ai, C i / W i = ai := ⟨_, rfl⟩
                    rw [hai] at hdi hei hlei
                    clear hai
                    go_wp2_with fail
                    go_loopw [17] (fun vk wq => ∃ k : Nat, k ≤ j ∧ vk = .int .i64 k ∧ ∃ m', wq = wr.drewN m') (fun vk _ => j - (intOf vk).toNat)
                    case atStart => exact ⟨0, Nat.zero_le _, rfl, m1, rfl⟩
                    case round =>
                      obtain ⟨k, hk, rfl, m2, rfl⟩ := hrel
                      by_cases hkj : k < j
                      · have hwk := Hwt.out k hkj
                        have hnk := Hq2.out k hkj (Hp.out k hkj)
                        have hdk := near_div q (W k) (C k) hwk.1 hnk.1 hnk.2
                        have hCk : C k ≤ 10000 := by have := Hkall2.out k hkj; omega
                        obtain ⟨b', off', hbb, k0', _⟩ := HL2.out k hkj
                        injection hbb with hbb
                        injection hbb with hb1 hb2
                        subst hb1 hb2
                        have k4' := Hc2.out k hkj
                        have hek : (C k : Int) / (W k : Int) = ((C k / W k : Nat) : Int) := by simp
                        have hlek : C k / W k ≤ C k := Nat.div_le_self _ _
                        obtain ⟨ak, hak⟩ : ∃ ak, C k / W k = ak := ⟨_, rfl⟩
                        rw [hak] at hdk hek hlek
                        have hno : decide ((ak : Int) + 1 < (ai : Int)) = false := by simp; omega
                        clear hak hni hnk
                        go_wp2_with fail
                        go_quiet (fail)
                        go_wp2_with fail
                        go_quiet (fail)
                        go_wp2
                        go_roundw
                        case rel => exact ⟨k + 1, by omega, by go_num, _, rfl⟩
                        case measure => (simp [intOf]; try omega)
                      · obtain rfl : k = j := by omega
                        go_wp2
                        go_roundw
                        case rel => exact ⟨i + 1, by omega, by go_num, _, rfl⟩
                        case measure => (simp [intOf]; try omega)
                  · obtain rfl : j = i := by omega
                    clear Hp
                    have hlb4 := hlb3.only ((Only.refl [] wr).drewN m1)
                    have hoo4 := hoo3.drewN m1
                    clear hlb3 hoo3
                    by_cases hn0 : j = 0
                    · subst hn0
                      have hl0 : l0 = [] := List.length_eq_zero_iff.1 HNN.out
                      subst hl0
                      go_wp2_with fail
                      refine (yard_shares_none _ _ _ hlb4).mono ?_
                      rintro e we ⟨rfl, hoe⟩
                      go_wp2
                      go_ret
                      exact ⟨rfl, (hoo4.trans hoe (by simp)).below (Nat.le_refl _) (by simp)⟩
                    · have hj1 : 1 ≤ j := by omega
                      clear hn0
                      go_wp2_with fail
                      refine (yard_shares _ l0 j W S0 most _ hlb4 HNN.out (by omega) hnn6 HWS.out HOK.out (fun i hi => ⟨(Hwt.out i hi).1, (Hwt.out i hi).2.1⟩) (by omega)).mono ?_
                      rintro e we ⟨vs, rfl, hIs, hoe⟩
                      have hsum : Hid (sumTo (shareOf most j W) j = most) := share_sum most j W (sumTo_pos (by omega) (fun i hi => (Hwt.out i hi).1))
                      have hmono : Hid (∀ i, i ≤ j → sumTo (shareOf most j W) i ≤ most) := by
                        show ∀ i, i ≤ j → _
                        intro i hi
                        have := sumTo_mono (f := shareOf most j W) hi
                        rwa [hsum.out] at this
                      have hsc : ∀ i, i < j → nth ((List.range j).map fun i => (shareOf most j W i : Int)) i = (shareOf most j W i : Int) := fun i hi => by simp [nth, hi]
                      obtain ⟨f, hf⟩ : ∃ f, shareOf most j W = f := ⟨_, rfl⟩
                      rw [hf] at hsum hmono hsc hIs
                      obtain ⟨sa, scap2, rfl, hcs⟩ := hIs.opt
                      have hcs2 : ∀ i, i < j → ∃ g, sa = some ⟨g, 0, none⟩ ∧ we.cell? ⟨g, i, none⟩ = some (.int .i64 (f i)) := by
                        intro i hi
                        obtain ⟨g, e, hc⟩ := hcs i (by simpa using hi)
                        rw [hsc i hi] at hc
                        exact ⟨g, e, hc⟩
                      simp only [List.length_map, List.length_range]
                      have hoo5 := hoo4.trans hoe (by simp)
                      clear hcs hsc hf hIs hlb4 hoo4 hoe
                      go_wp2_with fail
                      go_loop [21, 22] (fun vs vi => ∃ i : Nat, i ≤ j ∧ vi = .int .i64 i ∧ vs = .int .i64 (sumTo f i)) (fun _ vi => j - (intOf vi).toNat)
                      case atStart => exact ⟨0, Nat.zero_le _, rfl, rfl⟩
                      case round =>
                        obtain ⟨i, hi, rfl, rfl⟩ := hrel
                        by_cases hij : i < j
                        · obtain ⟨g9, rfl, hc⟩ := hcs2 i hij
                          have h1 := hmono.out i hi
                          have h2 := hmono.out (i + 1) hij
                          have hst : Hid (sumTo f (i + 1) = sumTo f i + f i) := rfl
                          rw [hst.out] at h2
                          obtain ⟨z9, hz9⟩ : ∃ z, sumTo f i = z := ⟨_, rfl⟩
                          rw [hz9] at h1 h2 hst ⊢
                          clear hcs2 hz9
                          go_wp2
                          go_round
                          case rel => exact ⟨i + 1, by omega, by go_num, by rw [hst.out]; go_num⟩
                          case measure => (simp [intOf]; try omega)
                        · obtain rfl : i = j := by omega
                          rw [hsum.out]
                          clear hcs2
                          go_wp2
                          go_ret
                          exact ⟨by simp, hoo5.below (Nat.le_refl _) (by simp)⟩
  · refine (yard_serve_err v0 l0 a1 _ hlb hok).mono ?_
    rintro e wb ⟨k, rfl, ho⟩
    clear hok
    go_wp2
    go_ret
    exact ⟨rfl, (hoo.trans ho (by simp)).below (Nat.le_refl _) (by simp)⟩

end Go.Proofs.Ytcdnnklbbnojpaa.yardFair
