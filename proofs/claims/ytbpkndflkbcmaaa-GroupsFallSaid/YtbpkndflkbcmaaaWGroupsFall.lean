/-
  The statement GroupsFall: who falls, falls with all its parts, outright. No condition.
-/
import Derived.Test.YtbpkndflkbcmaaaFrame
import Derived.Test.YtbpkndflkbcmaaaLiveOk
import Derived.Test.YtbpkndflkbcmaaaLit
namespace Go.Proofs.Ytbpkndflkbcmaaa.groupsFall
open Go.ChangeShapes Go.WideShapes Go.ChangeAt Go.RowKit
open Go.ChangeMaps (open_string shut_string)
set_option linter.unusedVariables false

def oneP (i : Nat) : Int := if i = 1 then 0 else -1
def noC (_ : Nat) : Bool := false
theorem tree_one : Tree 3 oneP := fun i hi => by unfold oneP; split <;> omega
theorem lit_groups (W : World) : InGroups (W.alloc (.cells #[.int .i64 (-1), .bool false, .int .i64 0, .bool false, .int .i64 (-1), .bool false] 40)) (.slice (some ⟨W.heap.size, 0, none⟩) 3 3) 3 oneP noC := by
  refine ⟨_, 3, rfl, Nat.le_refl _, by unfold maxLen; omega, (fun h => by cases h), fun i hi => ⟨W.heap.size, 0, rfl, ?_, ?_⟩⟩ <;>
  (have : i = 0 ∨ i = 1 ∨ i = 2 := by omega
   rcases this with rfl | rfl | rfl <;> exact World.cell?_alloc_at _ _ _ _ rfl)

theorem one_gone : goneF oneP (cancel noC 0) 1 = true := rfl

/-- Gone with i and with all its parts. -/
def partF (P : Nat → Int) (i : Nat) (k : Int) : Bool := goneF P (fun j => decide (j = i)) k

theorem partF_neg (P : Nat → Int) (i : Nat) (k : Int) (h0 : -1 ≤ k) (h : k < 0) : partF P i k = false := by
  obtain rfl : k = -1 := by omega
  rfl
theorem partF_at {n : Nat} {P : Nat → Int} (h : Tree n P) (i : Nat) (hi : i < n) : partF P i (i : Int) = true := by
  unfold partF; rw [goneF_step h i hi]; simp
theorem partF_up {n : Nat} {P : Nat → Int} (h : Tree n P) (i k : Nat) (hk : k < n) (hne : k ≠ i) : partF P i (k : Int) = partF P i (P k) := by
  unfold partF; rw [goneF_step h k hk]; simp [hne]

set_option maxHeartbeats 8000000 in
set_option maxRecDepth 100000 in
theorem walk (v0 : Value) (l0 : List (Int × Bool)) (a1 : Int) (v2 : Value) (l2 : PlanL) (v3 : Value) (l3 : List Int) (w : World) (w0 : ArgGroups w v0 l0) (w1 : (Lit.int .i64 a1).wf = true) (w2 : ArgPlan w v2 l2) (w3 : InInts w v3 l3) :
    Calls Try.prog 5 #[v0, .int .i64 a1, v2, v3] w fun e w' => e = .returned (.bool true) ∧ Below w.heap.size w w' := by
  obtain ⟨hg, hgw⟩ := w0
  have bd1 := bounds_i64 w1
  have HG := Lib.hid hg
  have HP := Lib.hid w2
  have HO := Lib.hid w3
  have hlit := lit_groups w
  have hc1 := groups_Cancel_ok _ 3 oneP noC 0 _ hlit (by omega) tree_one (by omega)
  have hol := (Only.refl [] w).alloc (.cells #[.int .i64 (-1), .bool false, .int .i64 0, .bool false, .int .i64 (-1), .bool false] 40)
  obtain ⟨pa, pcap, rfl, _, _, _⟩ := (HP.out.2).task
  obtain ⟨m, hm⟩ : ∃ m, l2.length = m := ⟨_, rfl⟩
  have HL := Lib.hid hm
  rw [hm] at HP ⊢
  clear hm
  clear hg w2 w3 hlit hgw
  go_enter Try.func5, Try.ntmps5
  go_wp2_with fail
  refine hc1.mono ?_
  rintro e w1 ⟨v1, rfl, hO1, ho1⟩
  have hg1 := groups_Gone_ok v1 3 oneP (cancel noC 0) (goneF oneP (cancel noC 0)) 1 w1 hO1.reads (by omega) tree_one (by omega) (by omega) (goneF_neg _ _) (fun k hk => goneF_step tree_one k hk)
  rw [one_gone] at hg1
  obtain ⟨oa, ocap, rfl, _, _, _⟩ := Row.form hO1
  have hoo1 := hol.trans ho1 (by simp)
  clear hc1 hO1 hol ho1
  go_wp2_with fail
  refine hg1.mono ?_
  rintro e w2 ⟨rfl, ho2⟩
  have hoo2 := hoo1.trans ho2 (by simp)
  clear hg1 hoo1 ho2
  obtain ⟨n, hn⟩ : ∃ n, l0.length = n := ⟨_, rfl⟩
  rw [hn] at HG
  clear hn
  generalize (fun i : Nat => (l0[i]?.getD (0, false)).fst) = P at *
  generalize (fun i : Nat => (l0[i]?.getD (0, false)).snd) = C at *
  by_cases he : grErr n P a1 = 0
  · obtain ⟨h12, ht, hi0, hin⟩ := grErr_zero he
    obtain ⟨i, rfl⟩ := Int.eq_ofNat_of_zero_le hi0
    have hi : i < n := by omega
    have hc2 := groups_Cancel_ok v0 n P C i w2 (Pairs.same HG.out hoo2) h12 ht hi
    have HT := Lib.hid ht
    obtain ⟨ga, gcap, rfl, _, _, _, hgc⟩ := HG.out
    have HGC := Lib.hid hgc
    clear he ht hi0 hgc
    go_wp2_with fail
    refine hc2.mono ?_
    rintro e w3 ⟨v3', rfl, hO3, ho3⟩
    have hoo3 := hoo2.trans ho3 (by simp)
    have HH := Lib.hid hO3.reads
    obtain ⟨ha, hcap, rfl, _, _, _⟩ := Row.form hO3
    clear hc2 hO3 ho3 hoo2
    go_wp2_with fail
    go_loopw [15] (fun vi wr => ∃ k : Nat, k ≤ n ∧ vi = .int .i64 k ∧ Only [] w3 wr) (fun vi _ => n - (intOf vi).toNat)
    case atStart => exact ⟨0, Nat.zero_le _, rfl, Only.refl _ _⟩
    case round =>
      obtain ⟨wo, rfl⟩ : ∃ wo : World, wo = wr := ⟨_, rfl⟩
      obtain ⟨k, hk, rfl, ho⟩ := hrel
      have hoo := hoo3.trans ho (by simp)
      by_cases hkn : k < n
      · have hq1 := groups_Gone_ok _ n P C (goneF P C) k wo (Pairs.same HG.out hoo) h12 HT.out (by omega) (by omega) (goneF_neg _ _) (fun k hk => goneF_step HT.out k hk)
        have hq2 := Lib.hid (fun w' (h : Only [] wo w') => groups_Gone_ok _ n P (cancel C i) (goneF P (cancel C i)) k w' (Pairs.same HH.out (ho.trans h (by simp))) h12 HT.out (by omega) (by omega) (goneF_neg _ _) (fun k hk => goneF_step HT.out k hk))
        have hcan : Hid (goneF P (cancel C i) (k : Int) = (goneF P C (k : Int) || partF P i (k : Int))) := goneF_cancel HT.out i (k : Int) (by omega) (by omega)
        generalize goneF P (cancel C i) (k : Int) = x2 at *
        generalize goneF P C (k : Int) = x1 at *
        go_wp2_with fail
        refine hq1.mono ?_
        rintro e w4 ⟨rfl, ho4⟩
        clear hq1
        go_wp2_with fail
        refine (hq2.out w4 ho4).mono ?_
        rintro e w5 ⟨rfl, ho5⟩
        clear hq2
        have hoo5 := ho.trans (ho4.trans ho5 (by simp)) (by simp)
        clear ho ho4 ho5
        obtain ⟨pk, hpk⟩ : ∃ pk, partF P i (k : Int) = pk := ⟨_, rfl⟩
        rw [hpk] at hcan
        have HPK := Lib.hid hpk
        clear hpk
        go_wp2_with fail
        go_loopw [20] (fun vq wr => ∃ q : Int, -1 ≤ q ∧ q < n ∧ vq = .int .i64 q ∧ wr = w5 ∧ partF P i q = pk) (fun vq _ => (intOf vq + 1).toNat)
        case atStart => exact ⟨k, by omega, by omega, rfl, rfl, HPK.out⟩
        case round =>
          obtain ⟨q, hq1, hq2, rfl, rfl, hqp⟩ := hrel
          by_cases hneg : q < 0
          · rw [partF_neg P i q hq1 hneg] at hqp
            subst hqp
            have hx := hcan.out
            rw [Bool.or_false] at hx
            subst hx
            have hge : decide (0 ≤ q) = false := by simp; omega
            have hqi : (q == (i : Int)) = false := by simp; omega
            cases x2
            · go_wp2
              go_roundw
              case rel => exact ⟨k + 1, by omega, by go_num, hoo5⟩
              case measure => (simp [intOf]; try omega)
            · go_wp2
              go_roundw
              case rel => exact ⟨k + 1, by omega, by go_num, hoo5⟩
              case measure => (simp [intOf]; try omega)
          · obtain ⟨qn, rfl⟩ := Int.eq_ofNat_of_zero_le (show 0 ≤ q by omega)
            by_cases hqi : qn = i
            · subst hqi
              rw [partF_at HT.out _ hi] at hqp
              subst hqp
              have hx := hcan.out
              rw [Bool.or_true] at hx
              subst hx
              cases x1
              · go_wp2
                go_roundw
                case rel => exact ⟨k + 1, by omega, by go_num, hoo5⟩
                case measure => (simp [intOf]; try omega)
              · go_wp2
                go_roundw
                case rel => exact ⟨k + 1, by omega, by go_num, hoo5⟩
                case measure => (simp [intOf]; try omega)
            · have hqn : qn < n := by omega
              obtain ⟨b, off, rfl, c0, _⟩ := HGC.out qn hqn
              have c2 := ((hoo3.trans hoo5 (by simp)).cell (p := ⟨b, off + qn * 2, none⟩) (cell_lt c0) (by simp)).trans c0
              have hup := partF_up HT.out i qn hqn hqi
              rw [hup] at hqp
              have htr := HT.out qn hqn
              have hne : ((qn : Int) == (i : Int)) = false := by simp; omega
              have hlt : decide ((qn : Int) < (n : Int)) = true := by simp; omega
              generalize P qn = pq at *
              clear c0 hup
              go_wp2
              go_roundw
              case rel => exact ⟨pq, by omega, by omega, rfl, trivial, hqp⟩
              case measure => (simp [intOf]; try omega)
      · have hdone : decide ((k : Int) < (n : Int)) = false := by simp; omega
        by_cases heL : lErr l2 n P l3 = 0
        · have hl1 := Lib.hid (groups_Live _ _ v3 l2 n P C l3 wo (HP.out.2.same hoo) (Pairs.same HG.out hoo) (HO.out.reads.same hoo) heL)
          have hl2 := Lib.hid (fun w' (h : Only [] wo w') => groups_Live _ _ v3 l2 n P (cancel C i) l3 w' (HP.out.2.same (hoo.trans h (by simp))) (Pairs.same HH.out (ho.trans h (by simp))) (HO.out.reads.same (hoo.trans h (by simp))) heL)
          obtain ⟨hok, _, _, hlen, hany⟩ := lErr_zero heL
          have HOK := Lib.hid hok
          have hofr : ∀ x, x < l2.length → 0 ≤ nth l3 x ∧ nth l3 x < n := by
            intro x hx
            by_cases e : outOf n (nth l3 x) = true
            · have h1 : ¬ (l3.any (outOf n) = true) := by simp [hany]
              rw [List.any_eq_true] at h1
              exact absurd ⟨nth l3 x, by simp [nth, show x < l3.length by rw [hlen]; exact hx], e⟩ h1
            · simp [outOf] at e; omega
          have hmono : Hid (∀ x, x < l2.length → liveF l2 (fun x => !goneF P (cancel C i) (nth l3 x)) x = true → liveF l2 (fun x => !goneF P C (nth l3 x)) x = true) := by
            show ∀ x, _
            intro x hx hl
            refine liveF_mono hok _ _ (fun y hy hyl => ?_) x hx hl
            have hcan := goneF_cancel (C := C) HT.out i (nth l3 y) (hofr y hy).2 (by have := (hofr y hy).1; omega)
            have e1 : goneF P (cancel C i) (nth l3 y) = false := by simpa using hyl
            have e2 : goneF P (cancel C i) (nth l3 y) = (goneF P C (nth l3 y) || partF P i (nth l3 y)) := hcan
            rw [e1] at e2
            cases hx : goneF P C (nth l3 y) with
            | false => rfl
            | true => rw [hx] at e2; cases e2
          have hneed : Hid (∀ x, x < l2.length → ∀ y ∈ ndOf l2 x, liveF l2 (fun x => !goneF P (cancel C i) (nth l3 x)) x = true → liveF l2 (fun x => !goneF P (cancel C i) (nth l3 x)) y.toNat = true) :=
            fun x hx y hy hl => liveF_need hok _ x hx hl y hy
          generalize liveF l2 (fun x => !goneF P (cancel C i) (nth l3 x)) = Y at *
          generalize liveF l2 (fun x => !goneF P C (nth l3 x)) = X at *
          have hm := HL.out
          have h30 : m ≤ 30 := by rw [← hm]; exact hok.len
          rw [hm] at hl1 hl2 hmono hneed
          clear hok hlen hany hofr heL ho hm
          go_wp2_with fail
          refine hl1.out.mono ?_
          rintro e w4 ⟨A, rfl, hB1, _, hA2, ho4⟩
          clear hl1
          go_wp2_with fail
          refine (hl2.out w4 ho4).mono ?_
          rintro e w5 ⟨B, rfl, hB2, _, hB3, ho5⟩
          clear hl2
          have HX := Lib.hid (hB1.only ho5 (by simp))
          have HY := Lib.hid hB2
          have hoo5 := hoo.trans (ho4.trans ho5 (by simp)) (by simp)
          clear hB1 hB2 ho4 ho5 hoo
          go_wp2_with fail
          go_loopw [24] (fun vj wr => ∃ j : Nat, j ≤ m ∧ vj = .int .i64 j ∧ wr = w5) (fun vj _ => m - (intOf vj).toNat)
          case atStart => exact ⟨0, Nat.zero_le _, rfl, rfl⟩
          case round =>
            obtain ⟨j, hj, rfl, rfl⟩ := hrel
            by_cases hjm : j < m
            · obtain ⟨b, off, rfl⟩ := HP.out.2.any j (by rw [HL.out]; exact hjm)
              obtain ⟨ua, uc, _, c1, hrd⟩ := (HP.out.2.same hoo5).at j (by rw [HL.out]; exact hjm)
              have hnl : (ndOf l2 j).length ≤ m := by have := HOK.out.needs j; rw [HL.out] at this; exact this
              have cX := (HX.out j hjm).1
              have cY := (HY.out j hjm).1
              have hjx := Lib.hid (hmono.out j hjm)
              have hjy := Lib.hid (hneed.out j hjm)
              generalize hXj : X j = xj at *
              generalize hYj : Y j = yj at *
              clear hXj hYj
              obtain ⟨ra, rc, er, hrc⟩ := hrd.opt
              injection er with er1 _ er2
              subst er1
              have HMEM := Lib.hid (fun q (hq : q < (ndOf l2 j).length) => (by rw [nth, List.getElem?_eq_getElem hq]; exact List.getElem_mem hq : nth (ndOf l2 j) q ∈ ndOf l2 j))
              have HRC := Lib.hid hrc
              generalize hz : (ndOf l2 j).length = z at *
              clear hrc hrd hz er2
              cases yj
              · go_wp2_with fail
                go_loopw [25] (fun vq wz => ∃ q : Nat, q ≤ z ∧ vq = .int .i64 q ∧ wz = wr) (fun vq _ => z - (intOf vq).toNat)
                case atStart => exact ⟨0, Nat.zero_le _, rfl, rfl⟩
                case round =>
                  obtain ⟨q, hq, rfl, rfl⟩ := hrel
                  by_cases hqz : q < z
                  · obtain ⟨rb, roff, rfl, cq⟩ := HRC.out q hqz
                    have hmem := HMEM.out q hqz
                    have hxr := HOK.out.need j _ hmem
                    rw [HL.out] at hxr
                    generalize nth (ndOf l2 j) q = x at *
                    obtain ⟨xn, rfl⟩ := Int.eq_ofNat_of_zero_le hxr.1
                    have hxm : xn < m := by omega
                    skip
                    clear hxr hmem
                    go_wp2
                    go_roundw
                    case rel => exact ⟨q + 1, by omega, by go_num, by first | rfl | trivial⟩
                    case measure => (simp [intOf]; try omega)
                  · have hd : decide ((q : Int) < (z : Int)) = false := by simp; omega
                    go_wp2
                    go_roundw
                    case rel => exact ⟨j + 1, by omega, by go_num, by first | rfl | trivial⟩
                    case measure => (simp [intOf]; try omega)
              · obtain rfl : xj = true := hjx.out rfl
                go_wp2_with fail
                go_loopw [25] (fun vq wz => ∃ q : Nat, q ≤ z ∧ vq = .int .i64 q ∧ wz = wr) (fun vq _ => z - (intOf vq).toNat)
                case atStart => exact ⟨0, Nat.zero_le _, rfl, rfl⟩
                case round =>
                  obtain ⟨q, hq, rfl, rfl⟩ := hrel
                  by_cases hqz : q < z
                  · obtain ⟨rb, roff, rfl, cq⟩ := HRC.out q hqz
                    have hmem := HMEM.out q hqz
                    have hxr := HOK.out.need j _ hmem
                    rw [HL.out] at hxr
                    generalize nth (ndOf l2 j) q = x at *
                    obtain ⟨xn, rfl⟩ := Int.eq_ofNat_of_zero_le hxr.1
                    have hxm : xn < m := by omega
                    have cYx := (HY.out xn hxm).1
                    have hyx : Y xn = true := hjy.out _ hmem trivial
                    rw [hyx] at cYx
                    clear hxr hmem
                    go_wp2
                    go_roundw
                    case rel => exact ⟨q + 1, by omega, by go_num, by first | rfl | trivial⟩
                    case measure => (simp [intOf]; try omega)
                  · have hd : decide ((q : Int) < (z : Int)) = false := by simp; omega
                    go_wp2
                    go_roundw
                    case rel => exact ⟨j + 1, by omega, by go_num, by first | rfl | trivial⟩
                    case measure => (simp [intOf]; try omega)
            · have hd : decide ((j : Int) < (m : Int)) = false := by simp; omega
              go_wp2
              go_ret
              exact ⟨rfl, hoo5.below (Nat.le_refl _) (by simp)⟩
        · have hl1 := groups_Live_no _ _ v3 l2 n P C l3 wo (HP.out.2.same hoo) (Pairs.same HG.out hoo) (HO.out.reads.same hoo) heL
          have hl2 := Lib.hid (fun w' (h : Only [] wo w') => groups_Live_no _ _ v3 l2 n P (cancel C i) l3 w' (HP.out.2.same (hoo.trans h (by simp))) (Pairs.same HH.out (ho.trans h (by simp))) (HO.out.reads.same (hoo.trans h (by simp))) heL)
          generalize lErr l2 n P l3 = f at *
          clear heL ho
          go_wp2_with fail
          refine hl1.mono ?_
          rintro e w4 ⟨rfl, ho4⟩
          clear hl1
          go_wp2_with fail
          refine (hl2.out w4 ho4).mono ?_
          rintro e w5 ⟨rfl, ho5⟩
          clear hl2
          have hoo5 := hoo.trans (ho4.trans ho5 (by simp)) (by simp)
          go_wp2
          go_region
          all_goals
            go_wp2
            go_ret
            exact ⟨rfl, hoo5.drew.below (Nat.le_refl _) (by simp)⟩
  · have hc2 := groups_Cancel_no v0 n P C a1 w2 (Pairs.same HG.out hoo2) he
    generalize grErr n P a1 = f at *
    clear he HG HP HO
    go_wp2_with fail
    refine hc2.mono ?_
    rintro e w3 ⟨rfl, ho3⟩
    have hoo3 := hoo2.trans ho3 (by simp)
    clear hc2
    go_wp2
    go_ret
    exact ⟨rfl, hoo3.below (Nat.le_refl _) (by simp)⟩

end Go.Proofs.Ytbpkndflkbcmaaa.groupsFall
