/-
  The statement JoinEnds: each becomes ready once: whichever of those that are ready are done, one behind the other, all are done at last, each once, and each was ready when it was done. No condition.
-/
import Derived.Test.YtbpkndflkbcmaaaFrame
import Derived.Test.YtbpkndflkbcmaaaJoin2
import Derived.Test.YtbpkndflkbcmaaaJoin3
import Derived.Test.YtbpkndflkbcmaaaChainJ
import Derived.Test.YtbpkndflkbcmaaaJoinE
import Derived.Test.YtbpkndflkbcmaaaLit
namespace Go.Proofs.Ytbpkndflkbcmaaa.joinEnds
open Go.ChangeShapes Go.WideShapes Go.ChangeAt Go.RowKit
open Go.ChangeMaps (open_string shut_string)
set_option linter.unusedVariables false


set_option maxHeartbeats 8000000 in
set_option maxRecDepth 100000 in
theorem walk (v0 : Value) (l0 : PlanL) (v1 : Value) (l1 : List Int) (w : World) (w0 : ArgPlan w v0 l0) (w1 : InInts w v1 l1) :
    Calls Try.prog 6 #[v0, v1] w fun e w' => e = .returned (.bool true) ∧ Below w.heap.size w w' := by
  have HP := Lib.hid w0.2
  have hl1 := w1
  have hb1 := w1.bounds
  clear w0 w1
  have hone := lit_two w
  have hone1 : Only [] w ((w.alloc (.cells #[.int .i64 0] 3)).alloc (.cells #[.int .i64 1, .slice none 0 0, .int .i64 1, .slice (some ⟨w.heap.size, 0, none⟩) 1 1] 49)) := ((Only.refl [] w).alloc _).alloc _
  have hnew := Join.new _ _ _ hone (chain_ok 2 1 (by omega) (by omega) (by omega))
  clear hone
  go_enter Try.func6, Try.ntmps6
  go_wp2_with fail
  refine hnew.mono ?_
  rintro e w1 ⟨J1, S1, FP1, rfl, hJ, hS, hF, ho1⟩
  have hoo := hone1.trans ho1 (by simp)
  have hS2 : ∀ x ∈ S1, w.heap.size ≤ x := fun x hx => by have := (hS x hx).1; have := hone1.size; omega
  change JoinIs w1 S1 FP1 J1 (chainP 2 1) _ at hJ
  rw [← chainD_zero] at hJ
  have hd := Join.done S1 FP1 J1 (chainP 2 1) (chainD 0) 0 w1 hJ (by simp [chainP]) (chain_ready 2 0 (by omega))
  rw [chain_new, chainD_up, if_pos (by omega)] at hd
  clear hnew hone1 ho1 hF hS hJ
  go_wp2_with fail
  refine hd.mono ?_
  rintro e w2 ⟨v2, rfl, hI2, hJ2, ho2⟩
  have hoo2 := hoo.kin ho2 hS2
  have hleft := Join.left S1 FP1 J1 _ _ w2 hJ2
  rw [chain_left2 2 1 (by omega)] at hleft
  obtain ⟨g, cap, rfl, _⟩ := hI2.sized 1 rfl (by omega)
  have c0 : w2.cell? ⟨g, 0, none⟩ = some (.int .i64 1) := hI2.cell 0 (by simp [natL])
  clear hd hoo ho2 hJ2 hI2 hS2
  go_wp2_with fail
  refine hleft.mono ?_
  rintro e w3 ⟨rfl, rfl⟩
  clear hleft
  by_cases hok : planFault l0 = 0
  · have hOK := (planOk_iff l0).2 hok
    have hnew := Join.new v0 l0 w2 (HP.out.same hoo2) hOK
    have HOK := Lib.hid hOK
    clear hok hOK c0
    go_wp2_with fail
    refine hnew.mono ?_
    rintro e w4 ⟨J, S, FP, rfl, hJ, hS, hF, ho4⟩
    have hoo4 := hoo2.trans ho4 (by simp)
    have hsz2 := hoo2.size
    have hsz4 := ho4.size
    have hS2 : ∀ x ∈ S, w.heap.size ≤ x ∧ x < w4.heap.size := fun x hx => by have := hS x hx; omega
    have hF2 : ∀ x, FP x → w.heap.size ≤ x ∧ x < w4.heap.size := fun x hx => by have := hF x hx; omega
    have HS := Lib.hid hS2
    have HF := Lib.hid hF2
    have hsz4' : w.heap.size ≤ w4.heap.size := hoo4.size
    clear hnew hoo2 ho4 hS hF hS2 hF2 hsz2
    obtain ⟨n, hn⟩ : ∃ n, l0.length = n := ⟨_, rfl⟩
    have HL := Lib.hid hn
    have hn30 : n ≤ 30 := by rw [← hn]; exact HOK.out.len
    obtain ⟨pa, pcap, rfl, _, _, _⟩ := (HP.out).task
    have hmk := make_bools n (by omega)
    have hB := made_bools w4 n
    have hal := (Only.refl [] w4).alloc (.cells (madeCells #[.bool false] n) 4)
    have hJ5 := hJ.same hal
    have hoo5 := hoo4.trans hal (by simp)
    have hrd := Join.ready S FP J l0 _ _ hJ5
    rw [hn] at HP
    have hAlt : w4.heap.size < (w4.alloc (.cells (madeCells #[.bool false] n) 4)).heap.size := by simp
    clear hJ hoo4 hal
    obtain ⟨A, hA⟩ : ∃ A, w4.heap.size = A := ⟨_, rfl⟩
    go_wp2_with fail
    refine hrd.mono ?_
    rintro e w5 ⟨v5, rfl, hI5, ho5⟩
    rw [hA] at hB hAlt
    have hJ6 := hJ5.same ho5
    have hB6 := hB.only ho5 (by simp)
    have hoo6 := hoo5.trans ho5 (by simp)
    have hAw : w.heap.size ≤ A := by rw [← hA]; exact hsz4'
    have hSA : ∀ x ∈ S, x ∉ [A] := fun x hx hx2 => by have := (HS.out x hx).2; simp at hx2; omega
    have hFA : ∀ x, FP x → x ∉ [A] := fun x hx hx2 => by have := (HF.out x hx).2; simp at hx2; omega
    have HSA := Lib.hid (And.intro hSA hFA)
    have hfr := start_fresh l0
    have hpr := natL_pair (readyL_pair l0 (fun _ => false))
    have htold := start_told l0
    rw [hn] at hfr htold
    have hq30 : (natL (readyL l0 (fun _ => false))).length ≤ 30 := by
      rw [natL_len]
      have := List.length_filter_le (readyB l0 (fun _ => false)) (List.range l0.length)
      rw [List.length_range] at this
      unfold readyL; omega
    obtain ⟨rl, hrl⟩ : ∃ rl, natL (readyL l0 (fun _ => false)) = rl := ⟨_, rfl⟩
    rw [hrl] at hI5 hfr hpr htold hq30
    obtain ⟨q, hq⟩ : ∃ q, rl.length = q := ⟨_, rfl⟩
    have HQ := Lib.hid hq
    have hA5 : A ∉ own v5 := hI5.far hAlt
    obtain ⟨ra, rc, rfl, hrc⟩ := hI5.opt
    rw [hq] at hrc hq30
    have HRC := Lib.hid hrc
    have HFR := Lib.hid (And.intro hfr (And.intro hpr htold))
    have HI5 := Lib.hid hI5
    clear hrd hJ5 hoo5 ho5 hB hfr hpr htold hrl hrc hI5 hSA hFA hn hA
    go_wp2_with fail
    go_loopw [12] (fun vi wr => ∃ h : Nat, h ≤ q ∧ vi = .int .i64 h ∧ Bools wr A n (mark (fun _ => false) (rl.take h)) ∧ Only [A] w5 wr) (fun vi _ => q - (intOf vi).toNat)
    case atStart => exact ⟨0, Nat.zero_le _, rfl, by simpa [mark_nil] using hB6, Only.refl _ _⟩
    case round =>
      clear hB6
      obtain ⟨wo, rfl⟩ : ∃ wo : World, wo = wr := ⟨_, rfl⟩
      obtain ⟨h, hh, rfl, hB, ho⟩ := hrel
      by_cases hlt : h < q
      · as_aux_lemma =>
          obtain ⟨j, hj, hjn, hjm⟩ := mark_fresh HFR.out.1 HFR.out.2.1 (show h < rl.length by rw [HQ.out]; exact hlt)
          have hst := mark_step (fun _ => false) rl h j (by rw [HQ.out]; exact hlt) hj
          obtain ⟨g3, rfl, ck⟩ := HRC.out h hlt
          rw [hj] at ck
          have ck2 := (ho.cell (p := ⟨g3, h, none⟩) (cell_lt ck) (fun hx => hA5 (by simp at hx; subst hx; simp [own, Value.ownBlock]))).trans ck
          have cb := (hB j hjn).1
          have fb := (hB j hjn).2
          rw [hjm] at cb
          have hset : Only [A] wo (wo.setCell ⟨A, j, none⟩ (.bool true)) := (Only.refl _ _).setCell (by simp) _
          have hB2 := hB.set j true
          rw [hst] at hB2
          have HB2 := Lib.hid hB2
          have ho2 := Lib.hid (ho.trans hset (by simp))
          clear hB hB2 hst hset ho ck hj hjm
          go_wp2
          go_roundw
          case rel => exact ⟨h + 1, by omega, by go_num, HB2.out, ho2.out⟩
          case measure => (simp [intOf]; try omega)
      · obtain rfl : q = h := by omega
        rw [List.take_of_length_le (by rw [HQ.out]; exact Nat.le_refl _)] at hB
        have hB7 := hB.congr HFR.out.2.2
        have hJ7 := hJ6.only ho HSA.out.1 HSA.out.2
        have hoo7 := hoo6.kin ho (by intro x hx; simp at hx; subst hx; exact hAw)
        have hlf := left_none l0
        rw [HL.out] at hlf
        clear hB ho hJ6 hoo6 hh hlt
        go_wp2_with fail
        go_loopw [13] (fun vk wr => ∃ k : Nat, k ≤ n ∧ vk = .int .i64 k ∧ ∃ D, JoinIs wr S FP J l0 D ∧ Closed l0 D ∧ leftN l0 D = n - k ∧ Bools wr A n (tD l0 D) ∧ Only [] w wr) (fun vk _ => n - (intOf vk).toNat)
        case atStart => exact ⟨0, Nat.zero_le _, rfl, _, hJ7, closed_none l0, by rw [hlf]; rfl, hB7, hoo7⟩
        case round =>
          obtain ⟨wp, rfl⟩ : ∃ wp : World, wp = wr := ⟨_, rfl⟩
          clear hJ7 hB7 hoo7 hlf
          obtain ⟨k, hk, rfl, D, hJ, hcl, hlf, hB, ho⟩ := hrel
          have HCL := Lib.hid hcl
          have hrd := Join.ready S FP J l0 D wp hJ
          by_cases hkn : k < n
          · have hle := Join.left S FP J l0 D
            rw [hlf, show ((n - k : Nat) : Int) = (n : Int) - (k : Int) by omega] at hle
            have hpos := ready_ne HOK.out (D := D) (by omega)
            have hmem := fun i (hi : i ∈ readyL l0 D) => ready_of_lack hi
            have HLE := Lib.hid hle
            have HJ := Lib.hid hJ
            have HB := Lib.hid hB
            have HLF := Lib.hid hlf
            clear hle hcl hlf hJ hB
            go_wp2_with fail
            refine hrd.mono ?_
            rintro e w8 ⟨v8, rfl, hI8, ho8⟩
            clear hrd
            have HJ8 := Lib.hid (HJ.out.same ho8)
            have HB8 := Lib.hid (HB.out.only ho8 (by simp))
            have hoo8 := ho.trans ho8 (by simp)
            obtain ⟨rr, hrr⟩ : ∃ rr, readyL l0 D = rr := ⟨_, rfl⟩
            rw [hrr] at hI8 hpos hmem
            have HMEM := Lib.hid hmem
            obtain ⟨z, hz⟩ : ∃ z, rr.length = z := ⟨_, rfl⟩
            have HZ := Lib.hid hz
            rw [hz] at hpos
            have hzn : z ≤ n := by
              rw [← hz, ← hrr]
              have := List.length_filter_le (readyB l0 D) (List.range l0.length)
              rw [HL.out] at this
              simpa [readyL, HL.out] using this
            obtain ⟨g8, c8, rfl, hg8⟩ := hI8.sized z (by rw [natL_len, hz]) hpos
            have hcell8 := Lib.hid (fun a (ha : a < z) => hI8.cell a (by rw [natL_len, HZ.out]; exact ha))
            clear ho ho8 hI8 hrr hz hmem
            go_wp2_with fail
            refine (HLE.out w8 HJ8.out).mono ?_
            rintro e w9 ⟨rfl, rfl⟩
            obtain ⟨a, haz, hat⟩ : ∃ a : Nat, a < z ∧ ((k < l1.length ∧ 0 ≤ nth l1 k ∧ (nth l1 k).tmod (z : Int) = (a : Int)) ∨ ((l1.length ≤ k ∨ nth l1 k < 0) ∧ a = 0)) := by
              by_cases h1 : k < l1.length ∧ 0 ≤ nth l1 k
              · obtain ⟨x, hx⟩ := Int.eq_ofNat_of_zero_le h1.2
                refine ⟨x % z, Nat.mod_lt _ hpos, .inl ⟨h1.1, h1.2, by rw [hx]; rfl⟩⟩
              · exact ⟨0, hpos, .inr ⟨by omega, rfl⟩⟩
            have har : a < rr.length := by rw [HZ.out]; exact haz
            have ca := hcell8.out a haz
            rw [natL_nth rr a har] at ca
            obtain ⟨i, hi⟩ : ∃ i, rr[a] = i := ⟨_, rfl⟩
            rw [hi] at ca
            have hri := HMEM.out i (by rw [← hi]; exact List.getElem_mem har)
            obtain ⟨hin, hri⟩ := hri
            have HIN := Lib.hid hin
            have hst := Join.state S FP J l0 D i _ HJ8.out hin
            obtain ⟨hDi, hLi⟩ := state_ready hri
            rw [show stateOf l0 D i = 1 by unfold stateOf; rw [hDi, hLi]; rfl] at hst
            have hdn := Join.done S FP J l0 D i _ HJ8.out hin hri
            have HRI := Lib.hid (And.intro hri hDi)
            clear hi hri hDi hLi hin har
            obtain ⟨x1, xc, rfl, hxc⟩ := hl1.opt
            have hat3 : (k < l1.length ∧ 0 ≤ nth l1 k ∧ (nth l1 k).tmod (z : Int) = (a : Int)) ∨ (l1.length ≤ k ∧ a = 0) ∨ (k < l1.length ∧ nth l1 k < 0 ∧ a = 0) := by
              rcases hat with h | ⟨h | h, h2⟩
              · exact .inl h
              · exact .inr (.inl ⟨h, h2⟩)
              · by_cases hkl : k < l1.length
                · exact .inr (.inr ⟨hkl, h, h2⟩)
                · exact .inr (.inl ⟨by omega, h2⟩)
            have hzI : (z : Int) ≠ 0 := by omega
            clear hat
            rcases hat3 with ⟨hk1, hk2, hk3⟩ | ⟨hk1, rfl⟩ | ⟨hk1, hk2, rfl⟩
            all_goals
              first
                | (obtain ⟨xb, xo, rfl, cx⟩ := hxc k hk1
                   have cx8 := (hoo8.cell (p := ⟨xb, _, none⟩) (cell_lt cx) (by simp)).trans cx
                   obtain ⟨xk, hxk⟩ : ∃ xk, nth l1 k = xk := ⟨_, rfl⟩
                   rw [hxk] at cx8 hk2
                   have hdk : decide (0 ≤ xk) = decide (0 ≤ nth l1 k) := by rw [hxk]
                   first
                     | rw [hxk] at hk3
                     | (have hdk2 : decide (0 ≤ xk) = false := by simp; omega)
                   clear hdk hxk cx
                   go_wp2_with fail)
                | go_wp2_with fail
            all_goals
              as_aux_lemma =>
                refine hst.mono ?_
                rintro e w10 ⟨rfl, rfl⟩
                clear hst
                go_wp2_with fail
                refine hdn.mono ?_
                rintro e w11 ⟨v11, rfl, hI11, hJ11, ho11⟩
                have HJ11 := Lib.hid hJ11
                have hB11 := HB8.out.only ho11 (fun hx => HSA.out.1 A hx (by simp))
                have hoo11 := hoo8.kin ho11 (fun x hx => (HS.out x hx).1)
                have hA11 : A ∉ own v11 := hI11.far (cell_lt (HB8.out 0 (by omega)).1)
                have hfr := new_fresh HOK.out HRI.out.2
                have hpr := natL_pair (newL_pair l0 D i)
                have htold := new_told HOK.out HRI.out.2
                rw [HL.out] at hfr htold
                have hq30 : (natL (newL l0 D i)).length ≤ 30 := by
                  rw [natL_len]
                  have h1 := List.length_filter_le (fun k => lackN l0 (upB D i) k == 0) (afterOf l0 i)
                  have h2 := afterOf_len l0 i
                  rw [HL.out] at h2
                  unfold newL; omega
                obtain ⟨nl, hnl⟩ : ∃ nl, natL (newL l0 D i) = nl := ⟨_, rfl⟩
                rw [hnl] at hI11 hfr hpr htold hq30
                obtain ⟨y, hy⟩ : ∃ y, nl.length = y := ⟨_, rfl⟩
                have HY := Lib.hid hy
                obtain ⟨ra2, rc2, rfl, hrc2⟩ := hI11.opt
                rw [hy] at hrc2 hq30
                have HRC2 := Lib.hid hrc2
                have HFR2 := Lib.hid (And.intro hfr (And.intro hpr htold))
                clear hdn hI11 ho11 hJ11 hfr hpr htold hnl hrc2
                go_wp2_with fail
                go_loopw [20] (fun vi wr => ∃ h : Nat, h ≤ y ∧ vi = .int .i64 h ∧ Bools wr A n (mark (tD l0 D) (nl.take h)) ∧ Only [A] w11 wr) (fun vi _ => y - (intOf vi).toNat)
                case atStart => exact ⟨0, Nat.zero_le _, rfl, by simpa [mark_nil] using hB11, Only.refl _ _⟩
                case round =>
                  clear hB11
                  obtain ⟨wq, rfl⟩ : ∃ wq : World, wq = wr := ⟨_, rfl⟩
                  obtain ⟨h, hh, rfl, hB, ho⟩ := hrel
                  by_cases hlt : h < y
                  · obtain ⟨j, hj, hjn, hjm⟩ := mark_fresh HFR2.out.1 HFR2.out.2.1 (show h < nl.length by rw [HY.out]; exact hlt)
                    have hst := mark_step (tD l0 D) nl h j (by rw [HY.out]; exact hlt) hj
                    obtain ⟨g3, rfl, ck⟩ := HRC2.out h hlt
                    rw [hj] at ck
                    have ck2 := (ho.cell (p := ⟨g3, h, none⟩) (cell_lt ck) (fun hx => hA11 (by simp at hx; subst hx; simp [own, Value.ownBlock]))).trans ck
                    have cb := (hB j hjn).1
                    have fb := (hB j hjn).2
                    rw [hjm] at cb
                    have hset : Only [A] wq (wq.setCell ⟨A, j, none⟩ (.bool true)) := (Only.refl _ _).setCell (by simp) _
                    have hB2 := hB.set j true
                    rw [hst] at hB2
                    have HB2 := Lib.hid hB2
                    have ho2 := Lib.hid (ho.trans hset (by simp))
                    clear hB hB2 hst hset ho ck hj hjm
                    go_wp2
                    go_roundw
                    case rel => exact ⟨h + 1, by omega, by go_num, HB2.out, ho2.out⟩
                    case measure => (simp [intOf]; try omega)
                  · obtain rfl : y = h := by omega
                    rw [List.take_of_length_le (by rw [HY.out]; exact Nat.le_refl _)] at hB
                    have hB7 := Lib.hid (hB.congr HFR2.out.2.2)
                    have hJ7 := Lib.hid (HJ11.out.only ho HSA.out.1 HSA.out.2)
                    have hoo12 := Lib.hid (hoo11.kin ho (by intro x hx; simp at hx; subst hx; exact hAw))
                    have hcl2 := Lib.hid (closed_up HOK.out HCL.out HRI.out.1)
                    have hlu := left_up (p := l0) D i HIN.out HRI.out.2
                    rw [HLF.out] at hlu
                    have hlu2 : Hid (leftN l0 (upB D i) = n - (k + 1)) := by show _ = _; omega
                    clear hB ho hoo11 hlu
                    go_wp2
                    go_roundw
                    case rel => exact ⟨k + 1, by omega, by go_num, _, hJ7.out, hcl2.out, hlu2.out, hB7.out, hoo12.out⟩
                    case measure => (simp [intOf]; try omega)
          · obtain rfl : n = k := by omega
            rw [ready_none (p := l0) (D := D) (by omega)] at hrd
            have hle := Join.left S FP J l0 D wp hJ
            rw [hlf, Nat.sub_self] at hle
            clear hcl hlf hB hJ
            go_wp2_with fail
            refine hle.mono ?_
            rintro e w8 ⟨rfl, rfl⟩
            clear hle
            go_wp2_with fail
            refine hrd.mono ?_
            rintro e w9 ⟨v9, rfl, hI9, ho9⟩
            have hoo9 := ho.trans ho9 (by simp)
            obtain ⟨oa, oc, rfl, _⟩ := hI9.opt
            clear hrd hI9 ho9 ho
            go_wp2
            go_ret
            exact ⟨by simp [natL], hoo9.below (Nat.le_refl _) (by simp)⟩
  · have hnew := Join.new_no v0 l0 w2 (HP.out.same hoo2) hok
    go_wp2_with fail
    refine hnew.mono ?_
    rintro e w4 ⟨rfl, ho4⟩
    clear hnew
    go_wp2
    go_ret
    exact ⟨rfl, (hoo2.trans ho4 (by simp)).below (Nat.le_refl _) (by simp)⟩

end Go.Proofs.Ytbpkndflkbcmaaa.joinEnds
