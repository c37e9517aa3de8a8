/-
  The statement DepthWay: the longest way is as long, outright: it is a way of the plan, of as much work as the span; no task's rank and tail together are more; who needs another one begins behind it. No condition.
-/
import Derived.Test.YtbpkndflkbcmaaaFrame
import Derived.Test.YtbpkndflkbcmaaaBound
import Derived.Test.YtbpkndflkbcmaaaLit2
import Derived.Test.YtbpkndflkbcmaaaRefIn
namespace Go.Proofs.Ytbpkndflkbcmaaa.depthWay
open Go.ChangeShapes Go.WideShapes Go.ChangeAt Go.RowKit
open Go.ChangeMaps (open_string shut_string)
set_option linter.unusedVariables false

theorem lit3 (W : World) : InPlan (((W.alloc (.cells #[.int .i64 0] 3)).alloc (.cells #[.int .i64 0] 3)).alloc (.cells #[.int .i64 3, .slice none 0 0, .int .i64 2, .slice (some ⟨W.heap.size, 0, none⟩) 1 1, .int .i64 4, .slice (some ⟨W.heap.size + 1, 0, none⟩) 1 1] 49)) (.slice (some ⟨W.heap.size + 2, 0, none⟩) 3 3) [(3, []), (2, [0]), (4, [0])] := by
  refine lit_plan (heap_alloc_at _ _ _ (by simp)) [(3, []), (2, [0]), (4, [0])] (fun i => if i = 0 then .slice none 0 0 else if i = 1 then .slice (some ⟨W.heap.size, 0, none⟩) 1 1 else .slice (some ⟨W.heap.size + 1, 0, none⟩) 1 1) ?_ (by simp) ?_
  · rfl
  · intro i hi
    have : i = 0 ∨ i = 1 ∨ i = 2 := by simp at hi; omega
    rcases this with rfl | rfl | rfl
    · exact .inl ⟨rfl, .inl rfl⟩
    · refine lit_row [0] ?_ (by simp)
      rw [heap_alloc_old _ _ _ (by simp; omega), heap_alloc_old _ _ _ (by simp)]
      exact heap_alloc_new _ _
    · refine lit_row [0] ?_ (by simp)
      rw [heap_alloc_old _ _ _ (by simp)]
      exact heap_alloc_at _ _ _ (by simp)
theorem lit3_ok : PlanOk [(3, []), (2, [0]), (4, [0])] := litOk_ok (by decide)
theorem lit3_way : wayOf [(3, []), (2, [0]), (4, [0])] = [0, 2] := by decide +kernel

theorem sum_getD (l : List Nat) (f : Nat → Int) : sumI (fun j => f (l[j]?.getD 0)) l.length = (l.map f).sum := by
  obtain ⟨r, hr⟩ : ∃ r, r = l.reverse := ⟨_, rfl⟩
  obtain rfl : l = r.reverse := by rw [hr]; simp
  clear hr
  induction r with
  | nil => rfl
  | cons x r ih =>
    rw [List.reverse_cons, List.length_append, List.length_singleton, List.map_append, List.sum_append, ← ih]
    simp only [sumI]
    rw [sumI_congr (g := fun j => f (r.reverse[j]?.getD 0)) _ (fun j hj => by rw [List.getElem?_append_left hj])]
    simp

theorem way_sum {p : PlanL} (h : PlanOk p) (k : Nat) (hk : k ≤ (wayOf p).length) :
    0 ≤ sumI (fun j => wkOf p ((wayOf p)[j]?.getD 0)) k ∧ sumI (fun j => wkOf p ((wayOf p)[j]?.getD 0)) k ≤ 600 ∧ sumI (fun j => wkOf p ((wayOf p)[j]?.getD 0)) (wayOf p).length = spanF p := by
  have hb := spanF_bd h
  obtain ⟨h1, h2, _⟩ := wayF_ok h 600 (List.range p.length) (fun i hi => by simpa using hi) hb.2
  have hn := (wayOk_nth h1).1
  have hp : ∀ i, i < (wayOf p).length → 0 ≤ wkOf p ((wayOf p)[i]?.getD 0) := fun i hi => by
    have e : (wayOf p)[i]?.getD 0 = (wayOf p)[i] := by rw [List.getElem?_eq_getElem hi]; rfl
    rw [e]
    have := (h.work _ (hn i hi)).1
    show 0 ≤ wkOf p ((wayF p 600 (List.range p.length))[i])
    omega
  have he : sumI (fun j => wkOf p ((wayOf p)[j]?.getD 0)) (wayOf p).length = spanF p := (sum_getD _ _).trans h2
  refine ⟨sumI_nonneg k (fun i hi => hp i (by omega)), ?_, he⟩
  have := sumI_grow k _ hk hp
  omega
theorem way_at {p : PlanL} (h : PlanOk p) (k : Nat) (hk : k < (wayOf p).length) : (wayOf p)[k] < p.length :=
  (wayOk_nth (wayF_ok h 600 (List.range p.length) (fun i hi => by simpa using hi) (spanF_bd h).2).1).1 k hk
theorem way_need {p : PlanL} (h : PlanOk p) (k : Nat) (hk : k + 1 < (wayOf p).length) : (((wayOf p)[k] : Nat) : Int) ∈ ndOf p (wayOf p)[k + 1] :=
  (wayOk_nth (wayF_ok h 600 (List.range p.length) (fun i hi => by simpa using hi) (spanF_bd h).2).1).2 k hk

set_option maxHeartbeats 8000000 in
set_option maxRecDepth 100000 in
theorem walk (v0 : Value) (l0 : PlanL) (w : World) (w0 : ArgPlan w v0 l0) :
    Calls Try.prog 9 #[v0] w fun e w' => e = .returned (.bool true) ∧ Below w.heap.size w w' := by
  have HP := Lib.hid w0.2
  clear w0
  have hl := lit3 w
  have hol := (((Only.refl [] w).alloc (.cells #[.int .i64 0] 3)).alloc (.cells #[.int .i64 0] 3)).alloc (.cells #[.int .i64 3, .slice none 0 0, .int .i64 2, .slice (some ⟨w.heap.size, 0, none⟩) 1 1, .int .i64 4, .slice (some ⟨w.heap.size + 1, 0, none⟩) 1 1] 49)
  have hlg := depth_Longest _ _ _ hl lit3_ok
  rw [lit3_way] at hlg
  clear hl
  go_enter Try.func9, Try.ntmps9
  go_wp2_with fail
  refine hlg.mono ?_
  rintro e w1 ⟨v1, rfl, hI, ho1⟩
  have hoo1 := hol.trans ho1 (by simp)
  obtain ⟨g, cap, rfl, _⟩ := hI.sized 2 rfl (by omega)
  have k0 : w1.cell? ⟨g, 0, none⟩ = some (.int .i64 0) := hI.cell 0 (by simp [natL])
  have k1 : w1.cell? ⟨g, 1, none⟩ = some (.int .i64 2) := hI.cell 1 (by simp [natL])
  clear hlg hol ho1 hI
  go_wp2_with fail
  clear k0 k1
  by_cases hok : planFault l0 = 0
  · have hOK := (planOk_iff l0).2 hok
    have hlg := depth_Longest v0 l0 w1 (HP.out.same hoo1) hOK
    have HO := Lib.hid hOK
    have hspan := Lib.hid (fun w' (ho : Only [] w1 w') => depth_Span v0 l0 w' (HP.out.same (hoo1.trans ho (by simp))) hOK)
    have hrank := Lib.hid (fun w' (ho : Only [] w1 w') => depth_Ranks v0 l0 w' (HP.out.same (hoo1.trans ho (by simp))) hOK)
    have htail := Lib.hid (fun w' (ho : Only [] w1 w') => depth_Tails v0 l0 w' (HP.out.same (hoo1.trans ho (by simp))) hOK)
    obtain ⟨n, hn⟩ : ∃ n, l0.length = n := ⟨_, rfl⟩
    have HL := Lib.hid hn
    have hn30 : n ≤ 30 := by rw [← hn]; exact hOK.len
    obtain ⟨pa, pcap, rfl, _, _, _⟩ := (HP.out).task
    rw [hn] at hspan hrank htail HP hlg ⊢
    obtain ⟨q, hq⟩ : ∃ q, (wayOf l0).length = q := ⟨_, rfl⟩
    have HQ := Lib.hid hq
    have hq600 : q ≤ 600 := by rw [← hq]; exact wayF_len _ _ _
    have hbs := spanF_bd hOK
    clear hok hOK hn hq
    refine hlg.mono ?_
    rintro e w2 ⟨vw, rfl, hIw, ho2⟩
    obtain ⟨wa, wc, rfl, hcw⟩ := hIw.opt
    have hql : (natL (wayOf l0)).length = q := by rw [natL_len]; exact HQ.out
    rw [hql] at hIw hcw ⊢
    have HCW := Lib.hid hcw
    clear hlg hql hcw hIw
    go_wp2_with fail
    refine (hspan.out w2 ho2).mono ?_
    rintro e w3 ⟨rfl, h3⟩
    have ho3 := ho2.trans h3 (by simp)
    go_wp2_with fail
    refine (hrank.out w3 ho3).mono ?_
    rintro e w4 ⟨R, rfl, _, hR, h4⟩
    have ho4 := ho3.trans h4 (by simp)
    go_wp2_with fail
    refine (htail.out w4 ho4).mono ?_
    rintro e w5 ⟨T, rfl, _, hT, h5⟩
    have hR5 := hR.only h5 (by simp)
    have h25 := (h3.trans h4 (by simp)).trans h5 (by simp)
    have hoo5 := hoo1.trans (ho4.trans h5 (by simp)) (by simp)
    have HC5 : Hid (∀ i, i < q → ∃ g, wa = some ⟨g, 0, none⟩ ∧ w5.cell? ⟨g, i, none⟩ = some (.int .i64 (nth (natL (wayOf l0)) i))) := by
      show ∀ i, _
      intro i hi
      obtain ⟨g, h1, h2⟩ := HCW.out i hi
      exact ⟨g, h1, (h25.cell (p := ⟨g, i, none⟩) (cell_lt h2) (by simp)).trans h2⟩
    have HR := Lib.hid hR5
    have HT := Lib.hid hT
    have HOO := Lib.hid hoo5
    clear hspan hrank htail ho2 h3 ho3 h4 ho4 h5 hR hR5 hT h25 HCW hoo5
    generalize hsp : spanF l0 = sp at *
    have HSP := Lib.hid hsp
    clear hsp
    go_wp2_with fail
    go_loopw [14, 15] (fun vs vk wr => ∃ k : Nat, k ≤ q ∧ vk = .int .i64 k ∧ vs = .int .i64 (sumI (fun j => wkOf l0 ((wayOf l0)[j]?.getD 0)) k) ∧ Only [] w5 wr) (fun _ vk _ => q - (intOf vk).toNat)
    case atStart => exact ⟨0, Nat.zero_le _, rfl, rfl, Only.refl _ _⟩
    case round =>
      obtain ⟨k, hk, rfl, rfl, ho6⟩ := hrel
      have hsb := way_sum HO.out k (by rw [HQ.out]; exact hk)
      by_cases hkq : k < q
      · have hkl : k < (wayOf l0).length := by rw [HQ.out]; exact hkq
        obtain ⟨g, rfl, hck⟩ := HC5.out k hkq
        rw [natL_nth _ _ hkl] at hck
        replace hck := (ho6.cell (p := ⟨g, k, none⟩) (cell_lt hck) (by simp)).trans hck
        have hin := way_at HO.out k hkl
        have hsu : Hid (sumI (fun j => wkOf l0 ((wayOf l0)[j]?.getD 0)) (k + 1) = sumI (fun j => wkOf l0 ((wayOf l0)[j]?.getD 0)) k + wkOf l0 (wayOf l0)[k]) := by
          show _ = _
          simp only [sumI, List.getElem?_eq_getElem hkl, Option.getD_some]
        have hprev : 0 < k → (((wayOf l0)[k - 1]?.getD 0 : Nat) : Int) ∈ ndOf l0 (wayOf l0)[k] := fun h0 => by
          have h1 := way_need HO.out (k - 1) (by omega)
          have e : k - 1 + 1 = k := by omega
          simp only [e] at h1
          rw [List.getElem?_eq_getElem (by omega), Option.getD_some]
          exact h1
        have hcp : 0 < k → wr.cell? ⟨g, k - 1, none⟩ = some (.int .i64 (((wayOf l0)[k - 1]?.getD 0 : Nat) : Int)) := fun h0 => by
          obtain ⟨g', e, h2⟩ := HC5.out (k - 1) (by omega)
          injection e with e; injection e with e; subst e
          rw [(ho6.cell (p := ⟨g, k - 1, none⟩) (cell_lt h2) (by simp)).trans h2, natL_get]
        generalize (wayOf l0)[k - 1]?.getD 0 = ip at *
        rw [HL.out] at hin
        generalize (wayOf l0)[k] = i at *
        have hpx := HP.out.same (HOO.out.trans ho6 (by simp))
        obtain ⟨b, off, rfl⟩ := hpx.any i (by rw [HL.out]; exact hin)
        obtain ⟨ua, uc, c0, c1, hrd⟩ := hpx.at i (by rw [HL.out]; exact hin)
        have hnl : (ndOf l0 i).length ≤ 30 := by have := HO.out.needs i; rw [HL.out] at this; omega
        have hwk := HO.out.work i (by rw [HL.out]; exact hin)
        generalize sumI (fun j => wkOf l0 ((wayOf l0)[j]?.getD 0)) k = s at *
        generalize wkOf l0 i = wi at *
        have HKQ := Lib.hid hkq
        by_cases h0 : 0 < k
        · have hre := Lib.hid (fun d => ref_in _ _ (ip : Int) (wr.drewN d) (hrd.drewN d) (by omega) true (by simpa using hprev h0))
          have hcp := hcp h0
          have e1 : IntKind.i64.wrap ((k : Int) - 1) = (k : Int) - 1 := IntWalk.i64_in _ (by omega)
          have e2 : (0 : Int) ≤ (k : Int) - 1 := by omega
          have e3 : ((k : Int) - 1).toNat = k - 1 := by omega
          have e4 : (k : Int) - 1 < (q : Int) := by omega
          clear hprev hkl hrd hpx
          go_wp2_with fail
          go_quiet ((go_at_call 34; exact quiet_eq (hre.out _)))
          go_wp2
          go_roundw
          case rel => exact ⟨k + 1, HKQ.out, by go_num, by rw [hsu.out], ho6.drewN _⟩
          case measure => (have := HKQ.out; simp [intOf]; try omega)
        · obtain rfl : k = 0 := by omega
          clear hprev hcp hrd hpx hkl
          go_wp2
          go_roundw
          case rel => exact ⟨1, HKQ.out, rfl, by rw [hsu.out], ho6⟩
          case measure => (have := HKQ.out; simp [intOf]; try omega)
      · obtain rfl : q = k := by omega
        have hsum : sumI (fun j => wkOf l0 ((wayOf l0)[j]?.getD 0)) q = sp := by have := hsb.2.2; rw [HQ.out] at this; exact this.trans HSP.out
        rw [hsum]
        have hoL := Lib.hid (HOO.out.trans ho6 (by simp))
        have HR6 := Lib.hid (HR.out.only ho6 (by simp))
        have HT6 := Lib.hid (HT.out.only ho6 (by simp))
        obtain ⟨wl, rfl⟩ : ∃ wl : World, wl = wr := ⟨_, rfl⟩
        clear hkq hk hsb hsum ho6
        go_wp2_with fail
        go_loopw [17] (fun vi wr => ∃ i : Nat, i ≤ n ∧ vi = .int .i64 i ∧ Only [] wl wr) (fun vi _ => n - (intOf vi).toNat)
        case atStart => exact ⟨0, Nat.zero_le _, rfl, Only.refl _ _⟩
        case round =>
          obtain ⟨i, hi, rfl, ho7⟩ := hrel
          by_cases hin : i < n
          · have hpw := hoL.out.trans ho7 (by simp)
            have cR := (HR6.out.only ho7 (by simp) i hin).1
            have cT := (HT6.out.only ho7 (by simp) i hin).1
            obtain ⟨b, off, rfl⟩ := HP.out.any i (by rw [HL.out]; exact hin)
            obtain ⟨ua, uc, c0, c1, hrd⟩ := (HP.out.same hpw).at i (by rw [HL.out]; exact hin)
            have hnl : (ndOf l0 i).length ≤ 30 := by have := HO.out.needs i; rw [HL.out] at this; omega
            have hwk := HO.out.work i (by rw [HL.out]; exact hin)
            have hrt := rank_tail HO.out (i := i) (by rw [HL.out]; exact hin)
            rw [HSP.out] at hrt
            have hrb := rankF_bd HO.out i
            have htb := tailF_le HO.out (i := i) (by rw [HL.out]; exact hin)
            have hNR := Lib.hid (fun (k : Nat) (hk : (k : Int) ∈ ndOf l0 i) => rankF_need HO.out (i := i) (k := k) (by rw [HL.out]; exact hin) hk)
            have hNT := Lib.hid (fun (k : Nat) (hk : (k : Int) ∈ ndOf l0 i) => tailF_need HO.out (i := i) (k := k) (by rw [HL.out]; exact hin) hk)
            obtain ⟨ra, rc, er, hrc⟩ := hrd.opt
            injection er with er1 _ er2
            subst er1
            have HMEM := Lib.hid (fun q (hq : q < (ndOf l0 i).length) => (by rw [nth, List.getElem?_eq_getElem hq]; exact List.getElem_mem hq : nth (ndOf l0 i) q ∈ ndOf l0 i))
            have HRC := Lib.hid hrc
            have HNB := Lib.hid (HO.out.need i)
            obtain ⟨z, hz⟩ : ∃ z, (ndOf l0 i).length = z := ⟨_, rfl⟩
            rw [hz] at c1 hnl HMEM HRC
            generalize hr9 : rankF l0 i = r at *
            generalize ht9 : tailF l0 i = t at *
            generalize hw9 : wkOf l0 i = wi at *
            have e1 : IntKind.i64.wrap (r + t) = r + t := IntWalk.i64_in _ (by omega)
            have d1 : decide (sp < r + t) = false := by simp; omega
            have d2 : decide (r < 0) = false := by simp; omega
            have d3 : decide (t < wi) = false := by simp; omega
            have HR9 := Lib.hid hr9
            have HT9 := Lib.hid ht9
            have HIN := Lib.hid hin
            have HC1 := Lib.hid c1
            have HO7 := Lib.hid ho7
            clear hrd hrc er2 hz hr9 ht9 hw9 hrt hpw ho7
            go_wp2_with fail
            go_quiet (fail)
            obtain ⟨wi2, hwi2⟩ : ∃ wi2, wr.drewN nq = wi2 := ⟨_, rfl⟩
            have ho8 : Only [] wl wi2 := by rw [← hwi2]; exact HO7.out.drewN nq
            have HO8 := Lib.hid ho8
            have HC2 : Hid (wi2.cell? ⟨b, off + i * 2 + 1, none⟩ = some (.slice ua z uc)) := by rw [← hwi2]; exact HC1
            have HRC2 : Hid (∀ q, q < z → ∃ b off, ua = some ⟨b, off, none⟩ ∧ wi2.cell? ⟨b, off + q, none⟩ = some (.int .i64 (nth (ndOf l0 i) q))) := by rw [← hwi2]; exact HRC
            rw [hwi2]
            clear hwi2 ho8 d1 d2 d3 cR cT c0 c1 e1
            go_wp2_with fail
            go_loopw [18] (fun vz wr => ∃ k : Nat, k ≤ z ∧ vz = .int .i64 k ∧ Only [] wi2 wr) (fun vz _ => z - (intOf vz).toNat)
            case atStart => exact ⟨0, Nat.zero_le _, rfl, Only.refl _ _⟩
            case round =>
              obtain ⟨k, hk, rfl, ho9⟩ := hrel
              have ho10 := HO8.out.trans ho9 (by simp)
              have c1 := (ho9.cell (p := ⟨b, off + i * 2 + 1, none⟩) (cell_lt HC2.out) (by simp)).trans HC2.out
              by_cases hkz : k < z
              · obtain ⟨rb, ro, rfl, crq⟩ := HRC2.out k hkz
                replace crq := (ho9.cell (p := ⟨rb, ro + k, none⟩) (cell_lt crq) (by simp)).trans crq
                have hmem := HMEM.out k hkz
                have hb := HNB.out _ hmem
                rw [HL.out] at hb
                generalize nth (ndOf l0 i) k = y at *
                obtain ⟨y, rfl⟩ := Int.eq_ofNat_of_zero_le hb.1
                have hyn : y < n := by omega
                have hpw := hoL.out.trans ho10 (by simp)
                obtain ⟨_, _, cW, _, _⟩ := (HP.out.same hpw).at y (by rw [HL.out]; exact hyn)
                have cRy := (HR6.out.only ho10 (by simp) y hyn).1
                have cTy := (HT6.out.only ho10 (by simp) y hyn).1
                have cRi := (HR6.out.only ho10 (by simp) i HIN.out).1
                have cTi := (HT6.out.only ho10 (by simp) i HIN.out).1
                have hn1 := hNR.out y hmem
                have hn2 := hNT.out y hmem
                have hwy := HO.out.work y (by rw [HL.out]; exact hyn)
                have hry := rankF_bd HO.out y
                have hty := tailF_le HO.out (i := y) (by rw [HL.out]; exact hyn)
                rw [HR9.out] at cRi
                rw [HT9.out] at cTi
                generalize rankF l0 y = ry at *
                generalize tailF l0 y = ty at *
                generalize wkOf l0 y = wy at *
                have e1 : IntKind.i64.wrap (ry + wy) = ry + wy := IntWalk.i64_in _ (by omega)
                have e2 : IntKind.i64.wrap (t + wy) = t + wy := IntWalk.i64_in _ (by omega)
                have d1 : decide (r < ry + wy) = false := by simp; omega
                have d2 : decide (ty < t + wy) = false := by simp; omega
                have d3 : decide ((n : Int) ≤ (y : Int)) = false := by simp; omega
                have d4 : decide ((y : Int) < 0) = false := by simp
                have HKZ := Lib.hid hkz
                have HO9 := Lib.hid ho9
                have hin := HIN.out
                clear ho9 ho10 hpw hmem
                go_wp2_with fail
                go_quiet (fail)
                go_wp2
                go_roundw
                case rel => exact ⟨k + 1, HKZ.out, by go_num, HO9.out.drewN _⟩
                case measure => (have := HKZ.out; simp [intOf]; try omega)
              · have hd : decide ((k : Int) < (z : Int)) = false := by (simp; try omega)
                have HO10 := Lib.hid ho10
                clear ho9 ho10
                go_wp2
                go_roundw
                case rel => exact ⟨i + 1, HIN.out, by go_num, HO10.out⟩
                case measure => (have := HIN.out; simp [intOf]; try omega)
          · have hd : decide ((i : Int) < (n : Int)) = false := by simp; omega
            have hoF := hoL.out.trans ho7 (by simp)
            go_wp2
            go_ret
            exact ⟨rfl, hoF.below (Nat.le_refl _) (by simp)⟩
  · have hlg := depth_Longest_no v0 l0 w1 (HP.out.same hoo1) hok
    generalize planFault l0 = f at *
    clear hok
    refine hlg.mono ?_
    rintro e w2 ⟨rfl, ho2⟩
    have hoo2 := hoo1.trans ho2 (by simp)
    clear hlg
    go_wp2
    go_ret
    exact ⟨rfl, hoo2.below (Nat.le_refl _) (by simp)⟩

end Go.Proofs.Ytbpkndflkbcmaaa.depthWay
