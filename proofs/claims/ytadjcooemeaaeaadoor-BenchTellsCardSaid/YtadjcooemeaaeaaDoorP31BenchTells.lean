/-
  Contracts of yardref1.Tails and yardref1.Span.
-/
import Derived.Test.YtadjcooemeaaeaaDoorP29BenchTells
import Derived.Test.YtadjcooemeaaeaaDoorP30BenchTells
import Derived.Test.YtadjcooemeaaeaaDoorP18BenchTells
namespace Go.Proofs.YtadjcooemeaaeaaDoor
open Go.RowKit Go.Deep

set_option maxRecDepth 100000 in
set_option maxHeartbeats 8000000 in
theorem ref_Tails (v : Value) (p : PlanL) (w : World) (h : InPlan w v p) (hok : PlanOk p) :
    Calls Tryd.prog 61 #[v] w fun e w' => ∃ L, e = .returned (.slice (some ⟨L, 0, none⟩) p.length p.length) ∧ w.heap.size ≤ L ∧ Nums w' L p.length (tailF p) ∧ Only [] w w' := by
  have HP := Lib.hid h
  have HO := Lib.hid hok
  have hor := Lib.hid (fun w' (ho : Only [] w w') => ref_Order v p w' (h.same ho) hok)
  obtain ⟨a, cap, rfl, hc1, hc2, _⟩ := h.task
  obtain ⟨n, hn⟩ : ∃ n, p.length = n := ⟨_, rfl⟩
  have HL := Lib.hid hn
  rw [hn] at hc1 HP hor ⊢
  have h30 : n ≤ 30 := by rw [← hn]; exact hok.len
  have hmk := make_ints n (by omega)
  have hB0 := made_nums w n
  have ho1 := (Only.refl [] w).alloc (.cells (madeCells #[.int .i64 0] n) 3)
  have hO1 := hor.out _ ho1
  have hol : (orderOf p).length = n := (topo_len hok p.length (Nat.le_refl _)).trans hn
  have HOL := Lib.hid hol
  clear h hn hok hor
  go_enter Tryd.func61, Tryd.ntmps61
  go_wp2_with fail
  refine hO1.mono ?_
  rintro e w1 ⟨vo, rfl, hI, ho2⟩
  clear hO1
  have hoo := ho1.trans ho2 (by simp)
  have hB1 := (hB0.only ho2 (by simp)).congr (g := tailG p (doneT p n)) (fun j _ => by rw [← HOL.out, tailG_zero])
  have hfar := fun x (hx : x ∈ own vo) => (hI.own_lt x hx).1
  have hs2 := ho2.size
  rw [World.size_alloc] at hfar hs2
  obtain ⟨oa, oc, rfl, hco⟩ := hI.opt
  rw [natL_len, hol] at hco hI hfar ⊢
  have HCO := Lib.hid hco
  clear hB0 ho1 ho2 hco hol hI
  go_wp2_with fail
  go_loopw [5, 6, 7] (fun vi _ _ wr => ∃ (i : Nat) (nv : Int), i ≤ n ∧ nv = (i : Int) - 1 ∧ vi = .int .i64 nv ∧ Nums wr w.heap.size n (tailG p (doneT p i)) ∧ Only [w.heap.size] w1 wr) (fun vi _ _ _ => (intOf vi + 1).toNat)
  case atStart => exact ⟨n, _, Nat.le_refl _, rfl, rfl, hB1, Only.refl _ _⟩
  case round =>
    clear hB1
    obtain ⟨wo, rfl⟩ : ∃ wo : World, wo = wr := ⟨_, rfl⟩
    obtain ⟨i, nv, hi, hnv, rfl, hB, ho⟩ := hrel
    have hww : Only [] w wo := hoo.trans ho (fun x hx hl => by simp at hx; omega)
    rcases i with _ | i
    · have hnv1 : nv = -1 := by omega
      clear hnv
      subst hnv1
      have hf := Lib.hid (hB.congr (g := tailF p) (fun j hj => tailG_all HO.out (by rw [HL.out]; exact hj)))
      clear hB
      go_wp2
      go_ret
      exact ⟨_, rfl, Nat.le_refl _, hf.out, hww⟩
    · have hnv1 : nv = (i : Int) := by omega
      clear hnv
      subst hnv1
      have hin : i < n := by omega
      have hkl : i < (orderOf p).length := by rw [HOL.out]; exact hin
      obtain ⟨g, rfl, hcg⟩ := HCO.out i hin
      rw [natL_nth _ _ hkl] at hcg
      have hgA := hfar g (by simp [own, Value.ownBlock])
      have cG := (ho.cell (p := ⟨g, i, none⟩) (cell_lt hcg) (by simp; omega)).trans hcg
      have hxn : (orderOf p)[i] < p.length := (orderOf_mem HO.out _).1 (List.getElem_mem hkl)
      have hself := tailG_self HO.out hkl
      have HEND := Lib.hid (fun j => tailH_end HO.out hkl j)
      have HNEED := Lib.hid (fun k hk => doneT_need HO.out hkl (k := k) hk)
      obtain ⟨x, hx⟩ : ∃ x, (orderOf p)[i] = x := ⟨_, rfl⟩
      rw [hx] at hcg cG hxn hself HEND HNEED
      have HXN := Lib.hid hxn
      rw [HL.out] at hxn
      clear hx
      obtain ⟨pb, po, rfl⟩ := HP.out.any x (by rw [HL.out]; exact hxn)
      obtain ⟨ua, uc, c0, c1, hrd⟩ := HP.out.at x (by rw [HL.out]; exact hxn)
      have cX := (hB x hxn).1
      have fX := (hB x hxn).2
      have hgb := tailG_bd HO.out (doneT p (i + 1)) x HXN.out
      have htf := tailF_le HO.out HXN.out
      have hwk := HO.out.work x HXN.out
      obtain ⟨tx, htx⟩ : ∃ t, tailF p x = t := ⟨_, rfl⟩
      obtain ⟨gx, hgx⟩ : ∃ t, tailG p (doneT p (i + 1)) x = t := ⟨_, rfl⟩
      obtain ⟨kx, hkx⟩ : ∃ t, wkOf p x = t := ⟨_, rfl⟩
      rw [hgx] at cX hgb hself
      rw [htx] at htf hself
      rw [hkx] at hself hwk htf c0
      have HTX := Lib.hid htx
      obtain rfl : tx = gx + kx := by omega
      have hnl : (ndOf p x).length ≤ 30 := by have := HO.out.needs x; rw [HL.out] at this; omega
      obtain ⟨ra, rc, er, hrc⟩ := hrd.opt
      injection er with er1 _ er2
      subst er1
      have HMEM := Lib.hid (fun q (hq : q < (ndOf p x).length) => (by rw [nth, List.getElem?_eq_getElem hq]; exact List.getElem_mem hq : nth (ndOf p x) q ∈ ndOf p x))
      have HRC := Lib.hid hrc
      have HSTEP := Lib.hid (fun q y hq hy hyx j => tailH_step (p := p) (D := doneT p (i + 1)) (x := x) (q := q) (y := y) hq hy hyx j)
      have HBD := Lib.hid (fun q j hj => tailH_bd HO.out (doneT p (i + 1)) x q HXN.out j hj)
      obtain ⟨m, hm⟩ : ∃ m, (ndOf p x).length = m := ⟨_, rfl⟩
      have HM := Lib.hid hm
      rw [hm] at c1 hnl HMEM HRC HEND HSTEP
      have hset := hB.set x (gx + kx)
      have hN1 := Lib.hid ((hset.congr (g := tailH p (doneT p (i + 1)) x 0) (fun j _ => by
        unfold updI tailH
        rw [HTX.out]
        simp)))
      have hoS : Only [w.heap.size] wo ((wo.setCell ⟨w.heap.size, x, none⟩ (.int .i64 (gx + kx))).drew) := ((Only.refl _ wo).setCell (by simp) _).drew
      have hwS : Only [] w ((wo.setCell ⟨w.heap.size, x, none⟩ (.int .i64 (gx + kx))).drew) := hww.trans hoS (fun y hy hl => by simp at hy; omega)
      have hN2 : Nums ((wo.setCell ⟨w.heap.size, x, none⟩ (.int .i64 (gx + kx))).drew) w.heap.size n (tailH p (doneT p (i + 1)) x 0) := hN1.out.only ((Only.refl [] _).drew) (by simp)
      have cGS := (hoS.cell (p := ⟨g, i, none⟩) (cell_lt cG) (by simp; omega)).trans cG
      have hoS1 : Only [w.heap.size] w1 ((wo.setCell ⟨w.heap.size, x, none⟩ (.int .i64 (gx + kx))).drew) := ho.trans hoS (fun y hy _ => hy)
      have c0S := (hwS.cell (p := ⟨pb, po + x * 2, none⟩) (cell_lt c0) (by simp)).trans c0
      have c1S := (hwS.cell (p := ⟨pb, po + x * 2 + 1, none⟩) (cell_lt c1) (by simp)).trans c1
      have c0 := (hww.cell (p := ⟨pb, po + x * 2, none⟩) (cell_lt c0) (by simp)).trans c0
      have c1 := (hww.cell (p := ⟨pb, po + x * 2 + 1, none⟩) (cell_lt c1) (by simp)).trans c1
      obtain ⟨W, hW⟩ : ∃ W, (wo.setCell ⟨w.heap.size, x, none⟩ (.int .i64 (gx + kx))).drew = W := ⟨_, rfl⟩
      rw [hW] at hwS hN2 cGS hoS1 c0S c1S
      have hLT : w.heap.size < W.heap.size := by have := hoS1.size; omega
      have hal := (Only.refl [] W).alloc (.cells #[.int .i64 kx, .slice ua m uc] 46)
      have hO3 := Lib.hid (hoS1.trans hal (by simp))
      have hN3 := Lib.hid (hN2.only hal (by simp))
      have hw3 := Lib.hid (hwS.trans hal (by simp))
      have cG3 := Lib.hid ((hal.cell (p := ⟨g, i, none⟩) (cell_lt cGS) (by simp)).trans cGS)
      clear hset hrc hrd er2 hm htx hgx hkx hself hB hoS hwS hN2 hoS1 hN1 hww hal ho
      have cT := (Cells.new W #[.int .i64 kx, .slice ua m uc] 46).cell 1 _ rfl
      have hTl : W.heap.size < (W.alloc (.cells #[.int .i64 kx, .slice ua m uc] 46)).heap.size := by simp
      go_wp2_with fail
      go_still_tail 21, (by kernel_rfl)
      go_wp2_with fail
      go_loopw [7] (fun vq wr => ∃ q : Nat, q ≤ m ∧ vq = .int .i64 q ∧ Nums wr w.heap.size n (tailH p (doneT p (i + 1)) x q) ∧ wr.cell? ⟨W.heap.size, 1, none⟩ = some (.slice ua m uc) ∧ wr.cell? ⟨g, i, none⟩ = some (.int .i64 (x : Int)) ∧ Only [w.heap.size] w1 wr) (fun vq _ => m - (intOf vq).toNat)
      case atStart => exact ⟨0, Nat.zero_le _, rfl, hN3.out, cT, cG3.out, hO3.out⟩
      case round =>
        clear cT hTl cGS c0S c1S cX fX
        obtain ⟨wi, rfl⟩ : ∃ wi : World, wi = wr := ⟨_, rfl⟩
        obtain ⟨q, hq, rfl, hN, cT, cGi, hoi⟩ := hrel
        have hwi : Only [] w wi := hoo.trans hoi (fun y hy hl => by simp at hy; omega)
        by_cases hqm : q < m
        · obtain ⟨rb, ro, rfl, crq⟩ := HRC.out q hqm
          have hmem := HMEM.out q hqm
          have hql : q < (ndOf p x).length := by rw [HM.out]; exact hqm
          have hb := HO.out.need x _ hmem
          have hnd := HNEED.out _ hmem
          have hst := HSTEP.out q
          obtain ⟨y, hy⟩ : ∃ y, nth (ndOf p x) q = y := ⟨_, rfl⟩
          rw [hy] at crq hb hnd hst
          obtain ⟨yn, rfl⟩ := Int.eq_ofNat_of_zero_le hb.1
          rw [Int.toNat_natCast] at hnd
          have hyn : yn < n := by have := HL.out; omega
          have hst := Lib.hid (fun j => hst yn hqm rfl hnd.2 j)
          have crq2 := (hwi.cell (p := ⟨rb, ro + q, none⟩) (cell_lt crq) (by simp)).trans crq
          have cX := (hN x hxn).1
          have cY := (hN yn hyn).1
          have fY := (hN yn hyn).2
          have hby := HBD.out q yn (by rw [HL.out]; exact hyn)
          have hxx : tailH p (doneT p (i + 1)) x q x = gx + kx := by unfold tailH; rw [if_pos rfl]; exact HTX.out
          rw [hxx] at cX
          obtain ⟨ty, hty⟩ : ∃ t, tailH p (doneT p (i + 1)) x q yn = t := ⟨_, rfl⟩
          rw [hty] at cY hby
          have HTY := Lib.hid hty
          have HST : Hid (∀ j, tailH p (doneT p (i + 1)) x (q + 1) j = if j = yn then max ty (gx + kx) else tailH p (doneT p (i + 1)) x q j) := by
            show ∀ j, _
            intro j
            rw [hst.out j, HTX.out, hty]
          have HN := Lib.hid hN
          have HOI := Lib.hid hoi
          have HQ := Lib.hid hqm
          have HLx := Lib.hid (cell_lt cX)
          have hcT := Lib.hid cT
          have hcG := Lib.hid cGi
          clear hst hty hxx hN hoi hwi crq hmem hb hnd
          by_cases hgt : ty < gx + kx
          · have hgW : ¬ g = w.heap.size := by omega
            have hTW : ¬ W.heap.size = w.heap.size := by omega
            go_wp2_with fail
            go_quiet (fail)
            obtain ⟨w9, hw9⟩ : ∃ w9, wi.drewN nq = w9 := ⟨_, rfl⟩
            have cX : w9.cell? ⟨w.heap.size, x, none⟩ = some (.int .i64 (gx + kx)) := by rw [← hw9]; exact cX
            have cY : w9.cell? ⟨w.heap.size, yn, none⟩ = some (.int .i64 ty) := by rw [← hw9]; exact cY
            have fY : w9.frozen? ⟨w.heap.size, yn, none⟩ = false := by rw [← hw9]; exact fY
            have cT : w9.cell? ⟨W.heap.size, 1, none⟩ = some (.slice (some ⟨rb, ro, none⟩) m uc) := by rw [← hw9]; exact cT
            have cGi : w9.cell? ⟨g, i, none⟩ = some (.int .i64 (x : Int)) := by rw [← hw9]; exact cGi
            have crq2 : w9.cell? ⟨rb, ro + q, none⟩ = some (.int .i64 (yn : Int)) := by rw [← hw9]; exact crq2
            have hN9 : Nums w9 w.heap.size n (tailH p (doneT p (i + 1)) x q) := by rw [← hw9]; exact HN.out.only ((Only.refl [] _).drewN nq) (by simp)
            have ho9 : Only [w.heap.size] w1 w9 := by rw [← hw9]; exact HOI.out.drewN nq
            rw [hw9]
            clear hw9
            have hos : Only [w.heap.size] w9 ((w9.setCell ⟨w.heap.size, yn, none⟩ (.int .i64 (gx + kx))).drew) := ((Only.refl _ w9).setCell (by simp) _).drew
            have e1 := Lib.hid (((hN9.set yn (gx + kx)).only ((Only.refl [] _).drew) (by simp)).congr (g := tailH p (doneT p (i + 1)) x (q + 1)) fun j _ => by
              unfold updI
              rw [HST.out j]
              by_cases e : j = yn
              · rw [if_pos e, if_pos e]; omega
              · rw [if_neg e, if_neg e])
            have e2 := Lib.hid ((hos.cell (p := ⟨W.heap.size, 1, none⟩) (cell_lt cT) (by simpa using hTW)).trans cT)
            have e3 := Lib.hid ((hos.cell (p := ⟨g, i, none⟩) (cell_lt cGi) (by simpa using hgW)).trans cGi)
            have e4 := Lib.hid (ho9.trans hos (fun y hy _ => hy))
            clear hN9 ho9 hos
            go_wp2_with fail
            go_still_tail 13, (by kernel_rfl)
            go_wp2
            go_roundw
            case rel => exact ⟨q + 1, by omega, by go_num, e1.out, e2.out, e3.out, e4.out⟩
            case measure => (simp [intOf]; try omega)
          · have hno : Hid (∀ k, Nums (wi.drewN k) w.heap.size n (tailH p (doneT p (i + 1)) x (q + 1))) := fun k =>
              (HN.out.only ((Only.refl [] _).drewN k) (by simp)).congr fun j _ => by
                rw [HST.out j]
                by_cases e : j = yn
                · subst e; rw [if_pos rfl, HTY.out]; omega
                · rw [if_neg e]
            go_wp2_with fail
            go_quiet (fail)
            go_wp2
            go_roundw
            case rel => exact ⟨q + 1, by omega, by go_num, hno.out _, hcT.out, hcG.out, HOI.out.drewN _⟩
            case measure => (simp [intOf]; try omega)
        · obtain rfl : q = m := by omega
          have hN9 := Lib.hid (hN.congr (g := tailG p (doneT p i)) (fun j _ => HEND.out j))
          clear hN
          go_wp2
          go_roundw
          case rel => exact ⟨i, (i : Int) - 1, by omega, rfl, by go_num, hN9.out, hoi⟩
          case measure => (simp [intOf]; try omega)

set_option maxRecDepth 100000 in
set_option maxHeartbeats 2000000 in
theorem ref_Span (v : Value) (p : PlanL) (w : World) (h : InPlan w v p) (hok : PlanOk p) :
    Calls Tryd.prog 55 #[v] w fun e w' => e = .returned (.int .i64 (spanF p)) ∧ Only [] w w' := by
  have ht := ref_Tails v p w h hok
  have HB := Lib.hid (fun i hi => tailF_le hok (i := i) hi)
  have h30 := hok.len
  obtain ⟨n, hn⟩ : ∃ n, p.length = n := ⟨_, rfl⟩
  have HL := Lib.hid hn
  rw [hn] at ht h30
  clear h hok hn
  go_enter Tryd.func55, Tryd.ntmps55
  go_wp2_with fail
  refine ht.mono ?_
  rintro e w1 ⟨L, rfl, hL, hN, ho⟩
  clear ht
  go_wp2_with fail
  go_loopw [4, 5] (fun vn vi wr => ∃ k : Nat, k ≤ n ∧ vi = .int .i64 k ∧ vn = .int .i64 (maxL ((List.range k).map (tailF p))) ∧ wr = w1) (fun _ vi _ => n - (intOf vi).toNat)
  case atStart => exact ⟨0, Nat.zero_le _, rfl, rfl, rfl⟩
  case round =>
    obtain ⟨k, hk, rfl, rfl, rfl⟩ := hrel
    by_cases hkn : k < n
    · have cA := (hN k hkn).1
      have hst : Hid (maxL ((List.range (k + 1)).map (tailF p)) = max (maxL ((List.range k).map (tailF p))) (tailF p k)) := by
        show _ = _
        rw [List.range_succ, List.map_append, List.map_singleton, maxL_snoc]
      generalize maxL ((List.range k).map (tailF p)) = s at *
      generalize tailF p k = x at *
      have HK := Lib.hid hkn
      by_cases hlt : s < x
      · go_wp2
        go_roundw
        case rel => exact ⟨k + 1, HK.out, by go_num, by rw [hst.out]; congr 1; omega, by first | rfl | trivial⟩
        case measure => (have := HK.out; simp [intOf]; try omega)
      · go_wp2
        go_roundw
        case rel => exact ⟨k + 1, HK.out, by go_num, by rw [hst.out]; congr 1; omega, by first | rfl | trivial⟩
        case measure => (have := HK.out; simp [intOf]; try omega)
    · obtain rfl : k = n := by omega
      have hf : Hid (maxL ((List.range k).map (tailF p)) = spanF p) := by show _ = _; unfold spanF; rw [HL.out]
      clear hN
      go_wp2
      go_ret
      exact ⟨by rw [← hf.out]; rfl, ho⟩

end Go.Proofs.YtadjcooemeaaeaaDoor
