/-
  Contract of yardref1.Ranks.
-/
import Derived.Test.YtadjcooemeaaeaaDoorP25DepthTells
import Derived.Test.YtadjcooemeaaeaaDoorP19DepthTells
namespace Go.Proofs.YtadjcooemeaaeaaDoor
open Go.RowKit Go.Deep

set_option maxRecDepth 100000 in
set_option maxHeartbeats 8000000 in
theorem ref_Ranks (v : Value) (p : PlanL) (w : World) (h : InPlan w v p) (hok : PlanOk p) :
    Calls Tryd.prog 60 #[v] w fun e w' => ∃ L, e = .returned (.slice (some ⟨L, 0, none⟩) p.length p.length) ∧ w.heap.size ≤ L ∧ Nums w' L p.length (rankF p) ∧ Only [] w w' := by
  have HP := Lib.hid h
  have HO := Lib.hid hok
  have hor := Lib.hid (fun w' (ho : Only [] w w') => ref_Order v p w' (h.same ho) hok)
  obtain ⟨a, cap, rfl, hc1, hc2, _⟩ := h.task
  obtain ⟨n, hn⟩ : ∃ n, p.length = n := ⟨_, rfl⟩
  have HL := Lib.hid hn
  rw [hn] at hc1 HP hor ⊢
  have h30 : n ≤ 30 := by rw [← hn]; exact hok.len
  have hmk := make_ints n (by omega)
  have hB0 := made_nums w n
  have ho1 := (Only.refl [] w).alloc (.cells (madeCells #[.int .i64 0] n) 3)
  have hO1 := hor.out _ ho1
  have hol : (orderOf p).length = n := (topo_len hok p.length (Nat.le_refl _)).trans hn
  have HOL := Lib.hid hol
  clear h hn hok hor
  go_enter Tryd.func60, Tryd.ntmps60
  go_wp2_with fail
  refine hO1.mono ?_
  rintro e w1 ⟨vo, rfl, hI, ho2⟩
  clear hO1
  have hoo := ho1.trans ho2 (by simp)
  have hB1 := (hB0.only ho2 (by simp)).congr (g := rankK p 0) (fun j _ => by simp [rankK])
  have hfar := fun x (hx : x ∈ own vo) => (hI.own_lt x hx).1
  have hs2 := ho2.size
  rw [World.size_alloc] at hfar hs2
  obtain ⟨oa, oc, rfl, hco⟩ := hI.opt
  rw [natL_len, hol] at hco hI hfar ⊢
  have HCO := Lib.hid hco
  clear hB0 ho1 ho2 hco hol hI
  go_wp2_with fail
  go_loopw [5, 6, 7, 8] (fun vi _ _ _ wr => ∃ i : Nat, i ≤ n ∧ vi = .int .i64 i ∧ Nums wr w.heap.size n (rankK p i) ∧ Only [w.heap.size] w1 wr) (fun vi _ _ _ _ => n - (intOf vi).toNat)
  case atStart => exact ⟨0, Nat.zero_le _, rfl, hB1, Only.refl _ _⟩
  case round =>
    clear hB1
    obtain ⟨wo, rfl⟩ : ∃ wo : World, wo = wr := ⟨_, rfl⟩
    obtain ⟨i, hi, rfl, hB, ho⟩ := hrel
    have hww : Only [] w wo := hoo.trans ho (fun x hx hl => by simp at hx; omega)
    by_cases hin : i < n
    · have hkl : i < (orderOf p).length := by rw [HOL.out]; exact hin
      obtain ⟨g, rfl, hcg⟩ := HCO.out i hin
      rw [natL_nth _ _ hkl] at hcg
      have hgA := hfar g (by simp [own, Value.ownBlock])
      have cG := (ho.cell (p := ⟨g, i, none⟩) (cell_lt hcg) (by simp; omega)).trans hcg
      have hxn : (orderOf p)[i] < p.length := (orderOf_mem HO.out _).1 (List.getElem_mem hkl)
      have hsu := Lib.hid (rankK_succ HO.out i hkl)
      have hself := rankK_self HO.out i hkl
      have hbd := Lib.hid (rankK_bd HO.out i)
      obtain ⟨x, hx⟩ : ∃ x, (orderOf p)[i] = x := ⟨_, rfl⟩
      rw [hx] at hcg cG hxn hself hsu
      have HXN := Lib.hid hxn
      rw [HL.out] at hxn
      clear hx
      obtain ⟨pb, po, rfl⟩ := HP.out.any x (by rw [HL.out]; exact hxn)
      obtain ⟨ua, uc, c0, c1, hrd⟩ := HP.out.at x (by rw [HL.out]; exact hxn)
      have c0 := (hww.cell (p := ⟨pb, po + x * 2, none⟩) (cell_lt c0) (by simp)).trans c0
      have c1 := (hww.cell (p := ⟨pb, po + x * 2 + 1, none⟩) (cell_lt c1) (by simp)).trans c1
      have hnl : (ndOf p x).length ≤ 30 := by have := HO.out.needs x; rw [HL.out] at this; omega
      obtain ⟨ra, rc, er, hrc⟩ := hrd.opt
      injection er with er1 _ er2
      subst er1
      have HMEM := Lib.hid (fun q (hq : q < (ndOf p x).length) => (by rw [nth, List.getElem?_eq_getElem hq]; exact List.getElem_mem hq : nth (ndOf p x) q ∈ ndOf p x))
      have HRC := Lib.hid hrc
      obtain ⟨m, hm⟩ : ∃ m, (ndOf p x).length = m := ⟨_, rfl⟩
      have HM := Lib.hid hm
      rw [hm] at c1 hnl HMEM HRC
      obtain ⟨kx, hkx⟩ : ∃ t, wkOf p x = t := ⟨_, rfl⟩
      rw [hkx] at c0
      have hB0 : Nums wo w.heap.size n (setI (rankK p i) x (maxL (((ndOf p x).take 0).map fun y => rankK p i y.toNat + wkOf p y.toNat))) := hB.congr (fun j _ => by
        unfold setI
        split
        · rename_i e; rw [e, hself]; rfl
        · rfl)
      have hal := (Only.refl [] wo).alloc (.cells #[.int .i64 kx, .slice ua m uc] 46)
      have hN3 := Lib.hid (hB0.only hal (by simp))
      have hO3 := Lib.hid (ho.trans hal (by simp))
      have cG3 := Lib.hid ((hal.cell (p := ⟨g, i, none⟩) (cell_lt cG) (by simp)).trans cG)
      have cT := Lib.hid ((Cells.new wo #[.int .i64 kx, .slice ua m uc] 46).cell 1 _ rfl)
      have hLT : w.heap.size < wo.heap.size := by have := ho.size; omega
      clear hrc hrd er2 hm hkx hself hB hB0 hal
      go_wp2_with fail
      go_loopw [7, 8] (fun vq _ wr => ∃ q : Nat, q ≤ m ∧ vq = .int .i64 q ∧ Nums wr w.heap.size n (setI (rankK p i) x (maxL (((ndOf p x).take q).map fun y => rankK p i y.toNat + wkOf p y.toNat))) ∧ wr.cell? ⟨wo.heap.size, 1, none⟩ = some (.slice ua m uc) ∧ wr.cell? ⟨g, i, none⟩ = some (.int .i64 (x : Int)) ∧ Only [w.heap.size] w1 wr) (fun vq _ _ => m - (intOf vq).toNat)
      case atStart => exact ⟨0, Nat.zero_le _, rfl, hN3.out, cT.out, cG3.out, hO3.out⟩
      case round =>
        clear c0 c1 cG ho hww
        obtain ⟨wi, rfl⟩ : ∃ wi : World, wi = wr := ⟨_, rfl⟩
        obtain ⟨q, hq, rfl, hN, cTi, cGi, hoi⟩ := hrel
        have hwi : Only [] w wi := hoo.trans hoi (fun y hy hl => by simp at hy; omega)
        by_cases hqm : q < m
        · obtain ⟨rb, ro, rfl, crq⟩ := HRC.out q hqm
          have hmem := HMEM.out q hqm
          have hql : q < (ndOf p x).length := by rw [HM.out]; exact hqm
          have hnq : (ndOf p x)[q] = nth (ndOf p x) q := by rw [nth, List.getElem?_eq_getElem hql]; rfl
          have hb := HO.out.need x _ hmem
          have htk : Hid (maxL (((ndOf p x).take (q + 1)).map fun y => rankK p i y.toNat + wkOf p y.toNat) = max (maxL (((ndOf p x).take q).map fun y => rankK p i y.toNat + wkOf p y.toNat)) (rankK p i (nth (ndOf p x) q).toNat + wkOf p (nth (ndOf p x) q).toNat)) := by
            show _ = _
            rw [List.take_succ_eq_append_getElem hql, List.map_append, List.map_singleton, maxL_snoc, hnq]
          have hne0 : (nth (ndOf p x) q).toNat ≠ x := fun e => not_self HO.out HXN.out (by have h9 := Int.toNat_of_nonneg hb.1; rw [e] at h9; rw [h9]; exact hmem)
          have hML : 0 ≤ maxL (((ndOf p x).take q).map fun y => rankK p i y.toNat + wkOf p y.toNat) ∧ maxL (((ndOf p x).take q).map fun y => rankK p i y.toNat + wkOf p y.toNat) ≤ 620 := ⟨maxL_ge _, maxL_le (by omega) (fun y hy => by
            obtain ⟨z, hz, rfl⟩ := List.mem_map.1 hy
            have h1 := (hbd.out z.toNat).2
            have h2 := (HO.out.work z.toNat (need_nat HO.out (List.mem_of_mem_take hz)).1).2
            show rankK p i z.toNat + wkOf p z.toNat ≤ 620
            omega)⟩
          obtain ⟨y, hy⟩ : ∃ y, nth (ndOf p x) q = y := ⟨_, rfl⟩
          rw [hy] at crq hb htk hne0
          obtain ⟨yn, rfl⟩ := Int.eq_ofNat_of_zero_le hb.1
          rw [Int.toNat_natCast] at hne0 htk
          have hyn : yn < n := by have := HL.out; omega
          have crq2 := (hwi.cell (p := ⟨rb, ro + q, none⟩) (cell_lt crq) (by simp)).trans crq
          obtain ⟨_, _, cW, _, _⟩ := HP.out.at yn (by rw [HL.out]; exact hyn)
          have cW := (hwi.cell (p := ⟨pb, po + yn * 2, none⟩) (cell_lt cW) (by simp)).trans cW
          have hwk := HO.out.work yn (by rw [HL.out]; exact hyn)
          have hry := hbd.out yn
          have cX := (hN x hxn).1
          have fX := (hN x hxn).2
          have cY := (hN yn hyn).1
          rw [show setI (rankK p i) x (maxL (((ndOf p x).take q).map fun y => rankK p i y.toNat + wkOf p y.toNat)) x = maxL (((ndOf p x).take q).map fun y => rankK p i y.toNat + wkOf p y.toNat) by simp [setI]] at cX
          rw [show setI (rankK p i) x (maxL (((ndOf p x).take q).map fun y => rankK p i y.toNat + wkOf p y.toNat)) yn = rankK p i yn by simp [setI, hne0]] at cY
          obtain ⟨M, hM⟩ : ∃ M, maxL (((ndOf p x).take q).map fun y => rankK p i y.toNat + wkOf p y.toNat) = M := ⟨_, rfl⟩
          rw [hM] at cX hML htk hN
          obtain ⟨ry, hryy⟩ : ∃ t, rankK p i yn = t := ⟨_, rfl⟩
          obtain ⟨wy, hwy⟩ : ∃ t, wkOf p yn = t := ⟨_, rfl⟩
          rw [hryy] at cY hry htk
          rw [hwy] at cW hwk htk
          have HN := Lib.hid hN
          have HOI := Lib.hid hoi
          have HCT := Lib.hid cTi
          have HCG := Lib.hid cGi
          clear hN hoi hwi crq hmem hb hql hnq hy hryy hwy hM
          go_wp2_with fail
          go_quiet (fail)
          obtain ⟨w9, hw9⟩ : ∃ w9, wi.drewN nq = w9 := ⟨_, rfl⟩
          have cX : w9.cell? ⟨w.heap.size, x, none⟩ = some (.int .i64 M) := by rw [← hw9]; exact cX
          have fX : w9.frozen? ⟨w.heap.size, x, none⟩ = false := by rw [← hw9]; exact fX
          have cTi : w9.cell? ⟨wo.heap.size, 1, none⟩ = some (.slice (some ⟨rb, ro, none⟩) m uc) := by rw [← hw9]; exact cTi
          have cGi : w9.cell? ⟨g, i, none⟩ = some (.int .i64 (x : Int)) := by rw [← hw9]; exact cGi
          have hN9 : Nums w9 w.heap.size n (setI (rankK p i) x M) := by rw [← hw9]; exact HN.out.only ((Only.refl [] _).drewN nq) (by simp)
          have ho9 : Only [w.heap.size] w1 w9 := by rw [← hw9]; exact HOI.out.drewN nq
          rw [hw9]
          clear hw9 cY crq2 cW
          by_cases hgt : M < ry + wy
          · have hgW : ¬ g = w.heap.size := by omega
            have hTW : ¬ wo.heap.size = w.heap.size := by omega
            have hos : Only [w.heap.size] w9 (w9.setCell ⟨w.heap.size, x, none⟩ (.int .i64 (ry + wy))) := (Only.refl _ w9).setCell (by simp) _
            have e1 := Lib.hid ((hN9.set x (ry + wy)).congr (g := setI (rankK p i) x (maxL (((ndOf p x).take (q + 1)).map fun y => rankK p i y.toNat + wkOf p y.toNat))) fun j _ => by
              rw [htk.out]
              unfold updI setI
              by_cases e : j = x
              · simp only [if_pos e]; omega
              · simp only [if_neg e])
            have e2 := Lib.hid ((hos.cell (p := ⟨wo.heap.size, 1, none⟩) (cell_lt cTi) (by simpa using hTW)).trans cTi)
            have e3 := Lib.hid ((hos.cell (p := ⟨g, i, none⟩) (cell_lt cGi) (by simpa using hgW)).trans cGi)
            have e4 := Lib.hid (ho9.trans hos (fun y hy _ => hy))
            clear hN9 ho9 hos
            go_wp2
            go_roundw
            case rel => exact ⟨q + 1, by omega, by go_num, e1.out, e2.out, e3.out, e4.out⟩
            case measure => (simp [intOf]; try omega)
          · have e1 := Lib.hid (hN9.congr (g := setI (rankK p i) x (maxL (((ndOf p x).take (q + 1)).map fun y => rankK p i y.toNat + wkOf p y.toNat))) fun j _ => by
              rw [htk.out]
              unfold setI
              by_cases e : j = x
              · simp only [if_pos e]; omega
              · simp only [if_neg e])
            clear hN9
            go_wp2
            go_roundw
            case rel => exact ⟨q + 1, by omega, by go_num, e1.out, cTi, cGi, ho9⟩
            case measure => (simp [intOf]; try omega)
        · obtain rfl : q = m := by omega
          have htk : (ndOf p x).take q = ndOf p x := List.take_of_length_le (Nat.le_of_eq HM.out)
          rw [htk] at hN
          have hN9 := Lib.hid (hN.congr (g := rankK p (i + 1)) (fun j _ => by rw [hsu.out]; rfl))
          clear hN htk
          go_wp2
          go_roundw
          case rel => exact ⟨i + 1, by omega, by go_num, hN9.out, hoi⟩
          case measure => (simp [intOf]; try omega)
    · obtain rfl : i = n := by omega
      have hf := Lib.hid (hB.congr (g := rankF p) (fun j hj => by
        unfold rankK
        rw [if_pos]
        rw [List.take_of_length_le (Nat.le_of_eq HOL.out)]
        exact (orderOf_mem HO.out j).2 (by rw [HL.out]; exact hj)))
      clear hB
      go_wp2
      go_ret
      exact ⟨_, rfl, Nat.le_refl _, hf.out, hww⟩

end Go.Proofs.YtadjcooemeaaeaaDoor
