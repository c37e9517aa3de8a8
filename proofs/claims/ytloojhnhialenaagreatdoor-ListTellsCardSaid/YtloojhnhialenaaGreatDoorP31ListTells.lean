/-
  Contracts of yardref1.Tails and yardref1.Span.
  Contract of yardref1.Cutting.
  Contract of yardref2.Urgent, of a right plan.
-/
import Derived.Test.YtloojhnhialenaaGreatDoorP30ListTells
import Derived.Test.YtloojhnhialenaaGreatDoorP10ListTells
import Derived.Test.YtloojhnhialenaaGreatDoorP3ListTells
import Derived.Test.YtloojhnhialenaaGreatDoorP28ListTells
namespace Go.Proofs.YtloojhnhialenaaGreatDoor
open Go.RowKit Go.Deep

set_option maxRecDepth 100000 in
set_option maxHeartbeats 8000000 in
theorem ref_Tails (v : Value) (p : PlanL) (w : World) (h : InPlan w v p) (hok : PlanOk p) :
    Calls Tryz.prog 77 #[v] w fun e w' => ∃ L, e = .returned (.slice (some ⟨L, 0, none⟩) p.length p.length) ∧ w.heap.size ≤ L ∧ Nums w' L p.length (tailF p) ∧ Only [] w w' := by
  have HP := Lib.hid h
  have HO := Lib.hid hok
  have hor := Lib.hid (fun w' (ho : Only [] w w') => ref_Order v p w' (h.same ho) hok)
  obtain ⟨a, cap, rfl, hc1, hc2, _⟩ := h.task
  obtain ⟨n, hn⟩ : ∃ n, p.length = n := ⟨_, rfl⟩
  have HL := Lib.hid hn
  rw [hn] at hc1 HP hor ⊢
  have h30 : n ≤ 30 := by rw [← hn]; exact hok.len
  have hmk := make_ints n (by omega)
  have hB0 := made_nums w n
  have ho1 := (Only.refl [] w).alloc (.cells (madeCells #[.int .i64 0] n) 3)
  have hO1 := hor.out _ ho1
  have hol : (orderOf p).length = n := (topo_len hok p.length (Nat.le_refl _)).trans hn
  have HOL := Lib.hid hol
  clear h hn hok hor
  go_enter Tryz.func77, Tryz.ntmps77
  go_wp2_with fail
  refine hO1.mono ?_
  rintro e w1 ⟨vo, rfl, hI, ho2⟩
  clear hO1
  have hoo := ho1.trans ho2 (by simp)
  have hB1 := (hB0.only ho2 (by simp)).congr (g := tailG p (doneT p n)) (fun j _ => by rw [← HOL.out, tailG_zero])
  have hfar := fun x (hx : x ∈ own vo) => (hI.own_lt x hx).1
  have hs2 := ho2.size
  rw [World.size_alloc] at hfar hs2
  obtain ⟨oa, oc, rfl, hco⟩ := hI.opt
  rw [natL_len, hol] at hco hI hfar ⊢
  have HCO := Lib.hid hco
  clear hB0 ho1 ho2 hco hol hI
  go_wp2_with fail
  go_loopw [5, 6, 7] (fun vi _ _ wr => ∃ (i : Nat) (nv : Int), i ≤ n ∧ nv = (i : Int) - 1 ∧ vi = .int .i64 nv ∧ Nums wr w.heap.size n (tailG p (doneT p i)) ∧ Only [w.heap.size] w1 wr) (fun vi _ _ _ => (intOf vi + 1).toNat)
  case atStart => exact ⟨n, _, Nat.le_refl _, rfl, rfl, hB1, Only.refl _ _⟩
  case round =>
    clear hB1
    obtain ⟨wo, rfl⟩ : ∃ wo : World, wo = wr := ⟨_, rfl⟩
    obtain ⟨i, nv, hi, hnv, rfl, hB, ho⟩ := hrel
    have hww : Only [] w wo := hoo.trans ho (fun x hx hl => by simp at hx; omega)
    rcases i with _ | i
    · have hnv1 : nv = -1 := by omega
      clear hnv
      subst hnv1
      have hf := Lib.hid (hB.congr (g := tailF p) (fun j hj => tailG_all HO.out (by rw [HL.out]; exact hj)))
      clear hB
      go_wp2
      go_ret
      exact ⟨_, rfl, Nat.le_refl _, hf.out, hww⟩
    · have hnv1 : nv = (i : Int) := by omega
      clear hnv
      subst hnv1
      have hin : i < n := by omega
      have hkl : i < (orderOf p).length := by rw [HOL.out]; exact hin
      obtain ⟨g, rfl, hcg⟩ := HCO.out i hin
      rw [natL_nth _ _ hkl] at hcg
      have hgA := hfar g (by simp [own, Value.ownBlock])
      have cG := (ho.cell (p := ⟨g, i, none⟩) (cell_lt hcg) (by simp; omega)).trans hcg
      have hxn : (orderOf p)[i] < p.length := (orderOf_mem HO.out _).1 (List.getElem_mem hkl)
      have hself := tailG_self HO.out hkl
      have HEND := Lib.hid (fun j => tailH_end HO.out hkl j)
      have HNEED := Lib.hid (fun k hk => doneT_need HO.out hkl (k := k) hk)
      obtain ⟨x, hx⟩ : ∃ x, (orderOf p)[i] = x := ⟨_, rfl⟩
      rw [hx] at hcg cG hxn hself HEND HNEED
      have HXN := Lib.hid hxn
      rw [HL.out] at hxn
      clear hx
      obtain ⟨pb, po, rfl⟩ := HP.out.any x (by rw [HL.out]; exact hxn)
      obtain ⟨ua, uc, c0, c1, hrd⟩ := HP.out.at x (by rw [HL.out]; exact hxn)
      have cX := (hB x hxn).1
      have fX := (hB x hxn).2
      have hgb := tailG_bd HO.out (doneT p (i + 1)) x HXN.out
      have htf := tailF_le HO.out HXN.out
      have hwk := HO.out.work x HXN.out
      obtain ⟨tx, htx⟩ : ∃ t, tailF p x = t := ⟨_, rfl⟩
      obtain ⟨gx, hgx⟩ : ∃ t, tailG p (doneT p (i + 1)) x = t := ⟨_, rfl⟩
      obtain ⟨kx, hkx⟩ : ∃ t, wkOf p x = t := ⟨_, rfl⟩
      rw [hgx] at cX hgb hself
      rw [htx] at htf hself
      rw [hkx] at hself hwk htf c0
      have HTX := Lib.hid htx
      obtain rfl : tx = gx + kx := by omega
      have hnl : (ndOf p x).length ≤ 30 := by have := HO.out.needs x; rw [HL.out] at this; omega
      obtain ⟨ra, rc, er, hrc⟩ := hrd.opt
      injection er with er1 _ er2
      subst er1
      have HMEM := Lib.hid (fun q (hq : q < (ndOf p x).length) => (by rw [nth, List.getElem?_eq_getElem hq]; exact List.getElem_mem hq : nth (ndOf p x) q ∈ ndOf p x))
      have HRC := Lib.hid hrc
      have HSTEP := Lib.hid (fun q y hq hy hyx j => tailH_step (p := p) (D := doneT p (i + 1)) (x := x) (q := q) (y := y) hq hy hyx j)
      have HBD := Lib.hid (fun q j hj => tailH_bd HO.out (doneT p (i + 1)) x q HXN.out j hj)
      obtain ⟨m, hm⟩ : ∃ m, (ndOf p x).length = m := ⟨_, rfl⟩
      have HM := Lib.hid hm
      rw [hm] at c1 hnl HMEM HRC HEND HSTEP
      have hset := hB.set x (gx + kx)
      have hN1 := Lib.hid ((hset.congr (g := tailH p (doneT p (i + 1)) x 0) (fun j _ => by
        unfold updI tailH
        rw [HTX.out]
        simp)))
      have hoS : Only [w.heap.size] wo ((wo.setCell ⟨w.heap.size, x, none⟩ (.int .i64 (gx + kx))).drew) := ((Only.refl _ wo).setCell (by simp) _).drew
      have hwS : Only [] w ((wo.setCell ⟨w.heap.size, x, none⟩ (.int .i64 (gx + kx))).drew) := hww.trans hoS (fun y hy hl => by simp at hy; omega)
      have hN2 : Nums ((wo.setCell ⟨w.heap.size, x, none⟩ (.int .i64 (gx + kx))).drew) w.heap.size n (tailH p (doneT p (i + 1)) x 0) := hN1.out.only ((Only.refl [] _).drew) (by simp)
      have cGS := (hoS.cell (p := ⟨g, i, none⟩) (cell_lt cG) (by simp; omega)).trans cG
      have hoS1 : Only [w.heap.size] w1 ((wo.setCell ⟨w.heap.size, x, none⟩ (.int .i64 (gx + kx))).drew) := ho.trans hoS (fun y hy _ => hy)
      have c0S := (hwS.cell (p := ⟨pb, po + x * 2, none⟩) (cell_lt c0) (by simp)).trans c0
      have c1S := (hwS.cell (p := ⟨pb, po + x * 2 + 1, none⟩) (cell_lt c1) (by simp)).trans c1
      have c0 := (hww.cell (p := ⟨pb, po + x * 2, none⟩) (cell_lt c0) (by simp)).trans c0
      have c1 := (hww.cell (p := ⟨pb, po + x * 2 + 1, none⟩) (cell_lt c1) (by simp)).trans c1
      obtain ⟨W, hW⟩ : ∃ W, (wo.setCell ⟨w.heap.size, x, none⟩ (.int .i64 (gx + kx))).drew = W := ⟨_, rfl⟩
      rw [hW] at hwS hN2 cGS hoS1 c0S c1S
      have hLT : w.heap.size < W.heap.size := by have := hoS1.size; omega
      have hal := (Only.refl [] W).alloc (.cells #[.int .i64 kx, .slice ua m uc] 68)
      have hO3 := Lib.hid (hoS1.trans hal (by simp))
      have hN3 := Lib.hid (hN2.only hal (by simp))
      have hw3 := Lib.hid (hwS.trans hal (by simp))
      have cG3 := Lib.hid ((hal.cell (p := ⟨g, i, none⟩) (cell_lt cGS) (by simp)).trans cGS)
      clear hset hrc hrd er2 hm htx hgx hkx hself hB hoS hwS hN2 hoS1 hN1 hww hal ho
      have cT := (Cells.new W #[.int .i64 kx, .slice ua m uc] 68).cell 1 _ rfl
      have hTl : W.heap.size < (W.alloc (.cells #[.int .i64 kx, .slice ua m uc] 68)).heap.size := by simp
      go_wp2_with fail
      go_still_tail 21, (by kernel_rfl)
      go_wp2_with fail
      go_loopw [7] (fun vq wr => ∃ q : Nat, q ≤ m ∧ vq = .int .i64 q ∧ Nums wr w.heap.size n (tailH p (doneT p (i + 1)) x q) ∧ wr.cell? ⟨W.heap.size, 1, none⟩ = some (.slice ua m uc) ∧ wr.cell? ⟨g, i, none⟩ = some (.int .i64 (x : Int)) ∧ Only [w.heap.size] w1 wr) (fun vq _ => m - (intOf vq).toNat)
      case atStart => exact ⟨0, Nat.zero_le _, rfl, hN3.out, cT, cG3.out, hO3.out⟩
      case round =>
        clear cT hTl cGS c0S c1S cX fX
        obtain ⟨wi, rfl⟩ : ∃ wi : World, wi = wr := ⟨_, rfl⟩
        obtain ⟨q, hq, rfl, hN, cT, cGi, hoi⟩ := hrel
        have hwi : Only [] w wi := hoo.trans hoi (fun y hy hl => by simp at hy; omega)
        by_cases hqm : q < m
        · obtain ⟨rb, ro, rfl, crq⟩ := HRC.out q hqm
          have hmem := HMEM.out q hqm
          have hql : q < (ndOf p x).length := by rw [HM.out]; exact hqm
          have hb := HO.out.need x _ hmem
          have hnd := HNEED.out _ hmem
          have hst := HSTEP.out q
          obtain ⟨y, hy⟩ : ∃ y, nth (ndOf p x) q = y := ⟨_, rfl⟩
          rw [hy] at crq hb hnd hst
          obtain ⟨yn, rfl⟩ := Int.eq_ofNat_of_zero_le hb.1
          rw [Int.toNat_natCast] at hnd
          have hyn : yn < n := by have := HL.out; omega
          have hst := Lib.hid (fun j => hst yn hqm rfl hnd.2 j)
          have crq2 := (hwi.cell (p := ⟨rb, ro + q, none⟩) (cell_lt crq) (by simp)).trans crq
          have cX := (hN x hxn).1
          have cY := (hN yn hyn).1
          have fY := (hN yn hyn).2
          have hby := HBD.out q yn (by rw [HL.out]; exact hyn)
          have hxx : tailH p (doneT p (i + 1)) x q x = gx + kx := by unfold tailH; rw [if_pos rfl]; exact HTX.out
          rw [hxx] at cX
          obtain ⟨ty, hty⟩ : ∃ t, tailH p (doneT p (i + 1)) x q yn = t := ⟨_, rfl⟩
          rw [hty] at cY hby
          have HTY := Lib.hid hty
          have HST : Hid (∀ j, tailH p (doneT p (i + 1)) x (q + 1) j = if j = yn then max ty (gx + kx) else tailH p (doneT p (i + 1)) x q j) := by
            show ∀ j, _
            intro j
            rw [hst.out j, HTX.out, hty]
          have HN := Lib.hid hN
          have HOI := Lib.hid hoi
          have HQ := Lib.hid hqm
          have HLx := Lib.hid (cell_lt cX)
          have hcT := Lib.hid cT
          have hcG := Lib.hid cGi
          clear hst hty hxx hN hoi hwi crq hmem hb hnd
          by_cases hgt : ty < gx + kx
          · have hgW : ¬ g = w.heap.size := by omega
            have hTW : ¬ W.heap.size = w.heap.size := by omega
            go_wp2_with fail
            go_quiet (fail)
            obtain ⟨w9, hw9⟩ : ∃ w9, wi.drewN nq = w9 := ⟨_, rfl⟩
            have cX : w9.cell? ⟨w.heap.size, x, none⟩ = some (.int .i64 (gx + kx)) := by rw [← hw9]; exact cX
            have cY : w9.cell? ⟨w.heap.size, yn, none⟩ = some (.int .i64 ty) := by rw [← hw9]; exact cY
            have fY : w9.frozen? ⟨w.heap.size, yn, none⟩ = false := by rw [← hw9]; exact fY
            have cT : w9.cell? ⟨W.heap.size, 1, none⟩ = some (.slice (some ⟨rb, ro, none⟩) m uc) := by rw [← hw9]; exact cT
            have cGi : w9.cell? ⟨g, i, none⟩ = some (.int .i64 (x : Int)) := by rw [← hw9]; exact cGi
            have crq2 : w9.cell? ⟨rb, ro + q, none⟩ = some (.int .i64 (yn : Int)) := by rw [← hw9]; exact crq2
            have hN9 : Nums w9 w.heap.size n (tailH p (doneT p (i + 1)) x q) := by rw [← hw9]; exact HN.out.only ((Only.refl [] _).drewN nq) (by simp)
            have ho9 : Only [w.heap.size] w1 w9 := by rw [← hw9]; exact HOI.out.drewN nq
            rw [hw9]
            clear hw9
            have hos : Only [w.heap.size] w9 ((w9.setCell ⟨w.heap.size, yn, none⟩ (.int .i64 (gx + kx))).drew) := ((Only.refl _ w9).setCell (by simp) _).drew
            have e1 := Lib.hid (((hN9.set yn (gx + kx)).only ((Only.refl [] _).drew) (by simp)).congr (g := tailH p (doneT p (i + 1)) x (q + 1)) fun j _ => by
              unfold updI
              rw [HST.out j]
              by_cases e : j = yn
              · rw [if_pos e, if_pos e]; omega
              · rw [if_neg e, if_neg e])
            have e2 := Lib.hid ((hos.cell (p := ⟨W.heap.size, 1, none⟩) (cell_lt cT) (by simpa using hTW)).trans cT)
            have e3 := Lib.hid ((hos.cell (p := ⟨g, i, none⟩) (cell_lt cGi) (by simpa using hgW)).trans cGi)
            have e4 := Lib.hid (ho9.trans hos (fun y hy _ => hy))
            clear hN9 ho9 hos
            go_wp2_with fail
            go_still_tail 13, (by kernel_rfl)
            go_wp2
            go_roundw
            case rel => exact ⟨q + 1, by omega, by go_num, e1.out, e2.out, e3.out, e4.out⟩
            case measure => (simp [intOf]; try omega)
          · have hno : Hid (∀ k, Nums (wi.drewN k) w.heap.size n (tailH p (doneT p (i + 1)) x (q + 1))) := fun k =>
              (HN.out.only ((Only.refl [] _).drewN k) (by simp)).congr fun j _ => by
                rw [HST.out j]
                by_cases e : j = yn
                · subst e; rw [if_pos rfl, HTY.out]; omega
                · rw [if_neg e]
            go_wp2_with fail
            go_quiet (fail)
            go_wp2
            go_roundw
            case rel => exact ⟨q + 1, by omega, by go_num, hno.out _, hcT.out, hcG.out, HOI.out.drewN _⟩
            case measure => (simp [intOf]; try omega)
        · obtain rfl : q = m := by omega
          have hN9 := Lib.hid (hN.congr (g := tailG p (doneT p i)) (fun j _ => HEND.out j))
          clear hN
          go_wp2
          go_roundw
          case rel => exact ⟨i, (i : Int) - 1, by omega, rfl, by go_num, hN9.out, hoi⟩
          case measure => (simp [intOf]; try omega)


end Go.Proofs.YtloojhnhialenaaGreatDoor

namespace Go.Proofs.YtloojhnhialenaaGreatDoor
open Go.RowKit

theorem cut_lt_take (xs : List Int) (i k : Nat) (z : Int) (h : xs.take (i + 1) = xs.take i ++ [z]) (hl : (xs.take i).length = i) (hik : i < k) : (xs.take i).take k ++ [z] = (xs.take (i + 1)).take k := by
  rw [h]
  generalize xs.take i = ys at *
  rw [List.take_of_length_le (by omega), List.take_of_length_le (by simp; omega)]
theorem cut_lt_drop (xs : List Int) (i k : Nat) (z : Int) (h : xs.take (i + 1) = xs.take i ++ [z]) (hl : (xs.take i).length = i) (hik : i < k) : (xs.take i).drop k = (xs.take (i + 1)).drop k := by
  rw [h]
  generalize xs.take i = ys at *
  rw [List.drop_eq_nil_of_le (by omega), List.drop_eq_nil_of_le (by simp; omega)]
theorem cut_ge_drop (xs : List Int) (i k : Nat) (z : Int) (h : xs.take (i + 1) = xs.take i ++ [z]) (hl : (xs.take i).length = i) (hik : k ≤ i) : (xs.take i).drop k ++ [z] = (xs.take (i + 1)).drop k := by
  rw [h]
  generalize xs.take i = ys at *
  rw [List.drop_append_of_le_length (by omega)]
theorem cut_ge_take (xs : List Int) (i k : Nat) (z : Int) (h : xs.take (i + 1) = xs.take i ++ [z]) (hl : (xs.take i).length = i) (hik : k ≤ i) : (xs.take i).take k = (xs.take (i + 1)).take k := by
  rw [h]
  generalize xs.take i = ys at *
  rw [List.take_append_of_le_length (by omega)]

set_option maxHeartbeats 2000000 in
theorem cutting_apart (v : Value) (xs : List Int) (k : Nat) (w : World) (hv : Reads w v xs) (hl : xs.length ≤ 1000000) (hk : k ≤ 9223372036854775807) :
    Calls Tryz.prog 78 #[v, .int .i64 k] w fun e w' => ∃ va vb, e = .returned (.tuple #[va, vb]) ∧ Ints w' w.heap.size va (xs.take k) ∧ Ints w' w.heap.size vb (xs.drop k) ∧ Only [] w w' ∧ ∀ x ∈ own va, x ∉ own vb := by
  obtain ⟨a, ca, rfl, ha⟩ := hv.opt
  obtain ⟨n, hn⟩ : ∃ n, xs.length = n := ⟨_, rfl⟩
  have HN := Lib.hid hn
  rw [hn] at ha hl ⊢
  clear hv hn
  go_enter Tryz.func78, Tryz.ntmps78
  go_wp2_with fail
  go_loopw [6, 7, 8] (fun vp vq vi wr => ∃ i : Nat, i ≤ n ∧ vi = .int .i64 i ∧ Ints wr w.heap.size vp ((xs.take i).take k) ∧ Ints wr w.heap.size vq ((xs.take i).drop k) ∧ Only [] w wr ∧ (∀ x ∈ own vp, x ∉ own vq)) (fun _ _ vi _ => n - (intOf vi).toNat)
  case atStart => exact ⟨0, Nat.zero_le _, rfl, by simp; exact Ints.nil _ _, by simp; exact Ints.nil _ _, Only.refl _ _, by simp [own, Value.ownBlock]⟩
  case round =>
    obtain ⟨i, hi, rfl, hI, hJ, ho, hd⟩ := hrel
    have hsz := ho.size
    by_cases hin : i < n
    · obtain ⟨ba, oa, rfl, k0⟩ := ha i hin
      have c0 := (ho.cell (p := ⟨ba, _, none⟩) (cell_lt k0) (by simp)).trans k0
      have hst := take_succ_nth xs i (by rw [HN.out]; exact hin)
      have hti : (xs.take i).length = i := by rw [List.length_take, HN.out]; omega
      obtain ⟨z, hz⟩ : ∃ z, nth xs i = z := ⟨_, rfl⟩
      rw [hz] at c0 hst
      obtain ⟨pa, pc, rfl, _⟩ := hI.opt
      obtain ⟨qa, qc, rfl, _⟩ := hJ.opt
      have HD := Lib.hid hd
      obtain ⟨p, hp⟩ : ∃ p, ((xs.take i).take k).length = p := ⟨_, rfl⟩
      obtain ⟨q, hq⟩ : ∃ q, ((xs.take i).drop k).length = q := ⟨_, rfl⟩
      have hpi : p ≤ i := by rw [← hp, List.length_take, hti]; omega
      have hqi : q ≤ i := by rw [← hq, List.length_drop, hti]; omega
      have HP := Lib.hid hp
      have HQ := Lib.hid hq
      rw [hp] at hI HD ⊢
      rw [hq] at hJ HD ⊢
      by_cases hik : i < k
      · have hpl : Hid (p = i) := by show _ = _; rw [← hp, List.length_take, hti]; omega
        have e1 := Lib.hid (cut_lt_take xs i k z hst hti hik)
        have e2 := Lib.hid (cut_lt_drop xs i k z hst hti hik)
        rw [hpl.out] at hI HD HP ⊢
        clear ha k0 hst hti hz hd hp hq
        go_wp2_with (at_builtin; refine wpList_push rfl (.tmp 18) (.tmp 23) rfl wr w.heap.size _ _ _ z i hI HP.out (by omega) hsz rfl rfl ((Only.refl [] wr).alloc _) (World.cell?_alloc_at _ _ _ _ rfl) ?_; intro g cap w3 hI3 hO3 hK3)
        rw [e1.out] at hI3
        have hJ3 := hJ.only hO3 (fun g9 h9 hx => HD.out g9 hx (own_of h9))
        rw [e2.out] at hJ3
        have ho3 := Lib.hid (ho.pushed hI (Nat.le_refl _) hO3)
        have hd3 : Hid (∀ x ∈ own (Value.slice (some ⟨g, 0, none⟩) (i + 1) cap), x ∉ own (Value.slice qa q qc)) := by
          show ∀ x ∈ _, _
          intro x hx hx2
          obtain rfl : x = g := by simpa [own, Value.ownBlock] using hx
          rcases hK3 with h | h
          · exact HD.out _ h hx2
          · have := (hJ.own_lt _ hx2).2; omega
        go_roundw
        case rel => exact ⟨i + 1, by omega, by go_num, hI3, hJ3, ho3.out, hd3.out⟩
        case measure => (simp [intOf]; try omega)
      · have hki : k ≤ i := by omega
        have e1 := Lib.hid (cut_ge_drop xs i k z hst hti (by omega))
        have e2 := Lib.hid (cut_ge_take xs i k z hst hti (by omega))
        clear ha k0 hst hti hz hd hp hq
        go_wp2_with (at_builtin; refine wpList_push rfl (.tmp 25) (.tmp 30) rfl wr w.heap.size _ _ _ z q hJ HQ.out (by omega) hsz rfl rfl ((Only.refl [] wr).alloc _) (World.cell?_alloc_at _ _ _ _ rfl) ?_; intro g cap w3 hJ3 hO3 hK3)
        rw [e1.out] at hJ3
        have hI3 := hI.only hO3 (fun g9 h9 hx => HD.out g9 (own_of h9) hx)
        rw [e2.out] at hI3
        have ho3 := Lib.hid (ho.pushed hJ (Nat.le_refl _) hO3)
        have hd3 : Hid (∀ x ∈ own (Value.slice pa p pc), x ∉ own (Value.slice (some ⟨g, 0, none⟩) (q + 1) cap)) := by
          show ∀ x ∈ _, _
          intro x hx hx2
          obtain rfl : x = g := by simpa [own, Value.ownBlock] using hx2
          rcases hK3 with h | h
          · exact HD.out _ hx h
          · have := (hI.own_lt _ hx).2; omega
        go_roundw
        case rel => exact ⟨i + 1, by omega, by go_num, hI3, hJ3, ho3.out, hd3.out⟩
        case measure => (simp [intOf]; try omega)
    · obtain rfl : i = n := by omega
      rw [show xs.take i = xs from List.take_of_length_le (by rw [HN.out]; exact Nat.le_refl _)] at hI hJ
      clear ha
      go_wp2
      go_ret2
      exact ⟨_, _, rfl, hI, hJ, ho, hd⟩

theorem cutting (v : Value) (xs : List Int) (k : Nat) (w : World) (hv : Reads w v xs) (hl : xs.length ≤ 1000000) (hk : k ≤ 9223372036854775807) :
    Calls Tryz.prog 78 #[v, .int .i64 k] w fun e w' => ∃ va vb, e = .returned (.tuple #[va, vb]) ∧ Ints w' w.heap.size va (xs.take k) ∧ Ints w' w.heap.size vb (xs.drop k) ∧ Only [] w w' :=
  (cutting_apart v xs k w hv hl hk).mono fun _ _ ⟨va, vb, h1, h2, h3, h4, _⟩ => ⟨va, vb, h1, h2, h3, h4⟩

end Go.Proofs.YtloojhnhialenaaGreatDoor

namespace Go.Proofs.YtloojhnhialenaaGreatDoor
open Go.RowKit Go.Deep

theorem urgL_get {T : Nat → Int} {n k : Nat} (h : k < n) : ∃ j : Nat, j < n ∧ nth (urgL T n) k = (j : Int) := by
  have hl := urgL_len T n
  exact (urgL_mem T n _).1 (nth_mem (by omega))

set_option maxRecDepth 100000 in
set_option maxHeartbeats 4000000 in
theorem ref_Urgent (v : Value) (p : PlanL) (w : World) (h : InPlan w v p) (hok : PlanOk p) :
    Calls Tryz.prog 31 #[v] w fun e w' => ∃ v', e = .returned v' ∧ Ints w' w.heap.size v' (urgL (tailF p) p.length) ∧ Only [] w w' := by
  have hT := ref_Tails v p w h hok
  have h30 := hok.len
  obtain ⟨a, cap, rfl, hc1, hc2, _⟩ := h.task
  obtain ⟨n, hn⟩ : ∃ n, p.length = n := ⟨_, rfl⟩
  rw [hn] at hT h30 ⊢
  obtain ⟨T, hTT⟩ : ∃ T, tailF p = T := ⟨_, rfl⟩
  rw [hTT] at hT ⊢
  clear h hok hn hTT hc2 hc1
  go_enter Tryz.func31, Tryz.ntmps31
  go_wp2_with fail
  refine hT.mono ?_
  rintro e w1 ⟨L, rfl, hL, hN, ho1⟩
  clear hT
  go_wp2_with fail
  go_loopw [4, 5, 6, 7, 8] (fun vo vi _ _ _ wr => ∃ i : Nat, i ≤ n ∧ vi = .int .i64 i ∧ Ints wr w1.heap.size vo (urgL T i) ∧ Only [] w1 wr) (fun _ vi _ _ _ _ => n - (intOf vi).toNat)
  case atStart => exact ⟨0, Nat.zero_le _, rfl, Ints.nil _ _, Only.refl _ _⟩
  case round =>
    obtain ⟨i, hi, rfl, hI, ho⟩ := hrel
    have HI := Lib.hid hI
    have hNr := hN.only ho (by simp)
    by_cases hin : i < n
    · have hTi := (hNr i hin).1
      have hlen := urgL_len T i
      have hrd := hI.reads
      have HG := Lib.hid (fun k (hk : k < i) => urgL_get (T := T) hk)
      obtain ⟨oa, oc, rfl, hcl⟩ := hI.opt
      have HLI := Lib.hid (fun k (hk : k ≤ (urgL T i).length) => leadU_is (T := T) (x := i) hk)
      have HIN := Lib.hid (show urgL T (i + 1) = insU T (urgL T i) i from rfl)
      obtain ⟨l, hl⟩ : ∃ l, urgL T i = l := ⟨_, rfl⟩
      rw [hl] at hlen hrd HI HG hcl HLI HIN
      rw [hl, hlen]
      rw [hlen] at hcl HLI HI hrd
      clear hI hl
      obtain ⟨wo, rfl⟩ : ∃ wo, wo = wr := ⟨_, rfl⟩
      have HC := Lib.hid (fun W (h : Only [] wo W) (k : Nat) (hk : k ≤ i) => cutting_apart (.slice oa i oc) l k W (hrd.same h) (by omega) (by omega))
      have HLEN := Lib.hid hlen
      clear hlen hrd
      go_wp2_with fail
      go_loopw [6] (fun vk wr => ∃ k : Nat, k ≤ i ∧ vk = .int .i64 k ∧ (∀ j, j < k → T i ≤ T (nth l j).toNat) ∧ ∃ m, wr = wo.drewN m) (fun vk _ => i - (intOf vk).toNat)
      case atStart => exact ⟨0, Nat.zero_le _, rfl, fun j hj => by omega, 0, rfl⟩
      case round =>
        obtain ⟨k, hk, rfl, hlo, m, rfl⟩ := hrel
        by_cases hki : k < i
        · obtain ⟨j, hj, hjn⟩ := HG.out k hki
          obtain ⟨ob, rfl, hc⟩ := hcl k hki
          rw [hjn] at hc
          have hTj := (hNr j (by omega)).1
          have hd : decide ((k : Int) < (i : Int)) = true := by simp; omega
          by_cases hge : T i ≤ T j
          · have hd2 : decide (T i ≤ T j) = true := by simp [hge]
            have hlo2 := Lib.hid (show ∀ q, q < k + 1 → T i ≤ T (nth l q).toNat from fun q hq => by
              by_cases e : q < k
              · exact hlo q e
              · rw [show q = k by omega, hjn]; simpa using hge)
            clear hlo hcl hN hNr
            go_wp2_with fail
            go_quiet (fail)
            go_wp2
            go_roundw
            case rel => exact ⟨k + 1, by omega, by go_num, hlo2.out, _, rfl⟩
            case measure => (simp [intOf]; try omega)
          · have hd2 : decide (T i ≤ T j) = false := by simp; omega
            have HLD := Lib.hid (HLI.out k hk hlo (.inr (by rw [hjn]; simp; omega)))
            clear hlo hcl hN hNr
            go_wp2_with fail
            go_quiet (fail)
            go_wp2_with fail
            refine (HC.out _ (by first | exact (Only.refl [] wo).drewN _ | exact Only.refl [] wo) k hk).mono ?_
            rintro e w3 ⟨va, vb, rfl, hIa, hIb, ho3, hap⟩
            have ho3 := (ho.drewN _).trans ho3 (by simp)
            have hz0 := ho.size
            have hIa : Ints w3 w1.heap.size va (l.take k) := hIa.mono hz0
            have hIb : Ints w3 w1.heap.size vb (l.drop k) := hIb.mono hz0
            have hka : (l.take k).length = k := by rw [List.length_take, HLEN.out]; omega
            have hkb : (l.drop k).length ≤ 30 := by rw [List.length_drop, HLEN.out]; omega
            obtain ⟨aa, ac, rfl, _⟩ := hIa.opt
            obtain ⟨ba, bc, rfl, _⟩ := hIb.opt
            obtain ⟨d, hd⟩ : ∃ d, (l.drop k).length = d := ⟨_, rfl⟩
            rw [hka] at hIa hap ⊢
            rw [hd] at hIb hap hkb ⊢
            have HK := Lib.hid (show (l.take k).length = k from hka)
            have HD := Lib.hid hd
            have HAP := Lib.hid hap
            have hsz3 := ho3.size
            clear hka hd hap hz0
            go_wp2_with (first
              | (at_builtin; refine wpList_push rfl (.tmp 43) (.tmp 45) rfl w3 w1.heap.size _ _ _ (i : Int) k hIa HK.out (by omega) hsz3 rfl rfl ((Only.refl [] w3).alloc _) (World.cell?_alloc_at _ _ _ _ rfl) ?_; intro g cap w4 hI4 hO4 hK4; have hIb4 := hIb.only hO4 (fun g9 h9 hx => HAP.out g9 hx (own_of h9)); have ho4 := ho3.pushed hIa (Nat.le_refl _) hO4; have hsz4 := ho4.size; have hRb := hIb4.reads; clear hIa hIb hO4 hK4 ho3 hsz3)
              | (at_builtin; refine wpList_append_reads rfl (.tmp 47) (.tmp 48) rfl w4 w1.heap.size _ _ _ _ hI4 hRb (by rw [List.length_append, HK.out, HD.out]; simp; omega) hsz4 rfl rfl (Only.refl _ _) ?_; intro v5 w5 hI5 hO5 hK5; have ho5 := ho4.pushed hI4 (Nat.le_refl _) hO5; clear hI4 hO5 hK5 ho4 hRb hIb4))
            have hI5 := Lib.hid hI5
            have ho5 := Lib.hid ho5
            go_roundw
            case rel => exact ⟨i + 1, by omega, by go_num, by rw [HIN.out]; unfold insU; rw [HLD.out]; exact hI5.out, ho5.out⟩
            case measure => (simp [intOf]; try omega)
        · obtain rfl : k = i := by omega
          have HLD := Lib.hid (HLI.out k hk hlo (.inl rfl))
          have hd : decide ((k : Int) < (k : Int)) = false := by simp
          clear hlo hcl hN hNr
          go_wp2_with fail
          go_quiet (fail)
          go_wp2_with fail
          refine (HC.out _ (by first | exact (Only.refl [] wo).drewN _ | exact Only.refl [] wo) k hk).mono ?_
          rintro e w3 ⟨va, vb, rfl, hIa, hIb, ho3, hap⟩
          have ho3 := (ho.drewN _).trans ho3 (by simp)
          have hz0 := ho.size
          have hIa : Ints w3 w1.heap.size va (l.take k) := hIa.mono hz0
          have hIb : Ints w3 w1.heap.size vb (l.drop k) := hIb.mono hz0
          have hka : (l.take k).length = k := by rw [List.length_take, HLEN.out]; omega
          have hkb : (l.drop k).length ≤ 30 := by rw [List.length_drop, HLEN.out]; omega
          obtain ⟨aa, ac, rfl, _⟩ := hIa.opt
          obtain ⟨ba, bc, rfl, _⟩ := hIb.opt
          obtain ⟨d, hd⟩ : ∃ d, (l.drop k).length = d := ⟨_, rfl⟩
          rw [hka] at hIa hap ⊢
          rw [hd] at hIb hap hkb ⊢
          have HK := Lib.hid (show (l.take k).length = k from hka)
          have HD := Lib.hid hd
          have HAP := Lib.hid hap
          have hsz3 := ho3.size
          clear hka hd hap hz0
          go_wp2_with (first
            | (at_builtin; refine wpList_push rfl (.tmp 43) (.tmp 45) rfl w3 w1.heap.size _ _ _ (k : Int) k hIa HK.out (by omega) hsz3 rfl rfl ((Only.refl [] w3).alloc _) (World.cell?_alloc_at _ _ _ _ rfl) ?_; intro g cap w4 hI4 hO4 hK4; have hIb4 := hIb.only hO4 (fun g9 h9 hx => HAP.out g9 hx (own_of h9)); have ho4 := ho3.pushed hIa (Nat.le_refl _) hO4; have hsz4 := ho4.size; have hRb := hIb4.reads; clear hIa hIb hO4 hK4 ho3 hsz3)
            | (at_builtin; refine wpList_append_reads rfl (.tmp 47) (.tmp 48) rfl w4 w1.heap.size _ _ _ _ hI4 hRb (by rw [List.length_append, HK.out, HD.out]; simp; omega) hsz4 rfl rfl (Only.refl _ _) ?_; intro v5 w5 hI5 hO5 hK5; have ho5 := ho4.pushed hI4 (Nat.le_refl _) hO5; clear hI4 hO5 hK5 ho4 hRb hIb4))
          have hI5 := Lib.hid hI5
          have ho5 := Lib.hid ho5
          go_roundw
          case rel => exact ⟨k + 1, by omega, by go_num, by rw [HIN.out]; unfold insU; rw [HLD.out]; exact hI5.out, ho5.out⟩
          case measure => (simp [intOf]; try omega)
    · obtain rfl : i = n := by omega
      clear hN hNr hI
      go_wp2_with fail
      go_ret
      exact ⟨_, rfl, HI.out.mono ho1.size, ho1.trans ho (by simp)⟩

end Go.Proofs.YtloojhnhialenaaGreatDoor
