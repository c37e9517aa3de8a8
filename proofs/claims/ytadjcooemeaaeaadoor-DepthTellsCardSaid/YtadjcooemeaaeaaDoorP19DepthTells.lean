/-
  Contracts of depth.WorkOf, SpanOf, Work, Span, Tails.
  Contract of depth.Ranks.
-/
import Derived.Test.YtadjcooemeaaeaaDoorP18DepthTells
namespace Go.Proofs.YtadjcooemeaaeaaDoor
open Go.RowKit Go.Deep

set_option maxRecDepth 100000 in
theorem depth_WorkOf (v : Value) (p : PlanL) (w : World) (h : InPlan w v p) (hok : PlanOk p) :
    Calls Tryd.prog 97 #[v] w fun e w' => e = .returned (.int .i64 (workF p)) ∧ Only [] w w' := by
  have HP := Lib.hid h
  have HO := Lib.hid hok
  obtain ⟨a, cap, rfl, hc1, hc2, _⟩ := h.task
  obtain ⟨n, hn⟩ : ∃ n, p.length = n := ⟨_, rfl⟩
  have HL := Lib.hid hn
  unfold workF
  rw [hn] at hc1 HP ⊢
  have h30 : n ≤ 30 := by rw [← hn]; exact hok.len
  clear h hn hok
  go_enter Tryd.func97, Tryd.ntmps97
  go_wp2
  go_loopw [3, 8] (fun vn vi wr => ∃ k : Nat, k ≤ n ∧ vi = .int .i64 k ∧ vn = .int .i64 (sumI (wkOf p) k) ∧ Only [] w wr) (fun _ vi _ => n - (intOf vi).toNat)
  case atStart => exact ⟨0, Nat.zero_le _, rfl, rfl, Only.refl _ _⟩
  case round =>
    obtain ⟨k, hk, rfl, rfl, ho⟩ := hrel
    by_cases hkn : k < n
    · obtain ⟨b, off, rfl⟩ := HP.out.any k (by rw [HL.out]; exact hkn)
      obtain ⟨ua, uc, c0, c1, _⟩ := (HP.out.same ho).at k (by rw [HL.out]; exact hkn)
      have hw := HO.out.work k (by rw [HL.out]; exact hkn)
      have hs := workK_bd HO.out k (by rw [HL.out]; exact hk)
      have hst : Hid (sumI (wkOf p) (k + 1) = sumI (wkOf p) k + wkOf p k) := rfl
      generalize sumI (wkOf p) k = s at *
      generalize wkOf p k = x at *
      generalize (ndOf p k).length = m at *
      have ho3 := ho.alloc (.cells #[.int .i64 x, .slice ua m uc] 46)
      go_wp2
      go_roundw
      case rel => exact ⟨k + 1, by omega, by go_num, by rw [hst.out], ho3⟩
      case measure => (simp [intOf]; try omega)
    · obtain rfl : k = n := by omega
      go_wp2
      go_ret
      exact ⟨rfl, ho⟩

set_option maxRecDepth 100000 in
theorem depth_SpanOf (v : Value) (p : PlanL) (w : World) (h : InPlan w v p) (hok : PlanOk p) :
    Calls Tryd.prog 98 #[v] w fun e w' => e = .returned (.int .i64 (spanF p)) ∧ Only [] w w' := by
  have ht := depth_TailsOf v p w h hok
  have HO := Lib.hid hok
  unfold spanF
  have h30 := hok.len
  obtain ⟨n, hn⟩ : ∃ n, p.length = n := ⟨_, rfl⟩
  have HL := Lib.hid hn
  rw [hn] at ht h30 ⊢
  clear h hok hn
  go_enter Tryd.func98, Tryd.ntmps98
  go_wp2_with fail
  refine ht.mono ?_
  rintro e w1 ⟨v', rfl, ⟨A, rfl, _, hB⟩, ho⟩
  clear ht
  go_wp2_with fail
  go_loopw [3, 9] (fun vn vi wr => ∃ k : Nat, k ≤ n ∧ vi = .int .i64 k ∧ vn = .int .i64 (maxL ((List.range k).map (tailF p))) ∧ wr = w1) (fun _ vi _ => n - (intOf vi).toNat)
  case atStart => exact ⟨0, Nat.zero_le _, rfl, rfl, rfl⟩
  case round =>
    obtain ⟨k, hk, rfl, rfl, rfl⟩ := hrel
    by_cases hkn : k < n
    · have cA := (hB k hkn).1
      have hst : Hid (maxL ((List.range (k + 1)).map (tailF p)) = max (maxL ((List.range k).map (tailF p))) (tailF p k)) := by
        show _ = _
        rw [List.range_succ, List.map_append, List.map_singleton, maxL_snoc]
      generalize maxL ((List.range k).map (tailF p)) = s at *
      generalize tailF p k = x at *
      have HK := Lib.hid hkn
      go_wp2
      all_goals
        go_roundw
        case rel => exact ⟨k + 1, HK.out, by go_num, by rw [hst.out]; congr 1; omega, by first | rfl | trivial⟩
        case measure => (have := HK.out; simp [intOf]; try omega)
    · obtain rfl : k = n := by omega
      go_wp2
      go_ret
      exact ⟨rfl, ho⟩

theorem depth_Tails (v : Value) (p : PlanL) (w : World) (h : InPlan w v p) (hok : PlanOk p) :
    Calls Tryd.prog 66 #[v] w fun e w' => ∃ A, e = .returned (.tuple #[.slice (some ⟨A, 0, none⟩) p.length p.length, .nilIface]) ∧ w.heap.size ≤ A ∧ Nums w' A p.length (tailF p) ∧ Only [] w w' := by
  have hr := plan_Right v p w h
  rw [(planOk_iff p).1 hok, errV_zero] at hr
  have hg := fun w' (ho : Only [] w w') => depth_TailsOf v p w' (h.same ho) hok
  generalize p.length = n at *
  have HG := Lib.hid hg
  clear h hok hg
  go_enter Tryd.func66, Tryd.ntmps66
  go_wp2_with fail
  refine hr.mono ?_
  rintro e w1 ⟨rfl, ho⟩
  clear hr
  go_wp2_with fail
  refine (HG.out w1 ho).mono ?_
  rintro e w2 ⟨v', rfl, ⟨A, rfl, hA, hB⟩, ho2⟩
  have hA2 : w.heap.size ≤ A := by have := ho.size; omega
  have hoo := ho.trans ho2 (by simp)
  have HB := Lib.hid hB
  clear ho ho2 hB
  go_wp2
  go_ret2
  exact ⟨A, rfl, hA2, HB.out, hoo⟩

theorem depth_Work (v : Value) (p : PlanL) (w : World) (h : InPlan w v p) (hok : PlanOk p) :
    Calls Tryd.prog 63 #[v] w fun e w' => e = .returned (.tuple #[.int .i64 (workF p), .nilIface]) ∧ Only [] w w' := by
  have hr := plan_Right v p w h
  rw [(planOk_iff p).1 hok, errV_zero] at hr
  have hg := fun w' (ho : Only [] w w') => depth_WorkOf v p w' (h.same ho) hok
  generalize workF p = x at *
  have HG := Lib.hid hg
  clear h hok hg
  go_enter Tryd.func63, Tryd.ntmps63
  go_wp2_with fail
  refine hr.mono ?_
  rintro e w1 ⟨rfl, ho⟩
  clear hr
  go_wp2_with fail
  refine (HG.out w1 ho).mono ?_
  rintro e w2 ⟨rfl, ho2⟩
  have hoo := ho.trans ho2 (by simp)
  go_wp2
  go_ret2
  exact ⟨rfl, hoo⟩

theorem depth_Span (v : Value) (p : PlanL) (w : World) (h : InPlan w v p) (hok : PlanOk p) :
    Calls Tryd.prog 64 #[v] w fun e w' => e = .returned (.tuple #[.int .i64 (spanF p), .nilIface]) ∧ Only [] w w' := by
  have hr := plan_Right v p w h
  rw [(planOk_iff p).1 hok, errV_zero] at hr
  have hg := fun w' (ho : Only [] w w') => depth_SpanOf v p w' (h.same ho) hok
  generalize spanF p = x at *
  have HG := Lib.hid hg
  clear h hok hg
  go_enter Tryd.func64, Tryd.ntmps64
  go_wp2_with fail
  refine hr.mono ?_
  rintro e w1 ⟨rfl, ho⟩
  clear hr
  go_wp2_with fail
  refine (HG.out w1 ho).mono ?_
  rintro e w2 ⟨rfl, ho2⟩
  have hoo := ho.trans ho2 (by simp)
  go_wp2
  go_ret2
  exact ⟨rfl, hoo⟩

end Go.Proofs.YtadjcooemeaaeaaDoor

namespace Go.Proofs.YtadjcooemeaaeaaDoor
open Go.RowKit Go.Deep

/-- The ranks that are reckoned, behind k tasks of the order. -/
def rankK (p : PlanL) (k : Nat) (j : Nat) : Int := if j ∈ (orderOf p).take k then rankF p j else 0

theorem order_before {p : PlanL} (h : PlanOk p) (k : Nat) (hk : k < (orderOf p).length) : ∀ y ∈ ndOf p (orderOf p)[k], y.toNat ∈ (orderOf p).take k := by
  intro y hy
  have := (orderOf_ready h k (orderOf p)[k] (List.getElem?_eq_getElem hk)).2
  simp only [readyB, Bool.and_eq_true, List.all_eq_true] at this
  simpa using this.2 y hy

theorem rankK_succ {p : PlanL} (h : PlanOk p) (k : Nat) (hk : k < (orderOf p).length) (j : Nat) :
    rankK p (k + 1) j = if j = (orderOf p)[k] then maxL ((ndOf p (orderOf p)[k]).map fun y => rankK p k y.toNat + wkOf p y.toNat) else rankK p k j := by
  have hi : (orderOf p)[k] < p.length := (orderOf_mem h _).1 (List.getElem_mem hk)
  unfold rankK
  rw [List.take_succ_eq_append_getElem hk]
  by_cases e : j = (orderOf p)[k]
  · subst e
    rw [if_pos (List.mem_append.2 (.inr (by simp))), if_pos rfl, rankF_eq h hi]
    congr 1
    refine List.map_congr_left fun y hy => ?_
    rw [if_pos (order_before h k hk y hy)]
  · rw [if_neg e]
    have : (j ∈ (orderOf p).take k ++ [(orderOf p)[k]]) ↔ j ∈ (orderOf p).take k := by rw [List.mem_append, List.mem_singleton]; exact ⟨fun h => h.resolve_right e, .inl⟩
    simp only [this]

theorem rankK_bd {p : PlanL} (h : PlanOk p) (k j : Nat) : 0 ≤ rankK p k j ∧ rankK p k j ≤ 600 := by
  unfold rankK
  have := rankF_bd h j
  split <;> omega

theorem rankK_self {p : PlanL} (h : PlanOk p) (k : Nat) (hk : k < (orderOf p).length) : rankK p k (orderOf p)[k] = 0 := by
  unfold rankK
  rw [if_neg]
  intro hm
  obtain ⟨a, ha, e⟩ := List.getElem_of_mem hm
  rw [List.getElem_take] at e
  have ha' : a < k := by simp at ha; omega
  exact (List.pairwise_iff_getElem.1 (topo_nodup h p.length (Nat.le_refl _))) a k (by have : (orderOf p).length = (topo p p.length).length := rfl; omega) hk ha' e

set_option maxRecDepth 100000 in
set_option maxHeartbeats 4000000 in
theorem depth_Ranks (v : Value) (p : PlanL) (w : World) (h : InPlan w v p) (hok : PlanOk p) :
    Calls Tryd.prog 65 #[v] w fun e w' => ∃ A, e = .returned (.tuple #[.slice (some ⟨A, 0, none⟩) p.length p.length, .nilIface]) ∧ w.heap.size ≤ A ∧ Nums w' A p.length (rankF p) ∧ Only [] w w' := by
  have hr := plan_Right v p w h
  rw [(planOk_iff p).1 hok, errV_zero] at hr
  have HP := Lib.hid h
  have HO := Lib.hid hok
  obtain ⟨a, cap, rfl, hc1, hc2, _⟩ := h.task
  obtain ⟨n, hn⟩ : ∃ n, p.length = n := ⟨_, rfl⟩
  have HL := Lib.hid hn
  rw [hn] at hc1 HP hr ⊢
  have h30 : n ≤ 30 := by rw [← hn]; exact hok.len
  have hmk := make_ints n (by omega)
  clear h hn hok
  go_enter Tryd.func65, Tryd.ntmps65
  go_wp2_with fail
  refine hr.mono ?_
  rintro e w1 ⟨rfl, ho1⟩
  clear hr
  have hA : w.heap.size ≤ w1.heap.size := ho1.size
  have hB0 := made_nums w1 n
  have ho2 := ho1.alloc (.cells (madeCells #[.int .i64 0] n) 3)
  have hq := plan_OrderOf _ p _ (HP.out.same ho2) HO.out
  go_wp2_with fail
  refine hq.mono ?_
  rintro e w2 ⟨vo, rfl, hI, ho3⟩
  clear hq
  have hol : (orderOf p).length = n := (topo_len HO.out p.length (Nat.le_refl _)).trans HL.out
  have HOL := Lib.hid hol
  obtain ⟨oa, oc, rfl, hco⟩ := hI.opt
  rw [natL_len, hol] at hco hI ⊢
  have hB2 := hB0.only ho3 (by simp)
  have hoo := ho2.trans ho3 (by simp)
  have hs3 := ho3.size
  rw [World.size_alloc] at hs3
  have HCO := Lib.hid hco
  clear hB0 ho1 ho2 ho3 hco hol
  go_wp2_with fail
  obtain ⟨A, hAe⟩ : ∃ A, w1.heap.size = A := ⟨_, rfl⟩
  rw [hAe] at hA hB2 hs3 ⊢
  have hfar := fun x (hx : x ∈ own (.slice oa n oc)) => (hI.own_lt x hx).1
  rw [World.size_alloc, hAe] at hfar
  clear hAe
  go_loopw [21] (fun vk wr => ∃ k : Nat, k ≤ n ∧ vk = .int .i64 k ∧ Nums wr A n (rankK p k) ∧ Only [A] w2 wr) (fun vk _ => n - (intOf vk).toNat)
  case atStart => exact ⟨0, Nat.zero_le _, rfl, hB2.congr (fun j _ => by simp [rankK]), Only.refl _ _⟩
  case round =>
    obtain ⟨wo, rfl⟩ : ∃ wo : World, wo = wr := ⟨_, rfl⟩
    obtain ⟨k, hk, rfl, hB, ho⟩ := hrel
    have hww : Only [] w wo := hoo.trans ho (fun x hx hl => by simp at hx; omega)
    by_cases hkn : k < n
    · have hkl : k < (orderOf p).length := by rw [HOL.out]; exact hkn
      obtain ⟨g, rfl, hcg⟩ := HCO.out k hkn
      rw [natL_nth _ _ hkl] at hcg
      have hgA := hfar g (by simp [own, Value.ownBlock])
      have cG := (ho.cell (p := ⟨g, k, none⟩) (cell_lt hcg) (by simp; omega)).trans hcg
      have hin : (orderOf p)[k] < p.length := (orderOf_mem HO.out _).1 (List.getElem_mem hkl)
      have hsu := Lib.hid (rankK_succ HO.out k hkl)
      have hself := rankK_self HO.out k hkl
      have hbd := Lib.hid (rankK_bd HO.out k)
      rw [HL.out] at hin
      generalize hi : (orderOf p)[k] = i at *
      clear hi hcg
      obtain ⟨b, off, rfl⟩ := HP.out.any i (by rw [HL.out]; exact hin)
      obtain ⟨ua, uc, c0, c1, hrd⟩ := HP.out.at i (by rw [HL.out]; exact hin)
      have c1o := (hww.cell (p := ⟨b, off + i * 2 + 1, none⟩) (cell_lt c1) (by simp)).trans c1
      have hnl : (ndOf p i).length ≤ 30 := by have := HO.out.needs i; rw [HL.out] at this; omega
      obtain ⟨ra, rc, er, hrc⟩ := hrd.opt
      injection er with er1 _ er2
      subst er1
      have HMEM := Lib.hid (fun q (hq : q < (ndOf p i).length) => (by rw [nth, List.getElem?_eq_getElem hq]; exact List.getElem_mem hq : nth (ndOf p i) q ∈ ndOf p i))
      have HRC := Lib.hid hrc
      obtain ⟨m, hm⟩ : ∃ m, (ndOf p i).length = m := ⟨_, rfl⟩
      rw [hm] at c1 c1o hnl HMEM HRC
      have HM := Lib.hid hm
      clear hrc hrd er2 hm c1
      go_wp2_with fail
      go_loopw [31] (fun vq wr => ∃ q : Nat, q ≤ m ∧ vq = .int .i64 q ∧ Nums wr A n (setI (rankK p k) i (maxL (((ndOf p i).take q).map fun y => rankK p k y.toNat + wkOf p y.toNat))) ∧ Only [A] wo wr) (fun vq _ => m - (intOf vq).toNat)
      case atStart => exact ⟨0, Nat.zero_le _, rfl, hB.congr (fun j _ => by
        unfold setI
        split
        · rename_i e; rw [e, hself]; rfl
        · rfl), Only.refl _ _⟩
      case round =>
        obtain ⟨q, hq, rfl, hBr, hor⟩ := hrel
        by_cases hqm : q < m
        · obtain ⟨rb, ro, rfl, crq⟩ := HRC.out q hqm
          have hmem := HMEM.out q hqm
          have hql : q < (ndOf p i).length := by rw [HM.out]; exact hqm
          have hnq : (ndOf p i)[q] = nth (ndOf p i) q := by rw [nth, List.getElem?_eq_getElem hql]; rfl
          have hb := HO.out.need i _ hmem
          have htk : Hid (maxL (((ndOf p i).take (q + 1)).map fun y => rankK p k y.toNat + wkOf p y.toNat) = max (maxL (((ndOf p i).take q).map fun y => rankK p k y.toNat + wkOf p y.toNat)) (rankK p k (nth (ndOf p i) q).toNat + wkOf p (nth (ndOf p i) q).toNat)) := by
            show _ = _
            rw [List.take_succ_eq_append_getElem hql, List.map_append, List.map_singleton, maxL_snoc, hnq]
          have hne0 : (nth (ndOf p i) q).toNat ≠ i := fun e => not_self HO.out (by rw [HL.out]; exact hin) (by have h9 := Int.toNat_of_nonneg hb.1; rw [e] at h9; rw [h9]; exact hmem)
          have hML : 0 ≤ maxL (((ndOf p i).take q).map fun y => rankK p k y.toNat + wkOf p y.toNat) ∧ maxL (((ndOf p i).take q).map fun y => rankK p k y.toNat + wkOf p y.toNat) ≤ 620 := ⟨maxL_ge _, maxL_le (by omega) (fun y hy => by
            obtain ⟨z, hz, rfl⟩ := List.mem_map.1 hy
            have h1 := (hbd.out z.toNat).2
            have h2 := (HO.out.work z.toNat (need_nat HO.out (List.mem_of_mem_take hz)).1).2
            show rankK p k z.toNat + wkOf p z.toNat ≤ 620
            omega)⟩
          rw [HL.out] at hb
          generalize nth (ndOf p i) q = y at *
          obtain ⟨yn, rfl⟩ := Int.eq_ofNat_of_zero_le hb.1
          rw [Int.toNat_natCast] at hne0 htk
          have hyn : yn < n := by omega
          have hwr : Only [] w wr := hww.trans hor (fun x hx hl => by simp at hx; omega)
          have crq2 := (hwr.cell (p := ⟨rb, ro + q, none⟩) (cell_lt crq) (by simp)).trans crq
          obtain ⟨_, _, cW, _, _⟩ := (HP.out.same hwr).at yn (by rw [HL.out]; exact hyn)
          have hwk := HO.out.work yn (by rw [HL.out]; exact hyn)
          have hry := hbd.out yn
          have cI := (hBr i hin).1
          have fI := (hBr i hin).2
          have cY := (hBr yn hyn).1
          rw [show setI (rankK p k) i (maxL (((ndOf p i).take q).map fun y => rankK p k y.toNat + wkOf p y.toNat)) i = maxL (((ndOf p i).take q).map fun y => rankK p k y.toNat + wkOf p y.toNat) by simp [setI]] at cI
          rw [show setI (rankK p k) i (maxL (((ndOf p i).take q).map fun y => rankK p k y.toNat + wkOf p y.toNat)) yn = rankK p k yn by simp [setI, hne0]] at cY
          have HS : Hid (∀ v, v = max (maxL (((ndOf p i).take q).map fun y => rankK p k y.toNat + wkOf p y.toNat)) (rankK p k yn + wkOf p yn) → Nums ((wr.setCell ⟨A, i, none⟩ (.int .i64 v)).drewN 1) A n (setI (rankK p k) i (maxL (((ndOf p i).take (q + 1)).map fun y => rankK p k y.toNat + wkOf p y.toNat)))) := by
            show ∀ v, _
            intro v hv
            refine ((hBr.set i v).only ((Only.refl [] _).drewN 1) (by simp)).congr fun j _ => ?_
            rw [htk.out, ← hv]
            unfold updI setI
            split <;> rfl
          have HOR : Hid (∀ v, Only [A] wo ((wr.setCell ⟨A, i, none⟩ (.int .i64 v)).drewN 1)) := fun v => (hor.setCell (by simp) _).drewN 1
          have HQ := Lib.hid hqm
          generalize maxL (((ndOf p i).take q).map fun y => rankK p k y.toNat + wkOf p y.toNat) = M at *
          generalize rankK p k yn = ry at *
          generalize wkOf p yn = wy at *
          clear hBr hor htk crq hmem hql hnq c0 hwr hB ho hww hB2 hoo
          go_wp2_with fail
          go_still_tail 18, (by kernel_rfl)
          go_wp2
          all_goals
            go_roundw
            case rel => exact ⟨q + 1, HQ.out, by go_num, HS.out _ (by omega), HOR.out _⟩
            case measure => (have := HQ.out; simp [intOf]; try omega)
        · obtain rfl : q = m := by omega
          have htk : (ndOf p i).take q = ndOf p i := List.take_of_length_le (Nat.le_of_eq HM.out)
          rw [htk] at hBr
          have hB5 := Lib.hid (hBr.congr (g := rankK p (k + 1)) (fun j _ => by rw [hsu.out]; rfl))
          have hO5 := Lib.hid (ho.trans hor (fun x hx _ => hx))
          clear hBr hor htk hB ho hww
          go_wp2
          go_roundw
          case rel => exact ⟨k + 1, by omega, by go_num, hB5.out, hO5.out⟩
          case measure => (simp [intOf]; try omega)
    · obtain rfl : k = n := by omega
      have hB5 := Lib.hid (hB.congr (g := rankF p) (fun j hj => by
        unfold rankK
        rw [if_pos]
        rw [List.take_of_length_le (Nat.le_of_eq HOL.out)]
        exact (orderOf_mem HO.out j).2 (by rw [HL.out]; exact hj)))
      clear hB ho
      go_wp2
      go_ret2
      exact ⟨A, rfl, hA, hB5.out, hww⟩

end Go.Proofs.YtadjcooemeaaeaaDoor
