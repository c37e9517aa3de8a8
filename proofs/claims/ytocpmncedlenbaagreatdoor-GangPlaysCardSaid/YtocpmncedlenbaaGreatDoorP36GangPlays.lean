/-
  The reference's hand: what comes out lies apart from what stays.
  Contract of yardref1.Free.
  Contract of yardgang/yardref2.Ready: who is ready.
  Contract of yardref1.In.
-/
import Derived.Test.YtocpmncedlenbaaGreatDoorP35GangPlays
import Derived.Test.YtocpmncedlenbaaGreatDoorP6GangPlays
import Derived.Test.YtocpmncedlenbaaGreatDoorP4GangPlays
import Derived.Test.YtocpmncedlenbaaGreatDoorP11GangPlays
import Derived.Test.YtocpmncedlenbaaGreatDoorP10GangPlays
import Derived.Test.YtocpmncedlenbaaGreatDoorP2GangPlays
namespace Go.Proofs.YtocpmncedlenbaaGreatDoor
open Go.RowKit

set_option maxHeartbeats 2000000 in
set_option maxRecDepth 100000 in
theorem RefHand.rob_s (fp : List Nat) (d room : Nat) (near : Int) (l : List Int) (w : World) (h : RefHandIs w fp d room near l) :
    Calls Tryz.prog 82 #[.pointer (some ⟨d, 0, none⟩)] w fun e w' => ∃ v fp', e = .returned v ∧ Ints w' w.heap.size v (l.take (halfOf l)) ∧ RefHandIs w' fp' d room near (l.drop (halfOf l)) ∧ Only [d] w w' ∧ Kin w fp fp' ∧ ∀ x ∈ own v, x ∉ fp' := by
  obtain ⟨⟨rv, hc, hs, hd, rfl⟩, hl⟩ := h
  have c2 := hc.cell 2 _ rfl
  have hdl := hc.lt
  have hcut := cutting_apart rv l (halfOf l) w.drew hs.reads (by omega) (by unfold halfOf; omega)
  obtain ⟨a, c, rfl, _⟩ := hs.opt
  obtain ⟨n, hn⟩ : ∃ n, l.length = n := ⟨_, rfl⟩
  have hk : ((n : Int) + 1).tdiv 2 = (halfOf l : Nat) := by
    rw [Int.tdiv_eq_ediv_of_nonneg (by omega)]; unfold halfOf; rw [hn]; omega
  have hk2 : ((n : Int) + 1) / 2 = (halfOf l : Nat) := by unfold halfOf; rw [hn]; omega
  have hhb : halfOf l ≤ 1000 := by unfold halfOf; omega
  have hdrop : Hid ((l.drop (halfOf l)).length ≤ 1000) := by show _ ≤ _; simp; omega
  obtain ⟨hf, hhf⟩ : ∃ hf, halfOf l = hf := ⟨_, rfl⟩
  rw [hn] at c2 hl hcut
  rw [hhf] at hk hk2 hhb hcut hdrop ⊢
  have hwr : IntKind.i64.wrap ((n : Int) + 1) = (n : Int) + 1 := IntWalk.i64_in _ (by omega)
  have hwr2 : IntKind.i64.wrap (hf : Int) = (hf : Int) := IntWalk.i64_in _ (by omega)
  have hcd : Hid (Cells w.drew d [.int .i64 room, .int .i64 near, .slice a n c]) := by rw [hn] at hc; exact hc
  have HN := Lib.hid hn
  clear hs hn hhf hc
  go_enter Tryz.func82, Tryz.ntmps82
  go_wp2_with fail
  have HCut := Lib.hid hcut
  go_region_law (first | (go_simp; go_at_call 78; refine HCut.out.mono ?_; rintro e w1 ⟨va, vb, rfl, hIa, hIb, ho, hap⟩; obtain ⟨ba, bc, rfl, _⟩ := hIb.opt; obtain ⟨aa, ac, rfl, _⟩ := hIa.opt; obtain ⟨q, hq⟩ : ∃ q, (l.drop hf).length = q := ⟨_, rfl⟩; obtain ⟨p, hp⟩ : ∃ p, (l.take hf).length = p := ⟨_, rfl⟩; rw [hq] at hIb hdrop hap ⊢; rw [hp] at hIa hap ⊢; have HQ := Lib.hid hq; clear hq hp; have hc1 := hcd.out.only ho (by simp); have c2' := hc1.cell 2 _ rfl; have f2 := hc1.free 2 _ rfl))
  all_goals
    clear HCut
    have hdb : d ∉ own (Value.slice ba q bc) := fun hx => by have := (hIb.own_lt _ hx).1; simp at this; omega
    have hda : d ∉ own (Value.slice aa p ac) := fun hx => by have := (hIa.own_lt _ hx).1; simp at this; omega
    have hset := (Only.refl [d] w1).setCell (p := ⟨d, 2, none⟩) (by simp) (Value.slice ba q bc)
    have hIa2 := hIa.only hset (fun g hg hx => by simp at hx; subst hx; exact hda (own_of hg))
    have hP : Hid (RefHandIs (w1.setCell ⟨d, 2, none⟩ (Value.slice ba q bc)) (d :: own (Value.slice ba q bc)) d room near (l.drop hf)) :=
      ⟨⟨_, hc1.set 2 _, hIb.sl.only hset (fun x hx hx2 => by simp at hx2; exact hdb (hx2 ▸ hx)), hdb, rfl⟩, by rw [HQ.out]; exact hdrop.out⟩
    have hO : Hid (Only [d] w (w1.setCell ⟨d, 2, none⟩ (Value.slice ba q bc))) := ((Only.refl [d] w).drew.trans ho (by simp)).setCell (by simp) _
    have hK : Hid (Kin w (d :: own (.slice a l.length c)) (d :: own (Value.slice ba q bc))) := by
      show ∀ x ∈ _, _
      intro x hx
      rcases List.mem_cons.1 hx with rfl | hx
      · exact .inl (by simp)
      · exact .inr (hIb.own_lt x hx).1
    have hA : Hid (∀ x ∈ own (Value.slice aa p ac), x ∉ d :: own (Value.slice ba q bc)) := fun x hx h => by
      rcases List.mem_cons.1 h with rfl | h
      · exact hda hx
      · exact hap x hx h
    clear hcut hIa hIb hc1 hset ho hk hwr2 hap
    go_wp2
    go_ret
    exact ⟨_, _, rfl, hIa2, hP.out, hO.out, hK.out, hA.out⟩

set_option maxHeartbeats 4000000 in
set_option maxRecDepth 100000 in
theorem RefHand.put_full_s (fp : List Nat) (d room : Nat) (near : Int) (l : List Int) (n : Int) (w : World) (h : RefHandIs w fp d room near l) (h0 : 0 ≤ near) (hr : l.length = room) (hr16 : room ≤ 16) :
    Calls Tryz.prog 77 #[.pointer (some ⟨d, 0, none⟩), .int .i64 n] w fun e w' => ∃ v fp', e = .returned v ∧ Ints w' w.heap.size v (l.take (halfOf l)) ∧ RefHandIs w' fp' d room n (l.drop (halfOf l) ++ [near]) ∧ Only [d] w w' ∧ Kin w fp fp' ∧ ∀ x ∈ own v, x ∉ fp' := by
  obtain ⟨⟨rv, hc, hs, hd, rfl⟩, hl⟩ := h
  have c0 := hc.cell 0 _ rfl
  have c1 := hc.cell 1 _ rfl
  have c2 := hc.cell 2 _ rfl
  have f1 := hc.free 1 _ rfl
  have f2 := hc.free 2 _ rfl
  have hdl := hc.lt
  have hO := (Only.refl [d] w).setCell (p := ⟨d, 1, none⟩) (by simp) (.int .i64 n)
  have hc1 := hc.set 1 (.int .i64 n)
  have hs1 := hs.only hO (fun x hx hx2 => by simp at hx2; exact hd (hx2 ▸ hx))
  obtain ⟨a, c, rfl, _⟩ := hs.opt
  obtain ⟨k, hk⟩ : ∃ k, l.length = k := ⟨_, rfl⟩
  have HK := Lib.hid hk
  have hown : Hid (own (Value.slice a l.length c) = own (Value.slice a k c)) := own_slice _ _ _ _ _
  rw [hown.out] at hd ⊢
  rw [hk] at c2 hr hl hs1 hc1
  have hneq : ((k : Int) == (room : Int)) = true := by rw [hr]; simp
  have hk16 : k ≤ 16 := by omega
  have hlt : decide (near < 0) = false := by simp; omega
  have hkd : ((k : Int) + 1).tdiv 2 = (halfOf l : Nat) := by
    rw [Int.tdiv_eq_ediv_of_nonneg (by omega)]; unfold halfOf; rw [hk]; omega
  have hkd2 : ((k : Int) + 1) / 2 = (halfOf l : Nat) := by unfold halfOf; rw [hk]; omega
  have hhb : halfOf l ≤ 16 := by unfold halfOf; omega
  have hhk : halfOf l ≤ k + 1 := by unfold halfOf; omega
  obtain ⟨hf, hhf⟩ : ∃ hf, halfOf l = hf := ⟨_, rfl⟩
  rw [hhf] at hkd hkd2 hhb hhk ⊢
  have hwr : IntKind.i64.wrap ((k : Int) + 1) = (k : Int) + 1 := IntWalk.i64_in _ (by omega)
  have hwr2 : IntKind.i64.wrap (hf : Int) = (hf : Int) := IntWalk.i64_in _ (by omega)
  clear hc hs hk hr hhf
  go_enter Tryz.func77, Tryz.ntmps77
  go_wp2_with fail
  go_quiet (fail)
  obtain ⟨wq, hwq⟩ : ∃ wq, (w.setCell ⟨d, 1, none⟩ (.int .i64 n)).drewN nq = wq := ⟨_, rfl⟩
  have hcq : Cells wq d [.int .i64 room, .int .i64 n, .slice a k c] := by rw [← hwq]; exact hc1.drewN nq
  have hsq : Sl wq (.slice a k c) l := by rw [← hwq]; exact hs1.only ((Only.refl [] _).drewN nq) (by simp)
  have hoq : Only [d] w wq := by rw [← hwq]; exact hO.drewN nq
  have c2q := hcq.cell 2 _ rfl
  have f2q := hcq.free 2 _ rfl
  have hszq := hoq.size
  have hcut := cutting_apart (.slice a k c) l hf wq.drew hsq.reads (by rw [HK.out]; omega) (by omega)
  have HCut := Lib.hid hcut
  rw [hwq]
  clear hwq hc1 hs1 hO c0 c1 c2 f1 f2 hcut
  go_wp2_with fail
  go_region_law (first | (go_simp; go_at_call 78; refine HCut.out.mono ?_; rintro e w1 ⟨va, vb, rfl, hIa, hIb, ho, hap⟩; obtain ⟨ba, bc, rfl, _⟩ := hIb.opt; obtain ⟨aa, ac, rfl, _⟩ := hIa.opt; obtain ⟨q, hq⟩ : ∃ q, (l.drop hf).length = q := ⟨_, rfl⟩; obtain ⟨p, hp⟩ : ∃ p, (l.take hf).length = p := ⟨_, rfl⟩; rw [hq] at hIb hap ⊢; rw [hp] at hIa hap ⊢; have HQ := Lib.hid hq; clear hq hp; have hcq1 := (hcq.drewN 1).only ho (by simp); have c2' := hcq1.cell 2 _ rfl; have f2' := hcq1.free 2 _ rfl))
  all_goals
    clear HCut
    have hq16 : q ≤ 16 := by rw [← HQ.out, List.length_drop, HK.out]; omega
    have hdb : d ∉ own (Value.slice ba q bc) := fun hx => by have := (hIb.own_lt _ hx).1; simp at this; omega
    have hda : d ∉ own (Value.slice aa p ac) := fun hx => by have := (hIa.own_lt _ hx).1; simp at this; omega
    have hset := (Only.refl [d] w1).setCell (p := ⟨d, 2, none⟩) (by simp) (.slice ba q bc)
    have hIa2 := hIa.only hset (fun g hg hx => by simp at hx; subst hx; exact hda (own_of hg))
    have hIb2 := hIb.only hset (fun g hg hx => by simp at hx; subst hx; exact hdb (own_of hg))
    have hSb := hIb2.sl
    have hcq2 : Cells (w1.setCell ⟨d, 2, none⟩ (.slice ba q bc)) d [.int .i64 room, .int .i64 n, .slice ba q bc] := hcq1.set 2 _
    have hoo : Only [d] w (w1.setCell ⟨d, 2, none⟩ (.slice ba q bc)) := ((hoq.drew).trans ho (by simp)).setCell (by simp) _
    have hblt : ∀ x ∈ own (Value.slice ba q bc), w.heap.size ≤ x := fun x hx => by have := (hIb.own_lt x hx).1; simp at this; omega
    have halt : w.heap.size ≤ wq.drew.heap.size := hszq
    clear hIa hIb hIb2 hset hcq1 ho hoq hkd hkd2 hwr hwr2 hcq hsq c2q f2q
    go_wp2_with (at_builtin; refine wpList_push_sl rfl (.tmp 53) (.tmp 55) rfl _ _ _ _ near q hSb HQ.out (by omega) rfl rfl ((Only.refl [] _).alloc _) (World.cell?_alloc_at _ _ _ _ (by simp)) ?_; intro g off cap w5 hI5 hO5 hK5; have hcd := hcq2.only hO5 hdb; have c2d := hcd.cell 2 _ rfl; have f2d := hcd.free 2 _ rfl; clear c2' f2')
    have hdg : d ≠ g := fun e => by
      rcases hK5 with h | h
      · exact hdb (e ▸ h)
      · have := hoo.size; omega
    have hset5 := (Only.refl [d] w5).setCell (p := ⟨d, 2, none⟩) (by simp) (.slice (some ⟨g, off, none⟩) (q + 1) cap)
    have hgw : w.heap.size ≤ g := by
      rcases hK5 with h | h
      · exact hblt g h
      · have := hoo.size; omega
    go_ret
    refine ⟨_, d :: own (.slice (some ⟨g, off, none⟩) (q + 1) cap), rfl, ?_, ⟨⟨_, hcd.set 2 _, hI5.only hset5 (fun x hx hx2 => by simp at hx2; simp [own, Value.ownBlock] at hx; omega), by simpa [own, Value.ownBlock] using hdg, rfl⟩, by rw [List.length_append, HQ.out]; simp; omega⟩, ?_, ?_, ?_⟩
    · exact ((hIa2.only hO5 (fun g9 h9 hx => hap g9 (own_of h9) hx)).only hset5 (fun g9 h9 hx => by simp at hx; subst hx; exact hda (own_of h9))).mono halt
    · exact (hoo.trans hO5 (fun x hx hl => by have := hblt x hx; omega)).setCell (by simp) _
    · intro x hx
      rcases List.mem_cons.1 hx with rfl | hx
      · exact .inl (by simp)
      · obtain rfl : x = g := by simpa [own, Value.ownBlock] using hx
        exact .inr hgw
    · intro x hx h
      rcases List.mem_cons.1 h with rfl | h
      · exact hda hx
      · obtain rfl : x = g := by simpa [own, Value.ownBlock] using h
        rcases hK5 with h5 | h5
        · exact hap x hx h5
        · have := (hIa2.own_lt x hx).2; omega

end Go.Proofs.YtocpmncedlenbaaGreatDoor

namespace Go.Proofs.YtocpmncedlenbaaGreatDoor
open Go.RowKit Go.Deep

def freeB (p : PlanL) (D : Nat → Bool) (i : Nat) : Bool := (ndOf p i).all (fun k => D k.toNat)
theorem ready_free (p : PlanL) (D : Nat → Bool) (i : Nat) : readyB p D i = (!D i && freeB p D i) := rfl

set_option maxRecDepth 100000 in
set_option maxHeartbeats 2000000 in
theorem ref_Free (v : Value) (p : PlanL) (i A n : Nat) (D : Nat → Bool) (w : World) (h : InPlan w v p) (hn : NeedsOk p) (hB : Bools w A n D) (hi : i < p.length) (hl : p.length = n) :
    Calls Tryz.prog 94 #[v, .int .i64 i, .slice (some ⟨A, 0, none⟩) n n] w fun e w' => e = .returned (.bool (freeB p D i)) ∧ w' = w := by
  obtain ⟨a, cap, rfl, hc1, hc2, _⟩ := h.task
  obtain ⟨b, off, rfl⟩ := h.any i hi
  obtain ⟨ua, uc, _, c1, hrd⟩ := h.at i hi
  have h30 := hn.1
  obtain ⟨m, hm⟩ : ∃ m, (ndOf p i).length = m := ⟨_, rfl⟩
  have HM := Lib.hid hm
  have hm30 : m ≤ 30 := by have := hn.2.2 i; rw [hm] at this; exact this
  have hcl : ∀ k, k < m → ∃ g o x, ua = some ⟨g, o, none⟩ ∧ w.cell? ⟨g, o + k, none⟩ = some (.int .i64 ((x : Nat) : Int)) ∧ x < n ∧ nth (ndOf p i) k = x := by
    intro k hk
    have hkl : k < (ndOf p i).length := by rw [HM.out]; exact hk
    obtain ⟨a', c', e, hc⟩ := hrd.opt
    obtain ⟨g, o, rfl, hcc⟩ := hc k hkl
    injection e with e1 _ _
    have hx := hn.2.1 i (nth (ndOf p i) k) (by unfold nth; rw [List.getElem?_eq_getElem hkl]; exact List.getElem_mem hkl)
    obtain ⟨x, hxn⟩ := Int.eq_ofNat_of_zero_le hx.1
    rw [hxn] at hcc hx
    exact ⟨g, o, x, e1, hcc, by omega, hxn⟩
  rw [hl] at hc1 hi ⊢
  rw [hm] at c1
  have HCL := Lib.hid hcl
  have HB := Lib.hid hB
  clear h hn hrd hm hcl hB hl
  go_enter Tryz.func94, Tryz.ntmps94
  go_wp2_with fail
  go_loopw [7] (fun vk wr => ∃ k : Nat, k ≤ m ∧ vk = .int .i64 k ∧ ((ndOf p i).take k).all (fun k => D k.toNat) = true ∧ w = wr) (fun vk _ => m - (intOf vk).toNat)
  case atStart => exact ⟨0, Nat.zero_le _, rfl, by simp, rfl⟩
  case round =>
    obtain ⟨k, hk, rfl, hall, rfl⟩ := hrel
    by_cases hlt : k < m
    · obtain ⟨g, o, x, rfl, cx, hxn, hnx⟩ := HCL.out k hlt
      have cb := (HB.out x hxn).1
      have hst : Hid (((ndOf p i).take (k + 1)).all (fun k => D k.toNat) = D x) := by
        show _ = _
        rw [take_succ_nth _ k (by rw [HM.out]; exact hlt), List.all_append, hall, hnx]; simp
      have hfr : Hid (D x = false → freeB p D i = false) := fun hd => by
        unfold freeB
        rw [List.all_eq_false]
        refine ⟨(x : Int), ?_, by simp [hd]⟩
        have hkl : k < (ndOf p i).length := by rw [HM.out]; exact hlt
        rw [← hnx]
        unfold nth; rw [List.getElem?_eq_getElem hkl]; exact List.getElem_mem hkl
      cases hd : D x
      · rw [hd] at cb
        have hF := Lib.hid (hfr.out hd)
        clear hall hd
        go_wp2
        go_ret
        exact ⟨by rw [hF.out]; rfl, rfl⟩
      · rw [hd] at cb
        have hst2 : Hid (((ndOf p i).take (k + 1)).all (fun k => D k.toNat) = true) := by rw [← hd]; exact hst
        clear hall hd
        go_wp2
        go_roundw
        case rel => exact ⟨k + 1, by omega, by go_num, hst2.out, trivial⟩
        case measure => (simp [intOf]; try omega)
    · obtain rfl : k = m := by omega
      rw [List.take_of_length_le (Nat.le_of_eq HM.out)] at hall
      have hF : Hid (freeB p D i = true) := hall
      clear hall
      go_wp2
      go_ret
      exact ⟨by rw [hF.out]; rfl, rfl⟩

end Go.Proofs.YtocpmncedlenbaaGreatDoor

namespace Go.Proofs.YtocpmncedlenbaaGreatDoor
open Go.RowKit Go.Deep

theorem ref_Ready_succ (p : PlanL) (D : Nat → Bool) (k : Nat) : (List.range (k + 1)).filter (readyB p D) = if readyB p D k then (List.range k).filter (readyB p D) ++ [k] else (List.range k).filter (readyB p D) := by
  rw [List.range_succ, List.filter_append]
  cases h : readyB p D k <;> simp only [List.filter, h] <;> simp

set_option maxRecDepth 100000 in
set_option maxHeartbeats 4000000 in
theorem ref_Ready (v : Value) (p : PlanL) (A n : Nat) (D : Nat → Bool) (w : World) (h : InPlan w v p) (hn : NeedsOk p) (hB : Bools w A n D) (hl : p.length = n) :
    Calls Tryz.prog 75 #[v, .slice (some ⟨A, 0, none⟩) n n] w fun e w' => ∃ v', e = .returned v' ∧ Ints w' w.heap.size v' (natL (readyL p D)) ∧ Only [] w w' := by
  have HP := Lib.hid h
  have HN := Lib.hid hn
  have HB := Lib.hid hB
  have HL := Lib.hid hl
  have h30 := hn.1
  obtain ⟨a, cap, rfl, hc1, hc2, _⟩ := h.task
  rw [hl] at hc1 h30 HP ⊢
  clear h hn hB hl hc2
  go_enter Tryz.func75, Tryz.ntmps75
  go_wp2_with fail
  go_loopw [5, 6, 7] (fun vo vi _ wr => ∃ k : Nat, k ≤ n ∧ vi = .int .i64 k ∧ Ints wr w.heap.size vo (natL ((List.range k).filter (readyB p D))) ∧ Only [] w wr) (fun _ vi _ _ => n - (intOf vi).toNat)
  case atStart => exact ⟨0, Nat.zero_le _, rfl, Ints.nil _ _, Only.refl _ _⟩
  case round =>
    obtain ⟨wo, rfl⟩ : ∃ wo : World, wo = wr := ⟨_, rfl⟩
    obtain ⟨k, hk, rfl, hI, ho⟩ := hrel
    have hsz := ho.size
    by_cases hkn : k < n
    · have hF := ref_Free _ p k A n D wo (HP.out.same ho) HN.out (HB.out.only ho (by simp)) (by rw [HL.out]; exact hkn) HL.out
      have cb := ((HB.out.only ho (by simp)) k hkn).1
      have HSU := Lib.hid (ref_Ready_succ p D k)
      rw [ready_free] at HSU
      generalize freeB p D k = f at *
      generalize D k = d at *
      obtain ⟨va, vc, rfl, _⟩ := hI.opt
      obtain ⟨q, hq⟩ : ∃ q, (natL ((List.range k).filter (readyB p D))).length = q := ⟨_, rfl⟩
      have hqk : q ≤ k := by rw [← hq, natL_len]; have := List.length_filter_le (readyB p D) (List.range k); simpa using this
      have HQ := Lib.hid hq
      rw [hq] at hI ⊢
      clear hq
      by_cases hr : f = true ∧ d = false
      · obtain ⟨rfl, rfl⟩ := hr
        have hst : Hid ((List.range (k + 1)).filter (readyB p D) = (List.range k).filter (readyB p D) ++ [k]) := by show _ = _; rw [HSU.out]; rfl
        go_wp2_with fail
        refine hF.mono ?_
        rintro e w1 ⟨rfl, hw1⟩
        subst hw1
        clear hF
        go_wp2_with (at_builtin; refine wpList_push rfl (.tmp 26) (.tmp 28) rfl w1 w.heap.size _ _ w1.heap.size k q hI HQ.out (by omega) hsz rfl rfl ((Only.refl [] w1).alloc _) (World.cell?_alloc_at _ _ _ _ rfl) ?_; intro g2 cap3 w3 hI4 hO4 hK4)
        rw [← natL_push, ← hst.out] at hI4
        have ho4 := Lib.hid (ho.pushed hI (Nat.le_refl _) hO4)
        clear hI ho hO4
        go_roundw
        case rel => exact ⟨k + 1, by omega, by go_num, hI4, ho4.out⟩
        case measure => (simp [intOf]; try omega)
      · have hst : Hid ((List.range (k + 1)).filter (readyB p D) = (List.range k).filter (readyB p D)) := by
          show _ = _
          rw [HSU.out, if_neg]
          cases f <;> cases d <;> simp at hr ⊢
        have HI : Hid (Ints wo w.heap.size (.slice va q vc) (natL ((List.range (k + 1)).filter (readyB p D)))) := by rw [hst.out]; exact hI
        clear hI
        cases f
        · cases d
          all_goals
            go_wp2_with fail
            refine hF.mono ?_
            rintro e w1 ⟨rfl, hw1⟩
            subst hw1
            clear hF
            go_wp2
            go_roundw
            case rel => exact ⟨k + 1, by omega, by go_num, HI.out, ho⟩
            case measure => (simp [intOf]; try omega)
        · cases d
          · exact absurd ⟨rfl, rfl⟩ hr
          · go_wp2_with fail
            refine hF.mono ?_
            rintro e w1 ⟨rfl, hw1⟩
            subst hw1
            clear hF
            go_wp2
            go_roundw
            case rel => exact ⟨k + 1, by omega, by go_num, HI.out, ho⟩
            case measure => (simp [intOf]; try omega)
    · obtain rfl : k = n := by omega
      obtain ⟨va, vc, rfl, _⟩ := hI.opt
      go_wp2
      go_ret
      exact ⟨_, rfl, by unfold readyL; rw [HL.out]; exact hI, ho⟩

end Go.Proofs.YtocpmncedlenbaaGreatDoor

namespace Go.Proofs.YtocpmncedlenbaaGreatDoor
open Go.RowKit

set_option maxHeartbeats 400000 in
theorem ref_in (v : Value) (l : List Int) (x : Int) (w : World) (h : Reads w v l) (hl : l.length ≤ 1000000000) (r : Bool) (hr : decide (x ∈ l) = r) :
    Calls Tryz.prog 76 #[v, .int .i64 x] w fun e w' => e = .returned (.bool r) ∧ w = w' := by
  obtain ⟨a, c, rfl, ha⟩ := h.opt
  obtain ⟨n, hn⟩ : ∃ n, l.length = n := ⟨_, rfl⟩
  have HN := Lib.hid hn
  have HR := Lib.hid hr
  rw [hn] at ha hl ⊢
  clear h hn hr
  go_enter Tryz.func76, Tryz.ntmps76
  go_wp2_with fail
  go_loopw [5] (fun vi wr => ∃ i : Nat, i ≤ n ∧ vi = .int .i64 i ∧ (∀ j, j < i → nth l j ≠ x) ∧ w = wr) (fun vi _ => n - (intOf vi).toNat)
  case atStart => exact ⟨0, Nat.zero_le _, rfl, fun j hj => by omega, rfl⟩
  case round =>
    obtain ⟨i, hi, rfl, hno, rfl⟩ := hrel
    have HNO := Lib.hid hno
    clear hno
    by_cases hin : i < n
    · obtain ⟨b, off, rfl, k0⟩ := ha i hin
      obtain ⟨z, hz⟩ : ∃ z, nth l i = z := ⟨_, rfl⟩
      have HZ := Lib.hid hz
      rw [hz] at k0
      clear ha hz
      by_cases he : z = x
      · have hq : (z == x) = true := by simpa using he
        have hres : Hid (r = true) := by
          show _ = _
          rw [← HR.out, decide_eq_true_eq]
          exact mem_nth.2 ⟨i, by rw [HN.out]; exact hin, by rw [HZ.out]; exact he⟩
        clear he
        go_wp2
        go_ret
        exact ⟨by rw [hres.out]; rfl, rfl⟩
      · have hq : (z == x) = false := by simpa using he
        have HE := Lib.hid he
        clear he
        go_wp2
        go_roundw
        case rel =>
          refine ⟨i + 1, by omega, by go_num, fun j hj => ?_, by trivial⟩
          by_cases e : j = i
          · subst e; rw [HZ.out]; exact HE.out
          · exact HNO.out j (by omega)
        case measure => (simp [intOf]; try omega)
    · obtain rfl : n = i := by omega
      have hres : Hid (r = false) := by
        show _ = _
        rw [← HR.out, decide_eq_false_iff_not]
        intro hm
        obtain ⟨j, hj, e⟩ := mem_nth.1 hm
        exact HNO.out j (by rw [← HN.out]; exact hj) e
      clear ha
      go_wp2
      go_ret
      exact ⟨by rw [hres.out]; rfl, rfl⟩

end Go.Proofs.YtocpmncedlenbaaGreatDoor
