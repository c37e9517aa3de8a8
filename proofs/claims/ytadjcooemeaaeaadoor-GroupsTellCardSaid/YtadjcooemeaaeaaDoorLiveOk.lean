/-
  Contract of groups.Live where nothing is wrong.
-/
import Derived.Test.YtadjcooemeaaeaaDoorLive
namespace Go.Proofs.YtadjcooemeaaeaaDoor
open Go.RowKit Go.Deep

theorem wpStill_ask {P : Program} {ops : Array Oper} {w : World} {Q : Act → Prop} {a : Act} {o : Oper} {rest : List Oper} (hw : Region.wanted o (yielded ops a.tmps) = true)
    (h : ∀ K : Act → Prop, (∀ a, wpStill P ops w Q rest a → K a) → o.still P a w K) : wpStill P ops w Q (o :: rest) a :=
  wpStill_step (fun K hK => by rw [if_pos hw]; exact h K hK)

theorem wpStill_pass {P : Program} {ops : Array Oper} {w : World} {Q : Act → Prop} {a : Act} {o : Oper} {rest : List Oper} (hw : Region.wanted o (yielded ops a.tmps) = false)
    (h : wpStill P ops w Q rest (a.put o.dst undef)) : wpStill P ops w Q (o :: rest) a :=
  wpStill_step (fun K hK => by rw [if_neg (by rw [hw]; decide)]; exact hK _ h)

theorem wpStill_pass' {P : Program} {ops : Array Oper} {w : World} {Q : Act → Prop} {a : Act} {o : Oper} {rest : List Oper} (hw : Region.wanted o (yielded ops a.tmps) = false)
    (h : ∀ a', a' = a.put o.dst undef → wpStill P ops w Q rest a') : wpStill P ops w Q (o :: rest) a :=
  wpStill_pass hw (h _ rfl)

set_option maxRecDepth 100000 in
set_option maxHeartbeats 8000000 in
theorem groups_Live (pv gv ov : Value) (p : PlanL) (n : Nat) (P : Nat → Int) (C : Nat → Bool) (of : List Int) (w : World) (hp : InPlan w pv p) (hg : InGroups w gv n P C) (ho : Reads w ov of) (he : lErr p n P of = 0) :
    Calls Tryd.prog 33 #[pv, gv, ov] w fun e w' => ∃ A, e = .returned (.tuple #[.slice (some ⟨A, 0, none⟩) p.length p.length, .nilIface]) ∧ Bools w' A p.length (liveF p (fun i => !goneF P C (nth of i))) ∧ w.heap.size ≤ A ∧ A < w'.heap.size ∧ Only [] w w' := by
  obtain ⟨hok, h12, ht, hlen, hany⟩ := lErr_zero he
  have HOK := Lib.hid hok
  have hal := (Only.refl [] w).alloc (.cells #[gv] 56)
  have hr := plan_Right pv p _ (hp.same hal)
  rw [(planOk_iff p).1 hok, errV_zero] at hr
  have hck := Lib.hid (fun w' (h : Only [] w w') => groups_Check gv n P C w' (Pairs.same hg h))
  rw [grpFault_ok h12 ht, errV_zero] at hck
  have HG := Lib.hid hg
  have HP := Lib.hid hp
  have HOF := Lib.hid ho
  obtain ⟨ga, gcap, rfl, _⟩ := hg
  have hbx : (w.alloc (.cells #[.slice ga n gcap] 56)).cell? ⟨w.heap.size, 0, none⟩ = some (.slice ga n gcap) := World.cell?_alloc_at _ _ _ _ rfl
  have hbl : w.heap.size < (w.alloc (.cells #[.slice ga n gcap] 56)).heap.size := by simp
  obtain ⟨pa, pcap, rfl, _, _, _⟩ := hp.task
  obtain ⟨oa, ocap, rfl, hoc⟩ := ho.opt
  have hcl := Lib.hid (fun w' (h : Only [] (w.alloc (.cells #[.slice ga n gcap] 56)) w') => fn_contains 87 (fun _ _ => by kernel_rfl) #[.pointer (some ⟨w.heap.size, 0, none⟩)] _ of w' (outOf n) (ho.same (hal.trans h (by simp))) ho.len
    (fun k hk dn => (live_1 k w.heap.size ga n gcap _ ((cell_drewN _ dn _).trans ((h.cell (p := ⟨w.heap.size, 0, none⟩) hbl (by simp)).trans hbx))).mono fun e w' ⟨h1, h2⟩ => ⟨h1, dn, h2.symm⟩) false hany)
  rw [hlen] at hcl hoc
  have HOC := Lib.hid hoc
  have hofr : Hid (∀ i, i < p.length → 0 ≤ nth of i ∧ nth of i < n) := by
    show ∀ i, _
    intro i hi
    have h1 : ¬ (of.any (outOf n) = true) := by simp [hany]
    rw [List.any_eq_true] at h1
    by_cases e : outOf n (nth of i) = true
    · exact absurd ⟨nth of i, by simp [nth, show i < of.length by rw [hlen]; exact hi], e⟩ h1
    · simp [outOf] at e; omega
  rw [hlen] at HOF ⊢
  obtain ⟨m, hm⟩ : ∃ m, p.length = m := ⟨_, rfl⟩
  have HL := Lib.hid hm
  have h30 : m ≤ 30 := by rw [← hm]; exact hok.len
  rw [hm] at hr HP HOF hcl HOC hofr ⊢
  have hmk := make_bools m (by omega)
  have HT := Lib.hid ht
  clear he hok ht hlen hany ho hp hoc hm
  go_enter Tryd.func33, Tryd.ntmps33
  go_wp2_with fail
  refine hr.mono ?_
  rintro e w1 ⟨rfl, ho1⟩
  have cb1 := (ho1.cell (p := ⟨w.heap.size, 0, none⟩) hbl (by simp)).trans hbx
  have hoo := hal.trans ho1 (by simp)
  clear hr
  go_wp2_with fail
  refine (hck.out w1 hoo).mono ?_
  rintro e w2 ⟨rfl, ho2⟩
  have hoo2 := hoo.trans ho2 (by simp)
  have ho12 := ho1.trans ho2 (by simp)
  clear hck
  go_wp2_with fail
  refine (hcl.out w2 ho12).mono ?_
  rintro e w3 ⟨rfl, dn, rfl⟩
  clear hcl
  have ho3 := ho12.drewN dn
  have hoo3 := hoo2.drewN dn
  obtain ⟨w3, hw3⟩ : ∃ w3, w2.drewN dn = w3 := ⟨_, rfl⟩
  rw [hw3] at ho3 hoo3 ⊢
  have hB0 := made_bools w3 m
  have hC3 := Cells.new (w3.alloc (.cells (madeCells #[.bool false] m) 4)) #[.slice (some ⟨w3.heap.size, 0, none⟩) m m] 68
  rw [size_alloc] at hC3
  have ho4 := ((Only.refl [] w3).alloc (.cells (madeCells #[.bool false] m) 4)).alloc (.cells #[.slice (some ⟨w3.heap.size, 0, none⟩) m m] 68)
  have hB3 := hB0.only ((Only.refl [] _).alloc (.cells #[.slice (some ⟨w3.heap.size, 0, none⟩) m m] 68)) (by simp)
  have hoo4 := hoo3.trans ho4 (by simp)
  have hord := plan_OrderOf _ p _ (HP.out.same hoo4) HOK.out
  have hsz3 := hoo3.size
  have hbx4 : ((w3.alloc (.cells (madeCells #[.bool false] m) 4)).alloc (.cells #[.slice (some ⟨w3.heap.size, 0, none⟩) m m] 68)).cell? ⟨w.heap.size, 0, none⟩ = some (.slice ga n gcap) := ((ho3.trans ho4 (by simp)).cell (p := ⟨w.heap.size, 0, none⟩) hbl (by simp)).trans hbx
  have hbl3 : w.heap.size < w3.heap.size := by have := ho3.size; omega
  clear hB0 hw3 hoo ho1 ho2 hoo2 ho12 cb1 hoo3 hal ho3
  go_wp2_with fail
  refine hord.mono ?_
  rintro e w5 ⟨v5, rfl, hI5, ho5⟩
  clear hord
  have hB5 := hB3.only ho5 (by simp)
  have hC5 := hC3.only ho5 (by simp)
  have hbx5 := (ho5.cell (p := ⟨w.heap.size, 0, none⟩) (cell_lt hbx4) (by simp)).trans hbx4
  have hoo5 := hoo4.trans ho5 (by simp)
  have hol := order_len HOK.out
  rw [HL.out] at hol
  obtain ⟨ra, rc, rfl, hrc⟩ := hI5.opt
  rw [natL_len, hol] at hrc
  have HRC := Lib.hid hrc
  have HFAR := Lib.hid (fun x hx => (hI5.own_lt x hx).1)
  rw [size_alloc, size_alloc] at HFAR
  obtain ⟨A, hA⟩ : ∃ A, w3.heap.size = A := ⟨_, rfl⟩
  rw [hA] at hB5 hC5 HFAR hsz3 hbl3
  have hql : (natL (orderOf p)).length = m := by rw [natL_len, hol]
  have HNL := Lib.hid (fun k hk => orderOf_ready HOK.out k hk)
  clear hB3 hC3 hbx4 ho4 hoo4 ho5 hrc hI5
  go_wp2_with fail
  go_loopw [39] (fun vi wr => ∃ k : Nat, k ≤ m ∧ vi = .int .i64 k ∧ Bools wr A m (liveK p (fun i => !goneF P C (nth of i)) k) ∧ Only [A] w5 wr) (fun vi _ => m - (intOf vi).toNat)
  case atStart => exact ⟨0, Nat.zero_le _, rfl, hB5, Only.refl _ _⟩
  case round =>
    obtain ⟨wo, rfl⟩ : ∃ wo : World, wo = wr := ⟨_, rfl⟩
    clear hB5
    obtain ⟨k, hk, rfl, hB, hoA⟩ := hrel
    have how := hoo5.kin hoA (by intro x hx; simp at hx; subst hx; exact hsz3)
    by_cases hkm : k < m
    · have hkl : k < (orderOf p).length := by rw [hol]; exact hkm
      obtain ⟨g, rfl, ck⟩ := HRC.out k hkm
      rw [natL_nth _ _ hkl] at ck
      have hgA : g ≠ A := fun e => by have := HFAR.out g (by simp [own, Value.ownBlock]); omega
      have ck2 := (hoA.cell (p := ⟨g, k, none⟩) (cell_lt ck) (by simpa using hgA)).trans ck
      obtain ⟨i, hi⟩ : ∃ i, (orderOf p)[k] = i := ⟨_, rfl⟩
      have hki : (orderOf p)[k]? = some i := by rw [List.getElem?_eq_getElem hkl, hi]
      rw [hi] at ck2
      have him : i < m := by rw [← HL.out]; exact (HNL.out k i hki).1
      have HKI := Lib.hid hki
      obtain ⟨ob, oo, rfl, co⟩ := HOC.out i him
      have co2 := (how.cell (p := ⟨ob, _, none⟩) (cell_lt co) (by simp)).trans co
      have hoi := hofr.out i him
      obtain ⟨b, off, rfl⟩ := HP.out.any i (by rw [HL.out]; exact him)
      obtain ⟨ua, uc, c0, c1, hrd⟩ := (HP.out.same how).at i (by rw [HL.out]; exact him)
      have hnl : (ndOf p i).length ≤ 30 := by have := HOK.out.needs i; rw [HL.out] at this; omega
      have hCo := hC5.only hoA (by simp)
      have cD := hCo.cell 0 _ rfl
      have cG2 : wo.cell? ⟨w.heap.size, 0, none⟩ = some (.slice ga n gcap) := (hoA.cell (p := ⟨w.heap.size, 0, none⟩) (cell_lt hbx5) (by simp; omega)).trans hbx5
      have cA := (hB i him).1
      have fA := (hB i him).2
      have hstep : Hid (∀ x, liveK p (fun i => !goneF P C (nth of i)) (k + 1) x = if x = i then (!goneF P C (nth of i)) && !(ndOf p i).any (fun y => !liveK p (fun i => !goneF P C (nth of i)) k y.toNat) else liveK p (fun i => !goneF P C (nth of i)) k x) := by
        show ∀ x, _
        intro x
        show (match (orderOf p)[k]? with | some i => fun j => if j = i then (fun i => !goneF P C (nth of i)) i && !(ndOf p i).any (fun m => !liveK p (fun i => !goneF P C (nth of i)) k m.toNat) else liveK p (fun i => !goneF P C (nth of i)) k j | none => liveK p (fun i => !goneF P C (nth of i)) k) x = _
        rw [HKI.out]
      have hq1 := (groups_gone _ n P C (goneF P C) (nth of i) wo.drew (Pairs.same HG.out how.drew) HT.out (by omega) hoi.2 (goneF_neg P C) (fun k hk => goneF_step HT.out k hk)).mono fun e w' ⟨h1, h2⟩ => (And.intro h1 h2.symm : e = _ ∧ w' = wo.drew)
      obtain ⟨r, hr⟩ : ∃ r, (ndOf p i).any (fun y => !liveK p (fun i => !goneF P C (nth of i)) k y.toNat) = r := ⟨_, rfl⟩
      have hq2 := fn_contains_still 88 (fun _ _ => by kernel_rfl) #[.pointer (some ⟨A + 1, 0, none⟩)] _ _ wo.drew (fun x => !liveK p (fun i => !goneF P C (nth of i)) k x.toNat) (hrd.same ((Only.refl [] wo).drew)) (by omega)
        (fun x hx => by
          have hb := HOK.out.need i x hx
          obtain ⟨xn, rfl⟩ := Int.eq_ofNat_of_zero_le hb.1
          rw [HL.out] at hb
          exact (live_2 xn (A + 1) A m (liveK p (fun i => !goneF P C (nth of i)) k) wo.drew cD (hB.only ((Only.refl [] wo).drew) (by simp)) (by omega)).mono fun e w' ⟨h1, h2⟩ => ⟨by rw [h1]; rfl, h2.symm⟩) r hr
      rw [hr] at hstep
      have HB := Lib.hid hB
      generalize goneF P C (nth of i) = gj at *
      generalize nth of i = oi at *
      generalize (ndOf p i).length = ml at *
      obtain ⟨hoi1, hoi2⟩ := hoi
      obtain ⟨oin, rfl⟩ := Int.eq_ofNat_of_zero_le hoi1
      have hset : Only [A] wo (wo.drew.setCell ⟨A, i, none⟩ (.bool (!gj && !r))) := ((Only.refl [A] wo).drew).setCell (by simp) _
      have hB2 : Hid (Bools (wo.drew.setCell ⟨A, i, none⟩ (.bool (!gj && !r))) A m (liveK p (fun i => !goneF P C (nth of i)) (k + 1))) := by
        show Bools _ _ _ _
        refine ((HB.out.only ((Only.refl [] wo).drew) (by simp)).set i (!gj && !r)).congr (fun x _ => ?_)
        rw [hstep.out x]
      have HSET := Lib.hid (hoA.trans hset (by simp))
      have cAd : wo.drew.cell? ⟨A, i, none⟩ = some (.bool (liveK p (fun i => !goneF P C (nth of i)) k i)) := cA
      have fAd : wo.drew.frozen? ⟨A, i, none⟩ = false := fA
      clear hB co ck hr hki hi hrd hset hoA how cA fA
      cases gj
      · go_wp2_with fail
        refine wp_region_still_tail 20 (by kernel_rfl) (by kernel_rfl) ?_
        simp only [List.take_succ_cons, List.take_zero, List.drop_succ_cons, List.drop_zero]
        repeat still_step
        still_call hq1
        repeat still_step
        still_call hq2
        repeat still_step
        refine wpStill_nil ?_
        change wpList _ _ _ _ _ wo.drew
        go_wp2
        go_roundw
        case rel => exact ⟨k + 1, by omega, by go_num, hB2.out, HSET.out⟩
        case measure => (simp [intOf]; try omega)
      · go_wp2_with fail
        refine wp_region_still_tail 20 (by kernel_rfl) (by kernel_rfl) ?_
        simp only [List.take_succ_cons, List.take_zero, List.drop_succ_cons, List.drop_zero]
        repeat still_step
        still_call hq1
        still_step
        refine wpStill_ask (by rfl) (fun K hK => ?_)
        go_simp
        generalize h0 : Act.mk _ _ = a0
        refine hK _ ?_
        clear hK K
        refine wpStill_pass' (by subst h0; kernel_rfl) (fun a1 h1 => ?_)
        rw [← h0] at h1
        clear h0
        simp [go_sem] at h1
        replace h1 := h1.symm
        refine wpStill_pass' (by subst h1; kernel_rfl) (fun a2 h2 => ?_)
        rw [← h1] at h2
        clear h1
        simp [go_sem] at h2
        replace h2 := h2.symm
        refine wpStill_pass' (by subst h2; kernel_rfl) (fun a3 h3 => ?_)
        rw [← h2] at h3
        clear h2
        simp [go_sem] at h3
        replace h3 := h3.symm
        refine wpStill_pass' (by subst h3; kernel_rfl) (fun a4 h4 => ?_)
        rw [← h3] at h4
        clear h3
        simp [go_sem] at h4
        replace h4 := h4.symm
        refine wpStill_pass' (by subst h4; kernel_rfl) (fun a5 h5 => ?_)
        rw [← h4] at h5
        clear h4
        simp [go_sem] at h5
        replace h5 := h5.symm
        refine wpStill_pass' (by subst h5; kernel_rfl) (fun a6 h6 => ?_)
        rw [← h5] at h6
        clear h5
        simp [go_sem] at h6
        replace h6 := h6.symm
        refine wpStill_pass' (by subst h6; kernel_rfl) (fun a7 h7 => ?_)
        rw [← h6] at h7
        clear h6
        simp [go_sem] at h7
        replace h7 := h7.symm
        refine wpStill_pass' (by subst h7; kernel_rfl) (fun a8 h8 => ?_)
        rw [← h7] at h8
        clear h7
        simp [go_sem] at h8
        replace h8 := h8.symm
        subst h8
        repeat still_step
        refine wpStill_nil ?_
        change wpList _ _ _ _ _ wo.drew
        go_wp2
        go_roundw
        case rel => exact ⟨k + 1, by omega, by go_num, hB2.out, HSET.out⟩
        case measure => (simp [intOf]; try omega)
    · obtain rfl : m = k := by omega
      have cD := (hC5.only hoA (by simp)).cell 0 _ rfl
      have cAx : A < wo.heap.size := by have := (hC5.only hoA (by simp)).lt; omega
      go_wp2
      go_ret2
      exact ⟨A, rfl, by unfold liveF; rw [HL.out]; exact hB, by omega, cAx, how⟩

end Go.Proofs.YtadjcooemeaaeaaDoor
