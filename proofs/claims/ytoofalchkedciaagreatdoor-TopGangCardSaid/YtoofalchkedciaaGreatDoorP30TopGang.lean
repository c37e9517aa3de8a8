/-
  Contracts of package cells: op, ready, along.
-/
import Derived.Test.YtoofalchkedciaaGreatDoorP29TopGang
import Derived.Test.YtoofalchkedciaaGreatDoorP8TopGang
import Derived.Test.YtoofalchkedciaaGreatDoorP9TopGang
namespace Go.Proofs.YtoofalchkedciaaGreatDoor
open Go.RowKit Go.Deep

set_option maxRecDepth 100000 in
theorem cells_op (o : Opn) (w : World) : Calls Tryz.prog 135 #[opV o] w fun e w' => e = .returned (errV (opFault o)) ∧ Only [] w w' := by
  obtain ⟨E, hE⟩ : ∃ E, opFault o = E := ⟨_, rfl⟩
  have HE := Lib.hid hE
  rw [hE]
  clear hE
  obtain ⟨wh, n⟩ := o
  have HW := Lib.hid cells_within
  have hb := Cells.new w #[.int .i64 wh, .int .i64 n] 232
  have hal := Lib.hid ((Only.refl [] w).alloc (.cells #[.int .i64 wh, .int .i64 n] 232))
  have c0 := hb.cell 0 _ rfl
  have c1 := hb.cell 1 _ rfl
  clear hb
  simp only [opV]
  by_cases h1 : 1 ≤ wh
  · by_cases h5 : wh ≤ 5
    · by_cases hin : inV n
      · have e : Hid (E = 0) := by show _ = _; rw [← HE.out]; exact if_pos ⟨h1, h5, hin⟩
        have hd : decide (inV n) = true := decide_eq_true hin
        go_enter Tryz.func135, Tryz.ntmps135
        clear hin
        go_wp2_with fail
        refine (HW.out n _).mono ?_
        rintro e2 w9 ⟨rfl, hw9⟩
        rw [hd]
        subst hw9
        go_wp2
        go_ret
        exact ⟨by rw [e.out]; rfl, hal.out⟩
      · have e : Hid (E = 1) := by show _ = _; rw [← HE.out]; exact if_neg (fun h => hin h.2.2)
        have hd : decide (inV n) = false := decide_eq_false hin
        go_enter Tryz.func135, Tryz.ntmps135
        clear hin
        go_wp2_with fail
        refine (HW.out n _).mono ?_
        rintro e2 w9 ⟨rfl, hw9⟩
        rw [hd]
        subst hw9
        go_wp2
        go_ret
        exact ⟨by rw [e.out]; rfl, hal.out⟩
    · have e : Hid (E = 1) := by show _ = _; rw [← HE.out]; exact if_neg (fun h => h5 h.2.1)
      go_enter Tryz.func135, Tryz.ntmps135
      go_wp2
      go_ret
      exact ⟨by rw [e.out]; rfl, hal.out⟩
  · have e : Hid (E = 1) := by show _ = _; rw [← HE.out]; exact if_neg (fun h => h1 h.1)
    go_enter Tryz.func135, Tryz.ntmps135
    go_wp2
    go_ret
    exact ⟨by rw [e.out]; rfl, hal.out⟩

/-- What is wrong with a plan, and its ops. -/
noncomputable def allFault (p : PlanL) (ops : List Opn) : Int := if planFault p ≠ 0 then planFault p else if ops.length ≠ p.length then 3 else opsFault ops
theorem allFault_zero {p : PlanL} {ops : List Opn} (h : allFault p ops = 0) : PlanOk p ∧ ops.length = p.length ∧ ∀ o ∈ ops, opOk o := by
  unfold allFault at h
  split at h
  · rename_i h0; exact absurd h h0
  · rename_i h0
    split at h
    · cases h
    · rename_i h1
      unfold opsFault at h
      split at h
      · rename_i h2
        exact ⟨(planOk_iff p).2 (by simpa using h0), by simpa using h1, h2⟩
      · cases h
theorem allFault_ok {p : PlanL} {ops : List Opn} (h0 : PlanOk p) (h1 : ops.length = p.length) (h2 : ∀ o ∈ ops, opOk o) : allFault p ops = 0 := by
  unfold allFault
  rw [if_neg (by simp [(planOk_iff p).1 h0]), if_neg (by simp [h1])]
  exact if_pos h2

set_option maxRecDepth 100000 in
set_option maxHeartbeats 4000000 in
theorem cells_ready (v u : Value) (p : PlanL) (ops : List Opn) (w : World) (h : InPlan w v p) (hu : OpsAt w u ops) (hlen : ops.length ≤ 9223372036854775807) :
    Calls Tryz.prog 91 #[v, u] w fun e w' => e = .returned (errV (allFault p ops)) ∧ Only [] w w' := by
  have hr := plan_Right v p w h
  obtain ⟨pa, pc, rfl, _⟩ := h.task
  obtain ⟨a, c, rfl, ha⟩ := hu.opt
  have HA := Lib.hid ha
  obtain ⟨n, hn⟩ : ∃ n, p.length = n := ⟨_, rfl⟩
  obtain ⟨m, hm⟩ : ∃ m, ops.length = m := ⟨_, rfl⟩
  have HL := Lib.hid hn
  have HM := Lib.hid hm
  have hn9 : p.length ≤ 9223372036854775807 := by obtain ⟨_, _, _, k1, k2, _⟩ := h.task; unfold maxLen at k2; omega
  obtain ⟨E, hE⟩ : ∃ E, allFault p ops = E := ⟨_, rfl⟩
  have HE := Lib.hid hE
  rw [hE]
  rw [hn] at hr hn9 ⊢
  rw [hm] at HA hlen ⊢
  clear h hu ha hn hm hE
  by_cases h0 : planFault p = 0
  · have hok := Lib.hid ((planOk_iff p).2 h0)
    rw [h0, errV_zero] at hr
    clear h0
    go_enter Tryz.func91, Tryz.ntmps91
    go_wp2_with fail
    refine hr.mono ?_
    rintro e w1 ⟨rfl, ho1⟩
    clear hr
    by_cases hmn : m = n
    · subst hmn
      have hop := Lib.hid (fun (o : Opn) W => cells_op o W)
      simp only [opV] at hop
      go_wp2_with fail
      go_loopw [7, 8, 22] (fun _ _ vi wr => ∃ i : Nat, i ≤ m ∧ vi = .int .i64 i ∧ (∀ j, j < i → opOk (opAt ops j)) ∧ Only [] w wr) (fun _ _ vi _ => m - (intOf vi).toNat)
      case atStart => exact ⟨0, Nat.zero_le _, rfl, fun j hj => by omega, ho1⟩
      case round =>
        clear ho1
        obtain ⟨i, hi, rfl, hgood, ho⟩ := hrel
        have HG := Lib.hid hgood
        clear hgood
        by_cases him : i < m
        · have hil : i < ops.length := by rw [HM.out]; exact him
          obtain ⟨b, off, rfl, k0, k1⟩ := HA.out i him
          have c0 := (ho.cell (p := ⟨b, _, none⟩) (cell_lt k0) (by simp)).trans k0
          have c1 := (ho.cell (p := ⟨b, _, none⟩) (cell_lt k1) (by simp)).trans k1
          have HMEM := Lib.hid (opAt_mem hil)
          obtain ⟨o, hox⟩ : ∃ o, opAt ops i = o := ⟨_, rfl⟩
          have HO := Lib.hid hox
          rw [hox] at c0 c1 HMEM
          obtain ⟨wh, x⟩ := o
          simp only at c0 c1
          have ho2 := ho.alloc (.cells #[.int .i64 wh, .int .i64 x] 232)
          have hc := hop.out ⟨wh, x⟩ (wr.alloc (.cells #[.int .i64 wh, .int .i64 x] 232))
          simp only at hc
          clear k0 k1 hox
          by_cases hg : opOk ⟨wh, x⟩
          · have hz : opFault ⟨wh, x⟩ = 0 := if_pos hg
            rw [hz, errV_zero] at hc
            clear ho hz
            go_wp2_with fail
            refine hc.mono ?_
            rintro e w3 ⟨rfl, ho3⟩
            have HO3 := Lib.hid (ho2.trans ho3 (by simp))
            clear hc ho2 ho3
            go_wp2
            go_roundw
            case rel =>
              refine ⟨i + 1, by omega, by go_num, fun j hj => ?_, HO3.out⟩
              by_cases e : j = i
              · subst e; rw [HO.out]; exact hg
              · exact HG.out j (by omega)
            case measure => (simp [intOf]; try omega)
          · have hz : opFault ⟨wh, x⟩ = 1 := if_neg hg
            have he : Hid (E = 1) := by
              show _ = _
              rw [← HE.out]
              unfold allFault
              rw [if_neg (by simp [(planOk_iff p).1 hok.out]), if_neg (by simp [HM.out, HL.out])]
              exact if_neg (fun hh => hg (hh _ HMEM.out))
            rw [hz, errV_ne (by decide)] at hc
            clear ho hz
            go_wp2_with fail
            refine hc.mono ?_
            rintro e w3 ⟨rfl, ho3⟩
            have HO3 := Lib.hid (ho2.trans ho3 (by simp))
            clear hc ho2 ho3
            go_wp2
            go_ret
            exact ⟨by rw [he.out]; rfl, HO3.out⟩
        · obtain rfl : i = m := by omega
          have he : Hid (E = 0) := by
            show _ = _
            rw [← HE.out]
            refine allFault_ok hok.out (by rw [HM.out, HL.out]) fun o ho => ?_
            obtain ⟨j, hj⟩ := List.getElem?_of_mem ho
            have hjl : j < ops.length := (List.getElem?_eq_some_iff.1 hj).1
            have := HG.out j (by rw [HM.out] at hjl; exact hjl)
            unfold opAt at this
            rw [hj] at this
            exact this
          go_wp2
          go_ret
          exact ⟨by rw [he.out]; rfl, ho⟩
    · have he : Hid (E = 3) := by
        show _ = _
        rw [← HE.out]
        unfold allFault
        rw [if_neg (by simp [(planOk_iff p).1 hok.out]), if_pos (by rw [HM.out, HL.out]; exact hmn)]
      have hne : ¬ (m : Int) = (n : Int) := by omega
      go_wp2
      go_ret
      exact ⟨by rw [he.out]; rfl, ho1⟩
  · have he : Hid (E = planFault p) := by
      show _ = _
      rw [← HE.out]
      unfold allFault
      rw [if_pos h0]
    rw [errV_ne h0] at hr
    have H0 := Lib.hid h0
    clear h0
    go_enter Tryz.func91, Tryz.ntmps91
    go_wp2_with fail
    refine hr.mono ?_
    rintro e w1 ⟨rfl, ho1⟩
    clear hr
    go_wp2
    go_ret
    exact ⟨by rw [he.out, errV_ne H0.out]; rfl, ho1⟩

theorem ahead_push {p : PlanL} {l : List Nat} {i : Nat} (h : aheadB p l) (hi : ∀ x ∈ ndOf p i, x.toNat ∈ l) : aheadB p (l ++ [i]) := by
  intro k hk x hx
  by_cases e : k < l.length
  · rw [List.getElem?_append_left e] at hx
    rw [List.take_append_of_le_length (by omega)]
    exact h k e x hx
  · have hkl : k = l.length := by simp at hk; omega
    subst hkl
    have : x ∈ ndOf p i := by simpa using hx
    simpa using hi x this

theorem made2c (w : World) (n : Nat) :
    (RowCl ((w.alloc (.cells (madeCells #[.int .i64 0, .bool false] (n * 2)) 191)).alloc (.cells (madeCells #[.bool false] n) 4)).drew w.heap.size n (fun _ => clZero) ∧
      Bools ((w.alloc (.cells (madeCells #[.int .i64 0, .bool false] (n * 2)) 191)).alloc (.cells (madeCells #[.bool false] n) 4)).drew (w.heap.size + 1) n (fun _ => false)) ∧
    (Bools ((w.alloc (.cells (madeCells #[.bool false] n) 4)).alloc (.cells (madeCells #[.int .i64 0, .bool false] (n * 2)) 191)).drew w.heap.size n (fun _ => false) ∧
      RowCl ((w.alloc (.cells (madeCells #[.bool false] n) 4)).alloc (.cells (madeCells #[.int .i64 0, .bool false] (n * 2)) 191)).drew (w.heap.size + 1) n (fun _ => clZero)) := by
  have h1 := made_cl w n
  have h2 := made_bools (w.alloc (.cells (madeCells #[.int .i64 0, .bool false] (n * 2)) 191)) n
  have h3 := made_bools w n
  have h4 := made_cl (w.alloc (.cells (madeCells #[.bool false] n) 4)) n
  rw [World.size_alloc] at h2 h4
  exact ⟨⟨h1.only (((Only.refl [] _).alloc _).drew) (by simp), h2.only ((Only.refl [] _).drew) (by simp)⟩, ⟨h3.only (((Only.refl [] _).alloc _).drew) (by simp), h4.only ((Only.refl [] _).drew) (by simp)⟩⟩

set_option maxRecDepth 100000 in
set_option maxHeartbeats 8000000 in
theorem cells_along (v u ov : Value) (p : PlanL) (ops : List Opn) (o : List Nat) (w : World) (h : InPlan w v p) (hok : PlanOk p) (hu : OpsAt w u ops) (hops : ∀ x ∈ ops, opOk x) (hl : ops.length = p.length)
    (hord : Reads w ov (natL o)) (hon : ∀ x ∈ o, x < p.length) (hol : o.length ≤ 1000) :
    Calls Tryz.prog 92 #[v, u, ov] w fun e w' => ∃ v' b, e = .returned (.tuple #[v', .bool b]) ∧ Only [] w w' ∧
      ((b = true ∧ aheadB p o ∧ ∃ A, v' = .slice (some ⟨A, 0, none⟩) p.length p.length ∧ w.heap.size ≤ A ∧ RowCl w' A p.length (foldA p ops o)) ∨ (b = false ∧ ¬ aheadB p o ∧ v' = .slice none 0 0)) := by
  have HP := Lib.hid h
  have HO := Lib.hid hok
  have HOPS := Lib.hid hops
  have HON := Lib.hid hon
  have h30 := hok.len
  obtain ⟨pa, pc, rfl, _⟩ := h.task
  obtain ⟨ua, uc, rfl, hua⟩ := hu.opt
  obtain ⟨oa, oc, rfl, hoa⟩ := hord.opt
  obtain ⟨n, hn⟩ : ∃ n, p.length = n := ⟨_, rfl⟩
  obtain ⟨m, hm⟩ : ∃ m, o.length = m := ⟨_, rfl⟩
  have HL := Lib.hid hn
  have HM := Lib.hid hm
  rw [natL_len] at hoa ⊢
  rw [hl, hn] at hua ⊢
  rw [hn] at h30 HP
  rw [hm] at hoa hol ⊢
  have HUA := Lib.hid hua
  have HOA := Lib.hid hoa
  have hmk1 := make_cl n (by omega)
  have hmk2 := make_bools n (by omega)
  have HUL : Hid (ops.length = n) := by show _ = _; rw [hl]; exact hn
  clear h hok hops hon hu hord hua hoa hn hm hl
  go_enter Tryz.func92, Tryz.ntmps92
  go_upto_region 1 with (fail)
  go_cut [8, 9] (fun va vb wx => ∃ A D, va = .slice (some ⟨A, 0, none⟩) n n ∧ vb = .slice (some ⟨D, 0, none⟩) n n ∧ w.heap.size ≤ A ∧ w.heap.size ≤ D ∧ A ≠ D ∧ A < wx.heap.size ∧ D < wx.heap.size ∧ RowCl wx A n (fun _ => clZero) ∧ Bools wx D n (fun _ => false) ∧ Only [] w wx)
  case first =>
    as_aux_lemma =>
      go_region
      all_goals
        obtain ⟨⟨m1, m2⟩, ⟨m3, m4⟩⟩ := made2c w n
        have hz1 : w.heap.size + 1 < (((w.alloc (.cells (madeCells #[.int .i64 0, .bool false] (n * 2)) 191)).alloc (.cells (madeCells #[.bool false] n) 4)).drew).heap.size := by show _ < ((w.alloc _).alloc _).heap.size; simp
        have hz2 : w.heap.size + 1 < (((w.alloc (.cells (madeCells #[.bool false] n) 4)).alloc (.cells (madeCells #[.int .i64 0, .bool false] (n * 2)) 191)).drew).heap.size := by show _ < ((w.alloc _).alloc _).heap.size; simp
        go_wp2
        go_meet
        exact ⟨_, _, rfl, rfl, by omega, by omega, by omega, by omega, by omega, by assumption, by assumption, (((Only.refl [] w).alloc _).alloc _).drew⟩
  case rest =>
  obtain ⟨A, D, rfl, rfl, hA, hD, hAD, hAl, hDl, nA, nD, ho1⟩ := hcut
  clear hmk1 hmk2
  go_wp2_with fail
  go_loopw [11, 12, 14, 23] (fun _ _ _ vi wr => ∃ j : Nat, j ≤ m ∧ vi = .int .i64 j ∧ RowCl wr A n (foldA p ops (o.take j)) ∧ Bools wr D n (fun t => decide (t ∈ o.take j)) ∧ aheadB p (o.take j) ∧ Only [] w wr) (fun _ _ _ vi _ => m - (intOf vi).toNat)
  case atStart => exact ⟨0, Nat.zero_le _, rfl, nA, by simpa using nD, fun k hk => by simp at hk, ho1⟩
  case round =>
    clear nA nD ho1
    obtain ⟨wo, rfl⟩ : ∃ wo : World, wo = wr := ⟨_, rfl⟩
    obtain ⟨j, hj, rfl, nA, nD, hah, ho⟩ := hrel
    have HAH := Lib.hid hah
    clear hah
    by_cases hjm : j < m
    · have hjl : j < o.length := by rw [HM.out]; exact hjm
      obtain ⟨ob, oo, rfl, k0⟩ := HOA.out j hjm
      have hxx : nth (natL o) j = ((o[j] : Nat) : Int) := natL_nth _ _ hjl
      rw [hxx] at k0
      have hxn := HON.out _ (List.getElem_mem hjl)
      have HTK : Hid (o.take (j + 1) = o.take j ++ [o[j]]) := List.take_succ_eq_append_getElem hjl
      have HGET : Hid (o[j]?.getD 0 = o[j]) := by show _ = _; rw [List.getElem?_eq_getElem hjl]; rfl
      obtain ⟨x, hx⟩ : ∃ x, o[j] = x := ⟨_, rfl⟩
      rw [hx] at k0 hxn HTK HGET
      rw [HL.out] at hxn
      obtain ⟨lj, hlj⟩ : ∃ lj, o.take j = lj := ⟨_, rfl⟩
      have HLJ := Lib.hid hlj
      rw [hlj] at nA nD HAH HTK
      obtain ⟨f, hf⟩ : ∃ f, foldA p ops lj = f := ⟨_, rfl⟩
      have HF := Lib.hid hf
      rw [hf] at nA
      have cX := (ho.cell (p := ⟨ob, _, none⟩) (cell_lt k0) (by simp)).trans k0
      have HNA := Lib.hid nA
      have HND := Lib.hid nD
      obtain ⟨pb, po, rfl⟩ := HP.out.any x (by rw [HL.out]; exact hxn)
      obtain ⟨na, nc, _, cN, hNR⟩ := (HP.out.same ho).at x (by rw [HL.out]; exact hxn)
      obtain ⟨na', nc', hne', hncell⟩ := hNR.opt
      injection hne' with e1 _ e2
      subst e1 e2
      have HNC := Lib.hid hncell
      have HNB := Lib.hid (fun y (hy : y ∈ ndOf p x) => HO.out.need x y hy)
      have hnl30 : (ndOf p x).length ≤ 30 := by
        have := need_len (HO.out.rise x) (fun k hk => HO.out.need x k hk)
        rw [HL.out] at this; omega
      obtain ⟨nd, hnd⟩ : ∃ nd, ndOf p x = nd := ⟨_, rfl⟩
      have HNDX := Lib.hid hnd
      rw [hnd] at cN HNC HNB hnl30
      obtain ⟨nl, hnl⟩ : ∃ nl, nd.length = nl := ⟨_, rfl⟩
      have HNL := Lib.hid hnl
      rw [hnl] at cN HNC hnl30
      clear hx hxx hlj hf hncell hNR hnd hnl k0 nA nD
      go_wp2_with fail
      go_loopw [12, 14, 33] (fun vin _ vq wr => ∃ q : Nat, q ≤ nl ∧ vq = .int .i64 q ∧ wr.ownsRow wo.heap.size 191 2 vin q (flatCl ((nd.take q).map fun k => f k.toNat)) ∧ (∀ i, i < q → (nth nd i).toNat ∈ lj) ∧ Only [] wo wr) (fun _ _ vq _ => nl - (intOf vq).toNat)
      case atStart => exact ⟨0, Nat.zero_le _, rfl, World.ownsRow_nil _ _ _ _, fun i hi => by omega, Only.refl _ _⟩
      case round =>
        obtain ⟨q, hq, rfl, hI, hdone, ho2⟩ := hrel
        have HDN := Lib.hid hdone
        clear hdone
        by_cases hqn : q < nl
        · have hql : q < nd.length := by rw [HNL.out]; exact hqn
          obtain ⟨nb, no, rfl, c0⟩ := HNC.out q hqn
          have hmem : nth nd q ∈ nd := by simp [nth, hql]
          obtain ⟨hy0, hyn⟩ := HNB.out _ hmem
          obtain ⟨k, hk⟩ := Int.eq_ofNat_of_zero_le hy0
          rw [hk] at c0 hyn
          have hkn : k < n := by rw [HL.out] at hyn; omega
          have HK := Lib.hid hk
          have cY := (ho2.cell (p := ⟨nb, _, none⟩) (cell_lt c0) (by simp)).trans c0
          have cD := ((HND.out.only ho2 (by simp)) k hkn).1
          obtain ⟨cA0, cA1⟩ := (HNA.out.only ho2 (by simp)).at k hkn
          obtain ⟨ck, hck⟩ : ∃ ck, f k = ck := ⟨_, rfl⟩
          rw [hck] at cA0 cA1
          have HCK := Lib.hid hck
          obtain ⟨cn, cb⟩ := ck
          simp only at cA0 cA1 cD
          clear hk c0 hy0 hyn hck
          by_cases hin : k ∈ lj
          · rw [decide_eq_true hin] at cD
            have hfar := Row.far hI
            have hone : Hid (RowAt (wr.alloc (.cells #[.int .i64 cn, .bool cb] 191)) (.slice (some ⟨wr.heap.size, 0, none⟩) 1 1) 1 2 [.int .i64 cn, .bool cb]) :=
              RowAt.one (cs := #[.int .i64 cn, .bool cb]) (by have h := heap_alloc_new wr (.cells #[.int .i64 cn, .bool cb] 191); simpa using h) rfl (by intro y hy; simp at hy; rcases hy with rfl | rfl <;> rfl)
            have hpush : Hid (flatCl ((nd.take q).map fun k => f k.toNat) ++ [.int .i64 cn, .bool cb] = flatCl ((nd.take (q + 1)).map fun k => f k.toNat)) := by
              show _ = _
              have e : nd.take (q + 1) = nd.take q ++ [nth nd q] := by rw [List.take_succ_eq_append_getElem hql]; simp [nth, hql]
              have e2 : f (nth nd q).toNat = ⟨cn, cb⟩ := by rw [HK.out]; exact HCK.out
              rw [e, List.map_append, List.map_singleton, e2]
              exact flatCl_push _ ⟨cn, cb⟩
            have hsz := ho2.size
            have HI := Lib.hid hI
            have HO2 := Lib.hid ho2
            clear hI ho2
            go_wp2_with (at_builtin; refine wpList_append_rows sliceOf_cl rfl (.tmp 42) (.tmp 47) rfl wr wo.heap.size _ q _ _ 1 _ HI.out hone.out (by omega) hsz rfl rfl ((Only.refl [] _).alloc _) ?_; intro v3 w3 hI3 hO3 hK3)
            rw [hpush.out] at hI3
            have HI3 := Lib.hid hI3
            have ho3 : Hid (Only [] wo w3) := HO2.out.trans hO3 (fun x hx hl => by have := (hfar x hx).1; omega)
            clear hI3 hO3 hK3
            go_roundw
            case rel =>
              refine ⟨q + 1, by omega, by go_num, HI3.out, fun i hi => ?_, ho3.out⟩
              by_cases e : i = q
              · subst e; rw [HK.out]; simpa using hin
              · exact HDN.out i (by omega)
            case measure => (simp [intOf]; try omega)
          · rw [decide_eq_false hin] at cD
            have hno : Hid (¬ aheadB p o) := fun hh => by
              have h1 := hh j hjl (nth nd q) (by rw [HGET.out, HNDX.out]; exact hmem)
              rw [HLJ.out, HK.out] at h1
              exact hin (by simpa using h1)
            have HO3 := Lib.hid (ho.trans ho2 (by simp))
            clear hI ho2
            go_wp2
            go_ret2
            exact ⟨_, false, rfl, HO3.out, .inr ⟨rfl, hno.out, rfl⟩⟩
        · obtain rfl : q = nl := by omega
          have htk : nd.take q = nd := List.take_of_length_le (by rw [HNL.out]; exact Nat.le_refl _)
          rw [htk] at hI
          have hlen : (nd.map fun k => f k.toNat).length = q := by rw [List.length_map]; exact HNL.out
          have hat : KellsAt wr u12 (nd.map fun k => f k.toNat) := by
            have := Row.at hI (flatCl_one _)
            unfold KellsAt
            rw [hlen]; exact this
          have hcs : ∀ c ∈ nd.map fun k => f k.toNat, ceOk c := fun c hc => by
            obtain ⟨k, _, rfl⟩ := List.mem_map.1 hc
            rw [← HF.out]
            exact foldA_ok p ops lj HOPS.out (fun y hy => by
              rw [HUL.out, ← HL.out]
              rw [← HLJ.out] at hy
              exact HON.out y (List.mem_of_mem_take hy)) _
          obtain ⟨b, off, rfl, k0, k1⟩ := HUA.out x hxn
          have ho3 := ho.trans ho2 (by simp)
          have c0 := (ho3.cell (p := ⟨b, _, none⟩) (cell_lt k0) (by simp)).trans k0
          have c1 := (ho3.cell (p := ⟨b, _, none⟩) (cell_lt k1) (by simp)).trans k1
          have hop := HOPS.out _ (opAt_mem (bs := ops) (k := x) (by rw [HUL.out]; exact hxn))
          obtain ⟨op, hopx⟩ : ∃ op, opAt ops x = op := ⟨_, rfl⟩
          rw [hopx] at c0 c1 hop
          have HOX := Lib.hid hopx
          have hdo := cells_do op u12 _ wr hop hat hcs (by rw [hlen]; omega)
          obtain ⟨cc, hcc⟩ : ∃ cc, doC op (nd.map fun k => f k.toNat) = cc := ⟨_, rfl⟩
          rw [hcc] at hdo
          have hstep : Hid (foldA p ops (o.take (j + 1)) = updCl f x cc) := by
            show _ = _
            rw [HTK.out, foldA_snoc, HF.out]
            unfold stepA needC
            rw [HNDX.out, HOX.out, hcc]
          have hahn : Hid (aheadB p (o.take (j + 1))) := by
            show aheadB p _
            rw [HTK.out]
            refine ahead_push HAH.out fun y hy => ?_
            rw [HNDX.out] at hy
            obtain ⟨i, hi⟩ := List.getElem?_of_mem hy
            have hil : i < nd.length := (List.getElem?_eq_some_iff.1 hi).1
            have := HDN.out i (by rw [HNL.out] at hil; exact hil)
            have e : nth nd i = y := by simp [nth, hi]
            rwa [e] at this
          obtain ⟨cn, cb⟩ := cc
          obtain ⟨wh, nn⟩ := op
          simp only [opV, ceV] at hdo c0 c1
          have hDset : Hid ((fun t => decide (t ∈ o.take (j + 1))) = fun t => if t = x then true else decide (t ∈ lj)) := by
            show _ = _
            funext t
            rw [HTK.out]
            by_cases e : t = x <;> simp [e]
          have HO2 := Lib.hid ho2
          clear hI hat hcs hlen htk k0 k1 hop hopx hcc ho2
          go_wp2_with fail
          refine hdo.mono ?_
          rintro e w9 ⟨rfl, ho9⟩
          have how := (ho3.trans ho9 (by simp))
          have hwo : Only [] wo w9 := HO2.out.trans ho9 (by simp)
          have nA := HNA.out.only hwo (by simp)
          have nD := HND.out.only hwo (by simp)
          obtain ⟨a0, a1⟩ := nA.at x hxn
          have g0 : w9.frozen? ⟨A, x * 2, none⟩ = false := (nA x hxn 0 _ rfl).2
          have g1 := (nA x hxn 1 _ rfl).2
          have d0 := (nD x hxn).1
          have d1 := (nD x hxn).2
          obtain ⟨wz, hwz⟩ : ∃ wz, ((w9.setCell ⟨A, x * 2, none⟩ (.int .i64 cn)).setCell ⟨A, x * 2 + 1, none⟩ (.bool cb)).setCell ⟨D, x, none⟩ (.bool true) = wz := ⟨_, rfl⟩
          have hoz : Only [A, D] w9 wz := by
            rw [← hwz]
            exact (((Only.refl [A, D] w9).setCell (by simp) _).setCell (by simp) _).setCell (by simp) _
          have rA : RowCl wz A n (foldA p ops (o.take (j + 1))) := by
            rw [hstep.out, ← hwz]
            exact RowCl.only (nA.set x hxn ⟨cn, cb⟩) ((Only.refl [D] _).setCell (by simp) _) (by simp; omega)
          have rD : Bools wz D n (fun t => decide (t ∈ o.take (j + 1))) := by
            rw [hDset.out, ← hwz]
            exact (nD.only (((Only.refl [A] w9).setCell (p := ⟨A, x * 2, none⟩) (by simp) (.int .i64 cn)).setCell (p := ⟨A, x * 2 + 1, none⟩) (by simp) (.bool cb)) (by simp; omega)).set x true
          have rO : Only [] w wz := how.trans hoz (fun a ha hl => by simp at ha; omega)
          have RA := Lib.hid rA
          have RD := Lib.hid rD
          have RO := Lib.hid rO
          clear hdo hwo nA nD rA rD rO hoz how ho9 hstep hDset ho3 HNA HND
          go_wp2
          go_roundw
          case rel => exact ⟨j + 1, by omega, by go_num, RA.out, RD.out, hahn.out, RO.out⟩
          case measure => (simp [intOf]; try omega)
    · obtain rfl : j = m := by omega
      have htk : o.take j = o := List.take_of_length_le (by rw [HM.out]; exact Nat.le_refl _)
      rw [htk] at HAH nA
      have HNA := Lib.hid nA
      clear nA nD htk
      go_wp2
      go_ret2
      exact ⟨_, true, rfl, ho, .inl ⟨rfl, HAH.out, A, rfl, hA, HNA.out⟩⟩

end Go.Proofs.YtoofalchkedciaaGreatDoor
