/-
  Contract of judge.ends.
-/
import Derived.Test.YtocpmncedlenbaaGreatDoorP33TopWeave
import Derived.Test.YtocpmncedlenbaaGreatDoorP40TopWeave
import Derived.Test.YtocpmncedlenbaaGreatDoorP39TopWeave
import Derived.Test.YtocpmncedlenbaaGreatDoorP31TopWeave
import Derived.Test.YtocpmncedlenbaaGreatDoorP17TopWeave
namespace Go.Proofs.YtocpmncedlenbaaGreatDoor
open Go.RowKit Go.Deep

def seenH (bs : List Bt) : Int → Int → Bool := fun a c => bs.any fun x => decide (x.step = a) && decide (x.hand = c)
def seenT (bs : List Bt) : Int → Int → Bool := fun a c => bs.any fun x => decide (x.step = a) && decide (x.task = c)
theorem seenH_push (bs : List Bt) (b : Bt) : seenH (bs ++ [b]) = upP (seenH bs) b.step b.hand := by
  funext a c
  unfold seenH upP
  rw [List.any_append, Bool.or_comm]
  simp
theorem seenT_push (bs : List Bt) (b : Bt) : seenT (bs ++ [b]) = upP (seenT bs) b.step b.task := by
  funext a c
  unfold seenT upP
  rw [List.any_append, Bool.or_comm]
  simp
theorem clash_split (bs : List Bt) (b : Bt) : clashB bs b = (seenH bs b.step b.hand || seenT bs b.step b.task) := by
  unfold clashB seenH seenT
  induction bs with
  | nil => rfl
  | cons a bs ih =>
    simp only [List.any_cons, ih]
    cases decide (a.step = b.step) <;> cases decide (a.hand = b.hand) <;> cases decide (a.task = b.task) <;> simp
    all_goals
      cases (bs.any fun x => decide (x.step = b.step) && decide (x.hand = b.hand)) <;> simp

/-- What is wrong, but for who needs whom. -/
noncomputable def endsErr (p : PlanL) (hands : Int) (bs : List Bt) : Int :=
  if hErr p hands ≠ 0 then hErr p hands else if scanK p hands bs bs.length ≠ 0 then scanK p hands bs bs.length else if lackB p bs = true then 5 else 0

theorem endsErr_h {p : PlanL} {hands : Int} {bs : List Bt} (h : hErr p hands ≠ 0) : endsErr p hands bs = hErr p hands := by unfold endsErr; rw [if_pos h]
theorem endsErr_scan {p : PlanL} {hands : Int} {bs : List Bt} {i : Nat} {e : Int} (h : hErr p hands = 0) (hi : i < bs.length) (h1 : scanK p hands bs i = 0) (h2 : bitFault p hands (bs.take i) (bitAt bs i) = e) (he : e ≠ 0) : endsErr p hands bs = e := by
  have := firstE_hit (F := fun i => bitFault p hands (bs.take i) (bitAt bs i)) (k := i) (m := bs.length) h1 (by rw [h2]; exact he) hi
  unfold endsErr
  rw [if_neg (by simp [h])]
  unfold scanK
  rw [this, h2, if_pos he]
theorem endsErr_lack {p : PlanL} {hands : Int} {bs : List Bt} {i : Nat} (h : hErr p hands = 0) (h1 : scanK p hands bs bs.length = 0) (hi : i < p.length) (h2 : (manyOf bs (i : Int) : Int) < wkOf p i) : endsErr p hands bs = 5 := by
  unfold endsErr
  rw [if_neg (by simp [h]), if_neg (by simp [h1]), if_pos]
  unfold lackB
  exact List.any_eq_true.2 ⟨i, by simpa using hi, decide_eq_true h2⟩
theorem endsErr_zero {p : PlanL} {hands : Int} {bs : List Bt} (h : hErr p hands = 0) (h1 : scanK p hands bs bs.length = 0) (h2 : ∀ i, i < p.length → ¬ (manyOf bs (i : Int) : Int) < wkOf p i) : endsErr p hands bs = 0 := by
  unfold endsErr
  rw [if_neg (by simp [h]), if_neg (by simp [h1]), if_neg]
  unfold lackB
  intro hx
  obtain ⟨i, hi, hd⟩ := List.any_eq_true.1 hx
  exact h2 i (by simpa using hi) (of_decide_eq_true hd)
theorem lackB_false {p : PlanL} {bs : List Bt} (h2 : ∀ i, i < p.length → ¬ (manyOf bs (i : Int) : Int) < wkOf p i) : lackB p bs = false := by
  unfold lackB
  rw [List.any_eq_false]
  intro i hi
  have := h2 i (by simpa using hi)
  simpa using this

theorem scanK_succ {p : PlanL} {hands : Int} {bs : List Bt} {i : Nat} (h1 : scanK p hands bs i = 0) (h2 : bitFault p hands (bs.take i) (bitAt bs i) = 0) : scanK p hands bs (i + 1) = 0 := by
  unfold scanK at h1 ⊢
  rw [firstE_step h1, h2]

theorem fault_1 {p : PlanL} {hands : Int} {bs : List Bt} {b : Bt} (h : b.step < 0 ∨ 10000 < b.step ∨ b.hand < 0 ∨ hands ≤ b.hand ∨ b.task < 0 ∨ (p.length : Int) ≤ b.task) : bitFault p hands bs b = 1 := by
  unfold bitFault; rw [if_pos h]
theorem fault_7 {p : PlanL} {hands : Int} {bs : List Bt} {b : Bt} (h : ¬ (b.step < 0 ∨ 10000 < b.step ∨ b.hand < 0 ∨ hands ≤ b.hand ∨ b.task < 0 ∨ (p.length : Int) ≤ b.task)) (h7 : clashB bs b = true) : bitFault p hands bs b = 7 := by
  unfold bitFault; rw [if_neg h, if_pos h7]
theorem fault_4 {p : PlanL} {hands : Int} {bs : List Bt} {b : Bt} (h : ¬ (b.step < 0 ∨ 10000 < b.step ∨ b.hand < 0 ∨ hands ≤ b.hand ∨ b.task < 0 ∨ (p.length : Int) ≤ b.task)) (h7 : clashB bs b = false) (h4 : wkOf p b.task.toNat ≤ (manyOf bs b.task : Int)) : bitFault p hands bs b = 4 := by
  unfold bitFault; rw [if_neg h, if_neg (by simp [h7]), if_pos h4]
theorem fault_0 {p : PlanL} {hands : Int} {bs : List Bt} {b : Bt} (h : ¬ (b.step < 0 ∨ 10000 < b.step ∨ b.hand < 0 ∨ hands ≤ b.hand ∨ b.task < 0 ∨ (p.length : Int) ≤ b.task)) (h7 : clashB bs b = false) (h4 : ¬ wkOf p b.task.toNat ≤ (manyOf bs b.task : Int)) : bitFault p hands bs b = 0 := by
  unfold bitFault; rw [if_neg h, if_neg (by simp [h7]), if_neg h4]

theorem made3 (w : World) (n : Nat) :
    Nums (((w.alloc (.cells (madeCells #[.int .i64 0] n) 3)).alloc (.cells (madeCells #[.int .i64 0] n) 3)).alloc (.cells (madeCells #[.int .i64 0] n) 3)).drew w.heap.size n (fun _ => 0) ∧
    Nums (((w.alloc (.cells (madeCells #[.int .i64 0] n) 3)).alloc (.cells (madeCells #[.int .i64 0] n) 3)).alloc (.cells (madeCells #[.int .i64 0] n) 3)).drew (w.heap.size + 1) n (fun _ => 0) ∧
    Nums (((w.alloc (.cells (madeCells #[.int .i64 0] n) 3)).alloc (.cells (madeCells #[.int .i64 0] n) 3)).alloc (.cells (madeCells #[.int .i64 0] n) 3)).drew (w.heap.size + 1 + 1) n (fun _ => 0) ∧
    Only [] w (((w.alloc (.cells (madeCells #[.int .i64 0] n) 3)).alloc (.cells (madeCells #[.int .i64 0] n) 3)).alloc (.cells (madeCells #[.int .i64 0] n) 3)).drew ∧
    w.heap.size + 3 ≤ (((w.alloc (.cells (madeCells #[.int .i64 0] n) 3)).alloc (.cells (madeCells #[.int .i64 0] n) 3)).alloc (.cells (madeCells #[.int .i64 0] n) 3)).drew.heap.size := by
  have h1 := made_nums w n
  have h2 := made_nums (w.alloc (.cells (madeCells #[.int .i64 0] n) 3)) n
  have h3 := made_nums ((w.alloc (.cells (madeCells #[.int .i64 0] n) 3)).alloc (.cells (madeCells #[.int .i64 0] n) 3)) n
  rw [World.size_alloc] at h2
  rw [World.size_alloc, World.size_alloc] at h3
  exact ⟨h1.only ((((Only.refl [] _).alloc _).alloc _).drew) (by simp), h2.only (((Only.refl [] _).alloc _).drew) (by simp), h3.only ((Only.refl [] _).drew) (by simp), (((Only.refl [] w).alloc _).alloc _).alloc _ |>.drew, by show _ ≤ (((w.alloc _).alloc _).alloc _).heap.size; simp [World.size_alloc]⟩

def EndsV (F : Int) (n : Nat) (bs : List Bt) (w w' : World) (v1 v2 : Value) : Prop :=
  (F ≠ 0 ∧ v1 = .slice none 0 0 ∧ v2 = .slice none 0 0) ∨
  (F = 0 ∧ ∃ A B, v1 = .slice (some ⟨A, 0, none⟩) n n ∧ v2 = .slice (some ⟨B, 0, none⟩) n n ∧ w.heap.size ≤ A ∧ w.heap.size ≤ B ∧
    Nums w' A n (fun t => firstF bs (t : Int)) ∧ Nums w' B n (fun t => lastF bs (t : Int)))

set_option maxRecDepth 100000 in
set_option maxHeartbeats 16000000 in
theorem judge_ends (v l : Value) (p : PlanL) (hands : Int) (bs : List Bt) (w : World) (h : InPlan w v p) (hb : InBits w l bs) :
    Calls Tryz.prog 126 #[v, .int .i64 hands, l] w fun e w' =>
      ∃ v1 v2, e = .returned (.tuple #[v1, v2, errV (endsErr p hands bs)]) ∧ EndsV (endsErr p hands bs) p.length bs w w' v1 v2 ∧ Only [] w w' := by
  have hr := judge_ready v p hands w h
  obtain ⟨hwf, hat, hmx⟩ := hb
  have HWF := Lib.hid hwf
  have HP := Lib.hid h
  obtain ⟨a, c, rfl, ha⟩ := hat.opt
  obtain ⟨pa, cap, rfl, hc1, hc2, _⟩ := h.task
  obtain ⟨n, hn⟩ : ∃ n, p.length = n := ⟨_, rfl⟩
  obtain ⟨m, hm⟩ : ∃ m, bs.length = m := ⟨_, rfl⟩
  have HL := Lib.hid hn
  have HM := Lib.hid hm
  have HA := Lib.hid ha
  have hm9 : m ≤ 9223372036854775807 := by rw [hm] at hmx; unfold maxLen at hmx; omega
  rw [hn] at hc1 HP hr ⊢
  rw [hm] at HA ⊢
  obtain ⟨E, hE⟩ : ∃ E, endsErr p hands bs = E := ⟨_, rfl⟩
  have HE := Lib.hid hE
  rw [hE]
  clear h hwf hat hmx ha hn hm hE hc2
  by_cases hf : hErr p hands = 0
  · obtain ⟨hok, h1, h6⟩ := hErr_zero hf
    have HF := Lib.hid hf
    have HO := Lib.hid hok
    have h30 : n ≤ 30 := by have := hok.len; rw [HL.out] at this; exact this
    rw [hf, errV_zero] at hr
    have hmk := make_ints n (by omega)
    have hmm := @run_makeMap Tryz.prog
    clear hf hok
    go_enter Tryz.func126, Tryz.ntmps126
    go_wp2_with fail
    refine hr.mono ?_
    rintro e w1 ⟨rfl, ho1⟩
    clear hr
    go_wp2_with fail
    go_cut [10, 11, 12] (fun va vb vc wx => ∃ A B C, va = .slice (some ⟨A, 0, none⟩) n n ∧ vb = .slice (some ⟨B, 0, none⟩) n n ∧ vc = .slice (some ⟨C, 0, none⟩) n n ∧ w1.heap.size ≤ A ∧ w1.heap.size ≤ B ∧ w1.heap.size ≤ C ∧ A ≠ B ∧ A ≠ C ∧ B ≠ C ∧ A < wx.heap.size ∧ B < wx.heap.size ∧ C < wx.heap.size ∧
      Nums wx A n (fun _ => 0) ∧ Nums wx B n (fun _ => 0) ∧ Nums wx C n (fun _ => 0) ∧ Only [] w1 wx)
    case first =>
      -- <<
      as_aux_lemma =>
        go_region
        all_goals
          obtain ⟨m1, m2, m3, m4, m5⟩ := made3 w1 n
          go_wp2
          go_meet
          exact ⟨_, _, _, rfl, rfl, rfl, by omega, by omega, by omega, by omega, by omega, by omega, by omega, by omega, by omega, by assumption, by assumption, by assumption, m4⟩
      -- >>
    case rest =>
    obtain ⟨A, B, C, rfl, rfl, rfl, hA, hB, hC, hAB, hAC, hBC, hAl, hBl, hCl, nA, nB, nC, ho2⟩ := hcut
    obtain ⟨w2, rfl⟩ : ∃ w2, w2 = wc := ⟨_, rfl⟩
    have hM1 := PairMap.made w2
    have hM2 := PairMap.made (w2.alloc (.map #[] 0))
    rw [World.size_alloc] at hM2
    have hM1 := hM1.only ((Only.refl [] _).alloc (.map #[] 0)) (by simp)
    have hal2 := ((Only.refl [] w2).alloc (.map #[] 0)).alloc (.map #[] 0)
    have nA := nA.only hal2 (by simp)
    have nB := nB.only hal2 (by simp)
    have nC := nC.only hal2 (by simp)
    have hs2 := ho2.size
    have ho3 := ho2.trans hal2 (by simp)
    clear hmk hal2
    go_wp2_with fail
    go_loopw [38] (fun vi wr => ∃ i : Nat, i ≤ m ∧ vi = .int .i64 i ∧ scanK p hands bs i = 0 ∧ Nums wr A n (fun t => firstF (bs.take i) (t : Int)) ∧ Nums wr B n (fun t => lastF (bs.take i) (t : Int)) ∧ Nums wr C n (fun t => (manyOf (bs.take i) (t : Int) : Int)) ∧
      PairMap wr w2.heap.size (seenH (bs.take i)) ∧ PairMap wr (w2.heap.size + 1) (seenT (bs.take i)) ∧ Only [] w1 wr) (fun vi _ => m - (intOf vi).toNat)
    case atStart => exact ⟨0, Nat.zero_le _, rfl, rfl, nA, nB, nC, hM1, hM2, ho3⟩
    case round =>
      clear nA nB nC hM1 hM2 ho3 hmm
      obtain ⟨wo, rfl⟩ : ∃ wo : World, wo = wr := ⟨_, rfl⟩
      obtain ⟨i, hi, rfl, hsc, nA, nB, nC, hM1, hM2, hoo⟩ := hrel
      have HSC := Lib.hid hsc
      clear hsc
      have ho := ho1.trans hoo (by simp)
      by_cases him : i < m
      · have hib : i < bs.length := by rw [HM.out]; exact him
        obtain ⟨bb, off, rfl, k0, k1, k2⟩ := HA.out i him
        have c0 := (ho.cell (p := ⟨bb, _, none⟩) (cell_lt k0) (by simp)).trans k0
        have c1 := (ho.cell (p := ⟨bb, _, none⟩) (cell_lt k1) (by simp)).trans k1
        have c2 := (ho.cell (p := ⟨bb, _, none⟩) (cell_lt k2) (by simp)).trans k2
        have hbw := HWF.out (bitAt bs i) (bitAt_mem hib)
        have htk := take_bit bs i hib
        have HE1 := Lib.hid (fun e (h2 : bitFault p hands (bs.take i) (bitAt bs i) = e) he => endsErr_scan (e := e) HF.out hib HSC.out h2 he)
        have HE2 := Lib.hid (fun (h2 : bitFault p hands (bs.take i) (bitAt bs i) = 0) => scanK_succ HSC.out h2)
        have HCL := Lib.hid (clash_split (bs.take i) (bitAt bs i))
        obtain ⟨b9, hb9⟩ : ∃ b9, bitAt bs i = b9 := ⟨_, rfl⟩
        have HB9 := Lib.hid hb9
        rw [hb9] at c0 c1 c2 hbw htk HE1 HE2 HCL
        clear hb9
        obtain ⟨x, y, z⟩ := b9
        simp only [bitWf] at c0 c1 c2 hbw
        obtain ⟨wx, wy, wz⟩ := hbw
        have HSM : Hid (∀ t : Nat, t < n → (manyOf (bs.take i) (t : Int) : Int) ≤ wkOf p t) := fun t ht =>
          scanK_many HSC.out (by rw [HM.out]; omega) (fun j hj => by have := HO.out.work j hj; omega) t (by rw [HL.out]; exact ht)
        obtain ⟨bt, hbt⟩ : ∃ bt, bs.take i = bt := ⟨_, rfl⟩
        rw [hbt] at nA nB nC hM1 hM2 htk HE1 HE2 HCL HSM
        have hoa := Lib.hid (ho.alloc (.cells #[.int .i64 x, .int .i64 y, .int .i64 z] 203))
        have HTK := Lib.hid htk
        clear k0 k1 k2 htk hbt hib
        by_cases hg : 0 ≤ x ∧ x ≤ 10000 ∧ 0 ≤ y ∧ y < hands ∧ 0 ≤ z ∧ z < (n : Int)
        · obtain ⟨g1, g2, g3, g4, g5, g6⟩ := hg
          have hgn : Hid (¬ ((Bt.mk x y z).step < 0 ∨ 10000 < (Bt.mk x y z).step ∨ (Bt.mk x y z).hand < 0 ∨ hands ≤ (Bt.mk x y z).hand ∨ (Bt.mk x y z).task < 0 ∨ (p.length : Int) ≤ (Bt.mk x y z).task)) := by
            show ¬ (x < 0 ∨ 10000 < x ∨ y < 0 ∨ hands ≤ y ∨ z < 0 ∨ (p.length : Int) ≤ z)
            rw [HL.out]; omega
          obtain ⟨z, rfl⟩ := Int.eq_ofNat_of_zero_le g5
          have hzn : z < n := by omega
          have hal := (Only.refl [] wo).alloc (.cells #[.int .i64 x, .int .i64 y, .int .i64 z] 203)
          have nA := nA.only hal (by simp)
          have nB := nB.only hal (by simp)
          have nC := nC.only hal (by simp)
          have hMl := hM2.lt
          have hM1 := hM1.only hal (by simp)
          have hM2 := hM2.only hal (by simp)
          have hl1 := hM1.look x y wx wy
          have hl2 := hM2.look x z wx wz
          have cC := (nC z hzn).1
          have fC := (nC z hzn).2
          have cA := (nA z hzn).1
          have fA := (nA z hzn).2
          have cB := (nB z hzn).1
          have fB := (nB z hzn).2
          obtain ⟨pb, po, rfl⟩ := HP.out.any z (by rw [HL.out]; exact hzn)
          obtain ⟨_, _, cW, _, _⟩ := (HP.out.same hoa.out).at z (by rw [HL.out]; exact hzn)
          have hwk := HO.out.work z (by rw [HL.out]; exact hzn)
          simp only at HCL
          obtain ⟨s1, hs1⟩ : ∃ s, seenH bt x y = s := ⟨_, rfl⟩
          obtain ⟨s2, hs2'⟩ : ∃ s, seenT bt x z = s := ⟨_, rfl⟩
          rw [hs1] at hl1 HCL
          rw [hs2'] at hl2 HCL
          clear hs1 hs2'
          cases s1 with
          | true =>
            -- <<
            have hfa : Hid (E = 7) := by
              show _ = _
              rw [← HE.out]
              exact HE1.out 7 (fault_7 hgn.out (by rw [HCL.out]; rfl)) (by decide)
            clear nA nB nC hM1 hM2 hl2
            go_wp2
            go_ret3
            exact ⟨_, _, by rw [hfa.out]; rfl, .inl ⟨by rw [hfa.out]; decide, rfl, rfl⟩, hoa.out⟩
            -- >>
          | false =>
          cases s2 with
          | true =>
            -- <<
            have hfa : Hid (E = 7) := by
              show _ = _
              rw [← HE.out]
              exact HE1.out 7 (fault_7 hgn.out (by rw [HCL.out]; rfl)) (by decide)
            clear nA nB nC hM1 hM2
            go_wp2
            go_ret3
            exact ⟨_, _, by rw [hfa.out]; rfl, .inl ⟨by rw [hfa.out]; decide, rfl, rfl⟩, hoa.out⟩
            -- >>
          | false =>
          have HMP := Lib.hid (fun t => manyOf_push bt ⟨x, y, (z : Int)⟩ t)
          have HFP := Lib.hid (fun t => firstF_push bt ⟨x, y, (z : Int)⟩ t)
          have HLP := Lib.hid (fun t => lastF_push bt ⟨x, y, (z : Int)⟩ t)
          have h4 : Hid (∀ q : Nat, manyOf bt z = q → bitFault p hands bt ⟨x, y, (z : Int)⟩ = if wkOf p z ≤ (q : Int) then 4 else 0) := by
            show ∀ q : Nat, _
            intro q hq
            have e7 : clashB bt ⟨x, y, (z : Int)⟩ = false := by rw [HCL.out]; rfl
            split
            · rename_i e
              exact fault_4 hgn.out e7 (by simp only [Int.toNat_natCast]; rw [hq]; exact e)
            · rename_i e
              exact fault_0 hgn.out e7 (by simp only [Int.toNat_natCast]; rw [hq]; exact e)
          obtain ⟨q, hq⟩ : ∃ q, manyOf bt (z : Int) = q := ⟨_, rfl⟩
          have h4 := h4.out q hq
          have hqw : (q : Int) ≤ wkOf p z := by rw [← hq]; exact HSM.out z hzn
          replace cC : (wo.alloc (.cells #[.int .i64 x, .int .i64 y, .int .i64 z] 203)).cell? ⟨C, z, none⟩ = some (.int .i64 (q : Int)) := by rw [← hq]; exact cC
          have HQ := Lib.hid hq
          obtain ⟨k, hk⟩ : ∃ k, wkOf p z = k := ⟨_, rfl⟩
          rw [hk] at cW hwk h4 hqw
          have H4 := Lib.hid h4
          clear hq hk h4 hgn HCL
          go_wp2_with fail
          go_quiet (fail)
          by_cases hqk : (q : Int) = k
          · -- <<
            have hfa : Hid (E = 4) := by
              show _ = _
              rw [← HE.out]
              exact HE1.out 4 (by rw [H4.out, if_pos (by omega)]) (by decide)
            have HOA := Lib.hid (hoa.out.drewN nq)
            clear nA nB nC hM1 hM2
            go_wp2
            go_ret3
            exact ⟨_, _, by rw [hfa.out]; rfl, .inl ⟨by rw [hfa.out]; decide, rfl, rfl⟩, HOA.out⟩
            -- >>
          · have hsc2 : Hid (scanK p hands bs (i + 1) = 0) := HE2.out (by rw [H4.out, if_neg (by omega)])
            have hCb := Cells.new wo #[.int .i64 x, .int .i64 y, .int .i64 z] 203
            have hdr := (Only.refl [] (wo.alloc (.cells #[.int .i64 x, .int .i64 y, .int .i64 z] 203))).drewN nq
            have HOW := Lib.hid ((hoo.trans hal (by simp)).trans hdr (by simp))
            have nA := nA.only hdr (by simp)
            have nB := nB.only hdr (by simp)
            have nC := nC.only hdr (by simp)
            have hM1 := hM1.only hdr (by simp)
            have hM2 := hM2.only hdr (by simp)
            have hCb := hCb.only hdr (by simp)
            have hqlt := hCb.lt
            obtain ⟨W, hW⟩ : ∃ W, (wo.alloc (.cells #[.int .i64 x, .int .i64 y, .int .i64 z] 203)).drewN nq = W := ⟨_, rfl⟩
            rw [hW] at nA nB nC hM1 hM2 hCb hqlt HOW ⊢
            clear hdr hW hal cA fA cB fB cC fC cW hl1 hl2 hoo c0 c1 c2 H4 hoa
            have hd1 := (Only.refl [] W).drew
            obtain ⟨w3, hu1, hM1, hO3⟩ := (hM1.only hd1 (by simp)).put x y wx wy
            have hO3 : Only [w2.heap.size] W w3 := (hd1.mono (by simp)).trans hO3 (by simp)
            have hM2 := hM2.only hO3 (by simp)
            obtain ⟨w4, hu2, hM2, hO4⟩ := hM2.put x z wx wz
            have hM1 := hM1.only hO4 (by simp)
            have q0 := hCb.cell 0 _ rfl
            have q1 := hCb.cell 1 _ rfl
            have q2 := hCb.cell 2 _ rfl
            have hC3 := hCb.only hO3 (by simp; omega)
            have r0 := hC3.cell 0 _ rfl
            have r1 := hC3.cell 1 _ rfl
            have r2 := hC3.cell 2 _ rfl
            have hC4 := hC3.only hO4 (by simp; omega)
            clear hCb hC3
            go_upto_region 15 with (fail)
            obtain ⟨w9, hw9⟩ : ∃ w9, w9 = w4 := ⟨_, rfl⟩
            go_cut [93] (fun _ wx => wx = w9)
            case first =>
              -- <<
              as_aux_lemma =>
                go_big_region
                go_wp2
                go_meet
                exact hw9.symm
              -- >>
            case rest =>
            have hw : w4 = wc := hw9.symm.trans hcut.symm
            clear hcut hw9
            subst hw
            have nA := (nA.only hO3 (by simp; omega)).only hO4 (by simp; omega)
            have nB := (nB.only hO3 (by simp; omega)).only hO4 (by simp; omega)
            have nC := (nC.only hO3 (by simp; omega)).only hO4 (by simp; omega)
            have HO4 : Hid (Only [] w1 w4) := (HOW.out.trans hO3 (fun a ha hl => by simp at ha; omega)).trans hO4 (fun a ha hl => by simp at ha; omega)
            have cC := (nC z hzn).1
            have fC := (nC z hzn).2
            have cA := (nA z hzn).1
            have fA := (nA z hzn).2
            have cB := (nB z hzn).1
            have fB := (nB z hzn).2
            have q0 := hC4.cell 0 _ rfl
            have q2 := hC4.cell 2 _ rfl
            simp only at cA cB cC
            rw [HQ.out] at cC
            obtain ⟨fv, hfv⟩ : ∃ fv, firstF bt (z : Int) = fv := ⟨_, rfl⟩
            obtain ⟨lv, hlv⟩ : ∃ lv, lastF bt (z : Int) = lv := ⟨_, rfl⟩
            rw [hfv] at cA
            rw [hlv] at cB
            have HFV := Lib.hid hfv
            have HLV := Lib.hid hlv
            clear hfv hlv hO3 hO4 hu1 hu2 r0 r1 r2 q1 hd1
            obtain ⟨gv, hgv⟩ : ∃ gv, (if q = 0 then x else fv) = gv := ⟨_, rfl⟩
            have HGV := Lib.hid hgv
            have HQl : Hid (wo.heap.size < w4.heap.size) := hC4.lt
            clear hgv
            go_upto_if 124 with (fail)
            go_cut [93, 124] (fun _ _ wx => Nums wx A n (updI (fun t => firstF bt (t : Int)) z gv) ∧ Nums wx B n (fun t => lastF bt (t : Int)) ∧ Nums wx C n (fun t => (manyOf bt (t : Int) : Int)) ∧ PairMap wx w2.heap.size (upP (seenH bt) x y) ∧ PairMap wx (w2.heap.size + 1) (upP (seenT bt) x z) ∧ Cells wx wo.heap.size [.int .i64 x, .int .i64 y, .int .i64 z] ∧ Only [] w1 wx)
            case first =>
              have hsA := nA.set z x
              have hoA : Only [A] w4 (w4.setCell ⟨A, z, none⟩ (.int .i64 x)) := (Only.refl _ _).setCell (by simp) _
              have e1 := Lib.hid (nB.only hoA (by simp; omega))
              have e2 := Lib.hid (nC.only hoA (by simp; omega))
              have e3 := Lib.hid (hM1.only hoA (by simp; omega))
              have e4 := Lib.hid (hM2.only hoA (by simp; omega))
              have e5 := Lib.hid (hC4.only hoA (by simp; omega))
              have e6 : Hid (Only [] w1 (w4.setCell ⟨A, z, none⟩ (.int .i64 x))) := HO4.out.trans hoA (fun a ha hl => by simp at ha; omega)
              have HS := Lib.hid hsA
              clear hsA hoA
              by_cases hq0 : q = 0
              · subst hq0
                have hg : Hid (gv = x) := by show _ = _; rw [← HGV.out]; rfl
                go_wp2
                go_meet
                exact ⟨by rw [hg.out]; exact HS.out, e1.out, e2.out, e3.out, e4.out, e5.out, e6.out⟩
              · have hq0' : ((q : Int) == 0) = false := by simpa using hq0
                have hg : Hid (gv = fv) := by show _ = _; rw [← HGV.out, if_neg hq0]
                have HnA : Hid (Nums w4 A n (updI (fun t => firstF bt (t : Int)) z gv)) := nA.congr (fun t _ => by
                  unfold updI
                  split
                  · rename_i e; rw [e, hg.out, HFV.out]
                  · rfl)
                go_wp2
                go_meet
                exact ⟨HnA.out, nB, nC, hM1, hM2, hC4, HO4.out⟩
            case rest =>
            obtain ⟨nA, nB, nC, hM1, hM2, hCc, hoc⟩ := hcut
            obtain ⟨w5, rfl⟩ : ∃ w5, w5 = wc := ⟨_, rfl⟩
            have cA := (nA z hzn).1
            have fA := (nA z hzn).2
            have cB := (nB z hzn).1
            have fB := (nB z hzn).2
            have q0 := hCc.cell 0 _ rfl
            have q2 := hCc.cell 2 _ rfl
            simp only [updI, if_true] at cA
            simp only at cB
            rw [HLV.out] at cB
            clear hC4 cC fC
            have hneA : ¬ wo.heap.size = A := by omega
            have hneB : ¬ wo.heap.size = B := by omega
            have k0A : ∀ v, (w5.setCell ⟨A, z, none⟩ v).drew.cell? ⟨wo.heap.size, 0, none⟩ = some (.int .i64 x) := fun v => (World.cell?_setCell_other _ _ _ _ (fun e => hneA (congrArg Addr.block e).symm)).trans q0
            have k2A : ∀ v, (w5.setCell ⟨A, z, none⟩ v).drew.cell? ⟨wo.heap.size, 2, none⟩ = some (.int .i64 (z : Int)) := fun v => (World.cell?_setCell_other _ _ _ _ (fun e => hneA (congrArg Addr.block e).symm)).trans q2
            have k0B : ∀ v u, ((w5.setCell ⟨A, z, none⟩ v).setCell ⟨B, z, none⟩ u).drew.cell? ⟨wo.heap.size, 0, none⟩ = some (.int .i64 x) := fun v u => (World.cell?_setCell_other _ _ _ _ (fun e => hneB (congrArg Addr.block e).symm)).trans (k0A v)
            have k2B : ∀ v u, ((w5.setCell ⟨A, z, none⟩ v).setCell ⟨B, z, none⟩ u).drew.cell? ⟨wo.heap.size, 2, none⟩ = some (.int .i64 (z : Int)) := fun v u => (World.cell?_setCell_other _ _ _ _ (fun e => hneB (congrArg Addr.block e).symm)).trans (k2A v)
            have HnA := Lib.hid nA
            have HnB := Lib.hid nB
            have HnC := Lib.hid nC
            have HM1 := Lib.hid hM1
            have HM2 := Lib.hid hM2
            have HCc := Lib.hid hCc
            have Hoc := Lib.hid hoc
            clear nA nB nC hM1 hM2 hCc hoc
            obtain ⟨v1, hv1⟩ : ∃ v1, (if x < gv then x else gv) = v1 := ⟨_, rfl⟩
            obtain ⟨v2, hv2⟩ : ∃ v2, (if lv < x then x else lv) = v2 := ⟨_, rfl⟩
            have HV1 := Lib.hid hv1
            have HV2 := Lib.hid hv2
            have hv1m : min gv x = v1 := by rw [← hv1]; split <;> omega
            have hv2m : max lv x = v2 := by rw [← hv2]; split <;> omega
            go_upto_region 18 with (fail)
            go_cut [] (fun wx => wx = (w5.drew.setCell ⟨A, z, none⟩ (.int .i64 v1)).setCell ⟨B, z, none⟩ (.int .i64 v2))
            case first =>
              -- <<
              as_aux_lemma =>
                refine wp_region_two 23 25 [(3, 3), (14, 4), (19, 3), (24, 1)] _ _ (by kernel_rfl) (by kernel_rfl) (by kernel_rfl) (by kernel_rfl) (by kernel_rfl) rfl rfl rfl rfl (by omega) rfl ?_
                simp only [List.take_succ_cons, List.take_zero, List.drop_succ_cons, List.drop_zero, List.cons_append, List.nil_append]
                repeat still_step
                refine wpStill_nil ⟨?_, ?_⟩
                · repeat still_step
                  exact wpStill_nil rfl
                refine storeThen_step fun K1 hK1 => ?_
                unfold storeThen
                go_simp
                refine hK1 _ ?_
                clear hK1 K1
                simp only [List.flatMap_cons, List.flatMap_nil, List.take_succ_cons, List.take_zero, List.drop_succ_cons, List.drop_zero, List.cons_append, List.nil_append]
                refine ⟨?_, ?_⟩
                · repeat still_step
                  exact wpStill_nil rfl
                refine storeThen_step fun K2 hK2 => ?_
                unfold storeThen
                go_simp
                refine hK2 _ ?_
                clear hK2 K2
                go_wp2
                go_meet
                rfl
              -- >>
            case rest =>
            obtain ⟨w6, hw6⟩ : ∃ w6, w6 = wc := ⟨_, rfl⟩
            rw [← hw6] at hcut
            clear hv1 hv2 hv1m hv2m
            have hd5 := (Only.refl [] w5).drew
            have nA6 := ((HnA.out.only hd5 (by simp)).set z v1)
            have hoA : Only [A] w5 (w5.drew.setCell ⟨A, z, none⟩ (.int .i64 v1)) := (hd5.mono (by simp)).setCell (by simp) _
            have hoB : Only [A, B] w5 w6 := by rw [hcut]; exact (hoA.mono (by simp)).setCell (by simp) _
            have nA6 : Nums w6 A n (updI (updI (fun t => firstF bt (t : Int)) z gv) z v1) := by rw [hcut]; exact nA6.only ((Only.refl [B] _).setCell (by simp) _) (by simp; omega)
            have nB6 : Nums w6 B n (updI (fun t => lastF bt (t : Int)) z v2) := by rw [hcut]; exact (HnB.out.only hoA (by simp; omega)).set z v2
            have nC6 := HnC.out.only hoB (by simp; omega)
            have hM16 := HM1.out.only hoB (by simp; omega)
            have hM26 := HM2.out.only hoB (by simp; omega)
            have hCc6 := HCc.out.only hoB (by simp; omega)
            have hoc6 : Only [] w1 w6 := Hoc.out.trans hoB (fun a ha hl => by simp at ha; omega)
            have cC := (nC6 z hzn).1
            have fC := (nC6 z hzn).2
            simp only at cC
            rw [HQ.out] at cC
            have q2 := hCc6.cell 2 _ rfl
            have hq30 : (q : Int) < 100 := by have := hwk; omega
            have hoC : Only [C] w6 (w6.setCell ⟨C, z, none⟩ (.int .i64 ((q : Int) + 1))) := (Only.refl _ _).setCell (by simp) _
            have rA := Lib.hid ((nA6.only hoC (by simp; omega)).congr (g := fun t => firstF (bt ++ [⟨x, y, (z : Int)⟩]) (t : Int)) (fun t _ => by
              rw [HFP.out]
              unfold updI
              by_cases e : t = z
              · subst e
                rw [if_pos rfl, if_pos rfl, HQ.out, HFV.out, ← HV1.out, ← HGV.out]
                by_cases h0 : q = 0
                · simp [h0]
                · simp only [h0, if_false]
                  split <;> omega
              · have e2 : ¬ ((z : Int) = (t : Int)) := by omega
                simp [e, e2]))
            have rB := Lib.hid ((nB6.only hoC (by simp; omega)).congr (g := fun t => lastF (bt ++ [⟨x, y, (z : Int)⟩]) (t : Int)) (fun t _ => by
              rw [HLP.out]
              unfold updI
              by_cases e : t = z
              · subst e
                rw [if_pos rfl, if_pos rfl, HLV.out, ← HV2.out]
                split <;> omega
              · have e2 : ¬ ((z : Int) = (t : Int)) := by omega
                simp [e, e2]))
            have rC := Lib.hid ((nC6.set z ((q : Int) + 1)).congr (g := fun t => (manyOf (bt ++ [⟨x, y, (z : Int)⟩]) (t : Int) : Int)) (fun t _ => by
              rw [HMP.out]
              unfold updI
              by_cases e : t = z
              · subst e
                rw [if_pos rfl, if_pos rfl, HQ.out]; omega
              · have e2 : ¬ ((z : Int) = (t : Int)) := by omega
                simp [e, e2]))
            have rM1 := Lib.hid (hM16.only hoC (by simp; omega))
            have rM2 := Lib.hid (hM26.only hoC (by simp; omega))
            have rO : Hid (Only [] w1 (w6.setCell ⟨C, z, none⟩ (.int .i64 ((q : Int) + 1)))) := hoc6.trans hoC (fun a ha hl => by simp at ha; omega)
            have HT := Lib.hid (HTK.out)
            clear nA6 nB6 nC6 hM16 hM26 hCc6 hoc6 hoA hoB hoC hd5 hcut cA fA cB fB q0 k0A k2A k0B k2B
            subst hw6
            go_wp2
            go_roundw
            case rel => exact ⟨i + 1, by omega, by go_num, hsc2.out, by rw [HTK.out]; exact rA.out, by rw [HTK.out]; exact rB.out, by rw [HTK.out]; exact rC.out, by rw [HTK.out, seenH_push]; exact rM1.out, by rw [HTK.out, seenT_push]; exact rM2.out, rO.out⟩
            case measure => (simp [intOf]; try omega)
        · -- <<
          have hfa : Hid (E = 1) := by
            show _ = _
            rw [← HE.out]
            refine HE1.out 1 (fault_1 ?_) (by decide)
            rw [HL.out]
            show x < 0 ∨ 10000 < x ∨ y < 0 ∨ hands ≤ y ∨ z < 0 ∨ (n : Int) ≤ z
            omega
          have hg2 : x < 0 ∨ (0 ≤ x ∧ 10000 < x) ∨ (0 ≤ x ∧ x ≤ 10000 ∧ y < 0) ∨ (0 ≤ x ∧ x ≤ 10000 ∧ 0 ≤ y ∧ hands ≤ y) ∨ (0 ≤ x ∧ x ≤ 10000 ∧ 0 ≤ y ∧ y < hands ∧ z < 0) ∨ (0 ≤ x ∧ x ≤ 10000 ∧ 0 ≤ y ∧ y < hands ∧ 0 ≤ z ∧ (n : Int) ≤ z) := by omega
          clear hg hM1 hM2 nA nB nC
          rcases hg2 with g1 | ⟨g1, g2⟩ | ⟨g1, g2, g3⟩ | ⟨g1, g2, g3, g4⟩ | ⟨g1, g2, g3, g4, g5⟩ | ⟨g1, g2, g3, g4, g5, g6⟩
          all_goals
            go_wp2
            go_ret3
            exact ⟨_, _, by rw [hfa.out]; rfl, .inl ⟨by rw [hfa.out]; decide, rfl, rfl⟩, hoa.out⟩
          -- >>
      · obtain rfl : i = m := by omega
        have htk : bs.take i = bs := List.take_of_length_le (by rw [HM.out]; exact Nat.le_refl _)
        rw [htk] at nA nB nC
        have HSM : Hid (scanK p hands bs bs.length = 0) := by show _ = _; rw [HM.out]; exact HSC.out
        have HnA := Lib.hid nA
        have HnB := Lib.hid nB
        have HnC := Lib.hid nC
        have Hoo := Lib.hid hoo
        have HAl := Lib.hid hA
        have HBl := Lib.hid hB
        have hs1 := ho1.size
        have HS1 := Lib.hid hs1
        clear nA nB nC hM1 hM2 hoo HSC him htk
        go_wp2_with fail
        go_loopw [17, 18, 165] (fun _ _ vi wr => ∃ t : Nat, t ≤ n ∧ vi = .int .i64 t ∧ (∀ j, j < t → wkOf p j ≤ (manyOf bs (j : Int) : Int)) ∧ Only [] wo wr) (fun _ _ vi _ => n - (intOf vi).toNat)
        case atStart => exact ⟨0, Nat.zero_le _, rfl, fun j hj => by omega, Only.refl _ _⟩
        case round =>
          obtain ⟨t, ht, rfl, hgood, ho2⟩ := hrel
          have HG := Lib.hid hgood
          have ho3 := ho.trans ho2 (by simp)
          clear hgood
          by_cases htn : t < n
          · obtain ⟨pb, po, rfl⟩ := HP.out.any t (by rw [HL.out]; exact htn)
            obtain ⟨ua, uc, cW, cN, _⟩ := (HP.out.same ho3).at t (by rw [HL.out]; exact htn)
            have cC := ((HnC.out.only ho2 (by simp)) t htn).1
            obtain ⟨q, hq⟩ : ∃ q, manyOf bs (t : Int) = q := ⟨_, rfl⟩
            obtain ⟨k, hk⟩ : ∃ k, wkOf p t = k := ⟨_, rfl⟩
            obtain ⟨nl, hnl⟩ : ∃ nl, (ndOf p t).length = nl := ⟨_, rfl⟩
            rw [hq] at cC
            rw [hk] at cW
            rw [hnl] at cN
            have HQ := Lib.hid hq
            have HK := Lib.hid hk
            have hb := Cells.new wr #[.int .i64 k, .slice ua nl uc] 97
            have hal := (Only.refl [] wr).alloc (.cells #[.int .i64 k, .slice ua nl uc] 97)
            have HO3 := Lib.hid (ho3.trans hal (by simp))
            have HO2 := Lib.hid (ho2.trans hal (by simp))
            have cC2 := ((HnC.out.only (ho2.trans hal (by simp)) (by simp)) t htn).1
            rw [hq] at cC2
            have b0 := hb.cell 0 _ rfl
            clear hq hk hnl ho2 ho3 hal hb
            by_cases hlt : (q : Int) < k
            · have hfa : Hid (E = 5) := by
                show _ = _
                rw [← HE.out]
                exact endsErr_lack HF.out HSM.out (by rw [HL.out]; exact htn) (by rw [HQ.out, HK.out]; exact hlt)
              have hdec : decide ((q : Int) < k) = true := decide_eq_true hlt
              go_wp2_with fail
              go_quiet (fail)
              have HO4 := Lib.hid (HO3.out.drewN nq)
              go_wp2
              go_ret3
              exact ⟨_, _, by rw [hfa.out]; rfl, .inl ⟨by rw [hfa.out]; decide, rfl, rfl⟩, HO4.out⟩
            · have hdec : decide ((q : Int) < k) = false := decide_eq_false hlt
              have HLT := Lib.hid hlt
              clear hlt
              go_wp2_with fail
              go_quiet (fail)
              have HO4 := Lib.hid (HO2.out.drewN nq)
              go_wp2
              go_roundw
              case rel =>
                refine ⟨t + 1, by omega, by go_num, fun j hj => ?_, HO4.out⟩
                by_cases e : j = t
                · subst e; rw [HQ.out, HK.out]; have := HLT.out; omega
                · exact HG.out j (by omega)
              case measure => (simp [intOf]; try omega)
          · obtain rfl : t = n := by omega
            have hfa : Hid (E = 0) := by
              show _ = _
              rw [← HE.out]
              exact endsErr_zero HF.out HSM.out (fun j hj => by have := HG.out j (by rw [HL.out] at hj; exact hj); omega)
            have HN1 := Lib.hid (HnA.out.only ho2 (by simp))
            have HN2 := Lib.hid (HnB.out.only ho2 (by simp))
            clear ho2
            go_wp2
            go_ret3
            exact ⟨_, _, by rw [hfa.out]; rfl, .inr ⟨hfa.out, A, B, rfl, rfl, by have := HS1.out; have := HAl.out; omega, by have := HS1.out; have := HBl.out; omega, HN1.out, HN2.out⟩, ho3⟩
  · have he : Hid (E = hErr p hands) := by show _ = _; rw [← HE.out]; exact endsErr_h hf
    rw [errV_ne hf] at hr
    have HF := Lib.hid hf
    clear hf
    go_enter Tryz.func126, Tryz.ntmps126
    go_wp2_with fail
    refine hr.mono ?_
    rintro e w1 ⟨rfl, ho⟩
    clear hr
    go_wp2
    go_ret3
    exact ⟨_, _, by rw [he.out, errV_ne HF.out]; rfl, .inl ⟨by rw [he.out]; exact HF.out, rfl, rfl⟩, ho⟩

end Go.Proofs.YtocpmncedlenbaaGreatDoor
