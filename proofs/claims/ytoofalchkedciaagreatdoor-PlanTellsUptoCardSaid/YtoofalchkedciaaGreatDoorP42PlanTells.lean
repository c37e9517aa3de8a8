/-
  Contracts of yardref1.Plan and yardref1.Right.
-/
import Derived.Test.YtoofalchkedciaaGreatDoorP41PlanTells
import Derived.Test.YtoofalchkedciaaGreatDoorP15PlanTells
namespace Go.Proofs.YtoofalchkedciaaGreatDoor
open Go.RowKit Go.Deep

theorem fault_work {n : Nat} {t : Int × List Int} (h : t.1 < 1 ∨ 20 < t.1) : taskFault n t = 1 := by
  unfold taskFault; rw [if_pos (by rcases h with h | h <;> simp [h])]
theorem fault_need {n : Nat} {t : Int × List Int} (k : Nat) (hk : k < t.2.length) (h : nth t.2 k < 0 ∨ (n : Int) ≤ nth t.2 k) : taskFault n t = 1 := by
  unfold taskFault
  rw [if_pos]
  refine .inr (.inr (List.any_eq_true.2 ⟨nth t.2 k, ?_, ?_⟩))
  · unfold nth; rw [List.getElem?_eq_getElem hk]; exact List.getElem_mem hk
  · simpa [outOf] using h
theorem fault_in {n : Nat} {t : Int × List Int} (h1 : 1 ≤ t.1) (h2 : t.1 ≤ 20) (h3 : ∀ k, k < t.2.length → 0 ≤ nth t.2 k ∧ nth t.2 k < n) : ¬ (t.1 < 1 ∨ 20 < t.1 ∨ t.2.any (outOf n) = true) := by
  rintro (h | h | h)
  · omega
  · omega
  · obtain ⟨x, hx, ho⟩ := List.any_eq_true.1 h
    obtain ⟨k, hk, rfl⟩ := List.getElem_of_mem hx
    have := h3 k hk
    rw [show nth t.2 k = t.2[k] by simp [nth, hk]] at this
    simp [outOf] at ho
    omega
theorem fault_clash {n : Nat} {t : Int × List Int} (h1 : 1 ≤ t.1) (h2 : t.1 ≤ 20) (h3 : ∀ k, k < t.2.length → 0 ≤ nth t.2 k ∧ nth t.2 k < n) (k : Nat) (hk : k + 1 < t.2.length) (h : nth t.2 (k + 1) ≤ nth t.2 k) : taskFault n t = 7 := by
  unfold taskFault
  rw [if_neg (fault_in h1 h2 h3), if_neg]
  intro hr
  have := (rising_nth t.2).1 hr k hk
  omega
theorem fault_none {n : Nat} {t : Int × List Int} (h1 : 1 ≤ t.1) (h2 : t.1 ≤ 20) (h3 : ∀ k, k < t.2.length → 0 ≤ nth t.2 k ∧ nth t.2 k < n) (h : ∀ k, k + 1 < t.2.length → nth t.2 k < nth t.2 (k + 1)) : taskFault n t = 0 := by
  unfold taskFault
  rw [if_neg (fault_in h1 h2 h3), if_pos ((rising_nth t.2).2 h)]

open Classical in
set_option maxRecDepth 100000 in
set_option maxHeartbeats 4000000 in
theorem ref_Plan (v : Value) (p : PlanL) (w : World) (h : InPlan w v p) :
    Calls Tryz.prog 9 #[v] w fun e w' => e = .returned (.tuple #[.int .i64 (planCheck p).1, .int .i64 (planCheck p).2]) ∧ Only [] w w' := by
  have HP := Lib.hid h
  obtain ⟨a, cap, rfl, hc1, hc2, _⟩ := h.task
  obtain ⟨n, hn⟩ : ∃ n, p.length = n := ⟨_, rfl⟩
  obtain ⟨⟨pi, pe⟩, hpc⟩ : ∃ x, planCheck p = x := ⟨_, rfl⟩
  have HC := Lib.hid hpc
  have HL := Lib.hid hn
  rw [hpc]
  rw [hn] at hc1 HP ⊢
  have hc3 : n ≤ 9223372036854775807 := by unfold maxLen at hc2; omega
  clear h hn hpc hc2
  show Calls _ _ _ _ fun e w' => e = .returned (.tuple #[.int .i64 pi, .int .i64 pe]) ∧ Only [] w w'
  by_cases h30 : 30 < n
  · have hx := planCheck_full (p := p) (by rw [HL.out]; exact h30)
    rw [HC.out] at hx
    obtain ⟨rfl, rfl⟩ := Prod.mk.inj hx
    clear hx
    go_enter Tryz.func9, Tryz.ntmps9
    go_wp2
    go_ret2
    exact ⟨rfl, Only.refl _ _⟩
  · have h30' : n ≤ 30 := by omega
    clear h30
    go_enter Tryz.func9, Tryz.ntmps9
    go_wp2_with fail
    go_loopw [4, 5, 6, 7] (fun vi _ _ _ wr => ∃ i : Nat, i ≤ n ∧ vi = .int .i64 i ∧ (∀ j, j < i → taskFault p.length (p[j]?.getD (0, [])) = 0) ∧ Only [] w wr) (fun vi _ _ _ _ => n - (intOf vi).toNat)
    case atStart => exact ⟨0, Nat.zero_le _, rfl, fun j hj => by omega, Only.refl _ _⟩
    case round =>
      obtain ⟨wo, rfl⟩ : ∃ wo : World, wo = wr := ⟨_, rfl⟩
      obtain ⟨i, hi, rfl, hf, ho⟩ := hrel
      have HF := Lib.hid hf
      clear hf
      by_cases hlt : i < n
      · have hil : i < p.length := by rw [HL.out]; exact hlt
        obtain ⟨b, off, rfl⟩ := HP.out.any i hil
        obtain ⟨ua, uc, c0, c1, hrd⟩ := (HP.out.same ho).at i hil
        have hmax := HP.out.needLen i
        obtain ⟨m, hm⟩ : ∃ m, (ndOf p i).length = m := ⟨_, rfl⟩
        have HM := Lib.hid hm
        rw [hm] at c1 hrd hmax
        obtain ⟨x, hx⟩ : ∃ x, wkOf p i = x := ⟨_, rfl⟩
        have HX := Lib.hid hx
        rw [hx] at c0
        have hal := (Only.refl [] wo).alloc (.cells #[.int .i64 x, .slice ua m uc] 94)
        have hrd1 := hrd.same hal
        have ho1 := ho.trans hal (by simp)
        have hca : ∀ k, k < m → ∃ g o, ua = some ⟨g, o, none⟩ ∧ (wo.alloc (.cells #[.int .i64 x, .slice ua m uc] 94)).cell? ⟨g, o + k, none⟩ = some (.int .i64 (nth (ndOf p i) k)) := by
          intro k hk
          obtain ⟨a', c', e, hc⟩ := hrd1.opt
          obtain ⟨g, o, rfl, hcc⟩ := hc k (by rw [HM.out]; exact hk)
          injection e with e1 _ _
          exact ⟨g, o, e1, hcc⟩
        have hTL : ∀ i2 e2, i2 = i → taskFault p.length (p[i]?.getD (0, [])) = e2 → e2 ≠ 0 → pi = i2 ∧ pe = e2 := by
          intro i2 e2 hi2 he2 hne
          have hx := planCheck_task (p := p) (by rw [HL.out]; exact h30') hil HF.out he2 hne
          rw [HC.out] at hx
          obtain ⟨h1, h2⟩ := Prod.mk.inj hx
          exact ⟨by rw [hi2, h1], h2⟩
        have HT := Lib.hid hTL
        have HNF := Lib.hid (fun (e : taskFault p.length (p[i]?.getD (0, [])) = 0) (j : Nat) (hj : j < i + 1) => show taskFault p.length (p[j]?.getD (0, [])) = 0 from by
          by_cases e2 : j = i
          · subst e2; exact e
          · exact HF.out j (by omega))
        obtain ⟨w1, hw1⟩ : ∃ w1, wo.alloc (.cells #[.int .i64 x, .slice ua m uc] 94) = w1 := ⟨_, rfl⟩
        have t0 : w1.cell? ⟨wo.heap.size, 0, none⟩ = some (.int .i64 x) := by rw [← hw1, World.cell?_alloc_at _ _ _ _ rfl]; rfl
        have t1 : w1.cell? ⟨wo.heap.size, 1, none⟩ = some (.slice ua m uc) := by rw [← hw1, World.cell?_alloc_at _ _ _ _ rfl]; rfl
        rw [hw1] at ho1 hca
        have HCA := Lib.hid hca
        clear hrd hrd1 hm hx hTL hil hal hca
        by_cases hwk : x < 1 ∨ 20 < x
        · have hE := HT.out i 1 rfl (fault_work (by show wkOf p i < 1 ∨ 20 < wkOf p i; rw [HX.out]; exact hwk)) (by decide)
          obtain ⟨rfl, rfl⟩ := hE
          clear HT HNF HC
          rcases hwk with hwk | hwk
          · go_wp2
            go_ret2
            exact ⟨rfl, ho1⟩
          · have hw2 : ¬ x < 1 := by omega
            go_wp2
            go_ret2
            exact ⟨rfl, ho1⟩
        · have hx1 : ¬ x < 1 := by omega
          have hx2 : ¬ 20 < x := by omega
          have HX1 := Lib.hid hx1
          have HX2 := Lib.hid hx2
          clear hwk
          go_wp2_with fail
          go_loopw [6] (fun vk wr => ∃ k : Nat, k ≤ m ∧ vk = .int .i64 k ∧ (∀ j, j < k → 0 ≤ nth (ndOf p i) j ∧ nth (ndOf p i) j < n) ∧ w1 = wr) (fun vk _ => m - (intOf vk).toNat)
          case atStart => exact ⟨0, Nat.zero_le _, rfl, fun j hj => by omega, rfl⟩
          case round =>
            clear c0 c1 hx1 hx2
            obtain ⟨k, hk, rfl, hin, rfl⟩ := hrel
            have HIN := Lib.hid hin
            clear hin
            by_cases hkm : k < m
            · obtain ⟨g, o, rfl, cx⟩ := HCA.out k hkm
              obtain ⟨y, hy⟩ : ∃ y, nth (ndOf p i) k = y := ⟨_, rfl⟩
              have HY := Lib.hid hy
              rw [hy] at cx
              clear hy
              by_cases hbad : y < 0 ∨ (n : Int) ≤ y
              · have hE := HT.out i 1 rfl (fault_need k (by show k < (ndOf p i).length; rw [HM.out]; exact hkm) (by show nth (ndOf p i) k < 0 ∨ _ ≤ nth (ndOf p i) k; rw [HY.out, HL.out]; exact hbad)) (by decide)
                obtain ⟨rfl, rfl⟩ := hE
                clear HT HNF HC
                by_cases hneg : y < 0
                · go_wp2
                  go_ret2
                  exact ⟨rfl, ho1⟩
                · have hbig : (n : Int) ≤ y := by omega
                  clear hbad
                  go_wp2
                  go_ret2
                  exact ⟨rfl, ho1⟩
              · have hneg : ¬ y < 0 := by omega
                have hbig : ¬ (n : Int) ≤ y := by omega
                have HB : Hid (0 ≤ y ∧ y < (n : Int)) := ⟨by omega, by omega⟩
                clear hbad
                go_wp2
                go_roundw
                case rel =>
                  refine ⟨k + 1, by omega, by go_num, fun j hj => ?_, trivial⟩
                  by_cases e : j = k
                  · subst e; rw [HY.out]; exact HB.out
                  · exact HIN.out j (by omega)
                case measure => (simp [intOf]; try omega)
            · obtain rfl : k = m := by omega
              go_wp2_with fail
              go_loopw [7] (fun vk wr => ∃ q : Nat, 1 ≤ q ∧ (q ≤ k ∨ q = 1) ∧ vk = .int .i64 q ∧ (∀ j, j + 1 < q → nth (ndOf p i) j < nth (ndOf p i) (j + 1)) ∧ ∃ dn, w1.drewN dn = wr) (fun vk _ => k + 1 - (intOf vk).toNat)
              case atStart => exact ⟨1, Nat.le_refl _, .inr rfl, rfl, fun j hj => by omega, 0, rfl⟩
              case round =>
                obtain ⟨q, hq1, hq2, rfl, hup, dn, rfl⟩ := hrel
                have HUP := Lib.hid hup
                clear hup hkm hk
                by_cases hqk : q < k
                · obtain ⟨g, o, rfl, cx⟩ := HCA.out q hqk
                  obtain ⟨g', o', e, cz⟩ := HCA.out (q - 1) (by omega)
                  injection e with e
                  injection e with e1 e2
                  subst e1 e2
                  obtain ⟨r, rfl⟩ : ∃ r, q = r + 1 := ⟨q - 1, by omega⟩
                  rw [show r + 1 - 1 = r by omega] at cz
                  have hwr : IntKind.i64.wrap (((r + 1 : Nat) : Int) - 1) = (r : Int) := by rw [IntWalk.i64_in _ (by omega)]; omega
                  obtain ⟨y, hy⟩ : ∃ y, nth (ndOf p i) (r + 1) = y := ⟨_, rfl⟩
                  obtain ⟨z, hz⟩ : ∃ z, nth (ndOf p i) r = z := ⟨_, rfl⟩
                  have HY := Lib.hid hy
                  have HZ := Lib.hid hz
                  rw [hy] at cx
                  rw [hz] at cz
                  clear hy hz
                  by_cases hle : y ≤ z
                  · have hE := HT.out i 7 rfl (fault_clash (by show 1 ≤ wkOf p i; have := HX1.out; rw [HX.out]; omega) (by show wkOf p i ≤ 20; have := HX2.out; rw [HX.out]; omega) (fun j hj => by rw [HL.out]; exact HIN.out j (by have : j < (ndOf p i).length := hj; rw [HM.out] at this; exact this)) r (by show r + 1 < (ndOf p i).length; rw [HM.out]; exact hqk) (by show nth (ndOf p i) (r + 1) ≤ nth (ndOf p i) r; rw [HY.out, HZ.out]; exact hle)) (by decide)
                    obtain ⟨rfl, rfl⟩ := hE
                    have hd : decide (y ≤ z) = true := by simp; exact hle
                    clear HT HNF HC
                    go_wp2_with fail
                    go_quiet (fail)
                    go_wp2
                    go_ret2
                    exact ⟨rfl, (ho1.drewN _).drewN _⟩
                  · have hd : decide (y ≤ z) = false := by simp; omega
                    have HLT : Hid (z < y) := by show _ < _; omega
                    clear hle
                    go_wp2_with fail
                    go_quiet (fail)
                    go_wp2
                    go_roundw
                    case rel =>
                      refine ⟨r + 2, by omega, .inl (by omega), by go_num, fun j hj => ?_, _, rfl⟩
                      by_cases e : j = r
                      · subst e; rw [HY.out, HZ.out]; exact HLT.out
                      · exact HUP.out j (by omega)
                    case measure => (simp [intOf]; try omega)
                · have hE := HNF.out (fault_none (by show 1 ≤ wkOf p i; have := HX1.out; rw [HX.out]; omega) (by show wkOf p i ≤ 20; have := HX2.out; rw [HX.out]; omega) (fun j hj => by rw [HL.out]; exact HIN.out j (by have : j < (ndOf p i).length := hj; rw [HM.out] at this; exact this)) (fun j hj => HUP.out j (by have : j + 1 < (ndOf p i).length := hj; rw [HM.out] at this; omega)))
                  have HE := Lib.hid hE
                  clear hE
                  go_wp2
                  go_roundw
                  case rel => exact ⟨i + 1, by omega, by go_num, HE.out, ho1.drewN _⟩
                  case measure => (simp [intOf]; try omega)
      · obtain rfl : i = n := by omega
        have hNO := needsOk (p := p) (by rw [HL.out]; exact h30') (fun j hj => HF.out j (by rw [HL.out] at hj; exact hj))
        have hAb := ref_Above _ p wo (HP.out.same ho) hNO
        rw [HL.out] at hAb
        clear hlt hi hNO
        go_wp2_with fail
        refine hAb.mono ?_
        rintro e w2 ⟨v2, g, rfl, hT, ho2⟩
        have ho3 := ho.trans ho2 (by simp)
        obtain ⟨oa, oc, rfl, _, _, hoa⟩ := hT.form
        clear hAb ho2 ho
        go_wp2_with fail
        go_loopw [9] (fun vi wr => ∃ k : Nat, k ≤ i ∧ vi = .int .i64 k ∧ (∀ j, j < k → ¬ Reach p j j) ∧ w2 = wr) (fun vi _ => i - (intOf vi).toNat)
        case atStart => exact ⟨0, Nat.zero_le _, rfl, fun j hj => by omega, rfl⟩
        case round =>
          obtain ⟨k, hk, rfl, hnr, rfl⟩ := hrel
          have HNR := Lib.hid hnr
          clear hnr
          by_cases hlt : k < i
          · obtain ⟨A, rfl, _⟩ := hoa (by omega)
            have ck := hT.cellRow k hlt
            have bk := (hT.bools k hlt k hlt).1
            by_cases h0 : Reach p k k
            · rw [(aboveOf_iff p k k).2 h0] at bk
              have hx := planCheck_cycle (p := p) (by rw [HL.out]; exact h30') (fun j hj => HF.out j (by rw [HL.out] at hj; exact hj)) (by rw [HL.out]; exact hlt) HNR.out h0
              rw [HC.out] at hx
              obtain ⟨rfl, rfl⟩ := Prod.mk.inj hx
              clear hx h0 hT
              go_wp2
              go_ret2
              exact ⟨rfl, ho3⟩
            · rw [show aboveOf p k k = false by cases e : aboveOf p k k with | false => rfl | true => exact absurd ((aboveOf_iff p k k).1 e) h0] at bk
              have H0 := Lib.hid h0
              clear h0
              go_wp2
              go_roundw
              case rel =>
                refine ⟨k + 1, by omega, by go_num, fun j hj => ?_, trivial⟩
                by_cases e : j = k
                · subst e; exact H0.out
                · exact HNR.out j (by omega)
              case measure => (simp [intOf]; try omega)
          · obtain rfl : k = i := by omega
            have hx := planCheck_ok (p := p) ⟨by rw [HL.out]; exact h30', fun j hj => HF.out j (by rw [HL.out] at hj; exact hj), fun j hj => HNR.out j (by rw [HL.out] at hj; exact hj)⟩
            rw [HC.out] at hx
            obtain ⟨rfl, rfl⟩ := Prod.mk.inj hx
            clear hx hlt hk
            go_wp2
            go_ret2
            exact ⟨rfl, ho3⟩

theorem ref_Right (v : Value) (p : PlanL) (w : World) (h : InPlan w v p) :
    Calls Tryz.prog 22 #[v] w fun e w' => e = .returned (.int .i64 (planFault p)) ∧ Only [] w w' := by
  have hc := ref_Plan v p w h
  unfold planFault
  obtain ⟨⟨pi, pe⟩, hpc⟩ : ∃ x, planCheck p = x := ⟨_, rfl⟩
  rw [hpc] at hc ⊢
  replace hc : Calls _ _ _ _ fun e w' => e = .returned (.tuple #[.int .i64 pi, .int .i64 pe]) ∧ Only [] w w' := hc
  show Calls _ _ _ _ fun e w' => e = .returned (.int .i64 pe) ∧ Only [] w w'
  clear hpc h
  go_enter Tryz.func22, Tryz.ntmps22
  go_wp2_with fail
  refine hc.mono ?_
  rintro e w1 ⟨rfl, ho⟩
  clear hc
  go_wp2
  go_ret
  exact ⟨rfl, ho⟩

end Go.Proofs.YtoofalchkedciaaGreatDoor
