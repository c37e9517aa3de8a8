/-
  Contracts of yardref1.Order and yardref1.Work.
-/
import Derived.Test.YtoofalchkedciaaGreatDoorP23PlanTells
import Derived.Test.YtoofalchkedciaaGreatDoorP16PlanTells
import Derived.Test.YtoofalchkedciaaGreatDoorP24PlanTells
namespace Go.Proofs.YtoofalchkedciaaGreatDoor
open Go.RowKit Go.Deep

set_option maxRecDepth 100000 in
set_option maxHeartbeats 2000000 in
theorem ref_Work (v : Value) (p : PlanL) (w : World) (h : InPlan w v p) (hok : PlanOk p) :
    Calls Tryz.prog 80 #[v] w fun e w' => e = .returned (.int .i64 (workF p)) ∧ w' = w := by
  have HP := Lib.hid h
  have HB := Lib.hid (fun k hk => workK_bd hok k hk)
  have HW := Lib.hid (fun i hi => hok.work i hi)
  obtain ⟨a, cap, rfl, hc1, hc2, _⟩ := h.task
  obtain ⟨n, hn⟩ : ∃ n, p.length = n := ⟨_, rfl⟩
  have HL := Lib.hid hn
  rw [hn] at hc1 HP ⊢
  have h30 : n ≤ 30 := by rw [← hn]; exact hok.len
  clear h hn hok
  go_enter Tryz.func80, Tryz.ntmps80
  go_wp2_with fail
  go_loopw [3, 4] (fun vn vi wr => ∃ i : Nat, i ≤ n ∧ vi = .int .i64 i ∧ vn = .int .i64 (sumI (wkOf p) i) ∧ wr = w) (fun _ vi _ => n - (intOf vi).toNat)
  case atStart => exact ⟨0, Nat.zero_le _, rfl, rfl, rfl⟩
  case round =>
    obtain ⟨i, hi, rfl, rfl, rfl⟩ := hrel
    by_cases hin : i < n
    · have hil : i < p.length := by rw [HL.out]; exact hin
      obtain ⟨b, off, rfl⟩ := HP.out.any i hil
      obtain ⟨ua, uc, c0, _, _⟩ := HP.out.at i hil
      have hb := HB.out i (by omega)
      have hw := HW.out i hil
      have hs : Hid (sumI (wkOf p) (i + 1) = sumI (wkOf p) i + wkOf p i) := rfl
      generalize sumI (wkOf p) i = s at *
      generalize wkOf p i = x at *
      go_wp2
      go_roundw
      case rel => exact ⟨i + 1, by omega, by go_num, by rw [hs.out], by first | rfl | trivial⟩
      case measure => (simp [intOf]; try omega)
    · obtain rfl : i = n := by omega
      have hf : Hid (sumI (wkOf p) i = workF p) := by show _ = _; unfold workF; rw [HL.out]
      go_wp2
      go_ret
      exact ⟨by rw [← hf.out]; rfl, rfl⟩

set_option maxRecDepth 100000 in
set_option maxHeartbeats 4000000 in
theorem ref_Order (v : Value) (p : PlanL) (w : World) (h : InPlan w v p) (hok : PlanOk p) :
    Calls Tryz.prog 12 #[v] w fun e w' => ∃ v', e = .returned v' ∧ Ints w' w.heap.size v' (natL (orderOf p)) ∧ Only [] w w' := by
  have HP := Lib.hid h
  have HO := Lib.hid hok
  have HN := Lib.hid hok.needsOk
  obtain ⟨a, cap, rfl, hc1, hc2, _⟩ := h.task
  obtain ⟨n, hn⟩ : ∃ n, p.length = n := ⟨_, rfl⟩
  have HL := Lib.hid hn
  rw [hn] at hc1 HP ⊢
  have h30 : n ≤ 30 := by rw [← hn]; exact hok.len
  have hmk := make_bools n (by omega)
  have hB1 := made_bools w n
  have ho1 := (Only.refl [] w).alloc (.cells (madeCells #[.bool false] n) 4)
  have hI1 : Ints (w.alloc (.cells (madeCells #[.bool false] n) 4)) (w.heap.size + 1) (.slice none 0 0) (natL (topo p 0)) := Ints.nil _ _
  clear h hn hok
  go_enter Tryz.func12, Tryz.ntmps12
  go_wp2_with fail
  go_loopw [4, 5, 6] (fun vo _ _ wr => ∃ k : Nat, k ≤ n ∧ Ints wr (w.heap.size + 1) vo (natL (topo p k)) ∧ Bools wr w.heap.size n (fun j => (topo p k).contains j) ∧ Only [] w wr ∧ w.heap.size < wr.heap.size) (fun vo _ _ _ => n - (lenOfV vo))
  case atStart => exact ⟨0, Nat.zero_le _, hI1, hB1, ho1, by simp⟩
  case round =>
    obtain ⟨wo, rfl⟩ : ∃ wo : World, wo = wr := ⟨_, rfl⟩
    clear hI1 hB1 ho1
    obtain ⟨k, hk, hI, hB, ho, hgt⟩ := hrel
    have htl := topo_len HO.out k (by rw [HL.out]; exact hk)
    obtain ⟨va, vc, rfl, _⟩ := hI.opt
    rw [natL_len, htl] at hI ⊢
    by_cases hkn : k < n
    · go_wp2_with fail
      go_loopw [4, 5, 6] (fun vo vi _ wr => ∃ i : Nat, i ≤ n ∧ vo = .slice va k vc ∧ vi = .int .i64 i ∧ (∀ j, j < i → readyB p (fun j => (topo p k).contains j) j = false) ∧ wo = wr) (fun _ vi _ _ => n - (intOf vi).toNat)
      case atStart => exact ⟨0, Nat.zero_le _, rfl, rfl, fun j hj => by omega, rfl⟩
      case round =>
        obtain ⟨i, hi, rfl, rfl, hnr, rfl⟩ := hrel
        have HNR := Lib.hid hnr
        clear hnr
        by_cases hin : i < n
        · have hF := ref_Free _ p i w.heap.size n (fun j => (topo p k).contains j) wo (HP.out.same ho) HN.out hB (by rw [HL.out]; exact hin) HL.out
          have cA : wo.cell? ⟨w.heap.size, i, none⟩ = some (.bool ((topo p k).contains i)) := (hB i hin).1
          have fA := (hB i hin).2
          have hre := ready_free p (fun j => (topo p k).contains j) i
          obtain ⟨fr, hfr⟩ : ∃ b, freeB p (fun j => (topo p k).contains j) i = b := ⟨_, rfl⟩
          obtain ⟨fi, hfi⟩ : ∃ b, (topo p k).contains i = b := ⟨_, rfl⟩
          rw [hfr] at hF hre
          rw [hfi] at cA
          simp only [hfi] at hre
          have HRE := Lib.hid hre
          clear hfr hfi hre
          by_cases hr : fi = false ∧ fr = true
          · obtain ⟨rfl, rfl⟩ := hr
            have hst : Hid (topo p (k + 1) = topo p k ++ [i]) := by
              show _ = _
              obtain ⟨i2, h1, h2, h3, h4⟩ := topo_step HO.out k (by rw [HL.out]; exact hkn) htl
              have : i2 = i := by
                rcases Nat.lt_trichotomy i2 i with hl | hl | hl
                · have := HNR.out i2 hl; rw [this] at h2; cases h2
                · exact hl
                · have := h3 i hl
                  rw [HRE.out] at this; cases this
              rw [h4, this]
            have hset : Only [w.heap.size] wo (wo.setCell ⟨w.heap.size, i, none⟩ (.bool true)) := (Only.refl _ _).setCell (by simp) _
            have hIw := hI.only hset (fun g hg hx => by have h1 := (hI.own_lt g (own_of hg)).1; simp at hx; omega)
            have hBw : Bools (wo.setCell ⟨w.heap.size, i, none⟩ (.bool true)) w.heap.size n (fun j => (topo p (k + 1)).contains j) := by
              have h1 := hB.set i true
              have e : (fun j => if j = i then true else (topo p k).contains j) = fun j => (topo p (k + 1)).contains j := by
                funext j
                rw [hst.out]
                by_cases e : j = i
                · subst e; simp
                · simp [e]
              rw [e] at h1
              exact h1
            have hwW : Only [] w (wo.setCell ⟨w.heap.size, i, none⟩ (.bool true)) := ho.trans hset (by simp)
            have hszW : w.heap.size + 1 ≤ (wo.setCell ⟨w.heap.size, i, none⟩ (.bool true)).heap.size := by simp; omega
            have hlk := natL_len (topo p k)
            clear hset hI hB ho
            obtain ⟨W, hW⟩ : ∃ W, wo.setCell ⟨w.heap.size, i, none⟩ (.bool true) = W := ⟨_, rfl⟩
            rw [hW] at hIw hBw hwW hszW
            go_wp2_with fail
            refine hF.mono ?_
            rintro e w1 ⟨rfl, hw1⟩
            subst hw1
            clear hF
            go_wp2_with (at_builtin; refine wpList_push rfl (.tmp 36) (.tmp 38) rfl W (w.heap.size + 1) _ _ W.heap.size i k hIw (by rw [hlk, htl]) (by omega) hszW rfl rfl ((Only.refl [] W).alloc _) (World.cell?_alloc_at _ _ _ _ rfl) ?_; intro g cap3 w3 hI3 hO3 hK3)
            rw [← natL_push, ← hst.out] at hI3
            have hB4 := Lib.hid (hBw.only hO3 (fun hx => by have := (hIw.own_lt _ hx).1; omega))
            have ho4 := Lib.hid (hwW.trans hO3 (fun x hx hl => by have := (hIw.own_lt _ hx).1; omega))
            have hs4 : Hid (w.heap.size < w3.heap.size) := by show _ < _; have := hO3.size; omega
            clear hIw hBw hO3 hwW hW
            go_roundw
            case rel => exact ⟨k + 1, by omega, hI3, hB4.out, ho4.out, hs4.out⟩
            case measure => (simp [lenOfV]; omega)
          · have hf : Hid (readyB p (fun j => (topo p k).contains j) i = false) := by
              show _ = _
              rw [HRE.out]
              cases fi <;> cases fr <;> simp at hr ⊢
            cases fi
            · cases fr
              · go_wp2_with fail
                refine hF.mono ?_
                rintro e w1 ⟨rfl, hw1⟩
                subst hw1
                clear hF
                go_wp2
                go_roundw
                case rel =>
                  refine ⟨i + 1, by omega, rfl, by go_num, fun j hj => ?_, trivial⟩
                  by_cases e : j = i
                  · subst e; exact hf.out
                  · exact HNR.out j (by omega)
                case measure => (simp [intOf]; try omega)
              · exact absurd ⟨rfl, rfl⟩ hr
            · clear hr
              cases fr
              all_goals
                go_wp2_with fail
                refine hF.mono ?_
                rintro e w1 ⟨rfl, hw1⟩
                subst hw1
                clear hF
                go_wp2
                go_roundw
                case rel =>
                  refine ⟨i + 1, by omega, rfl, by go_num, fun j hj => ?_, trivial⟩
                  by_cases e : j = i
                  · subst e; exact hf.out
                  · exact HNR.out j (by omega)
                case measure => (simp [intOf]; try omega)
        · obtain rfl : i = n := by omega
          exfalso
          obtain ⟨i0, h1, h2⟩ := exists_ready HO.out (fun j => (topo p k).contains j) (exists_notin (topo p k) p.length (by rw [htl, HL.out]; exact hkn))
          rw [HNR.out i0 (by rw [← HL.out]; exact h1)] at h2
          cases h2
    · obtain rfl : k = n := by omega
      clear hB
      go_wp2
      go_ret
      refine ⟨_, rfl, ?_, ho⟩
      have e : orderOf p = topo p k := by unfold orderOf; rw [HL.out]
      rw [e]
      exact hI.mono (by omega)

end Go.Proofs.YtoofalchkedciaaGreatDoor
