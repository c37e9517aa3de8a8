/-
  Contract of yardgang/yardref2.Ready: who is ready.
-/
import Derived.Test.YtloojhnhialenaaGreatDoorFree
import Derived.Test.YtloojhnhialenaaGreatDoorJoinP
namespace Go.Proofs.YtloojhnhialenaaGreatDoor
open Go.RowKit Go.Deep

theorem ref_Ready_succ (p : PlanL) (D : Nat → Bool) (k : Nat) : (List.range (k + 1)).filter (readyB p D) = if readyB p D k then (List.range k).filter (readyB p D) ++ [k] else (List.range k).filter (readyB p D) := by
  rw [List.range_succ, List.filter_append]
  cases h : readyB p D k <;> simp only [List.filter, h] <;> simp

set_option maxRecDepth 100000 in
set_option maxHeartbeats 4000000 in
theorem ref_Ready (v : Value) (p : PlanL) (A n : Nat) (D : Nat → Bool) (w : World) (h : InPlan w v p) (hn : NeedsOk p) (hB : Bools w A n D) (hl : p.length = n) :
    Calls Tryz.prog 38 #[v, .slice (some ⟨A, 0, none⟩) n n] w fun e w' => ∃ v', e = .returned v' ∧ Ints w' w.heap.size v' (natL (readyL p D)) ∧ Only [] w w' := by
  have HP := Lib.hid h
  have HN := Lib.hid hn
  have HB := Lib.hid hB
  have HL := Lib.hid hl
  have h30 := hn.1
  obtain ⟨a, cap, rfl, hc1, hc2, _⟩ := h.task
  rw [hl] at hc1 h30 HP ⊢
  clear h hn hB hl hc2
  go_enter Tryz.func38, Tryz.ntmps38
  go_wp2_with fail
  go_loopw [5, 6, 7] (fun vo vi _ wr => ∃ k : Nat, k ≤ n ∧ vi = .int .i64 k ∧ Ints wr w.heap.size vo (natL ((List.range k).filter (readyB p D))) ∧ Only [] w wr) (fun _ vi _ _ => n - (intOf vi).toNat)
  case atStart => exact ⟨0, Nat.zero_le _, rfl, Ints.nil _ _, Only.refl _ _⟩
  case round =>
    obtain ⟨wo, rfl⟩ : ∃ wo : World, wo = wr := ⟨_, rfl⟩
    obtain ⟨k, hk, rfl, hI, ho⟩ := hrel
    have hsz := ho.size
    by_cases hkn : k < n
    · have hF := ref_Free _ p k A n D wo (HP.out.same ho) HN.out (HB.out.only ho (by simp)) (by rw [HL.out]; exact hkn) HL.out
      have cb := ((HB.out.only ho (by simp)) k hkn).1
      have HSU := Lib.hid (ref_Ready_succ p D k)
      rw [ready_free] at HSU
      generalize freeB p D k = f at *
      generalize D k = d at *
      obtain ⟨va, vc, rfl, _⟩ := hI.opt
      obtain ⟨q, hq⟩ : ∃ q, (natL ((List.range k).filter (readyB p D))).length = q := ⟨_, rfl⟩
      have hqk : q ≤ k := by rw [← hq, natL_len]; have := List.length_filter_le (readyB p D) (List.range k); simpa using this
      have HQ := Lib.hid hq
      rw [hq] at hI ⊢
      clear hq
      by_cases hr : f = true ∧ d = false
      · obtain ⟨rfl, rfl⟩ := hr
        have hst : Hid ((List.range (k + 1)).filter (readyB p D) = (List.range k).filter (readyB p D) ++ [k]) := by show _ = _; rw [HSU.out]; rfl
        go_wp2_with fail
        refine hF.mono ?_
        rintro e w1 ⟨rfl, hw1⟩
        subst hw1
        clear hF
        go_wp2_with (at_builtin; refine wpList_push rfl (.tmp 26) (.tmp 28) rfl w1 w.heap.size _ _ w1.heap.size k q hI HQ.out (by omega) hsz rfl rfl ((Only.refl [] w1).alloc _) (World.cell?_alloc_at _ _ _ _ rfl) ?_; intro g2 cap3 w3 hI4 hO4 hK4)
        rw [← natL_push, ← hst.out] at hI4
        have ho4 := Lib.hid (ho.pushed hI (Nat.le_refl _) hO4)
        clear hI ho hO4
        go_roundw
        case rel => exact ⟨k + 1, by omega, by go_num, hI4, ho4.out⟩
        case measure => (simp [intOf]; try omega)
      · have hst : Hid ((List.range (k + 1)).filter (readyB p D) = (List.range k).filter (readyB p D)) := by
          show _ = _
          rw [HSU.out, if_neg]
          cases f <;> cases d <;> simp at hr ⊢
        have HI : Hid (Ints wo w.heap.size (.slice va q vc) (natL ((List.range (k + 1)).filter (readyB p D)))) := by rw [hst.out]; exact hI
        clear hI
        cases f
        · cases d
          all_goals
            go_wp2_with fail
            refine hF.mono ?_
            rintro e w1 ⟨rfl, hw1⟩
            subst hw1
            clear hF
            go_wp2
            go_roundw
            case rel => exact ⟨k + 1, by omega, by go_num, HI.out, ho⟩
            case measure => (simp [intOf]; try omega)
        · cases d
          · exact absurd ⟨rfl, rfl⟩ hr
          · go_wp2_with fail
            refine hF.mono ?_
            rintro e w1 ⟨rfl, hw1⟩
            subst hw1
            clear hF
            go_wp2
            go_roundw
            case rel => exact ⟨k + 1, by omega, by go_num, HI.out, ho⟩
            case measure => (simp [intOf]; try omega)
    · obtain rfl : k = n := by omega
      obtain ⟨va, vc, rfl, _⟩ := hI.opt
      go_wp2
      go_ret
      exact ⟨_, rfl, by unfold readyL; rw [HL.out]; exact hI, ho⟩

end Go.Proofs.YtloojhnhialenaaGreatDoor
