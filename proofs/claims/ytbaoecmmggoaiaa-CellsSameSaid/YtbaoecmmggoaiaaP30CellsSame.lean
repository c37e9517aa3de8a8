/-
  Contracts of cells.Along, Check, Do.
-/
import Derived.Test.YtbaoecmmggoaiaaP26CellsSame
import Derived.Test.YtbaoecmmggoaiaaP29CellsSame
namespace Go.Proofs.Ytbaoecmmggoaiaa
open Go.RowKit Go.Deep

noncomputable def alongFault (p : PlanL) (ops : List Opn) (l : List Int) : Int :=
  if allFault p ops ≠ 0 then allFault p ops else if ¬ EachOf p.length l then 3 else if ¬ aheadB p (l.map Int.toNat) then 6 else 0

theorem natL_toNat (o : List Nat) : (natL o).map Int.toNat = o := by
  unfold natL
  rw [List.map_map]
  have : ∀ x ∈ o, (Int.toNat ∘ fun (i : Nat) => (i : Int)) x = x := fun x _ => by simp
  rw [List.map_congr_left this]; simp

set_option maxRecDepth 100000 in
set_option maxHeartbeats 2000000 in
theorem cells_Along (v u ov : Value) (p : PlanL) (ops : List Opn) (l : List Int) (w : World) (h : InPlan w v p) (hu : OpsAt w u ops) (hlen : ops.length ≤ 9223372036854775807) (hord : Reads w ov l) (hl9 : l.length ≤ 17592186044416) :
    Calls Try.prog 14 #[v, u, ov] w fun e w' => ∃ v', e = .returned (.tuple #[v', errV (alongFault p ops l)]) ∧ Only [] w w' ∧
      ((alongFault p ops l ≠ 0 ∧ v' = .slice none 0 0) ∨ (alongFault p ops l = 0 ∧ ∃ A, v' = .slice (some ⟨A, 0, none⟩) p.length p.length ∧ w.heap.size ≤ A ∧ RowCl w' A p.length (foldA p ops (l.map Int.toNat)))) := by
  have hr := cells_ready v u p ops w h hu hlen
  have hnil : ∀ E, E ≠ 0 → errV E = .iface 62 (.int .i64 E) := fun E hE => errV_ne hE
  obtain ⟨E, hE⟩ : ∃ E, alongFault p ops l = E := ⟨_, rfl⟩
  have HE := Lib.hid hE
  rw [hE]
  clear hE
  by_cases h0 : allFault p ops = 0
  · obtain ⟨hok, hl, hops⟩ := allFault_zero h0
    have h30 := hok.len
    have HEA := Lib.hid (fun w1 (ho : Only [] w w1) => list_Each p.length ov l w1 (hord.same ho) hl9 (by omega))
    have HAL := Lib.hid (fun w1 (ho : Only [] w w1) (o : List Nat) (hlo : l = natL o) (hon : ∀ x ∈ o, x < p.length) (hol : o.length ≤ 1000) => cells_along v u ov p ops o w1 (h.same ho) hok (hu.same ho) hops hl (by rw [← hlo]; exact hord.same ho) hon hol)
    rw [h0, errV_zero] at hr
    obtain ⟨n, hn⟩ : ∃ n, p.length = n := ⟨_, rfl⟩
    have HL := Lib.hid hn
    have H0 := Lib.hid h0
    obtain ⟨pa, pc, rfl, _⟩ := h.task
    obtain ⟨ua, uc, rfl, _⟩ := hu.opt
    obtain ⟨oa, oc, rfl, _⟩ := hord.opt
    obtain ⟨m, hm⟩ : ∃ m, l.length = m := ⟨_, rfl⟩
    have HM := Lib.hid hm
    obtain ⟨q, hq⟩ : ∃ q, ops.length = q := ⟨_, rfl⟩
    rw [hn] at HEA HAL hr h30 ⊢
    rw [hm] at HEA HAL
    rw [hq] at HAL hr
    rw [hm, hq]
    clear h hu hord hlen hl9 h0 hok hl hops hn hm hq
    go_enter Try.func14, Try.ntmps14
    go_wp2_with fail
    refine hr.mono ?_
    rintro e w1 ⟨rfl, ho1⟩
    clear hr
    have hea := HEA.out w1 ho1
    by_cases hE3 : EachOf n l
    · rw [decide_eq_true hE3] at hea
      obtain ⟨o, hlo, hperm⟩ := hE3.mem
      have hon : ∀ x ∈ o, x < n := fun x hx => by simpa using (hperm.mem_iff).1 hx
      have hol : o.length ≤ 1000 := by have := hperm.length_eq; simp at this; omega
      have HMAP : Hid (l.map Int.toNat = o) := by show _ = _; rw [hlo]; exact natL_toNat o
      have HE3 := Lib.hid hE3
      have HLO := Lib.hid hlo
      clear hE3 hlo hperm
      go_wp2_with fail
      refine hea.mono ?_
      rintro e w2 ⟨rfl, ho2⟩
      have ho2 := ho1.trans ho2 (by simp)
      have hal := HAL.out w2 ho2 o HLO.out hon hol
      clear hea ho1
      go_wp2_with fail
      refine hal.mono ?_
      rintro e w3 ⟨v3, b, rfl, ho3, h3⟩
      have ho3 := ho2.trans ho3 (by simp)
      have hs := ho2.size
      clear hal ho2
      rcases h3 with ⟨rfl, hah, A, rfl, hA, hR⟩ | ⟨rfl, hno, rfl⟩
      · have he : Hid (E = 0) := by
          show _ = _
          rw [← HE.out]
          unfold alongFault
          rw [if_neg (by simp [H0.out]), if_neg (by rw [HL.out]; simpa using HE3.out), if_neg (by rw [HMAP.out]; simpa using hah)]
        have HR := Lib.hid hR
        clear hR
        go_wp2
        go_ret2
        exact ⟨_, by rw [he.out, errV_zero]; rfl, ho3, .inr ⟨he.out, A, rfl, by omega, by rw [HMAP.out]; exact HR.out⟩⟩
      · have he : Hid (E = 6) := by
          show _ = _
          rw [← HE.out]
          unfold alongFault
          rw [if_neg (by simp [H0.out]), if_neg (by rw [HL.out]; simpa using HE3.out), if_pos (by rw [HMAP.out]; exact hno)]
        go_wp2
        go_ret2
        exact ⟨_, by rw [he.out, errV_ne (by decide)]; rfl, ho3, .inl ⟨by rw [he.out]; decide, rfl⟩⟩
    · rw [decide_eq_false hE3] at hea
      have he : Hid (E = 3) := by
        show _ = _
        rw [← HE.out]
        unfold alongFault
        rw [if_neg (by simp [H0.out]), if_pos (by rw [HL.out]; exact hE3)]
      clear hE3
      go_wp2_with fail
      refine hea.mono ?_
      rintro e w2 ⟨rfl, ho2⟩
      have ho2 := ho1.trans ho2 (by simp)
      clear hea
      go_wp2
      go_ret2
      exact ⟨_, by rw [he.out, errV_ne (by decide)]; rfl, ho2, .inl ⟨by rw [he.out]; decide, rfl⟩⟩
  · have he : Hid (E = allFault p ops) := by
      show _ = _
      rw [← HE.out]
      unfold alongFault
      rw [if_pos h0]
    obtain ⟨F, hF⟩ : ∃ F, allFault p ops = F := ⟨_, rfl⟩
    rw [hF] at he h0 hr
    rw [errV_ne h0] at hr
    have H0 := Lib.hid h0
    obtain ⟨_, _, rfl, _⟩ := h.task
    obtain ⟨_, _, rfl, _⟩ := hu.opt
    obtain ⟨_, _, rfl, _⟩ := hord.opt
    clear h hu hord h0 hlen hl9 hF
    go_enter Try.func14, Try.ntmps14
    go_wp2_with fail
    refine hr.mono ?_
    rintro e w1 ⟨rfl, ho1⟩
    clear hr
    go_wp2
    go_ret2
    exact ⟨_, by rw [he.out, hnil F H0.out]; rfl, ho1, .inl ⟨by rw [he.out]; exact H0.out, rfl⟩⟩

end Go.Proofs.Ytbaoecmmggoaiaa
