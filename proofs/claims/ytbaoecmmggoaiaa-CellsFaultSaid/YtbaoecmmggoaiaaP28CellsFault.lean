/-
  Contract of cells.All.
-/
import Derived.Test.YtbaoecmmggoaiaaP27CellsFault
namespace Go.Proofs.Ytbaoecmmggoaiaa
open Go.RowKit Go.Deep

set_option maxRecDepth 100000 in
set_option maxHeartbeats 2000000 in
theorem cells_All (v u : Value) (p : PlanL) (ops : List Opn) (w : World) (h : InPlan w v p) (hu : OpsAt w u ops) (hlen : ops.length ≤ 9223372036854775807) :
    Calls Try.prog 7 #[v, u] w fun e w' => ∃ v', e = .returned (.tuple #[v', errV (allFault p ops)]) ∧ Only [] w w' ∧
      ((allFault p ops ≠ 0 ∧ v' = .slice none 0 0) ∨ (allFault p ops = 0 ∧ ∃ A, v' = .slice (some ⟨A, 0, none⟩) p.length p.length ∧ w.heap.size ≤ A ∧ RowCl w' A p.length (foldA p ops (orderOf p)))) := by
  have hr := cells_ready v u p ops w h hu hlen
  have hnil : ∀ E, E ≠ 0 → errV E = .iface 62 (.int .i64 E) := fun E hE => errV_ne hE
  obtain ⟨E, hE⟩ : ∃ E, allFault p ops = E := ⟨_, rfl⟩
  rw [hE] at hr ⊢
  by_cases h0 : E = 0
  · obtain ⟨hok, hl, hops⟩ := allFault_zero (hE.trans h0)
    have HP := Lib.hid h
    have HU := Lib.hid hu
    have HO := Lib.hid hok
    have hol : (orderOf p).length = p.length := topo_len hok p.length (Nat.le_refl _)
    have h30 := hok.len
    have HAL := Lib.hid (fun w1 (ho : Only [] w w1) ov (hr : Reads w1 ov (natL (orderOf p))) => cells_along v u ov p ops (orderOf p) w1 (h.same ho) hok (hu.same ho) hops hl hr (fun x hx => (orderOf_mem hok x).1 hx) (by omega))
    have HORD := Lib.hid (fun w1 (ho : Only [] w w1) => plan_OrderOf v p w1 (h.same ho) hok)
    have HAH := Lib.hid (orderOf_ok hok).2.1
    obtain ⟨n, hn⟩ : ∃ n, p.length = n := ⟨_, rfl⟩
    obtain ⟨f, hf⟩ : ∃ f, foldA p ops (orderOf p) = f := ⟨_, rfl⟩
    rw [hn, hf] at HAL ⊢
    subst h0
    rw [errV_zero] at hr ⊢
    clear h hu hE hnil hok hl hops hlen hol h30 hn hf
    go_enter Try.func7, Try.ntmps7
    go_wp2_with fail
    refine hr.mono ?_
    rintro e w1 ⟨rfl, ho1⟩
    clear hr
    go_wp2_with fail
    refine (HORD.out w1 ho1).mono ?_
    rintro e w2 ⟨ov, rfl, hI, ho2⟩
    have ho2 := ho1.trans ho2 (by simp)
    have hal := HAL.out w2 ho2 ov hI.reads
    go_wp2_with fail
    refine hal.mono ?_
    rintro e w3 ⟨v3, b, rfl, ho3, h3⟩
    have ho3 := ho2.trans ho3 (by simp)
    rcases h3 with ⟨_, _, A, rfl, hA, hR⟩ | ⟨_, hno, _⟩
    · have HR := Lib.hid hR
      have hs := ho2.size
      clear hal hR
      go_wp2
      go_ret2
      exact ⟨_, rfl, ho3, .inr ⟨trivial, A, rfl, by omega, HR.out⟩⟩
    · exact absurd HAH.out hno
  · rw [errV_ne h0] at hr
    have H0 := Lib.hid h0
    obtain ⟨_, _, rfl, _⟩ := h.task
    obtain ⟨_, _, rfl, _⟩ := hu.opt
    clear h hu hE h0 hlen
    rw [hnil E H0.out]
    clear hnil
    go_enter Try.func7, Try.ntmps7
    go_wp2_with fail
    refine hr.mono ?_
    rintro e w1 ⟨rfl, ho1⟩
    clear hr
    go_wp2
    go_ret2
    exact ⟨_, rfl, ho1, .inl ⟨H0.out, rfl⟩⟩

end Go.Proofs.Ytbaoecmmggoaiaa
