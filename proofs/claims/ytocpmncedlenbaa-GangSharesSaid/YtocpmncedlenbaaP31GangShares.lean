/-
  Contracts of (*join.Join).State, Ready, Done.
-/
import Derived.Test.YtocpmncedlenbaaP29GangShares
namespace Go.Proofs.Ytocpmncedlenbaa
open Go.RowKit Go.Deep

/-- How a task stands. -/
def stateOf (p : PlanL) (D : Nat → Bool) (i : Nat) : Int := if D i then 2 else if lackN p D i = 0 then 1 else 0


theorem readyK_succ (p : PlanL) (D : Nat → Bool) (k : Nat) : (List.range (k + 1)).filter (readyB p D) = if readyB p D k then (List.range k).filter (readyB p D) ++ [k] else (List.range k).filter (readyB p D) := by
  rw [List.range_succ, List.filter_append]
  cases h : readyB p D k <;> simp only [List.filter, h] <;> simp

set_option maxRecDepth 100000 in
set_option maxHeartbeats 4000000 in
theorem Join.ready (S : List Nat) (FP : Nat → Prop) (J : Nat) (p : PlanL) (D : Nat → Bool) (w : World) (h : JoinIs w S FP J p D) :
    Calls Try.prog 20 #[.pointer (some ⟨J, 0, none⟩)] w fun e w' => ∃ v, e = .returned v ∧ Ints w' w.heap.size v (natL (readyL p D)) ∧ Only [] w w' := by
  obtain ⟨pv, lv, A, h, _⟩ := h
  have hc := h.cells
  obtain ⟨n, hn⟩ : ∃ n, p.length = n := ⟨_, rfl⟩
  have HL := Lib.hid hn
  have h30 := h.ok.len
  have HB := Lib.hid h.done
  have HI := Lib.hid h.lack
  obtain ⟨la, lc, rfl, hcell⟩ := h.lack.opt
  rw [numL_len, hn] at hc hcell
  rw [hn] at HB h30
  have c1 := hc.cell 1 _ rfl
  have HC := Lib.hid hc
  have HCELL := Lib.hid hcell
  clear h hc hn hcell
  go_enter Try.func20, Try.ntmps20
  go_wp2_with fail
  go_loopw [3, 11] (fun vo vi wr => ∃ k : Nat, k ≤ n ∧ vi = .int .i64 k ∧ Ints wr w.heap.size vo (natL ((List.range k).filter (readyB p D))) ∧ Only [] w wr) (fun _ vi _ => n - (intOf vi).toNat)
  case atStart => exact ⟨0, Nat.zero_le _, rfl, Ints.nil _ _, Only.refl _ _⟩
  case round =>
    obtain ⟨wo, rfl⟩ : ∃ wo : World, wo = wr := ⟨_, rfl⟩
    obtain ⟨k, hk, rfl, hI, ho⟩ := hrel
    have hsz := ho.size
    by_cases hkn : k < n
    · obtain ⟨g, rfl, cl⟩ := HCELL.out k hkn
      rw [numL_nth _ _ _ hkn] at cl
      have cl2 := (ho.cell (p := ⟨g, k, none⟩) (cell_lt cl) (by simp)).trans cl
      have cb := ((HB.out.only ho (by simp)) k hkn).1
      have c2 := ((HC.out.only ho (by simp)).cell 2 _ rfl)
      have hsu := readyK_succ p D k
      rw [ready_lack] at hsu
      have HSU := Lib.hid hsu
      unfold lackOf at cl2
      generalize lackN p D k = l at *
      generalize D k = d at *
      obtain ⟨q, hq⟩ : ∃ q, (natL ((List.range k).filter (readyB p D))).length = q := ⟨_, rfl⟩
      have hqk : q ≤ k := by rw [← hq, natL_len]; have := List.length_filter_le (readyB p D) (List.range k); simpa using this
      clear cl hsu
      by_cases hl : l = 0
      · subst hl
        cases d
        · have hst : Hid ((List.range (k + 1)).filter (readyB p D) = (List.range k).filter (readyB p D) ++ [k]) := by show _ = _; rw [HSU.out]; rfl
          go_wp2_with (at_builtin; refine wpList_push rfl (.tmp 28) (.tmp 30) rfl wo w.heap.size _ _ wo.heap.size k q hI hq (by omega) hsz rfl rfl ((Only.refl [] wo).alloc _) (World.cell?_alloc_at _ _ _ _ rfl) ?_; intro g2 cap3 w3 hI4 hO4 hK4)
          rw [← natL_push, ← hst.out] at hI4
          have ho4 := Lib.hid (ho.pushed hI (Nat.le_refl _) hO4)
          clear hI ho hO4
          go_roundw
          case rel => exact ⟨k + 1, by omega, by go_num, hI4, ho4.out⟩
          case measure => (simp [intOf]; try omega)
        · have hst : Hid ((List.range (k + 1)).filter (readyB p D) = (List.range k).filter (readyB p D)) := by show _ = _; rw [HSU.out]; rfl
          go_wp2
          go_roundw
          case rel => exact ⟨k + 1, by omega, by go_num, by rw [hst.out]; exact hI, ho⟩
          case measure => (simp [intOf]; try omega)
      · have hst : Hid ((List.range (k + 1)).filter (readyB p D) = (List.range k).filter (readyB p D)) := by show _ = _; rw [HSU.out, if_neg (by simp [hl])]
        have hz : ((l : Int) == 0) = false := by simp; omega
        clear hl
        go_wp2
        go_roundw
        case rel => exact ⟨k + 1, by omega, by go_num, by rw [hst.out]; exact hI, ho⟩
        case measure => (simp [intOf]; try omega)
    · obtain rfl : n = k := by omega
      obtain ⟨va, vc, rfl, _⟩ := hI.opt
      go_wp2
      go_ret
      exact ⟨_, rfl, by unfold readyL; rw [HL.out]; exact hI, ho⟩

end Go.Proofs.Ytocpmncedlenbaa
