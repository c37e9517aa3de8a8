/-
  Contracts of package yard.
-/
import Derived.Test.YtmjicogmgkeilaaDoorJobs
namespace Go.Proofs.YtmjicogmgkeilaaDoor
open Go.RowKit

set_option maxHeartbeats 1000000 in
theorem yard_check_full (v : Value) (l : List (Int × Int)) (w : World) (h : InJobs w v l) (h6 : 6 < l.length) :
    Calls Tryd.prog 41 #[v] w fun e w' => e = .returned (.iface 95 (.int .i64 4)) ∧ w = w' := by
  obtain ⟨a, cap, rfl, h1, h2, h0, h3⟩ := h.2
  unfold maxLen at h2
  clear h h3 h0
  go_enter Tryd.func41, Tryd.ntmps41
  go_wp2
  go_ret
  exact ⟨rfl, rfl⟩

set_option maxHeartbeats 1000000 in
theorem yard_check_ok (v : Value) (l : List (Int × Int)) (w : World) (h : InJobs w v l) (h6 : l.length ≤ 6) (hok : ∀ j ∈ l, jobOk j) :
    Calls Tryd.prog 41 #[v] w fun e w' => e = .returned .nilIface ∧ Only [] w w' := by
  obtain ⟨a, cap, rfl, h1, h2, h0, h3⟩ := h.2
  clear h h0
  obtain ⟨n, hn⟩ : ∃ n, l.length = n := ⟨_, rfl⟩
  have Hok : ∀ i, i < n → jobOk (l[i]?.getD (0, 0)) := by
    intro i hi
    refine hok _ ?_
    rw [List.getElem?_eq_getElem (by omega)]
    simp
  rw [hn] at h1 h3 h6 ⊢
  clear hok hn
  go_enter Tryd.func41, Tryd.ntmps41
  go_wp2_with fail
  go_loopw [11] (fun i wr => ∃ k : Nat, k ≤ n ∧ i = .int .i64 k ∧ Only [] w wr) (fun i _ => n - (intOf i).toNat)
  case atStart => exact ⟨0, Nat.zero_le _, rfl, Only.refl _ _⟩
  case round =>
    obtain ⟨k, hk, rfl, ho⟩ := hrel
    by_cases hlt : k < n
    · obtain ⟨b, off, rfl, k0, k1⟩ := h3 k hlt
      have c0 := (ho.cell (p := ⟨b, _, none⟩) (cell_lt k0) (by simp)).trans k0
      have c1 := (ho.cell (p := ⟨b, _, none⟩) (cell_lt k1) (by simp)).trans k1
      have hj := Hok k hlt
      unfold jobOk at hj
      generalize (l[k]?.getD (0, 0)) = j at *
      obtain ⟨x, y⟩ := j
      obtain ⟨g1, g2, g3, g4⟩ := hj
      simp only at c0 c1 g1 g2 g3 g4
      have ho2 := Lib.hid (ho.alloc (.cells #[.int .i64 x, .int .i64 y] 82))
      clear h3 k0 k1 ho Hok
      go_wp2
      go_roundw
      case rel => exact ⟨k + 1, by omega, by go_num, ho2.out⟩
      case measure => (simp [intOf]; try omega)
    · obtain rfl : k = n := by omega
      clear h3 Hok
      go_wp2
      go_ret
      exact ⟨rfl, ho⟩

set_option maxHeartbeats 2000000 in
theorem yard_check_bad (v : Value) (l : List (Int × Int)) (w : World) (h : InJobs w v l) (h6 : l.length ≤ 6) (hbad : ¬ ∀ j ∈ l, jobOk j) :
    Calls Tryd.prog 41 #[v] w fun e w' => e = .returned (.iface 95 (.int .i64 1)) ∧ Only [] w w' := by
  obtain ⟨a, cap, rfl, h1, h2, h0, h3⟩ := h.2
  clear h h0
  obtain ⟨n, hn⟩ : ∃ n, l.length = n := ⟨_, rfl⟩
  have Hbad : Hid (¬ ∀ i, i < n → jobOk (l[i]?.getD (0, 0))) := by
    show ¬ _
    intro hh
    refine hbad fun j hj => ?_
    obtain ⟨i, hi, rfl⟩ := List.getElem_of_mem hj
    have := hh i (by omega)
    rw [List.getElem?_eq_getElem hi] at this
    simpa using this
  rw [hn] at h1 h3 h6 ⊢
  clear hbad hn
  go_enter Tryd.func41, Tryd.ntmps41
  go_wp2_with fail
  go_loopw [11] (fun i wr => ∃ k : Nat, k ≤ n ∧ i = .int .i64 k ∧ Only [] w wr ∧ ∀ j, j < k → jobOk (l[j]?.getD (0, 0))) (fun i _ => n - (intOf i).toNat)
  case atStart => exact ⟨0, Nat.zero_le _, rfl, Only.refl _ _, fun j hj => by omega⟩
  case round =>
    obtain ⟨k, hk, rfl, ho, hall⟩ := hrel
    have Hall := Lib.hid hall
    clear hall
    by_cases hlt : k < n
    · obtain ⟨b, off, rfl, k0, k1⟩ := h3 k hlt
      have c0 := (ho.cell (p := ⟨b, _, none⟩) (cell_lt k0) (by simp)).trans k0
      have c1 := (ho.cell (p := ⟨b, _, none⟩) (cell_lt k1) (by simp)).trans k1
      obtain ⟨x, y, hxy⟩ : ∃ x y, l[k]?.getD (0, 0) = (x, y) := ⟨_, _, rfl⟩
      rw [hxy] at c0 c1
      simp only at c0 c1
      have ho2 := Lib.hid (ho.alloc (.cells #[.int .i64 x, .int .i64 y] 82))
      by_cases hj : jobOk (x, y)
      · have Hall2 : Hid (∀ j, j < k + 1 → jobOk (l[j]?.getD (0, 0))) := by
          show ∀ j, j < k + 1 → jobOk (l[j]?.getD (0, 0))
          intro j hj2
          by_cases e : j = k
          · subst e; rw [hxy]; exact hj
          · exact Hall.out j (by omega)
        unfold jobOk at hj
        simp only at hj
        obtain ⟨g1, g2, g3, g4⟩ := hj
        clear h3 k0 k1 ho hxy
        go_wp2
        go_roundw
        case rel => exact ⟨k + 1, by omega, by go_num, ho2.out, Hall2.out⟩
        case measure => (simp [intOf]; try omega)
      · unfold jobOk at hj
        simp only at hj
        clear h3 k0 k1 ho hxy
        have hj2 : x < 1 ∨ (1 ≤ x ∧ 20 < x) ∨ (1 ≤ x ∧ x ≤ 20 ∧ y < 0) ∨ (1 ≤ x ∧ x ≤ 20 ∧ 0 ≤ y ∧ 10000 < y) := by omega
        clear hj
        rcases hj2 with g1 | ⟨g1, g2⟩ | ⟨g1, g2, g3⟩ | ⟨g1, g2, g3, g4⟩
        all_goals
          go_wp2
          go_ret
          exact ⟨rfl, ho2.out⟩
    · obtain rfl : k = n := by omega
      exact absurd Hall.out Hbad.out

set_option maxHeartbeats 400000 in
theorem clone_jobs (v : Value) (n : Nat) (W S : Nat → Nat) (w : World) (h : RowAt w v n 2 (flatJ W S n)) (hsm : n ≤ 1000) :
    Calls Tryd.prog 69 #[v] w fun e w' => ∃ v', e = .returned v' ∧ OwnJobs w' w.heap.size v' n W S ∧ Only [] w w' := by
  have hnil := fun (a : Option Addr) (n c : Nat) (w : World) => Lib.run_eql_slice_nil (P := Tryd.prog) w 73 82 a n c 0 0 Tryd.underlying73
  by_cases hv : v = .slice none 0 0
  · subst hv
    obtain rfl : n = 0 := by
      rcases h.2.2 with ⟨h0, _⟩ | ⟨_, b, off, cap, hb, _⟩
      · exact h0
      · cases hb
    go_enter Tryd.func69, Tryd.ntmps69
    go_wp2
    go_ret
    exact ⟨_, rfl, World.ownsRow_nil _ _ _ _, Only.refl _ _⟩
  · obtain ⟨x, c, rfl⟩ : ∃ x c, v = .slice (some x) n c := by
      rcases h.2.2 with ⟨rfl, rfl | ⟨x, c, rfl⟩⟩ | ⟨_, b, off, cap, rfl, _⟩
      · exact absurd rfl hv
      · exact ⟨x, c, rfl⟩
      · exact ⟨_, _, rfl⟩
    have ho := (Only.refl [] w).alloc (.cells #[] 82)
    have hown : (w.alloc (.cells #[] 82)).ownsRow w.heap.size 82 2 (.slice (some ⟨w.heap.size, 0, none⟩) 0 0) 0 [] := ⟨by simp, .inr ⟨w.heap.size, 0, #[], rfl, Nat.le_refl _, heap_alloc_new _ _, Nat.le_refl _, by unfold maxLen; omega, rfl, rfl⟩⟩
    have hh' := h.same ho
    clear h hv
    go_enter Tryd.func69, Tryd.ntmps69
    go_wp2_with (at_builtin; refine wpList_append_rows sliceOf_jobs rfl (.tmp 5) (.tmp 6) rfl _ w.heap.size _ 0 [] _ n _ hown hh' (by omega) (by simp) rfl rfl (Only.refl _ _) ?_; intro v' w' hI hO _)
    rw [Nat.zero_add, List.nil_append] at hI
    have ho2 : Only [] w w' := ho.fresh (B := w.heap.size) (hO.mono (by simp [own, Value.ownBlock])) (Nat.le_refl _)
    clear hown hh' hO hnil
    go_wp2
    go_ret
    exact ⟨_, rfl, hI, ho2⟩

end Go.Proofs.YtmjicogmgkeilaaDoor
