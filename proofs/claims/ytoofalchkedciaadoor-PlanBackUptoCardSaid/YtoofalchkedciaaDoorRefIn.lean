/-
  Contract of yardref1.In.
-/
import Derived.Test.YtoofalchkedciaaDoorContains
import Derived.Test.YtoofalchkedciaaDoorMore
namespace Go.Proofs.YtoofalchkedciaaDoor
open Go.RowKit

set_option maxHeartbeats 400000 in
theorem ref_in (v : Value) (l : List Int) (x : Int) (w : World) (h : Reads w v l) (hl : l.length ≤ 1000000000) (r : Bool) (hr : decide (x ∈ l) = r) :
    Calls Tryd.prog 11 #[v, .int .i64 x] w fun e w' => e = .returned (.bool r) ∧ w = w' := by
  obtain ⟨a, c, rfl, ha⟩ := h.opt
  obtain ⟨n, hn⟩ : ∃ n, l.length = n := ⟨_, rfl⟩
  have HN := Lib.hid hn
  have HR := Lib.hid hr
  rw [hn] at ha hl ⊢
  clear h hn hr
  go_enter Tryd.func11, Tryd.ntmps11
  go_wp2_with fail
  go_loopw [5] (fun vi wr => ∃ i : Nat, i ≤ n ∧ vi = .int .i64 i ∧ (∀ j, j < i → nth l j ≠ x) ∧ w = wr) (fun vi _ => n - (intOf vi).toNat)
  case atStart => exact ⟨0, Nat.zero_le _, rfl, fun j hj => by omega, rfl⟩
  case round =>
    obtain ⟨i, hi, rfl, hno, rfl⟩ := hrel
    have HNO := Lib.hid hno
    clear hno
    by_cases hin : i < n
    · obtain ⟨b, off, rfl, k0⟩ := ha i hin
      obtain ⟨z, hz⟩ : ∃ z, nth l i = z := ⟨_, rfl⟩
      have HZ := Lib.hid hz
      rw [hz] at k0
      clear ha hz
      by_cases he : z = x
      · have hq : (z == x) = true := by simpa using he
        have hres : Hid (r = true) := by
          show _ = _
          rw [← HR.out, decide_eq_true_eq]
          exact mem_nth.2 ⟨i, by rw [HN.out]; exact hin, by rw [HZ.out]; exact he⟩
        clear he
        go_wp2
        go_ret
        exact ⟨by rw [hres.out]; rfl, rfl⟩
      · have hq : (z == x) = false := by simpa using he
        have HE := Lib.hid he
        clear he
        go_wp2
        go_roundw
        case rel =>
          refine ⟨i + 1, by omega, by go_num, fun j hj => ?_, by trivial⟩
          by_cases e : j = i
          · subst e; rw [HZ.out]; exact HE.out
          · exact HNO.out j (by omega)
        case measure => (simp [intOf]; try omega)
    · obtain rfl : n = i := by omega
      have hres : Hid (r = false) := by
        show _ = _
        rw [← HR.out, decide_eq_false_iff_not]
        intro hm
        obtain ⟨j, hj, e⟩ := mem_nth.1 hm
        exact HNO.out j (by rw [← HN.out]; exact hj) e
      clear ha
      go_wp2
      go_ret
      exact ⟨by rw [hres.out]; rfl, rfl⟩

end Go.Proofs.YtoofalchkedciaaDoor
