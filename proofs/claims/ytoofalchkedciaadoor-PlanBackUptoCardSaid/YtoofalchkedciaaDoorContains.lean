/-
  Contracts of slices.Index and slices.Contains at []int.
-/
import Derived.Test.YtoofalchkedciaaDoorInts
namespace Go.Proofs.YtoofalchkedciaaDoor
open Go.RowKit

theorem mem_nth {l : List Int} {x : Int} : x ∈ l ↔ ∃ j, j < l.length ∧ nth l j = x := by
  constructor
  · intro h
    obtain ⟨j, hj, e⟩ := List.getElem_of_mem h
    exact ⟨j, hj, by simp [nth, hj, e]⟩
  · rintro ⟨j, hj, rfl⟩
    simp [nth, hj]

set_option maxHeartbeats 400000 in
theorem index_ints (v : Value) (l : List Int) (x : Int) (w : World) (h : Reads w v l) (hl : l.length ≤ 1000000000) (r : Bool) (hr : decide (x ∈ l) = r) :
    Calls Tryd.prog 61 #[v, .int .i64 x] w fun e w' => (∃ i : Int, e = .returned (.int .i64 i) ∧ decide (0 ≤ i) = r) ∧ w = w' := by
  rcases h with ⟨rfl, hv⟩ | ⟨h0, b, off, cap, rfl, h1, h2, h3⟩
  · obtain rfl : r = false := by simpa using hr.symm
    have hv' : ∃ a c, v = .slice a 0 c := by
      rcases hv with rfl | ⟨y, c, rfl, _⟩
      · exact ⟨_, _, rfl⟩
      · exact ⟨_, _, rfl⟩
    obtain ⟨a, c, rfl⟩ := hv'
    clear hv hr
    go_enter Tryd.func61, Tryd.ntmps61
    go_wp2_with fail
    refine wp_loop_rounds 1 ?_
    rw [rounds_succ]
    go_wp2
    go_ret
    exact ⟨⟨-1, rfl, by decide⟩, rfl⟩
  · have HR := Lib.hid hr
    clear hr
    generalize hn : l.length = n at *
    have Hn := Lib.hid hn
    clear hn
    go_enter Tryd.func61, Tryd.ntmps61
    go_wp2_with fail
    go_loop [8] (fun i => ∃ k : Nat, k ≤ n ∧ i = .int .i64 k ∧ ∀ j, j < k → nth l j ≠ x) (fun i => n - (intOf i).toNat)
    case atStart => exact ⟨0, Nat.zero_le _, rfl, fun j hj => by omega⟩
    case round =>
      obtain ⟨k, hk, rfl, hno⟩ := hrel
      by_cases hlt : k < n
      · have hc := h3 k hlt
        have HNO := Lib.hid hno
        clear h3 hno
        by_cases he : x = nth l k
        · have hq : (x == nth l k) = true := by simpa using he
          have HE := Lib.hid he
          clear he
          go_wp2
          go_ret
          exact ⟨⟨k, rfl, by rw [← HR.out]; simp; exact mem_nth.2 ⟨k, by rw [Hn.out]; exact hlt, HE.out.symm⟩⟩, rfl⟩
        · have hq : (x == nth l k) = false := by simpa using he
          have HE := Lib.hid he
          clear he
          go_wp2
          go_round
          case rel =>
            refine ⟨k + 1, by omega, by go_num, fun j hj => ?_⟩
            by_cases hjk : j = k
            · subst hjk; exact fun e => HE.out e.symm
            · exact HNO.out j (by omega)
          case measure => simp [intOf]; omega
      · obtain rfl : k = n := by omega
        have HNO := Lib.hid hno
        clear h3 hno
        go_wp2
        go_ret
        refine ⟨⟨-1, rfl, ?_⟩, rfl⟩
        rw [← HR.out]
        have : x ∉ l := fun hx => by
          obtain ⟨j, hj, e⟩ := mem_nth.1 hx
          exact HNO.out j (by rw [Hn.out] at hj; exact hj) e
        simp [this]

theorem contains_ints (v : Value) (l : List Int) (x : Int) (w : World) (h : Reads w v l) (hl : l.length ≤ 1000000000) (r : Bool) (hr : decide (x ∈ l) = r) :
    Calls Tryd.prog 46 #[v, .int .i64 x] w fun e w' => e = .returned (.bool r) ∧ w = w' := by
  have HR := Lib.hid hr
  clear hr
  go_enter Tryd.func46, Tryd.ntmps46
  go_wp2_with fail
  refine (index_ints v l x w h hl r HR.out).mono ?_
  rintro e w1 ⟨⟨i, rfl, hi⟩, rfl⟩
  go_wp2
  go_ret
  exact ⟨rfl, rfl⟩

end Go.Proofs.YtoofalchkedciaaDoor
