/-
  Contracts of package ring, by lists: Steal.
-/
import Derived.Test.YtocpmncedlenbaaP5GangShares
import Derived.Test.YtocpmncedlenbaaP2GangShares
namespace Go.Proofs.Ytocpmncedlenbaa
open Go.RowKit

theorem Ring.steal_none (b room : Nat) (w : World) (h : RingIs w b room []) :
    Calls Try.prog 59 #[.pointer (some ⟨b, 0, none⟩)] w fun e w' => e = .returned (.tuple #[.int .i64 0, .iface 52 (.int .i64 5)]) ∧ w = w' := by
  obtain ⟨head, many, cs, h, hv⟩ := h
  obtain rfl : many = 0 := by have := congrArg List.length hv; simpa [view_length] using this.symm
  exact ring_steal_none b room head cs w h

theorem Ring.steal (b room : Nat) (l : List Int) (x : Int) (w : World) (h : RingIs w b room (x :: l)) :
    Calls Try.prog 59 #[.pointer (some ⟨b, 0, none⟩)] w fun e w' => e = .returned (.tuple #[.int .i64 x, .nilIface]) ∧ RingIs w' b room l ∧ Only [b] w w' := by
  obtain ⟨head, many, cs, h, hv⟩ := h
  obtain ⟨m, rfl⟩ : ∃ m, many = m + 1 := ⟨l.length, by have := congrArg List.length hv; simpa [view_length] using this.symm⟩
  rw [view_steal _ _ _ _ h.hh] at hv
  injection hv with h2 h1
  refine (ring_steal b room head m cs w h).mono ?_
  rintro e w' ⟨he, hr, ho⟩
  rw [← h2] at he
  exact ⟨he, ⟨_, m, cs, hr, h1⟩, ho⟩

end Go.Proofs.Ytocpmncedlenbaa
