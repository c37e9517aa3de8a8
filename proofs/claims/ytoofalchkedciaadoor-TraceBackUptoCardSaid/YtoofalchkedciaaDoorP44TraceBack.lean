/-
  Contract of yardsame.Deeds, of two equal lists.
-/
import Derived.Test.YtoofalchkedciaaDoorP6TraceBack
import Derived.Test.YtoofalchkedciaaDoorP43TraceBack
namespace Go.Proofs.YtoofalchkedciaaDoor
open Go.RowKit

set_option maxRecDepth 100000 in
set_option maxHeartbeats 1000000 in
theorem same_deeds (u v : Value) (bs : List Dd) (w : World) (hu : DeedsAt w u bs) (hv : DeedsAt w v bs) (hl : bs.length ≤ 9223372036854775807) :
    Calls Tryd.prog 14 #[u, v] w fun e w' => e = .returned (.bool true) ∧ ∃ n, w' = w.drewN n := by
  obtain ⟨a, ca, rfl, ha⟩ := hu.opt
  obtain ⟨b, cb, rfl, hb⟩ := hv.opt
  obtain ⟨n, hn⟩ : ∃ n, bs.length = n := ⟨_, rfl⟩
  rw [hn] at ha hb hl ⊢
  clear hu hv hn
  go_enter Tryd.func14, Tryd.ntmps14
  go_wp2_with fail
  go_loopw [5] (fun vi wr => ∃ i : Nat, i ≤ n ∧ vi = .int .i64 i ∧ ∃ m, w.drewN m = wr) (fun vi _ => n - (intOf vi).toNat)
  case atStart => exact ⟨0, Nat.zero_le _, rfl, 0, rfl⟩
  case round =>
    obtain ⟨i, hi, rfl, m, rfl⟩ := hrel
    by_cases hin : i < n
    · obtain ⟨ba, oa, rfl, k0, k0', k0'', k0'''⟩ := ha i hin
      obtain ⟨bb, ob, rfl, k1, k1', k1'', k1'''⟩ := hb i hin
      generalize ddAt bs i = b9 at *
      obtain ⟨x, y, z, t⟩ := b9
      simp only at k0 k0' k0'' k0''' k1 k1' k1'' k1'''
      clear ha hb
      go_wp2_with fail
      go_quiet (fail)
      go_wp2
      go_roundw
      case rel => exact ⟨i + 1, by omega, by go_num, _, rfl⟩
      case measure => (simp [intOf]; try omega)
    · obtain rfl : i = n := by omega
      clear ha hb
      go_wp2
      go_ret
      exact ⟨rfl, _, rfl⟩

end Go.Proofs.YtoofalchkedciaaDoor
