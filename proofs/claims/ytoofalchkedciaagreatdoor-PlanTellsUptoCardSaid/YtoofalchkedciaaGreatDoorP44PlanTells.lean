/-
  Contracts of yardsame.Ints (of two equal lists) .
  Contract of yardsame.Plan (of two equal plans).
-/
import Derived.Test.YtoofalchkedciaaGreatDoorP5PlanTells
import Derived.Deep.CutBlock
import Derived.Deep.DeepCutAuto
import Derived.Test.YtoofalchkedciaaGreatDoorP8PlanTells
namespace Go.Proofs.YtoofalchkedciaaGreatDoor
open Go.RowKit

set_option maxHeartbeats 1000000 in
theorem same_ints (u v : Value) (xs : List Int) (w : World) (hu : Reads w u xs) (hv : Reads w v xs) (hl : xs.length ≤ 1000000) :
    Calls Tryz.prog 15 #[u, v] w fun e w' => e = .returned (.bool true) ∧ ∃ n, w' = w.drewN n := by
  obtain ⟨a, ca, rfl, ha⟩ := hu.opt
  obtain ⟨b, cb, rfl, hb⟩ := hv.opt
  obtain ⟨n, hn⟩ : ∃ n, xs.length = n := ⟨_, rfl⟩
  rw [hn] at ha hb hl ⊢
  clear hu hv hn
  go_enter Tryz.func15, Tryz.ntmps15
  go_wp2_with fail
  go_loopw [5] (fun vi wr => ∃ i : Nat, i ≤ n ∧ vi = .int .i64 i ∧ ∃ m, wr = w.drewN m) (fun vi _ => n - (intOf vi).toNat)
  case atStart => exact ⟨0, Nat.zero_le _, rfl, 0, rfl⟩
  case round =>
    obtain ⟨i, hi, rfl, m, rfl⟩ := hrel
    by_cases hin : i < n
    · obtain ⟨ba, oa, rfl, k0⟩ := ha i hin
      obtain ⟨bb, ob, rfl, k1⟩ := hb i hin
      obtain ⟨z, hz⟩ : ∃ z, nth xs i = z := ⟨_, rfl⟩
      rw [hz] at k0 k1
      clear ha hb hz
      go_wp2_with fail
      go_quiet (fail)
      go_wp2
      go_roundw
      case rel => exact ⟨i + 1, by omega, by go_num, _, rfl⟩
      case measure => (simp [intOf]; try omega)
    · obtain rfl : i = n := by omega
      clear ha hb
      go_wp2
      go_ret
      exact ⟨rfl, _, rfl⟩


end Go.Proofs.YtoofalchkedciaaGreatDoor

namespace Go.Proofs.YtoofalchkedciaaGreatDoor
open Go.RowKit Go.Deep

set_option maxRecDepth 100000 in
theorem same_plan (u v : Value) (p : PlanL) (w : World) (hu : InPlan w u p) (hv : InPlan w v p) (hl : p.length ≤ 1000) (hnd : ∀ i, i < p.length → (ndOf p i).length ≤ 1000000) :
    Calls Tryz.prog 21 #[u, v] w fun e w' => e = .returned (.bool true) ∧ Only [] w w' := by
  have HU := Lib.hid hu
  have HV := Lib.hid hv
  have HND := Lib.hid hnd
  obtain ⟨a, ca, rfl, _⟩ := hu.task
  obtain ⟨b, cb, rfl, _⟩ := hv.task
  obtain ⟨n, hn⟩ : ∃ n, p.length = n := ⟨_, rfl⟩
  have HN := Lib.hid hn
  rw [hn] at HU HV hl HND ⊢
  clear hu hv hn hnd
  go_enter Tryz.func21, Tryz.ntmps21
  go_wp2_with fail
  go_loopw [5, 6] (fun vi _ wr => ∃ i : Nat, i ≤ n ∧ vi = .int .i64 (i : Int) ∧ Only [] w wr) (fun vi _ _ => n - (intOf vi).toNat)
  case atStart => exact ⟨0, Nat.zero_le _, rfl, Only.refl _ _⟩
  case round =>
    obtain ⟨wo, rfl⟩ : ∃ wo : World, wo = wr := ⟨_, rfl⟩
    obtain ⟨i, hi, rfl, ho⟩ := hrel
    by_cases hin : i < n
    · have hip : i < p.length := by rw [HN.out]; exact hin
      obtain ⟨pb, po, rfl⟩ := HU.out.any i hip
      obtain ⟨qb, qo, rfl⟩ := HV.out.any i hip
      obtain ⟨a1, a2, k0, k1, r1⟩ := (HU.out.same ho).at i hip
      obtain ⟨b1, b2, j0, j1, r2⟩ := (HV.out.same ho).at i hip
      obtain ⟨x, hx⟩ : ∃ x, wkOf p i = x := ⟨_, rfl⟩
      obtain ⟨m, hm⟩ : ∃ m, (ndOf p i).length = m := ⟨_, rfl⟩
      have HS := Lib.hid (fun q => Calls.quiet_of (same_ints _ _ (ndOf p i) (wo.drewN q) (r1.drewN q) (r2.drewN q) (HND.out i hin)))
      rw [hx] at k0 j0
      rw [hm] at k1 j1 HS
      have HO := Lib.hid ho
      clear r1 r2 hx hm hip ho
      go_wp2_with fail
      go_quiet ((go_at_call 15; exact HS.out _))
      have k0' : (wo.drewN nq).cell? ⟨pb, po + i * 2, none⟩ = some (.int .i64 x) := k0
      have j0' : (wo.drewN nq).cell? ⟨qb, qo + i * 2, none⟩ = some (.int .i64 x) := j0
      obtain ⟨w9, hw9⟩ : ∃ w9, wo.drewN nq = w9 := ⟨_, rfl⟩
      rw [hw9] at k0' j0' ⊢
      have HO9 := Lib.hid (show Only [] w w9 by rw [← hw9]; exact HO.out.drewN nq)
      clear k0 k1 j0 j1 HS hw9 HO
      go_wp2_with fail
      go_quiet (fail)
      go_wp2
      go_roundw
      case rel => exact ⟨i + 1, by omega, by go_num, HO9.out.drewN _⟩
      case measure => (simp [intOf]; try omega)
    · obtain rfl : i = n := by omega
      go_wp2
      go_ret
      exact ⟨rfl, ho⟩

end Go.Proofs.YtoofalchkedciaaGreatDoor
