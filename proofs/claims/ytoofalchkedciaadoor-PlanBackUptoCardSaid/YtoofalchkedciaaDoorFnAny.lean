/-
  Contracts of slices.IndexFunc and slices.ContainsFunc at []int for whatever function literal, with whatever it captures.
-/
import Derived.Test.YtoofalchkedciaaDoorFnBase
namespace Go.Proofs.YtoofalchkedciaaDoor
open Go.RowKit

/-- A call of F enters it. -/
def Entered (F : FuncId) : Prop := ∀ args w, Sem.run Tryd.prog (callFunc F args) w = .ok (.enter F args) w

set_option maxHeartbeats 1000000 in
set_option maxRecDepth 100000 in
theorem fn_index (F : FuncId) (hcf : Entered F) (caps : Array Value) (v : Value) (l : List Int) (w : World) (P : Int → Bool) (h : Reads w v l) (hl : l.length ≤ 9223372036854775807)
    (hc : ∀ x, x ∈ l → ∀ n, Calls Tryd.prog F (#[.int .i64 x] ++ caps) (w.drewN n) fun e w' => e = .returned (.bool (P x)) ∧ ∃ m, w' = w.drewN m) :
    Calls Tryd.prog 60 #[v, .func (.func F) #[] caps] w fun e w' => e = .returned (.int .i64 (firstIdx P l)) ∧ ∃ m, w' = w.drewN m := by
  obtain ⟨a, c, rfl, ha⟩ := h.opt
  obtain ⟨n, hn⟩ : ∃ n, l.length = n := ⟨_, rfl⟩
  have HN := Lib.hid hn
  have HC := Lib.hid hc
  rw [hn] at ha hl ⊢
  clear h hn hc
  go_enter Tryd.func60, Tryd.ntmps60
  go_wp2_with fail
  go_loopw [8] (fun vi wr => ∃ i : Nat, i ≤ n ∧ vi = .int .i64 i ∧ (∀ j, j < i → P (nth l j) = false) ∧ ∃ m, wr = w.drewN m) (fun vi _ => n - (intOf vi).toNat)
  case atStart => exact ⟨0, Nat.zero_le _, rfl, fun j hj => by omega, 0, rfl⟩
  case round =>
    obtain ⟨i, hi, rfl, hno, m, rfl⟩ := hrel
    have HNO := Lib.hid hno
    clear hno
    by_cases hin : i < n
    · obtain ⟨ba, oa, rfl, k0⟩ := ha i hin
      have hcl := HC.out (nth l i) (by simp [nth, HN.out, hin]) m
      obtain ⟨z, hz⟩ : ∃ z, nth l i = z := ⟨_, rfl⟩
      have HZ := Lib.hid hz
      rw [hz] at k0 hcl
      obtain ⟨pz, hpz⟩ : ∃ p, P z = p := ⟨_, rfl⟩
      have HPZ := Lib.hid hpz
      rw [hpz] at hcl
      clear ha hz hpz
      go_wp2_with fail
      rw [hcf, Oper.upon_enter]
      refine hcl.mono ?_
      rintro e w9 ⟨rfl, m9, rfl⟩
      clear hcl
      cases pz
      · go_wp2
        go_roundw
        case rel =>
          refine ⟨i + 1, by omega, by go_num, fun j hj => ?_, _, rfl⟩
          by_cases e : j = i
          · subst e; rw [HZ.out]; exact HPZ.out
          · exact HNO.out j (by omega)
        case measure => (simp [intOf]; try omega)
      · have hf := Lib.hid (firstIdx_at P l i (by rw [HN.out]; exact hin) HNO.out (by rw [HZ.out]; exact HPZ.out))
        go_wp2
        go_ret
        exact ⟨by rw [hf.out]; rfl, _, rfl⟩
    · obtain rfl : i = n := by omega
      have hf := Lib.hid (firstIdx_none P l (fun j hj => HNO.out j (by rw [HN.out] at hj; exact hj)))
      clear ha
      go_wp2
      go_ret
      exact ⟨by rw [hf.out]; rfl, _, rfl⟩

set_option maxRecDepth 100000 in
theorem fn_contains (F : FuncId) (hcf : Entered F) (caps : Array Value) (v : Value) (l : List Int) (w : World) (P : Int → Bool) (h : Reads w v l) (hl : l.length ≤ 9223372036854775807)
    (hc : ∀ x, x ∈ l → ∀ n, Calls Tryd.prog F (#[.int .i64 x] ++ caps) (w.drewN n) fun e w' => e = .returned (.bool (P x)) ∧ ∃ m, w' = w.drewN m) (r : Bool) (hr : l.any P = r) :
    Calls Tryd.prog 42 #[v, .func (.func F) #[] caps] w fun e w' => e = .returned (.bool r) ∧ ∃ m, w' = w.drewN m := by
  have HR := Lib.hid hr
  have hi := fn_index F hcf caps v l w P h hl hc
  have hs := firstIdx_any P l
  rw [hr] at hs
  obtain ⟨z, hz⟩ : ∃ z, firstIdx P l = z := ⟨_, rfl⟩
  rw [hz] at hi hs
  clear hr hc hz
  go_enter Tryd.func42, Tryd.ntmps42
  go_wp2_with fail
  refine hi.mono ?_
  rintro e w1 ⟨rfl, m, rfl⟩
  clear hi
  go_wp2
  go_ret
  exact ⟨by simp, _, rfl⟩

end Go.Proofs.YtoofalchkedciaaDoor
