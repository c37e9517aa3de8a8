/-
  The first place of a list at which a test says yes.
  Contracts of slices.IndexFunc and slices.ContainsFunc at []int for whatever function literal, with whatever it captures.
-/
import Derived.Test.YtoofalchkedciaaGreatDoorP5PlanTells
namespace Go.Proofs.YtoofalchkedciaaGreatDoor

/-- The first place; -1, if there is none. -/
def firstIdx (P : Int → Bool) : List Int → Int
  | [] => -1
  | x :: l => if P x then 0 else if firstIdx P l < 0 then -1 else firstIdx P l + 1

theorem firstIdx_ge (P : Int → Bool) (l : List Int) : -1 ≤ firstIdx P l := by
  induction l with
  | nil => exact Int.le_refl _
  | cons x l ih =>
    unfold firstIdx
    split
    · omega
    · split <;> omega

theorem firstIdx_any (P : Int → Bool) (l : List Int) : decide (0 ≤ firstIdx P l) = l.any P := by
  induction l with
  | nil => rfl
  | cons x l ih =>
    unfold firstIdx
    rw [List.any_cons]
    cases hx : P x
    · rw [if_neg (by simp), Bool.false_or, ← ih]
      have := firstIdx_ge P l
      split
      · simp; omega
      · simp; omega
    · simp

theorem firstIdx_none (P : Int → Bool) (l : List Int) (h : ∀ j, j < l.length → P (nth l j) = false) : firstIdx P l = -1 := by
  have ha := firstIdx_any P l
  have hf : l.any P = false := by
    rw [List.any_eq_false]
    intro x hx
    obtain ⟨j, hj, rfl⟩ := List.getElem_of_mem hx
    have := h j hj
    simpa [nth, hj] using this
  rw [hf] at ha
  have := firstIdx_ge P l
  simp at ha
  omega

theorem firstIdx_at (P : Int → Bool) (l : List Int) (i : Nat) (hi : i < l.length) (h : ∀ j, j < i → P (nth l j) = false) (hp : P (nth l i) = true) : firstIdx P l = i := by
  induction l generalizing i with
  | nil => simp at hi
  | cons x l ih =>
    unfold firstIdx
    rcases i with _ | i
    · have : P x = true := by simpa [nth] using hp
      simp [this]
    · have h0 : P x = false := by simpa [nth] using h 0 (by omega)
      have := ih i (by simpa using hi) (fun j hj => by simpa [nth] using h (j + 1) (by omega)) (by simpa [nth] using hp)
      rw [if_neg (by simp [h0]), this, if_neg (by omega)]
      rfl

end Go.Proofs.YtoofalchkedciaaGreatDoor

namespace Go.Proofs.YtoofalchkedciaaGreatDoor
open Go.RowKit

/-- A call of F enters it. -/
def Entered (F : FuncId) : Prop := ∀ args w, Sem.run Tryz.prog (callFunc F args) w = .ok (.enter F args) w

set_option maxHeartbeats 1000000 in
set_option maxRecDepth 100000 in
theorem fn_index (F : FuncId) (hcf : Entered F) (caps : Array Value) (v : Value) (l : List Int) (w : World) (P : Int → Bool) (h : Reads w v l) (hl : l.length ≤ 9223372036854775807)
    (hc : ∀ x, x ∈ l → ∀ n, Calls Tryz.prog F (#[.int .i64 x] ++ caps) (w.drewN n) fun e w' => e = .returned (.bool (P x)) ∧ ∃ m, w' = w.drewN m) :
    Calls Tryz.prog 147 #[v, .func (.func F) #[] caps] w fun e w' => e = .returned (.int .i64 (firstIdx P l)) ∧ ∃ m, w' = w.drewN m := by
  obtain ⟨a, c, rfl, ha⟩ := h.opt
  obtain ⟨n, hn⟩ : ∃ n, l.length = n := ⟨_, rfl⟩
  have HN := Lib.hid hn
  have HC := Lib.hid hc
  rw [hn] at ha hl ⊢
  clear h hn hc
  go_enter Tryz.func147, Tryz.ntmps147
  go_wp2_with fail
  go_loopw [8] (fun vi wr => ∃ i : Nat, i ≤ n ∧ vi = .int .i64 i ∧ (∀ j, j < i → P (nth l j) = false) ∧ ∃ m, wr = w.drewN m) (fun vi _ => n - (intOf vi).toNat)
  case atStart => exact ⟨0, Nat.zero_le _, rfl, fun j hj => by omega, 0, rfl⟩
  case round =>
    obtain ⟨i, hi, rfl, hno, m, rfl⟩ := hrel
    have HNO := Lib.hid hno
    clear hno
    by_cases hin : i < n
    · obtain ⟨ba, oa, rfl, k0⟩ := ha i hin
      have hcl := HC.out (nth l i) (by simp [nth, HN.out, hin]) m
      obtain ⟨z, hz⟩ : ∃ z, nth l i = z := ⟨_, rfl⟩
      have HZ := Lib.hid hz
      rw [hz] at k0 hcl
      obtain ⟨pz, hpz⟩ : ∃ p, P z = p := ⟨_, rfl⟩
      have HPZ := Lib.hid hpz
      rw [hpz] at hcl
      clear ha hz hpz
      go_wp2_with fail
      rw [hcf, Oper.upon_enter]
      refine hcl.mono ?_
      rintro e w9 ⟨rfl, m9, rfl⟩
      clear hcl
      cases pz
      · go_wp2
        go_roundw
        case rel =>
          refine ⟨i + 1, by omega, by go_num, fun j hj => ?_, _, rfl⟩
          by_cases e : j = i
          · subst e; rw [HZ.out]; exact HPZ.out
          · exact HNO.out j (by omega)
        case measure => (simp [intOf]; try omega)
      · have hf := Lib.hid (firstIdx_at P l i (by rw [HN.out]; exact hin) HNO.out (by rw [HZ.out]; exact HPZ.out))
        go_wp2
        go_ret
        exact ⟨by rw [hf.out]; rfl, _, rfl⟩
    · obtain rfl : i = n := by omega
      have hf := Lib.hid (firstIdx_none P l (fun j hj => HNO.out j (by rw [HN.out] at hj; exact hj)))
      clear ha
      go_wp2
      go_ret
      exact ⟨by rw [hf.out]; rfl, _, rfl⟩

set_option maxRecDepth 100000 in
theorem fn_contains (F : FuncId) (hcf : Entered F) (caps : Array Value) (v : Value) (l : List Int) (w : World) (P : Int → Bool) (h : Reads w v l) (hl : l.length ≤ 9223372036854775807)
    (hc : ∀ x, x ∈ l → ∀ n, Calls Tryz.prog F (#[.int .i64 x] ++ caps) (w.drewN n) fun e w' => e = .returned (.bool (P x)) ∧ ∃ m, w' = w.drewN m) (r : Bool) (hr : l.any P = r) :
    Calls Tryz.prog 99 #[v, .func (.func F) #[] caps] w fun e w' => e = .returned (.bool r) ∧ ∃ m, w' = w.drewN m := by
  have HR := Lib.hid hr
  have hi := fn_index F hcf caps v l w P h hl hc
  have hs := firstIdx_any P l
  rw [hr] at hs
  obtain ⟨z, hz⟩ : ∃ z, firstIdx P l = z := ⟨_, rfl⟩
  rw [hz] at hi hs
  clear hr hc hz
  go_enter Tryz.func99, Tryz.ntmps99
  go_wp2_with fail
  refine hi.mono ?_
  rintro e w1 ⟨rfl, m, rfl⟩
  clear hi
  go_wp2
  go_ret
  exact ⟨by simp, _, rfl⟩

end Go.Proofs.YtoofalchkedciaaGreatDoor
