/-
  A map of ints to bools that the call made: which numbers were seen.
-/
import Derived.Test.YtbpkndflkbcmaaaMapOf
import Derived.Test.YtbpkndflkbcmaaaPlanR
namespace Go.Proofs.Ytbpkndflkbcmaaa
open Go.RowKit Go.Maps

theorem key_int : Keyed Try.prog 3 := int_keyed Try.underlying3
theorem keyOf_int (k : Int) (h1 : -9223372036854775808 ≤ k) (h2 : k ≤ 9223372036854775807) : keyOf Try.prog 3 (.int .i64 k) = some (.int .i64 k) :=
  keyOf_int_mk Try.underlying3 (WalkArith.wf_i64 ⟨h1, h2⟩)
theorem zero_bool (w : World) : (zeroValue 4).run Try.prog w = .ok (.bool false) w := by kernel_rfl

/-- What a map of what was seen holds. -/
def seenF (s : Nat → Bool) : Value → Option Value
  | .int .i64 k => if 0 ≤ k ∧ s k.toNat = true then some (.bool true) else none
  | _ => none

def SeenMap (w : World) (b : Nat) (s : Nat → Bool) : Prop := ∃ n, MapOf w Try.prog 3 b n (seenF s)

theorem SeenMap.lt {w : World} {b : Nat} {s : Nat → Bool} (h : SeenMap w b s) : b < w.heap.size := by obtain ⟨n, h⟩ := h; exact h.lt
theorem SeenMap.only {w w' : World} {b : Nat} {s : Nat → Bool} {S : List Nat} (h : SeenMap w b s) (ho : Only S w w') (hb : b ∉ S) : SeenMap w' b s := by obtain ⟨n, h⟩ := h; exact ⟨n, h.only ho hb⟩
theorem SeenMap.made (w : World) : SeenMap (w.alloc (.map #[] 0)) w.heap.size (fun _ => false) := ⟨0, (MapOf.made w _ _).congr fun x => by
  unfold seenF
  split
  · simp
  · rfl⟩

theorem SeenMap.look {w : World} {b : Nat} {s : Nat → Bool} (h : SeenMap w b s) (k : Nat) (hk : k ≤ 1000000) : (Instr.lookup 104 (.map (some b)) (.int .i64 (k : Int)) false).run Try.prog w = .ok (.bool (s k)) w := by
  obtain ⟨n, h⟩ := h
  have := h.look false key_int Try.underlying104 (zero_bool w) (keyOf_int k (by omega) (by omega))
  rw [this]
  have e : (seenF s (.int .i64 (k : Int))).getD (.bool false) = .bool (s k) := by
    unfold seenF
    simp only [Int.toNat_natCast]
    by_cases hs : s k = true
    · simp [hs]
    · simp at hs; simp [hs]
  rw [e]
  rfl

theorem SeenMap.put {w : World} {b : Nat} {s : Nat → Bool} (h : SeenMap w b s) (k : Nat) (hk : k ≤ 1000000) :
    ∃ w', (Instr.mapUpdate 104 (.map (some b)) (.int .i64 (k : Int)) (.bool true)).run Try.prog w = .ok () w' ∧ SeenMap w' b (upB s k) ∧ Only [b] w w' := by
  obtain ⟨n, h⟩ := h
  obtain ⟨w', h1, h2, h3⟩ := h.put key_int Try.underlying104 (keyOf_int k (by omega) (by omega)) (.bool true)
  refine ⟨w', h1, ⟨_, h2.congr fun x => ?_⟩, h3⟩
  unfold updV?
  by_cases e : x = .int .i64 (k : Int)
  · subst e
    rw [if_pos rfl]
    simp [seenF, upB]
  · rw [if_neg e]
    unfold seenF
    split
    · rename_i j
      have hj : j ≠ (k : Int) := fun h => e (by rw [h])
      by_cases h0 : 0 ≤ j
      · have : j.toNat ≠ k := by omega
        simp [upB, this]
      · simp [h0]
    · rfl

end Go.Proofs.Ytbpkndflkbcmaaa
