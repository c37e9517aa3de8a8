/-
  Contracts of package weave: the reader.
-/
import Derived.Test.YtocpmncedlenbaaDoorP17WeaveTells
import Derived.Test.YtocpmncedlenbaaDoorP9WeaveTells
namespace Go.Proofs.YtocpmncedlenbaaDoor
open Go.RowKit Go.Deep

/-- The bytes that are left from a place on. -/
def rest (s : ByteArray) (k : Nat) : List UInt8 := s.data.toList.drop k

theorem p_suf : ∀ f : Nat, (∀ s a r, pOne f s = some (a, r) → r <:+ s) ∧ (∀ s a r, pBehind f s = some (a, r) → r <:+ s) ∧
    (∀ b s a r, pSemi f b s = some (a, r) → r <:+ s) ∧ (∀ s a r, pBeside f s = some (a, r) → r <:+ s) ∧ (∀ b s a r, pBar f b s = some (a, r) → r <:+ s) := by
  intro f
  induction f with
  | zero => exact ⟨by simp [pOne], by simp [pBehind], by simp [pSemi], by simp [pBeside], by simp [pBar]⟩
  | succ f ih =>
    obtain ⟨i1, i2, i3, i4, i5⟩ := ih
    refine ⟨?_, ?_, ?_, ?_, ?_⟩
    · intro s a r h
      unfold pOne at h
      split at h
      · obtain ⟨x, h1, h2⟩ := bind_some h
        split at h2
        · injection h2 with h2
          injection h2 with _ h2
          rw [← h2]
          exact ((List.tail_suffix _).trans (i4 _ _ _ h1)).trans (List.tail_suffix _)
        · cases h2
      · unfold pNum at h
        split at h
        · cases h
        · injection h with h
          injection h with _ h
          rw [← h]
          exact List.dropWhile_suffix _
    · intro s a r h
      unfold pBehind at h
      obtain ⟨x, h1, h2⟩ := bind_some h
      exact (i3 _ _ _ _ h2).trans (i1 _ _ _ h1)
    · intro b s a r h
      unfold pSemi at h
      split at h
      · obtain ⟨x, h1, h2⟩ := bind_some h
        exact ((i3 _ _ _ _ h2).trans (i1 _ _ _ h1)).trans (List.tail_suffix _)
      · injection h with h
        injection h with _ h
        rw [h]; exact List.suffix_refl _
    · intro s a r h
      unfold pBeside at h
      obtain ⟨x, h1, h2⟩ := bind_some h
      exact (i5 _ _ _ _ h2).trans (i2 _ _ _ h1)
    · intro b s a r h
      unfold pBar at h
      split at h
      · obtain ⟨x, h1, h2⟩ := bind_some h
        exact ((i5 _ _ _ _ h2).trans (i2 _ _ _ h1)).trans (List.tail_suffix _)
      · injection h with h
        injection h with _ h
        rw [h]; exact List.suffix_refl _

theorem rest_end (s : ByteArray) (k : Nat) (h : s.size ≤ k) : rest s k = [] := by
  unfold rest
  exact List.drop_eq_nil_of_le (by rw [Array.length_toList]; exact h)
theorem rest_cons (s : ByteArray) (k : Nat) (h : k < s.size) : rest s k = s[k] :: rest s (k + 1) := by
  unfold rest
  have hl : k < s.data.toList.length := by rw [Array.length_toList]; exact h
  rw [List.drop_eq_getElem_cons hl]
  rfl
theorem rest_tail (s : ByteArray) (k : Nat) : (rest s k).tail = rest s (k + 1) := by
  unfold rest
  rw [List.tail_drop]
theorem rest_len (s : ByteArray) (k : Nat) : (rest s k).length = s.size - k := by
  unfold rest
  rw [List.length_drop, Array.length_toList]; rfl
theorem rest_suf (s : ByteArray) (k : Nat) (r : List UInt8) (h : r <:+ rest s k) : rest s (s.size - r.length) = r := by
  have h2 : r <:+ s.data.toList := h.trans (List.drop_suffix _ _)
  have h3 : s.data.toList.length = s.size := Array.length_toList
  unfold rest
  rw [← h3]
  exact (List.suffix_iff_eq_drop.1 h2).symm
theorem isC_rest (s : ByteArray) (k : Nat) (c : UInt8) (h : k < s.size) : isC c (rest s k) = ((s[k].toNat : Int) == (c.toNat : Int)) := by
  rw [rest_cons s k h]
  unfold isC
  rw [Bool.eq_iff_iff]
  simp only [List.head?_cons, beq_iff_eq, Option.some.injEq]
  constructor
  · intro e; rw [e]
  · intro e; exact UInt8.toNat_inj.1 (by omega)

set_option maxRecDepth 100000 in
theorem weave_is (R : Nat) (s : ByteArray) (k : Nat) (pv : Value) (c : UInt8) (cz : Int) (hcz : cz = (c.toNat : Int)) (w : World) (h : Cells w R [.string s, .int .i64 k, pv]) (b : Bool) (hb : isC c (rest s k) = b) :
    Calls Tryd.prog 49 #[.pointer (some ⟨R, 0, none⟩), .int .u8 cz] w fun e w' => e = .returned (.bool b) ∧ ∃ n, w' = w.drewN n := by
  have c0 := h.cell 0 _ rfl
  have c1 := h.cell 1 _ rfl
  clear h
  by_cases hlt : k < s.size
  · rw [isC_rest s k c hlt, ← hcz] at hb
    clear hcz
    have hd : decide (k < s.size) = true := by simpa using hlt
    go_enter Tryd.func49, Tryd.ntmps49
    go_wp2_with fail
    go_quiet (fail)
    go_wp2
    go_ret
    exact ⟨rfl, nq, rfl⟩
  · rw [rest_end s k (by omega)] at hb
    have hb : b = false := hb.symm
    subst hb
    have hd : decide (k < s.size) = false := by simpa using hlt
    go_enter Tryd.func49, Tryd.ntmps49
    go_wp2_with fail
    go_quiet (fail)
    go_wp2
    go_ret
    exact ⟨rfl, nq, rfl⟩

end Go.Proofs.YtocpmncedlenbaaDoor
