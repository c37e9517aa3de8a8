/-
  Slices of texts of the call's own; a text cut at a byte.
-/
import Derived.Test.YtoofalchkedciaaDoorPushR
namespace Go.Proofs.YtoofalchkedciaaDoor
open Go.RowKit Go.Deep

theorem sliceOf_strs : SliceOf 52 9 1 16 :=
  sliceOf_parts (z := .string ⟨#[]⟩) Tryd.underlying52 (by kernel_rfl) rfl (by decide) (by decide)

/-- Texts of the call's own. -/
def OwnStrs (w : World) (base : Nat) (v : Value) (xs : List ByteArray) : Prop := w.ownsRow base 9 1 v xs.length (xs.map .string)
theorem OwnStrs.nil (w : World) (base : Nat) : OwnStrs w base (.slice none 0 0) [] := World.ownsRow_nil _ _ _ _
def strAt (xs : List ByteArray) (i : Nat) : ByteArray := xs[i]?.getD ⟨#[]⟩
theorem strs_one (xs : List ByteArray) : ∀ y ∈ xs.map Value.string, y.oneCell' = true := by
  intro y hy
  obtain ⟨s, _, rfl⟩ := List.mem_map.1 hy
  rfl
theorem OwnStrs.opt {w : World} {base : Nat} {v : Value} {xs : List ByteArray} (h : OwnStrs w base v xs) :
    ∃ a cap, v = .slice a xs.length cap ∧ xs.length ≤ cap ∧ ∀ i, i < xs.length → ∃ b, a = some ⟨b, 0, none⟩ ∧ base ≤ b ∧ w.cell? ⟨b, i, none⟩ = some (.string (strAt xs i)) := by
  have h1 := h.1
  rcases h.2 with ⟨rfl, h0⟩ | ⟨g, cap, cur, rfl, hb, hg, hc, hm, hz, hx⟩
  · exact ⟨none, 0, by rw [h0], by omega, fun i hi => by omega⟩
  · refine ⟨_, cap, rfl, hc, fun i hi => ⟨g, rfl, hb, ?_⟩⟩
    unfold World.cell?
    rw [hg]
    have h2 := congrArg (fun l => l[i]?) hx
    simp only [List.getElem?_take, List.getElem?_map] at h2
    rw [if_pos (by omega)] at h2
    have h3 : xs[i]? = some (strAt xs i) := by simp [strAt, hi]
    rw [h3] at h2
    simpa using h2

/-- A text, cut at each byte c. -/
def cutL (c : UInt8) : List UInt8 → List (List UInt8)
  | [] => [[]]
  | x :: l => if x = c then [] :: cutL c l else match cutL c l with
    | [] => [[x]]
    | p :: r => (x :: p) :: r

theorem cutL_ne (c : UInt8) (l : List UInt8) : cutL c l ≠ [] := by
  cases l with
  | nil => simp [cutL]
  | cons x l =>
    unfold cutL
    split
    · simp
    · split <;> simp
theorem cutL_no (c : UInt8) (l : List UInt8) (h : c ∉ l) : cutL c l = [l] := by
  induction l with
  | nil => rfl
  | cons x l ih =>
    have hx : x ≠ c := fun e => h (by simp [e])
    unfold cutL
    rw [if_neg hx, ih (fun hm => h (by simp [hm]))]
theorem cutL_at (c : UInt8) (p r : List UInt8) (h : c ∉ p) : cutL c (p ++ c :: r) = p :: cutL c r := by
  induction p with
  | nil => simp [cutL]
  | cons x p ih =>
    have hx : x ≠ c := fun e => h (by simp [e])
    rw [List.cons_append]
    conv => lhs; unfold cutL
    rw [if_neg hx, ih (fun hm => h (by simp [hm]))]
theorem cutL_len (c : UInt8) (l : List UInt8) : (cutL c l).length ≤ l.length + 1 := by
  induction l with
  | nil => simp [cutL]
  | cons x l ih =>
    unfold cutL
    split
    · simp; exact ih
    · split
      · simp
      · rename_i p r e
        rw [e] at ih
        simp at ih ⊢; omega

/-- The pieces as texts. -/
def cutS (c : UInt8) (s : ByteArray) : List ByteArray := (cutL c s.data.toList).map fun p => ⟨p.toArray⟩
theorem cutS_len (c : UInt8) (s : ByteArray) : (cutS c s).length = (cutL c s.data.toList).length := by simp [cutS]

end Go.Proofs.YtoofalchkedciaaDoor
