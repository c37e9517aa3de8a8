/-
  What a law's walk is told of the arguments that came in.
-/
import Derived.Test.YtoofalchkedciaaDoorBase
import Derived.Test.YtoofalchkedciaaDoorRows
import Derived.ProofKit
import Derived.OpenShut
import Derived.ShutString
import Derived.ChangeOld
namespace Go.Proofs.YtoofalchkedciaaDoor
open Go.ChangeShapes Go.WideShapes Go.ChangeAt Go.RowKit

theorem own_knob : ownKnob Tryd.prog.godebug = none := by kernel_rfl
theorem laid_out : laidOutB Tryd.prog = true := by kernel_rfl

/-- A slice of integers that came in: it is nil; or it leads to a row of 'cap' cells, the numbers 'zs' (the first 'len' are its elements), each fitting its kind. -/
def IsRow (k : IntKind) (w : World) (a : Option Addr) (len cap : Nat) (zs : List Int) : Prop :=
  (a = none ∧ len = 0 ∧ cap = 0 ∧ zs = []) ∨
  ∃ x, a = some x ∧ len ≤ cap ∧ cap ≤ maxLen ∧ zs.length = cap ∧ (∀ i, i < zs.length → w.cell? (x.add i) = some (.int k (zs.getD i 0))) ∧ ∀ n ∈ zs, (Lit.int k n).wf = true

/-- The value v is a slice that came in, with the numbers l. -/
def InInts (w : World) (v : Value) (l : List Int) : Prop :=
  (∀ n ∈ l, (Lit.int .i64 n).wf = true) ∧
  ((l = [] ∧ ∃ a cap, v = .slice a 0 cap ∧ cap ≤ maxLen ∧ (a = none → cap = 0)) ∨
   (0 < l.length ∧ ∃ b off cap, v = .slice (some ⟨b, off, none⟩) l.length cap ∧ l.length ≤ cap ∧ cap ≤ maxLen ∧ ∀ i, i < l.length → w.cell? ⟨b, off + i, none⟩ = some (.int .i64 (nth l i))))

theorem inInts_of_row {w : World} {a : Option Addr} {len cap : Nat} {zs : List Int} (h : IsRow .i64 w a len cap zs) : InInts w (.slice a len cap) (zs.take len) := by
  rcases h with ⟨rfl, rfl, rfl, rfl⟩ | ⟨x, rfl, hl, hm, hz, hc, hw⟩
  · exact ⟨by simp, .inl ⟨rfl, _, _, rfl, by unfold maxLen; omega, fun _ => rfl⟩⟩
  · have hlen : (zs.take len).length = len := by simp; omega
    refine ⟨fun n hn => hw n (List.mem_of_mem_take hn), ?_⟩
    by_cases h0 : len = 0
    · subst h0
      exact .inl ⟨by simp, _, _, rfl, hm, fun h => by cases h⟩
    · refine .inr ⟨by omega, ?_⟩
      have hs : x.spot = none := by
        have h1 := hc 0 (by omega)
        unfold World.cell? at h1
        split at h1
        · rename_i c _ _ _
          cases hsp : x.spot with
          | none => rfl
          | some y => simp [Addr.add, hsp] at h1
        · cases h1
      obtain ⟨b, off, spot⟩ := x
      obtain rfl : spot = none := hs
      refine ⟨b, off, cap, by rw [hlen], by omega, hm, fun i hi => ?_⟩
      have h1 := hc i (by omega)
      have h2 : nth (zs.take len) i = zs.getD i 0 := by
        rw [hlen] at hi
        simp [nth, hi]
      rw [h2]
      have e : ({ block := b, off := off, spot := none } : Addr).add i = ⟨b, off + i, none⟩ := by
        unfold Addr.add
        split
        · rename_i h; subst h; rfl
        · rfl
      rw [← e]
      exact h1

/-- What came in stays while nothing that was there changes. -/
theorem InInts.below {w w' : World} {v : Value} {l : List Int} (h : InInts w v l) (hb : Below w.heap.size w w') : InInts w' v l := by
  obtain ⟨h1, h2⟩ := h
  refine ⟨h1, ?_⟩
  rcases h2 with h2 | ⟨h3, b, off, cap, hv, hl, hm, hc⟩
  · exact .inl h2
  · refine .inr ⟨h3, b, off, cap, hv, hl, hm, fun i hi => ?_⟩
    rw [hb.cell (p := ⟨b, off + i, none⟩) (cell_lt (hc i hi))]
    exact hc i hi

theorem InInts.only {w w' : World} {v : Value} {l : List Int} (h : InInts w v l) (ho : Only [] w w') : InInts w' v l :=
  h.below (ho.below (Nat.le_refl _) (by simp))

end Go.Proofs.YtoofalchkedciaaDoor
