/-
  Slices of slices of ints that came in.
-/
import Derived.Test.YtadjcooemeaaeaaDoorRecs
import Derived.Deep.Matrix
namespace Go.Proofs.YtadjcooemeaaeaaDoor
open Go.RowKit Go.Deep Go.ChangeShapes Go.WideShapes

def InRows (w : World) (v : Value) (ls : List (List Int)) : Prop :=
  ∃ V : Nat → Value, (∃ a cap, v = .slice a ls.length cap ∧ ls.length ≤ cap ∧ cap ≤ maxLen ∧ ∀ i, i < ls.length → ∃ b off, a = some ⟨b, off, none⟩ ∧ w.cell? ⟨b, off + i, none⟩ = some (V i)) ∧
    ∀ i, i < ls.length → InInts w (V i) (ls[i]?.getD [])

theorem InRows.only {w w' : World} {v : Value} {ls : List (List Int)} (h : InRows w v ls) (ho : Only [] w w') : InRows w' v ls := by
  obtain ⟨V, ⟨a, cap, rfl, h1, h2, h3⟩, h4⟩ := h
  refine ⟨V, ⟨a, cap, rfl, h1, h2, fun i hi => ?_⟩, fun i hi => (h4 i hi).only ho⟩
  obtain ⟨b, off, rfl, hc⟩ := h3 i hi
  exact ⟨b, off, rfl, (ho.cell (p := ⟨b, _, none⟩) (cell_lt hc) (by simp)).trans hc⟩

set_option maxRecDepth 100000 in
theorem open_rows {H : Type} {enc : TypeId × Value → H} {W : World} {base : Nat} {v : Value} {d : DataW H} {p : List MemPlace}
    (hv : Value.okWide Tryd.prog W .any base 22 v) (h : DataW.Trod enc Tryd.prog W 0 (fun _ => true) true 22 v d p) : ∃ l, InRows W v l := by
  obtain ⟨s, len, cap, rfl⟩ := okWide_slice Tryd.underlying22 hv
  obtain ⟨fuel, hf⟩ := h
  rcases open_int_rows Tryd.underlying22 Tryd.underlying30 Tryd.underlying3 (by kernel_rfl) (by kernel_rfl) hf with ⟨hcs, _⟩ | ⟨a, len', cap', A, L, C, Z, hcs, _, hl, hm, _, hr⟩
  · simp [Value.cells] at hcs
    obtain ⟨rfl, rfl, rfl⟩ := hcs
    exact ⟨[], fun _ => .nilIface, ⟨none, 0, rfl, Nat.le_refl _, Nat.zero_le _, fun i hi => by simp at hi⟩, fun i hi => by simp at hi⟩
  · simp [Value.cells] at hcs
    obtain ⟨rfl, rfl, rfl⟩ := hcs
    refine ⟨(List.range len).map (fun r => (Z r).take (L r)), fun r => .slice (A r) (L r) (C r), ⟨some a, cap, by simp, by simpa using hl, hm, fun i hi => ?_⟩, fun i hi => ?_⟩
    · simp at hi
      obtain ⟨k0, _⟩ := hr 0 (by omega)
      have hs := spot_none (x := a) k0
      obtain ⟨b, off, spot⟩ := a
      obtain rfl : spot = none := hs
      have := (hr i (by omega)).1
      rw [add_flat] at this
      exact ⟨b, off, rfl, this⟩
    · simp at hi
      obtain ⟨_, k1, k2, k3, k4, k5, k6⟩ := hr i (by omega)
      rw [show ((List.range len).map (fun r => (Z r).take (L r)))[i]?.getD [] = (Z i).take (L i) by simp [hi]]
      apply inInts_of_row
      cases hA : A i with
      | none =>
        have h0 := k5 hA
        exact .inl ⟨rfl, by omega, h0, List.eq_nil_of_length_eq_zero (by omega)⟩
      | some x => exact .inr ⟨x, rfl, k1, k2, k3, fun c hc => (k6 x hA).2 c (by omega), k4⟩

end Go.Proofs.YtadjcooemeaaeaaDoor
