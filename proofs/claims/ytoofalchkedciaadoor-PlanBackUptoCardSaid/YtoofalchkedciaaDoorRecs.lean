/-
  Slices of structs: addresses, pairs that came in.
-/
import Derived.Test.YtoofalchkedciaaDoorMore
import Derived.Deep.SlicePairs
namespace Go.Proofs.YtoofalchkedciaaDoor
open Go.RowKit Go.Deep Go.ChangeShapes Go.WideShapes

theorem spot_none {w : World} {x : Addr} {v : Value} (h : w.cell? (x.add 0) = some v) : x.spot = none := by
  unfold World.cell? at h
  split at h
  · cases hsp : x.spot with
    | none => rfl
    | some y => simp [Addr.add, hsp] at h
  · cases h

theorem add_flat (b off n : Nat) : ({ block := b, off := off, spot := none } : Addr).add n = ⟨b, off + n, none⟩ := by
  unfold Addr.add
  split
  · rename_i h; subst h; rfl
  · rfl

/-- The value v is a slice of n pairs; the cells of the i-th are A i, B i. -/
def Pairs (w : World) (v : Value) (n : Nat) (A B : Nat → Value) : Prop :=
  ∃ a cap, v = .slice a n cap ∧ n ≤ cap ∧ cap ≤ maxLen ∧ (a = none → cap = 0) ∧ ∀ i, i < n → ∃ b off, a = some ⟨b, off, none⟩ ∧
    w.cell? ⟨b, off + i * 2, none⟩ = some (A i) ∧ w.cell? ⟨b, off + i * 2 + 1, none⟩ = some (B i)

theorem Pairs.only {w w' : World} {v : Value} {n : Nat} {A B : Nat → Value} {S : List Nat} (h : Pairs w v n A B) (ho : Only S w w') (hS : ∀ x ∈ own v, x ∉ S) : Pairs w' v n A B := by
  obtain ⟨a, cap, rfl, h1, h2, h0, h3⟩ := h
  refine ⟨a, cap, rfl, h1, h2, h0, fun i hi => ?_⟩
  obtain ⟨b, off, rfl, c0, c1⟩ := h3 i hi
  have hb : b ∉ S := hS b (by simp [own, Value.ownBlock])
  exact ⟨b, off, rfl, (ho.cell (p := ⟨b, _, none⟩) (cell_lt c0) hb).trans c0, (ho.cell (p := ⟨b, _, none⟩) (cell_lt c1) hb).trans c1⟩

theorem Pairs.same {w w' : World} {v : Value} {n : Nat} {A B : Nat → Value} (h : Pairs w v n A B) (ho : Only [] w w') : Pairs w' v n A B := h.only ho (by simp)

set_option maxRecDepth 100000 in
/-- A slice of pairs that came in. -/
theorem open_pairs {H : Type} {enc : TypeId × Value → H} {W : World} {base : Nat} {t e : TypeId} {f0 f1 : Field} {v : Value} {d : DataW H} {p : List MemPlace}
    (ht : Tryd.prog.underlying t = some (.slice e)) (he : Tryd.prog.underlying e = some (.struct #[f0, f1]))
    (ce : Tryd.prog.cellsOf e = 2) (o0 : f0.offset = 0) (o1 : f1.offset = 1) (c0 : Tryd.prog.cellsOf f0.type = 1) (c1 : Tryd.prog.cellsOf f1.type = 1)
    (hv : Value.okWide Tryd.prog W .any base t v) (h : DataW.Trod enc Tryd.prog W 0 (fun _ => true) true t v d p) :
    ∃ (n : Nat) (A B : Nat → Value), Pairs W v n A B ∧ ∀ i, i < n → ∃ (k : Nat) (x y : DataW H × List MemPlace),
      DataW.trod enc Tryd.prog W 0 (fun _ => true) true k f0.type [A i] = some x ∧ DataW.trod enc Tryd.prog W 0 (fun _ => true) true k f1.type [B i] = some y := by
  obtain ⟨s, len, cap, rfl⟩ := okWide_slice ht hv
  obtain ⟨fuel, hf⟩ := h
  rcases open_slice_pairs ht he ce o0 o1 c0 c1 hf with ⟨hcs, _⟩ | ⟨a, len', cap', m, n, V0, V1, D0, D1, P0, P1, hcs, _, hl, hm, hmm, _, hi⟩
  · simp [Value.cells] at hcs
    obtain ⟨rfl, rfl, rfl⟩ := hcs
    exact ⟨0, fun _ => .nilIface, fun _ => .nilIface, ⟨none, 0, rfl, Nat.le_refl _, Nat.zero_le _, fun _ => rfl, fun i hi => by omega⟩, fun i hi => by omega⟩
  · simp [Value.cells] at hcs
    obtain ⟨rfl, rfl, rfl⟩ := hcs
    have hlm : len ≤ m := by rw [hmm]; simp; omega
    refine ⟨len, V0, V1, ⟨_, _, rfl, hl, hm, (fun h => by cases h), fun i hi' => ?_⟩, fun i hi' => ?_⟩
    · obtain ⟨k0, _, _, _⟩ := hi 0 (by omega)
      have hs := spot_none (x := a) (by simpa using k0)
      obtain ⟨b, off, spot⟩ := a
      obtain rfl : spot = none := hs
      obtain ⟨k0, k1, _, _⟩ := hi i (by omega)
      rw [add_flat] at k0 k1
      exact ⟨b, off, rfl, k0, by rw [Nat.add_assoc]; exact k1⟩
    · obtain ⟨_, _, k2, k3⟩ := hi i (by omega)
      exact ⟨n, _, _, k2, k3⟩

end Go.Proofs.YtoofalchkedciaaDoor
