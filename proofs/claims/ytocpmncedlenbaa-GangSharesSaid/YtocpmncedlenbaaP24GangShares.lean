/-
  Slices of structs of k one-cell fields that came in.
-/
import Derived.Test.YtocpmncedlenbaaP10GangShares
import Derived.Deep.Slices
namespace Go.Proofs.Ytocpmncedlenbaa
open Go.RowKit Go.Deep Go.ChangeShapes Go.WideShapes

/-- The value v is a slice of n structs; the cells of the i-th are V i 0, .., V i (k - 1). -/
def Recs (w : World) (v : Value) (n k : Nat) (V : Nat → Nat → Value) : Prop :=
  ∃ a cap, v = .slice a n cap ∧ n ≤ cap ∧ cap ≤ maxLen ∧ (a = none → cap = 0) ∧ ∀ i, i < n → ∃ b off, a = some ⟨b, off, none⟩ ∧ ∀ j, j < k → w.cell? ⟨b, off + i * k + j, none⟩ = some (V i j)

theorem Recs.only {w w' : World} {v : Value} {n k : Nat} {V : Nat → Nat → Value} {S : List Nat} (h : Recs w v n k V) (ho : Only S w w') (hS : ∀ x ∈ own v, x ∉ S) : Recs w' v n k V := by
  obtain ⟨a, cap, rfl, h1, h2, h0, h3⟩ := h
  refine ⟨a, cap, rfl, h1, h2, h0, fun i hi => ?_⟩
  obtain ⟨b, off, rfl, c⟩ := h3 i hi
  have hb : b ∉ S := hS b (by simp [own, Value.ownBlock])
  exact ⟨b, off, rfl, fun j hj => (ho.cell (p := ⟨b, _, none⟩) (cell_lt (c j hj)) hb).trans (c j hj)⟩
theorem Recs.same {w w' : World} {v : Value} {n k : Nat} {V : Nat → Nat → Value} (h : Recs w v n k V) (ho : Only [] w w') : Recs w' v n k V := h.only ho (by simp)
theorem Recs.congr {w : World} {v : Value} {n k : Nat} {V V' : Nat → Nat → Value} (h : Recs w v n k V) (e : ∀ i j, i < n → j < k → V i j = V' i j) : Recs w v n k V' := by
  obtain ⟨a, cap, rfl, h1, h2, h0, h3⟩ := h
  refine ⟨a, cap, rfl, h1, h2, h0, fun i hi => ?_⟩
  obtain ⟨b, off, rfl, c⟩ := h3 i hi
  exact ⟨b, off, rfl, fun j hj => by rw [c j hj, e i j hi hj]⟩

/-- Their cells in a row. -/
def flatV (V : Nat → Nat → Value) (n k : Nat) : List Value := (List.range (n * k)).map fun j => V (j / k) (j % k)
theorem flatV_len (V : Nat → Nat → Value) (n k : Nat) : (flatV V n k).length = n * k := by simp [flatV]
theorem flatV_get (V : Nat → Nat → Value) (n k i j : Nat) (hi : i < n) (hj : j < k) : (flatV V n k)[i * k + j]? = some (V i j) := by
  have h1 : i * k + j < n * k := by
    have : (i + 1) * k ≤ n * k := Nat.mul_le_mul_right k (by omega)
    rw [Nat.add_mul] at this; omega
  have h2 : (i * k + j) / k = i := by rw [Nat.mul_comm, Nat.mul_add_div (by omega), Nat.div_eq_of_lt hj]; rfl
  have h3 : (i * k + j) % k = j := by rw [Nat.mul_comm, Nat.mul_add_mod, Nat.mod_eq_of_lt hj]
  unfold flatV
  rw [List.getElem?_map, List.getElem?_range h1]
  simp [h2, h3]

theorem Recs.row {w : World} {v : Value} {n k : Nat} {V : Nat → Nat → Value} (h : Recs w v n k V) (hk : 0 < k) (h1 : ∀ i j, i < n → j < k → (V i j).oneCell' = true) : RowAt w v n k (flatV V n k) := by
  obtain ⟨a, cap, rfl, k1, k2, k0, k3⟩ := h
  have hdiv : ∀ j, j < n * k → j / k < n ∧ j % k < k := fun j hj => ⟨(Nat.div_lt_iff_lt_mul hk).2 hj, Nat.mod_lt _ hk⟩
  refine ⟨flatV_len _ _ _, fun y hy => ?_, ?_⟩
  · obtain ⟨j, hj, rfl⟩ := List.mem_map.1 hy
    have hj : j < n * k := by simpa using hj
    exact h1 _ _ (hdiv j hj).1 (hdiv j hj).2
  · by_cases e : n = 0
    · subst e
      left
      refine ⟨rfl, ?_⟩
      cases a with
      | none => left; rw [k0 rfl]
      | some x => exact .inr ⟨x, cap, rfl⟩
    · obtain ⟨b, off, rfl, _⟩ := k3 0 (by omega)
      refine .inr ⟨by omega, b, off, cap, rfl, fun j y hy => ?_⟩
      have hj : j < n * k := by
        rcases Nat.lt_or_ge j (n * k) with hl | hl
        · exact hl
        · rw [List.getElem?_eq_none (by rw [flatV_len]; exact hl)] at hy; cases hy
      obtain ⟨b', off', hb, c⟩ := k3 (j / k) (hdiv j hj).1
      injection hb with hb
      injection hb with e1 e2
      subst e1 e2
      have := c (j % k) (hdiv j hj).2
      rw [show off + j / k * k + j % k = off + j by have := Nat.div_add_mod j k; rw [Nat.mul_comm] at this; omega] at this
      rw [this]
      unfold flatV at hy
      rw [List.getElem?_map, List.getElem?_range hj] at hy
      simpa using hy

set_option maxRecDepth 100000 in
/-- A slice of such structs that came in. -/
theorem open_recs {H : Type} {enc : TypeId × Value → H} {W : World} {base : Nat} {t e : TypeId} {fs : Array Field} {k : Nat} {v : Value} {d : DataW H} {p : List MemPlace}
    (ht : Try.prog.underlying t = some (.slice e)) (he : Try.prog.underlying e = some (.struct fs)) (hk : fs.size = k) (k0 : 0 < k)
    (ce : Try.prog.cellsOf e = k) (hf : ∀ (j : Nat) (f : Field), fs[j]? = some f → f.offset = j ∧ Try.prog.cellsOf f.type = 1)
    (hv : Value.okWide Try.prog W .any base t v) (h : DataW.Trod enc Try.prog W 0 (fun _ => true) true t v d p) :
    ∃ (n : Nat) (V : Nat → Nat → Value), Recs W v n k V ∧ ∀ i, i < n → ∀ (j : Nat) (f : Field), fs[j]? = some f → ∃ (m : Nat) (x : DataW H × List MemPlace), DataW.trod enc Try.prog W 0 (fun _ => true) true m f.type [V i j] = some x := by
  obtain ⟨s, len, cap, rfl⟩ := okWide_slice ht hv
  obtain ⟨fuel, hfu⟩ := h
  rcases open_slice ht hfu with ⟨hcs, _⟩ | ⟨a, len', cap', m, n, D, Pl, hcs, _, hl, hm, hmm, _, hi⟩
  · simp [Value.cells] at hcs
    obtain ⟨rfl, rfl, rfl⟩ := hcs
    exact ⟨0, fun _ _ => .nilIface, ⟨none, 0, rfl, Nat.le_refl _, Nat.zero_le _, fun _ => rfl, fun i hi => by omega⟩, fun i hi => by omega⟩
  · simp [Value.cells] at hcs
    obtain ⟨rfl, rfl, rfl⟩ := hcs
    have hlm : len ≤ m := by rw [hmm]; simp; omega
    rw [ce] at hi
    have each : ∀ i, i < len → ∃ cs' : List Value, cs'.length = k ∧ (∀ j, j < k → W.cell? ((a.add (i * k)).add j) = cs'[j]?) ∧ ∀ (j : Nat) (f : Field), fs[j]? = some f → ∃ (m : Nat) (x : DataW H × List MemPlace), DataW.trod enc Try.prog W 0 (fun _ => true) true m f.type [cs'[j]?.getD undef] = some x := by
      intro i hil
      obtain ⟨cs', g1, g2⟩ := hi i (by omega)
      obtain ⟨_, g3, g4⟩ := World.cells?_some g1
      refine ⟨cs', g3, g4, fun j f hjf => ?_⟩
      obtain ⟨xs, q, _, _, _, hxl, hff⟩ := DataW.trod_struct he g2
      have h5 := hff j f hjf
      obtain ⟨o1, o2⟩ := hf j f hjf
      have hj : j < fs.size := by
        rcases Nat.lt_or_ge j fs.size with h | h
        · exact h
        · rw [Array.getElem?_eq_none h] at hjf; cases hjf
      rw [o1, o2, List.getElem?_eq_getElem (by omega)] at h5
      have e1 : (cs'.drop j).take 1 = [cs'[j]?.getD undef] := by
        have hjc : j < cs'.length := by omega
        rw [List.getElem?_eq_getElem hjc, List.drop_eq_getElem_cons hjc]
        rfl
      rw [e1] at h5
      exact ⟨_, _, h5⟩
    obtain ⟨C, hC⟩ := choose_lt each
    refine ⟨len, fun i j => (C i)[j]?.getD undef, ⟨_, _, rfl, hl, hm, (fun h => by cases h), fun i hil => ?_⟩, fun i hil j f hjf => (hC i hil).2.2 j f hjf⟩
    obtain ⟨g3, g4, _⟩ := hC 0 (by omega)
    have g5 := g4 0 k0
    rw [List.getElem?_eq_getElem (by omega), Nat.zero_mul, add_add] at g5
    have hs := spot_none (x := a) g5
    obtain ⟨b, off, spot⟩ := a
    obtain rfl : spot = none := hs
    refine ⟨b, off, rfl, fun j hj => ?_⟩
    obtain ⟨g3, g4, _⟩ := hC i hil
    have := g4 j hj
    rw [add_flat, add_flat] at this
    rw [this]
    show (C i)[j]? = some ((C i)[j]?.getD undef)
    cases h : (C i)[j]? with
    | some x => rfl
    | none => exact absurd (List.getElem?_eq_none_iff.1 h) (by omega)

/-- A field of a struct type of k one-cell fields, all read off by one test. -/
theorem fields_ok {fs : Array Field} (h : ((List.range fs.size).all fun j => match fs[j]? with | some f => decide (f.offset = j) && decide (Try.prog.cellsOf f.type = 1) | none => true) = true) :
    ∀ (j : Nat) (f : Field), fs[j]? = some f → f.offset = j ∧ Try.prog.cellsOf f.type = 1 := by
  intro j f hf
  have hj : j < fs.size := by
    rcases Nat.lt_or_ge j fs.size with h | h
    · exact h
    · rw [Array.getElem?_eq_none h] at hf; cases hf
  have := (List.all_eq_true.1 h) j (by simpa using hj)
  rw [hf] at this
  simpa using this

end Go.Proofs.Ytocpmncedlenbaa
