/-
  Slices of structs that the call itself made: appended to, read, written. k: how many cells an element has.
  Slices of structs of k one-cell fields that came in.
-/
import Derived.Test.YtoofalchkedciaaDoorP4TraceBack
import Derived.Deep.Slices
namespace Go.Proofs.YtoofalchkedciaaDoor
open Go.RowKit

/-- t is the type of slices of e; an element has k cells. -/
structure SliceOf (t e : TypeId) (k bytes : Nat) : Prop where
  under : Tryd.prog.underlying t = some (.slice e)
  info : ∃ i0 z, Tryd.prog.info? e = some i0 ∧ i0.zero = some z ∧ i0.size = k ∧ i0.bytes = bytes ∧ z.cells.size = k
  pos : 0 < k
  small : bytes ≤ 100

theorem sliceOf_parts {t e : TypeId} {k bytes : Nat} {z : Value} (h1 : Tryd.prog.underlying t = some (.slice e)) (h2 : (Tryd.prog.info? e).map (fun i => (i.zero, i.size, i.bytes)) = some (some z, k, bytes))
    (h3 : z.cells.size = k) (h4 : 0 < k) (h5 : bytes ≤ 100) : SliceOf t e k bytes := by
  obtain ⟨i0, a, b, c, d⟩ := info_parts h2
  exact ⟨h1, ⟨i0, z, a, b, c, d, h3⟩, h4, h5⟩

/-- m elements of k cells are read from the slice value u. -/
def RowAt (w : World) (u : Value) (m k : Nat) (ys : List Value) : Prop :=
  ys.length = m * k ∧ (∀ y ∈ ys, y.oneCell' = true) ∧
  ((m = 0 ∧ (u = .slice none 0 0 ∨ ∃ x cap, u = .slice (some x) 0 cap)) ∨
   (0 < m ∧ ∃ b off cap, u = .slice (some ⟨b, off, none⟩) m cap ∧ ∀ j y, ys[j]? = some y → w.cell? ⟨b, off + j, none⟩ = some y))

theorem RowAt.only {w w' : World} {u : Value} {m k : Nat} {ys : List Value} {S : List Nat} (h : RowAt w u m k ys) (ho : Only S w w') (hS : ∀ x ∈ own u, x ∉ S) : RowAt w' u m k ys := by
  obtain ⟨h1, h2, h3⟩ := h
  refine ⟨h1, h2, ?_⟩
  rcases h3 with h3 | ⟨h0, b, off, cap, rfl, hc⟩
  · exact .inl h3
  · have hb : b ∉ S := hS b (by simp [own, Value.ownBlock])
    exact .inr ⟨h0, b, off, cap, rfl, fun j y hy => (ho.cell (p := ⟨b, _, none⟩) (cell_lt (hc j y hy)) hb).trans (hc j y hy)⟩

theorem RowAt.same {w w' : World} {u : Value} {m k : Nat} {ys : List Value} (h : RowAt w u m k ys) (ho : Only [] w w') : RowAt w' u m k ys := h.only ho (by simp)

/-- One new element, in a block of its own. -/
theorem RowAt.one {w : World} {B k : Nat} {cs : Array Value} {e : TypeId} (hh : w.heap[B]? = some (.cells cs e (0, 0))) (hk : cs.size = k) (h1 : ∀ y ∈ cs.toList, y.oneCell' = true) :
    RowAt w (.slice (some ⟨B, 0, none⟩) 1 1) 1 k cs.toList := by
  refine ⟨by simp [hk], h1, .inr ⟨by omega, B, 0, 1, rfl, fun j y hy => ?_⟩⟩
  rw [Nat.zero_add, cell_of_row w B j cs e (0, 0) hh]
  simpa using hy

theorem Row.only {w w' : World} {base : Nat} {e : TypeId} {k : Nat} {v : Value} {n : Nat} {xs : List Value} {S : List Nat} (h : w.ownsRow base e k v n xs) (ho : Only S w w') (hS : ∀ x ∈ own v, x ∉ S) : w'.ownsRow base e k v n xs := by
  obtain ⟨h1, h2⟩ := h
  refine ⟨h1, ?_⟩
  rcases h2 with h2 | ⟨g, cap, cur, rfl, hg, hh, r⟩
  · exact .inl h2
  · refine .inr ⟨g, cap, cur, rfl, hg, ?_, r⟩
    have hlt : g < w.heap.size := by
      rcases Nat.lt_or_ge g w.heap.size with hlt | hge
      · exact hlt
      · rw [Array.getElem?_eq_none hge] at hh; cases hh
    rw [ho.block g hlt (hS g (by simp [own, Value.ownBlock]))]
    exact hh

theorem Row.same {w w' : World} {base : Nat} {e : TypeId} {k : Nat} {v : Value} {n : Nat} {xs : List Value} (h : w.ownsRow base e k v n xs) (ho : Only [] w w') : w'.ownsRow base e k v n xs := Row.only h ho (by simp)

theorem Row.far {w : World} {base : Nat} {e : TypeId} {k : Nat} {v : Value} {n : Nat} {xs : List Value} (h : w.ownsRow base e k v n xs) : ∀ x ∈ own v, base ≤ x ∧ x < w.heap.size := fun x hx =>
  (World.ownsRow.lt h) x (by simpa [own] using hx)

theorem Row.mono {w : World} {base base' : Nat} {e : TypeId} {k : Nat} {v : Value} {n : Nat} {xs : List Value} (h : w.ownsRow base e k v n xs) (hb : base' ≤ base) : w.ownsRow base' e k v n xs := by
  obtain ⟨h1, h2⟩ := h
  refine ⟨h1, ?_⟩
  rcases h2 with h2 | ⟨g, cap, cur, hv, hg, hh, r⟩
  · exact .inl h2
  · exact .inr ⟨g, cap, cur, hv, by omega, hh, r⟩

theorem Row.form {w : World} {base : Nat} {e : TypeId} {k : Nat} {v : Value} {n : Nat} {xs : List Value} (h : w.ownsRow base e k v n xs) :
    ∃ a cap, v = .slice a n cap ∧ n ≤ cap ∧ cap ≤ maxLen ∧ (0 < n → ∃ g, a = some ⟨g, 0, none⟩ ∧ base ≤ g ∧ g < w.heap.size) := by
  rcases h.2 with ⟨rfl, rfl⟩ | ⟨g, cap, cur, rfl, hb, hg, hc, hm, _⟩
  · exact ⟨none, 0, rfl, Nat.le_refl _, Nat.zero_le _, fun h => by omega⟩
  · refine ⟨_, cap, rfl, hc, hm, fun _ => ⟨g, rfl, hb, ?_⟩⟩
    rcases Nat.lt_or_ge g w.heap.size with hlt | hge
    · exact hlt
    · rw [Array.getElem?_eq_none hge] at hg; cases hg

theorem Row.at {w : World} {base : Nat} {e : TypeId} {k : Nat} {v : Value} {n : Nat} {xs : List Value} (h : w.ownsRow base e k v n xs) (h1 : ∀ y ∈ xs, y.oneCell' = true) : RowAt w v n k xs := by
  refine ⟨h.1, h1, ?_⟩
  rcases h.2 with ⟨rfl, rfl⟩ | ⟨g, cap, cur, rfl, hb, hg, hc, hm, hs, ht⟩
  · exact .inl ⟨rfl, .inl rfl⟩
  · by_cases h0 : n = 0
    · subst h0; exact .inl ⟨rfl, .inr ⟨_, cap, rfl⟩⟩
    · refine .inr ⟨by omega, g, 0, cap, rfl, fun j y hy => ?_⟩
      have hj : j < n * k := by
        rcases Nat.lt_or_ge j xs.length with hl | hl
        · rw [h.1] at hl; exact hl
        · rw [List.getElem?_eq_none hl] at hy; cases hy
      rw [Nat.zero_add, World.ownsRow.cellAt h j hj]
      exact hy

/-- Elements appended to a slice of the call's own, in a plain region. W: the world in which the slice was known; since then only new blocks have come. -/
theorem wpList_append_rows {t e : TypeId} {k bytes : Nat} (hT : SliceOf t e k bytes) {ops : Array Oper} {rest : List Oper} {o : Oper} {a : Act} {w : World} {Q : Exit → Act → World → Prop} (hgd : o.guard = none) (s x : Operand)
    (ho : o.op = .call { callee := .builtin .append, args := #[s, x], argTypes := #[t, t] })
    (W : World) (base : Nat) (v : Value) (n : Nat) (xs : List Value) (u : Value) (m : Nat) (ys : List Value) (hown : W.ownsRow base e k v n xs) (hu : RowAt w u m k ys) (hlen : n + m ≤ 1000000000) (hbase : base ≤ W.heap.size)
    (hs : a.eval s = v) (hx : a.eval x = u) (hW : Only [] W w)
    (h : ∀ v' w', w'.ownsRow base e k v' (n + m) (xs ++ ys) → Only (own v) W w' → Kin W (own v) (own v') →
      wpList Tryd.prog ops Q rest (a.put o.dst v') w') : wpList Tryd.prog ops Q (o :: rest) a w := by
  obtain ⟨i0, z, hi, hz0, hz1, hz2, hz3⟩ := hT.info
  have hb := hW.size
  have hown' := Row.same hown hW
  have hsm := hT.small
  have hby : (n + m) * bytes ≤ 140737488355328 := by
    have : (n + m) * bytes ≤ (n + m) * 100 := Nat.mul_le_mul_left _ hsm
    omega
  obtain ⟨hl, h1, hu⟩ := hu
  rcases hu with ⟨rfl, hu⟩ | ⟨h0, b, off, cap, rfl, hc⟩
  · obtain rfl : ys = [] := List.eq_nil_of_length_eq_zero (by simpa using hl)
    rcases hu with rfl | ⟨y, cap, rfl⟩
    · refine wpList_append_own_none hgd s x t ho base e i0 k hT.under hi v n xs hs hown' hx ?_
      exact h v w (by simpa using hown') (hW.mono (by simp)) (Kin.refl _ _)
    · refine wpList_append_own_at w hgd s x t ho base e i0 z k bytes hT.under hi hz0 hz1 hz2 hz3 hT.pos v n xs hs hown' y 0 cap [] hx (by simp) (by simp) (by simp) (by unfold maxLen; omega) (by simpa using hby) (by omega) ?_
      intro v' w' k1 k2 _ k4
      exact h v' w' (by simpa using k1) ((hW.mono (by simp)).grown k2 (fun k hk _ => by simp [own, hk])) (kin_of k4 hb)
  · refine wpList_append_own_at w hgd s x t ho base e i0 z k bytes hT.under hi hz0 hz1 hz2 hz3 hT.pos v n xs hs hown' ⟨b, off, none⟩ m cap ys hx hl ?_ h1 (by unfold maxLen; omega) hby (by omega) ?_
    · intro j y hy
      rw [add_flat]
      exact hc j y hy
    · intro v' w' k1 k2 _ k4
      exact h v' w' k1 ((hW.mono (by simp)).grown k2 (fun k hk _ => by simp [own, hk])) (kin_of k4 hb)

end Go.Proofs.YtoofalchkedciaaDoor

namespace Go.Proofs.YtoofalchkedciaaDoor
open Go.RowKit Go.Deep Go.ChangeShapes Go.WideShapes

/-- The value v is a slice of n structs; the cells of the i-th are V i 0, .., V i (k - 1). -/
def Recs (w : World) (v : Value) (n k : Nat) (V : Nat → Nat → Value) : Prop :=
  ∃ a cap, v = .slice a n cap ∧ n ≤ cap ∧ cap ≤ maxLen ∧ (a = none → cap = 0) ∧ ∀ i, i < n → ∃ b off, a = some ⟨b, off, none⟩ ∧ ∀ j, j < k → w.cell? ⟨b, off + i * k + j, none⟩ = some (V i j)

theorem Recs.only {w w' : World} {v : Value} {n k : Nat} {V : Nat → Nat → Value} {S : List Nat} (h : Recs w v n k V) (ho : Only S w w') (hS : ∀ x ∈ own v, x ∉ S) : Recs w' v n k V := by
  obtain ⟨a, cap, rfl, h1, h2, h0, h3⟩ := h
  refine ⟨a, cap, rfl, h1, h2, h0, fun i hi => ?_⟩
  obtain ⟨b, off, rfl, c⟩ := h3 i hi
  have hb : b ∉ S := hS b (by simp [own, Value.ownBlock])
  exact ⟨b, off, rfl, fun j hj => (ho.cell (p := ⟨b, _, none⟩) (cell_lt (c j hj)) hb).trans (c j hj)⟩
theorem Recs.same {w w' : World} {v : Value} {n k : Nat} {V : Nat → Nat → Value} (h : Recs w v n k V) (ho : Only [] w w') : Recs w' v n k V := h.only ho (by simp)
theorem Recs.congr {w : World} {v : Value} {n k : Nat} {V V' : Nat → Nat → Value} (h : Recs w v n k V) (e : ∀ i j, i < n → j < k → V i j = V' i j) : Recs w v n k V' := by
  obtain ⟨a, cap, rfl, h1, h2, h0, h3⟩ := h
  refine ⟨a, cap, rfl, h1, h2, h0, fun i hi => ?_⟩
  obtain ⟨b, off, rfl, c⟩ := h3 i hi
  exact ⟨b, off, rfl, fun j hj => by rw [c j hj, e i j hi hj]⟩

/-- Their cells in a row. -/
def flatV (V : Nat → Nat → Value) (n k : Nat) : List Value := (List.range (n * k)).map fun j => V (j / k) (j % k)
theorem flatV_len (V : Nat → Nat → Value) (n k : Nat) : (flatV V n k).length = n * k := by simp [flatV]
theorem flatV_get (V : Nat → Nat → Value) (n k i j : Nat) (hi : i < n) (hj : j < k) : (flatV V n k)[i * k + j]? = some (V i j) := by
  have h1 : i * k + j < n * k := by
    have : (i + 1) * k ≤ n * k := Nat.mul_le_mul_right k (by omega)
    rw [Nat.add_mul] at this; omega
  have h2 : (i * k + j) / k = i := by rw [Nat.mul_comm, Nat.mul_add_div (by omega), Nat.div_eq_of_lt hj]; rfl
  have h3 : (i * k + j) % k = j := by rw [Nat.mul_comm, Nat.mul_add_mod, Nat.mod_eq_of_lt hj]
  unfold flatV
  rw [List.getElem?_map, List.getElem?_range h1]
  simp [h2, h3]

theorem Recs.row {w : World} {v : Value} {n k : Nat} {V : Nat → Nat → Value} (h : Recs w v n k V) (hk : 0 < k) (h1 : ∀ i j, i < n → j < k → (V i j).oneCell' = true) : RowAt w v n k (flatV V n k) := by
  obtain ⟨a, cap, rfl, k1, k2, k0, k3⟩ := h
  have hdiv : ∀ j, j < n * k → j / k < n ∧ j % k < k := fun j hj => ⟨(Nat.div_lt_iff_lt_mul hk).2 hj, Nat.mod_lt _ hk⟩
  refine ⟨flatV_len _ _ _, fun y hy => ?_, ?_⟩
  · obtain ⟨j, hj, rfl⟩ := List.mem_map.1 hy
    have hj : j < n * k := by simpa using hj
    exact h1 _ _ (hdiv j hj).1 (hdiv j hj).2
  · by_cases e : n = 0
    · subst e
      left
      refine ⟨rfl, ?_⟩
      cases a with
      | none => left; rw [k0 rfl]
      | some x => exact .inr ⟨x, cap, rfl⟩
    · obtain ⟨b, off, rfl, _⟩ := k3 0 (by omega)
      refine .inr ⟨by omega, b, off, cap, rfl, fun j y hy => ?_⟩
      have hj : j < n * k := by
        rcases Nat.lt_or_ge j (n * k) with hl | hl
        · exact hl
        · rw [List.getElem?_eq_none (by rw [flatV_len]; exact hl)] at hy; cases hy
      obtain ⟨b', off', hb, c⟩ := k3 (j / k) (hdiv j hj).1
      injection hb with hb
      injection hb with e1 e2
      subst e1 e2
      have := c (j % k) (hdiv j hj).2
      rw [show off + j / k * k + j % k = off + j by have := Nat.div_add_mod j k; rw [Nat.mul_comm] at this; omega] at this
      rw [this]
      unfold flatV at hy
      rw [List.getElem?_map, List.getElem?_range hj] at hy
      simpa using hy

set_option maxRecDepth 100000 in
/-- A slice of such structs that came in. -/
theorem open_recs {H : Type} {enc : TypeId × Value → H} {W : World} {base : Nat} {t e : TypeId} {fs : Array Field} {k : Nat} {v : Value} {d : DataW H} {p : List MemPlace}
    (ht : Tryd.prog.underlying t = some (.slice e)) (he : Tryd.prog.underlying e = some (.struct fs)) (hk : fs.size = k) (k0 : 0 < k)
    (ce : Tryd.prog.cellsOf e = k) (hf : ∀ (j : Nat) (f : Field), fs[j]? = some f → f.offset = j ∧ Tryd.prog.cellsOf f.type = 1)
    (hv : Value.okWide Tryd.prog W .any base t v) (h : DataW.Trod enc Tryd.prog W 0 (fun _ => true) true t v d p) :
    ∃ (n : Nat) (V : Nat → Nat → Value), Recs W v n k V ∧ ∀ i, i < n → ∀ (j : Nat) (f : Field), fs[j]? = some f → ∃ (m : Nat) (x : DataW H × List MemPlace), DataW.trod enc Tryd.prog W 0 (fun _ => true) true m f.type [V i j] = some x := by
  obtain ⟨s, len, cap, rfl⟩ := okWide_slice ht hv
  obtain ⟨fuel, hfu⟩ := h
  rcases open_slice ht hfu with ⟨hcs, _⟩ | ⟨a, len', cap', m, n, D, Pl, hcs, _, hl, hm, hmm, _, hi⟩
  · simp [Value.cells] at hcs
    obtain ⟨rfl, rfl, rfl⟩ := hcs
    exact ⟨0, fun _ _ => .nilIface, ⟨none, 0, rfl, Nat.le_refl _, Nat.zero_le _, fun _ => rfl, fun i hi => by omega⟩, fun i hi => by omega⟩
  · simp [Value.cells] at hcs
    obtain ⟨rfl, rfl, rfl⟩ := hcs
    have hlm : len ≤ m := by rw [hmm]; simp; omega
    rw [ce] at hi
    have each : ∀ i, i < len → ∃ cs' : List Value, cs'.length = k ∧ (∀ j, j < k → W.cell? ((a.add (i * k)).add j) = cs'[j]?) ∧ ∀ (j : Nat) (f : Field), fs[j]? = some f → ∃ (m : Nat) (x : DataW H × List MemPlace), DataW.trod enc Tryd.prog W 0 (fun _ => true) true m f.type [cs'[j]?.getD undef] = some x := by
      intro i hil
      obtain ⟨cs', g1, g2⟩ := hi i (by omega)
      obtain ⟨_, g3, g4⟩ := World.cells?_some g1
      refine ⟨cs', g3, g4, fun j f hjf => ?_⟩
      obtain ⟨xs, q, _, _, _, hxl, hff⟩ := DataW.trod_struct he g2
      have h5 := hff j f hjf
      obtain ⟨o1, o2⟩ := hf j f hjf
      have hj : j < fs.size := by
        rcases Nat.lt_or_ge j fs.size with h | h
        · exact h
        · rw [Array.getElem?_eq_none h] at hjf; cases hjf
      rw [o1, o2, List.getElem?_eq_getElem (by omega)] at h5
      have e1 : (cs'.drop j).take 1 = [cs'[j]?.getD undef] := by
        have hjc : j < cs'.length := by omega
        rw [List.getElem?_eq_getElem hjc, List.drop_eq_getElem_cons hjc]
        rfl
      rw [e1] at h5
      exact ⟨_, _, h5⟩
    obtain ⟨C, hC⟩ := choose_lt each
    refine ⟨len, fun i j => (C i)[j]?.getD undef, ⟨_, _, rfl, hl, hm, (fun h => by cases h), fun i hil => ?_⟩, fun i hil j f hjf => (hC i hil).2.2 j f hjf⟩
    obtain ⟨g3, g4, _⟩ := hC 0 (by omega)
    have g5 := g4 0 k0
    rw [List.getElem?_eq_getElem (by omega), Nat.zero_mul, add_add] at g5
    have hs := spot_none (x := a) g5
    obtain ⟨b, off, spot⟩ := a
    obtain rfl : spot = none := hs
    refine ⟨b, off, rfl, fun j hj => ?_⟩
    obtain ⟨g3, g4, _⟩ := hC i hil
    have := g4 j hj
    rw [add_flat, add_flat] at this
    rw [this]
    show (C i)[j]? = some ((C i)[j]?.getD undef)
    cases h : (C i)[j]? with
    | some x => rfl
    | none => exact absurd (List.getElem?_eq_none_iff.1 h) (by omega)

/-- A field of a struct type of k one-cell fields, all read off by one test. -/
theorem fields_ok {fs : Array Field} (h : ((List.range fs.size).all fun j => match fs[j]? with | some f => decide (f.offset = j) && decide (Tryd.prog.cellsOf f.type = 1) | none => true) = true) :
    ∀ (j : Nat) (f : Field), fs[j]? = some f → f.offset = j ∧ Tryd.prog.cellsOf f.type = 1 := by
  intro j f hf
  have hj : j < fs.size := by
    rcases Nat.lt_or_ge j fs.size with h | h
    · exact h
    · rw [Array.getElem?_eq_none h] at hf; cases hf
  have := (List.all_eq_true.1 h) j (by simpa using hj)
  rw [hf] at this
  simpa using this

end Go.Proofs.YtoofalchkedciaaDoor
