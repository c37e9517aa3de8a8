/-
  Slices of structs that the call itself made: appended to, read, written. k: how many cells an element has.
-/
import Derived.Test.YtoofalchkedciaaGreatDoorP5PlanTells
namespace Go.Proofs.YtoofalchkedciaaGreatDoor
open Go.RowKit

/-- t is the type of slices of e; an element has k cells. -/
structure SliceOf (t e : TypeId) (k bytes : Nat) : Prop where
  under : Tryz.prog.underlying t = some (.slice e)
  info : ∃ i0 z, Tryz.prog.info? e = some i0 ∧ i0.zero = some z ∧ i0.size = k ∧ i0.bytes = bytes ∧ z.cells.size = k
  pos : 0 < k
  small : bytes ≤ 100

theorem sliceOf_parts {t e : TypeId} {k bytes : Nat} {z : Value} (h1 : Tryz.prog.underlying t = some (.slice e)) (h2 : (Tryz.prog.info? e).map (fun i => (i.zero, i.size, i.bytes)) = some (some z, k, bytes))
    (h3 : z.cells.size = k) (h4 : 0 < k) (h5 : bytes ≤ 100) : SliceOf t e k bytes := by
  obtain ⟨i0, a, b, c, d⟩ := info_parts h2
  exact ⟨h1, ⟨i0, z, a, b, c, d, h3⟩, h4, h5⟩

/-- m elements of k cells are read from the slice value u. -/
def RowAt (w : World) (u : Value) (m k : Nat) (ys : List Value) : Prop :=
  ys.length = m * k ∧ (∀ y ∈ ys, y.oneCell' = true) ∧
  ((m = 0 ∧ (u = .slice none 0 0 ∨ ∃ x cap, u = .slice (some x) 0 cap)) ∨
   (0 < m ∧ ∃ b off cap, u = .slice (some ⟨b, off, none⟩) m cap ∧ ∀ j y, ys[j]? = some y → w.cell? ⟨b, off + j, none⟩ = some y))

theorem RowAt.only {w w' : World} {u : Value} {m k : Nat} {ys : List Value} {S : List Nat} (h : RowAt w u m k ys) (ho : Only S w w') (hS : ∀ x ∈ own u, x ∉ S) : RowAt w' u m k ys := by
  obtain ⟨h1, h2, h3⟩ := h
  refine ⟨h1, h2, ?_⟩
  rcases h3 with h3 | ⟨h0, b, off, cap, rfl, hc⟩
  · exact .inl h3
  · have hb : b ∉ S := hS b (by simp [own, Value.ownBlock])
    exact .inr ⟨h0, b, off, cap, rfl, fun j y hy => (ho.cell (p := ⟨b, _, none⟩) (cell_lt (hc j y hy)) hb).trans (hc j y hy)⟩

theorem RowAt.same {w w' : World} {u : Value} {m k : Nat} {ys : List Value} (h : RowAt w u m k ys) (ho : Only [] w w') : RowAt w' u m k ys := h.only ho (by simp)

/-- One new element, in a block of its own. -/
theorem RowAt.one {w : World} {B k : Nat} {cs : Array Value} {e : TypeId} (hh : w.heap[B]? = some (.cells cs e (0, 0))) (hk : cs.size = k) (h1 : ∀ y ∈ cs.toList, y.oneCell' = true) :
    RowAt w (.slice (some ⟨B, 0, none⟩) 1 1) 1 k cs.toList := by
  refine ⟨by simp [hk], h1, .inr ⟨by omega, B, 0, 1, rfl, fun j y hy => ?_⟩⟩
  rw [Nat.zero_add, cell_of_row w B j cs e (0, 0) hh]
  simpa using hy

theorem Row.only {w w' : World} {base : Nat} {e : TypeId} {k : Nat} {v : Value} {n : Nat} {xs : List Value} {S : List Nat} (h : w.ownsRow base e k v n xs) (ho : Only S w w') (hS : ∀ x ∈ own v, x ∉ S) : w'.ownsRow base e k v n xs := by
  obtain ⟨h1, h2⟩ := h
  refine ⟨h1, ?_⟩
  rcases h2 with h2 | ⟨g, cap, cur, rfl, hg, hh, r⟩
  · exact .inl h2
  · refine .inr ⟨g, cap, cur, rfl, hg, ?_, r⟩
    have hlt : g < w.heap.size := by
      rcases Nat.lt_or_ge g w.heap.size with hlt | hge
      · exact hlt
      · rw [Array.getElem?_eq_none hge] at hh; cases hh
    rw [ho.block g hlt (hS g (by simp [own, Value.ownBlock]))]
    exact hh

theorem Row.same {w w' : World} {base : Nat} {e : TypeId} {k : Nat} {v : Value} {n : Nat} {xs : List Value} (h : w.ownsRow base e k v n xs) (ho : Only [] w w') : w'.ownsRow base e k v n xs := Row.only h ho (by simp)

theorem Row.far {w : World} {base : Nat} {e : TypeId} {k : Nat} {v : Value} {n : Nat} {xs : List Value} (h : w.ownsRow base e k v n xs) : ∀ x ∈ own v, base ≤ x ∧ x < w.heap.size := fun x hx =>
  (World.ownsRow.lt h) x (by simpa [own] using hx)

theorem Row.mono {w : World} {base base' : Nat} {e : TypeId} {k : Nat} {v : Value} {n : Nat} {xs : List Value} (h : w.ownsRow base e k v n xs) (hb : base' ≤ base) : w.ownsRow base' e k v n xs := by
  obtain ⟨h1, h2⟩ := h
  refine ⟨h1, ?_⟩
  rcases h2 with h2 | ⟨g, cap, cur, hv, hg, hh, r⟩
  · exact .inl h2
  · exact .inr ⟨g, cap, cur, hv, by omega, hh, r⟩

theorem Row.form {w : World} {base : Nat} {e : TypeId} {k : Nat} {v : Value} {n : Nat} {xs : List Value} (h : w.ownsRow base e k v n xs) :
    ∃ a cap, v = .slice a n cap ∧ n ≤ cap ∧ cap ≤ maxLen ∧ (0 < n → ∃ g, a = some ⟨g, 0, none⟩ ∧ base ≤ g ∧ g < w.heap.size) := by
  rcases h.2 with ⟨rfl, rfl⟩ | ⟨g, cap, cur, rfl, hb, hg, hc, hm, _⟩
  · exact ⟨none, 0, rfl, Nat.le_refl _, Nat.zero_le _, fun h => by omega⟩
  · refine ⟨_, cap, rfl, hc, hm, fun _ => ⟨g, rfl, hb, ?_⟩⟩
    rcases Nat.lt_or_ge g w.heap.size with hlt | hge
    · exact hlt
    · rw [Array.getElem?_eq_none hge] at hg; cases hg

theorem Row.at {w : World} {base : Nat} {e : TypeId} {k : Nat} {v : Value} {n : Nat} {xs : List Value} (h : w.ownsRow base e k v n xs) (h1 : ∀ y ∈ xs, y.oneCell' = true) : RowAt w v n k xs := by
  refine ⟨h.1, h1, ?_⟩
  rcases h.2 with ⟨rfl, rfl⟩ | ⟨g, cap, cur, rfl, hb, hg, hc, hm, hs, ht⟩
  · exact .inl ⟨rfl, .inl rfl⟩
  · by_cases h0 : n = 0
    · subst h0; exact .inl ⟨rfl, .inr ⟨_, cap, rfl⟩⟩
    · refine .inr ⟨by omega, g, 0, cap, rfl, fun j y hy => ?_⟩
      have hj : j < n * k := by
        rcases Nat.lt_or_ge j xs.length with hl | hl
        · rw [h.1] at hl; exact hl
        · rw [List.getElem?_eq_none hl] at hy; cases hy
      rw [Nat.zero_add, World.ownsRow.cellAt h j hj]
      exact hy

/-- Elements appended to a slice of the call's own, in a plain region. W: the world in which the slice was known; since then only new blocks have come. -/
theorem wpList_append_rows {t e : TypeId} {k bytes : Nat} (hT : SliceOf t e k bytes) {ops : Array Oper} {rest : List Oper} {o : Oper} {a : Act} {w : World} {Q : Exit → Act → World → Prop} (hgd : o.guard = none) (s x : Operand)
    (ho : o.op = .call { callee := .builtin .append, args := #[s, x], argTypes := #[t, t] })
    (W : World) (base : Nat) (v : Value) (n : Nat) (xs : List Value) (u : Value) (m : Nat) (ys : List Value) (hown : W.ownsRow base e k v n xs) (hu : RowAt w u m k ys) (hlen : n + m ≤ 1000000000) (hbase : base ≤ W.heap.size)
    (hs : a.eval s = v) (hx : a.eval x = u) (hW : Only [] W w)
    (h : ∀ v' w', w'.ownsRow base e k v' (n + m) (xs ++ ys) → Only (own v) W w' → Kin W (own v) (own v') →
      wpList Tryz.prog ops Q rest (a.put o.dst v') w') : wpList Tryz.prog ops Q (o :: rest) a w := by
  obtain ⟨i0, z, hi, hz0, hz1, hz2, hz3⟩ := hT.info
  have hb := hW.size
  have hown' := Row.same hown hW
  have hsm := hT.small
  have hby : (n + m) * bytes ≤ 140737488355328 := by
    have : (n + m) * bytes ≤ (n + m) * 100 := Nat.mul_le_mul_left _ hsm
    omega
  obtain ⟨hl, h1, hu⟩ := hu
  rcases hu with ⟨rfl, hu⟩ | ⟨h0, b, off, cap, rfl, hc⟩
  · obtain rfl : ys = [] := List.eq_nil_of_length_eq_zero (by simpa using hl)
    rcases hu with rfl | ⟨y, cap, rfl⟩
    · refine wpList_append_own_none hgd s x t ho base e i0 k hT.under hi v n xs hs hown' hx ?_
      exact h v w (by simpa using hown') (hW.mono (by simp)) (Kin.refl _ _)
    · refine wpList_append_own_at w hgd s x t ho base e i0 z k bytes hT.under hi hz0 hz1 hz2 hz3 hT.pos v n xs hs hown' y 0 cap [] hx (by simp) (by simp) (by simp) (by unfold maxLen; omega) (by simpa using hby) (by omega) ?_
      intro v' w' k1 k2 _ k4
      exact h v' w' (by simpa using k1) ((hW.mono (by simp)).grown k2 (fun k hk _ => by simp [own, hk])) (kin_of k4 hb)
  · refine wpList_append_own_at w hgd s x t ho base e i0 z k bytes hT.under hi hz0 hz1 hz2 hz3 hT.pos v n xs hs hown' ⟨b, off, none⟩ m cap ys hx hl ?_ h1 (by unfold maxLen; omega) hby (by omega) ?_
    · intro j y hy
      rw [add_flat]
      exact hc j y hy
    · intro v' w' k1 k2 _ k4
      exact h v' w' k1 ((hW.mono (by simp)).grown k2 (fun k hk _ => by simp [own, hk])) (kin_of k4 hb)

end Go.Proofs.YtoofalchkedciaaGreatDoor
