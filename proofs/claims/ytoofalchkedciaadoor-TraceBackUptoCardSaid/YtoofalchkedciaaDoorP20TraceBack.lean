/-
  Slices of ints that begin anywhere in their block and may have spare room: one number appended, the first one cut off.
-/
import Derived.Test.YtoofalchkedciaaDoorP4TraceBack
import Derived.ArgAppend
namespace Go.Proofs.YtoofalchkedciaaDoor
open Go.RowKit

def Sl (w : World) (v : Value) (xs : List Int) : Prop :=
  (v = .slice none 0 0 ∧ xs = []) ∨
  ∃ g off cap, v = .slice (some ⟨g, off, none⟩) xs.length cap ∧ xs.length ≤ cap ∧ cap ≤ maxLen ∧ g < w.heap.size ∧
    (∀ i, i < xs.length → w.cell? ⟨g, off + i, none⟩ = some (.int .i64 (nth xs i))) ∧ (∀ i, i < cap → (w.cell? ⟨g, off + i, none⟩).isSome = true ∧ w.frozen? ⟨g, off + i, none⟩ = false)

theorem Sl.nil (w : World) : Sl w (.slice none 0 0) [] := .inl ⟨rfl, rfl⟩

theorem Sl.only {w w' : World} {v : Value} {xs : List Int} {S : List Nat} (h : Sl w v xs) (ho : Only S w w') (hS : ∀ x ∈ own v, x ∉ S) : Sl w' v xs := by
  rcases h with h | ⟨g, off, cap, rfl, h1, h2, h3, h4, h5⟩
  · exact .inl h
  · have hg : g ∉ S := hS g (by simp [own, Value.ownBlock])
    refine .inr ⟨g, off, cap, rfl, h1, h2, Nat.lt_of_lt_of_le h3 ho.size, fun i hi => ?_, fun i hi => ?_⟩
    · rw [ho.cell (p := ⟨g, off + i, none⟩) h3 hg]; exact h4 i hi
    · rw [ho.cell (p := ⟨g, off + i, none⟩) h3 hg, ho.frozen (p := ⟨g, off + i, none⟩) h3 hg]; exact h5 i hi

theorem Sl.lt {w : World} {v : Value} {xs : List Int} (h : Sl w v xs) : ∀ x ∈ own v, x < w.heap.size := by
  rcases h with ⟨rfl, _⟩ | ⟨g, off, cap, rfl, _, _, h3, _⟩
  · intro x hx; simp [own, Value.ownBlock] at hx
  · intro x hx
    obtain rfl : x = g := by simpa [own, Value.ownBlock] using hx
    exact h3

theorem Sl.reads {w : World} {v : Value} {xs : List Int} (h : Sl w v xs) : Reads w v xs := by
  rcases h with ⟨rfl, rfl⟩ | ⟨g, off, cap, rfl, h1, h2, _, h4, _⟩
  · exact .inl ⟨rfl, .inl rfl⟩
  · by_cases h0 : xs = []
    · subst h0
      exact .inl ⟨rfl, .inr ⟨_, cap, rfl, h2⟩⟩
    · exact .inr ⟨List.length_pos_iff.2 h0, g, off, cap, rfl, h1, h2, h4⟩

theorem Ints.sl {w : World} {base : Nat} {v : Value} {xs : List Int} (h : Ints w base v xs) : Sl w v xs := by
  obtain ⟨h1, h2⟩ := h
  rcases h2 with ⟨rfl, h2⟩ | ⟨g, cap, cur, rfl, hg, hh, hn, hm, hs, ht⟩
  · exact .inl ⟨rfl, List.length_eq_zero_iff.1 h2⟩
  · have hlt : g < w.heap.size := by
      rcases Nat.lt_or_ge g w.heap.size with hlt | hge
      · exact hlt
      · rw [Array.getElem?_eq_none hge] at hh; cases hh
    have hI : Ints w base (.slice (some ⟨g, 0, none⟩) xs.length cap) xs := ⟨h1, .inr ⟨g, cap, cur, rfl, hg, hh, hn, hm, hs, ht⟩⟩
    refine .inr ⟨g, 0, cap, rfl, hn, hm, hlt, fun i hi => ?_, fun i hi => ?_⟩
    · rw [Nat.zero_add]; exact hI.cell i hi
    · rw [Nat.zero_add]
      refine ⟨?_, hI.free i⟩
      have : i < cur.size := by omega
      simp [World.cell?, hh, this]

/-- One number appended. -/
theorem wpList_push_sl {ops : Array Oper} {rest : List Oper} {o : Oper} {a : Act} {w : World} {Q : Exit → Act → World → Prop} (hgd : o.guard = none) (s x : Operand)
    (ho : o.op = .call { callee := .builtin .append, args := #[s, x], argTypes := #[28, 28] })
    (W : World) (v : Value) (xs : List Int) (B : Nat) (n : Int) (m : Nat) (hown : Sl W v xs) (hm : xs.length = m) (hlen : m ≤ 1000000000)
    (hs : a.eval s = v) (hx : a.eval x = .slice (some ⟨B, 0, none⟩) 1 1) (hW : Only [] W w) (hc : w.cell? ⟨B, 0, none⟩ = some (.int .i64 n))
    (h : ∀ g off cap w', Sl w' (.slice (some ⟨g, off, none⟩) (m + 1) cap) (xs ++ [n]) → Only (own v) W w' → (g ∈ own v ∨ W.heap.size ≤ g) →
      wpList Tryd.prog ops Q rest (a.put o.dst (.slice (some ⟨g, off, none⟩) (m + 1) cap)) w') : wpList Tryd.prog ops Q (o :: rest) a w := by
  obtain ⟨i0, hi, hz0, hz1, hz2⟩ := info_int
  have hsz := hW.size
  have hown' := hown.only hW (by simp)
  subst hm
  have hnews : ∀ j u, [Value.int .i64 n][j]? = some u → w.cell? (({ block := B, off := 0, spot := none } : Addr).add j) = some u := by
    intro j u hj
    rcases j with _ | j
    · simp at hj; subst hj; exact hc
    · simp at hj
  have hone : ∀ u ∈ [Value.int .i64 n], u.oneCell' = true := by intro u hu; simp at hu; subst hu; rfl
  rcases hown' with ⟨rfl, rfl⟩ | ⟨g, off, cap, rfl, h1, h2, h3, h4, h5⟩
  · refine wpList_push hgd s x ho W 0 _ [] B n 0 (Ints.nil _ _) rfl (by omega) (Nat.zero_le _) hs hx hW hc ?_
    intro g cap w' hI hO hK
    exact h g 0 cap w' (by simpa using hI.sl) hO hK
  · have holds : ∀ j u, (xs.map (Value.int .i64))[j]? = some u → w.cell? ⟨g, off + j, none⟩ = some u := by
      intro j u hj
      have hjl : j < xs.length := by
        rcases Nat.lt_or_ge j xs.length with h | h
        · exact h
        · rw [List.getElem?_eq_none (by simpa using h)] at hj; cases hj
      rw [h4 j hjl]
      rw [List.getElem?_map, List.getElem?_eq_getElem hjl] at hj
      simp at hj
      rw [← hj]
      simp [nth, hjl]
    refine wpList_append_arg w hgd s x 28 ho 3 i0 (.int .i64 0) 1 8 Tryd.underlying28 hi hz0 hz1 hz2 rfl (by decide) g off xs.length cap (xs.map (Value.int .i64)) hs (by simp) holds ⟨B, 0, none⟩ 1 1 [.int .i64 n] hx rfl hnews hone ?_ (by unfold maxLen; omega) (by omega) ?_ ?_
    · intro hr j hj
      have : j = 0 := by simp at hj; omega
      subst this
      have := h5 xs.length (by omega)
      simpa using this
    · intro hr
      have hw' : w.setCells g (off + xs.length * 1) [.int .i64 n] = w.setCell ⟨g, off + xs.length, none⟩ (.int .i64 n) := by simp [World.setCells]
      rw [hw']
      have hset : Only [g] w (w.setCell ⟨g, off + xs.length, none⟩ (.int .i64 n)) := (Only.refl [g] w).setCell (by simp) _
      refine h g off cap _ ?_ ((hW.mono (by simp)).trans hset (by simp [own, Value.ownBlock])) (.inl (by simp [own, Value.ownBlock]))
      obtain ⟨u, hu⟩ := Option.isSome_iff_exists.1 (h5 xs.length (by omega)).1
      refine .inr ⟨g, off, cap, by simp, by simp; omega, h2, by simpa using h3, fun i hi => ?_, fun i hi => ?_⟩
      · by_cases e : i = xs.length
        · subst e
          rw [World.cell?_setCell_same _ _ _ hu]
          simp [nth]
        · have hi' : i < xs.length := by simp at hi; omega
          rw [World.cell?_setCell_other _ _ _ _ (fun he => e (by have := congrArg Addr.off he; simp at this; omega)), h4 i hi']
          simp [nth, List.getElem?_append_left hi', hi']
      · rw [World.frozen?_setCell]
        refine ⟨?_, (h5 i hi).2⟩
        by_cases e : i = xs.length
        · subst e
          rw [World.cell?_setCell_same _ _ _ hu]; rfl
        · rw [World.cell?_setCell_other _ _ _ _ (fun he => e (by have := congrArg Addr.off he; simp at this; omega))]
          exact (h5 i hi).1
    · intro hgrow v' w' k1 k2
      have hI : Ints w' w.heap.size v' (xs ++ [n]) := by unfold Ints; simpa using k1
      obtain ⟨g', cap', rfl, hb, _⟩ := hI.sized (xs.length + 1) (by simp) (by omega)
      refine h g' 0 cap' w' hI.sl ((hW.mono (by simp)).grown k2 (by simp)) (.inr (by omega))

/-- The first one cut off. -/
theorem Sl.tail {w : World} {g off N cap : Nat} {x : Int} {xs : List Int} (h : Sl w (.slice (some ⟨g, off, none⟩) N cap) (x :: xs)) (m : Nat) (hm : m = xs.length) (_hc : cap ≠ 1) :
    Sl w (.slice (some ⟨g, off + 1, none⟩) m (cap - 1)) xs := by
  rcases h with ⟨h, _⟩ | ⟨g', off', cap', hv, h1, h2, h3, h4, h5⟩
  · cases h
  · injection hv with e1 e2 e3
    injection e1 with e1
    injection e1 with e4 e5
    subst e4 e5 e3 hm
    simp at h1
    refine .inr ⟨g, off + 1, cap - 1, rfl, by omega, by omega, h3, fun i hi => ?_, fun i hi => ?_⟩
    · have := h4 (i + 1) (by simp; omega)
      rw [show off + 1 + i = off + (i + 1) by omega, this]
      simp [nth]
    · rw [show off + 1 + i = off + (i + 1) by omega]
      exact h5 (i + 1) (by omega)

theorem Sl.tail1 {w : World} {g off N : Nat} {x : Int} {xs : List Int} (h : Sl w (.slice (some ⟨g, off, none⟩) N 1) (x :: xs)) :
    xs = [] ∧ Sl w (.slice (some ⟨g, off, none⟩) 0 0) [] := by
  rcases h with ⟨h, _⟩ | ⟨g', off', cap', hv, h1, h2, h3, h4, h5⟩
  · cases h
  · injection hv with e1 e2 e3
    injection e1 with e1
    injection e1 with e4 e5
    subst e4 e5 e3
    simp at h1
    exact ⟨h1, .inr ⟨g, off, 0, rfl, by simp, by omega, h3, by simp, by simp⟩⟩

/-- Its value as one form. -/
theorem Sl.opt {w : World} {v : Value} {xs : List Int} (h : Sl w v xs) :
    ∃ a cap, v = .slice a xs.length cap ∧ ∀ i, i < xs.length → ∃ g off, a = some ⟨g, off, none⟩ ∧ w.cell? ⟨g, off + i, none⟩ = some (.int .i64 (nth xs i)) := by
  rcases h with ⟨rfl, rfl⟩ | ⟨g, off, cap, rfl, _, _, _, h4, _⟩
  · exact ⟨none, 0, rfl, fun i hi => by simp at hi⟩
  · exact ⟨_, cap, rfl, fun i hi => ⟨g, off, rfl, h4 i hi⟩⟩

end Go.Proofs.YtoofalchkedciaaDoor
