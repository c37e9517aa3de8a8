/-
  Slices with an offset, and room: several numbers appended.
-/
import Derived.Test.YtoofalchkedciaaDoorP20TraceBack
namespace Go.Proofs.YtoofalchkedciaaDoor
open Go.RowKit

theorem cells_setCells {w : World} {b off : Nat} (vs : List Value) (hv : ∀ j, j < vs.length → (w.cell? ⟨b, off + j, none⟩).isSome = true) :
    (∀ j u, vs[j]? = some u → (w.setCells b off vs).cell? ⟨b, off + j, none⟩ = some u) ∧
    (∀ i, (i < off ∨ off + vs.length ≤ i) → (w.setCells b off vs).cell? ⟨b, i, none⟩ = w.cell? ⟨b, i, none⟩) ∧ Only [b] w (w.setCells b off vs) ∧ (∀ p, (w.setCells b off vs).frozen? p = w.frozen? p) := by
  induction vs generalizing w off with
  | nil => exact ⟨fun j u h => by simp at h, fun i _ => rfl, Only.refl _ _, fun _ => rfl⟩
  | cons v vs ih =>
    have hstep : w.setCells b off (v :: vs) = (w.setCell ⟨b, off, none⟩ v).setCells b (off + 1) vs := rfl
    have h0 : ∃ u, w.cell? ⟨b, off, none⟩ = some u := Option.isSome_iff_exists.1 (by simpa using hv 0 (by simp))
    obtain ⟨u0, hu0⟩ := h0
    have hother : ∀ i, i ≠ off → (w.setCell ⟨b, off, none⟩ v).cell? ⟨b, i, none⟩ = w.cell? ⟨b, i, none⟩ := fun i hi =>
      World.cell?_setCell_other _ _ _ _ (fun he => hi (congrArg Addr.off he).symm)
    obtain ⟨k1, k2, k3, k4⟩ := ih (w := w.setCell ⟨b, off, none⟩ v) (off := off + 1) (fun j hj => by
      rw [hother _ (by omega)]
      have := hv (j + 1) (by simpa using hj)
      rwa [show off + 1 + j = off + (j + 1) by omega])
    rw [hstep]
    refine ⟨fun j u hj => ?_, fun i hi => ?_, ((Only.refl [b] w).setCell (by simp) _).trans k3 (by simp), fun p => by rw [k4, World.frozen?_setCell]⟩
    · rcases j with _ | j
      · simp at hj
        subst hj
        rw [show off + 0 = off from rfl, k2 off (.inl (by omega))]
        exact World.cell?_setCell_same _ _ _ hu0
      · have := k1 j u (by simpa using hj)
        rwa [show off + 1 + j = off + (j + 1) by omega] at this
    · rw [k2 i (by simp only [List.length_cons] at hi; omega)]
      exact hother i (by simp only [List.length_cons] at hi; omega)

/-- Several numbers appended, in a plain region. -/
theorem wpList_append_sl {ops : Array Oper} {rest : List Oper} {o : Oper} {a : Act} {w : World} {Q : Exit → Act → World → Prop} (hgd : o.guard = none) (s x : Operand)
    (ho : o.op = .call { callee := .builtin .append, args := #[s, x], argTypes := #[28, 28] })
    (W : World) (v : Value) (xs : List Int) (u : Value) (ys : List Int) (hown : Sl W v xs) (hu : Reads W u ys) (hlen : xs.length + ys.length ≤ 1000000000)
    (hs : a.eval s = v) (hx : a.eval x = u) (hW : Only [] W w)
    (h : ∀ v' w', Sl w' v' (xs ++ ys) → Only (own v) W w' → Kin W (own v) (own v') →
      wpList Tryd.prog ops Q rest (a.put o.dst v') w') : wpList Tryd.prog ops Q (o :: rest) a w := by
  obtain ⟨i0, hi, hz0, hz1, hz2⟩ := info_int
  have hsz := hW.size
  have hown' := hown.only hW (by simp)
  rcases hown' with ⟨rfl, rfl⟩ | ⟨g, off, cap, rfl, h1, h2, h3, h4, h5⟩
  · refine wpList_append_reads hgd s x ho W 0 _ [] u ys (Ints.nil _ _) hu (by simpa using hlen) (Nat.zero_le _) hs hx hW ?_
    intro v' w' hI hO hK
    exact h v' w' (by simpa using hI.sl) hO hK
  · have holds : ∀ j u, (xs.map (Value.int .i64))[j]? = some u → w.cell? ⟨g, off + j, none⟩ = some u := by
      intro j u hj
      have hjl : j < xs.length := by
        rcases Nat.lt_or_ge j xs.length with h | h
        · exact h
        · rw [List.getElem?_eq_none (by simpa using h)] at hj; cases hj
      rw [h4 j hjl]
      rw [List.getElem?_map, List.getElem?_eq_getElem hjl] at hj
      simp at hj
      rw [← hj]
      simp [nth, hjl]
    have hone : ∀ u ∈ ys.map (Value.int .i64), u.oneCell' = true := by intro u hu; simp at hu; obtain ⟨n, _, rfl⟩ := hu; rfl
    have key : ∀ (ad : Addr) (c : Nat), u = .slice (some ad) ys.length c → (∀ j z, (ys.map (Value.int .i64))[j]? = some z → w.cell? (ad.add j) = some z) → wpList Tryd.prog ops Q (o :: rest) a w := by
      intro ad c hue hnews
      refine wpList_append_arg w hgd s x 28 ho 3 i0 (.int .i64 0) 1 8 Tryd.underlying28 hi hz0 hz1 hz2 rfl (by decide) g off xs.length cap (xs.map (Value.int .i64)) hs (by simp) holds ad ys.length c (ys.map (Value.int .i64)) (hx.trans hue) (by simp) hnews hone ?_ (by unfold maxLen; omega) (by omega) ?_ ?_
      · intro hr j hj
        have hj' : j < ys.length := by simpa using hj
        have := h5 (xs.length + j) (by omega)
        rw [Nat.mul_one, Nat.add_assoc]
        exact this
      · intro hr
        rw [Nat.mul_one]
        have hsp : ∀ j, j < (ys.map (Value.int .i64)).length → (w.cell? ⟨g, off + xs.length + j, none⟩).isSome = true := by
          intro j hj
          have hj' : j < ys.length := by simpa using hj
          rw [Nat.add_assoc]
          exact (h5 (xs.length + j) (by omega)).1
        obtain ⟨k1, k2, k3, k4⟩ := cells_setCells (w := w) (b := g) (off := off + xs.length) (ys.map (Value.int .i64)) hsp
        have hl : (xs ++ ys).length = xs.length + ys.length := by simp
        refine h _ _ (.inr ⟨g, off, cap, by rw [hl], by omega, h2, Nat.lt_of_lt_of_le h3 k3.size, fun i hi => ?_, fun i hi => ?_⟩) ((hW.mono (by simp)).trans k3 (by simp [own, Value.ownBlock])) (fun y hy => .inl (by simpa [own, Value.ownBlock] using hy))
        · rcases Nat.lt_or_ge i xs.length with hlt | hge
          · rw [k2 _ (.inl (by omega)), h4 i hlt]
            simp [nth, List.getElem?_append_left hlt, hlt]
          · have := k1 (i - xs.length) (.int .i64 (nth ys (i - xs.length))) (by
              have : i - xs.length < ys.length := by omega
              simp [nth, this])
            rw [show off + xs.length + (i - xs.length) = off + i by omega] at this
            rw [this]
            simp [nth, List.getElem?_append_right hge]
        · rw [k4]
          refine ⟨?_, (h5 i hi).2⟩
          by_cases hin : xs.length ≤ i ∧ i < xs.length + ys.length
          · have := k1 (i - xs.length) (.int .i64 (nth ys (i - xs.length))) (by
              have : i - xs.length < ys.length := by omega
              simp [nth, this])
            rw [show off + xs.length + (i - xs.length) = off + i by omega] at this
            rw [this]; rfl
          · rw [k2 _ (by simp; omega)]
            exact (h5 i hi).1
      · intro hgrow v' w' k1 k2
        have hI : Ints w' w.heap.size v' (xs ++ ys) := by unfold Ints; simpa using k1
        refine h v' w' hI.sl ((hW.mono (by simp)).grown k2 (by simp)) (fun y hy => .inr ?_)
        have := (hI.own_lt y hy).1
        omega
    rcases hu with ⟨rfl, rfl | ⟨y, c, rfl, hcap⟩⟩ | ⟨h0, b, o2, c, rfl, m1, m2, m3⟩
    · refine wpList_plain hgd fun K hK => ?_
      have hrun : (Builtin.append_ #[28, 28] o.type #[.slice (some ⟨g, off, none⟩) xs.length cap, .slice none 0 0]).run Tryd.prog w = .ok (.slice (some ⟨g, off, none⟩) xs.length cap) w := by
        simp [Builtin.append_, run_underlying Tryd.underlying28, sizeOf, typeInfo, hi, Builtin.lenOf, Builtin.firstCells, h1, storeCells]
      unfold Oper.wp
      simp [execOp, ho, resolve, invoke, builtin, hs, hx, hrun, Result.andThen]
      refine hK _ _ (h _ _ (by rw [List.append_nil]; exact .inr ⟨g, off, cap, rfl, h1, h2, h3, h4, h5⟩) (hW.mono (by simp)) (Kin.refl _ _))
    · exact key y c rfl (fun j z hj => by simp at hj)
    · refine key ⟨b, o2, none⟩ c rfl (fun j z hj => ?_)
      have hjl : j < ys.length := by
        rcases Nat.lt_or_ge j ys.length with h | h
        · exact h
        · rw [List.getElem?_eq_none (by simpa using h)] at hj; cases hj
      rw [List.getElem?_map, List.getElem?_eq_getElem hjl] at hj
      simp at hj
      have e2 : ({ block := b, off := o2, spot := none } : Addr).add j = ⟨b, o2 + j, none⟩ := by
        unfold Addr.add
        split
        · rename_i h; subst h; rfl
        · rfl
      rw [e2, hW.cell (p := ⟨b, o2 + j, none⟩) (cell_lt (m3 j hjl)) (by simp), m3 j hjl, ← hj]
      simp [nth, hjl]

/-- .. to a list that is not empty: the new value's form. N: its length. -/
theorem wpList_append_sl_ne {ops : Array Oper} {rest : List Oper} {o : Oper} {a : Act} {w : World} {Q : Exit → Act → World → Prop} (hgd : o.guard = none) (s x : Operand)
    (ho : o.op = .call { callee := .builtin .append, args := #[s, x], argTypes := #[28, 28] })
    (W : World) (v : Value) (xs : List Int) (u : Value) (ys : List Int) (N : Nat) (hown : Sl W v xs) (hu : Reads W u ys) (hlen : xs.length + ys.length ≤ 1000000000) (h0 : xs ≠ []) (hN : (xs ++ ys).length = N)
    (hs : a.eval s = v) (hx : a.eval x = u) (hW : Only [] W w)
    (h : ∀ g off cap w', Sl w' (.slice (some ⟨g, off, none⟩) N cap) (xs ++ ys) → N ≤ cap → cap ≤ maxLen → Only (own v) W w' → Kin W (own v) (own (.slice (some ⟨g, off, none⟩) N cap)) →
      wpList Tryd.prog ops Q rest (a.put o.dst (.slice (some ⟨g, off, none⟩) N cap)) w') : wpList Tryd.prog ops Q (o :: rest) a w := by
  refine wpList_append_sl hgd s x ho W v xs u ys hown hu hlen hs hx hW ?_
  intro v' w' hI hO hK
  have hI2 := hI
  rcases hI with ⟨_, hI⟩ | ⟨g, off, cap, rfl, s1, s2, _⟩
  · exact absurd (List.append_eq_nil_iff.1 hI).1 h0
  · rw [hN] at hI2 s1 hK ⊢
    exact h g off cap w' hI2 s1 s2 hO hK

end Go.Proofs.YtoofalchkedciaaDoor
