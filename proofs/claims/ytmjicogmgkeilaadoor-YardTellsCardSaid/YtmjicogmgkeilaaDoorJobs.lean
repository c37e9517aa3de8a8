/-
  Slices of jobs; contracts of package yard.
-/
import Derived.Test.YtmjicogmgkeilaaDoorStruc
import Derived.Test.YtmjicogmgkeilaaDoorYardP
namespace Go.Proofs.YtmjicogmgkeilaaDoor
open Go.RowKit Go.Deep Go.ChangeShapes Go.WideShapes

/-- The value v is a slice of jobs with the numbers l. -/
def InJobs (w : World) (v : Value) (l : List (Int × Int)) : Prop :=
  (∀ j ∈ l, (Lit.int .i64 j.1).wf = true ∧ (Lit.int .i64 j.2).wf = true) ∧
  Pairs w v l.length (fun i => .int .i64 (l[i]?.getD (0, 0)).1) (fun i => .int .i64 (l[i]?.getD (0, 0)).2)

set_option maxRecDepth 100000 in
theorem open_jobs {H : Type} {enc : TypeId × Value → H} {W : World} {base : Nat} {v : Value} {d : DataW H} {p : List MemPlace}
    (hv : Value.okWide Tryd.prog W .any base 73 v) (h : DataW.Trod enc Tryd.prog W 0 (fun _ => true) true 73 v d p) : ∃ l, InJobs W v l := by
  obtain ⟨n, A, B, hp, hAB⟩ := open_pairs Tryd.underlying73 Tryd.underlying82 (by kernel_rfl) rfl rfl (by kernel_rfl) (by kernel_rfl) hv h
  have key : ∀ i, i < n → ∃ x : Int × Int, A i = .int .i64 x.1 ∧ B i = .int .i64 x.2 ∧ (Lit.int .i64 x.1).wf = true ∧ (Lit.int .i64 x.2).wf = true := by
    intro i hi
    obtain ⟨k, x, y, hx, hy⟩ := hAB i hi
    obtain ⟨a, e0, _, wa⟩ := DataW.trod_int Tryd.underlying3 hx
    obtain ⟨b, e1, _, wb⟩ := DataW.trod_int Tryd.underlying3 hy
    simp at e0 e1
    exact ⟨(a, b), e0, e1, wa, wb⟩
  obtain ⟨q, hq⟩ := choose_lt key
  have hl : ((List.range n).map q).length = n := by simp
  refine ⟨(List.range n).map q, ?_, ?_⟩
  · intro j hj
    obtain ⟨i, hi, rfl⟩ := List.mem_map.1 hj
    exact (hq i (List.mem_range.1 hi)).2.2
  · obtain ⟨a, cap, rfl, h1, h2, h0, h3⟩ := hp
    rw [hl]
    refine ⟨a, cap, rfl, h1, h2, h0, fun i hi => ?_⟩
    obtain ⟨b, off, ha, k0, k1⟩ := h3 i hi
    refine ⟨b, off, ha, ?_, ?_⟩
    · rw [k0, (hq i hi).1]; simp [hi]
    · rw [k1, (hq i hi).2.1]; simp [hi]

theorem sliceOf_jobs : SliceOf 73 82 2 16 :=
  sliceOf_parts (z := .agg #[.int .i64 0, .int .i64 0]) Tryd.underlying73 (by kernel_rfl) rfl (by decide) (by decide)

/-- The cells of n jobs, all in a row. -/
def flatJ (W S : Nat → Nat) (n : Nat) : List Value := (List.range (n * 2)).map fun j => if j % 2 = 0 then .int .i64 (W (j / 2)) else .int .i64 (S (j / 2))
theorem flatJ_len (W S : Nat → Nat) (n : Nat) : (flatJ W S n).length = n * 2 := by simp [flatJ]
theorem flatJ_one (W S : Nat → Nat) (n : Nat) : ∀ y ∈ flatJ W S n, y.oneCell' = true := by
  intro y hy
  obtain ⟨j, _, rfl⟩ := List.mem_map.1 hy
  split <;> rfl
theorem flatJ_0 (W S : Nat → Nat) (n i : Nat) (h : i < n) : (flatJ W S n)[i * 2]? = some (.int .i64 (W i)) := by
  unfold flatJ
  rw [List.getElem?_map, List.getElem?_range (by omega)]
  simp
theorem flatJ_1 (W S : Nat → Nat) (n i : Nat) (h : i < n) : (flatJ W S n)[i * 2 + 1]? = some (.int .i64 (S i)) := by
  unfold flatJ
  rw [List.getElem?_map, List.getElem?_range (by omega)]
  have e1 : (i * 2 + 1) / 2 = i := by omega
  have e2 : (i * 2 + 1) % 2 = 1 := by omega
  simp [e1, e2]
theorem flatJ_set (W S : Nat → Nat) (n i x : Nat) (h : i < n) : (flatJ W S n).set (i * 2 + 1) (.int .i64 x) = flatJ W (upd S i x) n := by
  apply List.ext_getElem?
  intro j
  by_cases hj : j < n * 2
  · by_cases e : j = i * 2 + 1
    · subst e
      rw [flatJ_1 _ _ _ _ h, List.getElem?_set_self (by rw [flatJ_len]; omega), upd_same]
    · rw [List.getElem?_set_ne (Ne.symm e)]
      unfold flatJ
      rw [List.getElem?_map, List.getElem?_map, List.getElem?_range (by omega)]
      simp only [Option.map_some, Option.some.injEq]
      split
      · rfl
      · rw [upd_other _ _ _ _ (by omega)]
  · rw [List.getElem?_eq_none (by rw [List.length_set, flatJ_len]; omega), List.getElem?_eq_none (by rw [flatJ_len]; omega)]

/-- The value v is a slice of n jobs of the call's own: their weights W, what waits S. -/
def OwnJobs (w : World) (base : Nat) (v : Value) (n : Nat) (W S : Nat → Nat) : Prop := w.ownsRow base 82 2 v n (flatJ W S n)

theorem InJobs.at {w : World} {v : Value} {l : List (Int × Int)} (h : InJobs w v l) {n : Nat} {W S : Nat → Nat} (hn : l.length = n) (hWS : ∀ i, i < n → l[i]?.getD (0, 0) = ((W i : Int), (S i : Int))) : RowAt w v n 2 (flatJ W S n) := by
  obtain ⟨_, a, cap, rfl, h1, h2, h0, h3⟩ := h
  subst hn
  refine ⟨flatJ_len _ _ _, flatJ_one _ _ _, ?_⟩
  by_cases e : l.length = 0
  · rw [e]
    left
    refine ⟨rfl, ?_⟩
    cases a with
    | none => left; rw [h0 rfl]
    | some x => exact .inr ⟨x, cap, rfl⟩
  · obtain ⟨b, off, rfl, _, _⟩ := h3 0 (by omega)
    refine .inr ⟨by omega, b, off, cap, rfl, fun j y hy => ?_⟩
    have hj : j < l.length * 2 := by
      rcases Nat.lt_or_ge j (l.length * 2) with hl | hl
      · exact hl
      · rw [List.getElem?_eq_none (by rw [flatJ_len]; exact hl)] at hy; cases hy
    obtain ⟨b', off', hb, k0, k1⟩ := h3 (j / 2) (by omega)
    injection hb with hb
    injection hb with e1 e2
    subst e1 e2
    simp only [hWS (j / 2) (by omega)] at k0 k1
    unfold flatJ at hy
    rw [List.getElem?_map, List.getElem?_range (by omega)] at hy
    simp only [Option.map_some, Option.some.injEq] at hy
    subst hy
    split
    · rw [show off + j / 2 * 2 = off + j by omega] at k0; exact k0
    · rw [show off + j / 2 * 2 + 1 = off + j by omega] at k1; exact k1

/-- Jobs that may be. -/
def jobOk (j : Int × Int) : Prop := 1 ≤ j.1 ∧ j.1 ≤ 20 ∧ 0 ≤ j.2 ∧ j.2 ≤ 10000

end Go.Proofs.YtmjicogmgkeilaaDoor
