/-
  Slices of slices of ints that came in, each of a length that a machine can hold (the form's own reach).
-/
import Derived.Test.YtadjcooemeaaeaaDoorSteps
import Derived.SizedLaws
namespace Go.Proofs.YtadjcooemeaaeaaDoor
open Go.RowKit Go.Deep Go.ChangeShapes Go.WideShapes

theorem weightsAll_mem {H : Type} {P : Program} {e : TypeId} : ∀ {l : List (DataW H)} {d : DataW H}, d ∈ l → ∀ n ∈ d.weights P e, n ∈ DataW.weightsAll P e l
  | d' :: r, d, hd, n, hn => by
    simp only [DataW.weightsAll, List.mem_append]
    rcases List.mem_cons.1 hd with rfl | h
    · exact Or.inl hn
    · exact Or.inr (weightsAll_mem h n hn)

theorem bytes_int : Tryd.prog.bytesOf 3 = 8 := by kernel_rfl

/-- What the reach says of a slice of slices of ints. -/
theorem sized_rows {H : Type} {ts : List TypeId} {ds : List (DataW H)} (h : (DataW.weightsEach Tryd.prog ts ds).all (· ≤ reachBytes) = true) (j : Nat) {d : DataW H} (ht : ts[j]? = some 22) (hd : ds[j]? = some d) :
    ∀ elems spare e' sp', d = .slice elems spare → DataW.slice e' sp' ∈ elems → (e'.length + sp'.length) * 8 ≤ 140737488351232 := by
  rintro elems spare e' sp' rfl hx
  have := of_decide_eq_true (List.all_eq_true.1 h _ (DataW.weights_mem_each (n := (e'.length + sp'.length) * Tryd.prog.bytesOf 3) ht hd (by
    simp only [DataW.weights, Tryd.underlying22, List.mem_cons, List.mem_append]
    exact Or.inr (Or.inl (weightsAll_mem hx _ (by simp [DataW.weights, Tryd.underlying30]))))))
  rw [bytes_int] at this
  exact this

def SizedRows (w : World) (v : Value) (ls : List (List Int)) : Prop := InRows w v ls ∧ ∀ l ∈ ls, l.length ≤ 17592186043904

set_option maxRecDepth 100000 in
theorem open_srows {H : Type} {enc : TypeId × Value → H} {W : World} {base : Nat} {v : Value} {d : DataW H} {p : List MemPlace}
    (hv : Value.okWide Tryd.prog W .any base 22 v) (h : DataW.Trod enc Tryd.prog W 0 (fun _ => true) true 22 v d p)
    (hz : ∀ elems spare e' sp', d = .slice elems spare → DataW.slice e' sp' ∈ elems → (e'.length + sp'.length) * 8 ≤ 140737488351232) : ∃ l, SizedRows W v l := by
  obtain ⟨s, len, cap, rfl⟩ := okWide_slice Tryd.underlying22 hv
  obtain ⟨fuel, hf⟩ := h
  rcases open_int_rows Tryd.underlying22 Tryd.underlying30 Tryd.underlying3 (by kernel_rfl) (by kernel_rfl) hf with ⟨hcs, _⟩ | ⟨a, len', cap', A, L, C, Z, hcs, _, hl, hm, hx, hr⟩
  · simp [Value.cells] at hcs
    obtain ⟨rfl, rfl, rfl⟩ := hcs
    exact ⟨[], ⟨fun _ => .nilIface, ⟨none, 0, rfl, Nat.le_refl _, Nat.zero_le _, fun i hi => by simp at hi⟩, fun i hi => by simp at hi⟩, by simp⟩
  · simp [Value.cells] at hcs
    obtain ⟨rfl, rfl, rfl⟩ := hcs
    have hd := (Prod.mk.inj hx).1
    refine ⟨(List.range len).map (fun r => (Z r).take (L r)), ⟨fun r => .slice (A r) (L r) (C r), ⟨some a, cap, by simp, by simpa using hl, hm, fun i hi => ?_⟩, fun i hi => ?_⟩, fun l hl2 => ?_⟩
    · simp at hi
      obtain ⟨k0, _⟩ := hr 0 (by omega)
      have hs := spot_none (x := a) k0
      obtain ⟨b, off, spot⟩ := a
      obtain rfl : spot = none := hs
      have := (hr i (by omega)).1
      rw [add_flat] at this
      exact ⟨b, off, rfl, this⟩
    · simp at hi
      obtain ⟨_, k1, k2, k3, k4, k5, k6⟩ := hr i (by omega)
      rw [show ((List.range len).map (fun r => (Z r).take (L r)))[i]?.getD [] = (Z i).take (L i) by simp [hi]]
      apply inInts_of_row
      cases hA : A i with
      | none =>
        have h0 := k5 hA
        exact .inl ⟨rfl, by omega, h0, List.eq_nil_of_length_eq_zero (by omega)⟩
      | some x => exact .inr ⟨x, rfl, k1, k2, k3, fun c hc => (k6 x hA).2 c (by omega), k4⟩
    · obtain ⟨i, hi, rfl⟩ := List.mem_map.1 hl2
      have hi' : i < len := by simpa using hi
      obtain ⟨_, k1, k2, k3, k4, k5, k6⟩ := hr i (by omega)
      rw [List.length_take]
      cases hA : A i with
      | none => have h0 := k5 hA; omega
      | some x =>
        have := hz _ _ (lits .i64 ((Z i).take (L i))) (lits .i64 ((Z i).drop (L i))) hd (List.mem_map.2 ⟨i, hi, by simp [intRow, hA]⟩)
        simp only [lits, List.length_map, List.length_take] at this
        omega

end Go.Proofs.YtadjcooemeaaeaaDoor
