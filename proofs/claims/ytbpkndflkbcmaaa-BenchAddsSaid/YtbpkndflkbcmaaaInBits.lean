/-
  Slices of bits that came in.
-/
import Derived.Test.YtbpkndflkbcmaaaOpenR
import Derived.Test.YtbpkndflkbcmaaaBits
namespace Go.Proofs.Ytbpkndflkbcmaaa
open Go.RowKit Go.Deep Go.ChangeShapes Go.WideShapes

def bitWf (b : Bt) : Prop := (Lit.int .i64 b.step).wf = true ∧ (Lit.int .i64 b.hand).wf = true ∧ (Lit.int .i64 b.task).wf = true

/-- The value v is a slice that came in, with the bits bs. -/
def InBits (w : World) (v : Value) (bs : List Bt) : Prop := (∀ b ∈ bs, bitWf b) ∧ BitsAt w v bs ∧ bs.length ≤ maxLen

theorem flatB_eq (bs : List Bt) : flatB bs = flatV (fun i j => (bitCells (bitAt bs i))[j]?.getD undef) bs.length 3 := by
  apply List.ext_getElem?
  intro m
  by_cases hm : m < bs.length * 3
  · have e : m = m / 3 * 3 + m % 3 := by omega
    have h1 : m / 3 < bs.length := by omega
    rw [e, flatB_get _ _ _ h1 (by omega), flatV_get _ _ _ _ _ h1 (by omega)]
    have : m % 3 = 0 ∨ m % 3 = 1 ∨ m % 3 = 2 := by omega
    rcases this with h | h | h <;> rw [h] <;> rfl
  · rw [List.getElem?_eq_none (by rw [flatB_len]; omega), List.getElem?_eq_none (by rw [flatV_len]; omega)]

set_option maxRecDepth 100000 in
theorem open_bits {H : Type} {enc : TypeId × Value → H} {W : World} {base : Nat} {v : Value} {d : DataW H} {p : List MemPlace}
    (hv : Value.okWide Try.prog W .any base 70 v) (h : DataW.Trod enc Try.prog W 0 (fun _ => true) true 70 v d p) : ∃ l, InBits W v l := by
  obtain ⟨n, V, hR, hV⟩ := open_recs (k := 3) Try.underlying70 Try.underlying73 rfl (by omega) (by kernel_rfl) (fields_ok (by kernel_rfl)) hv h
  have key : ∀ i, i < n → ∃ b : Bt, (V i 0 = .int .i64 b.step ∧ V i 1 = .int .i64 b.hand ∧ V i 2 = .int .i64 b.task) ∧ bitWf b := by
    intro i hi
    obtain ⟨_, x0, h0⟩ := hV i hi 0 _ rfl
    obtain ⟨_, x1, h1⟩ := hV i hi 1 _ rfl
    obtain ⟨_, x2, h2⟩ := hV i hi 2 _ rfl
    obtain ⟨a, e0, _, wa⟩ := DataW.trod_int Try.underlying3 h0
    obtain ⟨b, e1, _, wb⟩ := DataW.trod_int Try.underlying3 h1
    obtain ⟨c, e2, _, wc⟩ := DataW.trod_int Try.underlying3 h2
    simp at e0 e1 e2
    exact ⟨⟨a, b, c⟩, ⟨e0, e1, e2⟩, wa, wb, wc⟩
  haveI : Inhabited Bt := ⟨⟨0, 0, 0⟩⟩
  obtain ⟨q, hq⟩ := choose_lt key
  have hl : ((List.range n).map q).length = n := by simp
  have hat : ∀ i, i < n → bitAt ((List.range n).map q) i = q i := fun i hi => by simp [bitAt, hi]
  have hmax : n ≤ maxLen := by obtain ⟨a, cap, _, h1, h2, _⟩ := hR; omega
  refine ⟨(List.range n).map q, ?_, ?_, by rw [hl]; exact hmax⟩
  · intro j hj
    obtain ⟨i, hi, rfl⟩ := List.mem_map.1 hj
    exact (hq i (List.mem_range.1 hi)).2
  · unfold BitsAt
    rw [flatB_eq, hl]
    have hR2 := hR.congr (V' := fun i j => (bitCells (bitAt ((List.range n).map q) i))[j]?.getD undef) (fun i j hi hj => by
      rw [hat i hi]
      obtain ⟨⟨e0, e1, e2⟩, _⟩ := hq i hi
      have : j = 0 ∨ j = 1 ∨ j = 2 := by omega
      rcases this with rfl | rfl | rfl
      · exact e0
      · exact e1
      · exact e2)
    refine hR2.row (by omega) fun i j hi hj => ?_
    have : j = 0 ∨ j = 1 ∨ j = 2 := by omega
    rcases this with rfl | rfl | rfl <;> rfl

theorem InBits.same {w w' : World} {v : Value} {bs : List Bt} (h : InBits w v bs) (ho : Only [] w w') : InBits w' v bs := ⟨h.1, h.2.1.same ho, h.2.2⟩

end Go.Proofs.Ytbpkndflkbcmaaa
