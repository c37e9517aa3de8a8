/-
  Plans written out in the text are right: by a test.
  A list of ints that came in, no longer than what a machine holds (the form's own reach).
-/
import Derived.Test.YtbaoecmmggoaiaaP32CellsSame
import Derived.Test.YtbaoecmmggoaiaaP33CellsSame
import Derived.Test.YtbaoecmmggoaiaaP2CellsSame
import Derived.SizedLaws
import Derived.Test.YtbaoecmmggoaiaaP7CellsSame
namespace Go.Proofs.Ytbaoecmmggoaiaa
open Go.RowKit

/-- Each task is right by itself, and needs only those ahead of it. -/
def litOk (p : PlanL) : Bool := decide (p.length ≤ 30) && (List.range p.length).all fun i => decide (taskFault p.length (p[i]?.getD (0, [])) = 0) && (ndOf p i).all fun k => decide (k < i)

theorem litOk_ok {p : PlanL} (h : litOk p = true) : PlanOk p := by
  unfold litOk at h
  simp only [Bool.and_eq_true, decide_eq_true_eq, List.all_eq_true, List.mem_range] at h
  obtain ⟨h1, h2⟩ := h
  refine ⟨h1, fun i hi => (h2 i hi).1, fun i hi hr => ?_⟩
  have := acyc_of (p := p) (fun i k hk => by
    by_cases hi : i < p.length
    · have := (h2 i hi).2 (k : Int) hk
      omega
    · rw [ndOf_none _ _ (by omega)] at hk; cases hk) i i hr
  omega

/-- A row of numbers that is written out. -/
theorem lit_row {W : World} {b : Nat} (l : List Int) (h : W.heap[b]? = some (.cells (l.map (Value.int .i64)).toArray 3 (0, 0))) (hn : l.length ≤ 1000) : Reads W (.slice (some ⟨b, 0, none⟩) l.length l.length) l :=
  lit_ints h l (by simp) hn

end Go.Proofs.Ytbaoecmmggoaiaa

namespace Go.Proofs.Ytbaoecmmggoaiaa
open Go.RowKit Go.Deep Go.ChangeShapes Go.WideShapes

theorem bytes_intS : Try.prog.bytesOf 3 = 8 := by kernel_rfl

theorem sized_ints {H : Type} {ts : List TypeId} {ds : List (DataW H)} (h : (DataW.weightsEach Try.prog ts ds).all (· ≤ reachBytes) = true) (j : Nat) {d : DataW H} (ht : ts[j]? = some 36) (hd : ds[j]? = some d) :
    ∀ elems spare, d = .slice elems spare → (elems.length + spare.length) * 8 ≤ 140737488351232 := by
  rintro elems spare rfl
  have := sized_slice h ht hd Try.underlying36
  rw [bytes_intS] at this
  exact this

def SizedInts (w : World) (v : Value) (l : List Int) : Prop := InInts w v l ∧ l.length ≤ 17592186043904

set_option maxRecDepth 100000 in
theorem open_sints {H : Type} {enc : TypeId × Value → H} {W : World} {base : Nat} {v : Value} {d : DataW H} {p : List MemPlace}
    (hv : Value.okWide Try.prog W .any base 36 v) (h : DataW.Trod enc Try.prog W 0 (fun _ => true) true 36 v d p)
    (hz : ∀ elems spare, d = .slice elems spare → (elems.length + spare.length) * 8 ≤ 140737488351232) : ∃ l, SizedInts W v l := by
  obtain ⟨s, len, cap, rfl⟩ := okWide_slice Try.underlying36 hv
  obtain ⟨fuel, hf⟩ := h
  rcases open_ints Try.underlying36 Try.underlying3 (by kernel_rfl) hf with ⟨hcs, _⟩ | ⟨x, l, c, zs, hcs, _, hl, hm, hzs, hx, hcell, hwz⟩
  · simp [Value.cells] at hcs
    obtain ⟨rfl, rfl, rfl⟩ := hcs
    exact ⟨_, inInts_of_row (.inl ⟨rfl, rfl, rfl, rfl⟩), by simp⟩
  · simp [Value.cells] at hcs
    obtain ⟨rfl, rfl, rfl⟩ := hcs
    have hd := (Prod.mk.inj hx).1
    have hb := hz _ _ hd
    refine ⟨_, inInts_of_row (.inr ⟨_, rfl, hl, hm, by simpa using hzs, hcell, hwz⟩), ?_⟩
    have e1 : (lits .i64 (zs.take len) (H := H)).length = (zs.take len).length := by simp [lits]
    rw [e1] at hb
    omega

theorem SizedInts.only {w w' : World} {v : Value} {l : List Int} (h : SizedInts w v l) (ho : Only [] w w') : SizedInts w' v l := ⟨h.1.only ho, h.2⟩

end Go.Proofs.Ytbaoecmmggoaiaa
