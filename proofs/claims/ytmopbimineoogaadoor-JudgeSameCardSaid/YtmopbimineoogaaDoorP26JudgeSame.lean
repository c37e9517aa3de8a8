/-
  Slices of stays: plain facts, their cells, those that came in, those of the call's own.
-/
import Derived.Test.YtmopbimineoogaaDoorP12JudgeSame
import Derived.Test.YtmopbimineoogaaDoorP7JudgeSame
namespace Go.Proofs.YtmopbimineoogaaDoor
open Go.RowKit Go.Deep Go.ChangeShapes Go.WideShapes

/-- A stay: its hand, its task, from when, to when. -/
structure St where
  hand : Int
  task : Int
  frm : Int
  til : Int

def stCells (b : St) : List Value := [.int .i64 b.hand, .int .i64 b.task, .int .i64 b.frm, .int .i64 b.til]
def flatS (bs : List St) : List Value := bs.flatMap stCells
def stAt (bs : List St) (i : Nat) : St := bs[i]?.getD ⟨0, 0, 0, 0⟩
theorem take_st (bs : List St) (k : Nat) (h : k < bs.length) : bs.take (k + 1) = bs.take k ++ [stAt bs k] := by
  rw [List.take_succ_eq_append_getElem h]
  simp [stAt, h]
theorem stAt_mem {bs : List St} {k : Nat} (h : k < bs.length) : stAt bs k ∈ bs := by simp [stAt, h]

theorem flatS_len (bs : List St) : (flatS bs).length = bs.length * 4 := by
  induction bs with
  | nil => rfl
  | cons b bs ih => simp only [flatS, List.flatMap_cons, List.length_append, List.length_cons] at ih ⊢; rw [ih]; simp [stCells]; omega
theorem flatS_one (bs : List St) : ∀ y ∈ flatS bs, y.oneCell' = true := by
  intro y hy
  obtain ⟨b, _, hb⟩ := List.mem_flatMap.1 hy
  simp only [stCells, List.mem_cons, List.not_mem_nil, or_false] at hb
  rcases hb with rfl | rfl | rfl | rfl <;> rfl
theorem flatS_push (bs : List St) (b : St) : flatS bs ++ [.int .i64 b.hand, .int .i64 b.task, .int .i64 b.frm, .int .i64 b.til] = flatS (bs ++ [b]) := by
  simp [flatS, stCells]
theorem flatS_get (bs : List St) (i t : Nat) (hi : i < bs.length) (ht : t < 4) : (flatS bs)[i * 4 + t]? = (stCells (stAt bs i))[t]? := by
  induction bs generalizing i with
  | nil => simp at hi
  | cons b bs ih =>
    rcases i with _ | i
    · simp only [flatS, List.flatMap_cons, stAt]
      rw [List.getElem?_append_left (by simp [stCells]; omega)]
      simp
    · have e : (i + 1) * 4 + t = 4 + (i * 4 + t) := by omega
      have := ih i (by simpa using hi)
      simp only [flatS, List.flatMap_cons] at this ⊢
      rw [e, List.getElem?_append_right (by simp [stCells]), show 4 + (i * 4 + t) - (stCells b).length = i * 4 + t by simp [stCells], this]
      simp [stAt]

/-- The value v is a slice of the stays bs. -/
def StaysAt (w : World) (v : Value) (bs : List St) : Prop := RowAt w v bs.length 4 (flatS bs)

theorem StaysAt.opt {w : World} {v : Value} {bs : List St} (h : StaysAt w v bs) :
    ∃ a cap, v = .slice a bs.length cap ∧ ∀ i, i < bs.length → ∃ b off, a = some ⟨b, off, none⟩ ∧
      w.cell? ⟨b, off + i * 4, none⟩ = some (.int .i64 (stAt bs i).hand) ∧ w.cell? ⟨b, off + i * 4 + 1, none⟩ = some (.int .i64 (stAt bs i).task) ∧
      w.cell? ⟨b, off + i * 4 + 2, none⟩ = some (.int .i64 (stAt bs i).frm) ∧ w.cell? ⟨b, off + i * 4 + 3, none⟩ = some (.int .i64 (stAt bs i).til) := by
  obtain ⟨hl, h1, h⟩ := h
  rcases h with ⟨h0, h | ⟨x, cap, h⟩⟩ | ⟨h0, b, off, cap, h, hc⟩
  · exact ⟨none, 0, by rw [h0]; exact h, fun i hi => by omega⟩
  · exact ⟨some x, cap, by rw [h0]; exact h, fun i hi => by omega⟩
  · refine ⟨_, cap, h, fun i hi => ⟨b, off, rfl, ?_, ?_, ?_, ?_⟩⟩
    · exact hc (i * 4) _ (by rw [show i * 4 = i * 4 + 0 from rfl, flatS_get bs i 0 hi (by omega)]; rfl)
    · rw [Nat.add_assoc]; exact hc (i * 4 + 1) _ (by rw [flatS_get bs i 1 hi (by omega)]; rfl)
    · rw [Nat.add_assoc]; exact hc (i * 4 + 2) _ (by rw [flatS_get bs i 2 hi (by omega)]; rfl)
    · rw [Nat.add_assoc]; exact hc (i * 4 + 3) _ (by rw [flatS_get bs i 3 hi (by omega)]; rfl)

theorem StaysAt.same {w w' : World} {v : Value} {bs : List St} (h : StaysAt w v bs) (ho : Only [] w w') : StaysAt w' v bs := RowAt.same h ho

theorem sliceOf_stays : SliceOf 25 45 4 32 :=
  sliceOf_parts (z := .agg #[.int .i64 0, .int .i64 0, .int .i64 0, .int .i64 0]) Tryd.underlying25 (by kernel_rfl) rfl (by decide) (by decide)

/-- Stays of the call's own. -/
def OwnStays (w : World) (base : Nat) (v : Value) (bs : List St) : Prop := w.ownsRow base 45 4 v bs.length (flatS bs)
theorem OwnStays.at {w : World} {base : Nat} {v : Value} {bs : List St} (h : OwnStays w base v bs) : StaysAt w v bs := Row.at h (flatS_one bs)
theorem OwnStays.nil (w : World) (base : Nat) : OwnStays w base (.slice none 0 0) [] := World.ownsRow_nil _ _ _ _

def stWf (b : St) : Prop := (Lit.int .i64 b.hand).wf = true ∧ (Lit.int .i64 b.task).wf = true ∧ (Lit.int .i64 b.frm).wf = true ∧ (Lit.int .i64 b.til).wf = true

/-- The value v is a slice that came in, with the stays bs. -/
def InStays (w : World) (v : Value) (bs : List St) : Prop := (∀ b ∈ bs, stWf b) ∧ StaysAt w v bs ∧ bs.length ≤ maxLen ∧ ∀ a m c, v = .slice a m c → m ≤ c
theorem InStays.same {w w' : World} {v : Value} {bs : List St} (h : InStays w v bs) (ho : Only [] w w') : InStays w' v bs := ⟨h.1, h.2.1.same ho, h.2.2⟩

theorem flatS_eq (bs : List St) : flatS bs = flatV (fun i j => (stCells (stAt bs i))[j]?.getD undef) bs.length 4 := by
  apply List.ext_getElem?
  intro m
  by_cases hm : m < bs.length * 4
  · have e : m = m / 4 * 4 + m % 4 := by omega
    have h1 : m / 4 < bs.length := by omega
    rw [e, flatS_get _ _ _ h1 (by omega), flatV_get _ _ _ _ _ h1 (by omega)]
    have : m % 4 = 0 ∨ m % 4 = 1 ∨ m % 4 = 2 ∨ m % 4 = 3 := by omega
    rcases this with h | h | h | h <;> rw [h] <;> rfl
  · rw [List.getElem?_eq_none (by rw [flatS_len]; omega), List.getElem?_eq_none (by rw [flatV_len]; omega)]

set_option maxRecDepth 100000 in
theorem open_stays {H : Type} {enc : TypeId × Value → H} {W : World} {base : Nat} {v : Value} {d : DataW H} {p : List MemPlace}
    (hv : Value.okWide Tryd.prog W .any base 25 v) (h : DataW.Trod enc Tryd.prog W 0 (fun _ => true) true 25 v d p) : ∃ l, InStays W v l := by
  obtain ⟨n, V, hR, hV⟩ := open_recs (k := 4) Tryd.underlying25 Tryd.underlying45 rfl (by omega) (by kernel_rfl) (fields_ok (by kernel_rfl)) hv h
  have key : ∀ i, i < n → ∃ b : St, (V i 0 = .int .i64 b.hand ∧ V i 1 = .int .i64 b.task ∧ V i 2 = .int .i64 b.frm ∧ V i 3 = .int .i64 b.til) ∧ stWf b := by
    intro i hi
    obtain ⟨_, x0, h0⟩ := hV i hi 0 _ rfl
    obtain ⟨_, x1, h1⟩ := hV i hi 1 _ rfl
    obtain ⟨_, x2, h2⟩ := hV i hi 2 _ rfl
    obtain ⟨_, x3, h3⟩ := hV i hi 3 _ rfl
    obtain ⟨a, e0, _, wa⟩ := DataW.trod_int Tryd.underlying3 h0
    obtain ⟨b, e1, _, wb⟩ := DataW.trod_int Tryd.underlying3 h1
    obtain ⟨c, e2, _, wc⟩ := DataW.trod_int Tryd.underlying3 h2
    obtain ⟨d, e3, _, wd⟩ := DataW.trod_int Tryd.underlying3 h3
    simp at e0 e1 e2 e3
    exact ⟨⟨a, b, c, d⟩, ⟨e0, e1, e2, e3⟩, wa, wb, wc, wd⟩
  haveI : Inhabited St := ⟨⟨0, 0, 0, 0⟩⟩
  obtain ⟨q, hq⟩ := choose_lt key
  have hl : ((List.range n).map q).length = n := by simp
  have hat : ∀ i, i < n → stAt ((List.range n).map q) i = q i := fun i hi => by simp [stAt, hi]
  have hmax : n ≤ maxLen := by obtain ⟨a, cap, _, h1, h2, _⟩ := hR; omega
  refine ⟨(List.range n).map q, ?_, ?_, by rw [hl]; exact hmax, fun a m c hv => by obtain ⟨a', cap, e, h1, _⟩ := hR; rw [hv] at e; injection e with _ e2 e3; omega⟩
  · intro j hj
    obtain ⟨i, hi, rfl⟩ := List.mem_map.1 hj
    exact (hq i (List.mem_range.1 hi)).2
  · unfold StaysAt
    rw [flatS_eq, hl]
    have hR2 := hR.congr (V' := fun i j => (stCells (stAt ((List.range n).map q) i))[j]?.getD undef) (fun i j hi hj => by
      rw [hat i hi]
      obtain ⟨⟨e0, e1, e2, e3⟩, _⟩ := hq i hi
      have : j = 0 ∨ j = 1 ∨ j = 2 ∨ j = 3 := by omega
      rcases this with rfl | rfl | rfl | rfl
      · exact e0
      · exact e1
      · exact e2
      · exact e3)
    refine hR2.row (by omega) fun i j hi hj => ?_
    have : j = 0 ∨ j = 1 ∨ j = 2 ∨ j = 3 := by omega
    rcases this with rfl | rfl | rfl | rfl <;> rfl

end Go.Proofs.YtmopbimineoogaaDoor
