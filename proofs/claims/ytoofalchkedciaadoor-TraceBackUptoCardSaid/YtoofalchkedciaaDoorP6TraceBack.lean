/-
  make([]int, n) and make([]bool, n): an equation for the walk, and what the new slice holds.
  Slices of deeds: plain facts, their cells, those that came in, those of the call's own.
  What is wrong with deeds, in plain words. No program is named here.
-/
import Derived.Test.YtoofalchkedciaaDoorP5TraceBack
import Derived.Deep.OwnRows
namespace Go.Proofs.YtoofalchkedciaaDoor
open Go.RowKit Go.Deep

theorem make_ints (n : Nat) (hn : n ≤ 1000000) (w : World) :
    (Instr.makeSlice 28 (.int .i64 (n : Int)) (.int .i64 (n : Int))).run Tryd.prog w = .ok (.slice (some ⟨w.heap.size, 0, none⟩) n n) (w.alloc (.cells (madeCells #[.int .i64 0] n) 3)) :=
  run_make_row' (P := Tryd.prog) 28 3 (.int .i64 0) 8 Tryd.underlying28 (by kernel_rfl) rfl .i64 .i64 n (by omega) (by omega) w

theorem made_size (z : Value) (n : Nat) : (madeCells #[z] n).size = n := by
  simp [madeCells]

theorem made_list (z : Value) (n : Nat) : (madeCells #[z] n).toList = List.replicate n z := by
  simp [madeCells, Nat.mod_one, List.map_const']

theorem made_ints (w : World) (n : Nat) (hn : n ≤ 1000000) : Ints (w.alloc (.cells (madeCells #[.int .i64 0] n) 3)) w.heap.size (.slice (some ⟨w.heap.size, 0, none⟩) n n) (List.replicate n 0) := by
  refine ⟨by simp, .inr ⟨w.heap.size, n, madeCells #[.int .i64 0] n, by simp, Nat.le_refl _, heap_alloc_new _ _, by simp, by unfold maxLen; omega, by rw [made_size]; simp, ?_⟩⟩
  rw [made_list]
  simp

end Go.Proofs.YtoofalchkedciaaDoor

namespace Go.Proofs.YtoofalchkedciaaDoor
open Go.RowKit Go.Deep Go.ChangeShapes Go.WideShapes

/-- A deed: what it is, whose, of which task, of whom. -/
structure Dd where
  what : Int
  hand : Int
  task : Int
  other : Int

def ddCells (b : Dd) : List Value := [.int .i64 b.what, .int .i64 b.hand, .int .i64 b.task, .int .i64 b.other]
def flatE (bs : List Dd) : List Value := bs.flatMap ddCells
def ddAt (bs : List Dd) (i : Nat) : Dd := bs[i]?.getD ⟨0, 0, 0, 0⟩
theorem take_dd (bs : List Dd) (k : Nat) (h : k < bs.length) : bs.take (k + 1) = bs.take k ++ [ddAt bs k] := by
  rw [List.take_succ_eq_append_getElem h]
  simp [ddAt, h]
theorem ddAt_mem {bs : List Dd} {k : Nat} (h : k < bs.length) : ddAt bs k ∈ bs := by simp [ddAt, h]

theorem flatE_len (bs : List Dd) : (flatE bs).length = bs.length * 4 := by
  induction bs with
  | nil => rfl
  | cons b bs ih => simp only [flatE, List.flatMap_cons, List.length_append, List.length_cons] at ih ⊢; rw [ih]; simp [ddCells]; omega
theorem flatE_one (bs : List Dd) : ∀ y ∈ flatE bs, y.oneCell' = true := by
  intro y hy
  obtain ⟨b, _, hb⟩ := List.mem_flatMap.1 hy
  simp only [ddCells, List.mem_cons, List.not_mem_nil, or_false] at hb
  rcases hb with rfl | rfl | rfl | rfl <;> rfl
theorem flatE_push (bs : List Dd) (b : Dd) : flatE bs ++ [.int .i64 b.what, .int .i64 b.hand, .int .i64 b.task, .int .i64 b.other] = flatE (bs ++ [b]) := by
  simp [flatE, ddCells]
theorem flatE_get (bs : List Dd) (i t : Nat) (hi : i < bs.length) (ht : t < 4) : (flatE bs)[i * 4 + t]? = (ddCells (ddAt bs i))[t]? := by
  induction bs generalizing i with
  | nil => simp at hi
  | cons b bs ih =>
    rcases i with _ | i
    · simp only [flatE, List.flatMap_cons, ddAt]
      rw [List.getElem?_append_left (by simp [ddCells]; omega)]
      simp
    · have e : (i + 1) * 4 + t = 4 + (i * 4 + t) := by omega
      have := ih i (by simpa using hi)
      simp only [flatE, List.flatMap_cons] at this ⊢
      rw [e, List.getElem?_append_right (by simp [ddCells]), show 4 + (i * 4 + t) - (ddCells b).length = i * 4 + t by simp [ddCells], this]
      simp [ddAt]

/-- The value v is a slice of the deeds bs. -/
def DeedsAt (w : World) (v : Value) (bs : List Dd) : Prop := RowAt w v bs.length 4 (flatE bs)

theorem DeedsAt.opt {w : World} {v : Value} {bs : List Dd} (h : DeedsAt w v bs) :
    ∃ a cap, v = .slice a bs.length cap ∧ ∀ i, i < bs.length → ∃ b off, a = some ⟨b, off, none⟩ ∧
      w.cell? ⟨b, off + i * 4, none⟩ = some (.int .i64 (ddAt bs i).what) ∧ w.cell? ⟨b, off + i * 4 + 1, none⟩ = some (.int .i64 (ddAt bs i).hand) ∧
      w.cell? ⟨b, off + i * 4 + 2, none⟩ = some (.int .i64 (ddAt bs i).task) ∧ w.cell? ⟨b, off + i * 4 + 3, none⟩ = some (.int .i64 (ddAt bs i).other) := by
  obtain ⟨hl, h1, h⟩ := h
  rcases h with ⟨h0, h | ⟨x, cap, h⟩⟩ | ⟨h0, b, off, cap, h, hc⟩
  · exact ⟨none, 0, by rw [h0]; exact h, fun i hi => by omega⟩
  · exact ⟨some x, cap, by rw [h0]; exact h, fun i hi => by omega⟩
  · refine ⟨_, cap, h, fun i hi => ⟨b, off, rfl, ?_, ?_, ?_, ?_⟩⟩
    · exact hc (i * 4) _ (by rw [show i * 4 = i * 4 + 0 from rfl, flatE_get bs i 0 hi (by omega)]; rfl)
    · rw [Nat.add_assoc]; exact hc (i * 4 + 1) _ (by rw [flatE_get bs i 1 hi (by omega)]; rfl)
    · rw [Nat.add_assoc]; exact hc (i * 4 + 2) _ (by rw [flatE_get bs i 2 hi (by omega)]; rfl)
    · rw [Nat.add_assoc]; exact hc (i * 4 + 3) _ (by rw [flatE_get bs i 3 hi (by omega)]; rfl)

theorem DeedsAt.same {w w' : World} {v : Value} {bs : List Dd} (h : DeedsAt w v bs) (ho : Only [] w w') : DeedsAt w' v bs := RowAt.same h ho

theorem sliceOf_deeds : SliceOf 42 46 4 32 :=
  sliceOf_parts (z := .agg #[.int .i64 0, .int .i64 0, .int .i64 0, .int .i64 0]) Tryd.underlying42 (by kernel_rfl) rfl (by decide) (by decide)

/-- Deeds of the call's own. -/
def OwnDeeds (w : World) (base : Nat) (v : Value) (bs : List Dd) : Prop := w.ownsRow base 46 4 v bs.length (flatE bs)
theorem OwnDeeds.at {w : World} {base : Nat} {v : Value} {bs : List Dd} (h : OwnDeeds w base v bs) : DeedsAt w v bs := Row.at h (flatE_one bs)
theorem OwnDeeds.nil (w : World) (base : Nat) : OwnDeeds w base (.slice none 0 0) [] := World.ownsRow_nil _ _ _ _

def ddWf (b : Dd) : Prop := (Lit.int .i64 b.what).wf = true ∧ (Lit.int .i64 b.hand).wf = true ∧ (Lit.int .i64 b.task).wf = true ∧ (Lit.int .i64 b.other).wf = true

/-- The value v is a slice that came in, with the deeds bs. -/
def InDeeds (w : World) (v : Value) (bs : List Dd) : Prop := (∀ b ∈ bs, ddWf b) ∧ DeedsAt w v bs ∧ bs.length ≤ maxLen ∧ ∀ a m c, v = .slice a m c → m ≤ c
theorem InDeeds.same {w w' : World} {v : Value} {bs : List Dd} (h : InDeeds w v bs) (ho : Only [] w w') : InDeeds w' v bs := ⟨h.1, h.2.1.same ho, h.2.2⟩

theorem flatE_eq (bs : List Dd) : flatE bs = flatV (fun i j => (ddCells (ddAt bs i))[j]?.getD undef) bs.length 4 := by
  apply List.ext_getElem?
  intro m
  by_cases hm : m < bs.length * 4
  · have e : m = m / 4 * 4 + m % 4 := by omega
    have h1 : m / 4 < bs.length := by omega
    rw [e, flatE_get _ _ _ h1 (by omega), flatV_get _ _ _ _ _ h1 (by omega)]
    have : m % 4 = 0 ∨ m % 4 = 1 ∨ m % 4 = 2 ∨ m % 4 = 3 := by omega
    rcases this with h | h | h | h <;> rw [h] <;> rfl
  · rw [List.getElem?_eq_none (by rw [flatE_len]; omega), List.getElem?_eq_none (by rw [flatV_len]; omega)]

set_option maxRecDepth 100000 in
theorem open_deeds {H : Type} {enc : TypeId × Value → H} {W : World} {base : Nat} {v : Value} {d : DataW H} {p : List MemPlace}
    (hv : Value.okWide Tryd.prog W .any base 42 v) (h : DataW.Trod enc Tryd.prog W 0 (fun _ => true) true 42 v d p) : ∃ l, InDeeds W v l := by
  obtain ⟨n, V, hR, hV⟩ := open_recs (k := 4) Tryd.underlying42 Tryd.underlying46 rfl (by omega) (by kernel_rfl) (fields_ok (by kernel_rfl)) hv h
  have key : ∀ i, i < n → ∃ b : Dd, (V i 0 = .int .i64 b.what ∧ V i 1 = .int .i64 b.hand ∧ V i 2 = .int .i64 b.task ∧ V i 3 = .int .i64 b.other) ∧ ddWf b := by
    intro i hi
    obtain ⟨_, x0, h0⟩ := hV i hi 0 _ rfl
    obtain ⟨_, x1, h1⟩ := hV i hi 1 _ rfl
    obtain ⟨_, x2, h2⟩ := hV i hi 2 _ rfl
    obtain ⟨_, x3, h3⟩ := hV i hi 3 _ rfl
    obtain ⟨a, e0, _, wa⟩ := DataW.trod_int Tryd.underlying3 h0
    obtain ⟨b, e1, _, wb⟩ := DataW.trod_int Tryd.underlying3 h1
    obtain ⟨c, e2, _, wc⟩ := DataW.trod_int Tryd.underlying3 h2
    obtain ⟨d, e3, _, wd⟩ := DataW.trod_int Tryd.underlying3 h3
    simp at e0 e1 e2 e3
    exact ⟨⟨a, b, c, d⟩, ⟨e0, e1, e2, e3⟩, wa, wb, wc, wd⟩
  haveI : Inhabited Dd := ⟨⟨0, 0, 0, 0⟩⟩
  obtain ⟨q, hq⟩ := choose_lt key
  have hl : ((List.range n).map q).length = n := by simp
  have hat : ∀ i, i < n → ddAt ((List.range n).map q) i = q i := fun i hi => by simp [ddAt, hi]
  have hmax : n ≤ maxLen := by obtain ⟨a, cap, _, h1, h2, _⟩ := hR; omega
  refine ⟨(List.range n).map q, ?_, ?_, by rw [hl]; exact hmax, fun a m c hv => by obtain ⟨a', cap, e, h1, _⟩ := hR; rw [hv] at e; injection e with _ e2 e3; omega⟩
  · intro j hj
    obtain ⟨i, hi, rfl⟩ := List.mem_map.1 hj
    exact (hq i (List.mem_range.1 hi)).2
  · unfold DeedsAt
    rw [flatE_eq, hl]
    have hR2 := hR.congr (V' := fun i j => (ddCells (ddAt ((List.range n).map q) i))[j]?.getD undef) (fun i j hi hj => by
      rw [hat i hi]
      obtain ⟨⟨e0, e1, e2, e3⟩, _⟩ := hq i hi
      have : j = 0 ∨ j = 1 ∨ j = 2 ∨ j = 3 := by omega
      rcases this with rfl | rfl | rfl | rfl
      · exact e0
      · exact e1
      · exact e2
      · exact e3)
    refine hR2.row (by omega) fun i j hi hj => ?_
    have : j = 0 ∨ j = 1 ∨ j = 2 ∨ j = 3 := by omega
    rcases this with rfl | rfl | rfl | rfl <;> rfl

end Go.Proofs.YtoofalchkedciaaDoor

namespace Go.Proofs.YtoofalchkedciaaDoor

def aloneB (what : Int) : Bool := decide (what = 5 ∨ what = 6)
/-- What is wrong with a deed. -/
def ddFault (d : Dd) : Int :=
  if d.what < 1 ∨ 6 < d.what ∨ d.hand < 0 ∨ 6 ≤ d.hand ∨ d.task < 0 ∨ 30 ≤ d.task ∨ (d.what = 2 ∧ (d.other < 0 ∨ 6 ≤ d.other)) then 1
  else if (d.what ≠ 2 ∧ d.other ≠ 0) ∨ ((d.what = 5 ∨ d.what = 6) ∧ d.task ≠ 0) then 3 else 0
/-- The first fault. -/
def firstDd : List Dd → Int
  | [] => 0
  | d :: l => if ddFault d = 0 then firstDd l else ddFault d
/-- What is wrong with deeds. -/
def ddsFault (l : List Dd) : Int := if 1000 < l.length then 4 else firstDd l

theorem firstDd_drop (l : List Dd) (i : Nat) (h : i < l.length) : firstDd (l.drop i) = if ddFault (ddAt l i) = 0 then firstDd (l.drop (i + 1)) else ddFault (ddAt l i) := by
  rw [List.drop_eq_getElem_cons h]
  simp [firstDd, ddAt, h]

theorem firstDd_zero (l : List Dd) : firstDd l = 0 ↔ ∀ d ∈ l, ddFault d = 0 := by
  induction l with
  | nil => simp [firstDd]
  | cons d l ih =>
    unfold firstDd
    by_cases h : ddFault d = 0
    · rw [if_pos h, ih]; simp [h]
    · rw [if_neg h]; simp [h]

/-- The ways a deed may be: wrong by range, by shape, or right. -/
theorem dd_range {d : Dd} (h : ddFault d = 1) : d.what < 1 ∨ (1 ≤ d.what ∧ 6 < d.what) ∨ (1 ≤ d.what ∧ d.what ≤ 6 ∧ d.hand < 0) ∨ (1 ≤ d.what ∧ d.what ≤ 6 ∧ 0 ≤ d.hand ∧ 6 ≤ d.hand) ∨ (1 ≤ d.what ∧ d.what ≤ 6 ∧ 0 ≤ d.hand ∧ d.hand < 6 ∧ d.task < 0) ∨
    (1 ≤ d.what ∧ d.what ≤ 6 ∧ 0 ≤ d.hand ∧ d.hand < 6 ∧ 0 ≤ d.task ∧ 30 ≤ d.task) ∨ (d.what = 2 ∧ 0 ≤ d.hand ∧ d.hand < 6 ∧ 0 ≤ d.task ∧ d.task < 30 ∧ d.other < 0) ∨ (d.what = 2 ∧ 0 ≤ d.hand ∧ d.hand < 6 ∧ 0 ≤ d.task ∧ d.task < 30 ∧ 0 ≤ d.other ∧ 6 ≤ d.other) := by
  unfold ddFault at h
  split at h
  · omega
  · split at h <;> omega
theorem dd_shape {d : Dd} (h : ddFault d = 3) : 1 ≤ d.what ∧ d.what ≤ 6 ∧ 0 ≤ d.hand ∧ d.hand < 6 ∧ 0 ≤ d.task ∧ d.task < 30 ∧ ((d.what ≠ 2 ∧ d.other ≠ 0) ∨ (d.what = 5 ∧ d.other = 0 ∧ d.task ≠ 0) ∨ (d.what = 6 ∧ d.other = 0 ∧ d.task ≠ 0)) := by
  unfold ddFault at h
  split at h
  · omega
  · split at h <;> omega
theorem dd_right {d : Dd} (h : ddFault d = 0) : 1 ≤ d.what ∧ d.what ≤ 6 ∧ 0 ≤ d.hand ∧ d.hand < 6 ∧ 0 ≤ d.task ∧ d.task < 30 ∧ ((d.what = 2 ∧ 0 ≤ d.other ∧ d.other < 6) ∨ (d.what = 5 ∧ d.other = 0 ∧ d.task = 0) ∨ (d.what = 6 ∧ d.other = 0 ∧ d.task = 0) ∨ (d.what ≠ 2 ∧ d.what ≠ 5 ∧ d.what ≠ 6 ∧ d.other = 0)) := by
  unfold ddFault at h
  split at h
  · omega
  · split at h <;> omega
theorem dd_three (d : Dd) : ddFault d = 1 ∨ ddFault d = 3 ∨ ddFault d = 0 := by
  unfold ddFault
  split
  · exact .inl rfl
  · split
    · exact .inr (.inl rfl)
    · exact .inr (.inr rfl)

end Go.Proofs.YtoofalchkedciaaDoor
