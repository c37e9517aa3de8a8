/-
  Slices of structs of k one-cell fields that came in.
  Slices of api.Cell: plain facts, their cells, those that came in, those of the call's own, rows of cells that are written.
-/
import Derived.Test.YtloojhnhialenaaGreatDoorP5TopKept
import Derived.Deep.Slices
import Derived.Test.YtloojhnhialenaaGreatDoorP8TopKept
import Derived.Test.YtloojhnhialenaaGreatDoorP9TopKept
namespace Go.Proofs.YtloojhnhialenaaGreatDoor
open Go.RowKit Go.Deep Go.ChangeShapes Go.WideShapes

/-- The value v is a slice of n structs; the cells of the i-th are V i 0, .., V i (k - 1). -/
def Recs (w : World) (v : Value) (n k : Nat) (V : Nat → Nat → Value) : Prop :=
  ∃ a cap, v = .slice a n cap ∧ n ≤ cap ∧ cap ≤ maxLen ∧ (a = none → cap = 0) ∧ ∀ i, i < n → ∃ b off, a = some ⟨b, off, none⟩ ∧ ∀ j, j < k → w.cell? ⟨b, off + i * k + j, none⟩ = some (V i j)

theorem Recs.only {w w' : World} {v : Value} {n k : Nat} {V : Nat → Nat → Value} {S : List Nat} (h : Recs w v n k V) (ho : Only S w w') (hS : ∀ x ∈ own v, x ∉ S) : Recs w' v n k V := by
  obtain ⟨a, cap, rfl, h1, h2, h0, h3⟩ := h
  refine ⟨a, cap, rfl, h1, h2, h0, fun i hi => ?_⟩
  obtain ⟨b, off, rfl, c⟩ := h3 i hi
  have hb : b ∉ S := hS b (by simp [own, Value.ownBlock])
  exact ⟨b, off, rfl, fun j hj => (ho.cell (p := ⟨b, _, none⟩) (cell_lt (c j hj)) hb).trans (c j hj)⟩
theorem Recs.same {w w' : World} {v : Value} {n k : Nat} {V : Nat → Nat → Value} (h : Recs w v n k V) (ho : Only [] w w') : Recs w' v n k V := h.only ho (by simp)
theorem Recs.congr {w : World} {v : Value} {n k : Nat} {V V' : Nat → Nat → Value} (h : Recs w v n k V) (e : ∀ i j, i < n → j < k → V i j = V' i j) : Recs w v n k V' := by
  obtain ⟨a, cap, rfl, h1, h2, h0, h3⟩ := h
  refine ⟨a, cap, rfl, h1, h2, h0, fun i hi => ?_⟩
  obtain ⟨b, off, rfl, c⟩ := h3 i hi
  exact ⟨b, off, rfl, fun j hj => by rw [c j hj, e i j hi hj]⟩

/-- Their cells in a row. -/
def flatV (V : Nat → Nat → Value) (n k : Nat) : List Value := (List.range (n * k)).map fun j => V (j / k) (j % k)
theorem flatV_len (V : Nat → Nat → Value) (n k : Nat) : (flatV V n k).length = n * k := by simp [flatV]
theorem flatV_get (V : Nat → Nat → Value) (n k i j : Nat) (hi : i < n) (hj : j < k) : (flatV V n k)[i * k + j]? = some (V i j) := by
  have h1 : i * k + j < n * k := by
    have : (i + 1) * k ≤ n * k := Nat.mul_le_mul_right k (by omega)
    rw [Nat.add_mul] at this; omega
  have h2 : (i * k + j) / k = i := by rw [Nat.mul_comm, Nat.mul_add_div (by omega), Nat.div_eq_of_lt hj]; rfl
  have h3 : (i * k + j) % k = j := by rw [Nat.mul_comm, Nat.mul_add_mod, Nat.mod_eq_of_lt hj]
  unfold flatV
  rw [List.getElem?_map, List.getElem?_range h1]
  simp [h2, h3]

theorem Recs.row {w : World} {v : Value} {n k : Nat} {V : Nat → Nat → Value} (h : Recs w v n k V) (hk : 0 < k) (h1 : ∀ i j, i < n → j < k → (V i j).oneCell' = true) : RowAt w v n k (flatV V n k) := by
  obtain ⟨a, cap, rfl, k1, k2, k0, k3⟩ := h
  have hdiv : ∀ j, j < n * k → j / k < n ∧ j % k < k := fun j hj => ⟨(Nat.div_lt_iff_lt_mul hk).2 hj, Nat.mod_lt _ hk⟩
  refine ⟨flatV_len _ _ _, fun y hy => ?_, ?_⟩
  · obtain ⟨j, hj, rfl⟩ := List.mem_map.1 hy
    have hj : j < n * k := by simpa using hj
    exact h1 _ _ (hdiv j hj).1 (hdiv j hj).2
  · by_cases e : n = 0
    · subst e
      left
      refine ⟨rfl, ?_⟩
      cases a with
      | none => left; rw [k0 rfl]
      | some x => exact .inr ⟨x, cap, rfl⟩
    · obtain ⟨b, off, rfl, _⟩ := k3 0 (by omega)
      refine .inr ⟨by omega, b, off, cap, rfl, fun j y hy => ?_⟩
      have hj : j < n * k := by
        rcases Nat.lt_or_ge j (n * k) with hl | hl
        · exact hl
        · rw [List.getElem?_eq_none (by rw [flatV_len]; exact hl)] at hy; cases hy
      obtain ⟨b', off', hb, c⟩ := k3 (j / k) (hdiv j hj).1
      injection hb with hb
      injection hb with e1 e2
      subst e1 e2
      have := c (j % k) (hdiv j hj).2
      rw [show off + j / k * k + j % k = off + j by have := Nat.div_add_mod j k; rw [Nat.mul_comm] at this; omega] at this
      rw [this]
      unfold flatV at hy
      rw [List.getElem?_map, List.getElem?_range hj] at hy
      simpa using hy

set_option maxRecDepth 100000 in
/-- A slice of such structs that came in. -/
theorem open_recs {H : Type} {enc : TypeId × Value → H} {W : World} {base : Nat} {t e : TypeId} {fs : Array Field} {k : Nat} {v : Value} {d : DataW H} {p : List MemPlace}
    (ht : Tryz.prog.underlying t = some (.slice e)) (he : Tryz.prog.underlying e = some (.struct fs)) (hk : fs.size = k) (k0 : 0 < k)
    (ce : Tryz.prog.cellsOf e = k) (hf : ∀ (j : Nat) (f : Field), fs[j]? = some f → f.offset = j ∧ Tryz.prog.cellsOf f.type = 1)
    (hv : Value.okWide Tryz.prog W .any base t v) (h : DataW.Trod enc Tryz.prog W 0 (fun _ => true) true t v d p) :
    ∃ (n : Nat) (V : Nat → Nat → Value), Recs W v n k V ∧ ∀ i, i < n → ∀ (j : Nat) (f : Field), fs[j]? = some f → ∃ (m : Nat) (x : DataW H × List MemPlace), DataW.trod enc Tryz.prog W 0 (fun _ => true) true m f.type [V i j] = some x := by
  obtain ⟨s, len, cap, rfl⟩ := okWide_slice ht hv
  obtain ⟨fuel, hfu⟩ := h
  rcases open_slice ht hfu with ⟨hcs, _⟩ | ⟨a, len', cap', m, n, D, Pl, hcs, _, hl, hm, hmm, _, hi⟩
  · simp [Value.cells] at hcs
    obtain ⟨rfl, rfl, rfl⟩ := hcs
    exact ⟨0, fun _ _ => .nilIface, ⟨none, 0, rfl, Nat.le_refl _, Nat.zero_le _, fun _ => rfl, fun i hi => by omega⟩, fun i hi => by omega⟩
  · simp [Value.cells] at hcs
    obtain ⟨rfl, rfl, rfl⟩ := hcs
    have hlm : len ≤ m := by rw [hmm]; simp; omega
    rw [ce] at hi
    have each : ∀ i, i < len → ∃ cs' : List Value, cs'.length = k ∧ (∀ j, j < k → W.cell? ((a.add (i * k)).add j) = cs'[j]?) ∧ ∀ (j : Nat) (f : Field), fs[j]? = some f → ∃ (m : Nat) (x : DataW H × List MemPlace), DataW.trod enc Tryz.prog W 0 (fun _ => true) true m f.type [cs'[j]?.getD undef] = some x := by
      intro i hil
      obtain ⟨cs', g1, g2⟩ := hi i (by omega)
      obtain ⟨_, g3, g4⟩ := World.cells?_some g1
      refine ⟨cs', g3, g4, fun j f hjf => ?_⟩
      obtain ⟨xs, q, _, _, _, hxl, hff⟩ := DataW.trod_struct he g2
      have h5 := hff j f hjf
      obtain ⟨o1, o2⟩ := hf j f hjf
      have hj : j < fs.size := by
        rcases Nat.lt_or_ge j fs.size with h | h
        · exact h
        · rw [Array.getElem?_eq_none h] at hjf; cases hjf
      rw [o1, o2, List.getElem?_eq_getElem (by omega)] at h5
      have e1 : (cs'.drop j).take 1 = [cs'[j]?.getD undef] := by
        have hjc : j < cs'.length := by omega
        rw [List.getElem?_eq_getElem hjc, List.drop_eq_getElem_cons hjc]
        rfl
      rw [e1] at h5
      exact ⟨_, _, h5⟩
    obtain ⟨C, hC⟩ := choose_lt each
    refine ⟨len, fun i j => (C i)[j]?.getD undef, ⟨_, _, rfl, hl, hm, (fun h => by cases h), fun i hil => ?_⟩, fun i hil j f hjf => (hC i hil).2.2 j f hjf⟩
    obtain ⟨g3, g4, _⟩ := hC 0 (by omega)
    have g5 := g4 0 k0
    rw [List.getElem?_eq_getElem (by omega), Nat.zero_mul, add_add] at g5
    have hs := spot_none (x := a) g5
    obtain ⟨b, off, spot⟩ := a
    obtain rfl : spot = none := hs
    refine ⟨b, off, rfl, fun j hj => ?_⟩
    obtain ⟨g3, g4, _⟩ := hC i hil
    have := g4 j hj
    rw [add_flat, add_flat] at this
    rw [this]
    show (C i)[j]? = some ((C i)[j]?.getD undef)
    cases h : (C i)[j]? with
    | some x => rfl
    | none => exact absurd (List.getElem?_eq_none_iff.1 h) (by omega)

/-- A field of a struct type of k one-cell fields, all read off by one test. -/
theorem fields_ok {fs : Array Field} (h : ((List.range fs.size).all fun j => match fs[j]? with | some f => decide (f.offset = j) && decide (Tryz.prog.cellsOf f.type = 1) | none => true) = true) :
    ∀ (j : Nat) (f : Field), fs[j]? = some f → f.offset = j ∧ Tryz.prog.cellsOf f.type = 1 := by
  intro j f hf
  have hj : j < fs.size := by
    rcases Nat.lt_or_ge j fs.size with h | h
    · exact h
    · rw [Array.getElem?_eq_none h] at hf; cases hf
  have := (List.all_eq_true.1 h) j (by simpa using hj)
  rw [hf] at this
  simpa using this

end Go.Proofs.YtloojhnhialenaaGreatDoor

namespace Go.Proofs.YtloojhnhialenaaGreatDoor
open Go.RowKit Go.Deep Go.ChangeShapes Go.WideShapes

structure Ce where
  n : Int
  bad : Bool

def clCells (b : Ce) : List Value := [.int .i64 b.n, .bool b.bad]
def clZero : Ce := ⟨0, false⟩
def flatCl (bs : List Ce) : List Value := bs.flatMap clCells
def clAt (bs : List Ce) (i : Nat) : Ce := bs[i]?.getD clZero
theorem take_cl (bs : List Ce) (k : Nat) (h : k < bs.length) : bs.take (k + 1) = bs.take k ++ [clAt bs k] := by
  rw [List.take_succ_eq_append_getElem h]
  simp [clAt, h]
theorem clAt_mem {bs : List Ce} {k : Nat} (h : k < bs.length) : clAt bs k ∈ bs := by simp [clAt, h]

theorem flatCl_len (bs : List Ce) : (flatCl bs).length = bs.length * 2 := by
  induction bs with
  | nil => rfl
  | cons b bs ih => simp only [flatCl, List.flatMap_cons, List.length_append, List.length_cons] at ih ⊢; rw [ih]; simp [clCells]; omega
theorem clCells_one (b : Ce) : ∀ y ∈ clCells b, y.oneCell' = true := by
  intro y hb
  simp only [clCells, List.mem_cons, List.not_mem_nil, or_false] at hb
  rcases hb with rfl | rfl <;> rfl
theorem flatCl_one (bs : List Ce) : ∀ y ∈ flatCl bs, y.oneCell' = true := by
  intro y hy
  obtain ⟨b, _, hb⟩ := List.mem_flatMap.1 hy
  exact clCells_one b y hb
theorem flatCl_push (bs : List Ce) (b : Ce) : flatCl bs ++ [.int .i64 b.n, .bool b.bad] = flatCl (bs ++ [b]) := by
  simp [flatCl, clCells]
theorem flatCl_get (bs : List Ce) (i t : Nat) (hi : i < bs.length) (ht : t < 2) : (flatCl bs)[i * 2 + t]? = (clCells (clAt bs i))[t]? := by
  induction bs generalizing i with
  | nil => simp at hi
  | cons b bs ih =>
    rcases i with _ | i
    · simp only [flatCl, List.flatMap_cons, clAt]
      rw [List.getElem?_append_left (by simp [clCells]; omega)]
      simp
    · have e : (i + 1) * 2 + t = 2 + (i * 2 + t) := by omega
      have := ih i (by simpa using hi)
      simp only [flatCl, List.flatMap_cons] at this ⊢
      rw [e, List.getElem?_append_right (by simp [clCells]), show 2 + (i * 2 + t) - (clCells b).length = i * 2 + t by simp [clCells], this]
      simp [clAt]

/-- The value v is a slice of the records bs. -/
def KellsAt (w : World) (v : Value) (bs : List Ce) : Prop := RowAt w v bs.length 2 (flatCl bs)

theorem KellsAt.opt {w : World} {v : Value} {bs : List Ce} (h : KellsAt w v bs) :
    ∃ a cap, v = .slice a bs.length cap ∧ ∀ i, i < bs.length → ∃ b off, a = some ⟨b, off, none⟩ ∧
      w.cell? ⟨b, off + i * 2, none⟩ = some (.int .i64 (clAt bs i).n) ∧
      w.cell? ⟨b, off + i * 2 + 1, none⟩ = some (.bool (clAt bs i).bad) := by
  obtain ⟨hl, h1, h⟩ := h
  rcases h with ⟨h0, h | ⟨x, cap, h⟩⟩ | ⟨h0, b, off, cap, h, hc⟩
  · exact ⟨none, 0, by rw [h0]; exact h, fun i hi => by omega⟩
  · exact ⟨some x, cap, by rw [h0]; exact h, fun i hi => by omega⟩
  · refine ⟨_, cap, h, fun i hi => ⟨b, off, rfl, ?_, ?_⟩⟩
    · exact hc (i * 2) _ (by rw [show i * 2 = i * 2 + 0 from rfl, flatCl_get bs i 0 hi (by omega)]; rfl)
    · rw [Nat.add_assoc]; exact hc (i * 2 + 1) _ (by rw [flatCl_get bs i 1 hi (by omega)]; rfl)

theorem KellsAt.same {w w' : World} {v : Value} {bs : List Ce} (h : KellsAt w v bs) (ho : Only [] w w') : KellsAt w' v bs := RowAt.same h ho
theorem KellsAt.only {w w' : World} {v : Value} {bs : List Ce} {S : List Nat} (h : KellsAt w v bs) (ho : Only S w w') (hS : ∀ x ∈ own v, x ∉ S) : KellsAt w' v bs := RowAt.only h ho hS

theorem sliceOf_cl : SliceOf 31 98 2 16 :=
  sliceOf_parts (z := .agg #[.int .i64 0, .bool false]) Tryz.underlying31 (by kernel_rfl) rfl (by decide) (by decide)

/-- Records of the call's own. -/
def OwnKells (w : World) (base : Nat) (v : Value) (bs : List Ce) : Prop := w.ownsRow base 98 2 v bs.length (flatCl bs)
theorem OwnKells.at {w : World} {base : Nat} {v : Value} {bs : List Ce} (h : OwnKells w base v bs) : KellsAt w v bs := Row.at h (flatCl_one bs)
theorem OwnKells.nil (w : World) (base : Nat) : OwnKells w base (.slice none 0 0) [] := World.ownsRow_nil _ _ _ _

def clWf (b : Ce) : Prop := (Lit.int .i64 b.n).wf = true

/-- The value v is a slice that came in, with the records bs. -/
def InKells (w : World) (v : Value) (bs : List Ce) : Prop := (∀ b ∈ bs, clWf b) ∧ KellsAt w v bs ∧ bs.length ≤ maxLen
theorem InKells.same {w w' : World} {v : Value} {bs : List Ce} (h : InKells w v bs) (ho : Only [] w w') : InKells w' v bs := ⟨h.1, h.2.1.same ho, h.2.2⟩

theorem flatCl_eq (bs : List Ce) : flatCl bs = flatV (fun i j => (clCells (clAt bs i))[j]?.getD undef) bs.length 2 := by
  apply List.ext_getElem?
  intro m
  by_cases hm : m < bs.length * 2
  · have e : m = m / 2 * 2 + m % 2 := by omega
    have h1 : m / 2 < bs.length := by omega
    rw [e, flatCl_get _ _ _ h1 (by omega), flatV_get _ _ _ _ _ h1 (by omega)]
    have : m % 2 = 0 ∨ m % 2 = 1 := by omega
    rcases this with h | h <;> rw [h] <;> rfl
  · rw [List.getElem?_eq_none (by rw [flatCl_len]; omega), List.getElem?_eq_none (by rw [flatV_len]; omega)]

set_option maxRecDepth 100000 in
theorem open_cls {H : Type} {enc : TypeId × Value → H} {W : World} {base : Nat} {v : Value} {d : DataW H} {p : List MemPlace}
    (hv : Value.okWide Tryz.prog W .any base 31 v) (h : DataW.Trod enc Tryz.prog W 0 (fun _ => true) true 31 v d p) : ∃ l, InKells W v l := by
  obtain ⟨n, V, hR, hV⟩ := open_recs (k := 2) Tryz.underlying31 Tryz.underlying98 rfl (by omega) (by kernel_rfl) (fields_ok (by kernel_rfl)) hv h
  have key : ∀ i, i < n → ∃ b : Ce, (V i 0 = .int .i64 b.n ∧ V i 1 = .bool b.bad) ∧ clWf b := by
    intro i hi
    obtain ⟨_, x0, h0⟩ := hV i hi 0 _ rfl
    obtain ⟨_, x1, h1⟩ := hV i hi 1 _ rfl
    obtain ⟨a0, e0, _, w0⟩ := DataW.trod_int Tryz.underlying3 h0
    obtain ⟨a1, e1, _⟩ := DataW.trod_bool Tryz.underlying4 h1
    simp at e0 e1
    exact ⟨⟨a0, a1⟩, ⟨e0, e1⟩, w0⟩
  haveI : Inhabited Ce := ⟨clZero⟩
  obtain ⟨q, hq⟩ := choose_lt key
  have hl : ((List.range n).map q).length = n := by simp
  have hat : ∀ i, i < n → clAt ((List.range n).map q) i = q i := fun i hi => by simp [clAt, hi]
  have hmax : n ≤ maxLen := by obtain ⟨a, cap, _, h1, h2, _⟩ := hR; omega
  refine ⟨(List.range n).map q, ?_, ?_, by rw [hl]; exact hmax⟩
  · intro j hj
    obtain ⟨i, hi, rfl⟩ := List.mem_map.1 hj
    exact (hq i (List.mem_range.1 hi)).2
  · unfold KellsAt
    rw [flatCl_eq, hl]
    have hR2 := hR.congr (V' := fun i j => (clCells (clAt ((List.range n).map q) i))[j]?.getD undef) (fun i j hi hj => by
      rw [hat i hi]
      obtain ⟨⟨e0, e1⟩, _⟩ := hq i hi
      have : j = 0 ∨ j = 1 := by omega
      rcases this with rfl | rfl
      · exact e0
      · exact e1)
    refine hR2.row (by omega) fun i j hi hj => ?_
    have : j = 0 ∨ j = 1 := by omega
    rcases this with rfl | rfl <;> rfl

/-- A row of n records at block A that may be written: as a function. -/
def RowCl (w : World) (A n : Nat) (f : Nat → Ce) : Prop := ∀ i, i < n → ∀ j v, (clCells (f i))[j]? = some v → w.cell? ⟨A, i * 2 + j, none⟩ = some v ∧ w.frozen? ⟨A, i * 2 + j, none⟩ = false
def updCl (f : Nat → Ce) (j : Nat) (x : Ce) : Nat → Ce := fun i => if i = j then x else f i
theorem RowCl.only {w w' : World} {A n : Nat} {f : Nat → Ce} {S : List Nat} (h : RowCl w A n f) (ho : Only S w w') (hA : A ∉ S) : RowCl w' A n f := fun i hi j v hv => by
  obtain ⟨h1, h2⟩ := h i hi j v hv
  have hl := cell_lt h1
  exact ⟨(ho.cell (p := ⟨A, _, none⟩) hl hA).trans h1, (ho.frozen (p := ⟨A, _, none⟩) hl hA).trans h2⟩
theorem RowCl.congr {w : World} {A n : Nat} {f g : Nat → Ce} (h : RowCl w A n f) (e : ∀ i, i < n → f i = g i) : RowCl w A n g := fun i hi => by
  rw [← e i hi]; exact h i hi
theorem RowCl.at {w : World} {A n : Nat} {f : Nat → Ce} (h : RowCl w A n f) (i : Nat) (hi : i < n) : w.cell? ⟨A, i * 2, none⟩ = some (.int .i64 (f i).n) ∧ w.cell? ⟨A, i * 2 + 1, none⟩ = some (.bool (f i).bad) :=
  ⟨(h i hi 0 _ rfl).1, (h i hi 1 _ rfl).1⟩
theorem RowCl.set {w : World} {A n : Nat} {f : Nat → Ce} (h : RowCl w A n f) (x : Nat) (hx : x < n) (c : Ce) : RowCl (w.setCells A (x * 2) (clCells c)) A n (updCl f x c) := fun i hi j v hv => by
  have hj : j < 2 := by
    rcases Nat.lt_or_ge j 2 with h | h
    · exact h
    · rw [List.getElem?_eq_none (by simp [clCells]; omega)] at hv; cases hv
  obtain ⟨k1, k2, _, k4⟩ := cells_setCells (w := w) (b := A) (off := x * 2) (clCells c) (fun t ht => by
    have ht : t < (clCells (f x)).length := by simpa [clCells] using ht
    have := (h x hx t _ (List.getElem?_eq_getElem ht)).1
    rw [this]; rfl)
  have hfr : (w.setCells A (x * 2) (clCells c)).frozen? ⟨A, i * 2 + j, none⟩ = false := by
    rw [k4]
    have hj2 : j < (clCells (f i)).length := by simpa [clCells] using hj
    exact (h i hi j _ (List.getElem?_eq_getElem hj2)).2
  refine ⟨?_, hfr⟩
  unfold updCl at hv
  by_cases e : i = x
  · subst e
    rw [if_pos rfl] at hv
    exact k1 j v hv
  · rw [if_neg e] at hv
    rw [k2 _ (by simp [clCells]; omega)]
    exact (h i hi j v hv).1
/-- As a list. -/
def listCl (n : Nat) (f : Nat → Ce) : List Ce := (List.range n).map f
theorem listCl_len (n : Nat) (f : Nat → Ce) : (listCl n f).length = n := by simp [listCl]
theorem listCl_at (n : Nat) (f : Nat → Ce) (i : Nat) (hi : i < n) : clAt (listCl n f) i = f i := by simp [listCl, clAt, hi]
theorem RowCl.list {w : World} {A n : Nat} {f : Nat → Ce} (h : RowCl w A n f) (cap : Nat) : KellsAt w (.slice (some ⟨A, 0, none⟩) n cap) (listCl n f) := by
  refine ⟨by rw [flatCl_len], flatCl_one _, ?_⟩
  rw [listCl_len]
  by_cases h0 : n = 0
  · subst h0; exact .inl ⟨rfl, .inr ⟨_, cap, rfl⟩⟩
  · refine .inr ⟨by omega, A, 0, cap, rfl, fun j y hy => ?_⟩
    have hj : j < n * 2 := by
      rcases Nat.lt_or_ge j (flatCl (listCl n f)).length with hl | hl
      · rw [flatCl_len, listCl_len] at hl; exact hl
      · rw [List.getElem?_eq_none hl] at hy; cases hy
    have e : j = j / 2 * 2 + j % 2 := by omega
    have hi : j / 2 < n := by omega
    rw [e, flatCl_get _ _ _ (by rw [listCl_len]; exact hi) (by omega), listCl_at _ _ _ hi] at hy
    have := (h (j / 2) hi (j % 2) y hy).1
    rw [← e] at this
    rw [Nat.zero_add]; exact this

/-- A slice of the call's own, as a row that may be written. -/
theorem OwnKells.row {w : World} {base g cap n : Nat} {bs : List Ce} (h : w.ownsRow base 98 2 (.slice (some ⟨g, 0, none⟩) n cap) n (flatCl bs)) (hn : bs.length = n) : RowCl w g n (clAt bs) := fun i hi j v hv => by
  have hj : j < 2 := by
    rcases Nat.lt_or_ge j 2 with h | h
    · exact h
    · rw [List.getElem?_eq_none (by simp [clCells]; omega)] at hv; cases hv
  refine ⟨?_, World.ownsRow.frozenAt h _⟩
  rw [World.ownsRow.cellAt h _ (by omega), flatCl_get _ _ _ (by omega) hj]
  exact hv

theorem make_cl (n : Nat) (hn : n ≤ 1000000) (w : World) :
    (Instr.makeSlice 31 (.int .i64 (n : Int)) (.int .i64 (n : Int))).run Tryz.prog w = .ok (.slice (some ⟨w.heap.size, 0, none⟩) n n) (w.alloc (.cells (madeCells #[.int .i64 0, .bool false] (n * 2)) 98)) := by
  obtain ⟨i0, h1, h2, h3, h4⟩ := info_parts (P := Tryz.prog) (e := 98) (z := .agg #[.int .i64 0, .bool false]) (size := 2) (bytes := 16) (by kernel_rfl)
  have hr := run_make (P := Tryz.prog) w 31 98 i0 _ Tryz.underlying31 h1 h2 .i64 .i64 n n (by omega) (Int.le_refl _) (by rw [h4]; omega) (by omega)
  simp only [Int.toNat_natCast, h3] at hr
  exact hr

theorem made_cl (w : World) (n : Nat) : RowCl (w.alloc (.cells (madeCells #[.int .i64 0, .bool false] (n * 2)) 98)) w.heap.size n (fun _ => clZero) := fun i hi j v hv => by
  have hj : j < 2 := by
    rcases Nat.lt_or_ge j 2 with h | h
    · exact h
    · rw [List.getElem?_eq_none (by simp [clCells]; omega)] at hv; cases hv
  refine ⟨?_, World.frozen?_alloc_at _ _ _ _ rfl⟩
  rw [World.cell?_alloc_new]
  have e1 : (i * 2 + j) % 2 = j := by omega
  have e2 : i * 2 + j < n * 2 := by omega
  have : j = 0 ∨ j = 1 := by omega
  have e3 : (List.range (n * 2))[i * 2 + j]? = some (i * 2 + j) := List.getElem?_range e2
  unfold madeCells
  rw [← Array.getElem?_toList, Array.toList_map, Array.toList_range, List.getElem?_map, e3]
  simp only [Option.map_some]
  rcases this with rfl | rfl <;> simp [clCells, clZero] at hv e1 ⊢ <;> (try rw [e1]) <;> simpa using hv

end Go.Proofs.YtloojhnhialenaaGreatDoor
