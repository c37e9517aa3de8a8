/-
  Slices of api.Op: plain facts, their cells, those that came in, those of the call's own, rows of cells that are written.
  Cells in plain words: what an op comes to, what all tasks come to along an order.
-/
import Derived.Test.YtoofalchkedciaaGreatDoorP10TopGang
import Derived.Test.YtoofalchkedciaaGreatDoorP8TopGang
import Derived.Test.YtoofalchkedciaaGreatDoorP27TopGang
import Derived.Test.YtoofalchkedciaaGreatDoorP6TopGang
namespace Go.Proofs.YtoofalchkedciaaGreatDoor
open Go.RowKit Go.Deep Go.ChangeShapes Go.WideShapes

structure Opn where
  what : Int
  n : Int

def opCells (b : Opn) : List Value := [.int .i64 b.what, .int .i64 b.n]
def opZero : Opn := ⟨0, 0⟩
def flatOp (bs : List Opn) : List Value := bs.flatMap opCells
def opAt (bs : List Opn) (i : Nat) : Opn := bs[i]?.getD opZero
theorem take_op (bs : List Opn) (k : Nat) (h : k < bs.length) : bs.take (k + 1) = bs.take k ++ [opAt bs k] := by
  rw [List.take_succ_eq_append_getElem h]
  simp [opAt, h]
theorem opAt_mem {bs : List Opn} {k : Nat} (h : k < bs.length) : opAt bs k ∈ bs := by simp [opAt, h]

theorem flatOp_len (bs : List Opn) : (flatOp bs).length = bs.length * 2 := by
  induction bs with
  | nil => rfl
  | cons b bs ih => simp only [flatOp, List.flatMap_cons, List.length_append, List.length_cons] at ih ⊢; rw [ih]; simp [opCells]; omega
theorem opCells_one (b : Opn) : ∀ y ∈ opCells b, y.oneCell' = true := by
  intro y hb
  simp only [opCells, List.mem_cons, List.not_mem_nil, or_false] at hb
  rcases hb with rfl | rfl <;> rfl
theorem flatOp_one (bs : List Opn) : ∀ y ∈ flatOp bs, y.oneCell' = true := by
  intro y hy
  obtain ⟨b, _, hb⟩ := List.mem_flatMap.1 hy
  exact opCells_one b y hb
theorem flatOp_push (bs : List Opn) (b : Opn) : flatOp bs ++ [.int .i64 b.what, .int .i64 b.n] = flatOp (bs ++ [b]) := by
  simp [flatOp, opCells]
theorem flatOp_get (bs : List Opn) (i t : Nat) (hi : i < bs.length) (ht : t < 2) : (flatOp bs)[i * 2 + t]? = (opCells (opAt bs i))[t]? := by
  induction bs generalizing i with
  | nil => simp at hi
  | cons b bs ih =>
    rcases i with _ | i
    · simp only [flatOp, List.flatMap_cons, opAt]
      rw [List.getElem?_append_left (by simp [opCells]; omega)]
      simp
    · have e : (i + 1) * 2 + t = 2 + (i * 2 + t) := by omega
      have := ih i (by simpa using hi)
      simp only [flatOp, List.flatMap_cons] at this ⊢
      rw [e, List.getElem?_append_right (by simp [opCells]), show 2 + (i * 2 + t) - (opCells b).length = i * 2 + t by simp [opCells], this]
      simp [opAt]

/-- The value v is a slice of the records bs. -/
def OpsAt (w : World) (v : Value) (bs : List Opn) : Prop := RowAt w v bs.length 2 (flatOp bs)

theorem OpsAt.opt {w : World} {v : Value} {bs : List Opn} (h : OpsAt w v bs) :
    ∃ a cap, v = .slice a bs.length cap ∧ ∀ i, i < bs.length → ∃ b off, a = some ⟨b, off, none⟩ ∧
      w.cell? ⟨b, off + i * 2, none⟩ = some (.int .i64 (opAt bs i).what) ∧
      w.cell? ⟨b, off + i * 2 + 1, none⟩ = some (.int .i64 (opAt bs i).n) := by
  obtain ⟨hl, h1, h⟩ := h
  rcases h with ⟨h0, h | ⟨x, cap, h⟩⟩ | ⟨h0, b, off, cap, h, hc⟩
  · exact ⟨none, 0, by rw [h0]; exact h, fun i hi => by omega⟩
  · exact ⟨some x, cap, by rw [h0]; exact h, fun i hi => by omega⟩
  · refine ⟨_, cap, h, fun i hi => ⟨b, off, rfl, ?_, ?_⟩⟩
    · exact hc (i * 2) _ (by rw [show i * 2 = i * 2 + 0 from rfl, flatOp_get bs i 0 hi (by omega)]; rfl)
    · rw [Nat.add_assoc]; exact hc (i * 2 + 1) _ (by rw [flatOp_get bs i 1 hi (by omega)]; rfl)

theorem OpsAt.same {w w' : World} {v : Value} {bs : List Opn} (h : OpsAt w v bs) (ho : Only [] w w') : OpsAt w' v bs := RowAt.same h ho
theorem OpsAt.only {w w' : World} {v : Value} {bs : List Opn} {S : List Nat} (h : OpsAt w v bs) (ho : Only S w w') (hS : ∀ x ∈ own v, x ∉ S) : OpsAt w' v bs := RowAt.only h ho hS

theorem sliceOf_op : SliceOf 82 232 2 16 :=
  sliceOf_parts (z := .agg #[.int .i64 0, .int .i64 0]) Tryz.underlying82 (by kernel_rfl) rfl (by decide) (by decide)

/-- Records of the call's own. -/
def OwnOps (w : World) (base : Nat) (v : Value) (bs : List Opn) : Prop := w.ownsRow base 232 2 v bs.length (flatOp bs)
theorem OwnOps.at {w : World} {base : Nat} {v : Value} {bs : List Opn} (h : OwnOps w base v bs) : OpsAt w v bs := Row.at h (flatOp_one bs)
theorem OwnOps.nil (w : World) (base : Nat) : OwnOps w base (.slice none 0 0) [] := World.ownsRow_nil _ _ _ _

def opWf (b : Opn) : Prop := (Lit.int .i64 b.what).wf = true ∧ (Lit.int .i64 b.n).wf = true

/-- The value v is a slice that came in, with the records bs. -/
def InOps (w : World) (v : Value) (bs : List Opn) : Prop := (∀ b ∈ bs, opWf b) ∧ OpsAt w v bs ∧ bs.length ≤ maxLen
theorem InOps.same {w w' : World} {v : Value} {bs : List Opn} (h : InOps w v bs) (ho : Only [] w w') : InOps w' v bs := ⟨h.1, h.2.1.same ho, h.2.2⟩

theorem flatOp_eq (bs : List Opn) : flatOp bs = flatV (fun i j => (opCells (opAt bs i))[j]?.getD undef) bs.length 2 := by
  apply List.ext_getElem?
  intro m
  by_cases hm : m < bs.length * 2
  · have e : m = m / 2 * 2 + m % 2 := by omega
    have h1 : m / 2 < bs.length := by omega
    rw [e, flatOp_get _ _ _ h1 (by omega), flatV_get _ _ _ _ _ h1 (by omega)]
    have : m % 2 = 0 ∨ m % 2 = 1 := by omega
    rcases this with h | h <;> rw [h] <;> rfl
  · rw [List.getElem?_eq_none (by rw [flatOp_len]; omega), List.getElem?_eq_none (by rw [flatV_len]; omega)]

set_option maxRecDepth 100000 in
theorem open_ops {H : Type} {enc : TypeId × Value → H} {W : World} {base : Nat} {v : Value} {d : DataW H} {p : List MemPlace}
    (hv : Value.okWide Tryz.prog W .any base 82 v) (h : DataW.Trod enc Tryz.prog W 0 (fun _ => true) true 82 v d p) : ∃ l, InOps W v l := by
  obtain ⟨n, V, hR, hV⟩ := open_recs (k := 2) Tryz.underlying82 Tryz.underlying232 rfl (by omega) (by kernel_rfl) (fields_ok (by kernel_rfl)) hv h
  have key : ∀ i, i < n → ∃ b : Opn, (V i 0 = .int .i64 b.what ∧ V i 1 = .int .i64 b.n) ∧ opWf b := by
    intro i hi
    obtain ⟨_, x0, h0⟩ := hV i hi 0 _ rfl
    obtain ⟨_, x1, h1⟩ := hV i hi 1 _ rfl
    obtain ⟨a0, e0, _, w0⟩ := DataW.trod_int Tryz.underlying3 h0
    obtain ⟨a1, e1, _, w1⟩ := DataW.trod_int Tryz.underlying3 h1
    simp at e0 e1
    exact ⟨⟨a0, a1⟩, ⟨e0, e1⟩, w0, w1⟩
  haveI : Inhabited Opn := ⟨opZero⟩
  obtain ⟨q, hq⟩ := choose_lt key
  have hl : ((List.range n).map q).length = n := by simp
  have hat : ∀ i, i < n → opAt ((List.range n).map q) i = q i := fun i hi => by simp [opAt, hi]
  have hmax : n ≤ maxLen := by obtain ⟨a, cap, _, h1, h2, _⟩ := hR; omega
  refine ⟨(List.range n).map q, ?_, ?_, by rw [hl]; exact hmax⟩
  · intro j hj
    obtain ⟨i, hi, rfl⟩ := List.mem_map.1 hj
    exact (hq i (List.mem_range.1 hi)).2
  · unfold OpsAt
    rw [flatOp_eq, hl]
    have hR2 := hR.congr (V' := fun i j => (opCells (opAt ((List.range n).map q) i))[j]?.getD undef) (fun i j hi hj => by
      rw [hat i hi]
      obtain ⟨⟨e0, e1⟩, _⟩ := hq i hi
      have : j = 0 ∨ j = 1 := by omega
      rcases this with rfl | rfl
      · exact e0
      · exact e1)
    refine hR2.row (by omega) fun i j hi hj => ?_
    have : j = 0 ∨ j = 1 := by omega
    rcases this with rfl | rfl <;> rfl

/-- A row of n records at block A that may be written: as a function. -/
def RowOp (w : World) (A n : Nat) (f : Nat → Opn) : Prop := ∀ i, i < n → ∀ j v, (opCells (f i))[j]? = some v → w.cell? ⟨A, i * 2 + j, none⟩ = some v ∧ w.frozen? ⟨A, i * 2 + j, none⟩ = false
def updOp (f : Nat → Opn) (j : Nat) (x : Opn) : Nat → Opn := fun i => if i = j then x else f i
theorem RowOp.only {w w' : World} {A n : Nat} {f : Nat → Opn} {S : List Nat} (h : RowOp w A n f) (ho : Only S w w') (hA : A ∉ S) : RowOp w' A n f := fun i hi j v hv => by
  obtain ⟨h1, h2⟩ := h i hi j v hv
  have hl := cell_lt h1
  exact ⟨(ho.cell (p := ⟨A, _, none⟩) hl hA).trans h1, (ho.frozen (p := ⟨A, _, none⟩) hl hA).trans h2⟩
theorem RowOp.congr {w : World} {A n : Nat} {f g : Nat → Opn} (h : RowOp w A n f) (e : ∀ i, i < n → f i = g i) : RowOp w A n g := fun i hi => by
  rw [← e i hi]; exact h i hi
theorem RowOp.at {w : World} {A n : Nat} {f : Nat → Opn} (h : RowOp w A n f) (i : Nat) (hi : i < n) : w.cell? ⟨A, i * 2, none⟩ = some (.int .i64 (f i).what) ∧ w.cell? ⟨A, i * 2 + 1, none⟩ = some (.int .i64 (f i).n) :=
  ⟨(h i hi 0 _ rfl).1, (h i hi 1 _ rfl).1⟩
theorem RowOp.set {w : World} {A n : Nat} {f : Nat → Opn} (h : RowOp w A n f) (x : Nat) (hx : x < n) (c : Opn) : RowOp (w.setCells A (x * 2) (opCells c)) A n (updOp f x c) := fun i hi j v hv => by
  have hj : j < 2 := by
    rcases Nat.lt_or_ge j 2 with h | h
    · exact h
    · rw [List.getElem?_eq_none (by simp [opCells]; omega)] at hv; cases hv
  obtain ⟨k1, k2, _, k4⟩ := cells_setCells (w := w) (b := A) (off := x * 2) (opCells c) (fun t ht => by
    have ht : t < (opCells (f x)).length := by simpa [opCells] using ht
    have := (h x hx t _ (List.getElem?_eq_getElem ht)).1
    rw [this]; rfl)
  have hfr : (w.setCells A (x * 2) (opCells c)).frozen? ⟨A, i * 2 + j, none⟩ = false := by
    rw [k4]
    have hj2 : j < (opCells (f i)).length := by simpa [opCells] using hj
    exact (h i hi j _ (List.getElem?_eq_getElem hj2)).2
  refine ⟨?_, hfr⟩
  unfold updOp at hv
  by_cases e : i = x
  · subst e
    rw [if_pos rfl] at hv
    exact k1 j v hv
  · rw [if_neg e] at hv
    rw [k2 _ (by simp [opCells]; omega)]
    exact (h i hi j v hv).1
/-- As a list. -/
def listOp (n : Nat) (f : Nat → Opn) : List Opn := (List.range n).map f
theorem listOp_len (n : Nat) (f : Nat → Opn) : (listOp n f).length = n := by simp [listOp]
theorem listOp_at (n : Nat) (f : Nat → Opn) (i : Nat) (hi : i < n) : opAt (listOp n f) i = f i := by simp [listOp, opAt, hi]
theorem RowOp.list {w : World} {A n : Nat} {f : Nat → Opn} (h : RowOp w A n f) (cap : Nat) : OpsAt w (.slice (some ⟨A, 0, none⟩) n cap) (listOp n f) := by
  refine ⟨by rw [flatOp_len], flatOp_one _, ?_⟩
  rw [listOp_len]
  by_cases h0 : n = 0
  · subst h0; exact .inl ⟨rfl, .inr ⟨_, cap, rfl⟩⟩
  · refine .inr ⟨by omega, A, 0, cap, rfl, fun j y hy => ?_⟩
    have hj : j < n * 2 := by
      rcases Nat.lt_or_ge j (flatOp (listOp n f)).length with hl | hl
      · rw [flatOp_len, listOp_len] at hl; exact hl
      · rw [List.getElem?_eq_none hl] at hy; cases hy
    have e : j = j / 2 * 2 + j % 2 := by omega
    have hi : j / 2 < n := by omega
    rw [e, flatOp_get _ _ _ (by rw [listOp_len]; exact hi) (by omega), listOp_at _ _ _ hi] at hy
    have := (h (j / 2) hi (j % 2) y hy).1
    rw [← e] at this
    rw [Nat.zero_add]; exact this

/-- A slice of the call's own, as a row that may be written. -/
theorem OwnOps.row {w : World} {base g cap n : Nat} {bs : List Opn} (h : w.ownsRow base 232 2 (.slice (some ⟨g, 0, none⟩) n cap) n (flatOp bs)) (hn : bs.length = n) : RowOp w g n (opAt bs) := fun i hi j v hv => by
  have hj : j < 2 := by
    rcases Nat.lt_or_ge j 2 with h | h
    · exact h
    · rw [List.getElem?_eq_none (by simp [opCells]; omega)] at hv; cases hv
  refine ⟨?_, World.ownsRow.frozenAt h _⟩
  rw [World.ownsRow.cellAt h _ (by omega), flatOp_get _ _ _ (by omega) hj]
  exact hv

theorem make_op (n : Nat) (hn : n ≤ 1000000) (w : World) :
    (Instr.makeSlice 82 (.int .i64 (n : Int)) (.int .i64 (n : Int))).run Tryz.prog w = .ok (.slice (some ⟨w.heap.size, 0, none⟩) n n) (w.alloc (.cells (madeCells #[.int .i64 0, .int .i64 0] (n * 2)) 232)) := by
  obtain ⟨i0, h1, h2, h3, h4⟩ := info_parts (P := Tryz.prog) (e := 232) (z := .agg #[.int .i64 0, .int .i64 0]) (size := 2) (bytes := 16) (by kernel_rfl)
  have hr := run_make (P := Tryz.prog) w 82 232 i0 _ Tryz.underlying82 h1 h2 .i64 .i64 n n (by omega) (Int.le_refl _) (by rw [h4]; omega) (by omega)
  simp only [Int.toNat_natCast, h3] at hr
  exact hr

theorem made_op (w : World) (n : Nat) : RowOp (w.alloc (.cells (madeCells #[.int .i64 0, .int .i64 0] (n * 2)) 232)) w.heap.size n (fun _ => opZero) := fun i hi j v hv => by
  have hj : j < 2 := by
    rcases Nat.lt_or_ge j 2 with h | h
    · exact h
    · rw [List.getElem?_eq_none (by simp [opCells]; omega)] at hv; cases hv
  refine ⟨?_, World.frozen?_alloc_at _ _ _ _ rfl⟩
  rw [World.cell?_alloc_new]
  have e1 : (i * 2 + j) % 2 = j := by omega
  have e2 : i * 2 + j < n * 2 := by omega
  have : j = 0 ∨ j = 1 := by omega
  have e3 : (List.range (n * 2))[i * 2 + j]? = some (i * 2 + j) := List.getElem?_range e2
  unfold madeCells
  rw [← Array.getElem?_toList, Array.toList_map, Array.toList_range, List.getElem?_map, e3]
  simp only [Option.map_some]
  rcases this with rfl | rfl <;> simp [opCells, opZero] at hv e1 ⊢ <;> (try rw [e1]) <;> simpa using hv

end Go.Proofs.YtoofalchkedciaaGreatDoor

namespace Go.Proofs.YtoofalchkedciaaGreatDoor
open Go.RowKit

def inV (n : Int) : Prop := -1000000000 ≤ n ∧ n ≤ 1000000000
instance (n : Int) : Decidable (inV n) := by unfold inV; infer_instance

def ceOk (c : Ce) : Prop := inV c.n ∧ (c.bad = true → c.n = 0)
def opOk (o : Opn) : Prop := 1 ≤ o.what ∧ o.what ≤ 5 ∧ inV o.n
instance (c : Ce) : Decidable (ceOk c) := by unfold ceOk; infer_instance
instance (o : Opn) : Decidable (opOk o) := by unfold opOk; infer_instance
def ceBad : Ce := ⟨0, true⟩
theorem ceBad_ok : ceOk ceBad := ⟨by unfold inV ceBad; simp, fun _ => rfl⟩

def foldC (F : Int → Int → Int) : Int → List Ce → Ce
  | n, [] => ⟨n, false⟩
  | n, c :: l => if c.bad = true then ceBad else if inV (F n c.n) then foldC F (F n c.n) l else ceBad
def firstC (n : Int) : List Ce → Ce
  | [] => ⟨n, false⟩
  | c :: l => if c.bad = true then firstC n l else c
def splitC (n : Int) (s : Ce) : Ce := if s.bad = true ∨ s.n = 0 then ceBad else ⟨n.tdiv s.n, false⟩
def doC (o : Opn) (l : List Ce) : Ce :=
  if o.what = 1 then foldC (fun a b => a + b) o.n l else if o.what = 2 then foldC (fun a b => max a b) o.n l else if o.what = 3 then foldC (fun a b => a * b) o.n l
  else if o.what = 4 then splitC o.n (foldC (fun a b => a + b) 0 l) else firstC o.n l

theorem foldC_ok (F : Int → Int → Int) (n : Int) (l : List Ce) (h : inV n) : ceOk (foldC F n l) := by
  induction l generalizing n with
  | nil => exact ⟨h, fun h => by cases h⟩
  | cons c l ih =>
    unfold foldC
    split
    · exact ceBad_ok
    · split
      · rename_i h2; exact ih _ h2
      · exact ceBad_ok
theorem firstC_ok (n : Int) (l : List Ce) (h : inV n) (hl : ∀ c ∈ l, ceOk c) : ceOk (firstC n l) := by
  induction l with
  | nil => exact ⟨h, fun h => by cases h⟩
  | cons c l ih =>
    unfold firstC
    split
    · exact ih (fun c hc => hl c (by simp [hc]))
    · exact hl c (by simp)
theorem tdiv_in (a b : Int) (h : inV a) : inV (a.tdiv b) := by
  unfold inV at *
  have h1 : (a.tdiv b).natAbs ≤ a.natAbs := by rw [Int.natAbs_tdiv]; exact Nat.div_le_self _ _
  omega
theorem splitC_ok (n : Int) (s : Ce) (h : inV n) : ceOk (splitC n s) := by
  unfold splitC
  split
  · exact ceBad_ok
  · exact ⟨tdiv_in _ _ h, fun h => by cases h⟩
theorem doC_ok (o : Opn) (l : List Ce) (h : opOk o) (hl : ∀ c ∈ l, ceOk c) : ceOk (doC o l) := by
  have h0 := h.2.2
  unfold doC
  split
  · exact foldC_ok _ _ _ h0
  · split
    · exact foldC_ok _ _ _ h0
    · split
      · exact foldC_ok _ _ _ h0
      · split
        · exact splitC_ok _ _ h0
        · exact firstC_ok _ _ h0 hl

/-- Cells of those that a task needs. -/
def needC (p : PlanL) (f : Nat → Ce) (i : Nat) : List Ce := (ndOf p i).map fun k => f k.toNat
def stepA (p : PlanL) (ops : List Opn) (f : Nat → Ce) (i : Nat) : Nat → Ce := updCl f i (doC (opAt ops i) (needC p f i))
def foldA (p : PlanL) (ops : List Opn) (o : List Nat) : Nat → Ce := o.foldl (stepA p ops) (fun _ => clZero)
theorem foldA_snoc (p : PlanL) (ops : List Opn) (o : List Nat) (i : Nat) : foldA p ops (o ++ [i]) = stepA p ops (foldA p ops o) i := by simp [foldA]

theorem clZero_ok : ceOk clZero := ⟨by unfold inV clZero; simp, fun _ => rfl⟩
theorem foldA_ok (p : PlanL) (ops : List Opn) (o : List Nat) (hops : ∀ x ∈ ops, opOk x) (ho : ∀ x ∈ o, x < ops.length) : ∀ j, ceOk (foldA p ops o j) := by
  obtain ⟨r, hr⟩ : ∃ r, r = o.reverse := ⟨_, rfl⟩
  obtain rfl : o = r.reverse := by rw [hr]; simp
  clear hr
  induction r with
  | nil => intro j; exact clZero_ok
  | cons x r ih =>
    rw [List.reverse_cons, foldA_snoc]
    have hx : ∀ y ∈ r.reverse, y < ops.length := fun y hy => ho y (by simp at hy ⊢; exact .inl hy)
    intro j
    unfold stepA updCl
    split
    · refine doC_ok _ _ (hops _ (opAt_mem (ho x (by simp)))) fun c hc => ?_
      obtain ⟨k, _, rfl⟩ := List.mem_map.1 hc
      exact ih hx _
    · exact ih hx _

/-- Does each stand behind those that it needs? -/
def aheadB (p : PlanL) (o : List Nat) : Prop := ∀ k, k < o.length → ∀ x ∈ ndOf p (o[k]?.getD 0), x.toNat ∈ o.take k
noncomputable instance (p : PlanL) (o : List Nat) : Decidable (aheadB p o) := Classical.propDecidable _

/-- What is wrong with ops; with a plan, and its ops. -/
def opFault (o : Opn) : Int := if opOk o then 0 else 1
def ceFault (c : Ce) : Int := if ceOk c then 0 else 1
open Classical in
noncomputable def opsFault (l : List Opn) : Int := if ∀ o ∈ l, opOk o then 0 else 1

/-- Each number is the op of those that it needs. -/
def Comes (p : PlanL) (ops : List Opn) (f : Nat → Ce) : Prop := ∀ i, i < p.length → f i = doC (opAt ops i) (needC p f i)

theorem ahead_snoc {p : PlanL} {o : List Nat} {i : Nat} (h : aheadB p (o ++ [i])) : aheadB p o ∧ ∀ x ∈ ndOf p i, x.toNat ∈ o := by
  constructor
  · intro k hk x hx
    have := h k (by simp; omega) x (by rw [List.getElem?_append_left hk]; exact hx)
    rwa [List.take_append_of_le_length (by omega)] at this
  · intro x hx
    have := h o.length (by simp) x (by simpa using hx)
    simpa using this

theorem needC_upd (p : PlanL) (f : Nat → Ce) (x : Nat) (c : Ce) (i : Nat) (h : ∀ k ∈ ndOf p i, k.toNat ≠ x) : needC p (updCl f x c) i = needC p f i := by
  unfold needC
  refine List.map_congr_left fun k hk => ?_
  unfold updCl
  rw [if_neg (h k hk)]

theorem foldA_in (p : PlanL) (ops : List Opn) (o : List Nat) (hn : o.Nodup) (ha : aheadB p o) : ∀ i ∈ o, foldA p ops o i = doC (opAt ops i) (needC p (foldA p ops o) i) := by
  obtain ⟨r, hr⟩ : ∃ r, r = o.reverse := ⟨_, rfl⟩
  obtain rfl : o = r.reverse := by rw [hr]; simp
  clear hr
  induction r with
  | nil => intro i hi; simp at hi
  | cons x r ih =>
    rw [List.reverse_cons] at hn ha ⊢
    obtain ⟨ha1, ha2⟩ := ahead_snoc ha
    have hn1 : r.reverse.Nodup := (List.nodup_append.1 hn).1
    have hx : x ∉ r.reverse := fun h => (List.nodup_append.1 hn).2.2 x h x (by simp) rfl
    have ihh := ih hn1 ha1
    rw [foldA_snoc]
    intro i hi
    unfold stepA
    rcases List.mem_append.1 hi with h | h
    · have hne : i ≠ x := fun e => hx (e ▸ h)
      have hnd : ∀ k ∈ ndOf p i, k.toNat ≠ x := by
        intro k hk e
        obtain ⟨m, hm⟩ := List.getElem?_of_mem h
        have hml : m < r.reverse.length := by
          rcases Nat.lt_or_ge m r.reverse.length with h1 | h1
          · exact h1
          · rw [List.getElem?_eq_none h1] at hm; cases hm
        have := ha1 m hml k (by rw [hm]; exact hk)
        exact hx (by rw [← e]; exact List.mem_of_mem_take this)
      rw [needC_upd _ _ _ _ _ hnd]
      have e1 : updCl (foldA p ops r.reverse) x (doC (opAt ops x) (needC p (foldA p ops r.reverse) x)) i = foldA p ops r.reverse i := by unfold updCl; rw [if_neg hne]
      rw [e1]
      exact ihh i h
    · obtain rfl : i = x := by simpa using h
      rw [needC_upd _ _ _ _ _ (fun k hk e => hx (by have := ha2 k hk; rw [e] at this; exact this))]
      unfold updCl
      rw [if_pos rfl]

/-- An order of all tasks, each once, behind those that it needs. -/
def orderOk (p : PlanL) (o : List Nat) : Prop := o.Nodup ∧ aheadB p o ∧ ∀ i, i < p.length → i ∈ o

theorem orderOf_ok {p : PlanL} (h : PlanOk p) : orderOk p (orderOf p) := by
  refine ⟨topo_nodup h p.length (Nat.le_refl _), fun k hk x hx => ?_, fun i hi => (orderOf_mem h i).2 hi⟩
  have hg : (orderOf p)[k]? = some ((orderOf p)[k]?.getD 0) := by rw [List.getElem?_eq_getElem hk]; rfl
  have := (orderOf_ready h k _ hg).2
  unfold readyB at this
  simp only [Bool.and_eq_true, List.all_eq_true] at this
  have h2 := this.2 x hx
  simpa using h2

theorem foldA_comes {p : PlanL} (ops : List Opn) {o : List Nat} (h : orderOk p o) : Comes p ops (foldA p ops o) := fun i hi => foldA_in p ops o h.1 h.2.1 i (h.2.2 i hi)

theorem comes_one {p : PlanL} (h : PlanOk p) {ops : List Opn} {f g : Nat → Ce} (hf : Comes p ops f) (hg : Comes p ops g) : ∀ i, i < p.length → f i = g i := by
  obtain ⟨_, ha, hall⟩ := orderOf_ok h
  have hl : (orderOf p).length = p.length := topo_len h p.length (Nat.le_refl _)
  have key : ∀ k, k ≤ p.length → ∀ i ∈ (orderOf p).take k, f i = g i := by
    intro k
    induction k with
    | zero => intro _ i hi; simp at hi
    | succ k ih =>
      intro hk i hi
      have hkl : k < (orderOf p).length := by omega
      rw [List.take_succ_eq_append_getElem hkl] at hi
      rcases List.mem_append.1 hi with h1 | h1
      · exact ih (by omega) i h1
      · have hi2 : i = (orderOf p)[k] := by simpa using h1
        have hip : i < p.length := (orderOf_mem h i).1 (by rw [hi2]; exact List.getElem_mem _)
        rw [hf i hip, hg i hip]
        congr 1
        unfold needC
        refine List.map_congr_left fun x hx => ?_
        exact ih (by omega) _ (ha k hkl x (by rw [List.getElem?_eq_getElem hkl]; simpa [← hi2] using hx))
  intro i hi
  exact key p.length (Nat.le_refl _) i (by rw [List.take_of_length_le (by omega)]; exact hall i hi)

end Go.Proofs.YtoofalchkedciaaGreatDoor
