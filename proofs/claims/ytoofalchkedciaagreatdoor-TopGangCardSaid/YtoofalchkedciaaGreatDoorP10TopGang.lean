/-
  What is told of tasks that become ready, in plain words.
  Slices of structs of k one-cell fields that came in.
  Slices of deeds: plain facts, their cells, those that came in, those of the call's own.
-/
import Derived.Test.YtoofalchkedciaaGreatDoorP9TopGang
import Derived.Test.YtoofalchkedciaaGreatDoorP8TopGang
import Derived.Test.YtoofalchkedciaaGreatDoorP5TopGang
import Derived.Deep.Slices
namespace Go.Proofs.YtoofalchkedciaaGreatDoor

theorem Bools.congr {w : World} {A N : Nat} {f g : Nat → Bool} (h : Bools w A N f) (e : ∀ i, i < N → f i = g i) : Bools w A N g := fun i hi => by
  rw [← e i hi]; exact h i hi

/-- Who was ready, or is. -/
def tD (p : PlanL) (D : Nat → Bool) : Nat → Bool := fun k => lackN p D k == 0

/-- Who is done lacks nothing. -/
def Closed (p : PlanL) (D : Nat → Bool) : Prop := ∀ k, k < p.length → D k = true → lackN p D k = 0

theorem closed_none (p : PlanL) : Closed p (fun _ => false) := fun k _ h => by cases h

theorem lack_mono {p : PlanL} (hok : PlanOk p) {D : Nat → Bool} {i : Nat} (hi : D i = false) (k : Nat) : lackN p (upB D i) k ≤ lackN p D k := by
  have := lack_up hok D i hi k
  omega

theorem closed_up {p : PlanL} (hok : PlanOk p) {D : Nat → Bool} {i : Nat} (h : Closed p D) (hr : readyB p D i = true) : Closed p (upB D i) := by
  have hi : D i = false := by simp [readyB] at hr; exact hr.1
  intro k hk hd
  have hm := lack_mono hok hi k
  unfold upB at hd
  by_cases e : k = i
  · subst e
    rw [ready_lack] at hr
    have : lackN p D k = 0 := by simp at hr; exact hr.2
    omega
  · rw [if_neg e] at hd
    have := h k hk hd
    omega

theorem ready_of_lack {p : PlanL} {D : Nat → Bool} {i : Nat} (h : i ∈ readyL p D) : i < p.length ∧ readyB p D i = true := by
  simpa [readyL] using h

theorem ready_ne {p : PlanL} (hok : PlanOk p) {D : Nat → Bool} (h : 0 < leftN p D) : 0 < (readyL p D).length := by
  have hx : ∃ i, i < p.length ∧ D i = false := by
    unfold leftN at h
    obtain ⟨i, hi, hd⟩ := List.countP_pos_iff.1 h
    exact ⟨i, by simpa using hi, by simpa using hd⟩
  obtain ⟨i, hi, hr⟩ := exists_ready hok D hx
  exact List.length_pos_of_mem (show i ∈ readyL p D by simp [readyL, hi, hr])

theorem ready_none {p : PlanL} {D : Nat → Bool} (h : leftN p D = 0) : readyL p D = [] := by
  unfold leftN at h
  rw [List.countP_eq_zero] at h
  unfold readyL
  rw [List.filter_eq_nil_iff]
  intro i hi
  have := h i hi
  simp at this
  simp [readyB, this]

theorem natL_pair {l : List Nat} (h : l.Pairwise (· < ·)) : (natL l).Pairwise (· < ·) := by
  unfold natL
  rw [List.pairwise_map]
  exact h.imp (fun h => by omega)

theorem readyL_pair (p : PlanL) (D : Nat → Bool) : (readyL p D).Pairwise (· < ·) := List.Pairwise.filter _ (List.pairwise_lt_range (n := p.length))
theorem newL_pair (p : PlanL) (D : Nat → Bool) (i : Nat) : (newL p D i).Pairwise (· < ·) := List.Pairwise.filter _ (afterOf_pair p i)

theorem start_fresh (p : PlanL) : ∀ x ∈ natL (readyL p (fun _ => false)), x ∈ U p.length (fun _ => false) := by
  intro x hx
  obtain ⟨i, hi, rfl⟩ := List.mem_map.1 hx
  exact mem_U.2 ⟨i, (ready_of_lack hi).1, rfl, rfl⟩
theorem start_told (p : PlanL) (j : Nat) (hj : j < p.length) : mark (fun _ => false) (natL (readyL p (fun _ => false))) j = tD p (fun _ => false) j := by
  unfold mark tD
  rw [Bool.false_or, Bool.eq_iff_iff, decide_eq_true_eq, natL_mem]
  simp [readyL, hj, ready_lack]

theorem new_fresh {p : PlanL} (hok : PlanOk p) {D : Nat → Bool} {i : Nat} (hi : D i = false) : ∀ x ∈ natL (newL p D i), x ∈ U p.length (tD p D) := by
  intro x hx
  obtain ⟨k, hk, rfl⟩ := List.mem_map.1 hx
  have hk2 := List.mem_filter.1 hk
  have hm := afterOf_mem.1 hk2.1
  have h1 := lack_up hok D i hi k
  rw [if_pos hm.2] at h1
  exact mem_U.2 ⟨k, hm.1, by unfold tD; simp; omega, rfl⟩

theorem new_told {p : PlanL} (hok : PlanOk p) {D : Nat → Bool} {i : Nat} (hi : D i = false) (j : Nat) (hj : j < p.length) : mark (tD p D) (natL (newL p D i)) j = tD p (upB D i) j := by
  unfold mark tD
  rw [Bool.eq_iff_iff]
  simp only [Bool.or_eq_true, beq_iff_eq, decide_eq_true_eq, natL_mem]
  have h1 := lack_up hok D i hi j
  constructor
  · rintro (h | h)
    · omega
    · have := (List.mem_filter.1 h).2
      simpa using this
  · intro h
    by_cases hm : (i : Int) ∈ ndOf p j
    · right
      exact List.mem_filter.2 ⟨afterOf_mem.2 ⟨hj, hm⟩, by simp [h]⟩
    · left
      rw [if_neg hm] at h1
      omega

theorem state_ready {p : PlanL} {D : Nat → Bool} {i : Nat} (h : readyB p D i = true) : D i = false ∧ lackN p D i = 0 := by
  rw [ready_lack] at h
  simpa using h

end Go.Proofs.YtoofalchkedciaaGreatDoor

namespace Go.Proofs.YtoofalchkedciaaGreatDoor
open Go.RowKit Go.Deep Go.ChangeShapes Go.WideShapes

/-- The value v is a slice of n structs; the cells of the i-th are V i 0, .., V i (k - 1). -/
def Recs (w : World) (v : Value) (n k : Nat) (V : Nat → Nat → Value) : Prop :=
  ∃ a cap, v = .slice a n cap ∧ n ≤ cap ∧ cap ≤ maxLen ∧ (a = none → cap = 0) ∧ ∀ i, i < n → ∃ b off, a = some ⟨b, off, none⟩ ∧ ∀ j, j < k → w.cell? ⟨b, off + i * k + j, none⟩ = some (V i j)

theorem Recs.only {w w' : World} {v : Value} {n k : Nat} {V : Nat → Nat → Value} {S : List Nat} (h : Recs w v n k V) (ho : Only S w w') (hS : ∀ x ∈ own v, x ∉ S) : Recs w' v n k V := by
  obtain ⟨a, cap, rfl, h1, h2, h0, h3⟩ := h
  refine ⟨a, cap, rfl, h1, h2, h0, fun i hi => ?_⟩
  obtain ⟨b, off, rfl, c⟩ := h3 i hi
  have hb : b ∉ S := hS b (by simp [own, Value.ownBlock])
  exact ⟨b, off, rfl, fun j hj => (ho.cell (p := ⟨b, _, none⟩) (cell_lt (c j hj)) hb).trans (c j hj)⟩
theorem Recs.same {w w' : World} {v : Value} {n k : Nat} {V : Nat → Nat → Value} (h : Recs w v n k V) (ho : Only [] w w') : Recs w' v n k V := h.only ho (by simp)
theorem Recs.congr {w : World} {v : Value} {n k : Nat} {V V' : Nat → Nat → Value} (h : Recs w v n k V) (e : ∀ i j, i < n → j < k → V i j = V' i j) : Recs w v n k V' := by
  obtain ⟨a, cap, rfl, h1, h2, h0, h3⟩ := h
  refine ⟨a, cap, rfl, h1, h2, h0, fun i hi => ?_⟩
  obtain ⟨b, off, rfl, c⟩ := h3 i hi
  exact ⟨b, off, rfl, fun j hj => by rw [c j hj, e i j hi hj]⟩

/-- Their cells in a row. -/
def flatV (V : Nat → Nat → Value) (n k : Nat) : List Value := (List.range (n * k)).map fun j => V (j / k) (j % k)
theorem flatV_len (V : Nat → Nat → Value) (n k : Nat) : (flatV V n k).length = n * k := by simp [flatV]
theorem flatV_get (V : Nat → Nat → Value) (n k i j : Nat) (hi : i < n) (hj : j < k) : (flatV V n k)[i * k + j]? = some (V i j) := by
  have h1 : i * k + j < n * k := by
    have : (i + 1) * k ≤ n * k := Nat.mul_le_mul_right k (by omega)
    rw [Nat.add_mul] at this; omega
  have h2 : (i * k + j) / k = i := by rw [Nat.mul_comm, Nat.mul_add_div (by omega), Nat.div_eq_of_lt hj]; rfl
  have h3 : (i * k + j) % k = j := by rw [Nat.mul_comm, Nat.mul_add_mod, Nat.mod_eq_of_lt hj]
  unfold flatV
  rw [List.getElem?_map, List.getElem?_range h1]
  simp [h2, h3]

theorem Recs.row {w : World} {v : Value} {n k : Nat} {V : Nat → Nat → Value} (h : Recs w v n k V) (hk : 0 < k) (h1 : ∀ i j, i < n → j < k → (V i j).oneCell' = true) : RowAt w v n k (flatV V n k) := by
  obtain ⟨a, cap, rfl, k1, k2, k0, k3⟩ := h
  have hdiv : ∀ j, j < n * k → j / k < n ∧ j % k < k := fun j hj => ⟨(Nat.div_lt_iff_lt_mul hk).2 hj, Nat.mod_lt _ hk⟩
  refine ⟨flatV_len _ _ _, fun y hy => ?_, ?_⟩
  · obtain ⟨j, hj, rfl⟩ := List.mem_map.1 hy
    have hj : j < n * k := by simpa using hj
    exact h1 _ _ (hdiv j hj).1 (hdiv j hj).2
  · by_cases e : n = 0
    · subst e
      left
      refine ⟨rfl, ?_⟩
      cases a with
      | none => left; rw [k0 rfl]
      | some x => exact .inr ⟨x, cap, rfl⟩
    · obtain ⟨b, off, rfl, _⟩ := k3 0 (by omega)
      refine .inr ⟨by omega, b, off, cap, rfl, fun j y hy => ?_⟩
      have hj : j < n * k := by
        rcases Nat.lt_or_ge j (n * k) with hl | hl
        · exact hl
        · rw [List.getElem?_eq_none (by rw [flatV_len]; exact hl)] at hy; cases hy
      obtain ⟨b', off', hb, c⟩ := k3 (j / k) (hdiv j hj).1
      injection hb with hb
      injection hb with e1 e2
      subst e1 e2
      have := c (j % k) (hdiv j hj).2
      rw [show off + j / k * k + j % k = off + j by have := Nat.div_add_mod j k; rw [Nat.mul_comm] at this; omega] at this
      rw [this]
      unfold flatV at hy
      rw [List.getElem?_map, List.getElem?_range hj] at hy
      simpa using hy

set_option maxRecDepth 100000 in
/-- A slice of such structs that came in. -/
theorem open_recs {H : Type} {enc : TypeId × Value → H} {W : World} {base : Nat} {t e : TypeId} {fs : Array Field} {k : Nat} {v : Value} {d : DataW H} {p : List MemPlace}
    (ht : Tryz.prog.underlying t = some (.slice e)) (he : Tryz.prog.underlying e = some (.struct fs)) (hk : fs.size = k) (k0 : 0 < k)
    (ce : Tryz.prog.cellsOf e = k) (hf : ∀ (j : Nat) (f : Field), fs[j]? = some f → f.offset = j ∧ Tryz.prog.cellsOf f.type = 1)
    (hv : Value.okWide Tryz.prog W .any base t v) (h : DataW.Trod enc Tryz.prog W 0 (fun _ => true) true t v d p) :
    ∃ (n : Nat) (V : Nat → Nat → Value), Recs W v n k V ∧ ∀ i, i < n → ∀ (j : Nat) (f : Field), fs[j]? = some f → ∃ (m : Nat) (x : DataW H × List MemPlace), DataW.trod enc Tryz.prog W 0 (fun _ => true) true m f.type [V i j] = some x := by
  obtain ⟨s, len, cap, rfl⟩ := okWide_slice ht hv
  obtain ⟨fuel, hfu⟩ := h
  rcases open_slice ht hfu with ⟨hcs, _⟩ | ⟨a, len', cap', m, n, D, Pl, hcs, _, hl, hm, hmm, _, hi⟩
  · simp [Value.cells] at hcs
    obtain ⟨rfl, rfl, rfl⟩ := hcs
    exact ⟨0, fun _ _ => .nilIface, ⟨none, 0, rfl, Nat.le_refl _, Nat.zero_le _, fun _ => rfl, fun i hi => by omega⟩, fun i hi => by omega⟩
  · simp [Value.cells] at hcs
    obtain ⟨rfl, rfl, rfl⟩ := hcs
    have hlm : len ≤ m := by rw [hmm]; simp; omega
    rw [ce] at hi
    have each : ∀ i, i < len → ∃ cs' : List Value, cs'.length = k ∧ (∀ j, j < k → W.cell? ((a.add (i * k)).add j) = cs'[j]?) ∧ ∀ (j : Nat) (f : Field), fs[j]? = some f → ∃ (m : Nat) (x : DataW H × List MemPlace), DataW.trod enc Tryz.prog W 0 (fun _ => true) true m f.type [cs'[j]?.getD undef] = some x := by
      intro i hil
      obtain ⟨cs', g1, g2⟩ := hi i (by omega)
      obtain ⟨_, g3, g4⟩ := World.cells?_some g1
      refine ⟨cs', g3, g4, fun j f hjf => ?_⟩
      obtain ⟨xs, q, _, _, _, hxl, hff⟩ := DataW.trod_struct he g2
      have h5 := hff j f hjf
      obtain ⟨o1, o2⟩ := hf j f hjf
      have hj : j < fs.size := by
        rcases Nat.lt_or_ge j fs.size with h | h
        · exact h
        · rw [Array.getElem?_eq_none h] at hjf; cases hjf
      rw [o1, o2, List.getElem?_eq_getElem (by omega)] at h5
      have e1 : (cs'.drop j).take 1 = [cs'[j]?.getD undef] := by
        have hjc : j < cs'.length := by omega
        rw [List.getElem?_eq_getElem hjc, List.drop_eq_getElem_cons hjc]
        rfl
      rw [e1] at h5
      exact ⟨_, _, h5⟩
    obtain ⟨C, hC⟩ := choose_lt each
    refine ⟨len, fun i j => (C i)[j]?.getD undef, ⟨_, _, rfl, hl, hm, (fun h => by cases h), fun i hil => ?_⟩, fun i hil j f hjf => (hC i hil).2.2 j f hjf⟩
    obtain ⟨g3, g4, _⟩ := hC 0 (by omega)
    have g5 := g4 0 k0
    rw [List.getElem?_eq_getElem (by omega), Nat.zero_mul, add_add] at g5
    have hs := spot_none (x := a) g5
    obtain ⟨b, off, spot⟩ := a
    obtain rfl : spot = none := hs
    refine ⟨b, off, rfl, fun j hj => ?_⟩
    obtain ⟨g3, g4, _⟩ := hC i hil
    have := g4 j hj
    rw [add_flat, add_flat] at this
    rw [this]
    show (C i)[j]? = some ((C i)[j]?.getD undef)
    cases h : (C i)[j]? with
    | some x => rfl
    | none => exact absurd (List.getElem?_eq_none_iff.1 h) (by omega)

/-- A field of a struct type of k one-cell fields, all read off by one test. -/
theorem fields_ok {fs : Array Field} (h : ((List.range fs.size).all fun j => match fs[j]? with | some f => decide (f.offset = j) && decide (Tryz.prog.cellsOf f.type = 1) | none => true) = true) :
    ∀ (j : Nat) (f : Field), fs[j]? = some f → f.offset = j ∧ Tryz.prog.cellsOf f.type = 1 := by
  intro j f hf
  have hj : j < fs.size := by
    rcases Nat.lt_or_ge j fs.size with h | h
    · exact h
    · rw [Array.getElem?_eq_none h] at hf; cases hf
  have := (List.all_eq_true.1 h) j (by simpa using hj)
  rw [hf] at this
  simpa using this

end Go.Proofs.YtoofalchkedciaaGreatDoor

namespace Go.Proofs.YtoofalchkedciaaGreatDoor
open Go.RowKit Go.Deep Go.ChangeShapes Go.WideShapes

/-- A deed: what it is, whose, of which task, of whom. -/
structure Dd where
  what : Int
  hand : Int
  task : Int
  other : Int

def ddCells (b : Dd) : List Value := [.int .i64 b.what, .int .i64 b.hand, .int .i64 b.task, .int .i64 b.other]
def flatE (bs : List Dd) : List Value := bs.flatMap ddCells
def ddAt (bs : List Dd) (i : Nat) : Dd := bs[i]?.getD ⟨0, 0, 0, 0⟩
theorem take_dd (bs : List Dd) (k : Nat) (h : k < bs.length) : bs.take (k + 1) = bs.take k ++ [ddAt bs k] := by
  rw [List.take_succ_eq_append_getElem h]
  simp [ddAt, h]
theorem ddAt_mem {bs : List Dd} {k : Nat} (h : k < bs.length) : ddAt bs k ∈ bs := by simp [ddAt, h]

theorem flatE_len (bs : List Dd) : (flatE bs).length = bs.length * 4 := by
  induction bs with
  | nil => rfl
  | cons b bs ih => simp only [flatE, List.flatMap_cons, List.length_append, List.length_cons] at ih ⊢; rw [ih]; simp [ddCells]; omega
theorem flatE_one (bs : List Dd) : ∀ y ∈ flatE bs, y.oneCell' = true := by
  intro y hy
  obtain ⟨b, _, hb⟩ := List.mem_flatMap.1 hy
  simp only [ddCells, List.mem_cons, List.not_mem_nil, or_false] at hb
  rcases hb with rfl | rfl | rfl | rfl <;> rfl
theorem flatE_push (bs : List Dd) (b : Dd) : flatE bs ++ [.int .i64 b.what, .int .i64 b.hand, .int .i64 b.task, .int .i64 b.other] = flatE (bs ++ [b]) := by
  simp [flatE, ddCells]
theorem flatE_get (bs : List Dd) (i t : Nat) (hi : i < bs.length) (ht : t < 4) : (flatE bs)[i * 4 + t]? = (ddCells (ddAt bs i))[t]? := by
  induction bs generalizing i with
  | nil => simp at hi
  | cons b bs ih =>
    rcases i with _ | i
    · simp only [flatE, List.flatMap_cons, ddAt]
      rw [List.getElem?_append_left (by simp [ddCells]; omega)]
      simp
    · have e : (i + 1) * 4 + t = 4 + (i * 4 + t) := by omega
      have := ih i (by simpa using hi)
      simp only [flatE, List.flatMap_cons] at this ⊢
      rw [e, List.getElem?_append_right (by simp [ddCells]), show 4 + (i * 4 + t) - (ddCells b).length = i * 4 + t by simp [ddCells], this]
      simp [ddAt]

/-- The value v is a slice of the deeds bs. -/
def DeedsAt (w : World) (v : Value) (bs : List Dd) : Prop := RowAt w v bs.length 4 (flatE bs)

theorem DeedsAt.opt {w : World} {v : Value} {bs : List Dd} (h : DeedsAt w v bs) :
    ∃ a cap, v = .slice a bs.length cap ∧ ∀ i, i < bs.length → ∃ b off, a = some ⟨b, off, none⟩ ∧
      w.cell? ⟨b, off + i * 4, none⟩ = some (.int .i64 (ddAt bs i).what) ∧ w.cell? ⟨b, off + i * 4 + 1, none⟩ = some (.int .i64 (ddAt bs i).hand) ∧
      w.cell? ⟨b, off + i * 4 + 2, none⟩ = some (.int .i64 (ddAt bs i).task) ∧ w.cell? ⟨b, off + i * 4 + 3, none⟩ = some (.int .i64 (ddAt bs i).other) := by
  obtain ⟨hl, h1, h⟩ := h
  rcases h with ⟨h0, h | ⟨x, cap, h⟩⟩ | ⟨h0, b, off, cap, h, hc⟩
  · exact ⟨none, 0, by rw [h0]; exact h, fun i hi => by omega⟩
  · exact ⟨some x, cap, by rw [h0]; exact h, fun i hi => by omega⟩
  · refine ⟨_, cap, h, fun i hi => ⟨b, off, rfl, ?_, ?_, ?_, ?_⟩⟩
    · exact hc (i * 4) _ (by rw [show i * 4 = i * 4 + 0 from rfl, flatE_get bs i 0 hi (by omega)]; rfl)
    · rw [Nat.add_assoc]; exact hc (i * 4 + 1) _ (by rw [flatE_get bs i 1 hi (by omega)]; rfl)
    · rw [Nat.add_assoc]; exact hc (i * 4 + 2) _ (by rw [flatE_get bs i 2 hi (by omega)]; rfl)
    · rw [Nat.add_assoc]; exact hc (i * 4 + 3) _ (by rw [flatE_get bs i 3 hi (by omega)]; rfl)

theorem DeedsAt.same {w w' : World} {v : Value} {bs : List Dd} (h : DeedsAt w v bs) (ho : Only [] w w') : DeedsAt w' v bs := RowAt.same h ho

theorem sliceOf_deeds : SliceOf 47 53 4 32 :=
  sliceOf_parts (z := .agg #[.int .i64 0, .int .i64 0, .int .i64 0, .int .i64 0]) Tryz.underlying47 (by kernel_rfl) rfl (by decide) (by decide)

/-- Deeds of the call's own. -/
def OwnDeeds (w : World) (base : Nat) (v : Value) (bs : List Dd) : Prop := w.ownsRow base 53 4 v bs.length (flatE bs)
theorem OwnDeeds.at {w : World} {base : Nat} {v : Value} {bs : List Dd} (h : OwnDeeds w base v bs) : DeedsAt w v bs := Row.at h (flatE_one bs)
theorem OwnDeeds.nil (w : World) (base : Nat) : OwnDeeds w base (.slice none 0 0) [] := World.ownsRow_nil _ _ _ _

def ddWf (b : Dd) : Prop := (Lit.int .i64 b.what).wf = true ∧ (Lit.int .i64 b.hand).wf = true ∧ (Lit.int .i64 b.task).wf = true ∧ (Lit.int .i64 b.other).wf = true

/-- The value v is a slice that came in, with the deeds bs. -/
def InDeeds (w : World) (v : Value) (bs : List Dd) : Prop := (∀ b ∈ bs, ddWf b) ∧ DeedsAt w v bs ∧ bs.length ≤ maxLen ∧ ∀ a m c, v = .slice a m c → m ≤ c
theorem InDeeds.same {w w' : World} {v : Value} {bs : List Dd} (h : InDeeds w v bs) (ho : Only [] w w') : InDeeds w' v bs := ⟨h.1, h.2.1.same ho, h.2.2⟩

theorem flatE_eq (bs : List Dd) : flatE bs = flatV (fun i j => (ddCells (ddAt bs i))[j]?.getD undef) bs.length 4 := by
  apply List.ext_getElem?
  intro m
  by_cases hm : m < bs.length * 4
  · have e : m = m / 4 * 4 + m % 4 := by omega
    have h1 : m / 4 < bs.length := by omega
    rw [e, flatE_get _ _ _ h1 (by omega), flatV_get _ _ _ _ _ h1 (by omega)]
    have : m % 4 = 0 ∨ m % 4 = 1 ∨ m % 4 = 2 ∨ m % 4 = 3 := by omega
    rcases this with h | h | h | h <;> rw [h] <;> rfl
  · rw [List.getElem?_eq_none (by rw [flatE_len]; omega), List.getElem?_eq_none (by rw [flatV_len]; omega)]

set_option maxRecDepth 100000 in
theorem open_deeds {H : Type} {enc : TypeId × Value → H} {W : World} {base : Nat} {v : Value} {d : DataW H} {p : List MemPlace}
    (hv : Value.okWide Tryz.prog W .any base 47 v) (h : DataW.Trod enc Tryz.prog W 0 (fun _ => true) true 47 v d p) : ∃ l, InDeeds W v l := by
  obtain ⟨n, V, hR, hV⟩ := open_recs (k := 4) Tryz.underlying47 Tryz.underlying53 rfl (by omega) (by kernel_rfl) (fields_ok (by kernel_rfl)) hv h
  have key : ∀ i, i < n → ∃ b : Dd, (V i 0 = .int .i64 b.what ∧ V i 1 = .int .i64 b.hand ∧ V i 2 = .int .i64 b.task ∧ V i 3 = .int .i64 b.other) ∧ ddWf b := by
    intro i hi
    obtain ⟨_, x0, h0⟩ := hV i hi 0 _ rfl
    obtain ⟨_, x1, h1⟩ := hV i hi 1 _ rfl
    obtain ⟨_, x2, h2⟩ := hV i hi 2 _ rfl
    obtain ⟨_, x3, h3⟩ := hV i hi 3 _ rfl
    obtain ⟨a, e0, _, wa⟩ := DataW.trod_int Tryz.underlying3 h0
    obtain ⟨b, e1, _, wb⟩ := DataW.trod_int Tryz.underlying3 h1
    obtain ⟨c, e2, _, wc⟩ := DataW.trod_int Tryz.underlying3 h2
    obtain ⟨d, e3, _, wd⟩ := DataW.trod_int Tryz.underlying3 h3
    simp at e0 e1 e2 e3
    exact ⟨⟨a, b, c, d⟩, ⟨e0, e1, e2, e3⟩, wa, wb, wc, wd⟩
  haveI : Inhabited Dd := ⟨⟨0, 0, 0, 0⟩⟩
  obtain ⟨q, hq⟩ := choose_lt key
  have hl : ((List.range n).map q).length = n := by simp
  have hat : ∀ i, i < n → ddAt ((List.range n).map q) i = q i := fun i hi => by simp [ddAt, hi]
  have hmax : n ≤ maxLen := by obtain ⟨a, cap, _, h1, h2, _⟩ := hR; omega
  refine ⟨(List.range n).map q, ?_, ?_, by rw [hl]; exact hmax, fun a m c hv => by obtain ⟨a', cap, e, h1, _⟩ := hR; rw [hv] at e; injection e with _ e2 e3; omega⟩
  · intro j hj
    obtain ⟨i, hi, rfl⟩ := List.mem_map.1 hj
    exact (hq i (List.mem_range.1 hi)).2
  · unfold DeedsAt
    rw [flatE_eq, hl]
    have hR2 := hR.congr (V' := fun i j => (ddCells (ddAt ((List.range n).map q) i))[j]?.getD undef) (fun i j hi hj => by
      rw [hat i hi]
      obtain ⟨⟨e0, e1, e2, e3⟩, _⟩ := hq i hi
      have : j = 0 ∨ j = 1 ∨ j = 2 ∨ j = 3 := by omega
      rcases this with rfl | rfl | rfl | rfl
      · exact e0
      · exact e1
      · exact e2
      · exact e3)
    refine hR2.row (by omega) fun i j hi hj => ?_
    have : j = 0 ∨ j = 1 ∨ j = 2 ∨ j = 3 := by omega
    rcases this with rfl | rfl | rfl | rfl <;> rfl

end Go.Proofs.YtoofalchkedciaaGreatDoor
