/-
  The first fault of a row of tests. No program is named here.
  What is wrong with bits, and with stays, in plain words. No program is named here.
  Slices of structs of k one-cell fields that came in.
  Slices of stays: plain facts, their cells, those that came in, those of the call's own.
-/
import Derived.Test.YtocpmncedlenbaaGreatDoorP1TopWeave
import Derived.Test.YtocpmncedlenbaaGreatDoorP3TopWeave
import Derived.Test.YtocpmncedlenbaaGreatDoorP31TopWeave
import Derived.Test.YtocpmncedlenbaaGreatDoorP6TopWeave
import Derived.Deep.Slices
import Derived.Test.YtocpmncedlenbaaGreatDoorP8TopWeave
namespace Go.Proofs.YtocpmncedlenbaaGreatDoor

/-- The first fault among the first k. -/
def firstE (F : Nat → Int) : Nat → Int
  | 0 => 0
  | k + 1 => if firstE F k = 0 then F k else firstE F k

theorem firstE_zero (F : Nat → Int) : firstE F 0 = 0 := rfl
theorem firstE_succ (F : Nat → Int) (k : Nat) : firstE F (k + 1) = if firstE F k = 0 then F k else firstE F k := rfl
theorem firstE_step {F : Nat → Int} {k : Nat} (h : firstE F k = 0) : firstE F (k + 1) = F k := by rw [firstE_succ, if_pos h]
theorem firstE_stop {F : Nat → Int} {k m : Nat} (h : firstE F k ≠ 0) (hm : k ≤ m) : firstE F m = firstE F k := by
  induction m with
  | zero => obtain rfl : k = 0 := by omega
            rfl
  | succ m ih =>
    by_cases e : k = m + 1
    · subst e; rfl
    · have := ih (by omega)
      rw [firstE_succ, this, if_neg h]
theorem firstE_hit {F : Nat → Int} {k m : Nat} (h : firstE F k = 0) (h2 : F k ≠ 0) (hm : k < m) : firstE F m = F k := by
  rw [firstE_stop (k := k + 1) (by rw [firstE_step h]; exact h2) hm, firstE_step h]
theorem firstE_all {F : Nat → Int} {m : Nat} : firstE F m = 0 ↔ ∀ k, k < m → F k = 0 := by
  induction m with
  | zero => exact ⟨fun _ k hk => by omega, fun _ => rfl⟩
  | succ m ih =>
    constructor
    · intro h
      rw [firstE_succ] at h
      by_cases e : firstE F m = 0
      · rw [if_pos e] at h
        intro k hk
        by_cases e2 : k = m
        · subst e2; exact h
        · exact ih.1 e k (by omega)
      · rw [if_neg e] at h; exact absurd h e
    · intro h
      rw [firstE_step (ih.2 (fun k hk => h k (by omega)))]
      exact h m (by omega)
theorem firstE_before {F : Nat → Int} {k m : Nat} (h : firstE F m = 0) (hk : k ≤ m) : firstE F k = 0 := firstE_all.2 (fun j hj => firstE_all.1 h j (by omega))
theorem firstE_congr {F G : Nat → Int} {m : Nat} (h : ∀ k, k < m → F k = G k) : firstE F m = firstE G m := by
  induction m with
  | zero => rfl
  | succ m ih => rw [firstE_succ, firstE_succ, ih (fun k hk => h k (by omega)), h m (by omega)]
theorem firstE_mem {F : Nat → Int} {m : Nat} (h : firstE F m ≠ 0) : ∃ k, k < m ∧ F k = firstE F m ∧ firstE F k = 0 := by
  induction m with
  | zero => exact absurd rfl h
  | succ m ih =>
    rw [firstE_succ] at h ⊢
    by_cases e : firstE F m = 0
    · rw [if_pos e] at h ⊢; exact ⟨m, by omega, rfl, e⟩
    · rw [if_neg e] at h ⊢
      obtain ⟨k, hk, h1, h2⟩ := ih e
      exact ⟨k, by omega, h1, h2⟩

end Go.Proofs.YtocpmncedlenbaaGreatDoor

namespace Go.Proofs.YtocpmncedlenbaaGreatDoor

/-- Is there one of the same step, of the same hand or task? -/
def clashB (bs : List Bt) (b : Bt) : Bool := bs.any fun x => decide (x.step = b.step) && (decide (x.hand = b.hand) || decide (x.task = b.task))
/-- How many are of a task. -/
def manyOf (bs : List Bt) (t : Int) : Nat := bs.countP fun x => x.task == t

/-- What is wrong with a bit, by those ahead. -/
def bitFault (p : PlanL) (hands : Int) (ahead : List Bt) (b : Bt) : Int :=
  if b.step < 0 ∨ 10000 < b.step ∨ b.hand < 0 ∨ hands ≤ b.hand ∨ b.task < 0 ∨ (p.length : Int) ≤ b.task then 1
  else if clashB ahead b = true then 7
  else if wkOf p b.task.toNat ≤ (manyOf ahead b.task : Int) then 4 else 0

/-- The first that is wrong among the first k. -/
def scanK (p : PlanL) (hands : Int) (bs : List Bt) (k : Nat) : Int := firstE (fun i => bitFault p hands (bs.take i) (bitAt bs i)) k

/-- The last step of a task; 0, if there is none. -/
def lastF (bs : List Bt) (t : Int) : Int := bs.foldl (fun m b => if b.task = t then max m b.step else m) 0
/-- The first one. -/
def firstO (bs : List Bt) (t : Int) : Option Int := bs.foldl (fun o b => if b.task = t then some (match o with | none => b.step | some m => min m b.step) else o) none
def firstF (bs : List Bt) (t : Int) : Int := (firstO bs t).getD 0

/-- Does a task lack bits? -/
def lackB (p : PlanL) (bs : List Bt) : Bool := (List.range p.length).any fun i => decide ((manyOf bs (i : Int) : Int) < wkOf p i)
/-- Does one begin ahead of the end of one that it needs? -/
def earlyB (p : PlanL) (bs : List Bt) : Bool := bs.any fun b => (ndOf p b.task.toNat).any fun k => decide (b.step ≤ lastF bs k)

def bitsErr (p : PlanL) (hands : Int) (bs : List Bt) : Int :=
  if scanK p hands bs bs.length ≠ 0 then scanK p hands bs bs.length else if lackB p bs = true then 5 else if earlyB p bs = true then 6 else 0

theorem manyOf_push (bs : List Bt) (b : Bt) (t : Int) : manyOf (bs ++ [b]) t = if b.task = t then manyOf bs t + 1 else manyOf bs t := by
  unfold manyOf
  rw [List.countP_append]
  by_cases e : b.task = t <;> simp [e]
theorem manyOf_nil (t : Int) : manyOf [] t = 0 := rfl
theorem lastF_push (bs : List Bt) (b : Bt) (t : Int) : lastF (bs ++ [b]) t = if b.task = t then max (lastF bs t) b.step else lastF bs t := by
  unfold lastF; rw [List.foldl_append]; rfl
theorem lastF_nil (t : Int) : lastF [] t = 0 := rfl
theorem firstO_push (bs : List Bt) (b : Bt) (t : Int) : firstO (bs ++ [b]) t = if b.task = t then some (match firstO bs t with | none => b.step | some m => min m b.step) else firstO bs t := by
  unfold firstO; rw [List.foldl_append]; rfl
theorem firstF_nil (t : Int) : firstF [] t = 0 := rfl

theorem snoc_cases {α : Type} {P : List α → Prop} (h0 : P []) (h1 : ∀ l a, P l → P (l ++ [a])) : ∀ l, P l := by
  intro l
  have : ∀ r : List α, P r.reverse := by
    intro r
    induction r with
    | nil => exact h0
    | cons a r ih => rw [List.reverse_cons]; exact h1 _ _ ih
  simpa using this l.reverse

theorem firstO_none (bs : List Bt) (t : Int) : firstO bs t = none ↔ manyOf bs t = 0 := by
  induction bs using snoc_cases with
  | h0 => simp [firstO, manyOf]
  | h1 l a ih =>
    rw [firstO_push, manyOf_push]
    by_cases e : a.task = t
    · simp [e]
    · simp [e, ih]
theorem firstF_push (bs : List Bt) (b : Bt) (t : Int) : firstF (bs ++ [b]) t = if b.task = t then (if manyOf bs t = 0 then b.step else min (firstF bs t) b.step) else firstF bs t := by
  unfold firstF
  rw [firstO_push]
  by_cases e : b.task = t
  · rw [if_pos e, if_pos e]
    by_cases h : manyOf bs t = 0
    · rw [if_pos h, (firstO_none bs t).2 h]; rfl
    · rw [if_neg h]
      cases hf : firstO bs t with
      | none => exact absurd ((firstO_none bs t).1 hf) h
      | some m => rfl
  · rw [if_neg e, if_neg e]

theorem firstF_le (bs : List Bt) (t : Int) : ∀ b ∈ bs, b.task = t → firstF bs t ≤ b.step := by
  induction bs using snoc_cases with
  | h0 => intro b hb; cases hb
  | h1 l a ih =>
    intro b hb e
    rw [firstF_push]
    rcases List.mem_append.1 hb with hb | hb
    · have h1 := ih b hb e
      have hm : manyOf l t ≠ 0 := by
        unfold manyOf
        intro h0
        rw [List.countP_eq_zero] at h0
        exact absurd (h0 b hb) (by simp [e])
      split
      · omega
      · exact h1
    · obtain rfl : b = a := by simpa using hb
      rw [if_pos e]
      split
      · exact Int.le_refl _
      · omega
theorem firstF_in (bs : List Bt) (t : Int) (h : manyOf bs t ≠ 0) : ∃ b ∈ bs, b.task = t ∧ b.step = firstF bs t := by
  induction bs using snoc_cases with
  | h0 => exact absurd rfl h
  | h1 l a ih =>
    rw [firstF_push]
    rw [manyOf_push] at h
    by_cases e : a.task = t
    · rw [if_pos e]
      by_cases hm : manyOf l t = 0
      · rw [if_pos hm]; exact ⟨a, by simp, e, rfl⟩
      · rw [if_neg hm]
        by_cases hle : a.step ≤ firstF l t
        · exact ⟨a, by simp, e, by omega⟩
        · obtain ⟨b, hb, h1, h2⟩ := ih hm
          exact ⟨b, by simp [hb], h1, by omega⟩
    · rw [if_neg e] at h ⊢
      obtain ⟨b, hb, h1, h2⟩ := ih h
      exact ⟨b, by simp [hb], h1, h2⟩

theorem lastF_ge0 (bs : List Bt) (t : Int) : 0 ≤ lastF bs t := by
  induction bs using snoc_cases with
  | h0 => exact Int.le_refl _
  | h1 l a ih => rw [lastF_push]; split <;> omega
theorem lastF_ge (bs : List Bt) (t : Int) : ∀ b ∈ bs, b.task = t → b.step ≤ lastF bs t := by
  induction bs using snoc_cases with
  | h0 => intro b hb; cases hb
  | h1 l a ih =>
    intro b hb e
    rw [lastF_push]
    rcases List.mem_append.1 hb with hb | hb
    · have := ih b hb e
      split <;> omega
    · obtain rfl : b = a := by simpa using hb
      rw [if_pos e]; omega
theorem lastF_le {bs : List Bt} {t : Int} {B : Int} (h0 : 0 ≤ B) (h : ∀ b ∈ bs, b.task = t → b.step ≤ B) : lastF bs t ≤ B := by
  induction bs using snoc_cases with
  | h0 => exact h0
  | h1 l a ih =>
    have := ih (fun b hb => h b (by simp [hb]))
    rw [lastF_push]
    split
    · rename_i e
      have := h a (by simp) e
      omega
    · exact this
theorem firstF_bd {bs : List Bt} {t : Int} {B : Int} (h0 : 0 ≤ B) (h : ∀ b ∈ bs, b.task = t → 0 ≤ b.step ∧ b.step ≤ B) : 0 ≤ firstF bs t ∧ firstF bs t ≤ B := by
  by_cases hm : manyOf bs t = 0
  · unfold firstF; rw [(firstO_none bs t).2 hm]; exact ⟨Int.le_refl _, h0⟩
  · obtain ⟨b, hb, h1, h2⟩ := firstF_in bs t hm
    have := h b hb h1
    omega

/-- Bits that were gone through. -/
theorem scanK_ok {p : PlanL} {hands : Int} {bs : List Bt} {k : Nat} (h : scanK p hands bs k = 0) (hk : k ≤ bs.length) : ∀ b ∈ bs.take k, 0 ≤ b.step ∧ b.step ≤ 10000 ∧ 0 ≤ b.hand ∧ b.hand < hands ∧ 0 ≤ b.task ∧ b.task < p.length := by
  intro b hb
  obtain ⟨i, hi, rfl⟩ := List.getElem_of_mem hb
  simp only [List.length_take] at hi
  have h1 := firstE_all.1 h i (by omega)
  have e : bitAt bs i = (bs.take k)[i]'(by simp; omega) := by
    rw [List.getElem_take]; simp [bitAt, show i < bs.length by omega]
  rw [e] at h1
  unfold bitFault at h1
  split at h1
  · cases h1
  · omega

theorem scanK_many {p : PlanL} {hands : Int} {bs : List Bt} {k : Nat} (h : scanK p hands bs k = 0) (hk : k ≤ bs.length) (hw : ∀ i, i < p.length → 0 ≤ wkOf p i) (t : Nat) (ht : t < p.length) : (manyOf (bs.take k) (t : Int) : Int) ≤ wkOf p t := by
  induction k with
  | zero => rw [List.take_zero]; exact hw t ht
  | succ k ih =>
    have h0 := firstE_before h (show k ≤ k + 1 by omega)
    have h1 := firstE_all.1 h k (by omega)
    have := ih h0 (by omega)
    have e : bs.take (k + 1) = bs.take k ++ [bitAt bs k] := by rw [List.take_succ_eq_append_getElem (by omega)]; simp [bitAt, show k < bs.length by omega]
    rw [e, manyOf_push]
    split
    · rename_i e2
      unfold bitFault at h1
      rw [e2] at h1
      simp only [Int.toNat_natCast] at h1
      split at h1
      · cases h1
      · split at h1
        · cases h1
        · split at h1
          · cases h1
          · omega
    · exact this

theorem earlyB_iff {p : PlanL} {hands : Int} {bs : List Bt} (hs : scanK p hands bs bs.length = 0) (hl : lackB p bs = false) (hw : ∀ i, i < p.length → 1 ≤ wkOf p i) :
    earlyB p bs = true ↔ ∃ i, i < p.length ∧ ∃ k ∈ ndOf p i, firstF bs (i : Int) ≤ lastF bs k := by
  have hok := scanK_ok hs (Nat.le_refl _)
  rw [List.take_length] at hok
  constructor
  · intro h
    unfold earlyB at h
    obtain ⟨b, hb, h1⟩ := List.any_eq_true.1 h
    obtain ⟨k, hk, h2⟩ := List.any_eq_true.1 h1
    have := hok b hb
    refine ⟨b.task.toNat, by omega, k, hk, ?_⟩
    have h3 := firstF_le bs ((b.task.toNat : Nat) : Int) b hb (by omega)
    have := of_decide_eq_true h2
    omega
  · rintro ⟨i, hi, k, hk, h1⟩
    have hm : manyOf bs (i : Int) ≠ 0 := by
      intro h0
      have : lackB p bs = true := by
        unfold lackB
        refine List.any_eq_true.2 ⟨i, by simpa using hi, decide_eq_true ?_⟩
        rw [h0]
        have := hw i hi
        omega
      rw [hl] at this; cases this
    obtain ⟨b, hb, h2, h3⟩ := firstF_in bs (i : Int) hm
    unfold earlyB
    refine List.any_eq_true.2 ⟨b, hb, List.any_eq_true.2 ⟨k, ?_, decide_eq_true (by omega)⟩⟩
    rw [h2]; simpa using hk

end Go.Proofs.YtocpmncedlenbaaGreatDoor

namespace Go.Proofs.YtocpmncedlenbaaGreatDoor
open Go.RowKit Go.Deep Go.ChangeShapes Go.WideShapes

/-- The value v is a slice of n structs; the cells of the i-th are V i 0, .., V i (k - 1). -/
def Recs (w : World) (v : Value) (n k : Nat) (V : Nat → Nat → Value) : Prop :=
  ∃ a cap, v = .slice a n cap ∧ n ≤ cap ∧ cap ≤ maxLen ∧ (a = none → cap = 0) ∧ ∀ i, i < n → ∃ b off, a = some ⟨b, off, none⟩ ∧ ∀ j, j < k → w.cell? ⟨b, off + i * k + j, none⟩ = some (V i j)

theorem Recs.only {w w' : World} {v : Value} {n k : Nat} {V : Nat → Nat → Value} {S : List Nat} (h : Recs w v n k V) (ho : Only S w w') (hS : ∀ x ∈ own v, x ∉ S) : Recs w' v n k V := by
  obtain ⟨a, cap, rfl, h1, h2, h0, h3⟩ := h
  refine ⟨a, cap, rfl, h1, h2, h0, fun i hi => ?_⟩
  obtain ⟨b, off, rfl, c⟩ := h3 i hi
  have hb : b ∉ S := hS b (by simp [own, Value.ownBlock])
  exact ⟨b, off, rfl, fun j hj => (ho.cell (p := ⟨b, _, none⟩) (cell_lt (c j hj)) hb).trans (c j hj)⟩
theorem Recs.same {w w' : World} {v : Value} {n k : Nat} {V : Nat → Nat → Value} (h : Recs w v n k V) (ho : Only [] w w') : Recs w' v n k V := h.only ho (by simp)
theorem Recs.congr {w : World} {v : Value} {n k : Nat} {V V' : Nat → Nat → Value} (h : Recs w v n k V) (e : ∀ i j, i < n → j < k → V i j = V' i j) : Recs w v n k V' := by
  obtain ⟨a, cap, rfl, h1, h2, h0, h3⟩ := h
  refine ⟨a, cap, rfl, h1, h2, h0, fun i hi => ?_⟩
  obtain ⟨b, off, rfl, c⟩ := h3 i hi
  exact ⟨b, off, rfl, fun j hj => by rw [c j hj, e i j hi hj]⟩

/-- Their cells in a row. -/
def flatV (V : Nat → Nat → Value) (n k : Nat) : List Value := (List.range (n * k)).map fun j => V (j / k) (j % k)
theorem flatV_len (V : Nat → Nat → Value) (n k : Nat) : (flatV V n k).length = n * k := by simp [flatV]
theorem flatV_get (V : Nat → Nat → Value) (n k i j : Nat) (hi : i < n) (hj : j < k) : (flatV V n k)[i * k + j]? = some (V i j) := by
  have h1 : i * k + j < n * k := by
    have : (i + 1) * k ≤ n * k := Nat.mul_le_mul_right k (by omega)
    rw [Nat.add_mul] at this; omega
  have h2 : (i * k + j) / k = i := by rw [Nat.mul_comm, Nat.mul_add_div (by omega), Nat.div_eq_of_lt hj]; rfl
  have h3 : (i * k + j) % k = j := by rw [Nat.mul_comm, Nat.mul_add_mod, Nat.mod_eq_of_lt hj]
  unfold flatV
  rw [List.getElem?_map, List.getElem?_range h1]
  simp [h2, h3]

theorem Recs.row {w : World} {v : Value} {n k : Nat} {V : Nat → Nat → Value} (h : Recs w v n k V) (hk : 0 < k) (h1 : ∀ i j, i < n → j < k → (V i j).oneCell' = true) : RowAt w v n k (flatV V n k) := by
  obtain ⟨a, cap, rfl, k1, k2, k0, k3⟩ := h
  have hdiv : ∀ j, j < n * k → j / k < n ∧ j % k < k := fun j hj => ⟨(Nat.div_lt_iff_lt_mul hk).2 hj, Nat.mod_lt _ hk⟩
  refine ⟨flatV_len _ _ _, fun y hy => ?_, ?_⟩
  · obtain ⟨j, hj, rfl⟩ := List.mem_map.1 hy
    have hj : j < n * k := by simpa using hj
    exact h1 _ _ (hdiv j hj).1 (hdiv j hj).2
  · by_cases e : n = 0
    · subst e
      left
      refine ⟨rfl, ?_⟩
      cases a with
      | none => left; rw [k0 rfl]
      | some x => exact .inr ⟨x, cap, rfl⟩
    · obtain ⟨b, off, rfl, _⟩ := k3 0 (by omega)
      refine .inr ⟨by omega, b, off, cap, rfl, fun j y hy => ?_⟩
      have hj : j < n * k := by
        rcases Nat.lt_or_ge j (n * k) with hl | hl
        · exact hl
        · rw [List.getElem?_eq_none (by rw [flatV_len]; exact hl)] at hy; cases hy
      obtain ⟨b', off', hb, c⟩ := k3 (j / k) (hdiv j hj).1
      injection hb with hb
      injection hb with e1 e2
      subst e1 e2
      have := c (j % k) (hdiv j hj).2
      rw [show off + j / k * k + j % k = off + j by have := Nat.div_add_mod j k; rw [Nat.mul_comm] at this; omega] at this
      rw [this]
      unfold flatV at hy
      rw [List.getElem?_map, List.getElem?_range hj] at hy
      simpa using hy

set_option maxRecDepth 100000 in
/-- A slice of such structs that came in. -/
theorem open_recs {H : Type} {enc : TypeId × Value → H} {W : World} {base : Nat} {t e : TypeId} {fs : Array Field} {k : Nat} {v : Value} {d : DataW H} {p : List MemPlace}
    (ht : Tryz.prog.underlying t = some (.slice e)) (he : Tryz.prog.underlying e = some (.struct fs)) (hk : fs.size = k) (k0 : 0 < k)
    (ce : Tryz.prog.cellsOf e = k) (hf : ∀ (j : Nat) (f : Field), fs[j]? = some f → f.offset = j ∧ Tryz.prog.cellsOf f.type = 1)
    (hv : Value.okWide Tryz.prog W .any base t v) (h : DataW.Trod enc Tryz.prog W 0 (fun _ => true) true t v d p) :
    ∃ (n : Nat) (V : Nat → Nat → Value), Recs W v n k V ∧ ∀ i, i < n → ∀ (j : Nat) (f : Field), fs[j]? = some f → ∃ (m : Nat) (x : DataW H × List MemPlace), DataW.trod enc Tryz.prog W 0 (fun _ => true) true m f.type [V i j] = some x := by
  obtain ⟨s, len, cap, rfl⟩ := okWide_slice ht hv
  obtain ⟨fuel, hfu⟩ := h
  rcases open_slice ht hfu with ⟨hcs, _⟩ | ⟨a, len', cap', m, n, D, Pl, hcs, _, hl, hm, hmm, _, hi⟩
  · simp [Value.cells] at hcs
    obtain ⟨rfl, rfl, rfl⟩ := hcs
    exact ⟨0, fun _ _ => .nilIface, ⟨none, 0, rfl, Nat.le_refl _, Nat.zero_le _, fun _ => rfl, fun i hi => by omega⟩, fun i hi => by omega⟩
  · simp [Value.cells] at hcs
    obtain ⟨rfl, rfl, rfl⟩ := hcs
    have hlm : len ≤ m := by rw [hmm]; simp; omega
    rw [ce] at hi
    have each : ∀ i, i < len → ∃ cs' : List Value, cs'.length = k ∧ (∀ j, j < k → W.cell? ((a.add (i * k)).add j) = cs'[j]?) ∧ ∀ (j : Nat) (f : Field), fs[j]? = some f → ∃ (m : Nat) (x : DataW H × List MemPlace), DataW.trod enc Tryz.prog W 0 (fun _ => true) true m f.type [cs'[j]?.getD undef] = some x := by
      intro i hil
      obtain ⟨cs', g1, g2⟩ := hi i (by omega)
      obtain ⟨_, g3, g4⟩ := World.cells?_some g1
      refine ⟨cs', g3, g4, fun j f hjf => ?_⟩
      obtain ⟨xs, q, _, _, _, hxl, hff⟩ := DataW.trod_struct he g2
      have h5 := hff j f hjf
      obtain ⟨o1, o2⟩ := hf j f hjf
      have hj : j < fs.size := by
        rcases Nat.lt_or_ge j fs.size with h | h
        · exact h
        · rw [Array.getElem?_eq_none h] at hjf; cases hjf
      rw [o1, o2, List.getElem?_eq_getElem (by omega)] at h5
      have e1 : (cs'.drop j).take 1 = [cs'[j]?.getD undef] := by
        have hjc : j < cs'.length := by omega
        rw [List.getElem?_eq_getElem hjc, List.drop_eq_getElem_cons hjc]
        rfl
      rw [e1] at h5
      exact ⟨_, _, h5⟩
    obtain ⟨C, hC⟩ := choose_lt each
    refine ⟨len, fun i j => (C i)[j]?.getD undef, ⟨_, _, rfl, hl, hm, (fun h => by cases h), fun i hil => ?_⟩, fun i hil j f hjf => (hC i hil).2.2 j f hjf⟩
    obtain ⟨g3, g4, _⟩ := hC 0 (by omega)
    have g5 := g4 0 k0
    rw [List.getElem?_eq_getElem (by omega), Nat.zero_mul, add_add] at g5
    have hs := spot_none (x := a) g5
    obtain ⟨b, off, spot⟩ := a
    obtain rfl : spot = none := hs
    refine ⟨b, off, rfl, fun j hj => ?_⟩
    obtain ⟨g3, g4, _⟩ := hC i hil
    have := g4 j hj
    rw [add_flat, add_flat] at this
    rw [this]
    show (C i)[j]? = some ((C i)[j]?.getD undef)
    cases h : (C i)[j]? with
    | some x => rfl
    | none => exact absurd (List.getElem?_eq_none_iff.1 h) (by omega)

/-- A field of a struct type of k one-cell fields, all read off by one test. -/
theorem fields_ok {fs : Array Field} (h : ((List.range fs.size).all fun j => match fs[j]? with | some f => decide (f.offset = j) && decide (Tryz.prog.cellsOf f.type = 1) | none => true) = true) :
    ∀ (j : Nat) (f : Field), fs[j]? = some f → f.offset = j ∧ Tryz.prog.cellsOf f.type = 1 := by
  intro j f hf
  have hj : j < fs.size := by
    rcases Nat.lt_or_ge j fs.size with h | h
    · exact h
    · rw [Array.getElem?_eq_none h] at hf; cases hf
  have := (List.all_eq_true.1 h) j (by simpa using hj)
  rw [hf] at this
  simpa using this

end Go.Proofs.YtocpmncedlenbaaGreatDoor

namespace Go.Proofs.YtocpmncedlenbaaGreatDoor
open Go.RowKit Go.Deep Go.ChangeShapes Go.WideShapes

/-- A stay: its hand, its task, from when, to when. -/
structure St where
  hand : Int
  task : Int
  frm : Int
  til : Int

def stCells (b : St) : List Value := [.int .i64 b.hand, .int .i64 b.task, .int .i64 b.frm, .int .i64 b.til]
def flatS (bs : List St) : List Value := bs.flatMap stCells
def stAt (bs : List St) (i : Nat) : St := bs[i]?.getD ⟨0, 0, 0, 0⟩
theorem take_st (bs : List St) (k : Nat) (h : k < bs.length) : bs.take (k + 1) = bs.take k ++ [stAt bs k] := by
  rw [List.take_succ_eq_append_getElem h]
  simp [stAt, h]
theorem stAt_mem {bs : List St} {k : Nat} (h : k < bs.length) : stAt bs k ∈ bs := by simp [stAt, h]

theorem flatS_len (bs : List St) : (flatS bs).length = bs.length * 4 := by
  induction bs with
  | nil => rfl
  | cons b bs ih => simp only [flatS, List.flatMap_cons, List.length_append, List.length_cons] at ih ⊢; rw [ih]; simp [stCells]; omega
theorem flatS_one (bs : List St) : ∀ y ∈ flatS bs, y.oneCell' = true := by
  intro y hy
  obtain ⟨b, _, hb⟩ := List.mem_flatMap.1 hy
  simp only [stCells, List.mem_cons, List.not_mem_nil, or_false] at hb
  rcases hb with rfl | rfl | rfl | rfl <;> rfl
theorem flatS_push (bs : List St) (b : St) : flatS bs ++ [.int .i64 b.hand, .int .i64 b.task, .int .i64 b.frm, .int .i64 b.til] = flatS (bs ++ [b]) := by
  simp [flatS, stCells]
theorem flatS_get (bs : List St) (i t : Nat) (hi : i < bs.length) (ht : t < 4) : (flatS bs)[i * 4 + t]? = (stCells (stAt bs i))[t]? := by
  induction bs generalizing i with
  | nil => simp at hi
  | cons b bs ih =>
    rcases i with _ | i
    · simp only [flatS, List.flatMap_cons, stAt]
      rw [List.getElem?_append_left (by simp [stCells]; omega)]
      simp
    · have e : (i + 1) * 4 + t = 4 + (i * 4 + t) := by omega
      have := ih i (by simpa using hi)
      simp only [flatS, List.flatMap_cons] at this ⊢
      rw [e, List.getElem?_append_right (by simp [stCells]), show 4 + (i * 4 + t) - (stCells b).length = i * 4 + t by simp [stCells], this]
      simp [stAt]

/-- The value v is a slice of the stays bs. -/
def StaysAt (w : World) (v : Value) (bs : List St) : Prop := RowAt w v bs.length 4 (flatS bs)

theorem StaysAt.opt {w : World} {v : Value} {bs : List St} (h : StaysAt w v bs) :
    ∃ a cap, v = .slice a bs.length cap ∧ ∀ i, i < bs.length → ∃ b off, a = some ⟨b, off, none⟩ ∧
      w.cell? ⟨b, off + i * 4, none⟩ = some (.int .i64 (stAt bs i).hand) ∧ w.cell? ⟨b, off + i * 4 + 1, none⟩ = some (.int .i64 (stAt bs i).task) ∧
      w.cell? ⟨b, off + i * 4 + 2, none⟩ = some (.int .i64 (stAt bs i).frm) ∧ w.cell? ⟨b, off + i * 4 + 3, none⟩ = some (.int .i64 (stAt bs i).til) := by
  obtain ⟨hl, h1, h⟩ := h
  rcases h with ⟨h0, h | ⟨x, cap, h⟩⟩ | ⟨h0, b, off, cap, h, hc⟩
  · exact ⟨none, 0, by rw [h0]; exact h, fun i hi => by omega⟩
  · exact ⟨some x, cap, by rw [h0]; exact h, fun i hi => by omega⟩
  · refine ⟨_, cap, h, fun i hi => ⟨b, off, rfl, ?_, ?_, ?_, ?_⟩⟩
    · exact hc (i * 4) _ (by rw [show i * 4 = i * 4 + 0 from rfl, flatS_get bs i 0 hi (by omega)]; rfl)
    · rw [Nat.add_assoc]; exact hc (i * 4 + 1) _ (by rw [flatS_get bs i 1 hi (by omega)]; rfl)
    · rw [Nat.add_assoc]; exact hc (i * 4 + 2) _ (by rw [flatS_get bs i 2 hi (by omega)]; rfl)
    · rw [Nat.add_assoc]; exact hc (i * 4 + 3) _ (by rw [flatS_get bs i 3 hi (by omega)]; rfl)

theorem StaysAt.same {w w' : World} {v : Value} {bs : List St} (h : StaysAt w v bs) (ho : Only [] w w') : StaysAt w' v bs := RowAt.same h ho

theorem sliceOf_stays : SliceOf 35 120 4 32 :=
  sliceOf_parts (z := .agg #[.int .i64 0, .int .i64 0, .int .i64 0, .int .i64 0]) Tryz.underlying35 (by kernel_rfl) rfl (by decide) (by decide)

/-- Stays of the call's own. -/
def OwnStays (w : World) (base : Nat) (v : Value) (bs : List St) : Prop := w.ownsRow base 120 4 v bs.length (flatS bs)
theorem OwnStays.at {w : World} {base : Nat} {v : Value} {bs : List St} (h : OwnStays w base v bs) : StaysAt w v bs := Row.at h (flatS_one bs)
theorem OwnStays.nil (w : World) (base : Nat) : OwnStays w base (.slice none 0 0) [] := World.ownsRow_nil _ _ _ _

def stWf (b : St) : Prop := (Lit.int .i64 b.hand).wf = true ∧ (Lit.int .i64 b.task).wf = true ∧ (Lit.int .i64 b.frm).wf = true ∧ (Lit.int .i64 b.til).wf = true

/-- The value v is a slice that came in, with the stays bs. -/
def InStays (w : World) (v : Value) (bs : List St) : Prop := (∀ b ∈ bs, stWf b) ∧ StaysAt w v bs ∧ bs.length ≤ maxLen ∧ ∀ a m c, v = .slice a m c → m ≤ c
theorem InStays.same {w w' : World} {v : Value} {bs : List St} (h : InStays w v bs) (ho : Only [] w w') : InStays w' v bs := ⟨h.1, h.2.1.same ho, h.2.2⟩

theorem flatS_eq (bs : List St) : flatS bs = flatV (fun i j => (stCells (stAt bs i))[j]?.getD undef) bs.length 4 := by
  apply List.ext_getElem?
  intro m
  by_cases hm : m < bs.length * 4
  · have e : m = m / 4 * 4 + m % 4 := by omega
    have h1 : m / 4 < bs.length := by omega
    rw [e, flatS_get _ _ _ h1 (by omega), flatV_get _ _ _ _ _ h1 (by omega)]
    have : m % 4 = 0 ∨ m % 4 = 1 ∨ m % 4 = 2 ∨ m % 4 = 3 := by omega
    rcases this with h | h | h | h <;> rw [h] <;> rfl
  · rw [List.getElem?_eq_none (by rw [flatS_len]; omega), List.getElem?_eq_none (by rw [flatV_len]; omega)]

set_option maxRecDepth 100000 in
theorem open_stays {H : Type} {enc : TypeId × Value → H} {W : World} {base : Nat} {v : Value} {d : DataW H} {p : List MemPlace}
    (hv : Value.okWide Tryz.prog W .any base 35 v) (h : DataW.Trod enc Tryz.prog W 0 (fun _ => true) true 35 v d p) : ∃ l, InStays W v l := by
  obtain ⟨n, V, hR, hV⟩ := open_recs (k := 4) Tryz.underlying35 Tryz.underlying120 rfl (by omega) (by kernel_rfl) (fields_ok (by kernel_rfl)) hv h
  have key : ∀ i, i < n → ∃ b : St, (V i 0 = .int .i64 b.hand ∧ V i 1 = .int .i64 b.task ∧ V i 2 = .int .i64 b.frm ∧ V i 3 = .int .i64 b.til) ∧ stWf b := by
    intro i hi
    obtain ⟨_, x0, h0⟩ := hV i hi 0 _ rfl
    obtain ⟨_, x1, h1⟩ := hV i hi 1 _ rfl
    obtain ⟨_, x2, h2⟩ := hV i hi 2 _ rfl
    obtain ⟨_, x3, h3⟩ := hV i hi 3 _ rfl
    obtain ⟨a, e0, _, wa⟩ := DataW.trod_int Tryz.underlying3 h0
    obtain ⟨b, e1, _, wb⟩ := DataW.trod_int Tryz.underlying3 h1
    obtain ⟨c, e2, _, wc⟩ := DataW.trod_int Tryz.underlying3 h2
    obtain ⟨d, e3, _, wd⟩ := DataW.trod_int Tryz.underlying3 h3
    simp at e0 e1 e2 e3
    exact ⟨⟨a, b, c, d⟩, ⟨e0, e1, e2, e3⟩, wa, wb, wc, wd⟩
  haveI : Inhabited St := ⟨⟨0, 0, 0, 0⟩⟩
  obtain ⟨q, hq⟩ := choose_lt key
  have hl : ((List.range n).map q).length = n := by simp
  have hat : ∀ i, i < n → stAt ((List.range n).map q) i = q i := fun i hi => by simp [stAt, hi]
  have hmax : n ≤ maxLen := by obtain ⟨a, cap, _, h1, h2, _⟩ := hR; omega
  refine ⟨(List.range n).map q, ?_, ?_, by rw [hl]; exact hmax, fun a m c hv => by obtain ⟨a', cap, e, h1, _⟩ := hR; rw [hv] at e; injection e with _ e2 e3; omega⟩
  · intro j hj
    obtain ⟨i, hi, rfl⟩ := List.mem_map.1 hj
    exact (hq i (List.mem_range.1 hi)).2
  · unfold StaysAt
    rw [flatS_eq, hl]
    have hR2 := hR.congr (V' := fun i j => (stCells (stAt ((List.range n).map q) i))[j]?.getD undef) (fun i j hi hj => by
      rw [hat i hi]
      obtain ⟨⟨e0, e1, e2, e3⟩, _⟩ := hq i hi
      have : j = 0 ∨ j = 1 ∨ j = 2 ∨ j = 3 := by omega
      rcases this with rfl | rfl | rfl | rfl
      · exact e0
      · exact e1
      · exact e2
      · exact e3)
    refine hR2.row (by omega) fun i j hi hj => ?_
    have : j = 0 ∨ j = 1 ∨ j = 2 ∨ j = 3 := by omega
    rcases this with rfl | rfl | rfl | rfl <;> rfl

end Go.Proofs.YtocpmncedlenbaaGreatDoor
