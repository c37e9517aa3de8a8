/-
  What is wrong with bits, and with stays, in plain words. No program is named here.
-/
import Derived.Test.YtmopbimineoogaaDoorP3JudgeSame
import Derived.Test.YtmopbimineoogaaDoorP4JudgeSame
import Derived.Test.YtmopbimineoogaaDoorP8JudgeSame
namespace Go.Proofs.YtmopbimineoogaaDoor

/-- Is there one of the same step, of the same hand or task? -/
def clashB (bs : List Bt) (b : Bt) : Bool := bs.any fun x => decide (x.step = b.step) && (decide (x.hand = b.hand) || decide (x.task = b.task))
/-- How many are of a task. -/
def manyOf (bs : List Bt) (t : Int) : Nat := bs.countP fun x => x.task == t

/-- What is wrong with a bit, by those ahead. -/
def bitFault (p : PlanL) (hands : Int) (ahead : List Bt) (b : Bt) : Int :=
  if b.step < 0 ∨ 10000 < b.step ∨ b.hand < 0 ∨ hands ≤ b.hand ∨ b.task < 0 ∨ (p.length : Int) ≤ b.task then 1
  else if clashB ahead b = true then 7
  else if wkOf p b.task.toNat ≤ (manyOf ahead b.task : Int) then 4 else 0

/-- The first that is wrong among the first k. -/
def scanK (p : PlanL) (hands : Int) (bs : List Bt) (k : Nat) : Int := firstE (fun i => bitFault p hands (bs.take i) (bitAt bs i)) k

/-- The last step of a task; 0, if there is none. -/
def lastF (bs : List Bt) (t : Int) : Int := bs.foldl (fun m b => if b.task = t then max m b.step else m) 0
/-- The first one. -/
def firstO (bs : List Bt) (t : Int) : Option Int := bs.foldl (fun o b => if b.task = t then some (match o with | none => b.step | some m => min m b.step) else o) none
def firstF (bs : List Bt) (t : Int) : Int := (firstO bs t).getD 0

/-- Does a task lack bits? -/
def lackB (p : PlanL) (bs : List Bt) : Bool := (List.range p.length).any fun i => decide ((manyOf bs (i : Int) : Int) < wkOf p i)
/-- Does one begin ahead of the end of one that it needs? -/
def earlyB (p : PlanL) (bs : List Bt) : Bool := bs.any fun b => (ndOf p b.task.toNat).any fun k => decide (b.step ≤ lastF bs k)

def bitsErr (p : PlanL) (hands : Int) (bs : List Bt) : Int :=
  if scanK p hands bs bs.length ≠ 0 then scanK p hands bs bs.length else if lackB p bs = true then 5 else if earlyB p bs = true then 6 else 0

theorem manyOf_push (bs : List Bt) (b : Bt) (t : Int) : manyOf (bs ++ [b]) t = if b.task = t then manyOf bs t + 1 else manyOf bs t := by
  unfold manyOf
  rw [List.countP_append]
  by_cases e : b.task = t <;> simp [e]
theorem manyOf_nil (t : Int) : manyOf [] t = 0 := rfl
theorem lastF_push (bs : List Bt) (b : Bt) (t : Int) : lastF (bs ++ [b]) t = if b.task = t then max (lastF bs t) b.step else lastF bs t := by
  unfold lastF; rw [List.foldl_append]; rfl
theorem lastF_nil (t : Int) : lastF [] t = 0 := rfl
theorem firstO_push (bs : List Bt) (b : Bt) (t : Int) : firstO (bs ++ [b]) t = if b.task = t then some (match firstO bs t with | none => b.step | some m => min m b.step) else firstO bs t := by
  unfold firstO; rw [List.foldl_append]; rfl
theorem firstF_nil (t : Int) : firstF [] t = 0 := rfl

theorem snoc_cases {α : Type} {P : List α → Prop} (h0 : P []) (h1 : ∀ l a, P l → P (l ++ [a])) : ∀ l, P l := by
  intro l
  have : ∀ r : List α, P r.reverse := by
    intro r
    induction r with
    | nil => exact h0
    | cons a r ih => rw [List.reverse_cons]; exact h1 _ _ ih
  simpa using this l.reverse

theorem firstO_none (bs : List Bt) (t : Int) : firstO bs t = none ↔ manyOf bs t = 0 := by
  induction bs using snoc_cases with
  | h0 => simp [firstO, manyOf]
  | h1 l a ih =>
    rw [firstO_push, manyOf_push]
    by_cases e : a.task = t
    · simp [e]
    · simp [e, ih]
theorem firstF_push (bs : List Bt) (b : Bt) (t : Int) : firstF (bs ++ [b]) t = if b.task = t then (if manyOf bs t = 0 then b.step else min (firstF bs t) b.step) else firstF bs t := by
  unfold firstF
  rw [firstO_push]
  by_cases e : b.task = t
  · rw [if_pos e, if_pos e]
    by_cases h : manyOf bs t = 0
    · rw [if_pos h, (firstO_none bs t).2 h]; rfl
    · rw [if_neg h]
      cases hf : firstO bs t with
      | none => exact absurd ((firstO_none bs t).1 hf) h
      | some m => rfl
  · rw [if_neg e, if_neg e]

theorem firstF_le (bs : List Bt) (t : Int) : ∀ b ∈ bs, b.task = t → firstF bs t ≤ b.step := by
  induction bs using snoc_cases with
  | h0 => intro b hb; cases hb
  | h1 l a ih =>
    intro b hb e
    rw [firstF_push]
    rcases List.mem_append.1 hb with hb | hb
    · have h1 := ih b hb e
      have hm : manyOf l t ≠ 0 := by
        unfold manyOf
        intro h0
        rw [List.countP_eq_zero] at h0
        exact absurd (h0 b hb) (by simp [e])
      split
      · omega
      · exact h1
    · obtain rfl : b = a := by simpa using hb
      rw [if_pos e]
      split
      · exact Int.le_refl _
      · omega
theorem firstF_in (bs : List Bt) (t : Int) (h : manyOf bs t ≠ 0) : ∃ b ∈ bs, b.task = t ∧ b.step = firstF bs t := by
  induction bs using snoc_cases with
  | h0 => exact absurd rfl h
  | h1 l a ih =>
    rw [firstF_push]
    rw [manyOf_push] at h
    by_cases e : a.task = t
    · rw [if_pos e]
      by_cases hm : manyOf l t = 0
      · rw [if_pos hm]; exact ⟨a, by simp, e, rfl⟩
      · rw [if_neg hm]
        by_cases hle : a.step ≤ firstF l t
        · exact ⟨a, by simp, e, by omega⟩
        · obtain ⟨b, hb, h1, h2⟩ := ih hm
          exact ⟨b, by simp [hb], h1, by omega⟩
    · rw [if_neg e] at h ⊢
      obtain ⟨b, hb, h1, h2⟩ := ih h
      exact ⟨b, by simp [hb], h1, h2⟩

theorem lastF_ge0 (bs : List Bt) (t : Int) : 0 ≤ lastF bs t := by
  induction bs using snoc_cases with
  | h0 => exact Int.le_refl _
  | h1 l a ih => rw [lastF_push]; split <;> omega
theorem lastF_ge (bs : List Bt) (t : Int) : ∀ b ∈ bs, b.task = t → b.step ≤ lastF bs t := by
  induction bs using snoc_cases with
  | h0 => intro b hb; cases hb
  | h1 l a ih =>
    intro b hb e
    rw [lastF_push]
    rcases List.mem_append.1 hb with hb | hb
    · have := ih b hb e
      split <;> omega
    · obtain rfl : b = a := by simpa using hb
      rw [if_pos e]; omega
theorem lastF_le {bs : List Bt} {t : Int} {B : Int} (h0 : 0 ≤ B) (h : ∀ b ∈ bs, b.task = t → b.step ≤ B) : lastF bs t ≤ B := by
  induction bs using snoc_cases with
  | h0 => exact h0
  | h1 l a ih =>
    have := ih (fun b hb => h b (by simp [hb]))
    rw [lastF_push]
    split
    · rename_i e
      have := h a (by simp) e
      omega
    · exact this
theorem firstF_bd {bs : List Bt} {t : Int} {B : Int} (h0 : 0 ≤ B) (h : ∀ b ∈ bs, b.task = t → 0 ≤ b.step ∧ b.step ≤ B) : 0 ≤ firstF bs t ∧ firstF bs t ≤ B := by
  by_cases hm : manyOf bs t = 0
  · unfold firstF; rw [(firstO_none bs t).2 hm]; exact ⟨Int.le_refl _, h0⟩
  · obtain ⟨b, hb, h1, h2⟩ := firstF_in bs t hm
    have := h b hb h1
    omega

/-- Bits that were gone through. -/
theorem scanK_ok {p : PlanL} {hands : Int} {bs : List Bt} {k : Nat} (h : scanK p hands bs k = 0) (hk : k ≤ bs.length) : ∀ b ∈ bs.take k, 0 ≤ b.step ∧ b.step ≤ 10000 ∧ 0 ≤ b.hand ∧ b.hand < hands ∧ 0 ≤ b.task ∧ b.task < p.length := by
  intro b hb
  obtain ⟨i, hi, rfl⟩ := List.getElem_of_mem hb
  simp only [List.length_take] at hi
  have h1 := firstE_all.1 h i (by omega)
  have e : bitAt bs i = (bs.take k)[i]'(by simp; omega) := by
    rw [List.getElem_take]; simp [bitAt, show i < bs.length by omega]
  rw [e] at h1
  unfold bitFault at h1
  split at h1
  · cases h1
  · omega

theorem scanK_many {p : PlanL} {hands : Int} {bs : List Bt} {k : Nat} (h : scanK p hands bs k = 0) (hk : k ≤ bs.length) (hw : ∀ i, i < p.length → 0 ≤ wkOf p i) (t : Nat) (ht : t < p.length) : (manyOf (bs.take k) (t : Int) : Int) ≤ wkOf p t := by
  induction k with
  | zero => rw [List.take_zero]; exact hw t ht
  | succ k ih =>
    have h0 := firstE_before h (show k ≤ k + 1 by omega)
    have h1 := firstE_all.1 h k (by omega)
    have := ih h0 (by omega)
    have e : bs.take (k + 1) = bs.take k ++ [bitAt bs k] := by rw [List.take_succ_eq_append_getElem (by omega)]; simp [bitAt, show k < bs.length by omega]
    rw [e, manyOf_push]
    split
    · rename_i e2
      unfold bitFault at h1
      rw [e2] at h1
      simp only [Int.toNat_natCast] at h1
      split at h1
      · cases h1
      · split at h1
        · cases h1
        · split at h1
          · cases h1
          · omega
    · exact this

theorem earlyB_iff {p : PlanL} {hands : Int} {bs : List Bt} (hs : scanK p hands bs bs.length = 0) (hl : lackB p bs = false) (hw : ∀ i, i < p.length → 1 ≤ wkOf p i) :
    earlyB p bs = true ↔ ∃ i, i < p.length ∧ ∃ k ∈ ndOf p i, firstF bs (i : Int) ≤ lastF bs k := by
  have hok := scanK_ok hs (Nat.le_refl _)
  rw [List.take_length] at hok
  constructor
  · intro h
    unfold earlyB at h
    obtain ⟨b, hb, h1⟩ := List.any_eq_true.1 h
    obtain ⟨k, hk, h2⟩ := List.any_eq_true.1 h1
    have := hok b hb
    refine ⟨b.task.toNat, by omega, k, hk, ?_⟩
    have h3 := firstF_le bs ((b.task.toNat : Nat) : Int) b hb (by omega)
    have := of_decide_eq_true h2
    omega
  · rintro ⟨i, hi, k, hk, h1⟩
    have hm : manyOf bs (i : Int) ≠ 0 := by
      intro h0
      have : lackB p bs = true := by
        unfold lackB
        refine List.any_eq_true.2 ⟨i, by simpa using hi, decide_eq_true ?_⟩
        rw [h0]
        have := hw i hi
        omega
      rw [hl] at this; cases this
    obtain ⟨b, hb, h2, h3⟩ := firstF_in bs (i : Int) hm
    unfold earlyB
    refine List.any_eq_true.2 ⟨b, hb, List.any_eq_true.2 ⟨k, ?_, decide_eq_true (by omega)⟩⟩
    rw [h2]; simpa using hk

end Go.Proofs.YtmopbimineoogaaDoor
