/-
  What is wrong with stays, in plain words. No program is named here.
  Stays are bits, in plain words. No program is named here.
-/
import Derived.Test.YtocpmncedlenbaaGreatDoorP33TopWeave
import Derived.Test.YtocpmncedlenbaaGreatDoorP3TopWeave
import Derived.Test.YtocpmncedlenbaaGreatDoorP31TopWeave
namespace Go.Proofs.YtocpmncedlenbaaGreatDoor

/-- Have two a step in common? -/
def overS (a b : St) : Bool := decide (a.frm < b.til) && decide (b.frm < a.til)
def clashS (ss : List St) (s : St) : Bool := ss.any fun x => decide (x.task = s.task) || (decide (x.hand = s.hand) && overS x s)
/-- What is wrong with a stay, by those ahead. -/
def stayFault (p : PlanL) (hands : Int) (ahead : List St) (s : St) : Int :=
  if s.hand < 0 ∨ hands ≤ s.hand ∨ s.task < 0 ∨ (p.length : Int) ≤ s.task ∨ s.frm < 0 ∨ s.til < s.frm ∨ 10000 < s.til then 1
  else if s.til - s.frm ≠ wkOf p s.task.toNat then 3
  else if clashS ahead s = true then 7 else 0
def scanS (p : PlanL) (hands : Int) (ss : List St) (k : Nat) : Int := firstE (fun i => stayFault p hands (ss.take i) (stAt ss i)) k
/-- The stay of a task. -/
def stayOf (ss : List St) (t : Int) : Option St := ss.foldl (fun o x => if x.task = t then some x else o) none
def stF (ss : List St) (t : Int) : St := (stayOf ss t).getD ⟨0, 0, 0, 0⟩
def earlyS (p : PlanL) (ss : List St) : Bool := ss.any fun a => ss.any fun b => decide (b.task ∈ ndOf p a.task.toNat) && decide (a.frm < b.til)
def staysErr (p : PlanL) (hands : Int) (ss : List St) : Int :=
  if scanS p hands ss ss.length ≠ 0 then scanS p hands ss ss.length else if ss.length < p.length then 5 else if earlyS p ss = true then 6 else 0

theorem stayOf_push (ss : List St) (s : St) (t : Int) : stayOf (ss ++ [s]) t = if s.task = t then some s else stayOf ss t := by
  unfold stayOf; rw [List.foldl_append]; rfl
theorem stayOf_some {ss : List St} {t : Int} {s : St} (h : stayOf ss t = some s) : s ∈ ss ∧ s.task = t := by
  have : ∀ (r : List St), stayOf r.reverse t = some s → s ∈ r.reverse ∧ s.task = t := by
    intro r
    induction r with
    | nil => intro h; cases h
    | cons a r ih =>
      rw [List.reverse_cons, stayOf_push]
      intro h
      by_cases e : a.task = t
      · rw [if_pos e] at h; cases h; exact ⟨by simp, e⟩
      · rw [if_neg e] at h
        have := ih h
        exact ⟨by simp at this ⊢; exact .inl this.1, this.2⟩
  have := this ss.reverse
  rw [List.reverse_reverse] at this
  exact this h
theorem stayOf_none {ss : List St} {t : Int} (h : ∀ s ∈ ss, s.task ≠ t) : stayOf ss t = none := by
  cases e : stayOf ss t with
  | none => rfl
  | some s => have := stayOf_some e; exact absurd this.2 (h s this.1)
theorem stayOf_mem {ss : List St} (hp : ss.Pairwise (fun a b => a.task ≠ b.task)) {s : St} (h : s ∈ ss) : stayOf ss s.task = some s := by
  have : ∀ (r : List St), r.reverse.Pairwise (fun a b => a.task ≠ b.task) → s ∈ r.reverse → stayOf r.reverse s.task = some s := by
    intro r
    induction r with
    | nil => intro _ h; cases h
    | cons a r ih =>
      rw [List.reverse_cons]
      intro hp h
      rw [stayOf_push]
      have h2 := List.pairwise_append.1 hp
      rcases List.mem_append.1 h with h | h
      · rw [if_neg (fun e => h2.2.2 s h a (by simp) e.symm)]; exact ih h2.1 h
      · obtain rfl : s = a := by simpa using h
        rw [if_pos rfl]
  have := this ss.reverse
  rw [List.reverse_reverse] at this
  exact this hp h

theorem scanS_at {p : PlanL} {hands : Int} {ss : List St} {k : Nat} (h : stayFault p hands (ss.take k) (stAt ss k) = 0) :
    0 ≤ (stAt ss k).hand ∧ (stAt ss k).hand < hands ∧ 0 ≤ (stAt ss k).task ∧ (stAt ss k).task < p.length ∧ 0 ≤ (stAt ss k).frm ∧ (stAt ss k).frm ≤ (stAt ss k).til ∧ (stAt ss k).til ≤ 10000 ∧
    (stAt ss k).til - (stAt ss k).frm = wkOf p (stAt ss k).task.toNat ∧ ∀ x ∈ ss.take k, x.task ≠ (stAt ss k).task ∧ ¬ (x.hand = (stAt ss k).hand ∧ x.frm < (stAt ss k).til ∧ (stAt ss k).frm < x.til) := by
  unfold stayFault at h
  split at h
  · cases h
  · split at h
    · cases h
    · split at h
      · cases h
      · rename_i h1 h2 h3
        refine ⟨by omega, by omega, by omega, by omega, by omega, by omega, by omega, by omega, fun x hx => ?_⟩
        have h4 : clashS (ss.take k) (stAt ss k) = false := by simpa using h3
        unfold clashS at h4
        rw [List.any_eq_false] at h4
        have := h4 x hx
        simp only [overS, Bool.or_eq_true, decide_eq_true_eq, Bool.and_eq_true, not_or] at this
        exact ⟨this.1, this.2⟩

theorem scanS_pair {p : PlanL} {hands : Int} {ss : List St} {k : Nat} (h : scanS p hands ss k = 0) (hk : k ≤ ss.length) : (ss.take k).Pairwise (fun a b => a.task ≠ b.task) := by
  induction k with
  | zero => simp
  | succ k ih =>
    have h1 := scanS_at (firstE_all.1 h k (by omega))
    rw [take_st ss k (by omega), List.pairwise_append]
    refine ⟨ih (firstE_before h (by omega)) (by omega), by simp, fun a ha b hb => ?_⟩
    obtain rfl : b = stAt ss k := by simpa using hb
    exact (h1.2.2.2.2.2.2.2.2 a ha).1

theorem scanS_mem {p : PlanL} {hands : Int} {ss : List St} (h : scanS p hands ss ss.length = 0) : ∀ s ∈ ss, 0 ≤ s.hand ∧ s.hand < hands ∧ 0 ≤ s.task ∧ s.task < p.length ∧ 0 ≤ s.frm ∧ s.frm ≤ s.til ∧ s.til ≤ 10000 ∧ s.til - s.frm = wkOf p s.task.toNat := by
  intro s hs
  obtain ⟨i, hi, rfl⟩ := List.getElem_of_mem hs
  have h1 := scanS_at (firstE_all.1 h i hi)
  have e : stAt ss i = ss[i] := by simp [stAt, hi]
  rw [e] at h1
  exact ⟨h1.1, h1.2.1, h1.2.2.1, h1.2.2.2.1, h1.2.2.2.2.1, h1.2.2.2.2.2.1, h1.2.2.2.2.2.2.1, h1.2.2.2.2.2.2.2.1⟩

/-- As many different numbers below n as n are all of them. -/
theorem all_there {n : Nat} {l : List Nat} (hn : l.Nodup) (hl : ∀ x ∈ l, x < n) (hlen : n ≤ l.length) : ∀ i, i < n → i ∈ l := by
  intro i hi
  by_cases e : i ∈ l
  · exact e
  · exfalso
    have h1 := sum_ind n (i :: l) (List.nodup_cons.2 ⟨e, hn⟩) (fun x hx => by
      rcases List.mem_cons.1 hx with rfl | hx
      · exact hi
      · exact hl x hx)
    have h2 := sum_map_le (fun j => if j ∈ i :: l then 1 else 0) (fun _ => 1) (List.range n) (fun x _ => by split <;> omega)
    have h3 := sum_const (List.range n) 1
    simp only [List.length_range, List.length_cons] at h1 h2 h3
    omega

theorem stay_all {p : PlanL} {hands : Int} {ss : List St} (h : scanS p hands ss ss.length = 0) (hl : p.length ≤ ss.length) (i : Nat) (hi : i < p.length) : ∃ s ∈ ss, s.task = (i : Int) := by
  have hp := scanS_pair h (Nat.le_refl _)
  rw [List.take_length] at hp
  have hm := scanS_mem h
  have h1 := all_there (n := p.length) (l := ss.map fun s => s.task.toNat) (by
    unfold List.Nodup
    rw [List.pairwise_map]
    refine (List.pairwise_iff_getElem.2 fun a b ha hb hab => ?_)
    have := (List.pairwise_iff_getElem.1 hp) a b ha hb hab
    have h1 := hm _ (List.getElem_mem ha)
    have h2 := hm _ (List.getElem_mem hb)
    omega) (fun x hx => by
      obtain ⟨s, hs, rfl⟩ := List.mem_map.1 hx
      have := hm s hs
      omega) (by simpa using hl) i hi
  obtain ⟨s, hs, he⟩ := List.mem_map.1 h1
  have := hm s hs
  exact ⟨s, hs, by omega⟩

theorem earlyS_iff {p : PlanL} {hands : Int} {ss : List St} (h : scanS p hands ss ss.length = 0) (hl : p.length ≤ ss.length) (hn : ∀ i, ∀ k ∈ ndOf p i, 0 ≤ k ∧ k < p.length) :
    earlyS p ss = true ↔ ∃ i, i < p.length ∧ ∃ k ∈ ndOf p i, (stF ss (i : Int)).frm < (stF ss k).til := by
  have hp := scanS_pair h (Nat.le_refl _)
  rw [List.take_length] at hp
  have hm := scanS_mem h
  constructor
  · intro he
    unfold earlyS at he
    obtain ⟨a, ha, h1⟩ := List.any_eq_true.1 he
    obtain ⟨b, hb, h2⟩ := List.any_eq_true.1 h1
    simp only [Bool.and_eq_true, decide_eq_true_eq] at h2
    have := hm a ha
    refine ⟨a.task.toNat, by omega, b.task, h2.1, ?_⟩
    unfold stF
    rw [show ((a.task.toNat : Nat) : Int) = a.task by omega, stayOf_mem hp ha, stayOf_mem hp hb]
    exact h2.2
  · rintro ⟨i, hi, k, hk, h1⟩
    obtain ⟨a, ha, ea⟩ := stay_all h hl i hi
    have hkb := hn i k hk
    obtain ⟨b, hb, eb⟩ := stay_all h hl k.toNat (by omega)
    have ekb : b.task = k := by omega
    unfold stF at h1
    rw [← ea, ← ekb, stayOf_mem hp ha, stayOf_mem hp hb] at h1
    unfold earlyS
    refine List.any_eq_true.2 ⟨a, ha, List.any_eq_true.2 ⟨b, hb, ?_⟩⟩
    simp only [Bool.and_eq_true, decide_eq_true_eq]
    refine ⟨?_, h1⟩
    rw [ea, ekb]
    simpa using hk

end Go.Proofs.YtocpmncedlenbaaGreatDoor

namespace Go.Proofs.YtocpmncedlenbaaGreatDoor

def noClash (a b : Bt) : Prop := ¬ (a.step = b.step ∧ (a.hand = b.hand ∨ a.task = b.task))
def inR (p : PlanL) (hands : Int) (b : Bt) : Prop := 0 ≤ b.step ∧ b.step ≤ 10000 ∧ 0 ≤ b.hand ∧ b.hand < hands ∧ 0 ≤ b.task ∧ b.task < p.length

theorem manyOf_two (a b : List Bt) (t : Int) : manyOf (a ++ b) t = manyOf a t + manyOf b t := by unfold manyOf; rw [List.countP_append]
theorem manyOf_cons (b : Bt) (bs : List Bt) (t : Int) : manyOf (b :: bs) t = manyOf bs t + if b.task = t then 1 else 0 := by
  unfold manyOf; rw [List.countP_cons]; simp
theorem split_at {bs : List Bt} {k : Nat} (hk : k < bs.length) : bs = bs.take k ++ bs[k] :: bs.drop (k + 1) := by
  rw [← List.drop_eq_getElem_cons hk, List.take_append_drop]

theorem scan_of {p : PlanL} {hands : Int} {bs : List Bt} (h1 : ∀ b ∈ bs, inR p hands b) (h2 : bs.Pairwise noClash) (h3 : ∀ t : Nat, t < p.length → (manyOf bs (t : Int) : Int) ≤ wkOf p t) :
    scanK p hands bs bs.length = 0 := by
  unfold scanK
  rw [firstE_all]
  intro k hk
  have e : bitAt bs k = bs[k] := by simp [bitAt, hk]
  rw [e]
  have hr := h1 _ (List.getElem_mem hk)
  unfold inR at hr
  unfold bitFault
  rw [if_neg (by omega), if_neg, if_neg]
  · have hm := h3 bs[k].task.toNat (by omega)
    rw [Int.toNat_of_nonneg (by omega)] at hm
    have hs := congrArg (fun l => manyOf l bs[k].task) (split_at hk)
    simp only [manyOf_two, manyOf_cons, if_pos] at hs
    omega
  · unfold clashB
    rw [Bool.not_eq_true, List.any_eq_false]
    intro x hx
    obtain ⟨j, hj, rfl⟩ := List.getElem_of_mem hx
    rw [List.length_take] at hj
    rw [List.getElem_take]
    have := (List.pairwise_iff_getElem.1 h2) j k (by omega) hk (by omega)
    unfold noClash at this
    simp only [Bool.and_eq_true, Bool.or_eq_true, decide_eq_true_eq]
    exact this

theorem bits_zero {p : PlanL} {hands : Int} {bs : List Bt} (h : scanK p hands bs bs.length = 0) (h1 : ∀ t : Nat, t < p.length → wkOf p t ≤ (manyOf bs (t : Int) : Int)) (h2 : ∀ b ∈ bs, ∀ k ∈ ndOf p b.task.toNat, lastF bs k < b.step) :
    bitsErr p hands bs = 0 := by
  unfold bitsErr
  rw [if_neg (by simp [h]), if_neg, if_neg]
  · unfold earlyB
    rw [Bool.not_eq_true, List.any_eq_false]
    intro b hb
    rw [Bool.not_eq_true, List.any_eq_false]
    intro k hk
    have := h2 b hb k hk
    simp only [decide_eq_true_eq]; omega
  · unfold lackB
    rw [Bool.not_eq_true, List.any_eq_false]
    intro i hi
    have := h1 i (by simpa using hi)
    simp only [decide_eq_true_eq]; omega
theorem bits_lack {p : PlanL} {hands : Int} {bs : List Bt} (h : scanK p hands bs bs.length = 0) {t : Nat} (ht : t < p.length) (h1 : (manyOf bs (t : Int) : Int) < wkOf p t) : bitsErr p hands bs = 5 := by
  unfold bitsErr
  rw [if_neg (by simp [h]), if_pos]
  unfold lackB
  exact List.any_eq_true.2 ⟨t, by simpa using ht, by simpa using h1⟩

/-- The bits of a stay, and of stays. -/
def bitsOf (s : St) : List Bt := (List.range (s.til - s.frm).toNat).map fun (t : Nat) => ⟨s.frm + (t : Int), s.hand, s.task⟩
def bitsS (ss : List St) : List Bt := ss.flatMap bitsOf

theorem bitsOf_mem {s : St} {b : Bt} (h : b ∈ bitsOf s) : b.hand = s.hand ∧ b.task = s.task ∧ s.frm ≤ b.step ∧ b.step < s.til := by
  unfold bitsOf at h
  obtain ⟨t, ht, rfl⟩ := List.mem_map.1 h
  have : t < (s.til - s.frm).toNat := by simpa using ht
  exact ⟨rfl, rfl, by show s.frm ≤ s.frm + _; omega, by show s.frm + _ < s.til; omega⟩
theorem bitsOf_in {s : St} {x : Int} (h1 : s.frm ≤ x) (h2 : x < s.til) : (⟨x, s.hand, s.task⟩ : Bt) ∈ bitsOf s := by
  unfold bitsOf
  refine List.mem_map.2 ⟨(x - s.frm).toNat, by simp; omega, ?_⟩
  have : s.frm + (((x - s.frm).toNat : Nat) : Int) = x := by omega
  rw [this]
theorem bitsS_mem {ss : List St} {b : Bt} (h : b ∈ bitsS ss) : ∃ s ∈ ss, b.hand = s.hand ∧ b.task = s.task ∧ s.frm ≤ b.step ∧ b.step < s.til := by
  obtain ⟨s, hs, hb⟩ := List.mem_flatMap.1 h
  exact ⟨s, hs, bitsOf_mem hb⟩
theorem manyOf_stay (s : St) (t : Int) : manyOf (bitsOf s) t = if s.task = t then (s.til - s.frm).toNat else 0 := by
  unfold manyOf
  by_cases e : s.task = t
  · rw [if_pos e]
    have : (bitsOf s).countP (fun x => x.task == t) = (bitsOf s).length := by
      rw [List.countP_eq_length]
      intro b hb
      have := (bitsOf_mem hb).2.1
      simp [this, e]
    rw [this]; simp [bitsOf]
  · rw [if_neg e, List.countP_eq_zero]
    intro b hb
    have := (bitsOf_mem hb).2.1
    simp [this, e]
theorem manyOf_none {ss : List St} {t : Int} (h : ∀ s ∈ ss, s.task ≠ t) : manyOf (bitsS ss) t = 0 := by
  unfold manyOf
  rw [List.countP_eq_zero]
  intro b hb
  obtain ⟨s, hs, _, e, _⟩ := bitsS_mem hb
  have := h s hs
  simp [e, this]
theorem manyOf_stays {ss : List St} (hp : ss.Pairwise (fun a b => a.task ≠ b.task)) {s : St} (hs : s ∈ ss) : manyOf (bitsS ss) s.task = (s.til - s.frm).toNat := by
  induction ss with
  | nil => cases hs
  | cons a ss ih =>
    rw [List.pairwise_cons] at hp
    have e : bitsS (a :: ss) = bitsOf a ++ bitsS ss := rfl
    rw [e, manyOf_two, manyOf_stay]
    rcases List.mem_cons.1 hs with rfl | h
    · rw [if_pos rfl, manyOf_none (fun x hx h => hp.1 x hx h.symm)]; rfl
    · rw [if_neg (hp.1 s h), ih hp.2 h]; omega

theorem stay_same {ss : List St} (hp : ss.Pairwise (fun a b => a.task ≠ b.task)) {a b : St} (ha : a ∈ ss) (hb : b ∈ ss) (h : a.task = b.task) : a = b := by
  obtain ⟨i, hi, rfl⟩ := List.getElem_of_mem ha
  obtain ⟨j, hj, rfl⟩ := List.getElem_of_mem hb
  rcases Nat.lt_trichotomy i j with hl | rfl | hl
  · exact absurd h ((List.pairwise_iff_getElem.1 hp) i j hi hj hl)
  · rfl
  · exact absurd h.symm ((List.pairwise_iff_getElem.1 hp) j i hj hi hl)

theorem lastF_stays {ss : List St} (hp : ss.Pairwise (fun a b => a.task ≠ b.task)) {s : St} (hs : s ∈ ss) (h0 : 0 ≤ s.frm) (h1 : s.frm < s.til) : lastF (bitsS ss) s.task = s.til - 1 := by
  refine Int.le_antisymm (lastF_le (by omega) fun b hb he => ?_) ?_
  · obtain ⟨a, ha, _, e, _, h4⟩ := bitsS_mem hb
    obtain rfl := stay_same hp ha hs (e.symm.trans he)
    omega
  · exact lastF_ge (bitsS ss) s.task ⟨s.til - 1, s.hand, s.task⟩ (List.mem_flatMap.2 ⟨s, hs, bitsOf_in (by omega) (by omega)⟩) rfl

theorem scanS_apart {p : PlanL} {hands : Int} {ss : List St} {k : Nat} (h : scanS p hands ss k = 0) (hk : k ≤ ss.length) : (ss.take k).Pairwise (fun a b => a.task ≠ b.task ∧ ¬ (a.hand = b.hand ∧ a.frm < b.til ∧ b.frm < a.til)) := by
  induction k with
  | zero => simp
  | succ k ih =>
    have h1 := scanS_at (firstE_all.1 h k (by omega))
    rw [take_st ss k (by omega), List.pairwise_append]
    refine ⟨ih (firstE_before h (by omega)) (by omega), by simp, fun a ha b hb => ?_⟩
    obtain rfl : b = stAt ss k := by simpa using hb
    exact h1.2.2.2.2.2.2.2.2 a ha

/-- What is right with stays that may be so. -/
structure StaysOk (p : PlanL) (hands : Int) (ss : List St) : Prop where
  mem : ∀ s ∈ ss, 0 ≤ s.hand ∧ s.hand < hands ∧ 0 ≤ s.task ∧ s.task < p.length ∧ 0 ≤ s.frm ∧ s.frm ≤ s.til ∧ s.til ≤ 10000 ∧ s.til - s.frm = wkOf p s.task.toNat
  pair : ss.Pairwise (fun a b => a.task ≠ b.task)
  apart : ss.Pairwise (fun a b => a.task ≠ b.task ∧ ¬ (a.hand = b.hand ∧ a.frm < b.til ∧ b.frm < a.til))
  all : ∀ i, i < p.length → ∃ s ∈ ss, s.task = (i : Int)
  early : ∀ a ∈ ss, ∀ b ∈ ss, b.task ∈ ndOf p a.task.toNat → b.til ≤ a.frm
  len : ss.length ≤ p.length

theorem few_there {n : Nat} {l : List Nat} (hn : l.Nodup) (hl : ∀ x ∈ l, x < n) : l.length ≤ n := by
  have h1 := sum_ind n l hn hl
  have h2 := sum_map_le (fun j => if j ∈ l then 1 else 0) (fun _ => 1) (List.range n) (fun x _ => by split <;> omega)
  have h3 := sum_const (List.range n) 1
  simp only [List.length_range] at h1 h2 h3
  omega

theorem staysOk_of {p : PlanL} {hands : Int} {ss : List St} (h : staysErr p hands ss = 0) : StaysOk p hands ss := by
  unfold staysErr at h
  by_cases h1 : scanS p hands ss ss.length = 0
  · rw [if_neg (by simp [h1])] at h
    by_cases h2 : ss.length < p.length
    · rw [if_pos h2] at h; cases h
    · rw [if_neg h2] at h
      by_cases h3 : earlyS p ss = true
      · rw [if_pos h3] at h; cases h
      · have hp := scanS_pair h1 (Nat.le_refl _)
        have ha := scanS_apart h1 (Nat.le_refl _)
        rw [List.take_length] at hp ha
        have hm := scanS_mem h1
        refine ⟨hm, hp, ha, stay_all h1 (by omega), fun a h4 b h5 h6 => ?_, ?_⟩
        · have h3 : earlyS p ss = false := by simpa using h3
          unfold earlyS at h3
          rw [List.any_eq_false] at h3
          have h7 := h3 a h4
          rw [Bool.not_eq_true, List.any_eq_false] at h7
          have h8 := h7 b h5
          simp only [Bool.and_eq_true, decide_eq_true_eq, not_and] at h8
          have := h8 h6
          omega
        · have := few_there (n := p.length) (l := ss.map fun s => s.task.toNat) (by
            unfold List.Nodup
            rw [List.pairwise_map]
            refine (List.pairwise_iff_getElem.2 fun a b ha hb hab => ?_)
            have := (List.pairwise_iff_getElem.1 hp) a b ha hb hab
            have h1 := hm _ (List.getElem_mem ha)
            have h2 := hm _ (List.getElem_mem hb)
            omega) (fun x hx => by
              obtain ⟨s, hs, rfl⟩ := List.mem_map.1 hx
              have := hm s hs
              omega)
          simpa using this
  · rw [if_pos h1] at h; exact absurd h h1

theorem bitsS_inR {p : PlanL} {hands : Int} {ss : List St} (h : StaysOk p hands ss) : ∀ b ∈ bitsS ss, inR p hands b := by
  intro b hb
  obtain ⟨s, hs, e1, e2, h3, h4⟩ := bitsS_mem hb
  have := h.mem s hs
  unfold inR
  omega
theorem bitsS_pair {p : PlanL} {hands : Int} {ss : List St} (h : StaysOk p hands ss) : (bitsS ss).Pairwise noClash := by
  unfold bitsS
  rw [List.pairwise_flatMap]
  refine ⟨fun s hs => ?_, h.apart.imp fun {a b} hab => fun x hx y hy hc => ?_⟩
  · unfold bitsOf
    rw [List.pairwise_map]
    refine List.pairwise_lt_range.imp fun {a b} hab hc => ?_
    have : s.frm + (a : Int) = s.frm + (b : Int) := hc.1
    omega
  · have h1 := bitsOf_mem hx
    have h2 := bitsOf_mem hy
    rcases hc with ⟨h3, h4 | h4⟩
    · exact hab.2 ⟨by rw [← h1.1, ← h2.1]; exact h4, by omega, by omega⟩
    · exact hab.1 (by rw [← h1.2.1, ← h2.2.1]; exact h4)
theorem bitsS_many {p : PlanL} {hands : Int} {ss : List St} (h : StaysOk p hands ss) (t : Nat) (ht : t < p.length) : (manyOf (bitsS ss) (t : Int) : Int) = wkOf p t := by
  obtain ⟨s, hs, e⟩ := h.all t ht
  have hm := h.mem s hs
  rw [← e, manyOf_stays h.pair hs]
  have : s.task.toNat = t := by omega
  rw [this] at hm
  omega

theorem bitsS_ok {p : PlanL} {hands : Int} {ss : List St} (hok : PlanOk p) (h : StaysOk p hands ss) : bitsErr p hands (bitsS ss) = 0 := by
  refine bits_zero (scan_of (bitsS_inR h) (bitsS_pair h) (fun t ht => by rw [bitsS_many h t ht]; exact Int.le_refl _)) (fun t ht => by rw [bitsS_many h t ht]; exact Int.le_refl _) fun b hb k hk => ?_
  obtain ⟨s, hs, e1, e2, h3, h4⟩ := bitsS_mem hb
  have hkb := hok.need _ k hk
  obtain ⟨c, hc, ec⟩ := h.all k.toNat (by omega)
  have ek : c.task = k := by omega
  rw [e2, ← ek] at hk
  have he := h.early s hs c hc hk
  have hm := h.mem c hc
  have hw := (hok.work c.task.toNat (by omega)).1
  rw [← ek, lastF_stays h.pair hc (by omega) (by omega)]
  omega

theorem bitsS_less {p : PlanL} {hands : Int} {ss : List St} (h : StaysOk p hands ss) {k : Nat} (hk : k < (bitsS ss).length) : bitsErr p hands ((bitsS ss).take k ++ (bitsS ss).drop (k + 1)) = 5 := by
  have hsub : ((bitsS ss).take k ++ (bitsS ss).drop (k + 1)).Sublist (bitsS ss) := by
    have e := split_at hk
    have : ((bitsS ss).take k ++ (bitsS ss).drop (k + 1)).Sublist ((bitsS ss).take k ++ (bitsS ss)[k] :: (bitsS ss).drop (k + 1)) := List.Sublist.append_left (List.sublist_cons_self _ _) _
    rw [← e] at this
    exact this
  have hle : ∀ t, manyOf ((bitsS ss).take k ++ (bitsS ss).drop (k + 1)) t ≤ manyOf (bitsS ss) t := fun t => List.Sublist.countP_le hsub
  have hin := bitsS_inR h _ (List.getElem_mem hk)
  unfold inR at hin
  have hone := congrArg (fun l => manyOf l (bitsS ss)[k].task) (split_at hk)
  simp only [manyOf_two, manyOf_cons, if_pos] at hone
  have hmk := bitsS_many h (bitsS ss)[k].task.toNat (by omega)
  rw [Int.toNat_of_nonneg (by omega)] at hmk
  refine bits_lack (t := (bitsS ss)[k].task.toNat) (scan_of (fun b hb => bitsS_inR h b (hsub.subset hb)) ((bitsS_pair h).sublist hsub) (fun t ht => by have := hle t; have := bitsS_many h t ht; omega)) (by omega) ?_
  rw [Int.toNat_of_nonneg (by omega), manyOf_two]
  omega

theorem bitsOf_len {s : St} : (bitsOf s).length = (s.til - s.frm).toNat := by simp [bitsOf]
theorem bitsS_push (ss : List St) (s : St) : bitsS (ss ++ [s]) = bitsS ss ++ bitsOf s := by simp [bitsS]
theorem bitsS_len {p : PlanL} {hands : Int} {ss : List St} (hok : PlanOk p) (h : StaysOk p hands ss) (k : Nat) : (bitsS (ss.take k)).length ≤ 20 * k := by
  induction k with
  | zero => simp [bitsS]
  | succ k ih =>
    by_cases hk : k < ss.length
    · rw [take_st ss k hk, bitsS_push, List.length_append, bitsOf_len]
      have hm := h.mem _ (stAt_mem hk)
      have := (hok.work (stAt ss k).task.toNat (by omega)).2
      omega
    · rw [List.take_of_length_le (by omega)] at ih ⊢
      omega

end Go.Proofs.YtocpmncedlenbaaGreatDoor
