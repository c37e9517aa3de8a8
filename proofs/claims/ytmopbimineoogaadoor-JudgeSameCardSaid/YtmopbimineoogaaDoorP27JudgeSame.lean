/-
  What is wrong with stays, in plain words. No program is named here.
  A map of ints to stays that the call made: the stay of each task.
-/
import Derived.Test.YtmopbimineoogaaDoorP3JudgeSame
import Derived.Test.YtmopbimineoogaaDoorP4JudgeSame
import Derived.Test.YtmopbimineoogaaDoorP22JudgeSame
import Derived.Test.YtmopbimineoogaaDoorP26JudgeSame
import Derived.Test.YtmopbimineoogaaDoorP11JudgeSame
namespace Go.Proofs.YtmopbimineoogaaDoor

/-- Have two a step in common? -/
def overS (a b : St) : Bool := decide (a.frm < b.til) && decide (b.frm < a.til)
def clashS (ss : List St) (s : St) : Bool := ss.any fun x => decide (x.task = s.task) || (decide (x.hand = s.hand) && overS x s)
/-- What is wrong with a stay, by those ahead. -/
def stayFault (p : PlanL) (hands : Int) (ahead : List St) (s : St) : Int :=
  if s.hand < 0 ∨ hands ≤ s.hand ∨ s.task < 0 ∨ (p.length : Int) ≤ s.task ∨ s.frm < 0 ∨ s.til < s.frm ∨ 10000 < s.til then 1
  else if s.til - s.frm ≠ wkOf p s.task.toNat then 3
  else if clashS ahead s = true then 7 else 0
def scanS (p : PlanL) (hands : Int) (ss : List St) (k : Nat) : Int := firstE (fun i => stayFault p hands (ss.take i) (stAt ss i)) k
/-- The stay of a task. -/
def stayOf (ss : List St) (t : Int) : Option St := ss.foldl (fun o x => if x.task = t then some x else o) none
def stF (ss : List St) (t : Int) : St := (stayOf ss t).getD ⟨0, 0, 0, 0⟩
def earlyS (p : PlanL) (ss : List St) : Bool := ss.any fun a => ss.any fun b => decide (b.task ∈ ndOf p a.task.toNat) && decide (a.frm < b.til)
def staysErr (p : PlanL) (hands : Int) (ss : List St) : Int :=
  if scanS p hands ss ss.length ≠ 0 then scanS p hands ss ss.length else if ss.length < p.length then 5 else if earlyS p ss = true then 6 else 0

theorem stayOf_push (ss : List St) (s : St) (t : Int) : stayOf (ss ++ [s]) t = if s.task = t then some s else stayOf ss t := by
  unfold stayOf; rw [List.foldl_append]; rfl
theorem stayOf_some {ss : List St} {t : Int} {s : St} (h : stayOf ss t = some s) : s ∈ ss ∧ s.task = t := by
  have : ∀ (r : List St), stayOf r.reverse t = some s → s ∈ r.reverse ∧ s.task = t := by
    intro r
    induction r with
    | nil => intro h; cases h
    | cons a r ih =>
      rw [List.reverse_cons, stayOf_push]
      intro h
      by_cases e : a.task = t
      · rw [if_pos e] at h; cases h; exact ⟨by simp, e⟩
      · rw [if_neg e] at h
        have := ih h
        exact ⟨by simp at this ⊢; exact .inl this.1, this.2⟩
  have := this ss.reverse
  rw [List.reverse_reverse] at this
  exact this h
theorem stayOf_none {ss : List St} {t : Int} (h : ∀ s ∈ ss, s.task ≠ t) : stayOf ss t = none := by
  cases e : stayOf ss t with
  | none => rfl
  | some s => have := stayOf_some e; exact absurd this.2 (h s this.1)
theorem stayOf_mem {ss : List St} (hp : ss.Pairwise (fun a b => a.task ≠ b.task)) {s : St} (h : s ∈ ss) : stayOf ss s.task = some s := by
  have : ∀ (r : List St), r.reverse.Pairwise (fun a b => a.task ≠ b.task) → s ∈ r.reverse → stayOf r.reverse s.task = some s := by
    intro r
    induction r with
    | nil => intro _ h; cases h
    | cons a r ih =>
      rw [List.reverse_cons]
      intro hp h
      rw [stayOf_push]
      have h2 := List.pairwise_append.1 hp
      rcases List.mem_append.1 h with h | h
      · rw [if_neg (fun e => h2.2.2 s h a (by simp) e.symm)]; exact ih h2.1 h
      · obtain rfl : s = a := by simpa using h
        rw [if_pos rfl]
  have := this ss.reverse
  rw [List.reverse_reverse] at this
  exact this hp h

theorem scanS_at {p : PlanL} {hands : Int} {ss : List St} {k : Nat} (h : stayFault p hands (ss.take k) (stAt ss k) = 0) :
    0 ≤ (stAt ss k).hand ∧ (stAt ss k).hand < hands ∧ 0 ≤ (stAt ss k).task ∧ (stAt ss k).task < p.length ∧ 0 ≤ (stAt ss k).frm ∧ (stAt ss k).frm ≤ (stAt ss k).til ∧ (stAt ss k).til ≤ 10000 ∧
    (stAt ss k).til - (stAt ss k).frm = wkOf p (stAt ss k).task.toNat ∧ ∀ x ∈ ss.take k, x.task ≠ (stAt ss k).task ∧ ¬ (x.hand = (stAt ss k).hand ∧ x.frm < (stAt ss k).til ∧ (stAt ss k).frm < x.til) := by
  unfold stayFault at h
  split at h
  · cases h
  · split at h
    · cases h
    · split at h
      · cases h
      · rename_i h1 h2 h3
        refine ⟨by omega, by omega, by omega, by omega, by omega, by omega, by omega, by omega, fun x hx => ?_⟩
        have h4 : clashS (ss.take k) (stAt ss k) = false := by simpa using h3
        unfold clashS at h4
        rw [List.any_eq_false] at h4
        have := h4 x hx
        simp only [overS, Bool.or_eq_true, decide_eq_true_eq, Bool.and_eq_true, not_or] at this
        exact ⟨this.1, this.2⟩

theorem scanS_pair {p : PlanL} {hands : Int} {ss : List St} {k : Nat} (h : scanS p hands ss k = 0) (hk : k ≤ ss.length) : (ss.take k).Pairwise (fun a b => a.task ≠ b.task) := by
  induction k with
  | zero => simp
  | succ k ih =>
    have h1 := scanS_at (firstE_all.1 h k (by omega))
    rw [take_st ss k (by omega), List.pairwise_append]
    refine ⟨ih (firstE_before h (by omega)) (by omega), by simp, fun a ha b hb => ?_⟩
    obtain rfl : b = stAt ss k := by simpa using hb
    exact (h1.2.2.2.2.2.2.2.2 a ha).1

theorem scanS_mem {p : PlanL} {hands : Int} {ss : List St} (h : scanS p hands ss ss.length = 0) : ∀ s ∈ ss, 0 ≤ s.hand ∧ s.hand < hands ∧ 0 ≤ s.task ∧ s.task < p.length ∧ 0 ≤ s.frm ∧ s.frm ≤ s.til ∧ s.til ≤ 10000 ∧ s.til - s.frm = wkOf p s.task.toNat := by
  intro s hs
  obtain ⟨i, hi, rfl⟩ := List.getElem_of_mem hs
  have h1 := scanS_at (firstE_all.1 h i hi)
  have e : stAt ss i = ss[i] := by simp [stAt, hi]
  rw [e] at h1
  exact ⟨h1.1, h1.2.1, h1.2.2.1, h1.2.2.2.1, h1.2.2.2.2.1, h1.2.2.2.2.2.1, h1.2.2.2.2.2.2.1, h1.2.2.2.2.2.2.2.1⟩

/-- As many different numbers below n as n are all of them. -/
theorem all_there {n : Nat} {l : List Nat} (hn : l.Nodup) (hl : ∀ x ∈ l, x < n) (hlen : n ≤ l.length) : ∀ i, i < n → i ∈ l := by
  intro i hi
  by_cases e : i ∈ l
  · exact e
  · exfalso
    have h1 := sum_ind n (i :: l) (List.nodup_cons.2 ⟨e, hn⟩) (fun x hx => by
      rcases List.mem_cons.1 hx with rfl | hx
      · exact hi
      · exact hl x hx)
    have h2 := sum_map_le (fun j => if j ∈ i :: l then 1 else 0) (fun _ => 1) (List.range n) (fun x _ => by split <;> omega)
    have h3 := sum_const (List.range n) 1
    simp only [List.length_range, List.length_cons] at h1 h2 h3
    omega

theorem stay_all {p : PlanL} {hands : Int} {ss : List St} (h : scanS p hands ss ss.length = 0) (hl : p.length ≤ ss.length) (i : Nat) (hi : i < p.length) : ∃ s ∈ ss, s.task = (i : Int) := by
  have hp := scanS_pair h (Nat.le_refl _)
  rw [List.take_length] at hp
  have hm := scanS_mem h
  have h1 := all_there (n := p.length) (l := ss.map fun s => s.task.toNat) (by
    unfold List.Nodup
    rw [List.pairwise_map]
    refine (List.pairwise_iff_getElem.2 fun a b ha hb hab => ?_)
    have := (List.pairwise_iff_getElem.1 hp) a b ha hb hab
    have h1 := hm _ (List.getElem_mem ha)
    have h2 := hm _ (List.getElem_mem hb)
    omega) (fun x hx => by
      obtain ⟨s, hs, rfl⟩ := List.mem_map.1 hx
      have := hm s hs
      omega) (by simpa using hl) i hi
  obtain ⟨s, hs, he⟩ := List.mem_map.1 h1
  have := hm s hs
  exact ⟨s, hs, by omega⟩

theorem earlyS_iff {p : PlanL} {hands : Int} {ss : List St} (h : scanS p hands ss ss.length = 0) (hl : p.length ≤ ss.length) (hn : ∀ i, ∀ k ∈ ndOf p i, 0 ≤ k ∧ k < p.length) :
    earlyS p ss = true ↔ ∃ i, i < p.length ∧ ∃ k ∈ ndOf p i, (stF ss (i : Int)).frm < (stF ss k).til := by
  have hp := scanS_pair h (Nat.le_refl _)
  rw [List.take_length] at hp
  have hm := scanS_mem h
  constructor
  · intro he
    unfold earlyS at he
    obtain ⟨a, ha, h1⟩ := List.any_eq_true.1 he
    obtain ⟨b, hb, h2⟩ := List.any_eq_true.1 h1
    simp only [Bool.and_eq_true, decide_eq_true_eq] at h2
    have := hm a ha
    refine ⟨a.task.toNat, by omega, b.task, h2.1, ?_⟩
    unfold stF
    rw [show ((a.task.toNat : Nat) : Int) = a.task by omega, stayOf_mem hp ha, stayOf_mem hp hb]
    exact h2.2
  · rintro ⟨i, hi, k, hk, h1⟩
    obtain ⟨a, ha, ea⟩ := stay_all h hl i hi
    have hkb := hn i k hk
    obtain ⟨b, hb, eb⟩ := stay_all h hl k.toNat (by omega)
    have ekb : b.task = k := by omega
    unfold stF at h1
    rw [← ea, ← ekb, stayOf_mem hp ha, stayOf_mem hp hb] at h1
    unfold earlyS
    refine List.any_eq_true.2 ⟨a, ha, List.any_eq_true.2 ⟨b, hb, ?_⟩⟩
    simp only [Bool.and_eq_true, decide_eq_true_eq]
    refine ⟨?_, h1⟩
    rw [ea, ekb]
    simpa using hk

end Go.Proofs.YtmopbimineoogaaDoor

namespace Go.Proofs.YtmopbimineoogaaDoor
open Go.RowKit Go.Maps

def stV (s : St) : Value := .agg #[.int .i64 s.hand, .int .i64 s.task, .int .i64 s.frm, .int .i64 s.til]
theorem zero_stay (w : World) : (zeroValue 45).run Tryd.prog w = .ok (stV ⟨0, 0, 0, 0⟩) w := by kernel_rfl

def stayMF (ss : List St) : Value → Option Value
  | .int .i64 k => (stayOf ss k).map stV
  | _ => none

def StayMap (w : World) (b n : Nat) (ss : List St) : Prop := MapOf w Tryd.prog 3 b n (stayMF ss)

theorem StayMap.lt {w : World} {b n : Nat} {ss : List St} (h : StayMap w b n ss) : b < w.heap.size := MapOf.lt h
theorem StayMap.only {w w' : World} {b n : Nat} {ss : List St} {S : List Nat} (h : StayMap w b n ss) (ho : Only S w w') (hb : b ∉ S) : StayMap w' b n ss := MapOf.only h ho hb
theorem StayMap.made (w : World) : StayMap (w.alloc (.map #[] 0)) w.heap.size 0 [] := (MapOf.made w _ _).congr fun x => by
  unfold stayMF
  split <;> rfl

theorem StayMap.look {w : World} {b n : Nat} {ss : List St} (h : StayMap w b n ss) (k : Int) (hk : -1000000 ≤ k ∧ k ≤ 1000000) :
    (Instr.lookup 77 (.map (some b)) (.int .i64 k) false).run Tryd.prog w = .ok (stV (stF ss k)) w := by
  have := MapOf.look h false key_int Tryd.underlying77 (zero_stay w) (keyOf_int k (by omega) (by omega))
  rw [this]
  have e : (stayMF ss (.int .i64 k)).getD (stV ⟨0, 0, 0, 0⟩) = stV (stF ss k) := by
    show ((stayOf ss k).map stV).getD _ = _
    unfold stF
    cases stayOf ss k <;> rfl
  rw [e]
  rfl

theorem StayMap.put {w : World} {b n : Nat} {ss : List St} (h : StayMap w b n ss) (s : St) (hk : -1000000 ≤ s.task ∧ s.task ≤ 1000000) (hnone : stayOf ss s.task = none) :
    ∃ w', (Instr.mapUpdate 77 (.map (some b)) (.int .i64 s.task) (stV s)).run Tryd.prog w = .ok () w' ∧ StayMap w' b (n + 1) (ss ++ [s]) ∧ Only [b] w w' := by
  obtain ⟨w', h1, h2, h3⟩ := MapOf.put h key_int Tryd.underlying77 (keyOf_int s.task (by omega) (by omega)) (stV s)
  refine ⟨w', h1, ?_, h3⟩
  have e : (stayMF ss (.int .i64 s.task)).isSome = false := by simp [stayMF, hnone]
  rw [e] at h2
  refine MapOf.congr h2 fun x => ?_
  unfold updV?
  by_cases e : x = .int .i64 s.task
  · subst e
    rw [if_pos rfl]
    simp [stayMF, stayOf_push]
  · rw [if_neg e]
    unfold stayMF
    split
    · rename_i j
      have hj : ¬ s.task = j := fun h => e (by rw [h])
      rw [stayOf_push, if_neg hj]
    · rfl

end Go.Proofs.YtmopbimineoogaaDoor
