/-
  A play with a join, each call in one contract for all cases.
-/
import Derived.Test.YtadjcooemeaaeaaDoorJoin2
import Derived.Test.YtadjcooemeaaeaaDoorJoin3
import Derived.Test.YtadjcooemeaaeaaDoorJoinE
import Derived.Test.YtadjcooemeaaeaaDoorFree
namespace Go.Proofs.YtadjcooemeaaeaaDoor
open Go.RowKit

def inR (p : PlanL) (x : Int) : Bool := decide (0 ≤ x ∧ x < (p.length : Int))
def doneR (p : PlanL) (D : Nat → Bool) (x : Int) : Bool := inR p x && readyB p D x.toNat
def doneE (p : PlanL) (D : Nat → Bool) (x : Int) : Int := if inR p x = true then (if readyB p D x.toNat = true then 0 else 6) else 1
def doneD (p : PlanL) (D : Nat → Bool) (x : Int) : Nat → Bool := if doneR p D x = true then upB D x.toNat else D
def doneL (p : PlanL) (D : Nat → Bool) (x : Int) : List Int := if doneR p D x = true then natL (newL p D x.toNat) else []
def stE (p : PlanL) (i : Int) : Int := if inR p i = true then 0 else 1
def stV (p : PlanL) (D : Nat → Bool) (i : Int) : Int := if inR p i = true then stateOf p D i.toNat else 0

theorem done_out' {p : PlanL} {D : Nat → Bool} {x : Int} (h : x < 0 ∨ (p.length : Int) ≤ x) : doneE p D x = 1 ∧ doneD p D x = D ∧ doneL p D x = [] := by
  have hr : inR p x = false := by unfold inR; simp; omega
  have hd : doneR p D x = false := by unfold doneR; rw [hr]; rfl
  refine ⟨by unfold doneE; rw [hr]; rfl, by unfold doneD; rw [hd]; rfl, by unfold doneL; rw [hd]; rfl⟩
theorem done_not {p : PlanL} {D : Nat → Bool} {x : Nat} (h : x < p.length) (hr : readyB p D x = false) : doneE p D (x : Int) = 6 ∧ doneD p D (x : Int) = D ∧ doneL p D (x : Int) = [] := by
  have hi : inR p (x : Int) = true := by unfold inR; simp; omega
  have hd : doneR p D (x : Int) = false := by unfold doneR; rw [Int.toNat_natCast, hr, Bool.and_false]
  refine ⟨by unfold doneE; rw [hi, Int.toNat_natCast, hr]; rfl, by unfold doneD; rw [hd]; rfl, by unfold doneL; rw [hd]; rfl⟩
theorem done_yes {p : PlanL} {D : Nat → Bool} {x : Nat} (h : x < p.length) (hr : readyB p D x = true) : doneE p D (x : Int) = 0 ∧ doneD p D (x : Int) = upB D x ∧ doneL p D (x : Int) = natL (newL p D x) := by
  have hi : inR p (x : Int) = true := by unfold inR; simp; omega
  have hd : doneR p D (x : Int) = true := by unfold doneR; rw [Int.toNat_natCast, hr, hi]; rfl
  refine ⟨by unfold doneE; rw [hi, Int.toNat_natCast, hr]; rfl, by unfold doneD; rw [hd, Int.toNat_natCast]; rfl, by unfold doneL; rw [hd, Int.toNat_natCast]; rfl⟩

theorem join_play (S : List Nat) (FP : Nat → Prop) (J : Nat) (p : PlanL) (D : Nat → Bool) (x : Int) (w : World) (h : JoinIs w S FP J p D) :
    Calls Tryd.prog 39 #[.pointer (some ⟨J, 0, none⟩), .int .i64 x] w fun e w' => ∃ v, e = .returned (.tuple #[v, errV (doneE p D x)]) ∧ Ints w' w.heap.size v (doneL p D x) ∧ JoinIs w' S FP J p (doneD p D x) ∧ Only S w w' := by
  by_cases hx : 0 ≤ x ∧ x < (p.length : Int)
  · obtain ⟨y, rfl⟩ := Int.eq_ofNat_of_zero_le hx.1
    have hy : y < p.length := by omega
    cases hr : readyB p D y
    · obtain ⟨e1, e2, e3⟩ := done_not hy hr
      rw [e1, e2, e3, errV_ne (by decide)]
      refine (Join.done_no S FP J p D y w h hy hr).mono ?_
      rintro e w' ⟨he, rfl⟩
      exact ⟨_, he, Ints.nil _ _, h, Only.refl _ _⟩
    · obtain ⟨e1, e2, e3⟩ := done_yes hy hr
      rw [e1, e2, e3, errV_zero]
      exact Join.done S FP J p D y w h hy hr
  · obtain ⟨e1, e2, e3⟩ := done_out' (p := p) (D := D) (x := x) (by omega)
    rw [e1, e2, e3, errV_ne (by decide)]
    refine (Join.done_out S FP J p D x w h (by omega)).mono ?_
    rintro e w' ⟨he, rfl⟩
    exact ⟨_, he, Ints.nil _ _, h, Only.refl _ _⟩

set_option maxRecDepth 100000 in
theorem Join.state_out (S : List Nat) (FP : Nat → Prop) (J : Nat) (p : PlanL) (D : Nat → Bool) (i : Int) (w : World) (h : JoinIs w S FP J p D) (hi : i < 0 ∨ (p.length : Int) ≤ i) :
    Calls Tryd.prog 41 #[.pointer (some ⟨J, 0, none⟩), .int .i64 i] w fun e w' => e = .returned (.tuple #[.int .i64 0, .iface 115 (.int .i64 1)]) ∧ w = w' := by
  obtain ⟨pv, lv, A, h, _⟩ := h
  have hc := h.cells
  obtain ⟨a, cap, rfl, _, _, _⟩ := (h.plan.plan).task
  obtain ⟨n, hn⟩ : ∃ n, p.length = n := ⟨_, rfl⟩
  rw [hn] at hc hi
  have c0 := hc.cell 0 _ rfl
  clear h hc hn
  have hi2 : i < 0 ∨ (0 ≤ i ∧ (n : Int) ≤ i) := by omega
  clear hi
  rcases hi2 with hi | ⟨hi1, hi2⟩
  all_goals
    go_enter Tryd.func41, Tryd.ntmps41
    go_wp2
    go_ret2
    exact ⟨rfl, rfl⟩

theorem st_out {p : PlanL} {D : Nat → Bool} {i : Int} (h : i < 0 ∨ (p.length : Int) ≤ i) : stE p i = 1 ∧ stV p D i = 0 := by
  have hr : inR p i = false := by unfold inR; simp; omega
  exact ⟨by unfold stE; rw [hr]; rfl, by unfold stV; rw [hr]; rfl⟩
theorem st_in {p : PlanL} {D : Nat → Bool} {i : Nat} (h : i < p.length) : stE p (i : Int) = 0 ∧ stV p D (i : Int) = if D i = true then 2 else if freeB p D i = true then 1 else 0 := by
  have hr : inR p (i : Int) = true := by unfold inR; simp; omega
  refine ⟨by unfold stE; rw [hr]; rfl, ?_⟩
  unfold stV
  rw [hr, if_pos rfl, Int.toNat_natCast]
  unfold stateOf
  congr 1
  by_cases e : lackN p D i = 0
  · rw [if_pos e, if_pos (show freeB p D i = true from (lack_zero p D i).1 e)]
  · rw [if_neg e, if_neg (fun h2 : freeB p D i = true => e ((lack_zero p D i).2 h2))]

theorem join_state (S : List Nat) (FP : Nat → Prop) (J : Nat) (p : PlanL) (D : Nat → Bool) (i : Int) (w : World) (h : JoinIs w S FP J p D) :
    Calls Tryd.prog 41 #[.pointer (some ⟨J, 0, none⟩), .int .i64 i] w fun e w' => e = .returned (.tuple #[.int .i64 (stV p D i), errV (stE p i)]) ∧ w = w' := by
  by_cases hx : 0 ≤ i ∧ i < (p.length : Int)
  · obtain ⟨y, rfl⟩ := Int.eq_ofNat_of_zero_le hx.1
    have hy : y < p.length := by omega
    have e1 := (st_in (D := D) hy).1
    have e2 : stV p D (y : Int) = stateOf p D y := by
      unfold stV
      rw [show inR p (y : Int) = true by unfold inR; simp; omega, if_pos rfl, Int.toNat_natCast]
    rw [e1, e2, errV_zero]
    exact Join.state S FP J p D y w h hy
  · obtain ⟨e1, e2⟩ := st_out (p := p) (D := D) (i := i) (by omega)
    rw [e1, e2, errV_ne (by decide)]
    exact Join.state_out S FP J p D i w h (by omega)

/-- Who is ready now and was not. -/
theorem new_only {p : PlanL} (hok : PlanOk p) {D : Nat → Bool} (hc : Closed p D) {i : Nat} (hi : i < p.length) (hr : readyB p D i = true) (k : Nat) (hk : k < p.length) :
    (readyB p (upB D i) k && !readyB p D k) = ((ndOf p k).contains (i : Int) && (lackN p (upB D i) k == 0)) := by
  obtain ⟨hD, hL⟩ := state_ready hr
  have h1 := lack_up hok D i hD k
  have h2 := lack_up hok D i hD i
  rw [ready_lack, ready_lack]
  have hc2 : (ndOf p k).contains (i : Int) = decide ((i : Int) ∈ ndOf p k) := by simp
  rw [hc2]
  by_cases hm : (i : Int) ∈ ndOf p k
  · rw [if_pos hm] at h1
    rw [decide_eq_true hm]
    have hki : k ≠ i := by
      rintro rfl
      rw [if_pos hm] at h2
      omega
    have hDk : D k = false := by
      cases e : D k with
      | false => rfl
      | true => have := hc k hk e; omega
    have h3 : ¬ lackN p D k = 0 := by omega
    simp [upB, hki, hDk, h3]
  · rw [if_neg hm] at h1
    rw [decide_eq_false hm, Bool.false_and]
    by_cases hki : k = i
    · subst hki; simp [upB]
    · have : lackN p D k = lackN p (upB D i) k := by omega
      simp only [upB, hki, if_false, this]
      cases D k <;> simp

theorem play_new {p : PlanL} (hok : PlanOk p) {D : Nat → Bool} (hc : Closed p D) (x : Int) : (natL (readyL p (doneD p D x))).filter (fun k => !decide (k ∈ natL (readyL p D))) = doneL p D x := by
  have hself : (natL (readyL p D)).filter (fun k => !decide (k ∈ natL (readyL p D))) = [] := by
    rw [List.filter_eq_nil_iff]
    intro a ha
    simp [ha]
  by_cases hx : 0 ≤ x ∧ x < (p.length : Int)
  · obtain ⟨y, rfl⟩ := Int.eq_ofNat_of_zero_le hx.1
    have hy : y < p.length := by omega
    cases hr : readyB p D y
    · obtain ⟨_, e2, e3⟩ := done_not hy hr
      rw [e2, e3, hself]
    · obtain ⟨_, e2, e3⟩ := done_yes hy hr
      rw [e2, e3]
      unfold natL newL readyL afterOf
      rw [List.filter_map, List.filter_filter, List.filter_filter]
      congr 1
      refine List.filter_congr fun k hk => ?_
      have hk : k < p.length := by simpa using hk
      rw [Bool.and_comm (lackN p (upB D y) k == 0), ← new_only hok hc hy hr k hk]
      simp only [Function.comp]
      rw [Bool.and_comm]
      congr 2
      have h1 := natL_mem (l := (List.range p.length).filter (readyB p D)) (i := k)
      unfold natL at h1
      rw [Bool.eq_iff_iff, decide_eq_true_eq, h1]
      simp [hk]
  · obtain ⟨_, e2, e3⟩ := done_out' (p := p) (D := D) (x := x) (by omega)
    rw [e2, e3, hself]

theorem play_closed {p : PlanL} (hok : PlanOk p) {D : Nat → Bool} (hc : Closed p D) (x : Int) : Closed p (doneD p D x) := by
  by_cases hx : 0 ≤ x ∧ x < (p.length : Int)
  · obtain ⟨y, rfl⟩ := Int.eq_ofNat_of_zero_le hx.1
    have hy : y < p.length := by omega
    cases hr : readyB p D y
    · rw [(done_not hy hr).2.1]; exact hc
    · rw [(done_yes hy hr).2.1]; exact closed_up hok hc hr
  · rw [(done_out' (p := p) (D := D) (x := x) (by omega)).2.1]; exact hc

end Go.Proofs.YtadjcooemeaaeaaDoor
