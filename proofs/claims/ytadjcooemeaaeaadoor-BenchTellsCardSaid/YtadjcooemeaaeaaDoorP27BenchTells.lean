/-
  Who is ready, in plain words. No program is named here.
  Contract of yardgang/yardref2.Ready: who is ready.
  What is told of tasks that become ready, in plain words.
-/
import Derived.Test.YtadjcooemeaaeaaDoorP26BenchTells
import Derived.Test.YtadjcooemeaaeaaDoorP18BenchTells
import Derived.Test.YtadjcooemeaaeaaDoorP25BenchTells
import Derived.Test.YtadjcooemeaaeaaDoorP13BenchTells
namespace Go.Proofs.YtadjcooemeaaeaaDoor

/-- How many a task lacks. -/
def lackN (p : PlanL) (D : Nat → Bool) (i : Nat) : Nat := (ndOf p i).countP (fun k => !D k.toNat)
def lackOf (p : PlanL) (D : Nat → Bool) (i : Nat) : Int := (lackN p D i : Int)
/-- How many are not done. -/
def leftN (p : PlanL) (D : Nat → Bool) : Nat := (List.range p.length).countP (fun i => !D i)

theorem countP_up (l : List Int) (hn : l.Nodup) (h0 : ∀ x ∈ l, 0 ≤ x) (D : Nat → Bool) (i : Nat) (hi : D i = false) :
    l.countP (fun k => !D k.toNat) = l.countP (fun k => !upB D i k.toNat) + if (i : Int) ∈ l then 1 else 0 := by
  induction l with
  | nil => simp
  | cons a l ih =>
    have ha := (List.nodup_cons.1 hn).1
    have h1 := ih (List.nodup_cons.1 hn).2 (fun x hx => h0 x (by simp [hx]))
    have ha0 := h0 a (by simp)
    rw [List.countP_cons, List.countP_cons, h1]
    by_cases e : a = (i : Int)
    · subst e
      simp [upB, hi, ha]
    · have e2 : a.toNat ≠ i := by omega
      have e3 : (i : Int) ≠ a := fun h => e h.symm
      simp only [upB, e2, if_false, List.mem_cons, e3, false_or]
      omega

theorem rise_nodup {l : List Int} (h : rising l = true) : l.Nodup := (rising_pair l h).imp (fun h => Int.ne_of_lt h)

theorem lack_up {p : PlanL} (hok : PlanOk p) (D : Nat → Bool) (i : Nat) (hi : D i = false) (k : Nat) : lackN p D k = lackN p (upB D i) k + if (i : Int) ∈ ndOf p k then 1 else 0 :=
  countP_up _ (rise_nodup (hok.rise k)) (fun x hx => (hok.need k x hx).1) D i hi

theorem left_up {p : PlanL} (D : Nat → Bool) (i : Nat) (hi : i < p.length) (hD : D i = false) : leftN p D = leftN p (upB D i) + 1 := by
  unfold leftN
  have key : ∀ n, i < n → (List.range n).countP (fun j => !D j) = (List.range n).countP (fun j => !upB D i j) + 1 := by
    intro n
    induction n with
    | zero => intro h; omega
    | succ n ih =>
      intro h
      rw [List.range_succ, List.countP_append, List.countP_append]
      by_cases e : i = n
      · subst e
        have : (List.range i).countP (fun j => !D j) = (List.range i).countP (fun j => !upB D i j) := by
          refine List.countP_congr fun x hx => ?_
          have : x ≠ i := by have := List.mem_range.1 hx; omega
          simp [upB, this]
        rw [this]
        simp [upB, hD]
      · have h1 := ih (by omega)
        have e2 : n ≠ i := fun h => e h.symm
        rw [h1]
        simp [upB, e2]
        omega
  exact key _ hi

theorem lack_zero (p : PlanL) (D : Nat → Bool) (i : Nat) : lackN p D i = 0 ↔ (ndOf p i).all (fun k => D k.toNat) = true := by
  unfold lackN
  rw [List.countP_eq_zero, List.all_eq_true]
  constructor
  · intro h x hx; have := h x hx; simpa using this
  · intro h x hx; have := h x hx; simpa using this

theorem lack_none (p : PlanL) (i : Nat) : lackN p (fun _ => false) i = (ndOf p i).length := by
  unfold lackN
  simp

theorem lack_le (p : PlanL) (hok : PlanOk p) (D : Nat → Bool) (i : Nat) : lackN p D i ≤ 30 := by
  have h1 := List.countP_le_length (p := fun k => !D k.toNat) (l := ndOf p i)
  have h2 := hok.needs i
  have h3 := hok.len
  unfold lackN
  omega
theorem left_le (p : PlanL) (D : Nat → Bool) : leftN p D ≤ p.length := by
  have h1 := List.countP_le_length (p := fun i => !D i) (l := List.range p.length)
  simpa [leftN] using h1
theorem left_none (p : PlanL) : leftN p (fun _ => false) = p.length := by simp [leftN]

/-- Who is ready. -/
def readyL (p : PlanL) (D : Nat → Bool) : List Nat := (List.range p.length).filter (readyB p D)
/-- Who becomes ready when i is done. -/
def newL (p : PlanL) (D : Nat → Bool) (i : Nat) : List Nat := (afterOf p i).filter (fun k => lackN p (upB D i) k == 0)

theorem ready_lack (p : PlanL) (D : Nat → Bool) (i : Nat) : readyB p D i = (!D i && (lackN p D i == 0)) := by
  unfold readyB
  congr 1
  rw [Bool.eq_iff_iff, ← lack_zero]
  simp

theorem afterOf_mem {p : PlanL} {i : Int} {k : Nat} : k ∈ afterOf p i ↔ k < p.length ∧ i ∈ ndOf p k := by
  simp [afterOf]
theorem afterOf_pair (p : PlanL) (i : Int) : (afterOf p i).Pairwise (· < ·) := List.Pairwise.filter _ (List.pairwise_lt_range (n := p.length))
theorem afterOf_nodup (p : PlanL) (i : Int) : (afterOf p i).Nodup := (afterOf_pair p i).imp (fun h => Nat.ne_of_lt h)
theorem afterOf_len (p : PlanL) (i : Int) : (afterOf p i).length ≤ p.length := by
  have := List.length_filter_le (fun k => (ndOf p k).contains i) (List.range p.length)
  simpa [afterOf] using this

/-- What each lacks while those after i are gone through. -/
def lackMid (p : PlanL) (D : Nat → Bool) (i : Nat) (l : List Nat) (j : Nat) : Int := if j ∈ l then lackOf p (upB D i) j else lackOf p D j
theorem lackMid_nil (p : PlanL) (D : Nat → Bool) (i : Nat) : lackMid p D i [] = lackOf p D := by funext j; simp [lackMid]
theorem lackMid_push (p : PlanL) (D : Nat → Bool) (i : Nat) (l : List Nat) (k : Nat) (hk : k ∉ l) (hi : D i = false) (hok : PlanOk p) (hm : (i : Int) ∈ ndOf p k) :
    lackMid p D i l k = lackOf p D k ∧ lackOf p D k - 1 = lackOf p (upB D i) k ∧ lackMid p D i (l ++ [k]) = updI (lackMid p D i l) k (lackOf p (upB D i) k) := by
  have h1 := lack_up hok D i hi k
  rw [if_pos hm] at h1
  refine ⟨by simp [lackMid, hk], by unfold lackOf; omega, ?_⟩
  funext j
  unfold lackMid updI
  by_cases e : j = k
  · subst e; simp
  · simp [e]
theorem lackMid_all (p : PlanL) (D : Nat → Bool) (i : Nat) (hi : D i = false) (hok : PlanOk p) (j : Nat) (hj : j < p.length) : lackMid p D i (afterOf p i) j = lackOf p (upB D i) j := by
  unfold lackMid
  split
  · rfl
  · rename_i h
    have h1 := lack_up hok D i hi j
    rw [if_neg (fun hm => h (afterOf_mem.2 ⟨hj, hm⟩))] at h1
    unfold lackOf; omega

theorem numL_set (n : Nat) (f : Nat → Int) (k : Nat) (x : Int) (h : k < n) : (numL n f).set k x = numL n (updI f k x) := by
  apply List.ext_getElem?
  intro j
  by_cases e : j = k
  · subst e
    rw [List.getElem?_set_self (by rw [numL_len]; exact h)]
    simp [numL, h, updI]
  · rw [List.getElem?_set_ne (Ne.symm e)]
    unfold numL
    rw [List.getElem?_map, List.getElem?_map]
    by_cases hj : j < n
    · rw [List.getElem?_range hj]; simp [updI, e]
    · rw [List.getElem?_eq_none (by simpa using hj)]; rfl
theorem numL_push (n : Nat) (f : Nat → Int) : numL n f ++ [f n] = numL (n + 1) f := by simp [numL, List.range_succ]
theorem numL_congr (n : Nat) (f g : Nat → Int) (h : ∀ i, i < n → f i = g i) : numL n f = numL n g := by
  unfold numL
  exact List.map_congr_left fun i hi => h i (by simpa using hi)

end Go.Proofs.YtadjcooemeaaeaaDoor

namespace Go.Proofs.YtadjcooemeaaeaaDoor
open Go.RowKit Go.Deep

theorem ref_Ready_succ (p : PlanL) (D : Nat → Bool) (k : Nat) : (List.range (k + 1)).filter (readyB p D) = if readyB p D k then (List.range k).filter (readyB p D) ++ [k] else (List.range k).filter (readyB p D) := by
  rw [List.range_succ, List.filter_append]
  cases h : readyB p D k <;> simp only [List.filter, h] <;> simp

set_option maxRecDepth 100000 in
set_option maxHeartbeats 4000000 in
theorem ref_Ready (v : Value) (p : PlanL) (A n : Nat) (D : Nat → Bool) (w : World) (h : InPlan w v p) (hn : NeedsOk p) (hB : Bools w A n D) (hl : p.length = n) :
    Calls Tryd.prog 94 #[v, .slice (some ⟨A, 0, none⟩) n n] w fun e w' => ∃ v', e = .returned v' ∧ Ints w' w.heap.size v' (natL (readyL p D)) ∧ Only [] w w' := by
  have HP := Lib.hid h
  have HN := Lib.hid hn
  have HB := Lib.hid hB
  have HL := Lib.hid hl
  have h30 := hn.1
  obtain ⟨a, cap, rfl, hc1, hc2, _⟩ := h.task
  rw [hl] at hc1 h30 HP ⊢
  clear h hn hB hl hc2
  go_enter Tryd.func94, Tryd.ntmps94
  go_wp2_with fail
  go_loopw [5, 6, 7] (fun vo vi _ wr => ∃ k : Nat, k ≤ n ∧ vi = .int .i64 k ∧ Ints wr w.heap.size vo (natL ((List.range k).filter (readyB p D))) ∧ Only [] w wr) (fun _ vi _ _ => n - (intOf vi).toNat)
  case atStart => exact ⟨0, Nat.zero_le _, rfl, Ints.nil _ _, Only.refl _ _⟩
  case round =>
    obtain ⟨wo, rfl⟩ : ∃ wo : World, wo = wr := ⟨_, rfl⟩
    obtain ⟨k, hk, rfl, hI, ho⟩ := hrel
    have hsz := ho.size
    by_cases hkn : k < n
    · have hF := ref_Free _ p k A n D wo (HP.out.same ho) HN.out (HB.out.only ho (by simp)) (by rw [HL.out]; exact hkn) HL.out
      have cb := ((HB.out.only ho (by simp)) k hkn).1
      have HSU := Lib.hid (ref_Ready_succ p D k)
      rw [ready_free] at HSU
      generalize freeB p D k = f at *
      generalize D k = d at *
      obtain ⟨va, vc, rfl, _⟩ := hI.opt
      obtain ⟨q, hq⟩ : ∃ q, (natL ((List.range k).filter (readyB p D))).length = q := ⟨_, rfl⟩
      have hqk : q ≤ k := by rw [← hq, natL_len]; have := List.length_filter_le (readyB p D) (List.range k); simpa using this
      have HQ := Lib.hid hq
      rw [hq] at hI ⊢
      clear hq
      by_cases hr : f = true ∧ d = false
      · obtain ⟨rfl, rfl⟩ := hr
        have hst : Hid ((List.range (k + 1)).filter (readyB p D) = (List.range k).filter (readyB p D) ++ [k]) := by show _ = _; rw [HSU.out]; rfl
        go_wp2_with fail
        refine hF.mono ?_
        rintro e w1 ⟨rfl, hw1⟩
        subst hw1
        clear hF
        go_wp2_with (at_builtin; refine wpList_push rfl (.tmp 26) (.tmp 28) rfl w1 w.heap.size _ _ w1.heap.size k q hI HQ.out (by omega) hsz rfl rfl ((Only.refl [] w1).alloc _) (World.cell?_alloc_at _ _ _ _ rfl) ?_; intro g2 cap3 w3 hI4 hO4 hK4)
        rw [← natL_push, ← hst.out] at hI4
        have ho4 := Lib.hid (ho.pushed hI (Nat.le_refl _) hO4)
        clear hI ho hO4
        go_roundw
        case rel => exact ⟨k + 1, by omega, by go_num, hI4, ho4.out⟩
        case measure => (simp [intOf]; try omega)
      · have hst : Hid ((List.range (k + 1)).filter (readyB p D) = (List.range k).filter (readyB p D)) := by
          show _ = _
          rw [HSU.out, if_neg]
          cases f <;> cases d <;> simp at hr ⊢
        have HI : Hid (Ints wo w.heap.size (.slice va q vc) (natL ((List.range (k + 1)).filter (readyB p D)))) := by rw [hst.out]; exact hI
        clear hI
        cases f
        · cases d
          all_goals
            go_wp2_with fail
            refine hF.mono ?_
            rintro e w1 ⟨rfl, hw1⟩
            subst hw1
            clear hF
            go_wp2
            go_roundw
            case rel => exact ⟨k + 1, by omega, by go_num, HI.out, ho⟩
            case measure => (simp [intOf]; try omega)
        · cases d
          · exact absurd ⟨rfl, rfl⟩ hr
          · go_wp2_with fail
            refine hF.mono ?_
            rintro e w1 ⟨rfl, hw1⟩
            subst hw1
            clear hF
            go_wp2
            go_roundw
            case rel => exact ⟨k + 1, by omega, by go_num, HI.out, ho⟩
            case measure => (simp [intOf]; try omega)
    · obtain rfl : k = n := by omega
      obtain ⟨va, vc, rfl, _⟩ := hI.opt
      go_wp2
      go_ret
      exact ⟨_, rfl, by unfold readyL; rw [HL.out]; exact hI, ho⟩

end Go.Proofs.YtadjcooemeaaeaaDoor

namespace Go.Proofs.YtadjcooemeaaeaaDoor

theorem Bools.congr {w : World} {A N : Nat} {f g : Nat → Bool} (h : Bools w A N f) (e : ∀ i, i < N → f i = g i) : Bools w A N g := fun i hi => by
  rw [← e i hi]; exact h i hi

/-- Who was ready, or is. -/
def tD (p : PlanL) (D : Nat → Bool) : Nat → Bool := fun k => lackN p D k == 0

/-- Who is done lacks nothing. -/
def Closed (p : PlanL) (D : Nat → Bool) : Prop := ∀ k, k < p.length → D k = true → lackN p D k = 0

theorem closed_none (p : PlanL) : Closed p (fun _ => false) := fun k _ h => by cases h

theorem lack_mono {p : PlanL} (hok : PlanOk p) {D : Nat → Bool} {i : Nat} (hi : D i = false) (k : Nat) : lackN p (upB D i) k ≤ lackN p D k := by
  have := lack_up hok D i hi k
  omega

theorem closed_up {p : PlanL} (hok : PlanOk p) {D : Nat → Bool} {i : Nat} (h : Closed p D) (hr : readyB p D i = true) : Closed p (upB D i) := by
  have hi : D i = false := by simp [readyB] at hr; exact hr.1
  intro k hk hd
  have hm := lack_mono hok hi k
  unfold upB at hd
  by_cases e : k = i
  · subst e
    rw [ready_lack] at hr
    have : lackN p D k = 0 := by simp at hr; exact hr.2
    omega
  · rw [if_neg e] at hd
    have := h k hk hd
    omega

theorem ready_of_lack {p : PlanL} {D : Nat → Bool} {i : Nat} (h : i ∈ readyL p D) : i < p.length ∧ readyB p D i = true := by
  simpa [readyL] using h

theorem ready_ne {p : PlanL} (hok : PlanOk p) {D : Nat → Bool} (h : 0 < leftN p D) : 0 < (readyL p D).length := by
  have hx : ∃ i, i < p.length ∧ D i = false := by
    unfold leftN at h
    obtain ⟨i, hi, hd⟩ := List.countP_pos_iff.1 h
    exact ⟨i, by simpa using hi, by simpa using hd⟩
  obtain ⟨i, hi, hr⟩ := exists_ready hok D hx
  exact List.length_pos_of_mem (show i ∈ readyL p D by simp [readyL, hi, hr])

theorem ready_none {p : PlanL} {D : Nat → Bool} (h : leftN p D = 0) : readyL p D = [] := by
  unfold leftN at h
  rw [List.countP_eq_zero] at h
  unfold readyL
  rw [List.filter_eq_nil_iff]
  intro i hi
  have := h i hi
  simp at this
  simp [readyB, this]

theorem natL_pair {l : List Nat} (h : l.Pairwise (· < ·)) : (natL l).Pairwise (· < ·) := by
  unfold natL
  rw [List.pairwise_map]
  exact h.imp (fun h => by omega)

theorem readyL_pair (p : PlanL) (D : Nat → Bool) : (readyL p D).Pairwise (· < ·) := List.Pairwise.filter _ (List.pairwise_lt_range (n := p.length))
theorem newL_pair (p : PlanL) (D : Nat → Bool) (i : Nat) : (newL p D i).Pairwise (· < ·) := List.Pairwise.filter _ (afterOf_pair p i)

theorem start_fresh (p : PlanL) : ∀ x ∈ natL (readyL p (fun _ => false)), x ∈ U p.length (fun _ => false) := by
  intro x hx
  obtain ⟨i, hi, rfl⟩ := List.mem_map.1 hx
  exact mem_U.2 ⟨i, (ready_of_lack hi).1, rfl, rfl⟩
theorem start_told (p : PlanL) (j : Nat) (hj : j < p.length) : mark (fun _ => false) (natL (readyL p (fun _ => false))) j = tD p (fun _ => false) j := by
  unfold mark tD
  rw [Bool.false_or, Bool.eq_iff_iff, decide_eq_true_eq, natL_mem]
  simp [readyL, hj, ready_lack]

theorem new_fresh {p : PlanL} (hok : PlanOk p) {D : Nat → Bool} {i : Nat} (hi : D i = false) : ∀ x ∈ natL (newL p D i), x ∈ U p.length (tD p D) := by
  intro x hx
  obtain ⟨k, hk, rfl⟩ := List.mem_map.1 hx
  have hk2 := List.mem_filter.1 hk
  have hm := afterOf_mem.1 hk2.1
  have h1 := lack_up hok D i hi k
  rw [if_pos hm.2] at h1
  exact mem_U.2 ⟨k, hm.1, by unfold tD; simp; omega, rfl⟩

theorem new_told {p : PlanL} (hok : PlanOk p) {D : Nat → Bool} {i : Nat} (hi : D i = false) (j : Nat) (hj : j < p.length) : mark (tD p D) (natL (newL p D i)) j = tD p (upB D i) j := by
  unfold mark tD
  rw [Bool.eq_iff_iff]
  simp only [Bool.or_eq_true, beq_iff_eq, decide_eq_true_eq, natL_mem]
  have h1 := lack_up hok D i hi j
  constructor
  · rintro (h | h)
    · omega
    · have := (List.mem_filter.1 h).2
      simpa using this
  · intro h
    by_cases hm : (i : Int) ∈ ndOf p j
    · right
      exact List.mem_filter.2 ⟨afterOf_mem.2 ⟨hj, hm⟩, by simp [h]⟩
    · left
      rw [if_neg hm] at h1
      omega

theorem state_ready {p : PlanL} {D : Nat → Bool} {i : Nat} (h : readyB p D i = true) : D i = false ∧ lackN p D i = 0 := by
  rw [ready_lack] at h
  simpa using h

end Go.Proofs.YtadjcooemeaaeaaDoor
