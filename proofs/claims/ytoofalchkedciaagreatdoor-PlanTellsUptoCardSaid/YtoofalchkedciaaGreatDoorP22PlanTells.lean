/-
  Groups in plain words: who is gone; which tasks live. No program is named here.
-/
import Derived.Test.YtoofalchkedciaaGreatDoorP17PlanTells
import Derived.Test.YtoofalchkedciaaGreatDoorP21PlanTells
namespace Go.Proofs.YtoofalchkedciaaGreatDoor

/-- Is a group gone? By so many steps upwards. -/
def goneN (P : Nat → Int) (C : Nat → Bool) : Nat → Int → Bool
  | 0, _ => false
  | f + 1, i => if i < 0 then false else C i.toNat || goneN P C f (P i.toNat)
def goneF (P : Nat → Int) (C : Nat → Bool) (i : Int) : Bool := goneN P C (i.toNat + 1) i

/-- Parents are groups before. -/
def TreeP (n : Nat) (P : Nat → Int) : Prop := ∀ i, i < n → -1 ≤ P i ∧ P i < i

theorem goneN_more {n : Nat} {P : Nat → Int} {C : Nat → Bool} (h : TreeP n P) (f : Nat) : ∀ (g : Nat) (i : Int), i < n → i.toNat < f → i.toNat < g → goneN P C f i = goneN P C g i := by
  induction f with
  | zero => intro g i _ h1; omega
  | succ f ih =>
    intro g i hi hf hg
    obtain ⟨g, rfl⟩ : ∃ k, g = k + 1 := ⟨g - 1, by omega⟩
    unfold goneN
    by_cases h0 : i < 0
    · rw [if_pos h0, if_pos h0]
    · rw [if_neg h0, if_neg h0]
      have hp := h i.toNat (by omega)
      by_cases hneg : P i.toNat < 0
      · have e : ∀ f, goneN P C f (P i.toNat) = false := by
          intro f
          cases f with
          | zero => rfl
          | succ f => unfold goneN; rw [if_pos hneg]
        rw [e, e]
      · rw [ih g (P i.toNat) (by omega) (by omega) (by omega)]

theorem goneF_neg (P : Nat → Int) (C : Nat → Bool) : goneF P C (-1) = false := rfl
theorem goneF_step {n : Nat} {P : Nat → Int} {C : Nat → Bool} (h : TreeP n P) (k : Nat) (hk : k < n) : goneF P C (k : Int) = (C k || goneF P C (P k)) := by
  have hp := h k hk
  unfold goneF
  rw [Int.toNat_natCast]
  show (if (k : Int) < 0 then false else C (k : Int).toNat || goneN P C k (P (k : Int).toNat)) = _
  rw [if_neg (by omega), Int.toNat_natCast]
  congr 1
  by_cases hneg : P k < 0
  · have e : ∀ f, goneN P C f (P k) = false := by
      intro f
      cases f with
      | zero => rfl
      | succ f => unfold goneN; rw [if_pos hneg]
    rw [e, e]
  · exact goneN_more h _ _ _ (by omega) (by omega) (by omega)

/-- With one cancelled all are gone that were, and its parts. -/
theorem goneF_cancel {n : Nat} {P : Nat → Int} {C : Nat → Bool} (h : TreeP n P) (i : Nat) (k : Int) (hk : k < n) (h0 : -1 ≤ k) :
    goneF P (fun j => if j = i then true else C j) k = (goneF P C k || goneF P (fun j => decide (j = i)) k) := by
  obtain ⟨m, hm⟩ : ∃ m, (k + 1).toNat = m := ⟨_, rfl⟩
  induction m using Nat.strongRecOn generalizing k with
  | ind m ih =>
    by_cases hneg : k < 0
    · obtain rfl : k = -1 := by omega
      simp [goneF_neg]
    · obtain ⟨j, rfl⟩ := Int.eq_ofNat_of_zero_le (show 0 ≤ k by omega)
      have hj : j < n := by omega
      have hp := h j hj
      rw [goneF_step h j hj, goneF_step h j hj, goneF_step h j hj, ih (P j + 1).toNat (by omega) (P j) (by omega) hp.1 rfl]
      by_cases e : j = i
      · subst e; simp
      · simp [e, Bool.or_assoc]

/-- Which tasks live, of the first k of the order; B: whose group is not gone. -/
def liveK (p : PlanL) (B : Nat → Bool) : Nat → Nat → Bool
  | 0 => fun _ => false
  | k + 1 => match (orderOf p)[k]? with
    | some i => fun j => if j = i then B i && !(ndOf p i).any (fun m => !liveK p B k m.toNat) else liveK p B k j
    | none => liveK p B k
/-- Which tasks live. -/
def liveF (p : PlanL) (B : Nat → Bool) : Nat → Bool := liveK p B p.length

theorem order_nodup {p : PlanL} (h : PlanOk p) : (orderOf p).Nodup := topo_nodup h _ (Nat.le_refl _)
theorem order_len {p : PlanL} (h : PlanOk p) : (orderOf p).length = p.length := topo_len h _ (Nat.le_refl _)

theorem liveK_stay {p : PlanL} (h : PlanOk p) (B : Nat → Bool) (k m : Nat) (hkm : k ≤ m) (j : Nat) (hj : j ∈ (orderOf p).take k) : liveK p B m j = liveK p B k j := by
  induction m with
  | zero => obtain rfl : k = 0 := by omega
            rfl
  | succ m ih =>
    rcases Nat.lt_or_ge m k with hlt | hge
    · obtain rfl : k = m + 1 := by omega
      rfl
    · rw [← ih hge]
      show (match (orderOf p)[m]? with | some i => fun j => if j = i then B i && !(ndOf p i).any (fun x => !liveK p B m x.toNat) else liveK p B m j | none => liveK p B m) j = _
      cases hm : (orderOf p)[m]? with
      | none => rfl
      | some i =>
        have hne : j ≠ i := by
          intro e
          subst e
          obtain ⟨a, ha, hja⟩ := List.getElem_of_mem hj
          rw [List.getElem_take] at hja
          have ha' : a < k := by simp at ha; omega
          have hml : m < (orderOf p).length := by
            rcases Nat.lt_or_ge m (orderOf p).length with hl | hl
            · exact hl
            · rw [List.getElem?_eq_none hl] at hm; cases hm
          rw [List.getElem?_eq_getElem hml] at hm
          injection hm with hm
          exact (List.pairwise_iff_getElem.1 (order_nodup h)) a m (by omega) hml (by omega) (by rw [hja, hm])
        simp [hne]

/-- A task lives where its group does, and all that it needs. -/
theorem liveF_eq {p : PlanL} (h : PlanOk p) (B : Nat → Bool) (i : Nat) (hi : i < p.length) : liveF p B i = (B i && (ndOf p i).all (fun m => liveF p B m.toNat)) := by
  obtain ⟨k, hk, hki⟩ := List.getElem_of_mem ((orderOf_mem h i).2 hi)
  have hkl : k < p.length := by rw [order_len h] at hk; exact hk
  have hk2 : (orderOf p)[k]? = some i := by rw [List.getElem?_eq_getElem hk, hki]
  have hr := (orderOf_ready h k i hk2).2
  have hmem : i ∈ (orderOf p).take (k + 1) := by
    rw [List.take_succ_eq_append_getElem hk, hki]; simp
  have e1 := liveK_stay h B (k + 1) p.length (by omega) i hmem
  unfold liveF
  rw [e1]
  show (match (orderOf p)[k]? with | some i => fun j => if j = i then B i && !(ndOf p i).any (fun x => !liveK p B k x.toNat) else liveK p B k j | none => liveK p B k) i = _
  rw [hk2]
  simp only [if_pos]
  congr 1
  rw [List.not_any_eq_all_not]
  rw [Bool.eq_iff_iff, List.all_eq_true, List.all_eq_true]
  have hn : ∀ m ∈ ndOf p i, m.toNat ∈ (orderOf p).take k := by
    intro m hm
    simp only [readyB, Bool.and_eq_true, List.all_eq_true] at hr
    have := hr.2 m hm
    simpa using this
  constructor
  · intro hx m hm
    have := hx m hm
    rw [liveK_stay h B k p.length (by omega) _ (hn m hm)]
    simpa using this
  · intro hx m hm
    have := hx m hm
    rw [liveK_stay h B k p.length (by omega) _ (hn m hm)] at this
    simp [this]

theorem liveF_need {p : PlanL} (h : PlanOk p) (B : Nat → Bool) (i : Nat) (hi : i < p.length) (hl : liveF p B i = true) (m : Int) (hm : m ∈ ndOf p i) : liveF p B m.toNat = true := by
  rw [liveF_eq h B i hi, Bool.and_eq_true, List.all_eq_true] at hl
  exact hl.2 m hm

theorem liveF_mono {p : PlanL} (h : PlanOk p) (B B' : Nat → Bool) (hB : ∀ i, i < p.length → B' i = true → B i = true) (i : Nat) (hi : i < p.length) (hl : liveF p B' i = true) : liveF p B i = true := by
  obtain ⟨r, hr⟩ : ∃ r, rk p i = r := ⟨_, rfl⟩
  induction r using Nat.strongRecOn generalizing i with
  | ind r ih =>
    rw [liveF_eq h B' i hi, Bool.and_eq_true, List.all_eq_true] at hl
    rw [liveF_eq h B i hi, Bool.and_eq_true, List.all_eq_true]
    refine ⟨hB i hi hl.1, fun m hm => ?_⟩
    have hb := h.need i m hm
    have hm' : ((m.toNat : Nat) : Int) ∈ ndOf p i := by rw [Int.toNat_of_nonneg hb.1]; exact hm
    exact ih _ (by rw [← hr]; exact rk_lt h hm') m.toNat (by omega) (hl.2 m hm) rfl

end Go.Proofs.YtoofalchkedciaaGreatDoor
