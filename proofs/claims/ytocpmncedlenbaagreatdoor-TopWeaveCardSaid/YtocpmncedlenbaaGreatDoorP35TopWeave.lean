/-
  Who is given what, by an order, in plain words. No program is named here.
-/
import Derived.Test.YtocpmncedlenbaaGreatDoorP32TopWeave
import Derived.Test.YtocpmncedlenbaaGreatDoorP34TopWeave
import Derived.Test.YtocpmncedlenbaaGreatDoorP8TopWeave
namespace Go.Proofs.YtocpmncedlenbaaGreatDoor

/-- When each hand is free, when each task ends (below 0: nobody has taken it), and the stays. -/
structure LS where
  free : Nat → Int
  ends : Nat → Int
  out : List St

def lReady (p : PlanL) (ends : Nat → Int) (T : Int) (i : Nat) : Bool := decide (ends i < 0) && !((ndOf p i).any fun k => decide (ends k.toNat < 0) || decide (T < ends k.toNat))
def lHand (hands : Nat) (free : Nat → Int) (T : Int) : Int := firstIdx (fun t => decide (t ≤ T)) (numL hands free)
def lTask (p : PlanL) (order : List Int) (ends : Nat → Int) (T : Int) : Int := firstIdx (fun i => lReady p ends T i.toNat) order
/-- Task i is given to hand h at T. -/
def lPut (p : PlanL) (s : LS) (T : Int) (h i : Nat) : LS := ⟨updI s.free h (T + wkOf p i), updI s.ends i (T + wkOf p i), s.out ++ [⟨(h : Int), (i : Int), T, T + wkOf p i⟩]⟩
def lStart : LS := ⟨fun _ => 0, fun _ => -1, []⟩

/-- What may be so at a time. -/
inductive LAt (p : PlanL) (hands : Nat) (order : List Int) : Nat → LS → Prop
  | start : LAt p hands order 0 lStart
  | give {T : Nat} {s : LS} (h k i : Nat) : LAt p hands order T s → lHand hands s.free (T : Int) = (h : Int) → lTask p order s.ends (T : Int) = (k : Int) → nth order k = (i : Int) → LAt p hands order T (lPut p s (T : Int) h i)
  | tick {T : Nat} {s : LS} : LAt p hands order T s → lHand hands s.free (T : Int) < 0 ∨ lTask p order s.ends (T : Int) < 0 → s.out.length < p.length → LAt p hands order (T + 1) s

theorem firstIdx_spec (P : Int → Bool) (l : List Int) : (firstIdx P l = -1 ∧ ∀ j, j < l.length → P (nth l j) = false) ∨ ∃ k, k < l.length ∧ firstIdx P l = (k : Int) ∧ P (nth l k) = true := by
  induction l with
  | nil => exact .inl ⟨rfl, fun j hj => by simp at hj⟩
  | cons x l ih =>
    by_cases hx : P x = true
    · exact .inr ⟨0, by simp, by unfold firstIdx; rw [if_pos hx]; rfl, by simpa [nth] using hx⟩
    · have h0 : P x = false := by simpa using hx
      rcases ih with ⟨h1, h2⟩ | ⟨k, hk, h1, h2⟩
      · refine .inl ⟨by unfold firstIdx; rw [if_neg hx, h1]; rfl, fun j hj => ?_⟩
        rcases j with _ | j
        · simpa [nth] using h0
        · have := h2 j (by simpa using hj)
          simpa [nth] using this
      · refine .inr ⟨k + 1, by simp; omega, ?_, by simpa [nth] using h2⟩
        unfold firstIdx
        rw [if_neg hx, h1, if_neg (by omega)]; rfl

/-- The order names each task, and nothing else. -/
structure OrdOk (n : Nat) (order : List Int) : Prop where
  mem : ∀ x ∈ order, ∃ i : Nat, i < n ∧ x = (i : Int)
  all : ∀ i : Nat, i < n → (i : Int) ∈ order

theorem lReady_iff {p : PlanL} {ends : Nat → Int} {T : Int} {i : Nat} : lReady p ends T i = true ↔ ends i < 0 ∧ ∀ k ∈ ndOf p i, 0 ≤ ends k.toNat ∧ ends k.toNat ≤ T := by
  unfold lReady
  simp only [Bool.and_eq_true, decide_eq_true_eq, Bool.not_eq_true', List.any_eq_false, Bool.or_eq_true, not_or]
  constructor
  · rintro ⟨h1, h2⟩
    exact ⟨h1, fun k hk => by have := h2 k hk; omega⟩
  · rintro ⟨h1, h2⟩
    exact ⟨h1, fun k hk => by have := h2 k hk; omega⟩
theorem lHand_at {hands : Nat} {free : Nat → Int} {T : Int} {h : Nat} (e : lHand hands free T = (h : Int)) : h < hands ∧ free h ≤ T := by
  rcases firstIdx_spec (fun t => decide (t ≤ T)) (numL hands free) with ⟨h1, _⟩ | ⟨k, hk, h1, h2⟩
  · unfold lHand at e; omega
  · unfold lHand at e
    have : k = h := by omega
    subst this
    rw [numL_len] at hk
    rw [numL_nth _ _ _ hk] at h2
    exact ⟨hk, by simpa using h2⟩
theorem lHand_no {hands : Nat} {free : Nat → Int} {T : Int} (e : lHand hands free T < 0) : ∀ h, h < hands → T < free h := by
  rcases firstIdx_spec (fun t => decide (t ≤ T)) (numL hands free) with ⟨_, h1⟩ | ⟨k, hk, h1, h2⟩
  · intro h hh
    have := h1 h (by rw [numL_len]; exact hh)
    rw [numL_nth _ _ _ hh] at this
    simpa using this
  · unfold lHand at e; omega
theorem lTask_at {p : PlanL} {order : List Int} {ends : Nat → Int} {T : Int} {k : Nat} (e : lTask p order ends T = (k : Int)) : k < order.length ∧ lReady p ends T (nth order k).toNat = true := by
  rcases firstIdx_spec (fun i => lReady p ends T i.toNat) order with ⟨h1, _⟩ | ⟨j, hj, h1, h2⟩
  · unfold lTask at e; omega
  · unfold lTask at e
    have : j = k := by omega
    subst this
    exact ⟨hj, h2⟩
theorem lTask_no {p : PlanL} {order : List Int} {ends : Nat → Int} {T : Int} (ho : OrdOk p.length order) (e : lTask p order ends T < 0) : ∀ i, i < p.length → lReady p ends T i = false := by
  rcases firstIdx_spec (fun i => lReady p ends T i.toNat) order with ⟨_, h1⟩ | ⟨j, hj, h1, h2⟩
  · intro i hi
    obtain ⟨j, hj, he⟩ := List.getElem_of_mem (ho.all i hi)
    have := h1 j hj
    have e2 : nth order j = (i : Int) := by simp [nth, hj, he]
    rw [e2] at this
    simpa using this
  · unfold lTask at e; omega

/-- What holds at a time. -/
structure LInv (p : PlanL) (hands : Nat) (T : Nat) (s : LS) : Prop where
  mem : ∀ c ∈ s.out, 0 ≤ c.hand ∧ c.hand < hands ∧ 0 ≤ c.task ∧ c.task < p.length ∧ 0 ≤ c.frm ∧ c.frm ≤ T ∧ c.til = c.frm + wkOf p c.task.toNat ∧ s.ends c.task.toNat = c.til
  pair : s.out.Pairwise (fun a b => a.task ≠ b.task)
  apart : s.out.Pairwise (fun a b => a.hand = b.hand → a.til ≤ b.frm)
  taken : ∀ i, i < p.length → 0 ≤ s.ends i → ∃ c ∈ s.out, c.task = (i : Int)
  free0 : ∀ h, h < hands → 0 ≤ s.free h
  freeMax : ∀ c ∈ s.out, c.til ≤ s.free c.hand.toNat
  freeIn : ∀ h, h < hands → s.free h = 0 ∨ ∃ c ∈ s.out, c.hand = (h : Int) ∧ c.til = s.free h
  needs : ∀ c ∈ s.out, ∀ k ∈ ndOf p c.task.toNat, 0 ≤ s.ends k.toNat ∧ s.ends k.toNat ≤ c.frm
  full : ∀ t : Nat, t < T → ∀ i, i < p.length → (s.ends i < 0 ∨ (t : Int) < s.ends i - wkOf p i) → (∀ k ∈ ndOf p i, 0 ≤ s.ends k.toNat ∧ s.ends k.toNat ≤ t) → ∀ h, h < hands → ∃ c ∈ s.out, c.hand = (h : Int) ∧ c.frm ≤ t ∧ (t : Int) < c.til
  late : ∀ t : Nat, t < T → ∃ i, i < p.length ∧ (s.ends i < 0 ∨ (t : Int) < s.ends i)

theorem LInv.start (p : PlanL) (hands : Nat) : LInv p hands 0 lStart :=
  ⟨fun c hc => (by cases hc), List.Pairwise.nil, List.Pairwise.nil, fun i _ h => (by simp [lStart] at h), fun h _ => (by simp [lStart]), fun c hc => (by cases hc), fun h _ => .inl rfl, fun c hc => (by cases hc), fun t ht => (by omega), fun t ht => (by omega)⟩

theorem LInv.give {p : PlanL} {hands T : Nat} {s : LS} (h : LInv p hands T s) (hok : PlanOk p) {hd i : Nat} (h1 : hd < hands) (h2 : s.free hd ≤ T) (h3 : i < p.length) (h4 : lReady p s.ends (T : Int) i = true) : LInv p hands T (lPut p s (T : Int) hd i) := by
  obtain ⟨hneg, hnd⟩ := lReady_iff.1 h4
  have hw := (hok.work i h3).1
  have hne : ∀ c ∈ s.out, c.task.toNat ≠ i := fun c hc e => by
    have := h.mem c hc
    have h5 := this.2.2.2.2.2.2.2
    rw [e] at h5
    have h6 := (hok.work i h3).1
    have h7 := this.2.2.2.2.2.2.1
    rw [e] at h7
    omega
  have hself : ∀ k ∈ ndOf p i, k.toNat ≠ i := fun k hk e => by
    have := (hnd k hk).1
    rw [e] at this
    omega
  refine ⟨fun c hc => ?_, ?_, ?_, fun j hj h5 => ?_, fun h5 h6 => ?_, fun c hc => ?_, fun h5 h6 => ?_, fun c hc k hk => ?_, fun t ht j hj h5 h6 h7 h8 => ?_, fun t ht => ?_⟩
  · rcases List.mem_append.1 hc with hc | hc
    · have := h.mem c hc
      have e : (lPut p s (T : Int) hd i).ends c.task.toNat = s.ends c.task.toNat := if_neg (hne c hc)
      rw [e]; exact this
    · obtain rfl : c = ⟨(hd : Int), (i : Int), T, T + wkOf p i⟩ := by simpa using hc
      refine ⟨by simp, by simp; omega, by simp, by simp; omega, by simp, by simp, by simp, ?_⟩
      simp [lPut, updI]
  · show (s.out ++ [_]).Pairwise _
    rw [List.pairwise_append]
    refine ⟨h.pair, by simp, fun a ha b hb => ?_⟩
    obtain rfl : b = ⟨(hd : Int), (i : Int), T, T + wkOf p i⟩ := by simpa using hb
    have := hne a ha
    have := (h.mem a ha).2.2.1
    show a.task ≠ (i : Int); omega
  · show (s.out ++ [_]).Pairwise _
    rw [List.pairwise_append]
    refine ⟨h.apart, by simp, fun a ha b hb he => ?_⟩
    obtain rfl : b = ⟨(hd : Int), (i : Int), T, T + wkOf p i⟩ := by simpa using hb
    have he : a.hand = (hd : Int) := he
    have := h.freeMax a ha
    rw [he, Int.toNat_natCast] at this
    show a.til ≤ (T : Int); omega
  · by_cases e : j = i
    · subst e; exact ⟨⟨(hd : Int), (j : Int), T, T + wkOf p j⟩, by simp [lPut], rfl⟩
    · have e2 : (lPut p s (T : Int) hd i).ends j = s.ends j := if_neg e
      rw [e2] at h5
      obtain ⟨c, hc, hce⟩ := h.taken j hj h5
      exact ⟨c, by simp [lPut, hc], hce⟩
  · by_cases e : h5 = hd
    · subst e; show 0 ≤ updI _ _ _ _; unfold updI; rw [if_pos rfl]; omega
    · have e2 : (lPut p s (T : Int) hd i).free h5 = s.free h5 := if_neg e
      rw [e2]; exact h.free0 h5 h6
  · rcases List.mem_append.1 hc with hc | hc
    · have h5 := h.freeMax c hc
      by_cases e : c.hand.toNat = hd
      · show _ ≤ updI _ _ _ _; unfold updI; rw [if_pos e]
        rw [e] at h5; omega
      · have e2 : (lPut p s (T : Int) hd i).free c.hand.toNat = s.free c.hand.toNat := if_neg e
        rw [e2]; exact h5
    · obtain rfl : c = ⟨(hd : Int), (i : Int), T, T + wkOf p i⟩ := by simpa using hc
      simp [lPut, updI]
  · by_cases e : h5 = hd
    · subst e; exact .inr ⟨⟨(h5 : Int), (i : Int), T, T + wkOf p i⟩, by simp [lPut], rfl, by simp [lPut, updI]⟩
    · have e2 : (lPut p s (T : Int) hd i).free h5 = s.free h5 := if_neg e
      rw [e2]
      rcases h.freeIn h5 h6 with h7 | ⟨c, hc, h7, h8⟩
      · exact .inl h7
      · exact .inr ⟨c, by simp [lPut, hc], h7, h8⟩
  · rcases List.mem_append.1 hc with hc | hc
    · have h5 := h.needs c hc k hk
      by_cases e : k.toNat = i
      · rw [e] at h5; omega
      · have e2 : (lPut p s (T : Int) hd i).ends k.toNat = s.ends k.toNat := if_neg e
        rw [e2]; exact h5
    · obtain rfl : c = ⟨(hd : Int), (i : Int), T, T + wkOf p i⟩ := by simpa using hc
      have hk : k ∈ ndOf p i := by simpa using hk
      have e2 : (lPut p s (T : Int) hd i).ends k.toNat = s.ends k.toNat := if_neg (hself k hk)
      rw [e2]; exact hnd k hk
  · have h6' : ∀ k ∈ ndOf p j, 0 ≤ s.ends k.toNat ∧ s.ends k.toNat ≤ t := fun k hk => by
      have := h6 k hk
      by_cases e : k.toNat = i
      · exfalso
        have e2 : (lPut p s (T : Int) hd i).ends k.toNat = T + wkOf p i := if_pos e
        rw [e2] at this; omega
      · have e2 : (lPut p s (T : Int) hd i).ends k.toNat = s.ends k.toNat := if_neg e
        rw [e2] at this; exact this
    have h5' : s.ends j < 0 ∨ (t : Int) < s.ends j - wkOf p j := by
      by_cases e : j = i
      · subst e; exact .inl hneg
      · have e2 : (lPut p s (T : Int) hd i).ends j = s.ends j := if_neg e
        rw [e2] at h5; exact h5
    obtain ⟨c, hc, h9⟩ := h.full t ht j hj h5' h6' h7 h8
    exact ⟨c, by simp [lPut, hc], h9⟩
  · obtain ⟨j, hj, h5⟩ := h.late t ht
    refine ⟨j, hj, ?_⟩
    by_cases e : j = i
    · have e2 : (lPut p s (T : Int) hd i).ends j = T + wkOf p i := if_pos e
      rw [e2]; right; omega
    · have e2 : (lPut p s (T : Int) hd i).ends j = s.ends j := if_neg e
      rw [e2]; exact h5

theorem LInv.len {p : PlanL} {hands T : Nat} {s : LS} (h : LInv p hands T s) : s.out.length ≤ p.length := by
  have := few_there (n := p.length) (l := s.out.map fun c => c.task.toNat) (by
    unfold List.Nodup
    rw [List.pairwise_map]
    refine (List.pairwise_iff_getElem.2 fun a b ha hb hab => ?_)
    have := (List.pairwise_iff_getElem.1 h.pair) a b ha hb hab
    have h1 := h.mem _ (List.getElem_mem ha)
    have h2 := h.mem _ (List.getElem_mem hb)
    omega) (fun x hx => by
      obtain ⟨c, hc, rfl⟩ := List.mem_map.1 hx
      have := h.mem c hc
      omega)
  simpa using this
theorem LInv.all {p : PlanL} {hands T : Nat} {s : LS} (h : LInv p hands T s) (hl : p.length ≤ s.out.length) : ∀ i, i < p.length → ∃ c ∈ s.out, c.task = (i : Int) := by
  intro i hi
  have h1 := all_there (n := p.length) (l := s.out.map fun c => c.task.toNat) (by
    unfold List.Nodup
    rw [List.pairwise_map]
    refine (List.pairwise_iff_getElem.2 fun a b ha hb hab => ?_)
    have := (List.pairwise_iff_getElem.1 h.pair) a b ha hb hab
    have h1 := h.mem _ (List.getElem_mem ha)
    have h2 := h.mem _ (List.getElem_mem hb)
    omega) (fun x hx => by
      obtain ⟨c, hc, rfl⟩ := List.mem_map.1 hx
      have := h.mem c hc
      omega) (by simpa using hl) i hi
  obtain ⟨c, hc, he⟩ := List.mem_map.1 h1
  have := h.mem c hc
  exact ⟨c, hc, by omega⟩
/-- While some are lacking one is not taken. -/
theorem LInv.open {p : PlanL} {hands T : Nat} {s : LS} (h : LInv p hands T s) (hl : s.out.length < p.length) : ∃ i, i < p.length ∧ s.ends i < 0 := by
  apply Classical.byContradiction
  intro hno
  have hall : ∀ i, i < p.length → i ∈ s.out.map fun c => c.task.toNat := fun i hi => by
    obtain ⟨c, hc, he⟩ := h.taken i hi (by
      apply Classical.byContradiction
      intro hx
      exact hno ⟨i, hi, by omega⟩)
    exact List.mem_map.2 ⟨c, hc, by omega⟩
  have h1 := sum_ind p.length (List.range p.length) List.nodup_range (fun x hx => by simpa using hx)
  have hn : (s.out.map fun c => c.task.toNat).Nodup := by
    unfold List.Nodup
    rw [List.pairwise_map]
    refine (List.pairwise_iff_getElem.2 fun a b ha hb hab => ?_)
    have := (List.pairwise_iff_getElem.1 h.pair) a b ha hb hab
    have h1 := h.mem _ (List.getElem_mem ha)
    have h2 := h.mem _ (List.getElem_mem hb)
    omega
  have h2 := sum_ind p.length (s.out.map fun c => c.task.toNat) hn (fun x hx => by
    obtain ⟨c, hc, rfl⟩ := List.mem_map.1 hx
    have := h.mem c hc
    omega)
  have h3 := sum_map_le (fun i => if i ∈ List.range p.length then 1 else 0) (fun i => if i ∈ s.out.map (fun c => c.task.toNat) then 1 else 0) (List.range p.length) (fun x hx => by
    rw [if_pos hx, if_pos (hall x (by simpa using hx))]; exact Nat.le_refl _)
  simp only [List.length_range, List.length_map] at h1 h2
  omega

theorem LInv.tick {p : PlanL} {hands T : Nat} {s : LS} (h : LInv p hands T s) {order : List Int} (ho : OrdOk p.length order) (hno : lHand hands s.free (T : Int) < 0 ∨ lTask p order s.ends (T : Int) < 0) (hl : s.out.length < p.length) : LInv p hands (T + 1) s := by
  refine ⟨fun c hc => ?_, h.pair, h.apart, h.taken, h.free0, h.freeMax, h.freeIn, h.needs, fun t ht i hi h5 h6 hd h8 => ?_, fun t ht => ?_⟩
  · have := h.mem c hc
    refine ⟨this.1, this.2.1, this.2.2.1, this.2.2.2.1, this.2.2.2.2.1, ?_, this.2.2.2.2.2.2⟩
    have := this.2.2.2.2.2.1; omega
  · by_cases e : t = T
    · subst e
      have hneg : s.ends i < 0 := by
        rcases h5 with h5 | h5
        · exact h5
        · by_cases hx : s.ends i < 0
          · exact hx
          · exfalso
            obtain ⟨c, hc, hce⟩ := h.taken i hi (by omega)
            have hm := h.mem c hc
            have e3 : c.task.toNat = i := by omega
            rw [e3] at hm
            omega
      have hr : lReady p s.ends (t : Int) i = true := lReady_iff.2 ⟨hneg, h6⟩
      rcases hno with hno | hno
      · have h9 := lHand_no hno hd h8
        rcases h.freeIn hd h8 with h10 | ⟨c, hc, h10, h11⟩
        · omega
        · exact ⟨c, hc, h10, (h.mem c hc).2.2.2.2.2.1, by omega⟩
      · rw [lTask_no ho hno i hi] at hr; cases hr
    · exact h.full t (by omega) i hi h5 h6 hd h8
  · by_cases e : t = T
    · obtain ⟨i, hi, hx⟩ := h.open hl
      exact ⟨i, hi, .inl hx⟩
    · exact h.late t (by omega)

theorem LAt.inv {p : PlanL} {hands T : Nat} {order : List Int} {s : LS} (hok : PlanOk p) (ho : OrdOk p.length order) (h : LAt p hands order T s) : LInv p hands T s := by
  induction h with
  | start => exact LInv.start _ _
  | give hd k i _ h1 h2 h3 ih =>
    have h4 := lHand_at h1
    have h5 := lTask_at h2
    have hin : (i : Int) ∈ order := by rw [← h3]; simp [nth, h5.1]
    obtain ⟨j, hj, hji⟩ := ho.mem _ hin
    have e : i = j := by omega
    subst e
    rw [h3, Int.toNat_natCast] at h5
    exact ih.give hok h4.1 h4.2 hj h5.2
  | tick _ h1 h2 ih => exact ih.tick ho h1 h2

/-- When each task ends; one that nobody has taken, as if it began at M. -/
def eF (p : PlanL) (s : LS) (M : Nat) (i : Nat) : Int := if s.ends i < 0 then M + wkOf p i else s.ends i
def aF (p : PlanL) (s : LS) (M t : Nat) : List Nat := (List.range p.length).filter fun i => decide (eF p s M i - wkOf p i ≤ t) && decide ((t : Int) < eF p s M i)
def lF (p : PlanL) (s : LS) (M t i : Nat) : Int := max 0 (min (wkOf p i) (eF p s M i - t))

theorem aF_mem {p : PlanL} {s : LS} {M t i : Nat} : i ∈ aF p s M t ↔ i < p.length ∧ eF p s M i - wkOf p i ≤ t ∧ (t : Int) < eF p s M i := by
  unfold aF
  simp [List.mem_filter]

theorem nodup_sub {n : Nat} {l m : List Nat} (hl : l.Nodup) (hm : m.Nodup) (hmn : ∀ x ∈ m, x < n) (hs : ∀ x ∈ l, x ∈ m) : l.length ≤ m.length := by
  have h1 := sum_ind n l hl (fun x hx => hmn x (hs x hx))
  have h2 := sum_ind n m hm hmn
  have h3 := sum_map_le (fun i => if i ∈ l then 1 else 0) (fun i => if i ∈ m then 1 else 0) (List.range n) (fun x _ => by
    by_cases e : x ∈ l
    · rw [if_pos e, if_pos (hs x e)]; exact Nat.le_refl _
    · rw [if_neg e]; omega)
  omega

theorem LInv.sched {p : PlanL} {hands T : Nat} {s : LS} (h : LInv p hands T s) (hok : PlanOk p) {M : Nat} (hM : M ≤ T ∨ ∀ i, i < p.length → 0 ≤ s.ends i) : Sched p hands M (aF p s M) (lF p s M) := by
  have htk : ∀ i, i < p.length → 0 ≤ s.ends i → ∃ c ∈ s.out, c.task = (i : Int) ∧ s.ends i = c.frm + wkOf p i ∧ c.til = s.ends i := fun i hi h1 => by
    obtain ⟨c, hc, he⟩ := h.taken i hi h1
    have hm := h.mem c hc
    have e : c.task.toNat = i := by omega
    rw [e] at hm
    exact ⟨c, hc, he, by omega, by omega⟩
  have hun : ∀ i, s.ends i < 0 → eF p s M i = M + wkOf p i := fun i hx => if_pos hx
  have hta : ∀ i, 0 ≤ s.ends i → eF p s M i = s.ends i := fun i hx => if_neg (by omega)
  have hge : ∀ i, i < p.length → wkOf p i ≤ eF p s M i := fun i hi => by
    by_cases hx : s.ends i < 0
    · rw [hun i hx]; omega
    · obtain ⟨c, hc, _, h2, _⟩ := htk i hi (by omega)
      rw [hta i (by omega)]
      have := (h.mem c hc).2.2.2.2.1
      omega
  have hwk : ∀ i, i < p.length → 1 ≤ wkOf p i := fun i hi => (hok.work i hi).1
  have hrun : ∀ t, t < M → ∀ i, i ∈ aF p s M t → ∃ c ∈ s.out, c.task = (i : Int) ∧ c.frm ≤ t ∧ (t : Int) < c.til := fun t ht i hi => by
    obtain ⟨h1, h2, h3⟩ := aF_mem.1 hi
    by_cases hx : s.ends i < 0
    · rw [hun i hx] at h2; omega
    · rw [hta i (by omega)] at h2 h3
      obtain ⟨c, hc, he, h4, h5⟩ := htk i h1 (by omega)
      exact ⟨c, hc, he, by omega, by omega⟩
  have hrun2 : ∀ t c, c ∈ s.out → c.frm ≤ (t : Nat) → (t : Int) < c.til → c.task.toNat ∈ aF p s M t := fun t c hc h1 h2 => by
    have hm := h.mem c hc
    have hw := hwk c.task.toNat (by omega)
    have e := hta c.task.toNat (by omega)
    exact aF_mem.2 ⟨by omega, by rw [e]; omega, by rw [e]; omega⟩
  refine ⟨fun i hi => ?_, fun t ht i hi => ?_, fun t ht i hi => ?_, fun t ht => ?_, fun t ht => ?_, fun t ht hf i hi hg => ?_⟩
  · have := hge i hi
    have := hwk i hi
    unfold lF; omega
  · have h1 := hge i hi
    have h2 := hwk i hi
    have h3 := @aF_mem p s M t i
    unfold lF
    by_cases e : i ∈ aF p s M t
    · rw [if_pos e]
      have := h3.1 e
      omega
    · rw [if_neg e]
      have : ¬ (eF p s M i - wkOf p i ≤ t ∧ (t : Int) < eF p s M i) := fun hx => e (h3.2 ⟨hi, hx⟩)
      omega
  · obtain ⟨h1, h2, h3⟩ := aF_mem.1 hi
    refine ⟨h1, gOk_iff.2 ⟨?_, fun k hk => ?_⟩⟩
    · have := hwk i h1
      unfold lF; omega
    · obtain ⟨c, hc, he, h4, h5⟩ := hrun t ht i hi
      have e : c.task.toNat = i := by omega
      have h6 := h.needs c hc k (by rw [e]; exact hk)
      have e2 := hta k.toNat h6.1
      have hkb := hok.need i k hk
      have h7 := hwk k.toNat (by omega)
      unfold lF; rw [e2]; omega
  · exact List.Nodup.sublist List.filter_sublist List.nodup_range
  · have hnd : (aF p s M t).Nodup := List.Nodup.sublist List.filter_sublist List.nodup_range
    have hst : ∀ i ∈ aF p s M t, stF s.out (i : Int) ∈ s.out ∧ (stF s.out (i : Int)).task = (i : Int) ∧ (stF s.out (i : Int)).frm ≤ t ∧ (t : Int) < (stF s.out (i : Int)).til := fun i hi => by
      obtain ⟨c, hc, he, h4, h5⟩ := hrun t ht i hi
      have e : stF s.out (i : Int) = c := by unfold stF; rw [← he, stayOf_mem h.pair hc]; rfl
      rw [e]; exact ⟨hc, he, h4, h5⟩
    have := few_there (n := hands) (l := (aF p s M t).map fun (i : Nat) => (stF s.out (i : Int)).hand.toNat) (by
      unfold List.Nodup
      rw [List.pairwise_map]
      refine List.Pairwise.imp_of_mem ?_ hnd
      intro a b ha hb hab he
      have h1 := hst a ha
      have h2 := hst b hb
      have m1 := h.mem _ h1.1
      have m2 := h.mem _ h2.1
      have hh : (stF s.out (a : Int)).hand = (stF s.out (b : Int)).hand := by omega
      obtain ⟨x, hx, ex⟩ := List.getElem_of_mem h1.1
      obtain ⟨y, hy, ey⟩ := List.getElem_of_mem h2.1
      rcases Nat.lt_trichotomy x y with hl | hl | hl
      · have := (List.pairwise_iff_getElem.1 h.apart) x y hx hy hl (by rw [ex, ey]; exact hh)
        rw [ex, ey] at this; omega
      · subst hl
        rw [ex] at ey
        have h3 := h1.2.1
        rw [ey, h2.2.1] at h3
        omega
      · have := (List.pairwise_iff_getElem.1 h.apart) y x hy hx hl (by rw [ex, ey]; exact hh.symm)
        rw [ex, ey] at this; omega) (fun x hx => by
        obtain ⟨i, hi, rfl⟩ := List.mem_map.1 hx
        have := h.mem _ (hst i hi).1
        omega)
    simpa using this
  · obtain ⟨hg1, hg2⟩ := gOk_iff.1 hg
    apply Classical.byContradiction
    intro hni
    have h3 := @aF_mem p s M t i
    have h1 := hwk i hi
    have h2 : (t : Int) < eF p s M i := by unfold lF at hg1; omega
    have h4 : ¬ (eF p s M i - wkOf p i ≤ t) := fun hx => hni (h3.2 ⟨hi, hx, h2⟩)
    have hnd : ∀ k ∈ ndOf p i, 0 ≤ s.ends k.toNat ∧ s.ends k.toNat ≤ t := fun k hk => by
      have h5 := hg2 k hk
      have hkb := hok.need i k hk
      have h7 := hwk k.toNat (by omega)
      unfold lF at h5
      by_cases hx : s.ends k.toNat < 0
      · rw [hun _ hx] at h5; omega
      · rw [hta _ (by omega)] at h5; omega
    have hT : t < T := by
      by_cases hx : t < T
      · exact hx
      · exfalso
        rcases hM with hM | hM
        · omega
        · obtain ⟨c, hc, _, h5, _⟩ := htk i hi (hM i hi)
          rw [hta i (hM i hi)] at h4
          have := (h.mem c hc).2.2.2.2.2.1
          omega
    have h5 : s.ends i < 0 ∨ (t : Int) < s.ends i - wkOf p i := by
      by_cases hx : s.ends i < 0
      · exact .inl hx
      · rw [hta i (by omega)] at h4
        right; omega
    have hfull := h.full t hT i hi h5 hnd
    have hpk : ∀ hd, hd < hands → ∃ c, s.out.find? (fun c => decide (c.hand = (hd : Int)) && (decide (c.frm ≤ (t : Int)) && decide ((t : Int) < c.til))) = some c := fun hd hh => by
      obtain ⟨c, hc, h6, h7, h8⟩ := hfull hd hh
      cases e : s.out.find? (fun c => decide (c.hand = (hd : Int)) && (decide (c.frm ≤ (t : Int)) && decide ((t : Int) < c.til))) with
      | some x => exact ⟨x, rfl⟩
      | none =>
        rw [List.find?_eq_none] at e
        have := e c hc
        simp [h6, h7, h8] at this
    have hgt : ∀ hd, hd < hands → ∀ c, s.out.find? (fun c => decide (c.hand = (hd : Int)) && (decide (c.frm ≤ (t : Int)) && decide ((t : Int) < c.til))) = some c → c ∈ s.out ∧ c.hand = (hd : Int) ∧ c.frm ≤ (t : Int) ∧ (t : Int) < c.til := fun hd hh c hc => by
      have h6 := List.find?_some hc
      simp only [Bool.and_eq_true, decide_eq_true_eq] at h6
      exact ⟨List.mem_of_find?_eq_some hc, h6⟩
    have hlen := nodup_sub (n := p.length) (l := (List.range hands).map fun (hd : Nat) => ((s.out.find? (fun c => decide (c.hand = (hd : Int)) && (decide (c.frm ≤ (t : Int)) && decide ((t : Int) < c.til)))).getD ⟨0, 0, 0, 0⟩).task.toNat) (m := aF p s M t) (by
      unfold List.Nodup
      rw [List.pairwise_map]
      refine List.Pairwise.imp_of_mem ?_ (List.nodup_range (n := hands))
      intro a b ha hb hab he
      have ha : a < hands := by simpa using ha
      have hb : b < hands := by simpa using hb
      obtain ⟨x, hx⟩ := hpk a ha
      obtain ⟨y, hy⟩ := hpk b hb
      rw [hx, hy] at he
      have he : x.task.toNat = y.task.toNat := he
      have h6 := hgt a ha x hx
      have h7 := hgt b hb y hy
      have m1 := h.mem _ h6.1
      have m2 := h.mem _ h7.1
      have : x = y := stay_same h.pair h6.1 h7.1 (by omega)
      subst this
      omega) (List.Nodup.sublist List.filter_sublist List.nodup_range) (fun x hx => (aF_mem.1 hx).1) (fun x hx => by
      obtain ⟨hd, hh, rfl⟩ := List.mem_map.1 hx
      have hh : hd < hands := by simpa using hh
      obtain ⟨y, hy⟩ := hpk hd hh
      rw [hy]
      have h6 := hgt hd hh y hy
      exact hrun2 t y h6.1 h6.2.2.1 h6.2.2.2)
    simp only [List.length_map, List.length_range] at hlen
    omega

/-- It takes no more time than there is work. -/
theorem LInv.time {p : PlanL} {hands T : Nat} {s : LS} (h : LInv p hands T s) (hok : PlanOk p) (h1 : 1 ≤ hands) : T ≤ 600 := by
  have hs := h.sched hok (M := T) (.inl (Nat.le_refl _))
  have ht := hs.time (fun u hu => by
    obtain ⟨i, hi, hx⟩ := h.late u hu
    refine hs.busy hok h1 hu hi ?_
    have hw := (hok.work i hi).1
    unfold lF eF
    rcases hx with hx | hx
    · rw [if_pos hx]; omega
    · rw [if_neg (by omega)]; omega) (Nat.le_refl _)
  have := gSum_work p hok
  omega

/-- When the last one is done. -/
def lLong (ss : List St) : Int := ss.foldl (fun m c => max m c.til) 0
theorem lLong_push (ss : List St) (c : St) : lLong (ss ++ [c]) = max (lLong ss) c.til := by unfold lLong; rw [List.foldl_append]; rfl
theorem snoc_st {P : List St → Prop} (h0 : P []) (h1 : ∀ l a, P l → P (l ++ [a])) : ∀ l, P l := snoc_cases h0 h1
theorem lLong_ge0 (ss : List St) : 0 ≤ lLong ss := by
  induction ss using snoc_st with
  | h0 => exact Int.le_refl _
  | h1 l a ih => rw [lLong_push]; omega
theorem lLong_ge (ss : List St) : ∀ c ∈ ss, c.til ≤ lLong ss := by
  induction ss using snoc_st with
  | h0 => intro c hc; cases hc
  | h1 l a ih =>
    intro c hc
    rw [lLong_push]
    rcases List.mem_append.1 hc with hc | hc
    · have := ih c hc; omega
    · obtain rfl : c = a := by simpa using hc
      omega
theorem lLong_in (ss : List St) : lLong ss = 0 ∨ ∃ c ∈ ss, c.til = lLong ss := by
  induction ss using snoc_st with
  | h0 => exact .inl rfl
  | h1 l a ih =>
    rw [lLong_push]
    by_cases e : lLong l ≤ a.til
    · exact .inr ⟨a, by simp, by omega⟩
    · rcases ih with h | ⟨c, hc, h⟩
      · left; omega
      · exact .inr ⟨c, by simp [hc], by omega⟩

/-- The end: all are taken. -/
def LEnd (p : PlanL) (hands : Nat) (order : List Int) (ss : List St) : Prop := ∃ T s, LAt p hands order T s ∧ s.out = ss ∧ ss.length = p.length

/-- Graham. -/
theorem lEnd_bounds {p : PlanL} {hands : Nat} {order : List Int} {ss : List St} (hok : PlanOk p) (ho : OrdOk p.length order) (h1 : 1 ≤ hands) (he : LEnd p hands order ss) :
    lLong ss ≤ 600 ∧ spanF p ≤ lLong ss ∧ workF p ≤ hands * lLong ss ∧ (hands : Int) * lLong ss ≤ workF p + (hands - 1) * spanF p := by
  obtain ⟨T, s, hat, rfl, hl⟩ := he
  have h := hat.inv hok ho
  have hall : ∀ i, i < p.length → 0 ≤ s.ends i := fun i hi => by
    obtain ⟨c, hc, he⟩ := h.all (by omega) i hi
    have hm := h.mem c hc
    have e : c.task.toNat = i := by omega
    rw [e] at hm
    have := (hok.work i hi).1
    omega
  obtain ⟨M, hM⟩ := Int.eq_ofNat_of_zero_le (lLong_ge0 s.out)
  have hs := h.sched hok (M := M) (.inr hall)
  have hle : ∀ i, i < p.length → s.ends i ≤ M := fun i hi => by
    obtain ⟨c, hc, he⟩ := h.all (by omega) i hi
    have hm := h.mem c hc
    have e : c.task.toNat = i := by omega
    rw [e] at hm
    have := lLong_ge s.out c hc
    omega
  have hbusy : ∀ u, u < M → aF p s M u ≠ [] := fun u hu => by
    rcases lLong_in s.out with h2 | ⟨c, hc, h2⟩
    · omega
    · have hm := h.mem c hc
      have hi : c.task.toNat < p.length := by omega
      refine hs.busy hok h1 hu hi ?_
      have hw := (hok.work _ hi).1
      unfold lF eF
      rw [if_neg (by have := hall _ hi; omega)]
      omega
  have hz : ∀ i, i < p.length → lF p s M M i = 0 := fun i hi => by
    have := hle i hi
    have := hall i hi
    unfold lF eF
    rw [if_neg (by omega)]
    omega
  have hb := hs.bounds hok h1 hbusy hz
  have ht := hs.time hbusy (Nat.le_refl _)
  have := gSum_work p hok
  rw [hM]
  exact ⟨by omega, hb.1, hb.2.1, hb.2.2⟩

/-- What comes of it may be so. -/
theorem lEnd_stays {p : PlanL} {hands : Nat} {order : List Int} {ss : List St} (hok : PlanOk p) (ho : OrdOk p.length order) (h1 : 1 ≤ hands) (he : LEnd p hands order ss) : staysErr p hands ss = 0 := by
  have hbd := (lEnd_bounds hok ho h1 he).1
  obtain ⟨T, s, hat, rfl, hl⟩ := he
  have h := hat.inv hok ho
  unfold staysErr
  rw [if_neg, if_neg (by omega), if_neg]
  · unfold earlyS
    rw [Bool.not_eq_true, List.any_eq_false]
    intro a ha
    rw [Bool.not_eq_true, List.any_eq_false]
    intro b hb
    simp only [Bool.and_eq_true, decide_eq_true_eq, not_and]
    intro hk
    have h2 := h.needs a ha _ hk
    have h3 := (h.mem b hb).2.2.2.2.2.2.2
    omega
  · intro hx
    apply hx
    unfold scanS
    rw [firstE_all]
    intro k hk
    have e : stAt s.out k = s.out[k] := by simp [stAt, hk]
    rw [e]
    have hm := h.mem _ (List.getElem_mem hk)
    have hle := lLong_ge s.out _ (List.getElem_mem hk)
    have hw := (hok.work s.out[k].task.toNat (by omega)).1
    unfold stayFault
    rw [if_neg (by omega), if_neg (by omega), if_neg]
    unfold clashS
    rw [Bool.not_eq_true, List.any_eq_false]
    intro x hx
    obtain ⟨j, hj, rfl⟩ := List.getElem_of_mem hx
    rw [List.length_take] at hj
    rw [List.getElem_take]
    have h2 := (List.pairwise_iff_getElem.1 h.pair) j k (by omega) hk (by omega)
    have h3 := (List.pairwise_iff_getElem.1 h.apart) j k (by omega) hk (by omega)
    simp only [overS, Bool.or_eq_true, decide_eq_true_eq, Bool.and_eq_true, not_or]
    refine ⟨h2, fun hx => ?_⟩
    have := h3 hx.1
    omega

/-- One step of it. -/
def lNext (p : PlanL) (hands : Nat) (order : List Int) (x : Nat × LS) : Nat × LS :=
  if lHand hands x.2.free (x.1 : Int) < 0 ∨ lTask p order x.2.ends (x.1 : Int) < 0 then (x.1 + 1, x.2)
  else (x.1, lPut p x.2 (x.1 : Int) (lHand hands x.2.free (x.1 : Int)).toNat (nth order (lTask p order x.2.ends (x.1 : Int)).toNat).toNat)
def lIter (p : PlanL) (hands : Nat) (order : List Int) : Nat → Nat × LS
  | 0 => (0, lStart)
  | m + 1 => lNext p hands order (lIter p hands order m)

theorem LAt.iter {p : PlanL} {hands T : Nat} {order : List Int} {s : LS} (h : LAt p hands order T s) : ∃ m, lIter p hands order m = (T, s) := by
  induction h with
  | start => exact ⟨0, rfl⟩
  | give hd k i _ h1 h2 h3 ih =>
    obtain ⟨m, hm⟩ := ih
    refine ⟨m + 1, ?_⟩
    unfold lIter
    rw [hm]
    unfold lNext
    simp only [h1, h2]
    rw [if_neg (by omega), Int.toNat_natCast, Int.toNat_natCast, h3, Int.toNat_natCast]
  | tick _ h1 h2 ih =>
    obtain ⟨m, hm⟩ := ih
    refine ⟨m + 1, ?_⟩
    unfold lIter
    rw [hm]
    unfold lNext
    simp only
    rw [if_pos h1]
theorem lIter_out (p : PlanL) (hands : Nat) (order : List Int) (m d : Nat) : (lIter p hands order m).2.out <+: (lIter p hands order (m + d)).2.out := by
  induction d with
  | zero => exact List.prefix_refl _
  | succ d ih =>
    refine ih.trans ?_
    show _ <+: (lNext p hands order (lIter p hands order (m + d))).2.out
    unfold lNext
    split
    · exact List.prefix_refl _
    · exact List.prefix_append _ _
theorem lEnd_unique {p : PlanL} {hands : Nat} {order : List Int} {a b : List St} (h : LEnd p hands order a) (k : LEnd p hands order b) : a = b := by
  obtain ⟨T, s, h1, rfl, h3⟩ := h
  obtain ⟨T', s', k1, rfl, k3⟩ := k
  obtain ⟨m, hm⟩ := h1.iter
  obtain ⟨m', hm'⟩ := k1.iter
  rcases Nat.le_total m m' with hl | hl
  · have := lIter_out p hands order m (m' - m)
    rw [show m + (m' - m) = m' by omega, hm, hm'] at this
    exact this.eq_of_length (by show s.out.length = s'.out.length; omega)
  · have := lIter_out p hands order m' (m - m')
    rw [show m' + (m - m') = m by omega, hm, hm'] at this
    exact (this.eq_of_length (by show s'.out.length = s.out.length; omega)).symm

end Go.Proofs.YtocpmncedlenbaaGreatDoor
