/-
  Weaves in plain words: the plan that a weave is, its work and its span. No program is named here.
-/
import Derived.Test.YtocpmncedlenbaaDoorP14WeaveTells
import Derived.Test.YtocpmncedlenbaaDoorP15WeaveTells
import Derived.Test.YtocpmncedlenbaaDoorP16WeaveTells
namespace Go.Proofs.YtocpmncedlenbaaDoor

/-- How many tasks. -/
def cntW : Wv → Nat
  | .num _ => 1
  | .seq a b => cntW a + cntW b
  | .par a b => cntW a + cntW b
def workW : Wv → Int
  | .num n => n
  | .seq a b => workW a + workW b
  | .par a b => workW a + workW b
def spanW : Wv → Int
  | .num n => n
  | .seq a b => spanW a + spanW b
  | .par a b => max (spanW a) (spanW b)
def firstW : Wv → Nat → List Nat
  | .num _, n => [n]
  | .seq a _, n => firstW a n
  | .par a b, n => firstW a n ++ firstW b (n + cntW a)
def lastW : Wv → Nat → List Nat
  | .num _, n => [n]
  | .seq a b, n => lastW b (n + cntW a)
  | .par a b, n => lastW a n ++ lastW b (n + cntW a)

/-- A task needs more. -/
def addN (x : List Int) (p : PlanL) (i : Nat) : PlanL := p.set i (wkOf p i, ndOf p i ++ x)
def links (p : PlanL) (l : List Nat) (x : List Int) : PlanL := l.foldl (addN x) p
def build : Wv → PlanL → PlanL
  | .num n, p => p ++ [(n, [])]
  | .seq a b, p => links (build b (build a p)) (firstW b (p.length + cntW a)) (natL (lastW a p.length))
  | .par a b, p => build b (build a p)

/-- The numbers are such. -/
def NumsW (P : Int → Prop) : Wv → Prop
  | .num n => P n
  | .seq a b => NumsW P a ∧ NumsW P b
  | .par a b => NumsW P a ∧ NumsW P b

theorem cntW_pos (t : Wv) : 1 ≤ cntW t := by
  induction t with
  | num n => exact Nat.le_refl _
  | seq a b ia ib => show 1 ≤ cntW a + cntW b; omega
  | par a b ia ib => show 1 ≤ cntW a + cntW b; omega

theorem addN_len (x : List Int) (p : PlanL) (i : Nat) : (addN x p i).length = p.length := by simp [addN]
theorem links_len (p : PlanL) (l : List Nat) (x : List Int) : (links p l x).length = p.length := by
  unfold links
  induction l generalizing p with
  | nil => rfl
  | cons a l ih => rw [List.foldl_cons, ih, addN_len]
theorem build_len (t : Wv) (p : PlanL) : (build t p).length = p.length + cntW t := by
  induction t generalizing p with
  | num n => simp [build, cntW]
  | seq a b ia ib => show (links _ _ _).length = _; rw [links_len, ib, ia]; show _ = p.length + (cntW a + cntW b); omega
  | par a b ia ib => show (build b (build a p)).length = _; rw [ib, ia]; show _ = p.length + (cntW a + cntW b); omega

theorem addN_wk (x : List Int) (p : PlanL) (i j : Nat) : wkOf (addN x p i) j = wkOf p j := by
  unfold addN wkOf
  by_cases e : i = j
  · subst e
    by_cases hi : i < p.length
    · rw [List.getElem?_set_self hi]; rfl
    · rw [List.getElem?_eq_none (by simp; omega), List.getElem?_eq_none (by omega)]
  · rw [List.getElem?_set_ne e]
theorem addN_nd (x : List Int) (p : PlanL) (i j : Nat) (hi : i < p.length) : ndOf (addN x p i) j = if j = i then ndOf p j ++ x else ndOf p j := by
  unfold addN
  by_cases e : i = j
  · subst e
    rw [if_pos rfl]
    unfold ndOf
    rw [List.getElem?_set_self hi]; rfl
  · rw [if_neg (fun h => e h.symm)]
    unfold ndOf
    rw [List.getElem?_set_ne e]
theorem links_wk (p : PlanL) (l : List Nat) (x : List Int) (j : Nat) : wkOf (links p l x) j = wkOf p j := by
  unfold links
  induction l generalizing p with
  | nil => rfl
  | cons a l ih => rw [List.foldl_cons, ih, addN_wk]
theorem links_nd (p : PlanL) (l : List Nat) (x : List Int) (j : Nat) (hl : ∀ i ∈ l, i < p.length) (hn : l.Nodup) : ndOf (links p l x) j = if j ∈ l then ndOf p j ++ x else ndOf p j := by
  unfold links
  induction l generalizing p with
  | nil => simp
  | cons a l ih =>
    have ha := List.nodup_cons.1 hn
    rw [List.foldl_cons, ih (addN x p a) (fun i hi => by rw [addN_len]; exact hl i (by simp [hi])) ha.2, addN_nd _ _ _ _ (hl a (by simp))]
    by_cases e : j = a
    · subst e
      simp [ha.1]
    · simp [e]

/-- What holds of a weave's tasks in a plan, from lo on. -/
structure SegOk (p : PlanL) (lo : Nat) (t : Wv) : Prop where
  len : lo + cntW t ≤ p.length
  need : ∀ i, lo ≤ i → i < lo + cntW t → ∀ k ∈ ndOf p i, (lo : Int) ≤ k ∧ k < i
  rise : ∀ i, lo ≤ i → i < lo + cntW t → (ndOf p i).Pairwise (· < ·)
  work : ∀ i, lo ≤ i → i < lo + cntW t → 1 ≤ wkOf p i
  first : ∀ i, i ∈ firstW t lo ↔ lo ≤ i ∧ i < lo + cntW t ∧ ndOf p i = []
  firstp : (firstW t lo).Pairwise (· < ·)
  last : ∀ i ∈ lastW t lo, lo ≤ i ∧ i < lo + cntW t
  lastp : (lastW t lo).Pairwise (· < ·)
  fin : ∃ g : Nat → Int, (∀ i, lo ≤ i → i < lo + cntW t → g i = wkOf p i + maxL ((ndOf p i).map (fun k => g k.toNat)) ∧ g i ≤ spanW t) ∧ ∃ i ∈ lastW t lo, g i = spanW t
  sum : sumI (wkOf p) (lo + cntW t) = sumI (wkOf p) lo + workW t

theorem sumI_ext {f g : Nat → Int} (a b : Nat) (h : ∀ i, a ≤ i → i < a + b → f i = g i) : sumI f (a + b) - sumI f a = sumI g (a + b) - sumI g a := by
  induction b with
  | zero => show sumI f a - sumI f a = sumI g a - sumI g a; omega
  | succ b ih =>
    have h1 := ih (fun i h1 h2 => h i h1 (by omega))
    have h2 := h (a + b) (by omega) (by omega)
    show sumI f (a + b) + f (a + b) - _ = sumI g (a + b) + g (a + b) - _
    omega

theorem SegOk.ext {p q : PlanL} {lo : Nat} {t : Wv} (h : SegOk p lo t) (hl : lo + cntW t ≤ q.length) (hq : ∀ i, lo ≤ i → i < lo + cntW t → wkOf q i = wkOf p i ∧ ndOf q i = ndOf p i) : SegOk q lo t := by
  refine ⟨hl, fun i h1 h2 => ?_, fun i h1 h2 => ?_, fun i h1 h2 => ?_, fun i => ?_, h.firstp, h.last, h.lastp, ?_, ?_⟩
  · rw [(hq i h1 h2).2]; exact h.need i h1 h2
  · rw [(hq i h1 h2).2]; exact h.rise i h1 h2
  · rw [(hq i h1 h2).1]; exact h.work i h1 h2
  · rw [h.first i]
    constructor
    · rintro ⟨a, b, c⟩; exact ⟨a, b, by rw [(hq i a b).2]; exact c⟩
    · rintro ⟨a, b, c⟩; exact ⟨a, b, by rw [(hq i a b).2] at c; exact c⟩
  · obtain ⟨g, hg, hg2⟩ := h.fin
    exact ⟨g, fun i h1 h2 => by rw [(hq i h1 h2).1, (hq i h1 h2).2]; exact hg i h1 h2, hg2⟩
  · have := sumI_ext lo (cntW t) (f := wkOf q) (g := wkOf p) (fun i h1 h2 => (hq i h1 h2).1)
    have := h.sum
    omega

theorem wkOf_app (p q : PlanL) (i : Nat) (h : i < p.length) : wkOf (p ++ q) i = wkOf p i := by
  unfold wkOf; rw [List.getElem?_append_left h]
theorem ndOf_app (p q : PlanL) (i : Nat) (h : i < p.length) : ndOf (p ++ q) i = ndOf p i := by
  unfold ndOf; rw [List.getElem?_append_left h]

theorem maxL_add (l : List Int) (f : Int → Int) (c : Int) (h0 : l ≠ []) (hf : ∀ x ∈ l, 0 ≤ f x) (hc : 0 ≤ c) : maxL (l.map (fun x => f x + c)) = maxL (l.map f) + c := by
  induction l with
  | nil => exact absurd rfl h0
  | cons a l ih =>
    rw [List.map_cons, List.map_cons, maxL_cons, maxL_cons]
    have ha := hf a (by simp)
    by_cases e : l = []
    · subst e
      rw [List.map_nil, List.map_nil, maxL_nil]
      omega
    · rw [ih e (fun x hx => hf x (by simp [hx]))]
      have := maxL_ge (l.map f)
      omega

theorem build_seg (t : Wv) : ∀ (p : PlanL), NumsW (fun n => 1 ≤ n) t → SegOk (build t p) p.length t ∧ ∀ i, i < p.length → wkOf (build t p) i = wkOf p i ∧ ndOf (build t p) i = ndOf p i := by
  induction t with
  | num n =>
    intro p hn
    have hn : 1 ≤ n := hn
    have e1 : wkOf (p ++ [(n, [])]) p.length = n := by unfold wkOf; rw [List.getElem?_append_right (Nat.le_refl _)]; simp
    have e2 : ndOf (p ++ [(n, [])]) p.length = [] := by unfold ndOf; rw [List.getElem?_append_right (Nat.le_refl _)]; simp
    have key : ∀ i, p.length ≤ i → i < p.length + cntW (.num n) → i = p.length := fun i h1 h2 => by
      have h2 : i < p.length + 1 := h2
      omega
    refine ⟨⟨by show p.length + 1 ≤ (p ++ [(n, [])]).length; simp, ?_, ?_, ?_, ?_, ?_, ?_, ?_, ?_, ?_⟩, fun i hi => ⟨wkOf_app _ _ _ hi, ndOf_app _ _ _ hi⟩⟩
    · intro i h1 h2
      rw [key i h1 h2]
      show ∀ k ∈ ndOf (p ++ [(n, [])]) p.length, _
      rw [e2]; simp
    · intro i h1 h2
      rw [key i h1 h2]
      show (ndOf (p ++ [(n, [])]) p.length).Pairwise _
      rw [e2]; exact List.Pairwise.nil
    · intro i h1 h2
      rw [key i h1 h2]
      show 1 ≤ wkOf (p ++ [(n, [])]) p.length
      rw [e1]; exact hn
    · intro i
      show i ∈ [p.length] ↔ _
      constructor
      · intro hi
        obtain rfl : i = p.length := by simpa using hi
        exact ⟨Nat.le_refl _, by show p.length < p.length + 1; omega, e2⟩
      · rintro ⟨h1, h2, _⟩
        rw [key i h1 h2]; simp
    · show [p.length].Pairwise _; simp
    · intro i hi
      obtain rfl : i = p.length := by simpa [lastW] using hi
      exact ⟨Nat.le_refl _, by show p.length < p.length + 1; omega⟩
    · show [p.length].Pairwise _; simp
    · refine ⟨fun _ => n, fun i h1 h2 => ?_, p.length, by simp [lastW], rfl⟩
      rw [key i h1 h2]
      show n = wkOf (p ++ [(n, [])]) p.length + maxL ((ndOf (p ++ [(n, [])]) p.length).map _) ∧ n ≤ n
      rw [e1, e2, List.map_nil, maxL_nil]
      exact ⟨by omega, Int.le_refl _⟩
    · show sumI (wkOf (p ++ [(n, [])])) p.length + wkOf (p ++ [(n, [])]) p.length = _ + n
      rw [e1]
      rfl
  | par a b ia ib =>
    intro p hn
    obtain ⟨ha, ka⟩ := ia p hn.1
    obtain ⟨hb, kb⟩ := ib (build a p) hn.2
    rw [build_len] at hb kb
    have hab : SegOk (build b (build a p)) p.length a := ha.ext (by rw [build_len, build_len]; omega) (fun i h1 h2 => kb i h2)
    obtain ⟨q, hq⟩ : ∃ q, build b (build a p) = q := ⟨_, rfl⟩
    have hB : build (.par a b) p = q := hq
    rw [hB]
    rw [hq] at hab hb kb
    have hlen : q.length = p.length + cntW a + cntW b := by rw [← hq, build_len, build_len]
    have hc : cntW (.par a b) = cntW a + cntW b := rfl
    obtain ⟨lo, hlo⟩ : ∃ lo, p.length = lo := ⟨_, rfl⟩
    rw [hlo] at hab hb kb ka hlen ⊢
    have split : ∀ i, lo ≤ i → i < lo + cntW (.par a b) → (lo ≤ i ∧ i < lo + cntW a) ∨ (lo + cntW a ≤ i ∧ i < lo + cntW a + cntW b) := fun i h1 h2 => by rw [hc] at h2; omega
    refine ⟨⟨by rw [hlen, hc]; omega, ?_, ?_, ?_, ?_, ?_, ?_, ?_, ?_, ?_⟩, fun i hi => ?_⟩
    · intro i h1 h2 k hk
      rcases split i h1 h2 with ⟨x, y⟩ | ⟨x, y⟩
      · exact hab.need i x y k hk
      · have := hb.need i x y k hk; omega
    · intro i h1 h2
      rcases split i h1 h2 with ⟨x, y⟩ | ⟨x, y⟩
      · exact hab.rise i x y
      · exact hb.rise i x y
    · intro i h1 h2
      rcases split i h1 h2 with ⟨x, y⟩ | ⟨x, y⟩
      · exact hab.work i x y
      · exact hb.work i x y
    · intro i
      show i ∈ firstW a lo ++ firstW b (lo + cntW a) ↔ _
      rw [List.mem_append, hab.first, hb.first, hc]
      constructor
      · rintro (⟨x, y, z⟩ | ⟨x, y, z⟩) <;> exact ⟨by omega, by omega, z⟩
      · rintro ⟨x, y, z⟩
        rcases Nat.lt_or_ge i (lo + cntW a) with h | h
        · exact .inl ⟨x, h, z⟩
        · exact .inr ⟨h, by omega, z⟩
    · show (firstW a lo ++ firstW b (lo + cntW a)).Pairwise _
      rw [List.pairwise_append]
      exact ⟨hab.firstp, hb.firstp, fun x hx y hy => by have := (hab.first x).1 hx; have := (hb.first y).1 hy; omega⟩
    · intro i hi
      have hi : i ∈ lastW a lo ++ lastW b (lo + cntW a) := hi
      rw [hc]
      rcases List.mem_append.1 hi with h | h
      · have := hab.last i h; omega
      · have := hb.last i h; omega
    · show (lastW a lo ++ lastW b (lo + cntW a)).Pairwise _
      rw [List.pairwise_append]
      exact ⟨hab.lastp, hb.lastp, fun x hx y hy => by have := hab.last x hx; have := hb.last y hy; omega⟩
    · obtain ⟨g1, hg1, i1, hi1, e1⟩ := hab.fin
      obtain ⟨g2, hg2, i2, hi2, e2⟩ := hb.fin
      have hs : spanW (.par a b) = max (spanW a) (spanW b) := rfl
      refine ⟨fun i => if i < lo + cntW a then g1 i else g2 i, fun i h1 h2 => ?_, ?_⟩
      · rw [hs]
        rcases split i h1 h2 with ⟨x, y⟩ | ⟨x, y⟩
        · have := hg1 i x y
          have hm : (ndOf q i).map (fun k => if k.toNat < lo + cntW a then g1 k.toNat else g2 k.toNat) = (ndOf q i).map (fun k => g1 k.toNat) := List.map_congr_left fun k hk => by
            have := hab.need i x y k hk
            rw [if_pos (by omega)]
          simp only [if_pos y]
          rw [hm]
          exact ⟨this.1, by omega⟩
        · have := hg2 i x y
          have hm : (ndOf q i).map (fun k => if k.toNat < lo + cntW a then g1 k.toNat else g2 k.toNat) = (ndOf q i).map (fun k => g2 k.toNat) := List.map_congr_left fun k hk => by
            have := hb.need i x y k hk
            rw [if_neg (by omega)]
          simp only [if_neg (show ¬ i < lo + cntW a by omega)]
          rw [hm]
          exact ⟨this.1, by omega⟩
      · rw [hs]
        by_cases hm : spanW b ≤ spanW a
        · refine ⟨i1, by show i1 ∈ lastW a lo ++ lastW b (lo + cntW a); simp [hi1], ?_⟩
          have := (hab.last i1 hi1).2
          simp only [if_pos this]
          omega
        · refine ⟨i2, by show i2 ∈ lastW a lo ++ lastW b (lo + cntW a); simp [hi2], ?_⟩
          have := (hb.last i2 hi2).1
          simp only [if_neg (show ¬ i2 < lo + cntW a by omega)]
          omega
    · have s1 := hab.sum
      have s2 := hb.sum
      show sumI (wkOf q) (lo + (cntW a + cntW b)) = _ + (workW a + workW b)
      rw [← Nat.add_assoc]
      omega
    · rw [(kb i (by omega)).1, (kb i (by omega)).2]
      exact ka i (by omega)
  | seq a b ia ib =>
    intro p hn
    obtain ⟨ha, ka⟩ := ia p hn.1
    obtain ⟨hb, kb⟩ := ib (build a p) hn.2
    rw [build_len] at hb kb
    have hab : SegOk (build b (build a p)) p.length a := ha.ext (by rw [build_len, build_len]; omega) (fun i h1 h2 => kb i h2)
    obtain ⟨q, hq⟩ : ∃ q, build b (build a p) = q := ⟨_, rfl⟩
    obtain ⟨r, hr⟩ : ∃ r, build (.seq a b) p = r := ⟨_, rfl⟩
    have hB : links q (firstW b (p.length + cntW a)) (natL (lastW a p.length)) = r := by rw [← hr, ← hq]; rfl
    rw [hr]
    rw [hq] at hab hb kb
    have hlen : q.length = p.length + cntW a + cntW b := by rw [← hq, build_len, build_len]
    have hlr : r.length = q.length := by rw [← hB, links_len]
    have hc : cntW (.seq a b) = cntW a + cntW b := rfl
    obtain ⟨lo, hlo⟩ : ∃ lo, p.length = lo := ⟨_, rfl⟩
    rw [hlo] at hab hb kb ka hlen hB ⊢
    have hwk : ∀ j, wkOf r j = wkOf q j := fun j => by rw [← hB, links_wk]
    have hnd : ∀ j, ndOf r j = if j ∈ firstW b (lo + cntW a) then natL (lastW a lo) else ndOf q j := fun j => by
      rw [← hB, links_nd _ _ _ _ (fun i hi => by have := (hb.first i).1 hi; omega) (hb.firstp.imp (fun h => Nat.ne_of_lt h))]
      split
      · rename_i h
        rw [((hb.first j).1 h).2.2, List.nil_append]
      · rfl
    have hnl : ∀ j, j < lo + cntW a → ndOf r j = ndOf q j := fun j hj => by
      rw [hnd, if_neg (fun h => by have := (hb.first j).1 h; omega)]
    have haa : SegOk r lo a := hab.ext (by omega) (fun i h1 h2 => ⟨hwk i, hnl i h2⟩)
    have split : ∀ i, lo ≤ i → i < lo + cntW (.seq a b) → (lo ≤ i ∧ i < lo + cntW a) ∨ (lo + cntW a ≤ i ∧ i < lo + cntW a + cntW b) := fun i h1 h2 => by rw [hc] at h2; omega
    have hX : ∀ k ∈ natL (lastW a lo), ∃ j : Nat, k = (j : Int) ∧ j ∈ lastW a lo := fun k hk => by
      obtain ⟨j, hj, e⟩ := List.mem_map.1 hk
      exact ⟨j, e.symm, hj⟩
    refine ⟨⟨by rw [hlr, hlen, hc]; omega, ?_, ?_, ?_, ?_, ?_, ?_, ?_, ?_, ?_⟩, fun i hi => ?_⟩
    · intro i h1 h2 k hk
      rcases split i h1 h2 with ⟨x, y⟩ | ⟨x, y⟩
      · exact haa.need i x y k hk
      · rw [hnd] at hk
        split at hk
        · obtain ⟨j, rfl, hj⟩ := hX k hk
          have := hab.last j hj
          omega
        · have := hb.need i x y k hk; omega
    · intro i h1 h2
      rcases split i h1 h2 with ⟨x, y⟩ | ⟨x, y⟩
      · exact haa.rise i x y
      · rw [hnd]
        split
        · exact List.pairwise_map.2 (hab.lastp.imp (fun h => by omega))
        · exact hb.rise i x y
    · intro i h1 h2
      rw [hwk]
      rcases split i h1 h2 with ⟨x, y⟩ | ⟨x, y⟩
      · exact hab.work i x y
      · exact hb.work i x y
    · intro i
      show i ∈ firstW a lo ↔ _
      rw [haa.first, hc]
      constructor
      · rintro ⟨x, y, z⟩; exact ⟨x, by omega, z⟩
      · rintro ⟨x, y, z⟩
        rcases Nat.lt_or_ge i (lo + cntW a) with h | h
        · exact ⟨x, h, z⟩
        · exfalso
          rw [hnd] at z
          split at z
          · obtain ⟨g1, _, i1, hi1, _⟩ := hab.fin
            have : ((i1 : Nat) : Int) ∈ natL (lastW a lo) := List.mem_map.2 ⟨i1, hi1, rfl⟩
            rw [z] at this
            cases this
          · rename_i hn
            exact hn ((hb.first i).2 ⟨h, by omega, z⟩)
    · exact hab.firstp
    · intro i hi
      have hi : i ∈ lastW b (lo + cntW a) := hi
      have := hb.last i hi
      rw [hc]; omega
    · exact hb.lastp
    · obtain ⟨g1, hg1, i1, hi1, e1⟩ := hab.fin
      obtain ⟨g2, hg2, i2, hi2, e2⟩ := hb.fin
      have hs : spanW (.seq a b) = spanW a + spanW b := rfl
      have hpos1 : ∀ i, lo ≤ i → i < lo + cntW a → 1 ≤ g1 i := fun i h1 h2 => by
        have := hab.work i h1 h2
        have := (hg1 i h1 h2).1
        have := maxL_ge ((ndOf q i).map (fun k => g1 k.toNat))
        omega
      have hpos2 : ∀ i, lo + cntW a ≤ i → i < lo + cntW a + cntW b → 1 ≤ g2 i := fun i h1 h2 => by
        have := hb.work i h1 h2
        have := (hg2 i h1 h2).1
        have := maxL_ge ((ndOf q i).map (fun k => g2 k.toNat))
        omega
      have hsa : 1 ≤ spanW a := by rw [← e1]; exact hpos1 i1 (hab.last i1 hi1).1 (hab.last i1 hi1).2
      have hsb : 1 ≤ spanW b := by rw [← e2]; exact hpos2 i2 (hb.last i2 hi2).1 (hb.last i2 hi2).2
      refine ⟨fun i => if i < lo + cntW a then g1 i else g2 i + spanW a, fun i h1 h2 => ?_, ?_⟩
      · rw [hs]
        rcases split i h1 h2 with ⟨x, y⟩ | ⟨x, y⟩
        · have := hg1 i x y
          have hm : (ndOf r i).map (fun k => if k.toNat < lo + cntW a then g1 k.toNat else g2 k.toNat + spanW a) = (ndOf q i).map (fun k => g1 k.toNat) := by
            rw [hnl i y]
            exact List.map_congr_left fun k hk => by
              have := hab.need i x y k hk
              rw [if_pos (by omega)]
          simp only [if_pos y]
          rw [hm, hwk]
          exact ⟨this.1, by omega⟩
        · have h3 := hg2 i x y
          have hi : ¬ i < lo + cntW a := by omega
          simp only [if_neg hi]
          rw [hwk]
          refine ⟨?_, by omega⟩
          by_cases hf : i ∈ firstW b (lo + cntW a)
          · have hz := ((hb.first i).1 hf).2.2
            have hm : maxL ((ndOf r i).map (fun k => if k.toNat < lo + cntW a then g1 k.toNat else g2 k.toNat + spanW a)) = spanW a := by
              rw [hnd, if_pos hf]
              refine Int.le_antisymm (maxL_le (by omega) (fun x hx => ?_)) (maxL_mem ?_)
              · obtain ⟨k, hk, rfl⟩ := List.mem_map.1 hx
                obtain ⟨j, rfl, hj⟩ := hX k hk
                have hl := hab.last j hj
                show (if (j : Int).toNat < _ then _ else _) ≤ _
                rw [Int.toNat_natCast, if_pos hl.2]
                exact (hg1 j hl.1 hl.2).2
              · refine List.mem_map.2 ⟨(i1 : Int), List.mem_map.2 ⟨i1, hi1, rfl⟩, ?_⟩
                have hl := hab.last i1 hi1
                show (if (i1 : Int).toNat < _ then _ else _) = _
                rw [Int.toNat_natCast, if_pos hl.2, e1]
            rw [hm, h3.1, hz, List.map_nil, maxL_nil]
            omega
          · have hne : ndOf q i ≠ [] := fun e => hf ((hb.first i).2 ⟨x, y, e⟩)
            have hm : (ndOf r i).map (fun k => if k.toNat < lo + cntW a then g1 k.toNat else g2 k.toNat + spanW a) = (ndOf q i).map (fun k => g2 k.toNat + spanW a) := by
              rw [hnd, if_neg hf]
              exact List.map_congr_left fun k hk => by
                have := hb.need i x y k hk
                rw [if_neg (by omega)]
            rw [hm, maxL_add (ndOf q i) (fun k => g2 k.toNat) (spanW a) hne (fun k hk => by
              have := hb.need i x y k hk
              have := hpos2 k.toNat (by omega) (by omega)
              show 0 ≤ g2 k.toNat
              omega) (by omega), h3.1]
            omega
      · refine ⟨i2, hi2, ?_⟩
        have := (hb.last i2 hi2).1
        simp only [if_neg (show ¬ i2 < lo + cntW a by omega)]
        rw [hs]; omega
    · have s1 := haa.sum
      have s2 := hb.sum
      have s3 := sumI_ext (lo + cntW a) (cntW b) (f := wkOf r) (g := wkOf q) (fun i _ _ => hwk i)
      show sumI (wkOf r) (lo + (cntW a + cntW b)) = _ + (workW a + workW b)
      rw [← Nat.add_assoc]
      omega
    · rw [hwk, hnl i (by omega), (kb i (by omega)).1, (kb i (by omega)).2]
      exact ka i (by omega)

theorem rising_of : ∀ (l : List Int), l.Pairwise (· < ·) → rising l = true := by
  intro l h
  rw [rising_nth]
  intro k hk
  have := List.pairwise_iff_getElem.1 h k (k + 1) (by omega) hk (by omega)
  unfold nth
  rw [List.getElem?_eq_getElem hk, List.getElem?_eq_getElem (show k < l.length by omega)]
  exact this

theorem reach_lt {p : PlanL} (h : ∀ i, i < p.length → ∀ k ∈ ndOf p i, (0 : Int) ≤ k ∧ k < i) {i k : Nat} (hr : Reach p i k) : i < p.length → k < i := by
  intro hi
  induction hr with
  | one hm => have := h i hi _ hm; omega
  | more hr hm ih => have := h _ (by omega) _ hm; omega

/-- A weave's plan: it is right; its work and its span. -/
theorem weave_plan (t : Wv) (hn : NumsW (fun n => 1 ≤ n) t) (h30 : cntW t ≤ 30) (h20 : ∀ i, i < cntW t → wkOf (build t []) i ≤ 20) :
    PlanOk (build t []) ∧ spanF (build t []) = spanW t ∧ workF (build t []) = workW t := by
  obtain ⟨hs, _⟩ := build_seg t [] hn
  obtain ⟨p, hp⟩ : ∃ p, build t [] = p := ⟨_, rfl⟩
  have hl : p.length = cntW t := by rw [← hp, build_len]; simp
  rw [hp] at hs h20 ⊢
  have hs : SegOk p 0 t := hs
  have hneed : ∀ i, i < p.length → ∀ k ∈ ndOf p i, (0 : Int) ≤ k ∧ k < i := fun i hi k hk => by
    have := hs.need i (Nat.zero_le _) (by omega) k hk
    omega
  have hok : PlanOk p := by
    refine ⟨by omega, fun i hi => ?_, fun i hi hr => ?_⟩
    · have h1 := hs.work i (Nat.zero_le _) (by omega)
      have h2 := h20 i (by omega)
      have h3 := rising_of _ (hs.rise i (Nat.zero_le _) (by omega))
      have e : p[i]?.getD (0, []) = (wkOf p i, ndOf p i) := rfl
      rw [e]
      unfold taskFault
      rw [if_neg ?_, if_pos h3]
      rintro (h | h | h)
      · have : wkOf p i < 1 := h
        omega
      · have : 20 < wkOf p i := h
        omega
      · obtain ⟨k, hk, ho⟩ := List.any_eq_true.1 h
        have := hneed i hi k hk
        simp [outOf] at ho
        omega
    · have := reach_lt hneed hr hi
      omega
  refine ⟨hok, ?_, ?_⟩
  · obtain ⟨g, hg, j, hj, ej⟩ := hs.fin
    have hrank : ∀ i, i < p.length → g i = wkOf p i + rankF p i := by
      intro i
      induction i using Nat.strongRecOn with
      | ind i ih =>
        intro hi
        rw [(hg i (Nat.zero_le _) (by omega)).1, rankF_eq hok hi]
        congr 2
        refine List.map_congr_left fun k hk => ?_
        have := hneed i hi k hk
        rw [ih k.toNat (by omega) (by omega)]
        omega
    refine Int.le_antisymm ?_ ?_
    · have hpos : 0 ≤ spanW t := by
        have hjl := hs.last j hj
        have := hs.work j (Nat.zero_le _) (by omega)
        have := rankF_bd hok j
        have := hrank j (by omega)
        omega
      refine maxL_le hpos (fun x hx => ?_)
      obtain ⟨i, hi, rfl⟩ := List.mem_map.1 hx
      have hi : i < p.length := by simpa using hi
      have key : ∀ m i, i < p.length → p.length - i ≤ m → tailF p i + rankF p i ≤ spanW t := by
        intro m
        induction m with
        | zero => intro i hi hm; omega
        | succ m ih =>
          intro i hi hm
          rw [tailF_eq hok hi]
          rcases maxL_in ((afterOf p i).map (tailF p)) with e | e
          · rw [e]
            have := hrank i hi
            have := (hg i (Nat.zero_le _) (by omega)).2
            omega
          · obtain ⟨k, hk, ek⟩ := List.mem_map.1 e
            obtain ⟨hk1, hk2⟩ := mem_after.1 hk
            have hlt := hneed k hk1 _ hk2
            have h1 := ih k hk1 (by omega)
            have h2 := rankF_need hok hk1 hk2
            rw [← ek]
            omega
      have := key _ i hi (Nat.le_refl _)
      have := rankF_bd hok i
      omega
    · have hjl := hs.last j hj
      have h1 := rank_tail hok (i := j) (by omega)
      have h2 := (tailF_le hok (i := j) (by omega)).1
      have h3 := hrank j (by omega)
      omega
  · have := hs.sum
    rw [Nat.zero_add] at this
    unfold workF
    rw [hl, this]
    show 0 + _ = _
    omega

theorem digV_pos : ∀ (l : List UInt8) (n : Nat), 1 ≤ n → 1 ≤ l.foldl (fun n c => n * 10 + (c.toNat - 48)) n := by
  intro l
  induction l with
  | nil => intro n h; exact h
  | cons a l ih =>
    intro n h
    rw [List.foldl_cons]
    exact ih _ (by have := Nat.le_mul_of_pos_right n (show 0 < 10 by omega); omega)

theorem pNum_nums {s r : List UInt8} {a : Wv} (h : pNum s = some (a, r)) : NumsW (fun n => 1 ≤ n ∧ n ≤ 21) a := by
  unfold pNum at h
  split at h
  · cases h
  · rename_i hn
    injection h with h
    injection h with h1 _
    subst h1
    show 1 ≤ numV _ ∧ numV _ ≤ 21
    have hd : 1 ≤ digV (s.takeWhile isDig) := by
      cases s with
      | nil => simp at hn
      | cons c l =>
        have h1 : isDig c = true := by
          by_cases e : isDig c = true
          · exact e
          · exact absurd (by simp [e]) hn
        have h2 : c ≠ 48 := fun e => hn (by simp [e])
        have h3 : 1 ≤ c.toNat - 48 := by
          simp only [isDig, Bool.and_eq_true, decide_eq_true_eq] at h1
          have h4 : c.toNat ≠ 48 := fun e => h2 (UInt8.toNat_inj.1 (by rw [e]; rfl))
          omega
        rw [List.takeWhile_cons, if_pos h1]
        unfold digV
        rw [List.foldl_cons]
        exact digV_pos _ _ (by omega)
    unfold numV
    split <;> omega

theorem p_nums : ∀ f : Nat, (∀ s x, pOne f s = some x → NumsW (fun n => 1 ≤ n ∧ n ≤ 21) x.1) ∧ (∀ s x, pBehind f s = some x → NumsW (fun n => 1 ≤ n ∧ n ≤ 21) x.1) ∧
    (∀ b s x, NumsW (fun n => 1 ≤ n ∧ n ≤ 21) b → pSemi f b s = some x → NumsW (fun n => 1 ≤ n ∧ n ≤ 21) x.1) ∧ (∀ s x, pBeside f s = some x → NumsW (fun n => 1 ≤ n ∧ n ≤ 21) x.1) ∧
    (∀ b s x, NumsW (fun n => 1 ≤ n ∧ n ≤ 21) b → pBar f b s = some x → NumsW (fun n => 1 ≤ n ∧ n ≤ 21) x.1) := by
  intro f
  induction f with
  | zero => exact ⟨by simp [pOne], by simp [pBehind], by simp [pSemi], by simp [pBeside], by simp [pBar]⟩
  | succ f ih =>
    obtain ⟨i1, i2, i3, i4, i5⟩ := ih
    refine ⟨?_, ?_, ?_, ?_, ?_⟩
    · intro s x h
      unfold pOne at h
      split at h
      · obtain ⟨y, h1, h2⟩ := bind_some h
        split at h2
        · injection h2 with h2
          have h3 := i4 _ _ h1
          rw [← h2]; exact h3
        · cases h2
      · exact pNum_nums (r := x.2) h
    · intro s x h
      unfold pBehind at h
      obtain ⟨y, h1, h2⟩ := bind_some h
      exact i3 _ _ _ (i1 _ _ h1) h2
    · intro b s x hb h
      unfold pSemi at h
      split at h
      · obtain ⟨y, h1, h2⟩ := bind_some h
        exact i3 _ _ _ (show NumsW _ (.seq b y.1) from And.intro hb (i1 _ _ h1)) h2
      · injection h with h
        rw [← h]; exact hb
    · intro s x h
      unfold pBeside at h
      obtain ⟨y, h1, h2⟩ := bind_some h
      exact i5 _ _ _ (i2 _ _ h1) h2
    · intro b s x hb h
      unfold pBar at h
      split at h
      · obtain ⟨y, h1, h2⟩ := bind_some h
        exact i5 _ _ _ (show NumsW _ (.par b y.1) from And.intro hb (i2 _ _ h1)) h2
      · injection h with h
        rw [← h]; exact hb

theorem p_cnt : ∀ f : Nat, (∀ s x, pOne f s = some x → cntW x.1 + x.2.length ≤ s.length) ∧ (∀ s x, pBehind f s = some x → cntW x.1 + x.2.length ≤ s.length) ∧
    (∀ b s x, pSemi f b s = some x → cntW x.1 + x.2.length ≤ cntW b + s.length) ∧ (∀ s x, pBeside f s = some x → cntW x.1 + x.2.length ≤ s.length) ∧ (∀ b s x, pBar f b s = some x → cntW x.1 + x.2.length ≤ cntW b + s.length) := by
  intro f
  induction f with
  | zero => exact ⟨by simp [pOne], by simp [pBehind], by simp [pSemi], by simp [pBeside], by simp [pBar]⟩
  | succ f ih =>
    obtain ⟨i1, i2, i3, i4, i5⟩ := ih
    refine ⟨?_, ?_, ?_, ?_, ?_⟩
    · intro s x h
      unfold pOne at h
      split at h
      · rename_i hc
        obtain ⟨y, h1, h2⟩ := bind_some h
        split at h2
        · rename_i hd
          injection h2 with h2
          have h3 := i4 _ _ h1
          have l2 := isC_len hc
          have l3 := isC_len hd
          rw [← h2]
          show cntW y.1 + y.2.tail.length ≤ _
          omega
        · cases h2
      · have h1 := pNum_len (a := x.1) (r := x.2) h
        unfold pNum at h
        split at h
        · cases h
        · injection h with h
          rw [← h] at h1 ⊢
          show 1 + _ ≤ _
          omega
    · intro s x h
      unfold pBehind at h
      obtain ⟨y, h1, h2⟩ := bind_some h
      have := i1 _ _ h1
      have := i3 _ _ _ h2
      omega
    · intro b s x h
      unfold pSemi at h
      split at h
      · rename_i hc
        obtain ⟨y, h1, h2⟩ := bind_some h
        have h3 := i1 _ _ h1
        have h4 := i3 _ _ _ h2
        have l2 := isC_len hc
        have h5 : cntW (.seq b y.1) = cntW b + cntW y.1 := rfl
        omega
      · injection h with h
        rw [← h]; exact Nat.le_refl _
    · intro s x h
      unfold pBeside at h
      obtain ⟨y, h1, h2⟩ := bind_some h
      have := i2 _ _ h1
      have := i5 _ _ _ h2
      omega
    · intro b s x h
      unfold pBar at h
      split at h
      · rename_i hc
        obtain ⟨y, h1, h2⟩ := bind_some h
        have h3 := i2 _ _ h1
        have h4 := i5 _ _ _ h2
        have l2 := isC_len hc
        have h5 : cntW (.par b y.1) = cntW b + cntW y.1 := rfl
        omega
      · injection h with h
        rw [← h]; exact Nat.le_refl _

theorem nums_bd : ∀ {t : Wv}, NumsW (fun n => 1 ≤ n ∧ n ≤ 21) t → (cntW t : Int) ≤ workW t ∧ workW t ≤ 21 * cntW t ∧ 1 ≤ spanW t ∧ spanW t ≤ workW t
  | .num n, h => by
    have h : 1 ≤ n ∧ n ≤ 21 := h
    show ((1 : Nat) : Int) ≤ n ∧ n ≤ 21 * ((1 : Nat) : Int) ∧ 1 ≤ n ∧ n ≤ n
    omega
  | .seq a b, h => by
    have ha := nums_bd h.1
    have hb := nums_bd h.2
    show ((cntW a + cntW b : Nat) : Int) ≤ workW a + workW b ∧ workW a + workW b ≤ 21 * ((cntW a + cntW b : Nat) : Int) ∧ 1 ≤ spanW a + spanW b ∧ spanW a + spanW b ≤ workW a + workW b
    omega
  | .par a b, h => by
    have ha := nums_bd h.1
    have hb := nums_bd h.2
    show ((cntW a + cntW b : Nat) : Int) ≤ workW a + workW b ∧ workW a + workW b ≤ 21 * ((cntW a + cntW b : Nat) : Int) ∧ 1 ≤ max (spanW a) (spanW b) ∧ max (spanW a) (spanW b) ≤ workW a + workW b
    omega

theorem NumsW.mono {P Q : Int → Prop} (h : ∀ n, P n → Q n) : ∀ {t : Wv}, NumsW P t → NumsW Q t
  | .num _, k => h _ k
  | .seq _ _, k => ⟨k.1.mono h, k.2.mono h⟩
  | .par _ _, k => ⟨k.1.mono h, k.2.mono h⟩

end Go.Proofs.YtocpmncedlenbaaDoor
