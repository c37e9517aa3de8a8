/-
  Contracts of the document's readers, all together.
  Weaves put together: one behind the other, beside each other. No program is named here.
-/
import Derived.Test.YtocpmncedlenbaaDoorP40WeaveTells
import Derived.Test.YtocpmncedlenbaaDoorP42WeaveTells
import Derived.Test.YtocpmncedlenbaaDoorP34WeaveTells
namespace Go.Proofs.YtocpmncedlenbaaDoor
open Go.RowKit Go.Deep

theorem ref_all (base R : Nat) (s : ByteArray) (hs : s.size ≤ 200) : ∀ N k, s.size - k ≤ N →
    (∀ f, 3 * (s.size - k) + 1 ≤ f → ∀ F pv p w, QdAt w base F R s k pv p → Calls Tryd.prog 67 #[.pointer (some ⟨R, 0, none⟩)] w (QdPost 0 base F R s pv p w (qOne f (rest s k)))) ∧
    (∀ f, 3 * (s.size - k) + 2 ≤ f → ∀ F pv p w, QdAt w base F R s k pv p → Calls Tryd.prog 46 #[.pointer (some ⟨R, 0, none⟩)] w (QdPost 1 base F R s pv p w (qBehind f (rest s k)))) ∧
    (∀ f, 3 * (s.size - k) + 3 ≤ f → ∀ F pv p w, QdAt w base F R s k pv p → Calls Tryd.prog 22 #[.pointer (some ⟨R, 0, none⟩)] w (QdPost 2 base F R s pv p w (qBeside f (rest s k)))) := by
  intro N
  induction N with
  | zero =>
    intro k hk
    have h1 : ∀ k, s.size - k ≤ 0 → ∀ f, 3 * (s.size - k) + 1 ≤ f → ∀ F pv p w, QdAt w base F R s k pv p → Calls Tryd.prog 67 #[.pointer (some ⟨R, 0, none⟩)] w (QdPost 0 base F R s pv p w (qOne f (rest s k))) := by
      intro k hk f hf F pv p w h
      obtain ⟨f0, rfl⟩ : ∃ f0, f = f0 + 1 := ⟨f - 1, by omega⟩
      refine ref_one base R s hs f0 k (fun hc => ?_) F pv p w h
      rw [rest_end s k (by omega)] at hc; cases hc
    have h2 : ∀ k, s.size - k ≤ 0 → ∀ f, 3 * (s.size - k) + 2 ≤ f → ∀ F pv p w, QdAt w base F R s k pv p → Calls Tryd.prog 46 #[.pointer (some ⟨R, 0, none⟩)] w (QdPost 1 base F R s pv p w (qBehind f (rest s k))) := by
      intro k hk f hf F pv p w h
      obtain ⟨f0, rfl⟩ : ∃ f0, f = f0 + 1 := ⟨f - 1, by omega⟩
      exact ref_behind base R s hs f0 k (by omega) (fun k' f' hk' hf' => h1 k' (by omega) f' hf') F pv p w h
    refine ⟨h1 k hk, h2 k hk, ?_⟩
    intro f hf F pv p w h
    obtain ⟨f0, rfl⟩ : ∃ f0, f = f0 + 1 := ⟨f - 1, by omega⟩
    exact ref_beside base R s hs f0 k (by omega) (fun k' f' hk' hf' => h2 k' (by omega) f' hf') F pv p w h
  | succ N ih =>
    intro k hk
    have h1 : ∀ k, s.size - k ≤ N + 1 → ∀ f, 3 * (s.size - k) + 1 ≤ f → ∀ F pv p w, QdAt w base F R s k pv p → Calls Tryd.prog 67 #[.pointer (some ⟨R, 0, none⟩)] w (QdPost 0 base F R s pv p w (qOne f (rest s k))) := by
      intro k hk f hf F pv p w h
      obtain ⟨f0, rfl⟩ : ∃ f0, f = f0 + 1 := ⟨f - 1, by omega⟩
      refine ref_one base R s hs f0 k (fun hc => ?_) F pv p w h
      have hks : k < s.size := by
        rcases Nat.lt_or_ge k s.size with h' | h'
        · exact h'
        · rw [rest_end s k h'] at hc; cases hc
      exact (ih (k + 1) (by omega)).2.2 f0 (by omega)
    have h2 : ∀ k, s.size - k ≤ N + 1 → ∀ f, 3 * (s.size - k) + 2 ≤ f → ∀ F pv p w, QdAt w base F R s k pv p → Calls Tryd.prog 46 #[.pointer (some ⟨R, 0, none⟩)] w (QdPost 1 base F R s pv p w (qBehind f (rest s k))) := by
      intro k hk f hf F pv p w h
      obtain ⟨f0, rfl⟩ : ∃ f0, f = f0 + 1 := ⟨f - 1, by omega⟩
      exact ref_behind base R s hs f0 k (by omega) (fun k' f' hk' hf' => h1 k' (by omega) f' hf') F pv p w h
    refine ⟨h1 k hk, h2 k hk, ?_⟩
    intro f hf F pv p w h
    obtain ⟨f0, rfl⟩ : ∃ f0, f = f0 + 1 := ⟨f - 1, by omega⟩
    exact ref_beside base R s hs f0 k (by omega) (fun k' f' hk' hf' => h2 k' (by omega) f' hf') F pv p w h

end Go.Proofs.YtocpmncedlenbaaDoor

namespace Go.Proofs.YtocpmncedlenbaaDoor
open Go.RowKit Go.Deep

theorem pOne_succ (f : Nat) (s : List UInt8) : pOne (f + 1) s = if isC 40 s then (pBeside f s.tail).bind (fun x => if isC 41 x.2 then some (x.1, x.2.tail) else none) else pNum s := by rw [pOne]
theorem pBehind_succ (f : Nat) (s : List UInt8) : pBehind (f + 1) s = (pOne f s).bind (fun x => pSemi f x.1 x.2) := by rw [pBehind]
theorem pBeside_succ (f : Nat) (s : List UInt8) : pBeside (f + 1) s = (pBehind f s).bind (fun x => pBar f x.1 x.2) := by rw [pBeside]

/-- So much fuel is enough. -/
theorem p_enough : ∀ g : Nat, (∀ s x, pOne g s = some x → ∀ f, 3 * s.length + 1 ≤ f → pOne f s = some x) ∧ (∀ s x, pBehind g s = some x → ∀ f, 3 * s.length + 2 ≤ f → pBehind f s = some x) ∧
    (∀ b s x, pSemi g b s = some x → ∀ f, 3 * s.length + 1 ≤ f → pSemi f b s = some x) ∧ (∀ s x, pBeside g s = some x → ∀ f, 3 * s.length + 3 ≤ f → pBeside f s = some x) ∧ (∀ b s x, pBar g b s = some x → ∀ f, 3 * s.length + 1 ≤ f → pBar f b s = some x) := by
  intro g
  induction g with
  | zero => exact ⟨by simp [pOne], by simp [pBehind], by simp [pSemi], by simp [pBeside], by simp [pBar]⟩
  | succ g ih =>
    obtain ⟨i1, i2, i3, i4, i5⟩ := ih
    refine ⟨?_, ?_, ?_, ?_, ?_⟩
    · intro s x h f hf
      obtain ⟨f, rfl⟩ : ∃ f', f = f' + 1 := ⟨f - 1, by omega⟩
      rw [pOne_succ] at h ⊢
      by_cases hc : isC 40 s = true
      · rw [if_pos hc] at h ⊢
        obtain ⟨y, h1, h2⟩ := bind_some h
        have := isC_len hc
        rw [i4 _ _ h1 f (by omega)]
        exact h2
      · rw [if_neg hc] at h ⊢; exact h
    · intro s x h f hf
      obtain ⟨f, rfl⟩ : ∃ f', f = f' + 1 := ⟨f - 1, by omega⟩
      rw [pBehind_succ] at h ⊢
      obtain ⟨y, h1, h2⟩ := bind_some h
      have := (p_len g).1 _ _ _ h1
      rw [i1 _ _ h1 f (by omega)]
      exact i3 _ _ _ h2 f (by omega)
    · intro b s x h f hf
      obtain ⟨f, rfl⟩ : ∃ f', f = f' + 1 := ⟨f - 1, by omega⟩
      rw [pSemi_succ] at h ⊢
      by_cases hc : isC 59 s = true
      · rw [if_pos hc] at h ⊢
        obtain ⟨y, h1, h2⟩ := bind_some h
        have := isC_len hc
        have := (p_len g).1 _ _ _ h1
        rw [i1 _ _ h1 f (by omega)]
        exact i3 _ _ _ h2 f (by omega)
      · rw [if_neg hc] at h ⊢; exact h
    · intro s x h f hf
      obtain ⟨f, rfl⟩ : ∃ f', f = f' + 1 := ⟨f - 1, by omega⟩
      rw [pBeside_succ] at h ⊢
      obtain ⟨y, h1, h2⟩ := bind_some h
      have := (p_len g).2.1 _ _ _ h1
      rw [i2 _ _ h1 f (by omega)]
      exact i5 _ _ _ h2 f (by omega)
    · intro b s x h f hf
      obtain ⟨f, rfl⟩ : ∃ f', f = f' + 1 := ⟨f - 1, by omega⟩
      rw [pBar_succ] at h ⊢
      by_cases hc : isC 124 s = true
      · rw [if_pos hc] at h ⊢
        obtain ⟨y, h1, h2⟩ := bind_some h
        have := isC_len hc
        have := (p_len g).2.1 _ _ _ h1
        rw [i2 _ _ h1 f (by omega)]
        exact i5 _ _ _ h2 f (by omega)
      · rw [if_neg hc] at h ⊢; exact h

theorem pText_of {f : Nat} {s : ByteArray} {x : Wv × List UInt8} (h : pBeside f s.data.toList = some x) : pText s = some x := by
  unfold pText rest
  rw [List.drop_zero]
  have hl : s.data.toList.length = s.size := Array.length_toList
  exact (p_enough f).2.2.2.1 _ _ h _ (by omega)
theorem pText_list {s : ByteArray} {x : Wv × List UInt8} (h : pText s = some x) : ∃ f, pBeside f s.data.toList = some x := by
  unfold pText rest at h
  rw [List.drop_zero] at h
  exact ⟨_, h⟩

/-- In signs, whatever stands behind. -/
theorem one_signs {f : Nat} {s t : List UInt8} {a : Wv} (h : pBeside f s = some (a, [])) : pOne (f + 1) (40 :: (s ++ 41 :: t)) = some (a, t) := by
  have hsh : Shut (41 :: t) := fun c hc => by
    simp at hc
    subst hc
    exact ⟨by decide, by decide, by decide⟩
  have h1 := (p_app (41 :: t) f).2.2.2.1 s a [] h (fun _ => hsh)
  rw [pOne_succ, if_pos (by simp [isC])]
  show (pBeside f (s ++ 41 :: t)).bind _ = _
  rw [h1]
  rfl
/-- One behind the other, both in signs. -/
theorem two_signs {f g : Nat} {s t : List UInt8} {a b : Wv} (h : pBeside f s = some (a, [])) (k : pBeside g t = some (b, [])) : ∃ F, pBeside F (40 :: (s ++ 41 :: 59 :: 40 :: (t ++ [41]))) = some (.seq a b, []) := by
  obtain ⟨m, hf, hg⟩ : ∃ m, f ≤ m ∧ g ≤ m := ⟨max f g, by omega, by omega⟩
  have h1 := one_signs (t := 59 :: 40 :: (t ++ [41])) (pBeside_more hf h)
  have h2 := one_signs (t := []) (pBeside_more hg k)
  have h1' := (p_more (m + 1)).1 _ _ h1
  refine ⟨m + 4, ?_⟩
  rw [pBeside_succ, pBehind_succ, h1']
  show ((pSemi (m + 1 + 1) a (59 :: 40 :: (t ++ [41])))).bind _ = _
  rw [pSemi_succ, if_pos (by simp [isC])]
  show (((pOne (m + 1) (40 :: (t ++ [41]))).bind _)).bind _ = _
  rw [h2]
  show (pSemi (m + 1) (.seq a b) []).bind _ = _
  rw [pSemi_succ]
  show pBar (m + 3) (.seq a b) [] = _
  rw [pBar_succ]
  rfl

/-- What stands beside: the same, whatever it stands beside. -/
theorem pBar_fold : ∀ (f : Nat) (c : Wv) (s : List UInt8) (x : Wv) (r : List UInt8), pBar f c s = some (x, r) → ∃ l : List Wv, x = l.foldl .par c ∧ ∀ c', pBar f c' s = some (l.foldl .par c', r) := by
  intro f
  induction f with
  | zero => intro c s x r h; simp [pBar] at h
  | succ f ih =>
    intro c s x r h
    rw [pBar_succ] at h
    by_cases hc : isC 124 s = true
    · rw [if_pos hc] at h
      obtain ⟨y, h1, h2⟩ := bind_some h
      obtain ⟨l, hx, hl⟩ := ih _ _ _ _ h2
      refine ⟨y.1 :: l, hx, fun c' => ?_⟩
      rw [pBar_succ, if_pos hc, h1]
      exact hl (.par c' y.1)
    · rw [if_neg hc] at h
      injection h with h
      injection h with h1 h2
      refine ⟨[], h1.symm, fun c' => ?_⟩
      rw [pBar_succ, if_neg hc, h2]
      rfl

theorem pBar_on (u : List UInt8) (y : Wv × List UInt8) (hu : ∀ c, u.head? = some c → isDig c = false ∧ c ≠ 59) : ∀ (f : Nat) (c : Wv) (s : List UInt8) (x : Wv), pBar f c s = some (x, []) → (∃ g, pBar g x u = some y) → ∃ g, pBar g c (s ++ u) = some y := by
  intro f
  induction f with
  | zero => intro c s x h; simp [pBar] at h
  | succ f ih =>
    intro c s x h hy
    rw [pBar_succ] at h
    by_cases hc : isC 124 s = true
    · rw [if_pos hc] at h
      obtain ⟨z, h1, h2⟩ := bind_some h
      obtain ⟨g, hg⟩ := ih _ _ _ h2 hy
      have hne := isC_ne hc
      have h3 := (p_app u f).2.1 _ _ _ h1 (fun _ => hu)
      refine ⟨max f g + 1, ?_⟩
      rw [pBar_succ, isC_app u hne, if_pos hc, tail_app u hne]
      have h4 : pBehind (max f g) (s.tail ++ u) = some (z.1, z.2 ++ u) := by
        obtain ⟨k, hk⟩ : ∃ k, max f g = f + k := ⟨max f g - f, by omega⟩
        rw [hk]
        clear hk
        induction k with
        | zero => exact h3
        | succ k ihk => exact (p_more (f + k)).2.1 _ _ ihk
      rw [h4]
      exact pBar_more (by omega) hg
    · rw [if_neg hc] at h
      injection h with h
      injection h with h1 h2
      rw [h1, h2]
      exact hy

theorem pBehind_more {f g : Nat} (hg : f ≤ g) {s : List UInt8} {x : Wv × List UInt8} (h : pBehind f s = some x) : pBehind g s = some x := by
  obtain ⟨k, rfl⟩ : ∃ k, g = f + k := ⟨g - f, by omega⟩
  clear hg
  induction k with
  | zero => exact h
  | succ k ih => exact (p_more (f + k)).2.1 _ _ ih

/-- All the numbers, as they stand. -/
def worksW : Wv → List Int
  | .num n => [n]
  | .seq a b => worksW a ++ worksW b
  | .par a b => worksW a ++ worksW b
theorem addN_wks (x : List Int) (p : PlanL) (i : Nat) : (addN x p i).map (·.1) = p.map (·.1) := by
  apply List.ext_getElem?
  intro j
  unfold addN
  rw [List.getElem?_map, List.getElem?_map]
  by_cases e : i = j
  · subst e
    by_cases hi : i < p.length
    · rw [List.getElem?_set_self hi, List.getElem?_eq_getElem hi]
      simp [wkOf, hi]
    · rw [List.getElem?_eq_none (by simp; omega), List.getElem?_eq_none (by omega)]
  · rw [List.getElem?_set_ne e]
theorem links_wks (p : PlanL) (l : List Nat) (x : List Int) : (links p l x).map (·.1) = p.map (·.1) := by
  unfold links
  induction l generalizing p with
  | nil => rfl
  | cons a l ih => rw [List.foldl_cons, ih, addN_wks]
theorem build_wks (t : Wv) (p : PlanL) : (build t p).map (·.1) = p.map (·.1) ++ worksW t := by
  induction t generalizing p with
  | num n => simp [build, worksW]
  | seq a b ia ib => show (links _ _ _).map _ = _; rw [links_wks, ib, ia]; simp [worksW]
  | par a b ia ib => show (build b (build a p)).map _ = _; rw [ib, ia]; simp [worksW]
theorem works_small (t : Wv) : (¬ ∃ i, i < cntW t ∧ 20 < wkOf (build t []) i) ↔ ∀ n ∈ worksW t, n ≤ 20 := by
  have h1 := build_wks t []
  simp only [List.map_nil, List.nil_append] at h1
  have hl : (build t []).length = cntW t := by rw [build_len]; simp
  have hw : ∀ i, i < cntW t → (worksW t)[i]? = some (wkOf (build t []) i) := fun i hi => by
    rw [← h1, List.getElem?_map, List.getElem?_eq_getElem (by omega)]
    simp [wkOf, hl, hi]
  have hwl : (worksW t).length = cntW t := by rw [← h1, List.length_map, hl]
  constructor
  · intro h n hn
    obtain ⟨i, hi, rfl⟩ := List.getElem_of_mem hn
    have h2 := hw i (by omega)
    rw [List.getElem?_eq_getElem hi] at h2
    rw [Option.some.inj h2]
    by_cases h3 : 20 < wkOf (build t []) i
    · exact absurd ⟨i, by omega, h3⟩ h
    · omega
  · rintro h ⟨i, hi, h2⟩
    have h3 := hw i hi
    have := h _ (List.mem_of_getElem? h3)
    omega

/-- c' is a, and c beside it. -/
structure Beside (a c c' : Wv) : Prop where
  work : workW c' = workW a + workW c
  span : spanW c' = max (spanW a) (spanW c)
  cnt : cntW c' = cntW a + cntW c
  works : worksW c' = worksW a ++ worksW c
theorem beside_fold (a : Wv) (l : List Wv) : ∀ c c', Beside a c c' → Beside a (l.foldl .par c) (l.foldl .par c') := by
  induction l with
  | nil => intro c c' h; exact h
  | cons d l ih =>
    intro c c' h
    refine ih _ _ ⟨?_, ?_, ?_, ?_⟩
    · show workW c' + workW d = workW a + (workW c + workW d); rw [h.work]; omega
    · show max (spanW c') (spanW d) = max (spanW a) (max (spanW c) (spanW d)); rw [h.span]; omega
    · show cntW c' + cntW d = cntW a + (cntW c + cntW d); rw [h.cnt]; omega
    · show worksW c' ++ worksW d = worksW a ++ (worksW c ++ worksW d); rw [h.works, List.append_assoc]

/-- Two texts beside each other. -/
theorem two_beside {f g : Nat} {s t : List UInt8} {a b : Wv} (h : pBeside f s = some (a, [])) (k : pBeside g t = some (b, [])) : ∃ F x, pBeside F (s ++ 124 :: t) = some (x, []) ∧ Beside a b x := by
  obtain ⟨f, rfl⟩ : ∃ f', f = f' + 1 := by
    cases f with
    | zero => simp [pBeside] at h
    | succ f => exact ⟨f, rfl⟩
  obtain ⟨g, rfl⟩ : ∃ g', g = g' + 1 := by
    cases g with
    | zero => simp [pBeside] at k
    | succ g => exact ⟨g, rfl⟩
  rw [pBeside_succ] at h k
  obtain ⟨y, h1, h2⟩ := bind_some h
  obtain ⟨z, k1, k2⟩ := bind_some k
  obtain ⟨l, hb, hl⟩ := pBar_fold _ _ _ _ _ k2
  have hu : ∀ c, (124 :: t).head? = some c → isDig c = false ∧ c ≠ 59 := fun c hc => by
    simp at hc
    subst hc
    exact ⟨by decide, by decide⟩
  have hon : ∃ m, pBar m a (124 :: t) = some (l.foldl .par (.par a z.1), []) := by
    refine ⟨g + 1, ?_⟩
    rw [pBar_succ, if_pos (by simp [isC])]
    show ((pBehind g t).bind _) = _
    rw [k1]
    exact hl _
  obtain ⟨m, hm⟩ := pBar_on (124 :: t) _ hu f y.1 y.2 a h2 hon
  have h3 := (p_app (124 :: t) f).2.1 _ _ _ h1 (fun _ => hu)
  refine ⟨max f m + 1, l.foldl .par (.par a z.1), ?_, ?_⟩
  · rw [pBeside_succ, pBehind_more (by omega) h3]
    exact pBar_more (by omega) hm
  · rw [hb]
    exact beside_fold a l _ _ ⟨rfl, rfl, rfl, rfl⟩

end Go.Proofs.YtocpmncedlenbaaDoor
