/-
  Weaves in signs; what a text that is a weave gives.
  Weaves put together: one behind the other, beside each other. No program is named here.
  An array of ints in memory, by its numbers; make([]int, n) as one.
-/
import Derived.Test.YtocpmncedlenbaaGreatDoorP24TopWeave
import Derived.Test.YtocpmncedlenbaaGreatDoorP8TopWeave
namespace Go.Proofs.YtocpmncedlenbaaGreatDoor
open Go.RowKit Go.Deep

theorem wrap_text {f : Nat} {s : List UInt8} {a : Wv} (h : pBeside f s = some (a, [])) : pBeside (f + 3) (40 :: (s ++ [41])) = some (a, []) := by
  have hsh : Shut [41] := fun c hc => by
    simp at hc
    subst hc
    exact ⟨by decide, by decide, by decide⟩
  have h1 := (p_app [41] f).2.2.2.1 s a [] h (fun _ => hsh)
  have h2 : pOne (f + 1) (40 :: (s ++ [41])) = some (a, []) := by
    rw [pOne, if_pos (by simp [isC])]
    show (pBeside f (s ++ [41])).bind _ = _
    rw [h1]
    rfl
  have h3 : pBehind (f + 2) (40 :: (s ++ [41])) = some (a, []) := by
    rw [pBehind, h2]
    show pSemi (f + 1) a [] = _
    rw [pSemi_succ]
    rfl
  rw [pBeside, h3]
  show pBar (f + 2) a [] = _
  rw [pBar_succ]
  rfl

theorem ba_one (c : UInt8) : (⟨#[c]⟩ : ByteArray).data.toList = [c] := rfl
theorem wrap_list (s : ByteArray) : ((⟨#[40]⟩ : ByteArray) ++ s ++ (⟨#[41]⟩ : ByteArray)).data.toList = 40 :: (s.data.toList ++ [41]) := by
  rw [ByteArray.data_append, ByteArray.data_append]
  simp
theorem wrap_size (s : ByteArray) : ((⟨#[40]⟩ : ByteArray) ++ s ++ (⟨#[41]⟩ : ByteArray)).size = s.size + 2 := by
  rw [ByteArray.size_append, ByteArray.size_append]
  show 1 + s.size + 1 = _
  omega
theorem wrap_pText (s : ByteArray) (a : Wv) (h : pText s = some (a, [])) : pText ((⟨#[40]⟩ : ByteArray) ++ s ++ (⟨#[41]⟩ : ByteArray)) = some (a, []) := by
  unfold pText at h ⊢
  rw [wrap_size]
  unfold rest at h ⊢
  rw [wrap_list, List.drop_zero]
  rw [List.drop_zero] at h
  exact pBeside_more (by omega) (wrap_text h)
/-- A text so many times in signs. -/
def wrapN (s : ByteArray) : Nat → ByteArray
  | 0 => s
  | n + 1 => (⟨#[40]⟩ : ByteArray) ++ wrapN s n ++ (⟨#[41]⟩ : ByteArray)
theorem wrapN_size (s : ByteArray) (n : Nat) : (wrapN s n).size = s.size + 2 * n := by
  induction n with
  | zero => rfl
  | succ n ih => show ((⟨#[40]⟩ : ByteArray) ++ wrapN s n ++ (⟨#[41]⟩ : ByteArray)).size = _; rw [wrap_size, ih]; omega
theorem wrapN_pText (s : ByteArray) (a : Wv) (h : pText s = some (a, [])) (n : Nat) : pText (wrapN s n) = some (a, []) := by
  induction n with
  | zero => exact h
  | succ n ih => exact wrap_pText _ _ ih
theorem weaveF_ok {s : ByteArray} (h : weaveF s = 0) : s.size ≤ 200 ∧ ∃ a, pText s = some (a, []) ∧ (¬ ∃ i, i < cntW a ∧ 20 < wkOf (build a []) i) ∧ cntW a ≤ 30 := by
  unfold weaveF at h
  split at h
  · simp at h
  · rename_i h200
    cases hq : pText s with
    | none => rw [hq] at h; simp at h
    | some x =>
      obtain ⟨a, r⟩ := x
      rw [hq] at h
      simp only at h
      split at h
      · simp at h
      · rename_i hr
        split at h
        · simp at h
        · rename_i h20
          split at h
          · simp at h
          · rename_i h30
            have hr : r = [] := by simpa using hr
            subst hr
            exact ⟨by omega, a, rfl, h20, by omega⟩
theorem weaveF_of {s : ByteArray} {a : Wv} (h : s.size ≤ 200) (hp : pText s = some (a, [])) (h20 : ¬ ∃ i, i < cntW a ∧ 20 < wkOf (build a []) i) (h30 : cntW a ≤ 30) : weaveF s = 0 := by
  unfold weaveF
  rw [if_neg (by omega), hp]
  simp only [ne_eq, not_true_eq_false, if_false]
  rw [if_neg h20, if_neg (by omega)]

theorem Parse_no (s : ByteArray) (w : World) (hmax : s.size ≤ 9223372036854775807) (hsyn : VarErr "strconv.ErrSyntax" w) (hran : VarErr "strconv.ErrRange" w) (h : weaveF s ≠ 0) :
    Calls Tryz.prog 8 #[.string s] w fun e w' => e = .returned (.tuple #[.slice none 0 0, .int .i64 0, .int .i64 0, .iface 99 (.int .i64 (weaveF s))]) ∧ Only [] w w' := by
  refine (weave_Parse s w hmax hsyn hran).mono fun e w' hp => ?_
  rcases hp with ⟨_, h1, h2⟩ | ⟨h0, _⟩
  · exact ⟨h1, h2⟩
  · exact absurd h0 h
theorem Parse_ok (s : ByteArray) (w : World) (hsyn : VarErr "strconv.ErrSyntax" w) (hran : VarErr "strconv.ErrRange" w) (a : Wv) (h200 : s.size ≤ 200) (hp : pText s = some (a, [])) (h20 : ¬ ∃ i, i < cntW a ∧ 20 < wkOf (build a []) i) (h30 : cntW a ≤ 30) :
    Calls Tryz.prog 8 #[.string s] w fun e w' => ∃ x c, e = .returned (.tuple #[.slice x (cntW a) c, .int .i64 (workW a), .int .i64 (spanW a), .nilIface]) ∧ InPlan w' (.slice x (cntW a) c) (build a []) ∧ Only [] w w' := by
  refine (weave_Parse s w (by omega) hsyn hran).mono fun e w' hq => ?_
  rcases hq with ⟨h, _⟩ | ⟨_, a', v, F, h1, h2, h3, _, h5⟩
  · exact absurd (weaveF_of h200 hp h20 h30) h
  · rw [hp] at h1
    injection h1 with h1
    injection h1 with h1 _
    subst h1
    obtain ⟨x, c, rfl, _⟩ := h3.form
    have hl : (build a []).length = cntW a := by rw [build_len]; simp
    rw [hl] at h2 h3
    exact ⟨x, c, h2, h3.plan, h5⟩
theorem pText_two : pText ⟨#[50]⟩ = some (.num 2, []) := by kernel_rfl
theorem text_ok {s : ByteArray} {a : Wv} (h : pText s = some (a, [])) : NumsW (fun n => 1 ≤ n ∧ n ≤ 21) a := (p_nums _).2.2.2.1 _ _ h

end Go.Proofs.YtocpmncedlenbaaGreatDoor

namespace Go.Proofs.YtocpmncedlenbaaGreatDoor
open Go.RowKit Go.Deep

theorem pOne_succ (f : Nat) (s : List UInt8) : pOne (f + 1) s = if isC 40 s then (pBeside f s.tail).bind (fun x => if isC 41 x.2 then some (x.1, x.2.tail) else none) else pNum s := by rw [pOne]
theorem pBehind_succ (f : Nat) (s : List UInt8) : pBehind (f + 1) s = (pOne f s).bind (fun x => pSemi f x.1 x.2) := by rw [pBehind]
theorem pBeside_succ (f : Nat) (s : List UInt8) : pBeside (f + 1) s = (pBehind f s).bind (fun x => pBar f x.1 x.2) := by rw [pBeside]

/-- So much fuel is enough. -/
theorem p_enough : ∀ g : Nat, (∀ s x, pOne g s = some x → ∀ f, 3 * s.length + 1 ≤ f → pOne f s = some x) ∧ (∀ s x, pBehind g s = some x → ∀ f, 3 * s.length + 2 ≤ f → pBehind f s = some x) ∧
    (∀ b s x, pSemi g b s = some x → ∀ f, 3 * s.length + 1 ≤ f → pSemi f b s = some x) ∧ (∀ s x, pBeside g s = some x → ∀ f, 3 * s.length + 3 ≤ f → pBeside f s = some x) ∧ (∀ b s x, pBar g b s = some x → ∀ f, 3 * s.length + 1 ≤ f → pBar f b s = some x) := by
  intro g
  induction g with
  | zero => exact ⟨by simp [pOne], by simp [pBehind], by simp [pSemi], by simp [pBeside], by simp [pBar]⟩
  | succ g ih =>
    obtain ⟨i1, i2, i3, i4, i5⟩ := ih
    refine ⟨?_, ?_, ?_, ?_, ?_⟩
    · intro s x h f hf
      obtain ⟨f, rfl⟩ : ∃ f', f = f' + 1 := ⟨f - 1, by omega⟩
      rw [pOne_succ] at h ⊢
      by_cases hc : isC 40 s = true
      · rw [if_pos hc] at h ⊢
        obtain ⟨y, h1, h2⟩ := bind_some h
        have := isC_len hc
        rw [i4 _ _ h1 f (by omega)]
        exact h2
      · rw [if_neg hc] at h ⊢; exact h
    · intro s x h f hf
      obtain ⟨f, rfl⟩ : ∃ f', f = f' + 1 := ⟨f - 1, by omega⟩
      rw [pBehind_succ] at h ⊢
      obtain ⟨y, h1, h2⟩ := bind_some h
      have := (p_len g).1 _ _ _ h1
      rw [i1 _ _ h1 f (by omega)]
      exact i3 _ _ _ h2 f (by omega)
    · intro b s x h f hf
      obtain ⟨f, rfl⟩ : ∃ f', f = f' + 1 := ⟨f - 1, by omega⟩
      rw [pSemi_succ] at h ⊢
      by_cases hc : isC 59 s = true
      · rw [if_pos hc] at h ⊢
        obtain ⟨y, h1, h2⟩ := bind_some h
        have := isC_len hc
        have := (p_len g).1 _ _ _ h1
        rw [i1 _ _ h1 f (by omega)]
        exact i3 _ _ _ h2 f (by omega)
      · rw [if_neg hc] at h ⊢; exact h
    · intro s x h f hf
      obtain ⟨f, rfl⟩ : ∃ f', f = f' + 1 := ⟨f - 1, by omega⟩
      rw [pBeside_succ] at h ⊢
      obtain ⟨y, h1, h2⟩ := bind_some h
      have := (p_len g).2.1 _ _ _ h1
      rw [i2 _ _ h1 f (by omega)]
      exact i5 _ _ _ h2 f (by omega)
    · intro b s x h f hf
      obtain ⟨f, rfl⟩ : ∃ f', f = f' + 1 := ⟨f - 1, by omega⟩
      rw [pBar_succ] at h ⊢
      by_cases hc : isC 124 s = true
      · rw [if_pos hc] at h ⊢
        obtain ⟨y, h1, h2⟩ := bind_some h
        have := isC_len hc
        have := (p_len g).2.1 _ _ _ h1
        rw [i2 _ _ h1 f (by omega)]
        exact i5 _ _ _ h2 f (by omega)
      · rw [if_neg hc] at h ⊢; exact h

theorem pText_of {f : Nat} {s : ByteArray} {x : Wv × List UInt8} (h : pBeside f s.data.toList = some x) : pText s = some x := by
  unfold pText rest
  rw [List.drop_zero]
  have hl : s.data.toList.length = s.size := Array.length_toList
  exact (p_enough f).2.2.2.1 _ _ h _ (by omega)
theorem pText_list {s : ByteArray} {x : Wv × List UInt8} (h : pText s = some x) : ∃ f, pBeside f s.data.toList = some x := by
  unfold pText rest at h
  rw [List.drop_zero] at h
  exact ⟨_, h⟩

/-- In signs, whatever stands behind. -/
theorem one_signs {f : Nat} {s t : List UInt8} {a : Wv} (h : pBeside f s = some (a, [])) : pOne (f + 1) (40 :: (s ++ 41 :: t)) = some (a, t) := by
  have hsh : Shut (41 :: t) := fun c hc => by
    simp at hc
    subst hc
    exact ⟨by decide, by decide, by decide⟩
  have h1 := (p_app (41 :: t) f).2.2.2.1 s a [] h (fun _ => hsh)
  rw [pOne_succ, if_pos (by simp [isC])]
  show (pBeside f (s ++ 41 :: t)).bind _ = _
  rw [h1]
  rfl
/-- One behind the other, both in signs. -/
theorem two_signs {f g : Nat} {s t : List UInt8} {a b : Wv} (h : pBeside f s = some (a, [])) (k : pBeside g t = some (b, [])) : ∃ F, pBeside F (40 :: (s ++ 41 :: 59 :: 40 :: (t ++ [41]))) = some (.seq a b, []) := by
  obtain ⟨m, hf, hg⟩ : ∃ m, f ≤ m ∧ g ≤ m := ⟨max f g, by omega, by omega⟩
  have h1 := one_signs (t := 59 :: 40 :: (t ++ [41])) (pBeside_more hf h)
  have h2 := one_signs (t := []) (pBeside_more hg k)
  have h1' := (p_more (m + 1)).1 _ _ h1
  refine ⟨m + 4, ?_⟩
  rw [pBeside_succ, pBehind_succ, h1']
  show ((pSemi (m + 1 + 1) a (59 :: 40 :: (t ++ [41])))).bind _ = _
  rw [pSemi_succ, if_pos (by simp [isC])]
  show (((pOne (m + 1) (40 :: (t ++ [41]))).bind _)).bind _ = _
  rw [h2]
  show (pSemi (m + 1) (.seq a b) []).bind _ = _
  rw [pSemi_succ]
  show pBar (m + 3) (.seq a b) [] = _
  rw [pBar_succ]
  rfl

/-- What stands beside: the same, whatever it stands beside. -/
theorem pBar_fold : ∀ (f : Nat) (c : Wv) (s : List UInt8) (x : Wv) (r : List UInt8), pBar f c s = some (x, r) → ∃ l : List Wv, x = l.foldl .par c ∧ ∀ c', pBar f c' s = some (l.foldl .par c', r) := by
  intro f
  induction f with
  | zero => intro c s x r h; simp [pBar] at h
  | succ f ih =>
    intro c s x r h
    rw [pBar_succ] at h
    by_cases hc : isC 124 s = true
    · rw [if_pos hc] at h
      obtain ⟨y, h1, h2⟩ := bind_some h
      obtain ⟨l, hx, hl⟩ := ih _ _ _ _ h2
      refine ⟨y.1 :: l, hx, fun c' => ?_⟩
      rw [pBar_succ, if_pos hc, h1]
      exact hl (.par c' y.1)
    · rw [if_neg hc] at h
      injection h with h
      injection h with h1 h2
      refine ⟨[], h1.symm, fun c' => ?_⟩
      rw [pBar_succ, if_neg hc, h2]
      rfl

theorem pBar_on (u : List UInt8) (y : Wv × List UInt8) (hu : ∀ c, u.head? = some c → isDig c = false ∧ c ≠ 59) : ∀ (f : Nat) (c : Wv) (s : List UInt8) (x : Wv), pBar f c s = some (x, []) → (∃ g, pBar g x u = some y) → ∃ g, pBar g c (s ++ u) = some y := by
  intro f
  induction f with
  | zero => intro c s x h; simp [pBar] at h
  | succ f ih =>
    intro c s x h hy
    rw [pBar_succ] at h
    by_cases hc : isC 124 s = true
    · rw [if_pos hc] at h
      obtain ⟨z, h1, h2⟩ := bind_some h
      obtain ⟨g, hg⟩ := ih _ _ _ h2 hy
      have hne := isC_ne hc
      have h3 := (p_app u f).2.1 _ _ _ h1 (fun _ => hu)
      refine ⟨max f g + 1, ?_⟩
      rw [pBar_succ, isC_app u hne, if_pos hc, tail_app u hne]
      have h4 : pBehind (max f g) (s.tail ++ u) = some (z.1, z.2 ++ u) := by
        obtain ⟨k, hk⟩ : ∃ k, max f g = f + k := ⟨max f g - f, by omega⟩
        rw [hk]
        clear hk
        induction k with
        | zero => exact h3
        | succ k ihk => exact (p_more (f + k)).2.1 _ _ ihk
      rw [h4]
      exact pBar_more (by omega) hg
    · rw [if_neg hc] at h
      injection h with h
      injection h with h1 h2
      rw [h1, h2]
      exact hy

theorem pBehind_more {f g : Nat} (hg : f ≤ g) {s : List UInt8} {x : Wv × List UInt8} (h : pBehind f s = some x) : pBehind g s = some x := by
  obtain ⟨k, rfl⟩ : ∃ k, g = f + k := ⟨g - f, by omega⟩
  clear hg
  induction k with
  | zero => exact h
  | succ k ih => exact (p_more (f + k)).2.1 _ _ ih

/-- All the numbers, as they stand. -/
def worksW : Wv → List Int
  | .num n => [n]
  | .seq a b => worksW a ++ worksW b
  | .par a b => worksW a ++ worksW b
theorem addN_wks (x : List Int) (p : PlanL) (i : Nat) : (addN x p i).map (·.1) = p.map (·.1) := by
  apply List.ext_getElem?
  intro j
  unfold addN
  rw [List.getElem?_map, List.getElem?_map]
  by_cases e : i = j
  · subst e
    by_cases hi : i < p.length
    · rw [List.getElem?_set_self hi, List.getElem?_eq_getElem hi]
      simp [wkOf, hi]
    · rw [List.getElem?_eq_none (by simp; omega), List.getElem?_eq_none (by omega)]
  · rw [List.getElem?_set_ne e]
theorem links_wks (p : PlanL) (l : List Nat) (x : List Int) : (links p l x).map (·.1) = p.map (·.1) := by
  unfold links
  induction l generalizing p with
  | nil => rfl
  | cons a l ih => rw [List.foldl_cons, ih, addN_wks]
theorem build_wks (t : Wv) (p : PlanL) : (build t p).map (·.1) = p.map (·.1) ++ worksW t := by
  induction t generalizing p with
  | num n => simp [build, worksW]
  | seq a b ia ib => show (links _ _ _).map _ = _; rw [links_wks, ib, ia]; simp [worksW]
  | par a b ia ib => show (build b (build a p)).map _ = _; rw [ib, ia]; simp [worksW]
theorem works_small (t : Wv) : (¬ ∃ i, i < cntW t ∧ 20 < wkOf (build t []) i) ↔ ∀ n ∈ worksW t, n ≤ 20 := by
  have h1 := build_wks t []
  simp only [List.map_nil, List.nil_append] at h1
  have hl : (build t []).length = cntW t := by rw [build_len]; simp
  have hw : ∀ i, i < cntW t → (worksW t)[i]? = some (wkOf (build t []) i) := fun i hi => by
    rw [← h1, List.getElem?_map, List.getElem?_eq_getElem (by omega)]
    simp [wkOf, hl, hi]
  have hwl : (worksW t).length = cntW t := by rw [← h1, List.length_map, hl]
  constructor
  · intro h n hn
    obtain ⟨i, hi, rfl⟩ := List.getElem_of_mem hn
    have h2 := hw i (by omega)
    rw [List.getElem?_eq_getElem hi] at h2
    rw [Option.some.inj h2]
    by_cases h3 : 20 < wkOf (build t []) i
    · exact absurd ⟨i, by omega, h3⟩ h
    · omega
  · rintro h ⟨i, hi, h2⟩
    have h3 := hw i hi
    have := h _ (List.mem_of_getElem? h3)
    omega

/-- c' is a, and c beside it. -/
structure Beside (a c c' : Wv) : Prop where
  work : workW c' = workW a + workW c
  span : spanW c' = max (spanW a) (spanW c)
  cnt : cntW c' = cntW a + cntW c
  works : worksW c' = worksW a ++ worksW c
theorem beside_fold (a : Wv) (l : List Wv) : ∀ c c', Beside a c c' → Beside a (l.foldl .par c) (l.foldl .par c') := by
  induction l with
  | nil => intro c c' h; exact h
  | cons d l ih =>
    intro c c' h
    refine ih _ _ ⟨?_, ?_, ?_, ?_⟩
    · show workW c' + workW d = workW a + (workW c + workW d); rw [h.work]; omega
    · show max (spanW c') (spanW d) = max (spanW a) (max (spanW c) (spanW d)); rw [h.span]; omega
    · show cntW c' + cntW d = cntW a + (cntW c + cntW d); rw [h.cnt]; omega
    · show worksW c' ++ worksW d = worksW a ++ (worksW c ++ worksW d); rw [h.works, List.append_assoc]

/-- Two texts beside each other. -/
theorem two_beside {f g : Nat} {s t : List UInt8} {a b : Wv} (h : pBeside f s = some (a, [])) (k : pBeside g t = some (b, [])) : ∃ F x, pBeside F (s ++ 124 :: t) = some (x, []) ∧ Beside a b x := by
  obtain ⟨f, rfl⟩ : ∃ f', f = f' + 1 := by
    cases f with
    | zero => simp [pBeside] at h
    | succ f => exact ⟨f, rfl⟩
  obtain ⟨g, rfl⟩ : ∃ g', g = g' + 1 := by
    cases g with
    | zero => simp [pBeside] at k
    | succ g => exact ⟨g, rfl⟩
  rw [pBeside_succ] at h k
  obtain ⟨y, h1, h2⟩ := bind_some h
  obtain ⟨z, k1, k2⟩ := bind_some k
  obtain ⟨l, hb, hl⟩ := pBar_fold _ _ _ _ _ k2
  have hu : ∀ c, (124 :: t).head? = some c → isDig c = false ∧ c ≠ 59 := fun c hc => by
    simp at hc
    subst hc
    exact ⟨by decide, by decide⟩
  have hon : ∃ m, pBar m a (124 :: t) = some (l.foldl .par (.par a z.1), []) := by
    refine ⟨g + 1, ?_⟩
    rw [pBar_succ, if_pos (by simp [isC])]
    show ((pBehind g t).bind _) = _
    rw [k1]
    exact hl _
  obtain ⟨m, hm⟩ := pBar_on (124 :: t) _ hu f y.1 y.2 a h2 hon
  have h3 := (p_app (124 :: t) f).2.1 _ _ _ h1 (fun _ => hu)
  refine ⟨max f m + 1, l.foldl .par (.par a z.1), ?_, ?_⟩
  · rw [pBeside_succ, pBehind_more (by omega) h3]
    exact pBar_more (by omega) hm
  · rw [hb]
    exact beside_fold a l _ _ ⟨rfl, rfl, rfl, rfl⟩

end Go.Proofs.YtocpmncedlenbaaGreatDoor

namespace Go.Proofs.YtocpmncedlenbaaGreatDoor
open Go.RowKit Go.Deep

def Nums (w : World) (A N : Nat) (f : Nat → Int) : Prop := ∀ i, i < N → w.cell? ⟨A, i, none⟩ = some (.int .i64 (f i)) ∧ w.frozen? ⟨A, i, none⟩ = false

theorem Nums.only {w w' : World} {A N : Nat} {f : Nat → Int} {S : List Nat} (h : Nums w A N f) (ho : Only S w w') (hA : A ∉ S) : Nums w' A N f := fun i hi => by
  obtain ⟨h1, h2⟩ := h i hi
  have hl := cell_lt h1
  exact ⟨(ho.cell (p := ⟨A, i, none⟩) hl hA).trans h1, (ho.frozen (p := ⟨A, i, none⟩) hl hA).trans h2⟩

def updI (f : Nat → Int) (j : Nat) (x : Int) : Nat → Int := fun i => if i = j then x else f i

theorem Nums.set {w : World} {A N : Nat} {f : Nat → Int} (h : Nums w A N f) (j : Nat) (x : Int) :
    Nums (w.setCell ⟨A, j, none⟩ (.int .i64 x)) A N (updI f j x) := fun i hi => by
  obtain ⟨h1, h2⟩ := h i hi
  refine ⟨?_, by rw [World.frozen?_setCell]; exact h2⟩
  unfold updI
  by_cases e : i = j
  · subst e
    rw [World.cell?_setCell_same _ _ _ h1]
    simp
  · rw [World.cell?_setCell_other _ _ _ _ (fun he => e (congrArg Addr.off he).symm), h1]
    simp [e]

theorem Nums.congr {w : World} {A N : Nat} {f g : Nat → Int} (h : Nums w A N f) (e : ∀ i, i < N → f i = g i) : Nums w A N g := fun i hi => by
  rw [← e i hi]; exact h i hi

theorem made_nums (w : World) (n : Nat) : Nums (w.alloc (.cells (madeCells #[.int .i64 0] n) 3)) w.heap.size n (fun _ => 0) := fun i hi => by
  refine ⟨?_, World.frozen?_alloc_at _ _ _ _ rfl⟩
  rw [World.cell?_alloc_new]
  have e := made_list (.int .i64 0) n
  rw [← Array.getElem?_toList, e]
  simp [hi]

/-- The numbers as a list. -/
def numL (n : Nat) (f : Nat → Int) : List Int := (List.range n).map f
theorem numL_len (n : Nat) (f : Nat → Int) : (numL n f).length = n := by simp [numL]
theorem numL_nth (n : Nat) (f : Nat → Int) (i : Nat) (h : i < n) : nth (numL n f) i = f i := by simp [nth, numL, h]

theorem Nums.reads {w : World} {A N : Nat} {f : Nat → Int} (h : Nums w A N f) (hN : N ≤ 1000000) : Reads w (.slice (some ⟨A, 0, none⟩) N N) (numL N f) := by
  by_cases h0 : N = 0
  · subst h0; exact .inl ⟨rfl, .inr ⟨_, 0, rfl, by unfold maxLen; omega⟩⟩
  · refine .inr ⟨by rw [numL_len]; omega, A, 0, N, by rw [numL_len], by rw [numL_len]; exact Nat.le_refl _, by unfold maxLen; omega, fun i hi => ?_⟩
    rw [numL_len] at hi
    rw [Nat.zero_add, (h i hi).1, numL_nth _ _ _ hi]

end Go.Proofs.YtocpmncedlenbaaGreatDoor
