/-
  Weaves in signs; what a text that is a weave gives.
  Contract of weave.Measure.
  How the document reads a weave: the same, but that numbers are not cut at 21. No program is named here.
-/
import Derived.Test.YtocpmncedlenbaaDoorP33WeaveTells
import Derived.Test.YtocpmncedlenbaaDoorP17WeaveTells
namespace Go.Proofs.YtocpmncedlenbaaDoor
open Go.RowKit Go.Deep

theorem wrap_text {f : Nat} {s : List UInt8} {a : Wv} (h : pBeside f s = some (a, [])) : pBeside (f + 3) (40 :: (s ++ [41])) = some (a, []) := by
  have hsh : Shut [41] := fun c hc => by
    simp at hc
    subst hc
    exact ⟨by decide, by decide, by decide⟩
  have h1 := (p_app [41] f).2.2.2.1 s a [] h (fun _ => hsh)
  have h2 : pOne (f + 1) (40 :: (s ++ [41])) = some (a, []) := by
    rw [pOne, if_pos (by simp [isC])]
    show (pBeside f (s ++ [41])).bind _ = _
    rw [h1]
    rfl
  have h3 : pBehind (f + 2) (40 :: (s ++ [41])) = some (a, []) := by
    rw [pBehind, h2]
    show pSemi (f + 1) a [] = _
    rw [pSemi_succ]
    rfl
  rw [pBeside, h3]
  show pBar (f + 2) a [] = _
  rw [pBar_succ]
  rfl

theorem ba_one (c : UInt8) : (⟨#[c]⟩ : ByteArray).data.toList = [c] := rfl
theorem wrap_list (s : ByteArray) : ((⟨#[40]⟩ : ByteArray) ++ s ++ (⟨#[41]⟩ : ByteArray)).data.toList = 40 :: (s.data.toList ++ [41]) := by
  rw [ByteArray.data_append, ByteArray.data_append]
  simp
theorem wrap_size (s : ByteArray) : ((⟨#[40]⟩ : ByteArray) ++ s ++ (⟨#[41]⟩ : ByteArray)).size = s.size + 2 := by
  rw [ByteArray.size_append, ByteArray.size_append]
  show 1 + s.size + 1 = _
  omega
theorem wrap_pText (s : ByteArray) (a : Wv) (h : pText s = some (a, [])) : pText ((⟨#[40]⟩ : ByteArray) ++ s ++ (⟨#[41]⟩ : ByteArray)) = some (a, []) := by
  unfold pText at h ⊢
  rw [wrap_size]
  unfold rest at h ⊢
  rw [wrap_list, List.drop_zero]
  rw [List.drop_zero] at h
  exact pBeside_more (by omega) (wrap_text h)
/-- A text so many times in signs. -/
def wrapN (s : ByteArray) : Nat → ByteArray
  | 0 => s
  | n + 1 => (⟨#[40]⟩ : ByteArray) ++ wrapN s n ++ (⟨#[41]⟩ : ByteArray)
theorem wrapN_size (s : ByteArray) (n : Nat) : (wrapN s n).size = s.size + 2 * n := by
  induction n with
  | zero => rfl
  | succ n ih => show ((⟨#[40]⟩ : ByteArray) ++ wrapN s n ++ (⟨#[41]⟩ : ByteArray)).size = _; rw [wrap_size, ih]; omega
theorem wrapN_pText (s : ByteArray) (a : Wv) (h : pText s = some (a, [])) (n : Nat) : pText (wrapN s n) = some (a, []) := by
  induction n with
  | zero => exact h
  | succ n ih => exact wrap_pText _ _ ih
theorem weaveF_ok {s : ByteArray} (h : weaveF s = 0) : s.size ≤ 200 ∧ ∃ a, pText s = some (a, []) ∧ (¬ ∃ i, i < cntW a ∧ 20 < wkOf (build a []) i) ∧ cntW a ≤ 30 := by
  unfold weaveF at h
  split at h
  · simp at h
  · rename_i h200
    cases hq : pText s with
    | none => rw [hq] at h; simp at h
    | some x =>
      obtain ⟨a, r⟩ := x
      rw [hq] at h
      simp only at h
      split at h
      · simp at h
      · rename_i hr
        split at h
        · simp at h
        · rename_i h20
          split at h
          · simp at h
          · rename_i h30
            have hr : r = [] := by simpa using hr
            subst hr
            exact ⟨by omega, a, rfl, h20, by omega⟩
theorem weaveF_of {s : ByteArray} {a : Wv} (h : s.size ≤ 200) (hp : pText s = some (a, [])) (h20 : ¬ ∃ i, i < cntW a ∧ 20 < wkOf (build a []) i) (h30 : cntW a ≤ 30) : weaveF s = 0 := by
  unfold weaveF
  rw [if_neg (by omega), hp]
  simp only [ne_eq, not_true_eq_false, if_false]
  rw [if_neg h20, if_neg (by omega)]

theorem Parse_no (s : ByteArray) (w : World) (hmax : s.size ≤ 9223372036854775807) (hsyn : VarErr "strconv.ErrSyntax" w) (hran : VarErr "strconv.ErrRange" w) (h : weaveF s ≠ 0) :
    Calls Tryd.prog 7 #[.string s] w fun e w' => e = .returned (.tuple #[.slice none 0 0, .int .i64 0, .int .i64 0, .iface 66 (.int .i64 (weaveF s))]) ∧ Only [] w w' := by
  refine (weave_Parse s w hmax hsyn hran).mono fun e w' hp => ?_
  rcases hp with ⟨_, h1, h2⟩ | ⟨h0, _⟩
  · exact ⟨h1, h2⟩
  · exact absurd h0 h
theorem Parse_ok (s : ByteArray) (w : World) (hsyn : VarErr "strconv.ErrSyntax" w) (hran : VarErr "strconv.ErrRange" w) (a : Wv) (h200 : s.size ≤ 200) (hp : pText s = some (a, [])) (h20 : ¬ ∃ i, i < cntW a ∧ 20 < wkOf (build a []) i) (h30 : cntW a ≤ 30) :
    Calls Tryd.prog 7 #[.string s] w fun e w' => ∃ x c, e = .returned (.tuple #[.slice x (cntW a) c, .int .i64 (workW a), .int .i64 (spanW a), .nilIface]) ∧ InPlan w' (.slice x (cntW a) c) (build a []) ∧ Only [] w w' := by
  refine (weave_Parse s w (by omega) hsyn hran).mono fun e w' hq => ?_
  rcases hq with ⟨h, _⟩ | ⟨_, a', v, F, h1, h2, h3, _, h5⟩
  · exact absurd (weaveF_of h200 hp h20 h30) h
  · rw [hp] at h1
    injection h1 with h1
    injection h1 with h1 _
    subst h1
    obtain ⟨x, c, rfl, _⟩ := h3.form
    have hl : (build a []).length = cntW a := by rw [build_len]; simp
    rw [hl] at h2 h3
    exact ⟨x, c, h2, h3.plan, h5⟩
theorem pText_two : pText ⟨#[50]⟩ = some (.num 2, []) := by kernel_rfl
theorem text_ok {s : ByteArray} {a : Wv} (h : pText s = some (a, [])) : NumsW (fun n => 1 ≤ n ∧ n ≤ 21) a := (p_nums _).2.2.2.1 _ _ h

end Go.Proofs.YtocpmncedlenbaaDoor

namespace Go.Proofs.YtocpmncedlenbaaDoor
open Go.RowKit Go.Deep

set_option maxRecDepth 100000 in
theorem Measure_no (s : ByteArray) (w : World) (hmax : s.size ≤ 9223372036854775807) (hsyn : VarErr "strconv.ErrSyntax" w) (hran : VarErr "strconv.ErrRange" w) (h : weaveF s ≠ 0) :
    Calls Tryd.prog 10 #[.string s] w fun e w' => e = .returned (.tuple #[.int .i64 0, .int .i64 0, .iface 66 (.int .i64 (weaveF s))]) ∧ Only [] w w' := by
  have hp := Parse_no s w hmax hsyn hran h
  generalize weaveF s = f at *
  clear hsyn hran h
  go_enter Tryd.func10, Tryd.ntmps10
  go_wp2_with fail
  refine hp.mono ?_
  rintro e w1 ⟨rfl, ho⟩
  clear hp
  go_wp2
  go_ret3
  exact ⟨rfl, ho⟩

set_option maxRecDepth 100000 in
theorem Measure_ok (s : ByteArray) (w : World) (hsyn : VarErr "strconv.ErrSyntax" w) (hran : VarErr "strconv.ErrRange" w) (a : Wv) (h200 : s.size ≤ 200) (hp : pText s = some (a, [])) (h20 : ¬ ∃ i, i < cntW a ∧ 20 < wkOf (build a []) i) (h30 : cntW a ≤ 30) :
    Calls Tryd.prog 10 #[.string s] w fun e w' => e = .returned (.tuple #[.int .i64 (workW a), .int .i64 (spanW a), .nilIface]) ∧ Only [] w w' := by
  have hp := Parse_ok s w hsyn hran a h200 hp h20 h30
  generalize workW a = x at *
  generalize spanW a = y at *
  clear hsyn hran h20
  go_enter Tryd.func10, Tryd.ntmps10
  go_wp2_with fail
  refine hp.mono ?_
  rintro e w1 ⟨_, _, rfl, _, ho⟩
  clear hp
  go_wp2
  go_ret3
  exact ⟨rfl, ho⟩

end Go.Proofs.YtocpmncedlenbaaDoor

namespace Go.Proofs.YtocpmncedlenbaaDoor

def clip (n : Int) : Int := if n ≤ 20 then n else 21
def clipW : Wv → Wv
  | .num n => .num (clip n)
  | .seq a b => .seq (clipW a) (clipW b)
  | .par a b => .par (clipW a) (clipW b)
/-- What digits come to, where no more than 1000 is gone on with. -/
def satV (l : List UInt8) : Nat := l.foldl (fun n c => if n < 1000 then n * 10 + (c.toNat - 48) else n) 0

theorem sat_dig : ∀ (l : List UInt8) (n m : Nat), (n = m ∨ (1000 ≤ n ∧ 1000 ≤ m)) →
    (l.foldl (fun n c => if n < 1000 then n * 10 + (c.toNat - 48) else n) n = l.foldl (fun n c => n * 10 + (c.toNat - 48)) m ∨
     (1000 ≤ l.foldl (fun n c => if n < 1000 then n * 10 + (c.toNat - 48) else n) n ∧ 1000 ≤ l.foldl (fun n c => n * 10 + (c.toNat - 48)) m)) := by
  intro l
  induction l with
  | nil => intro n m h; exact h
  | cons c l ih =>
    intro n m h
    rw [List.foldl_cons, List.foldl_cons]
    refine ih _ _ ?_
    rcases h with rfl | ⟨h1, h2⟩
    · by_cases hn : n < 1000
      · rw [if_pos hn]; exact .inl rfl
      · rw [if_neg hn]; right; omega
    · rw [if_neg (by omega)]; right; omega
theorem clip_sat (l : List UInt8) : clip (satV l : Int) = numV l := by
  unfold clip numV satV digV
  rcases sat_dig l 0 0 (.inl rfl) with h | ⟨h1, h2⟩
  · rw [h]
    by_cases h2 : l.foldl (fun n c => n * 10 + (c.toNat - 48)) 0 ≤ 20
    · rw [if_pos h2, if_pos (by omega)]
    · rw [if_neg h2, if_neg (by omega)]
  · rw [if_neg (by omega), if_neg (by omega)]

def qNum (s : List UInt8) : Option (Wv × List UInt8) :=
  if (s.takeWhile isDig).isEmpty || s.head? == some 48 then none else some (.num (satV (s.takeWhile isDig)), s.dropWhile isDig)

mutual
def qOne : Nat → List UInt8 → Option (Wv × List UInt8)
  | 0, _ => none
  | f + 1, s => if isC 40 s then (qBeside f s.tail).bind (fun x => if isC 41 x.2 then some (x.1, x.2.tail) else none) else qNum s
def qBehind : Nat → List UInt8 → Option (Wv × List UInt8)
  | 0, _ => none
  | f + 1, s => (qOne f s).bind (fun x => qSemi f x.1 x.2)
def qSemi : Nat → Wv → List UInt8 → Option (Wv × List UInt8)
  | 0, _, _ => none
  | f + 1, a, s => if isC 59 s then (qOne f s.tail).bind (fun x => qSemi f (.seq a x.1) x.2) else some (a, s)
def qBeside : Nat → List UInt8 → Option (Wv × List UInt8)
  | 0, _ => none
  | f + 1, s => (qBehind f s).bind (fun x => qBar f x.1 x.2)
def qBar : Nat → Wv → List UInt8 → Option (Wv × List UInt8)
  | 0, _, _ => none
  | f + 1, a, s => if isC 124 s then (qBehind f s.tail).bind (fun x => qBar f (.par a x.1) x.2) else some (a, s)
end

def clipO (x : Option (Wv × List UInt8)) : Option (Wv × List UInt8) := x.map fun y => (clipW y.1, y.2)
theorem clip_num (s : List UInt8) : pNum s = clipO (qNum s) := by
  unfold pNum qNum clipO
  by_cases h : ((s.takeWhile isDig).isEmpty || s.head? == some 48) = true
  · rw [if_pos h, if_pos h]; rfl
  · rw [if_neg h, if_neg h]
    show some (Wv.num (numV (s.takeWhile isDig)), _) = some (Wv.num (clip (satV (s.takeWhile isDig))), _)
    rw [clip_sat]
theorem clip_bind (x : Option (Wv × List UInt8)) (g h : Wv × List UInt8 → Option (Wv × List UInt8)) (e : ∀ y, g (clipW y.1, y.2) = clipO (h y)) : (clipO x).bind g = clipO (x.bind h) := by
  cases x with
  | none => rfl
  | some y => exact e y
theorem clip_parse : ∀ f : Nat, (∀ s, pOne f s = clipO (qOne f s)) ∧ (∀ s, pBehind f s = clipO (qBehind f s)) ∧ (∀ a s, pSemi f (clipW a) s = clipO (qSemi f a s)) ∧ (∀ s, pBeside f s = clipO (qBeside f s)) ∧ (∀ a s, pBar f (clipW a) s = clipO (qBar f a s)) := by
  intro f
  induction f with
  | zero => exact ⟨fun s => by simp [pOne, qOne, clipO], fun s => by simp [pBehind, qBehind, clipO], fun a s => by simp [pSemi, qSemi, clipO], fun s => by simp [pBeside, qBeside, clipO], fun a s => by simp [pBar, qBar, clipO]⟩
  | succ f ih =>
    obtain ⟨i1, i2, i3, i4, i5⟩ := ih
    refine ⟨fun s => ?_, fun s => ?_, fun a s => ?_, fun s => ?_, fun a s => ?_⟩
    · unfold pOne qOne
      by_cases h : isC 40 s = true
      · rw [if_pos h, if_pos h, i4]
        refine clip_bind _ _ _ fun y => ?_
        by_cases h2 : isC 41 y.2 = true
        · rw [if_pos h2, if_pos h2]; rfl
        · rw [if_neg h2, if_neg h2]; rfl
      · rw [if_neg h, if_neg h]; exact clip_num s
    · unfold pBehind qBehind
      rw [i1]
      exact clip_bind _ _ _ fun y => i3 _ _
    · unfold pSemi qSemi
      by_cases h : isC 59 s = true
      · rw [if_pos h, if_pos h, i1]
        exact clip_bind _ _ _ fun y => i3 (.seq a y.1) _
      · rw [if_neg h, if_neg h]; rfl
    · unfold pBeside qBeside
      rw [i2]
      exact clip_bind _ _ _ fun y => i5 _ _
    · unfold pBar qBar
      by_cases h : isC 124 s = true
      · rw [if_pos h, if_pos h, i2]
        exact clip_bind _ _ _ fun y => i5 (.par a y.1) _
      · rw [if_neg h, if_neg h]; rfl

theorem q_some {x : Option (Wv × List UInt8)} {a : Wv} {r : List UInt8} (h : x = some (a, r)) : clipO x = some (clipW a, r) := by rw [h]; rfl
theorem clip_cnt (a : Wv) : cntW (clipW a) = cntW a := by
  induction a with
  | num n => rfl
  | seq a b ia ib => show cntW (clipW a) + cntW (clipW b) = _; rw [ia, ib]; rfl
  | par a b ia ib => show cntW (clipW a) + cntW (clipW b) = _; rw [ia, ib]; rfl
theorem clip_same (a : Wv) (h : NumsW (fun n => n ≤ 20) a) : clipW a = a := by
  induction a with
  | num n => show Wv.num (clip n) = _; unfold clip; rw [if_pos (show n ≤ 20 from h)]
  | seq a b ia ib => show Wv.seq (clipW a) (clipW b) = _; rw [ia h.1, ib h.2]
  | par a b ia ib => show Wv.par (clipW a) (clipW b) = _; rw [ia h.1, ib h.2]
theorem clip_nums (a : Wv) : NumsW (fun n => n ≤ 20) (clipW a) ↔ NumsW (fun n => n ≤ 20) a := by
  induction a with
  | num n =>
    show clip n ≤ 20 ↔ n ≤ 20
    unfold clip
    by_cases h : n ≤ 20
    · rw [if_pos h]
    · rw [if_neg h]; omega
  | seq a b ia ib => exact and_congr ia ib
  | par a b ia ib => exact and_congr ia ib

/-- Numbers that are read. -/
theorem sat_le : ∀ (l : List UInt8) (n : Nat), n ≤ 10300 → l.all isDig = true → l.foldl (fun n c => if n < 1000 then n * 10 + (c.toNat - 48) else n) n ≤ 10300 := by
  intro l
  induction l with
  | nil => intro n h _; exact h
  | cons c l ih =>
    intro n h hl
    rw [List.all_cons, Bool.and_eq_true] at hl
    have hc : 48 ≤ c.toNat ∧ c.toNat ≤ 57 := by simpa [isDig] using hl.1
    rw [List.foldl_cons]
    refine ih _ ?_ hl.2
    by_cases hn : n < 1000
    · rw [if_pos hn]; omega
    · rw [if_neg hn]; exact h

end Go.Proofs.YtocpmncedlenbaaDoor
