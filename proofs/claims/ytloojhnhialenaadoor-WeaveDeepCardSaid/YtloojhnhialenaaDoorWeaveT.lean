/-
  Weaves in signs; what a text that is a weave gives.
-/
import Derived.Test.YtloojhnhialenaaDoorWeaveG
namespace Go.Proofs.YtloojhnhialenaaDoor
open Go.RowKit Go.Deep

theorem wrap_text {f : Nat} {s : List UInt8} {a : Wv} (h : pBeside f s = some (a, [])) : pBeside (f + 3) (40 :: (s ++ [41])) = some (a, []) := by
  have hsh : Shut [41] := fun c hc => by
    simp at hc
    subst hc
    exact ⟨by decide, by decide, by decide⟩
  have h1 := (p_app [41] f).2.2.2.1 s a [] h (fun _ => hsh)
  have h2 : pOne (f + 1) (40 :: (s ++ [41])) = some (a, []) := by
    rw [pOne, if_pos (by simp [isC])]
    show (pBeside f (s ++ [41])).bind _ = _
    rw [h1]
    rfl
  have h3 : pBehind (f + 2) (40 :: (s ++ [41])) = some (a, []) := by
    rw [pBehind, h2]
    show pSemi (f + 1) a [] = _
    rw [pSemi_succ]
    rfl
  rw [pBeside, h3]
  show pBar (f + 2) a [] = _
  rw [pBar_succ]
  rfl

theorem ba_one (c : UInt8) : (⟨#[c]⟩ : ByteArray).data.toList = [c] := rfl
theorem wrap_list (s : ByteArray) : ((⟨#[40]⟩ : ByteArray) ++ s ++ (⟨#[41]⟩ : ByteArray)).data.toList = 40 :: (s.data.toList ++ [41]) := by
  rw [ByteArray.data_append, ByteArray.data_append]
  simp
theorem wrap_size (s : ByteArray) : ((⟨#[40]⟩ : ByteArray) ++ s ++ (⟨#[41]⟩ : ByteArray)).size = s.size + 2 := by
  rw [ByteArray.size_append, ByteArray.size_append]
  show 1 + s.size + 1 = _
  omega
theorem wrap_pText (s : ByteArray) (a : Wv) (h : pText s = some (a, [])) : pText ((⟨#[40]⟩ : ByteArray) ++ s ++ (⟨#[41]⟩ : ByteArray)) = some (a, []) := by
  unfold pText at h ⊢
  rw [wrap_size]
  unfold rest at h ⊢
  rw [wrap_list, List.drop_zero]
  rw [List.drop_zero] at h
  exact pBeside_more (by omega) (wrap_text h)
/-- A text so many times in signs. -/
def wrapN (s : ByteArray) : Nat → ByteArray
  | 0 => s
  | n + 1 => (⟨#[40]⟩ : ByteArray) ++ wrapN s n ++ (⟨#[41]⟩ : ByteArray)
theorem wrapN_size (s : ByteArray) (n : Nat) : (wrapN s n).size = s.size + 2 * n := by
  induction n with
  | zero => rfl
  | succ n ih => show ((⟨#[40]⟩ : ByteArray) ++ wrapN s n ++ (⟨#[41]⟩ : ByteArray)).size = _; rw [wrap_size, ih]; omega
theorem wrapN_pText (s : ByteArray) (a : Wv) (h : pText s = some (a, [])) (n : Nat) : pText (wrapN s n) = some (a, []) := by
  induction n with
  | zero => exact h
  | succ n ih => exact wrap_pText _ _ ih
theorem weaveF_ok {s : ByteArray} (h : weaveF s = 0) : s.size ≤ 200 ∧ ∃ a, pText s = some (a, []) ∧ (¬ ∃ i, i < cntW a ∧ 20 < wkOf (build a []) i) ∧ cntW a ≤ 30 := by
  unfold weaveF at h
  split at h
  · simp at h
  · rename_i h200
    cases hq : pText s with
    | none => rw [hq] at h; simp at h
    | some x =>
      obtain ⟨a, r⟩ := x
      rw [hq] at h
      simp only at h
      split at h
      · simp at h
      · rename_i hr
        split at h
        · simp at h
        · rename_i h20
          split at h
          · simp at h
          · rename_i h30
            have hr : r = [] := by simpa using hr
            subst hr
            exact ⟨by omega, a, rfl, h20, by omega⟩
theorem weaveF_of {s : ByteArray} {a : Wv} (h : s.size ≤ 200) (hp : pText s = some (a, [])) (h20 : ¬ ∃ i, i < cntW a ∧ 20 < wkOf (build a []) i) (h30 : cntW a ≤ 30) : weaveF s = 0 := by
  unfold weaveF
  rw [if_neg (by omega), hp]
  simp only [ne_eq, not_true_eq_false, if_false]
  rw [if_neg h20, if_neg (by omega)]

theorem Parse_no (s : ByteArray) (w : World) (hmax : s.size ≤ 9223372036854775807) (hsyn : VarErr "strconv.ErrSyntax" w) (hran : VarErr "strconv.ErrRange" w) (h : weaveF s ≠ 0) :
    Calls Tryd.prog 16 #[.string s] w fun e w' => e = .returned (.tuple #[.slice none 0 0, .int .i64 0, .int .i64 0, .iface 80 (.int .i64 (weaveF s))]) ∧ Only [] w w' := by
  refine (weave_Parse s w hmax hsyn hran).mono fun e w' hp => ?_
  rcases hp with ⟨_, h1, h2⟩ | ⟨h0, _⟩
  · exact ⟨h1, h2⟩
  · exact absurd h0 h
theorem Parse_ok (s : ByteArray) (w : World) (hsyn : VarErr "strconv.ErrSyntax" w) (hran : VarErr "strconv.ErrRange" w) (a : Wv) (h200 : s.size ≤ 200) (hp : pText s = some (a, [])) (h20 : ¬ ∃ i, i < cntW a ∧ 20 < wkOf (build a []) i) (h30 : cntW a ≤ 30) :
    Calls Tryd.prog 16 #[.string s] w fun e w' => ∃ x c, e = .returned (.tuple #[.slice x (cntW a) c, .int .i64 (workW a), .int .i64 (spanW a), .nilIface]) ∧ InPlan w' (.slice x (cntW a) c) (build a []) ∧ Only [] w w' := by
  refine (weave_Parse s w (by omega) hsyn hran).mono fun e w' hq => ?_
  rcases hq with ⟨h, _⟩ | ⟨_, a', v, F, h1, h2, h3, _, h5⟩
  · exact absurd (weaveF_of h200 hp h20 h30) h
  · rw [hp] at h1
    injection h1 with h1
    injection h1 with h1 _
    subst h1
    obtain ⟨x, c, rfl, _⟩ := h3.form
    have hl : (build a []).length = cntW a := by rw [build_len]; simp
    rw [hl] at h2 h3
    exact ⟨x, c, h2, h3.plan, h5⟩
theorem pText_two : pText ⟨#[50]⟩ = some (.num 2, []) := by kernel_rfl
theorem text_ok {s : ByteArray} {a : Wv} (h : pText s = some (a, [])) : NumsW (fun n => 1 ≤ n ∧ n ≤ 21) a := (p_nums _).2.2.2.1 _ _ h

end Go.Proofs.YtloojhnhialenaaDoor
