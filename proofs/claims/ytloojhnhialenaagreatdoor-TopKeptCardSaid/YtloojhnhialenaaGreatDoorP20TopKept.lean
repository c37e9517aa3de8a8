/-
  What a crash leaves of a log's bytes, in plain words.
  Regions that draw their order, in a round of a range over a function: reads first, then one thing that writes. No program is named here.
-/
import Derived.Test.YtloojhnhialenaaGreatDoorP4TopKept
import Derived.Test.YtloojhnhialenaaGreatDoorP18TopKept
import Derived.Test.YtloojhnhialenaaGreatDoorP19TopKept
import Derived.Lib.LastIndexByte
import Derived.Lib.Strings
import Derived.StillTailTactics
import Derived.OrdersIn
namespace Go.Proofs.YtloojhnhialenaaGreatDoor

theorem digits_dig {i : Nat} (h : i < 100) : (Lib.decDigits i).all isDig = true := by
  by_cases h1 : i < 10
  · rw [Lib.decDigits_one h1]
    simp [isDig]; omega
  · rw [Lib.decDigits_two h1 h]
    simp [isDig]; omega
theorem digits_val {i : Nat} (h : i < 100) : digV (Lib.decDigits i) = i := by
  by_cases h1 : i < 10
  · rw [Lib.decDigits_one h1]
    simp [digV]; omega
  · rw [Lib.decDigits_two h1 h]
    simp [digV]; omega
theorem digits_ne (i : Nat) (h : i < 100) : Lib.decDigits i ≠ [] := by
  by_cases h1 : i < 10
  · rw [Lib.decDigits_one h1]; simp
  · rw [Lib.decDigits_two h1 h]; simp
theorem dig_no10 {l : List UInt8} (h : l.all isDig = true) : (10 : UInt8) ∉ l := fun hm => by
  have := List.all_eq_true.1 h _ hm
  simp [isDig] at this

theorem trim_line (i : Nat) : Lib.trimSuffix (lineOf i) [10] = Lib.decDigits i := by
  unfold Lib.trimSuffix lineOf
  rw [if_pos]
  · simp
  · simp [Lib.hasSuffix]

theorem line_cons (d : List UInt8) (h : (10 : UInt8) ∉ d) (r : List UInt8) : linesOf (d ++ 10 :: r) = (d ++ [10]) :: linesOf r := by
  induction d with
  | nil => simp [linesOf]
  | cons a d ih =>
    have ha : a ≠ 10 := fun e => h (by simp [e])
    have := ih (fun hm => h (by simp [hm]))
    show linesOf (a :: (d ++ 10 :: r)) = _
    rw [linesOf, if_neg ha, this]
    simp
theorem lines_text (l : List Nat) (h : ∀ i ∈ l, i < 100) : linesOf (textOf l) = l.map lineOf := by
  induction l with
  | nil => rfl
  | cons i l ih =>
    have h1 := ih (fun j hj => h j (by simp [hj]))
    have e : textOf (i :: l) = Lib.decDigits i ++ 10 :: textOf l := by simp [textOf, lineOf]
    rw [e, line_cons _ (dig_no10 (digits_dig (h i (by simp)))), h1]
    simp [lineOf]

/-- How many lines are whole among so many bytes. -/
def keepN : List Nat → Nat → Nat
  | [], _ => 0
  | i :: l, m => if (lineOf i).length ≤ m then keepN l (m - (lineOf i).length) + 1 else 0

theorem keepN_le : ∀ (l : List Nat) (m : Nat), keepN l m ≤ l.length := by
  intro l
  induction l with
  | nil => intro m; exact Nat.le_refl _
  | cons i l ih =>
    intro m
    unfold keepN
    split
    · have := ih (m - (lineOf i).length); simp; omega
    · simp

theorem keep_split (part : List UInt8) (hp : (10 : UInt8) ∉ part) : ∀ (l : List Nat) (m : Nat), (∀ i ∈ l, i < 100) → ∃ y, (textOf l ++ part).take m = textOf (l.take (keepN l m)) ++ y ∧ (10 : UInt8) ∉ y := by
  intro l
  induction l with
  | nil =>
    intro m _
    exact ⟨part.take m, by simp [textOf, keepN], fun h => hp (List.mem_of_mem_take h)⟩
  | cons i l ih =>
    intro m h
    have e : textOf (i :: l) = lineOf i ++ textOf l := by simp [textOf]
    unfold keepN
    by_cases hm : (lineOf i).length ≤ m
    · rw [if_pos hm]
      obtain ⟨y, h1, h2⟩ := ih (m - (lineOf i).length) (fun j hj => h j (by simp [hj]))
      refine ⟨y, ?_, h2⟩
      rw [e, List.append_assoc, List.take_append, List.take_of_length_le hm, h1]
      simp [textOf]
    · rw [if_neg hm]
      refine ⟨(Lib.decDigits i).take m, ?_, fun hx => dig_no10 (digits_dig (h i (by simp))) (List.mem_of_mem_take hx)⟩
      rw [e, List.append_assoc, List.take_append_of_le_length (by omega)]
      unfold lineOf at hm ⊢
      rw [List.take_append_of_le_length (by simp at hm; omega)]
      simp [textOf]

theorem text_end (l : List Nat) : textOf l = [] ∨ ∃ t, textOf l = t ++ [10] := by
  rcases List.eq_nil_or_concat l with rfl | ⟨l', i, rfl⟩
  · left; rfl
  · right
    rw [List.concat_eq_append, textOf_push]
    exact ⟨textOf l' ++ Lib.decDigits i, by simp [lineOf]⟩

theorem cut_at (b T y : List UInt8) (hb : b = T ++ y) (hT : T = [] ∨ ∃ t, T = t ++ [10]) (hy : (10 : UInt8) ∉ y) (ix : Int)
    (hix : (ix = -1 ∧ ∀ (j : Nat) (x : UInt8), b[j]? = some x → x ≠ 10) ∨ (∃ i : Nat, ix = i ∧ b[i]? = some 10 ∧ ∀ j : Nat, i < j → ∀ x : UInt8, b[j]? = some x → x ≠ 10)) : ix + 1 = (T.length : Int) := by
  subst hb
  rcases hT with rfl | ⟨t, rfl⟩
  · rcases hix with ⟨rfl, _⟩ | ⟨i, rfl, h1, _⟩
    · rfl
    · exfalso
      rw [List.nil_append] at h1
      exact hy (List.mem_of_getElem? h1)
  · have hat : ((t ++ [10]) ++ y)[t.length]? = some 10 := by simp
    rcases hix with ⟨rfl, h⟩ | ⟨i, rfl, h1, h2⟩
    · exact absurd rfl (h _ _ hat)
    · rcases Nat.lt_trichotomy i t.length with hl | hl | hl
      · exact absurd rfl (h2 _ hl _ hat)
      · simp; omega
      · exfalso
        rw [List.getElem?_append_right (by simp; omega)] at h1
        exact hy (List.mem_of_getElem? h1)

theorem last10 (s : ByteArray) : (Lib.lastIndexByte s 10 = -1 ∧ ∀ (j : Nat) (x : UInt8), s.data.toList[j]? = some x → x ≠ 10) ∨ (∃ i : Nat, Lib.lastIndexByte s 10 = i ∧ s.data.toList[i]? = some 10 ∧ ∀ j : Nat, i < j → ∀ x : UInt8, s.data.toList[j]? = some x → x ≠ 10) := by
  have hne : ∀ (j : Nat) (x : UInt8), ((s.data[j]!).toNat : Int) ≠ 10 → s.data.toList[j]? = some x → x ≠ 10 := fun j x h1 h2 e => by
    subst e
    rw [Array.getElem?_toList] at h2
    have : s.data[j]! = 10 := by rw [getElem!_def, h2]
    rw [this] at h1
    exact h1 rfl
  have hlt : ∀ (j : Nat) (x : UInt8), s.data.toList[j]? = some x → j < s.size := fun j x h => by
    have := (List.getElem?_eq_some_iff.1 h).1
    rw [Array.length_toList] at this
    exact this
  rcases Lib.lastIndexByte_spec s 10 with ⟨h1, h2⟩ | ⟨i, h1, h2, h3, h4⟩
  · exact .inl ⟨h1, fun j x h => hne j x (h2 j (hlt j x h)) h⟩
  · refine .inr ⟨i, h2, ?_, fun j hj x h => hne j x (h4 j hj (hlt j x h)) h⟩
    rw [Array.getElem?_toList, Array.getElem?_eq_getElem h1]
    have h5 : s.data[i]! = s.data[i] := getElem!_pos s.data i h1
    rw [h5] at h3
    congr 1
    exact UInt8.toNat_inj.1 (by rw [show ((10 : UInt8).toNat) = 10 from rfl]; omega)

end Go.Proofs.YtloojhnhialenaaGreatDoor

namespace Go.Proofs.YtloojhnhialenaaGreatDoor
open Go.RowKit

/-- No 'defer' statement among these. -/
def noDefer (l : List Oper) : Bool := l.all fun o => match o.op with | .defer _ => false | _ => true

theorem noDefer_at {l : List Oper} (h : noDefer l = true) {o : Oper} (ho : o ∈ l) : ∀ c, o.op ≠ .defer c := fun c hc => by
  have := (List.all_eq_true.1 h) o ho
  rw [hc] at this
  cases this

/-- What is left when no panic, and no lack of memory, is let by. -/
def onlyNormal (Q : Exit → Act → World → Prop) : Exit → Act → World → Prop := fun e a w => e = .normal ∧ Q .normal a w

theorem onlyNormal_out (Q : Exit → Act → World → Prop) : ¬ LetsOut (onlyNormal Q) := fun ⟨_, _, h, _⟩ => by cases h

theorem wpIn_round {P : Program} {l n : Nat} {o : Oper} {a : Act} {w : World} {K K' : Act → World → Prop} {Q : Exit → Act → World → Prop} (hd : ∀ c, o.op ≠ .defer c) (hK : ∀ a w, K a w → K' a w)
    (h : o.wp P a w K (onlyNormal Q)) : o.wpIn (Fence.wide.inRound l) n P a w K' Q := by
  refine ⟨fun _ _ => trivial, ?_⟩
  rw [Oper.semAt_eq _ _ _ hd]
  unfold Oper.wp at h
  generalize (execOp a.eval o).run P w = r at *
  cases r with
  | ok x w' =>
    cases x with
    | value v => exact hK _ _ h
    | skip => exact hK _ _ h
    | defer d => exact hK _ _ h
    | enter f args =>
      refine ⟨fun h => (by cases h), (CallsIn.inRound l (callsIn_wide.2 (show Calls P f args w' _ from h))).mono fun e w'' he => ?_⟩
      cases e with
      | returned v => exact hK _ _ he
      | panicked c => obtain ⟨h, _⟩ := he; cases h
      | outgrown => exact (onlyNormal_out Q he).elim
    | row rw' args =>
      refine ⟨fun h => (by cases h), fun c cs _ => ?_⟩
      obtain ⟨v, w'', hr, hs⟩ := (show Rows P rw' args w' _ from h) c cs
      exact ⟨v, w'', hK _ _ hr, by rw [fenced_inRound]; exact stepsIn_wide.2 hs⟩
    | _ => exact (show False from h).elim
  | halt x w' =>
    cases x <;> simp only [Oper.upon, Oper.uponIn] at h ⊢
    obtain ⟨h, _⟩ := h
    cases h

theorem wpAny_round {P : Program} {l n : Nat} {md : Region.Mode} {ops : Array Oper} {Q : Exit → Act → World → Prop} (hd : noDefer ops.toList = true) :
    ∀ (fuel : Nat) (listed : Array Bool) (a : Act) (w : World), wpAny P md ops (onlyNormal Q) fuel listed a w → wpAnyIn (Fence.wide.inRound l) n P md ops Q fuel listed a w := by
  intro fuel
  induction fuel with
  | zero => exact fun listed a w h => ⟨h.1, h.2.2⟩
  | succ fuel ih =>
    intro listed a w h
    refine ⟨fun h0 => (h.1 h0).2, fun i hi => ?_⟩
    have h1 := h.2 i hi
    unfold wpOp at h1
    unfold wpOpIn
    cases ho : ops[i]? with
    | none => rw [ho] at h1; exact ih _ _ _ h1
    | some o =>
      rw [ho] at h1
      have hm : o ∈ ops.toList := Array.mem_toList_iff.2 (Array.mem_of_getElem? ho)
      simp only at h1 ⊢
      split at h1
      · rename_i hw
        rw [if_pos hw]
        rcases h1 with h1 | ⟨_, h1⟩
        · exact wpIn_round (noDefer_at hd hm) (fun a w => ih _ a w) h1
        · exact (onlyNormal_out Q h1).elim
      · rename_i hw
        rw [if_neg hw]
        exact ⟨fun _ _ => trivial, ih _ _ _ h1⟩

/-- Reads, then the last n' things one behind the other. -/
theorem round_still_tail {P : Program} {r m : Nat} {id : Nat} {Q : Exit → Act → World → Prop} {a : Act} {w : World} {l : List Oper} (n : Nat) (hm : P.follows .mixedOrders = true) (hd : noDefer l = true) (hB : Region.lexTailB .any l.toArray n = true)
    (h : wpStill P l.toArray { w with drawn := w.drawn + 1 } (fun a' => wpList P l.toArray (onlyNormal Q) (l.drop n) a' { w with drawn := w.drawn + 1 }) (l.take n) a) : (Code.region id l.toArray true).wpIn (Fence.wide.inRound r) m P Q a w := by
  simp only [Region.lexTailB, Bool.and_eq_true, decide_eq_true_eq] at hB
  obtain ⟨⟨⟨⟨hsel, hn⟩, hs⟩, hc⟩, hlex⟩ := hB
  have hn' : n < l.length := by simpa using hn
  have htl : (l.take n).length = n := by simp; omega
  have hdl : (l.drop n).length = l.toArray.size - n := by simp
  have inv0 : HeadInv .any l.toArray n (Array.replicate l.toArray.size false) :=
    ⟨by simp, fun j oj _ hl => (by rw [getD_replicate_false] at hl; cases hl), fun t _ ht => getD_in (by simpa using ht) (getD_replicate_false _ _)⟩
  have H := wpAnyL_lex (md := .any) (g := l.toArray.size - n) hsel hs hc hn (l.take n) 0 _ a (fun j hj => by
    have hj' : j < n := by rw [htl] at hj; exact hj
    simp [hj']) (by simpa using htl) inv0 (by rw [htl]; exact hlex) h
  refine wpIn_region_any hm (wpAny_round (by simpa using hd) _ _ _ _ ?_)
  have := wpAny_of_head (Q' := onlyNormal Q) (g := l.toArray.size - n) (fun listed a' hL => by
    have := wpAny_of_seq (md := .any) (Q' := onlyNormal Q) (l.drop n) n listed a' { w with drawn := w.drawn + 1 } (fun j => by simp [List.getElem?_drop]) (by rw [hdl]; exact hL.1) hL.2
    rwa [hdl] at this) _ _ _ H
  rw [htl, show n + (l.toArray.size - n) = l.toArray.size by omega] at this
  exact this

end Go.Proofs.YtloojhnhialenaaGreatDoor
