/-
  Numbers as text, in plain words: which texts are numbers of at most so many digits.
  One element appended to a slice of the call's own, in a plain region.
  Slices of texts of the call's own; a text cut at a byte.
-/
import Derived.Test.YtoofalchkedciaaDoorP9TraceBack
import Derived.Lib.ItoaNum
import Derived.Test.YtoofalchkedciaaDoorP5TraceBack
namespace Go.Proofs.YtoofalchkedciaaDoor

/-- A text of at most so many digits, without a zero ahead. -/
def numOk (most : Nat) (l : List UInt8) : Bool := !l.isEmpty && decide (l.length ≤ most) && l.all isDig && !(l.head? == some 48 && decide (1 < l.length))

theorem numOk_iff {most : Nat} {l : List UInt8} : numOk most l = true ↔ l ≠ [] ∧ l.length ≤ most ∧ l.all isDig = true ∧ (l.head? = some 48 → l.length ≤ 1) := by
  unfold numOk
  simp only [Bool.and_eq_true, Bool.not_eq_true', decide_eq_true_eq, and_assoc]
  constructor
  · rintro ⟨h1, h2, h3, h4⟩
    refine ⟨by intro e; subst e; simp at h1, h2, h3, fun h => ?_⟩
    rw [h] at h4
    simp at h4
    exact h4
  · rintro ⟨h1, h2, h3, h4⟩
    refine ⟨by cases l <;> simp_all, h2, h3, ?_⟩
    by_cases h : l.head? = some 48
    · have := h4 h
      rw [h]
      simp
      exact this
    · simp [h]

theorem digV_snoc (l : List UInt8) (c : UInt8) : digV (l ++ [c]) = digV l * 10 + (c.toNat - 48) := by
  unfold digV
  rw [List.foldl_append]
  rfl
theorem snoc_cases (l : List UInt8) : l = [] ∨ ∃ l' c, l = l' ++ [c] := by
  rcases List.eq_nil_or_concat l with h | ⟨l', c, h⟩
  · exact .inl h
  · exact .inr ⟨l', c, by simpa using h⟩
theorem dig_of {c : UInt8} (h : isDig c = true) : 48 ≤ c.toNat ∧ c.toNat ≤ 57 := by simpa [isDig] using h
theorem dig_mk {d : Nat} (h : d < 10) : isDig (UInt8.ofNat (48 + d)) = true ∧ (UInt8.ofNat (48 + d)).toNat = 48 + d := by
  have : d = 0 ∨ d = 1 ∨ d = 2 ∨ d = 3 ∨ d = 4 ∨ d = 5 ∨ d = 6 ∨ d = 7 ∨ d = 8 ∨ d = 9 := by omega
  rcases this with rfl | rfl | rfl | rfl | rfl | rfl | rfl | rfl | rfl | rfl <;> exact ⟨rfl, rfl⟩
theorem mk_dig {c : UInt8} (h : isDig c = true) : UInt8.ofNat (48 + (c.toNat - 48)) = c := by
  have := dig_of h
  rw [show 48 + (c.toNat - 48) = c.toNat by omega]
  simp
theorem dec_step (n : Nat) (h : ¬ n < 10) : Lib.decDigits n = Lib.decDigits (n / 10) ++ [UInt8.ofNat (48 + n % 10)] := by rw [Lib.decDigits, dif_neg h]
theorem digV_pow (l : List UInt8) (h : l.all isDig = true) : digV l < 10 ^ l.length := by
  obtain ⟨n, hn⟩ : ∃ n, l.length = n := ⟨_, rfl⟩
  induction n generalizing l with
  | zero => rw [List.length_eq_zero_iff.1 hn]; simp [digV]
  | succ n ih =>
    rcases snoc_cases l with rfl | ⟨l', c, rfl⟩
    · simp at hn
    · rw [List.all_append, Bool.and_eq_true] at h
      have hc := dig_of (by simpa using h.2 : isDig c = true)
      have hl : l'.length = n := by simpa using hn
      have := ih l' h.1 hl
      rw [digV_snoc, List.length_append, List.length_singleton, Nat.pow_succ]
      omega
/-- What is printed is read as it was. -/
theorem digV_dec (n : Nat) : digV (Lib.decDigits n) = n ∧ (Lib.decDigits n).all isDig = true ∧ Lib.decDigits n ≠ [] ∧ ((Lib.decDigits n).head? = some 48 → n = 0) := by
  induction n using Nat.strongRecOn with
  | ind n ih =>
    by_cases h : n < 10
    · rw [Lib.decDigits_one h]
      obtain ⟨h1, h2⟩ := dig_mk h
      obtain ⟨c, hc⟩ : ∃ c, UInt8.ofNat (48 + n) = c := ⟨_, rfl⟩
      rw [hc] at h1 h2 ⊢
      refine ⟨by show 0 * 10 + (c.toNat - 48) = n; omega, by simpa using h1, by simp, fun h3 => ?_⟩
      have h4 : c = 48 := by simpa using h3
      rw [h4] at h2
      have h48 : (48 : UInt8).toNat = 48 := rfl
      omega
    · obtain ⟨h1, h2, h3, h4⟩ := ih (n / 10) (by omega)
      obtain ⟨k1, k2⟩ := dig_mk (d := n % 10) (by omega)
      rw [dec_step n h]
      obtain ⟨c, hc⟩ : ∃ c, UInt8.ofNat (48 + n % 10) = c := ⟨_, rfl⟩
      rw [hc] at k1 k2 ⊢
      refine ⟨by rw [digV_snoc, h1, k2]; omega, by rw [List.all_append, h2]; simpa using k1, by simp, fun h5 => ?_⟩
      have : (Lib.decDigits (n / 10)).head? = some 48 := by
        cases hd : Lib.decDigits (n / 10) with
        | nil => exact absurd hd h3
        | cons a t => rw [hd] at h5; simpa using h5
      have := h4 this
      omega
/-- .. and what is a number is printed as it was. -/
theorem dec_digV (l : List UInt8) (h0 : l ≠ []) (h : l.all isDig = true) (hz : l.head? = some 48 → l.length ≤ 1) : Lib.decDigits (digV l) = l := by
  obtain ⟨n, hn⟩ : ∃ n, l.length = n := ⟨_, rfl⟩
  induction n generalizing l with
  | zero => exact absurd (List.length_eq_zero_iff.1 hn) h0
  | succ n ih =>
    rcases snoc_cases l with rfl | ⟨l', c, rfl⟩
    · exact absurd rfl h0
    · rw [List.all_append, Bool.and_eq_true] at h
      have hc1 : isDig c = true := by simpa using h.2
      have hc := dig_of hc1
      have hl : l'.length = n := by simpa using hn
      by_cases he : l' = []
      · subst he
        rw [digV_snoc]
        simp only [List.nil_append]
        rw [show digV [] = 0 from rfl, Nat.zero_mul, Nat.zero_add, Lib.decDigits_one (by omega), mk_dig hc1]
      · have hh : (l' ++ [c]).head? = l'.head? := by
          cases l' with
          | nil => exact absurd rfl he
          | cons a t => rfl
        have hz' : l'.head? ≠ some 48 := fun e => by
          have h9 := hz (by rw [hh]; exact e)
          have : 0 < l'.length := List.length_pos_iff.2 he
          rw [List.length_append, List.length_singleton] at h9
          omega
        have hr := ih l' he h.1 (fun e => absurd e hz') hl
        have hpos : 1 ≤ digV l' := by
          rcases Nat.eq_zero_or_pos (digV l') with e | e
          · rw [e, Lib.decDigits_one (by omega)] at hr
            rw [← hr] at hz'
            exact absurd rfl hz'
          · exact e
        rw [digV_snoc, dec_step _ (by omega), show (digV l' * 10 + (c.toNat - 48)) / 10 = digV l' by omega, show (digV l' * 10 + (c.toNat - 48)) % 10 = c.toNat - 48 by omega, hr, mk_dig hc1]

theorem num_dec {most : Nat} {l : List UInt8} (h : numOk most l = true) : Lib.decDigits (digV l) = l := by
  obtain ⟨h1, _, h3, h4⟩ := numOk_iff.1 h
  exact dec_digV l h1 h3 h4
theorem dec_num {most n : Nat} {l : List UInt8} (h : Lib.decDigits n = l) (hl : l.length ≤ most) : numOk most l = true ∧ digV l = n := by
  subst h
  obtain ⟨h1, h2, h3, h4⟩ := digV_dec n
  refine ⟨numOk_iff.2 ⟨h3, hl, h2, fun h => ?_⟩, h1⟩
  have := h4 h
  subst this
  rw [Lib.decDigits_one (by omega)]
  simp

end Go.Proofs.YtoofalchkedciaaDoor

namespace Go.Proofs.YtoofalchkedciaaDoor
open Go.RowKit Go.Deep

theorem wpList_rows {t e : TypeId} {k bytes : Nat} (hT : SliceOf t e k bytes) {ops : Array Oper} {rest : List Oper} {o : Oper} {a : Act} {w : World} {Q : Exit → Act → World → Prop} (hgd : o.guard = none) (s x : Operand)
    (ho : o.op = .call { callee := .builtin .append, args := #[s, x], argTypes := #[t, t] })
    (W : World) (base : Nat) (v : Value) (n : Nat) (xs : List Value) (B : Nat) (ys : List Value) (hown : W.ownsRow base e k v n xs) (hlen : n + 1 ≤ 1000000000) (hbase : base ≤ W.heap.size)
    (hs : a.eval s = v) (hx : a.eval x = .slice (some ⟨B, 0, none⟩) 1 1) (hW : Only [] W w) (hl : ys.length = k) (hc : ∀ j u, ys[j]? = some u → w.cell? ⟨B, j, none⟩ = some u) (h1 : ∀ u ∈ ys, u.oneCell' = true)
    (h : ∀ g cap w', w'.ownsRow base e k (.slice (some ⟨g, 0, none⟩) (n + 1) cap) (n + 1) (xs ++ ys) → Only (own v) W w' → (g ∈ own v ∨ W.heap.size ≤ g) →
      wpList Tryd.prog ops Q rest (a.put o.dst (.slice (some ⟨g, 0, none⟩) (n + 1) cap)) w') : wpList Tryd.prog ops Q (o :: rest) a w := by
  obtain ⟨i0, z, hi, hz0, hz1, hz2, hz3⟩ := hT.info
  have hb := hW.size
  have hsm := hT.small
  have hby : (n + 1) * bytes ≤ 140737488355328 := by
    have : (n + 1) * bytes ≤ (n + 1) * 100 := Nat.mul_le_mul_left _ hsm
    omega
  refine wpList_append_lies w hgd s x t ho base e i0 z k bytes hT.under hi hz0 hz1 hz2 hz3 hT.pos v n xs hs (Row.same hown hW) ⟨B, 0, none⟩ 1 1 ys hx (by simpa using hl) ?_ h1 (by decide) (by unfold maxLen; omega) hby (by omega) _ rfl ?_
  · intro j u hj
    have e : ((⟨B, 0, none⟩ : Addr).add j) = ⟨B, j, none⟩ := by unfold Addr.add; split <;> simp_all
    rw [e]
    exact hc j u hj
  · intro g cap w' k1 k2 k3 _
    exact h g cap w' k1 ((hW.mono (by simp)).grown k2 (fun k hk _ => by simp [own, hk])) (k3.imp (fun e => by simp [own, e]) (fun e => by omega))

/-- .. an element of one cell. -/
theorem wpList_row1 {t e : TypeId} {bytes : Nat} (hT : SliceOf t e 1 bytes) {ops : Array Oper} {rest : List Oper} {o : Oper} {a : Act} {w : World} {Q : Exit → Act → World → Prop} (hgd : o.guard = none) (s x : Operand)
    (ho : o.op = .call { callee := .builtin .append, args := #[s, x], argTypes := #[t, t] })
    (W : World) (base : Nat) (v : Value) (n : Nat) (xs : List Value) (B : Nat) (u : Value) (hown : W.ownsRow base e 1 v n xs) (hlen : n + 1 ≤ 1000000000) (hbase : base ≤ W.heap.size)
    (hs : a.eval s = v) (hx : a.eval x = .slice (some ⟨B, 0, none⟩) 1 1) (hW : Only [] W w) (hc : w.cell? ⟨B, 0, none⟩ = some u) (h1 : u.oneCell' = true)
    (h : ∀ g cap w', w'.ownsRow base e 1 (.slice (some ⟨g, 0, none⟩) (n + 1) cap) (n + 1) (xs ++ [u]) → Only (own v) W w' → (g ∈ own v ∨ W.heap.size ≤ g) →
      wpList Tryd.prog ops Q rest (a.put o.dst (.slice (some ⟨g, 0, none⟩) (n + 1) cap)) w') : wpList Tryd.prog ops Q (o :: rest) a w :=
  wpList_rows hT hgd s x ho W base v n xs B [u] hown hlen hbase hs hx hW rfl (fun j y hj => by
    rcases j with _ | j
    · simp at hj; subst hj; exact hc
    · simp at hj) (fun y hy => by simp at hy; subst hy; exact h1) h

end Go.Proofs.YtoofalchkedciaaDoor

namespace Go.Proofs.YtoofalchkedciaaDoor
open Go.RowKit Go.Deep

theorem sliceOf_strs : SliceOf 52 9 1 16 :=
  sliceOf_parts (z := .string ⟨#[]⟩) Tryd.underlying52 (by kernel_rfl) rfl (by decide) (by decide)

/-- Texts of the call's own. -/
def OwnStrs (w : World) (base : Nat) (v : Value) (xs : List ByteArray) : Prop := w.ownsRow base 9 1 v xs.length (xs.map .string)
theorem OwnStrs.nil (w : World) (base : Nat) : OwnStrs w base (.slice none 0 0) [] := World.ownsRow_nil _ _ _ _
def strAt (xs : List ByteArray) (i : Nat) : ByteArray := xs[i]?.getD ⟨#[]⟩
theorem strs_one (xs : List ByteArray) : ∀ y ∈ xs.map Value.string, y.oneCell' = true := by
  intro y hy
  obtain ⟨s, _, rfl⟩ := List.mem_map.1 hy
  rfl
theorem OwnStrs.opt {w : World} {base : Nat} {v : Value} {xs : List ByteArray} (h : OwnStrs w base v xs) :
    ∃ a cap, v = .slice a xs.length cap ∧ xs.length ≤ cap ∧ ∀ i, i < xs.length → ∃ b, a = some ⟨b, 0, none⟩ ∧ base ≤ b ∧ w.cell? ⟨b, i, none⟩ = some (.string (strAt xs i)) := by
  have h1 := h.1
  rcases h.2 with ⟨rfl, h0⟩ | ⟨g, cap, cur, rfl, hb, hg, hc, hm, hz, hx⟩
  · exact ⟨none, 0, by rw [h0], by omega, fun i hi => by omega⟩
  · refine ⟨_, cap, rfl, hc, fun i hi => ⟨g, rfl, hb, ?_⟩⟩
    unfold World.cell?
    rw [hg]
    have h2 := congrArg (fun l => l[i]?) hx
    simp only [List.getElem?_take, List.getElem?_map] at h2
    rw [if_pos (by omega)] at h2
    have h3 : xs[i]? = some (strAt xs i) := by simp [strAt, hi]
    rw [h3] at h2
    simpa using h2

/-- A text, cut at each byte c. -/
def cutL (c : UInt8) : List UInt8 → List (List UInt8)
  | [] => [[]]
  | x :: l => if x = c then [] :: cutL c l else match cutL c l with
    | [] => [[x]]
    | p :: r => (x :: p) :: r

theorem cutL_ne (c : UInt8) (l : List UInt8) : cutL c l ≠ [] := by
  cases l with
  | nil => simp [cutL]
  | cons x l =>
    unfold cutL
    split
    · simp
    · split <;> simp
theorem cutL_no (c : UInt8) (l : List UInt8) (h : c ∉ l) : cutL c l = [l] := by
  induction l with
  | nil => rfl
  | cons x l ih =>
    have hx : x ≠ c := fun e => h (by simp [e])
    unfold cutL
    rw [if_neg hx, ih (fun hm => h (by simp [hm]))]
theorem cutL_at (c : UInt8) (p r : List UInt8) (h : c ∉ p) : cutL c (p ++ c :: r) = p :: cutL c r := by
  induction p with
  | nil => simp [cutL]
  | cons x p ih =>
    have hx : x ≠ c := fun e => h (by simp [e])
    rw [List.cons_append]
    conv => lhs; unfold cutL
    rw [if_neg hx, ih (fun hm => h (by simp [hm]))]
theorem cutL_len (c : UInt8) (l : List UInt8) : (cutL c l).length ≤ l.length + 1 := by
  induction l with
  | nil => simp [cutL]
  | cons x l ih =>
    unfold cutL
    split
    · simp; exact ih
    · split
      · simp
      · rename_i p r e
        rw [e] at ih
        simp at ih ⊢; omega

/-- The pieces as texts. -/
def cutS (c : UInt8) (s : ByteArray) : List ByteArray := (cutL c s.data.toList).map fun p => ⟨p.toArray⟩
theorem cutS_len (c : UInt8) (s : ByteArray) : (cutS c s).length = (cutL c s.data.toList).length := by simp [cutS]

end Go.Proofs.YtoofalchkedciaaDoor
