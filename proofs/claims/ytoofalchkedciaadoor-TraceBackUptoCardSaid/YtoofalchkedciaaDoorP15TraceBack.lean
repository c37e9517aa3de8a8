/-
  Deeds as text, in plain words: what a text of deeds is read as.
-/
import Derived.Test.YtoofalchkedciaaDoorP8TraceBack
import Derived.Test.YtoofalchkedciaaDoorP12TraceBack
import Derived.Test.YtoofalchkedciaaDoorP14TraceBack
namespace Go.Proofs.YtoofalchkedciaaDoor

/-- Which word it is; 0: none. -/
def wordNo (x : List UInt8) : Nat :=
  if x = wordB 1 then 1 else if x = wordB 2 then 2 else if x = wordB 3 then 3 else if x = wordB 4 then 4 else if x = wordB 5 then 5 else if x = wordB 6 then 6 else 0
theorem wordNo_word : ∀ k, 1 ≤ k → k ≤ 6 → wordNo (wordB k) = k
  | 0, h, _ => by omega
  | 1, _, _ => by decide
  | 2, _, _ => by decide
  | 3, _, _ => by decide
  | 4, _, _ => by decide
  | 5, _, _ => by decide
  | 6, _, _ => by decide
  | n + 7, _, h => by omega
theorem word_of {x : List UInt8} (h : wordNo x ≠ 0) : wordB (wordNo x) = x ∧ 1 ≤ wordNo x ∧ wordNo x ≤ 6 := by
  unfold wordNo at h ⊢
  by_cases h1 : x = wordB 1
  · rw [if_pos h1]; exact ⟨h1.symm, by omega, by omega⟩
  rw [if_neg h1] at h ⊢
  by_cases h2 : x = wordB 2
  · rw [if_pos h2]; exact ⟨h2.symm, by omega, by omega⟩
  rw [if_neg h2] at h ⊢
  by_cases h3 : x = wordB 3
  · rw [if_pos h3]; exact ⟨h3.symm, by omega, by omega⟩
  rw [if_neg h3] at h ⊢
  by_cases h4 : x = wordB 4
  · rw [if_pos h4]; exact ⟨h4.symm, by omega, by omega⟩
  rw [if_neg h4] at h ⊢
  by_cases h5 : x = wordB 5
  · rw [if_pos h5]; exact ⟨h5.symm, by omega, by omega⟩
  rw [if_neg h5] at h ⊢
  by_cases h6 : x = wordB 6
  · rw [if_pos h6]; exact ⟨h6.symm, by omega, by omega⟩
  rw [if_neg h6] at h
  exact absurd rfl h
theorem wordNo_le (x : List UInt8) : wordNo x ≤ 6 := by
  by_cases h : wordNo x = 0
  · omega
  · exact (word_of h).2.2
theorem wordNo_iff {x : List UInt8} {k : Nat} (h1 : 1 ≤ k) (h6 : k ≤ 6) : wordNo x = k ↔ x = wordB k := by
  constructor
  · intro h
    have := (word_of (x := x) (by omega)).1
    rw [h] at this
    exact this.symm
  · rintro rfl
    exact wordNo_word k h1 h6
theorem wordB_no32 (k : Nat) : (32 : UInt8) ∉ wordB k := by
  unfold wordB
  match k with
  | 0 | 1 | 2 | 3 | 4 | 5 | 6 => decide
  | n + 7 => simp

/-- The deed of a word and numbers. -/
def ddOf (k : Nat) (ns : List Nat) : Dd := ⟨(k : Int), ((ns[0]?.getD 0 : Nat) : Int), ((ns[1]?.getD 0 : Nat) : Int), ((ns[2]?.getD 0 : Nat) : Int)⟩
/-- What a line comes to. -/
def readD (l : List UInt8) : Option Dd := match cutL 32 l with
  | [] => none
  | x :: r => if wordNo x ≠ 0 ∧ r.length = (ddPlaces (wordNo x : Int)).length ∧ r.all (numOk 2) = true then some (ddOf (wordNo x) (r.map digV)) else none
/-- A deed's line, without its end. -/
def lineD (d : Dd) : List UInt8 := wordB d.what.toNat ++ (ddNums d).flatMap numB
theorem ddText_line (d : Dd) : ddText d = lineD d ++ [10] := rfl

theorem dec_num2 {n : Nat} (h : n < 100) : numOk 2 (Lib.decDigits n) = true ∧ digV (Lib.decDigits n) = n := dec_num rfl (digits_le h)
theorem dec_no (n : Nat) {c : UInt8} (hc : isDig c = false) : c ∉ Lib.decDigits n := dig_not (digV_dec n).2.1 hc

theorem cut_line (d : Dd) : cutL 32 (lineD d) = wordB d.what.toNat :: (ddNums d).map Lib.decDigits := by
  have h := cutL_join 32 ((ddNums d).map Lib.decDigits) (wordB d.what.toNat) (wordB_no32 _) (fun y hy => by
    obtain ⟨n, _, rfl⟩ := List.mem_map.1 hy
    exact dec_no n (by decide))
  rw [List.flatMap_map] at h
  exact h
/-- The fields of a deed that is right say what it is. -/
theorem ddOf_nums {d : Dd} (h : ddFault d = 0) : ddOf d.what.toNat (ddNums d) = d := by
  have hr := dd_right h
  obtain ⟨a, b, c, e⟩ := d
  simp only at hr
  unfold ddNums ddPlaces ddOf
  simp only
  by_cases h5 : a = 5 ∨ a = 6
  · rw [if_pos h5]
    have hc : c = 0 := by omega
    have he : e = 0 := by omega
    subst hc he
    simp [ddField]
    try omega
  · rw [if_neg h5]
    by_cases h2 : a = 2
    · rw [if_pos h2]
      simp [ddField]
      try omega
    · rw [if_neg h2]
      have he : e = 0 := by omega
      subst he
      simp [ddField]
      try omega
/-- What is printed is read as it was. -/
theorem read_line {d : Dd} (h : ddFault d = 0) : readD (lineD d) = some d := by
  have hr := dd_right h
  have hn := ddNums_lt h
  unfold readD
  rw [cut_line]
  have hw : wordNo (wordB d.what.toNat) = d.what.toNat := wordNo_word _ (by omega) (by omega)
  have ha : ((ddNums d).map Lib.decDigits).all (numOk 2) = true := by
    rw [List.all_eq_true]
    intro x hx
    obtain ⟨n, hm, rfl⟩ := List.mem_map.1 hx
    exact (dec_num2 (by have := hn n hm; omega)).1
  have hv : ((ddNums d).map Lib.decDigits).map digV = ddNums d := by
    rw [List.map_map]
    have : ∀ l : List Nat, (∀ n ∈ l, n < 30) → l.map (digV ∘ Lib.decDigits) = l := by
      intro l
      induction l with
      | nil => intro _; rfl
      | cons n l ih =>
        intro hl
        rw [List.map_cons, ih (fun x hx => hl x (by simp [hx]))]
        show digV (Lib.decDigits n) :: l = n :: l
        rw [(dec_num2 (n := n) (by have := hl n (by simp); omega)).2]
    exact this _ hn
  simp only
  have hlen : ((ddNums d).map Lib.decDigits).length = (ddPlaces ((d.what.toNat : Nat) : Int)).length := by
    rw [show ((d.what.toNat : Nat) : Int) = d.what by omega]
    simp [ddNums]
  rw [hw, hv, ddOf_nums h, if_pos ⟨by omega, hlen, ha⟩]
theorem ddOf_nums_of {k : Nat} {ns : List Nat} (hl : ns.length = (ddPlaces (k : Int)).length) : ddNums (ddOf k ns) = ns := by
  have hp : ddNums (ddOf k ns) = (ddPlaces (k : Int)).map (ddField (ddOf k ns)) := rfl
  rw [hp]
  have hc : ddPlaces (k : Int) = [1] ∨ ddPlaces (k : Int) = [1, 2, 3] ∨ ddPlaces (k : Int) = [1, 2] := by
    unfold ddPlaces
    split
    · exact .inl rfl
    · split
      · exact .inr (.inl rfl)
      · exact .inr (.inr rfl)
  rcases hc with hc | hc | hc
  · rw [hc] at hl ⊢
    match ns, hl with
    | [a], _ => simp [ddField, ddOf]
  · rw [hc] at hl ⊢
    match ns, hl with
    | [a, b, c], _ => simp [ddField, ddOf]
  · rw [hc] at hl ⊢
    match ns, hl with
    | [a, b], _ => simp [ddField, ddOf]
/-- .. and what is read is printed as it was. -/
theorem text_line {l : List UInt8} {d : Dd} (h : readD l = some d) : lineD d = l := by
  unfold readD at h
  cases hc : cutL 32 l with
  | nil => exact absurd hc (cutL_ne _ _)
  | cons x r =>
    rw [hc] at h
    simp only at h
    split at h
    · rename_i hx
      obtain ⟨w0, wl, wa⟩ := hx
      obtain rfl := Option.some.inj h
      obtain ⟨e1, e2, e3⟩ := word_of w0
      have hj := join_cutL 32 l x r hc
      unfold lineD
      rw [ddOf_nums_of (by rw [List.length_map]; exact wl)]
      show wordB ((wordNo x : Int)).toNat ++ _ = _
      rw [show ((wordNo x : Int)).toNat = wordNo x by omega, e1, hj]
      congr 1
      rw [List.flatMap_map]
      have : ∀ q : List (List UInt8), q.all (numOk 2) = true → (q.flatMap fun y => numB (digV y)) = q.flatMap fun y => 32 :: y := by
        intro q
        induction q with
        | nil => intro _; rfl
        | cons y q ih =>
          intro hq
          simp only [List.all_cons, Bool.and_eq_true] at hq
          rw [List.flatMap_cons, List.flatMap_cons, ih hq.2]
          unfold numB
          rw [num_dec hq.1]
      exact this _ wa
    · cases h
theorem read_bounds {l : List UInt8} {d : Dd} (h : readD l = some d) : ddWf d := by
  unfold readD at h
  cases hc : cutL 32 l with
  | nil => exact absurd hc (cutL_ne _ _)
  | cons x r =>
    rw [hc] at h
    simp only at h
    split at h
    · rename_i hx
      obtain ⟨w0, _, wa⟩ := hx
      obtain rfl := Option.some.inj h
      obtain ⟨_, e2, e3⟩ := word_of w0
      have hb : ∀ i : Nat, ((r.map digV)[i]?.getD 0) < 100 := by
        intro i
        by_cases hi : i < (r.map digV).length
        · rw [List.getElem?_eq_getElem hi]
          simp only [Option.getD_some, List.getElem_map]
          have hm : r[i]'(by simpa using hi) ∈ r := List.getElem_mem _
          obtain ⟨_, k2, k3, _⟩ := numOk_iff.1 (List.all_eq_true.1 wa _ hm)
          have k4 := digV_pow _ k3
          have k5 : 10 ^ (r[i]'(by simpa using hi)).length ≤ 10 ^ 2 := Nat.pow_le_pow_right (by omega) k2
          omega
        · rw [List.getElem?_eq_none (by omega)]; simp
      have h0 := hb 0
      have h1 := hb 1
      have h2 := hb 2
      have key : ∀ n : Nat, n < 100 → (Lit.int .i64 (n : Int)).wf = true := by
        intro n hn
        have e1 : IntKind.i64.min = -9223372036854775808 := rfl
        have e2 : IntKind.i64.max = 9223372036854775807 := rfl
        simp only [Lit.wf, Bool.and_eq_true, decide_eq_true_eq, e1, e2]
        omega
      exact ⟨key _ (by omega), key _ h0, key _ h1, key _ h2⟩
    · cases h

/-- A line with its end. -/
def readE (l : List UInt8) : Option Dd := if l.getLast? = some 10 then readD l.dropLast else none
theorem readE_line (l : List UInt8) : readE (l ++ [10]) = readD l := by simp [readE]
def readDs : List (List UInt8) → Option (List Dd)
  | [] => some []
  | x :: r => match readE x, readDs r with
    | some d, some q => some (d :: q)
    | _, _ => none
theorem readDs_snoc : ∀ {l : List (List UInt8)} {q : List Dd} {x : List UInt8} {d : Dd}, readDs l = some q → readE x = some d → readDs (l ++ [x]) = some (q ++ [d])
  | [], q, x, d, h, hx => by
    obtain rfl := Option.some.inj h
    show readDs [x] = _
    unfold readDs
    rw [hx]
    rfl
  | y :: l, q, x, d, h, hx => by
    unfold readDs at h
    split at h
    · rename_i a b h1 h2
      obtain rfl := Option.some.inj h
      rw [List.cons_append]
      unfold readDs
      rw [h1, readDs_snoc h2 hx]
      rfl
    · cases h
theorem readDs_none : ∀ {l : List (List UInt8)} {x : List UInt8}, x ∈ l → readE x = none → readDs l = none
  | y :: l, x, h, hx => by
    unfold readDs
    rcases List.mem_cons.1 h with rfl | h
    · rw [hx]
    · rw [readDs_none h hx]
      cases readE y <;> rfl
theorem text_readE {l : List UInt8} {d : Dd} (h : readE l = some d) : ddText d = l ∧ ddWf d := by
  unfold readE at h
  split at h
  · rename_i hl
    refine ⟨?_, read_bounds h⟩
    rw [ddText_line, text_line h]
    obtain ⟨ys, hy⟩ := List.getLast?_eq_some_iff.1 hl
    rw [hy]
    simp
  · cases h
theorem text_readDs : ∀ {r : List (List UInt8)} {q : List Dd}, readDs r = some q → q.map ddText = r ∧ (∀ d ∈ q, ddWf d) ∧ q.length = r.length
  | [], q, h => by
    obtain rfl := Option.some.inj h
    exact ⟨rfl, by simp, rfl⟩
  | x :: r, q, h => by
    unfold readDs at h
    split at h
    · rename_i d b h1 h2
      obtain rfl := Option.some.inj h
      obtain ⟨a1, a2⟩ := text_readE h1
      obtain ⟨b1, b2, b3⟩ := text_readDs h2
      refine ⟨by rw [List.map_cons, a1, b1], fun y hy => ?_, by simp [b3]⟩
      rcases List.mem_cons.1 hy with rfl | hy
      · exact a2
      · exact b2 y hy
    · cases h
theorem flat_lines : ∀ (l : List UInt8), (linesOf l).flatten = l
  | [] => rfl
  | c :: l => by
    have ih := flat_lines l
    unfold linesOf
    split
    · rename_i h
      rw [List.flatten_cons, ih, h]
      rfl
    · cases hl : linesOf l with
      | nil =>
        rw [hl] at ih
        simp only [List.flatten_nil] at ih
        rw [← ih]
        rfl
      | cons x xs =>
        rw [hl] at ih
        simp only [List.flatten_cons] at ih ⊢
        rw [List.cons_append, ih]
/-- What a text of deeds is read as. -/
def readDT (t : List UInt8) : Option (List Dd) := readDs (linesOf t)
theorem text_readDT {t : List UInt8} {q : List Dd} (h : readDT t = some q) : ddsText q = t ∧ (∀ d ∈ q, ddWf d) ∧ q.length = (linesOf t).length := by
  obtain ⟨h1, h2, h3⟩ := text_readDs h
  refine ⟨?_, h2, h3⟩
  have := flat_lines t
  rw [← h1] at this
  rw [← this]
  unfold ddsText
  rw [List.flatMap_def]
theorem line_cons' (d : List UInt8) (h : (10 : UInt8) ∉ d) (r : List UInt8) : linesOf (d ++ 10 :: r) = (d ++ [10]) :: linesOf r := by
  induction d with
  | nil => simp [linesOf]
  | cons a d ih =>
    have ha : a ≠ 10 := fun e => h (by simp [e])
    have := ih (fun hm => h (by simp [hm]))
    show linesOf (a :: (d ++ 10 :: r)) = _
    rw [linesOf, if_neg ha, this]
    simp
theorem lineD_no10 (d : Dd) : (10 : UInt8) ∉ lineD d := by
  unfold lineD
  intro h
  rcases List.mem_append.1 h with h | h
  · exact wordB_no10 _ h
  · obtain ⟨n, _, hn⟩ := List.mem_flatMap.1 h
    rcases List.mem_cons.1 hn with hn | hn
    · revert hn; decide
    · exact dec_no n (by decide) hn
theorem lines_dds : ∀ (l : List Dd), linesOf (ddsText l) = l.map ddText
  | [] => rfl
  | d :: l => by
    have e : ddsText (d :: l) = lineD d ++ 10 :: ddsText l := by simp [ddsText, ddText_line]
    rw [e, line_cons' _ (lineD_no10 d), lines_dds l]
    rfl
theorem read_dds {l : List Dd} (h : ∀ d ∈ l, ddFault d = 0) : readDT (ddsText l) = some l := by
  unfold readDT
  rw [lines_dds]
  induction l with
  | nil => rfl
  | cons d l ih =>
    rw [List.map_cons]
    unfold readDs
    rw [ddText_line, readE_line, read_line (h d (by simp)), ih (fun x hx => h x (by simp [hx]))]

/-- A text's lines are what it is cut into. -/
theorem lines_cut : ∀ (l : List UInt8), linesOf l = ((cutL 10 l).dropLast.map (· ++ [10])) ++ (if (cutL 10 l).getLast (cutL_ne 10 l) = [] then [] else [(cutL 10 l).getLast (cutL_ne 10 l)])
  | [] => by simp [linesOf, cutL]
  | c :: l => by
    have ih := lines_cut l
    have hne := cutL_ne 10 l
    by_cases hc : c = 10
    · have e : cutL 10 (c :: l) = [] :: cutL 10 l := by
        conv => lhs; unfold cutL
        rw [if_pos hc]
      rw [linesOf, if_pos hc, ih]
      have e1 : (cutL 10 (c :: l)).dropLast = [] :: (cutL 10 l).dropLast := by rw [e, List.dropLast_cons_of_ne_nil hne]
      have e2 : (cutL 10 (c :: l)).getLast (cutL_ne 10 (c :: l)) = (cutL 10 l).getLast hne := by
        simp only [e]
        exact List.getLast_cons hne
      rw [e1, e2]
      rfl
    · obtain ⟨p, r, hpr⟩ : ∃ p r, cutL 10 l = p :: r := by
        cases hx : cutL 10 l with
        | nil => exact absurd hx hne
        | cons p r => exact ⟨p, r, rfl⟩
      have e : cutL 10 (c :: l) = (c :: p) :: r := by
        conv => lhs; unfold cutL
        rw [if_neg hc, hpr]
      rw [linesOf, if_neg hc]
      simp only [hpr] at ih
      simp only [e]
      cases r with
      | nil =>
        have e1 : linesOf l = if p = [] then [] else [p] := by
          rw [ih]
          by_cases hp : p = []
          · rw [if_pos hp, if_pos (by simpa using hp)]; rfl
          · rw [if_neg hp, if_neg (by simpa using hp)]; rfl
        have e2 : (if [c :: p].getLast (by simp) = [] then ([] : List (List UInt8)) else [[c :: p].getLast (by simp)]) = [c :: p] := by
          rw [if_neg (by simp)]; rfl
        rw [e1, e2]
        by_cases hp : p = []
        · subst hp; rfl
        · rw [if_neg hp]; rfl
      | cons a r =>
        rw [List.dropLast_cons_of_ne_nil (by simp), List.getLast_cons (by simp)] at ih ⊢
        rw [ih]
        rfl
theorem readDs_map (r : List (List UInt8)) : readDs (r.map (· ++ [10])) = r.mapM readD := by
  induction r with
  | nil => rfl
  | cons x r ih =>
    rw [List.map_cons, List.mapM_cons]
    unfold readDs
    rw [readE_line, ih]
    cases readD x with
    | none => rfl
    | some d => cases r.mapM readD <;> rfl
/-- .. so that a text is read piece by piece. -/
theorem readDT_cut (t : List UInt8) : readDT t = if (cutL 10 t).getLast (cutL_ne 10 t) = [] then (cutL 10 t).dropLast.mapM readD else none := by
  unfold readDT
  rw [lines_cut]
  split
  · rw [List.append_nil, readDs_map]
  · rename_i h
    refine readDs_none (x := (cutL 10 t).getLast (cutL_ne 10 t)) (by simp) ?_
    unfold readE
    rw [if_neg]
    intro e
    exact cutL_free 10 t _ (List.getLast_mem (cutL_ne 10 t)) (List.mem_of_getLast? e)

/-- What Parse answers. -/
def dparseF (t : List UInt8) : Int := match readDT t with
  | none => 2
  | some q => ddsFault q
theorem dparseF_some {t : List UInt8} {q : List Dd} (h : readDT t = some q) : dparseF t = ddsFault q := by unfold dparseF; rw [h]
theorem dparseF_none {t : List UInt8} (h : readDT t = none) : dparseF t = 2 := by unfold dparseF; rw [h]

end Go.Proofs.YtoofalchkedciaaDoor
