/-
  Plans as text, in plain words.
-/
import Derived.Test.YtoofalchkedciaaDoorP10TraceBack
import Derived.Test.YtoofalchkedciaaDoorP11TraceBack
namespace Go.Proofs.YtoofalchkedciaaDoor

/-- What a task's text comes to. -/
def readT (l : List UInt8) : Option (Int × List Int) :=
  match cutL 60 l with
  | [a] => if numOk 4 a = true then some ((digV a : Int), []) else none
  | [a, b] => if numOk 4 a = true ∧ (cutL 44 b).all (numOk 4) = true then some ((digV a : Int), (cutL 44 b).map fun x => (digV x : Int)) else none
  | _ => none
/-- .. a plan's. -/
def readTs : List (List UInt8) → Option PlanL
  | [] => some []
  | x :: r => match readT x, readTs r with
    | some t, some p => some (t :: p)
    | _, _ => none
def readP (l : List UInt8) : Option PlanL := if l = [] then some [] else readTs (cutL 32 l)

def decI (n : Int) : List UInt8 := Lib.decDigits n.toNat
/-- What a task needs, as text. -/
def textN : List Int → List UInt8
  | [] => []
  | k :: r => 60 :: decI k ++ r.flatMap fun n => 44 :: decI n
def textT (t : Int × List Int) : List UInt8 := decI t.1 ++ textN t.2
def textP : PlanL → List UInt8
  | [] => []
  | t :: p => textT t ++ p.flatMap fun x => 32 :: textT x

theorem decI_dig (n : Int) : (decI n).all isDig = true := (digV_dec _).2.1
theorem dig_not {c : UInt8} {l : List UInt8} (h : l.all isDig = true) (hc : isDig c = false) : c ∉ l := fun hm => by
  have := List.all_eq_true.1 h c hm
  rw [hc] at this
  cases this
theorem decI_ne (n : Int) : decI n ≠ [] := (digV_dec _).2.2.1

/-- cutL undoes the joining. -/
theorem cutL_join (c : UInt8) : ∀ (r : List (List UInt8)) (x : List UInt8), c ∉ x → (∀ y ∈ r, c ∉ y) → cutL c (x ++ r.flatMap fun y => c :: y) = x :: r
  | [], x, h, _ => by simpa using cutL_no c x h
  | y :: r, x, h, hr => by
    rw [List.flatMap_cons, List.cons_append, cutL_at c x _ h, cutL_join c r y (hr y (by simp)) (fun z hz => hr z (by simp [hz]))]
/-- .. and the joining undoes cutL. -/
theorem join_cutL (c : UInt8) : ∀ (l : List UInt8) (x : List UInt8) (r : List (List UInt8)), cutL c l = x :: r → l = x ++ r.flatMap fun y => c :: y
  | [], x, r, h => by
    simp only [cutL, List.cons.injEq] at h
    obtain ⟨rfl, rfl⟩ := h
    rfl
  | b :: l, x, r, h => by
    unfold cutL at h
    split at h
    · rename_i hb
      simp only [List.cons.injEq] at h
      obtain ⟨rfl, rfl⟩ := h
      cases hc : cutL c l with
      | nil => exact absurd hc (cutL_ne c l)
      | cons p q =>
        have := join_cutL c l p q hc
        rw [List.flatMap_cons, List.nil_append, List.cons_append, hb, ← this]
    · cases hc : cutL c l with
      | nil => exact absurd hc (cutL_ne c l)
      | cons p q =>
        rw [hc] at h
        simp only [List.cons.injEq] at h
        obtain ⟨rfl, rfl⟩ := h
        have := join_cutL c l p q hc
        rw [List.cons_append, ← this]
theorem cutL_free (c : UInt8) : ∀ (l : List UInt8), ∀ x ∈ cutL c l, c ∉ x
  | [], x, h => by
    simp only [cutL, List.mem_singleton] at h
    subst h
    simp
  | b :: l, x, h => by
    unfold cutL at h
    split at h
    · rcases List.mem_cons.1 h with rfl | h
      · simp
      · exact cutL_free c l x h
    · rename_i hb
      cases hc : cutL c l with
      | nil => exact absurd hc (cutL_ne c l)
      | cons p q =>
        rw [hc] at h
        have ih := cutL_free c l
        rw [hc] at ih
        rcases List.mem_cons.1 h with rfl | h
        · have := ih p (by simp)
          simp only [List.mem_cons, not_or]
          exact ⟨fun e => hb e.symm, this⟩
        · exact ih x (by simp [h])

theorem dec_len : ∀ (k n : Nat), n < 10 ^ (k + 1) → (Lib.decDigits n).length ≤ k + 1
  | 0, n, h => by rw [Lib.decDigits_one (by omega)]; simp
  | k + 1, n, h => by
    by_cases h1 : n < 10
    · rw [Lib.decDigits_one h1]; simp
    · rw [dec_step n h1, List.length_append, List.length_singleton]
      have := dec_len k (n / 10) (by rw [Nat.pow_succ] at h; omega)
      omega
/-- Numbers that may stand in a text. -/
def Num4 (n : Int) : Prop := 0 ≤ n ∧ n < 10000
theorem dec_num4 {n : Int} (h : Num4 n) : numOk 4 (decI n) = true ∧ (digV (decI n) : Int) = n := by
  obtain ⟨h0, h1⟩ := h
  have hl : (decI n).length ≤ 4 := dec_len 3 n.toNat (by omega)
  obtain ⟨a, b⟩ := dec_num (most := 4) (n := n.toNat) rfl hl
  refine ⟨a, ?_⟩
  have : digV (decI n) = n.toNat := b
  omega
theorem num4_of {l : List UInt8} (h : numOk 4 l = true) : Num4 (digV l : Int) ∧ decI (digV l : Int) = l := by
  have h1 := num_dec h
  obtain ⟨_, h2, h3, _⟩ := numOk_iff.1 h
  have h4 := digV_pow l h3
  have h5 : 10 ^ l.length ≤ 10 ^ 4 := Nat.pow_le_pow_right (by omega) h2
  refine ⟨⟨by omega, by omega⟩, ?_⟩
  unfold decI
  rw [show ((digV l : Int)).toNat = digV l by omega]
  exact h1

def Nums4 (t : Int × List Int) : Prop := Num4 t.1 ∧ ∀ k ∈ t.2, Num4 k

theorem textN_dig : ∀ (l : List Int), ∀ c ∈ textN l, isDig c = true ∨ c = 60 ∨ c = 44
  | [], c, h => by simp [textN] at h
  | k :: r, c, h => by
    unfold textN at h
    rcases List.mem_append.1 h with h | h
    · rcases List.mem_cons.1 h with h | h
      · exact .inr (.inl h)
      · exact .inl (List.all_eq_true.1 (decI_dig k) c h)
    · obtain ⟨n, _, h⟩ := List.mem_flatMap.1 h
      rcases List.mem_cons.1 h with h | h
      · exact .inr (.inr h)
      · exact .inl (List.all_eq_true.1 (decI_dig n) c h)
theorem textT_dig (t : Int × List Int) : ∀ c ∈ textT t, isDig c = true ∨ c = 60 ∨ c = 44 := by
  intro c h
  rcases List.mem_append.1 h with h | h
  · exact .inl (List.all_eq_true.1 (decI_dig _) c h)
  · exact textN_dig _ c h
theorem textT_32 (t : Int × List Int) : (32 : UInt8) ∉ textT t := fun h => by
  rcases textT_dig t _ h with h | h | h <;> revert h <;> decide

/-- What is printed is read as it was. -/
theorem read_textT (t : Int × List Int) (h : Nums4 t) : readT (textT t) = some t := by
  obtain ⟨n, l⟩ := t
  obtain ⟨h1, h2⟩ := h
  obtain ⟨a1, a2⟩ := dec_num4 h1
  have hd : (60 : UInt8) ∉ decI n := dig_not (decI_dig n) (by decide)
  cases l with
  | nil =>
    have e : cutL 60 (textT (n, [])) = [decI n] := by
      show cutL 60 (decI n ++ []) = _
      rw [List.append_nil]
      exact cutL_no 60 _ hd
    unfold readT
    rw [e]
    simp only [a1, if_true]
    rw [a2]
  | cons k r =>
    have hb : (60 : UInt8) ∉ decI k ++ r.flatMap fun n => 44 :: decI n := by
      intro hm
      rcases List.mem_append.1 hm with hm | hm
      · exact dig_not (decI_dig k) (by decide) hm
      · obtain ⟨x, _, hx⟩ := List.mem_flatMap.1 hm
        rcases List.mem_cons.1 hx with hx | hx
        · revert hx; decide
        · exact dig_not (decI_dig x) (by decide) hx
    have e : cutL 60 (textT (n, k :: r)) = [decI n, decI k ++ r.flatMap fun n => 44 :: decI n] := by
      show cutL 60 (decI n ++ (60 :: decI k ++ r.flatMap fun n => 44 :: decI n)) = _
      rw [List.cons_append, cutL_at 60 _ _ hd, cutL_no 60 _ hb]
    have e2 : cutL 44 (decI k ++ r.flatMap fun n => 44 :: decI n) = (k :: r).map decI := by
      have := cutL_join 44 (r.map decI) (decI k) (dig_not (decI_dig k) (by decide)) (fun y hy => by
        obtain ⟨x, _, rfl⟩ := List.mem_map.1 hy
        exact dig_not (decI_dig x) (by decide))
      rw [List.flatMap_map] at this
      exact this
    unfold readT
    rw [e]
    simp only [e2]
    have e3 : ((k :: r).map decI).all (numOk 4) = true := by
      rw [List.all_eq_true]
      intro x hx
      obtain ⟨y, hy, rfl⟩ := List.mem_map.1 hx
      exact (dec_num4 (h2 y hy)).1
    rw [if_pos ⟨a1, e3⟩, a2, List.map_map]
    congr 2
    have e4 : ∀ (q : List Int), (∀ x ∈ q, Num4 x) → q.map ((fun x => (digV x : Int)) ∘ decI) = q := by
      intro q hq
      induction q with
      | nil => rfl
      | cons a q ih =>
        rw [List.map_cons, ih (fun x hx => hq x (by simp [hx]))]
        show (digV (decI a) : Int) :: q = a :: q
        rw [(dec_num4 (hq a (by simp))).2]
    exact e4 _ h2
theorem read_textTs : ∀ (p : PlanL), (∀ t ∈ p, Nums4 t) → readTs (p.map textT) = some p
  | [], _ => rfl
  | t :: p, h => by
    rw [List.map_cons]
    unfold readTs
    rw [read_textT t (h t (by simp)), read_textTs p (fun x hx => h x (by simp [hx]))]
theorem read_textP (p : PlanL) (h : ∀ t ∈ p, Nums4 t) : readP (textP p) = some p := by
  cases p with
  | nil => rfl
  | cons t p =>
    have hne : textP (t :: p) ≠ [] := by
      intro e
      have h1 : decI t.1 ++ (textN t.2 ++ p.flatMap fun x => 32 :: textT x) = [] := by
        rw [← List.append_assoc]
        exact e
      exact decI_ne _ (List.append_eq_nil_iff.1 h1).1
    unfold readP
    rw [if_neg hne]
    have e : cutL 32 (textP (t :: p)) = (t :: p).map textT := by
      have := cutL_join 32 (p.map textT) (textT t) (textT_32 t) (fun y hy => by
        obtain ⟨x, _, rfl⟩ := List.mem_map.1 hy
        exact textT_32 x)
      rw [List.flatMap_map] at this
      exact this
    rw [e]
    exact read_textTs _ h
/-- .. and what is read is printed as it was. -/
theorem text_readT {l : List UInt8} {t : Int × List Int} (h : readT l = some t) : textT t = l ∧ Nums4 t := by
  unfold readT at h
  split at h
  · rename_i a e
    split at h
    · rename_i ha
      obtain rfl := Option.some.inj h
      obtain ⟨h1, h2⟩ := num4_of ha
      have := join_cutL 60 l a [] e
      rw [List.flatMap_nil, List.append_nil] at this
      refine ⟨?_, h1, by simp⟩
      show decI (digV a : Int) ++ [] = l
      rw [h2, List.append_nil, this]
    · cases h
  · rename_i a b e
    split at h
    · rename_i hab
      obtain rfl := Option.some.inj h
      obtain ⟨h1, h2⟩ := num4_of hab.1
      have hl := join_cutL 60 l a [b] e
      have hall : ∀ x ∈ cutL 44 b, numOk 4 x = true := fun x hx => List.all_eq_true.1 hab.2 x hx
      refine ⟨?_, h1, fun k hk => by
        obtain ⟨x, hx, rfl⟩ := List.mem_map.1 hk
        exact (num4_of (hall x hx)).1⟩
      cases hc : cutL 44 b with
      | nil => exact absurd hc (cutL_ne 44 b)
      | cons x r =>
        rw [hc] at hall
        have hb := join_cutL 44 b x r hc
        show decI (digV a : Int) ++ textN ((x :: r).map fun y => (digV y : Int)) = l
        have ht : textN ((x :: r).map fun y => (digV y : Int)) = 60 :: decI (digV x : Int) ++ ((r.map fun y => (digV y : Int)).flatMap fun n => 44 :: decI n) := rfl
        rw [h2, ht, (num4_of (hall x (by simp))).2, List.flatMap_map]
        have hf : (r.flatMap fun y => 44 :: decI (digV y : Int)) = r.flatMap fun y => 44 :: y := by
          clear hc hb ht
          induction r with
          | nil => rfl
          | cons y r ih =>
            rw [List.flatMap_cons, List.flatMap_cons, (num4_of (hall y (by simp))).2, ih (fun z hz => hall z (by
              rcases List.mem_cons.1 hz with rfl | hz
              · simp
              · simp [hz]))]
        rw [hf, hl]
        simp only [List.flatMap_cons, List.flatMap_nil, List.append_nil]
        rw [List.cons_append, ← hb]
    · cases h
  · cases h
theorem text_readTs : ∀ {r : List (List UInt8)} {p : PlanL}, readTs r = some p → p.map textT = r ∧ ∀ t ∈ p, Nums4 t
  | [], p, h => by
    obtain rfl := Option.some.inj h
    exact ⟨rfl, by simp⟩
  | x :: r, p, h => by
    unfold readTs at h
    split at h
    · rename_i t q h1 h2
      obtain rfl := Option.some.inj h
      obtain ⟨a1, a2⟩ := text_readT h1
      obtain ⟨b1, b2⟩ := text_readTs h2
      refine ⟨by rw [List.map_cons, a1, b1], fun y hy => ?_⟩
      rcases List.mem_cons.1 hy with rfl | hy
      · exact a2
      · exact b2 y hy
    · cases h
theorem text_readP {l : List UInt8} {p : PlanL} (h : readP l = some p) : textP p = l ∧ ∀ t ∈ p, Nums4 t := by
  unfold readP at h
  split at h
  · rename_i e
    obtain rfl := Option.some.inj h
    rw [e]
    exact ⟨rfl, by simp⟩
  · obtain ⟨h1, h2⟩ := text_readTs h
    refine ⟨?_, h2⟩
    cases p with
    | nil =>
      rw [List.map_nil] at h1
      exact absurd h1.symm (cutL_ne 32 l)
    | cons t p =>
      have := join_cutL 32 l (textT t) (p.map textT) h1.symm
      rw [List.flatMap_map] at this
      exact this.symm

end Go.Proofs.YtoofalchkedciaaDoor
