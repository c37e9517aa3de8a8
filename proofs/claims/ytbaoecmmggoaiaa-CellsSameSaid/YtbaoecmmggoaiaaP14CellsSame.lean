/-
  Cells in plain words: what an op comes to, what all tasks come to along an order.
-/
import Derived.Test.YtbaoecmmggoaiaaP11CellsSame
import Derived.Test.YtbaoecmmggoaiaaP12CellsSame
import Derived.Test.YtbaoecmmggoaiaaP13CellsSame
namespace Go.Proofs.Ytbaoecmmggoaiaa
open Go.RowKit

def inV (n : Int) : Prop := -1000000000 ≤ n ∧ n ≤ 1000000000
instance (n : Int) : Decidable (inV n) := by unfold inV; infer_instance

def ceOk (c : Ce) : Prop := inV c.n ∧ (c.bad = true → c.n = 0)
def opOk (o : Opn) : Prop := 1 ≤ o.what ∧ o.what ≤ 5 ∧ inV o.n
instance (c : Ce) : Decidable (ceOk c) := by unfold ceOk; infer_instance
instance (o : Opn) : Decidable (opOk o) := by unfold opOk; infer_instance
def ceBad : Ce := ⟨0, true⟩
theorem ceBad_ok : ceOk ceBad := ⟨by unfold inV ceBad; simp, fun _ => rfl⟩

def foldC (F : Int → Int → Int) : Int → List Ce → Ce
  | n, [] => ⟨n, false⟩
  | n, c :: l => if c.bad = true then ceBad else if inV (F n c.n) then foldC F (F n c.n) l else ceBad
def firstC (n : Int) : List Ce → Ce
  | [] => ⟨n, false⟩
  | c :: l => if c.bad = true then firstC n l else c
def splitC (n : Int) (s : Ce) : Ce := if s.bad = true ∨ s.n = 0 then ceBad else ⟨n.tdiv s.n, false⟩
def doC (o : Opn) (l : List Ce) : Ce :=
  if o.what = 1 then foldC (fun a b => a + b) o.n l else if o.what = 2 then foldC (fun a b => max a b) o.n l else if o.what = 3 then foldC (fun a b => a * b) o.n l
  else if o.what = 4 then splitC o.n (foldC (fun a b => a + b) 0 l) else firstC o.n l

theorem foldC_ok (F : Int → Int → Int) (n : Int) (l : List Ce) (h : inV n) : ceOk (foldC F n l) := by
  induction l generalizing n with
  | nil => exact ⟨h, fun h => by cases h⟩
  | cons c l ih =>
    unfold foldC
    split
    · exact ceBad_ok
    · split
      · rename_i h2; exact ih _ h2
      · exact ceBad_ok
theorem firstC_ok (n : Int) (l : List Ce) (h : inV n) (hl : ∀ c ∈ l, ceOk c) : ceOk (firstC n l) := by
  induction l with
  | nil => exact ⟨h, fun h => by cases h⟩
  | cons c l ih =>
    unfold firstC
    split
    · exact ih (fun c hc => hl c (by simp [hc]))
    · exact hl c (by simp)
theorem tdiv_in (a b : Int) (h : inV a) : inV (a.tdiv b) := by
  unfold inV at *
  have h1 : (a.tdiv b).natAbs ≤ a.natAbs := by rw [Int.natAbs_tdiv]; exact Nat.div_le_self _ _
  omega
theorem splitC_ok (n : Int) (s : Ce) (h : inV n) : ceOk (splitC n s) := by
  unfold splitC
  split
  · exact ceBad_ok
  · exact ⟨tdiv_in _ _ h, fun h => by cases h⟩
theorem doC_ok (o : Opn) (l : List Ce) (h : opOk o) (hl : ∀ c ∈ l, ceOk c) : ceOk (doC o l) := by
  have h0 := h.2.2
  unfold doC
  split
  · exact foldC_ok _ _ _ h0
  · split
    · exact foldC_ok _ _ _ h0
    · split
      · exact foldC_ok _ _ _ h0
      · split
        · exact splitC_ok _ _ h0
        · exact firstC_ok _ _ h0 hl

/-- Cells of those that a task needs. -/
def needC (p : PlanL) (f : Nat → Ce) (i : Nat) : List Ce := (ndOf p i).map fun k => f k.toNat
def stepA (p : PlanL) (ops : List Opn) (f : Nat → Ce) (i : Nat) : Nat → Ce := updCl f i (doC (opAt ops i) (needC p f i))
def foldA (p : PlanL) (ops : List Opn) (o : List Nat) : Nat → Ce := o.foldl (stepA p ops) (fun _ => clZero)
theorem foldA_snoc (p : PlanL) (ops : List Opn) (o : List Nat) (i : Nat) : foldA p ops (o ++ [i]) = stepA p ops (foldA p ops o) i := by simp [foldA]

theorem clZero_ok : ceOk clZero := ⟨by unfold inV clZero; simp, fun _ => rfl⟩
theorem foldA_ok (p : PlanL) (ops : List Opn) (o : List Nat) (hops : ∀ x ∈ ops, opOk x) (ho : ∀ x ∈ o, x < ops.length) : ∀ j, ceOk (foldA p ops o j) := by
  obtain ⟨r, hr⟩ : ∃ r, r = o.reverse := ⟨_, rfl⟩
  obtain rfl : o = r.reverse := by rw [hr]; simp
  clear hr
  induction r with
  | nil => intro j; exact clZero_ok
  | cons x r ih =>
    rw [List.reverse_cons, foldA_snoc]
    have hx : ∀ y ∈ r.reverse, y < ops.length := fun y hy => ho y (by simp at hy ⊢; exact .inl hy)
    intro j
    unfold stepA updCl
    split
    · refine doC_ok _ _ (hops _ (opAt_mem (ho x (by simp)))) fun c hc => ?_
      obtain ⟨k, _, rfl⟩ := List.mem_map.1 hc
      exact ih hx _
    · exact ih hx _

/-- Does each stand behind those that it needs? -/
def aheadB (p : PlanL) (o : List Nat) : Prop := ∀ k, k < o.length → ∀ x ∈ ndOf p (o[k]?.getD 0), x.toNat ∈ o.take k
noncomputable instance (p : PlanL) (o : List Nat) : Decidable (aheadB p o) := Classical.propDecidable _

/-- What is wrong with ops; with a plan, and its ops. -/
def opFault (o : Opn) : Int := if opOk o then 0 else 1
def ceFault (c : Ce) : Int := if ceOk c then 0 else 1
open Classical in
noncomputable def opsFault (l : List Opn) : Int := if ∀ o ∈ l, opOk o then 0 else 1

/-- Each number is the op of those that it needs. -/
def Comes (p : PlanL) (ops : List Opn) (f : Nat → Ce) : Prop := ∀ i, i < p.length → f i = doC (opAt ops i) (needC p f i)

theorem ahead_snoc {p : PlanL} {o : List Nat} {i : Nat} (h : aheadB p (o ++ [i])) : aheadB p o ∧ ∀ x ∈ ndOf p i, x.toNat ∈ o := by
  constructor
  · intro k hk x hx
    have := h k (by simp; omega) x (by rw [List.getElem?_append_left hk]; exact hx)
    rwa [List.take_append_of_le_length (by omega)] at this
  · intro x hx
    have := h o.length (by simp) x (by simpa using hx)
    simpa using this

theorem needC_upd (p : PlanL) (f : Nat → Ce) (x : Nat) (c : Ce) (i : Nat) (h : ∀ k ∈ ndOf p i, k.toNat ≠ x) : needC p (updCl f x c) i = needC p f i := by
  unfold needC
  refine List.map_congr_left fun k hk => ?_
  unfold updCl
  rw [if_neg (h k hk)]

theorem foldA_in (p : PlanL) (ops : List Opn) (o : List Nat) (hn : o.Nodup) (ha : aheadB p o) : ∀ i ∈ o, foldA p ops o i = doC (opAt ops i) (needC p (foldA p ops o) i) := by
  obtain ⟨r, hr⟩ : ∃ r, r = o.reverse := ⟨_, rfl⟩
  obtain rfl : o = r.reverse := by rw [hr]; simp
  clear hr
  induction r with
  | nil => intro i hi; simp at hi
  | cons x r ih =>
    rw [List.reverse_cons] at hn ha ⊢
    obtain ⟨ha1, ha2⟩ := ahead_snoc ha
    have hn1 : r.reverse.Nodup := (List.nodup_append.1 hn).1
    have hx : x ∉ r.reverse := fun h => (List.nodup_append.1 hn).2.2 x h x (by simp) rfl
    have ihh := ih hn1 ha1
    rw [foldA_snoc]
    intro i hi
    unfold stepA
    rcases List.mem_append.1 hi with h | h
    · have hne : i ≠ x := fun e => hx (e ▸ h)
      have hnd : ∀ k ∈ ndOf p i, k.toNat ≠ x := by
        intro k hk e
        obtain ⟨m, hm⟩ := List.getElem?_of_mem h
        have hml : m < r.reverse.length := by
          rcases Nat.lt_or_ge m r.reverse.length with h1 | h1
          · exact h1
          · rw [List.getElem?_eq_none h1] at hm; cases hm
        have := ha1 m hml k (by rw [hm]; exact hk)
        exact hx (by rw [← e]; exact List.mem_of_mem_take this)
      rw [needC_upd _ _ _ _ _ hnd]
      have e1 : updCl (foldA p ops r.reverse) x (doC (opAt ops x) (needC p (foldA p ops r.reverse) x)) i = foldA p ops r.reverse i := by unfold updCl; rw [if_neg hne]
      rw [e1]
      exact ihh i h
    · obtain rfl : i = x := by simpa using h
      rw [needC_upd _ _ _ _ _ (fun k hk e => hx (by have := ha2 k hk; rw [e] at this; exact this))]
      unfold updCl
      rw [if_pos rfl]

/-- An order of all tasks, each once, behind those that it needs. -/
def orderOk (p : PlanL) (o : List Nat) : Prop := o.Nodup ∧ aheadB p o ∧ ∀ i, i < p.length → i ∈ o

theorem orderOf_ok {p : PlanL} (h : PlanOk p) : orderOk p (orderOf p) := by
  refine ⟨topo_nodup h p.length (Nat.le_refl _), fun k hk x hx => ?_, fun i hi => (orderOf_mem h i).2 hi⟩
  have hg : (orderOf p)[k]? = some ((orderOf p)[k]?.getD 0) := by rw [List.getElem?_eq_getElem hk]; rfl
  have := (orderOf_ready h k _ hg).2
  unfold readyB at this
  simp only [Bool.and_eq_true, List.all_eq_true] at this
  have h2 := this.2 x hx
  simpa using h2

theorem foldA_comes {p : PlanL} (ops : List Opn) {o : List Nat} (h : orderOk p o) : Comes p ops (foldA p ops o) := fun i hi => foldA_in p ops o h.1 h.2.1 i (h.2.2 i hi)

theorem comes_one {p : PlanL} (h : PlanOk p) {ops : List Opn} {f g : Nat → Ce} (hf : Comes p ops f) (hg : Comes p ops g) : ∀ i, i < p.length → f i = g i := by
  obtain ⟨_, ha, hall⟩ := orderOf_ok h
  have hl : (orderOf p).length = p.length := topo_len h p.length (Nat.le_refl _)
  have key : ∀ k, k ≤ p.length → ∀ i ∈ (orderOf p).take k, f i = g i := by
    intro k
    induction k with
    | zero => intro _ i hi; simp at hi
    | succ k ih =>
      intro hk i hi
      have hkl : k < (orderOf p).length := by omega
      rw [List.take_succ_eq_append_getElem hkl] at hi
      rcases List.mem_append.1 hi with h1 | h1
      · exact ih (by omega) i h1
      · have hi2 : i = (orderOf p)[k] := by simpa using h1
        have hip : i < p.length := (orderOf_mem h i).1 (by rw [hi2]; exact List.getElem_mem _)
        rw [hf i hip, hg i hip]
        congr 1
        unfold needC
        refine List.map_congr_left fun x hx => ?_
        exact ih (by omega) _ (ha k hkl x (by rw [List.getElem?_eq_getElem hkl]; simpa [← hi2] using hx))
  intro i hi
  exact key p.length (Nat.le_refl _) i (by rw [List.take_of_length_le (by omega)]; exact hall i hi)

end Go.Proofs.Ytbaoecmmggoaiaa
