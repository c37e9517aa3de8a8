/-
  Cells in plain words: what an op comes to, what all tasks come to along an order.
  The first place of a list at which a test says yes.
  Contracts of slices.IndexFunc and slices.ContainsFunc at []int for whatever function literal, with whatever it captures.
-/
import Derived.Test.YtmopbimineoogaaDoorP8CellsTell
import Derived.Test.YtmopbimineoogaaDoorP9CellsTell
import Derived.Test.YtmopbimineoogaaDoorP10CellsTell
import Derived.Test.YtmopbimineoogaaDoorP4CellsTell
namespace Go.Proofs.YtmopbimineoogaaDoor
open Go.RowKit

def inV (n : Int) : Prop := -1000000000 ≤ n ∧ n ≤ 1000000000
instance (n : Int) : Decidable (inV n) := by unfold inV; infer_instance

def ceOk (c : Ce) : Prop := inV c.n ∧ (c.bad = true → c.n = 0)
def opOk (o : Opn) : Prop := 1 ≤ o.what ∧ o.what ≤ 5 ∧ inV o.n
instance (c : Ce) : Decidable (ceOk c) := by unfold ceOk; infer_instance
instance (o : Opn) : Decidable (opOk o) := by unfold opOk; infer_instance
def ceBad : Ce := ⟨0, true⟩
theorem ceBad_ok : ceOk ceBad := ⟨by unfold inV ceBad; simp, fun _ => rfl⟩

def foldC (F : Int → Int → Int) : Int → List Ce → Ce
  | n, [] => ⟨n, false⟩
  | n, c :: l => if c.bad = true then ceBad else if inV (F n c.n) then foldC F (F n c.n) l else ceBad
def firstC (n : Int) : List Ce → Ce
  | [] => ⟨n, false⟩
  | c :: l => if c.bad = true then firstC n l else c
def splitC (n : Int) (s : Ce) : Ce := if s.bad = true ∨ s.n = 0 then ceBad else ⟨n.tdiv s.n, false⟩
def doC (o : Opn) (l : List Ce) : Ce :=
  if o.what = 1 then foldC (fun a b => a + b) o.n l else if o.what = 2 then foldC (fun a b => max a b) o.n l else if o.what = 3 then foldC (fun a b => a * b) o.n l
  else if o.what = 4 then splitC o.n (foldC (fun a b => a + b) 0 l) else firstC o.n l

theorem foldC_ok (F : Int → Int → Int) (n : Int) (l : List Ce) (h : inV n) : ceOk (foldC F n l) := by
  induction l generalizing n with
  | nil => exact ⟨h, fun h => by cases h⟩
  | cons c l ih =>
    unfold foldC
    split
    · exact ceBad_ok
    · split
      · rename_i h2; exact ih _ h2
      · exact ceBad_ok
theorem firstC_ok (n : Int) (l : List Ce) (h : inV n) (hl : ∀ c ∈ l, ceOk c) : ceOk (firstC n l) := by
  induction l with
  | nil => exact ⟨h, fun h => by cases h⟩
  | cons c l ih =>
    unfold firstC
    split
    · exact ih (fun c hc => hl c (by simp [hc]))
    · exact hl c (by simp)
theorem tdiv_in (a b : Int) (h : inV a) : inV (a.tdiv b) := by
  unfold inV at *
  have h1 : (a.tdiv b).natAbs ≤ a.natAbs := by rw [Int.natAbs_tdiv]; exact Nat.div_le_self _ _
  omega
theorem splitC_ok (n : Int) (s : Ce) (h : inV n) : ceOk (splitC n s) := by
  unfold splitC
  split
  · exact ceBad_ok
  · exact ⟨tdiv_in _ _ h, fun h => by cases h⟩
theorem doC_ok (o : Opn) (l : List Ce) (h : opOk o) (hl : ∀ c ∈ l, ceOk c) : ceOk (doC o l) := by
  have h0 := h.2.2
  unfold doC
  split
  · exact foldC_ok _ _ _ h0
  · split
    · exact foldC_ok _ _ _ h0
    · split
      · exact foldC_ok _ _ _ h0
      · split
        · exact splitC_ok _ _ h0
        · exact firstC_ok _ _ h0 hl

/-- Cells of those that a task needs. -/
def needC (p : PlanL) (f : Nat → Ce) (i : Nat) : List Ce := (ndOf p i).map fun k => f k.toNat
def stepA (p : PlanL) (ops : List Opn) (f : Nat → Ce) (i : Nat) : Nat → Ce := updCl f i (doC (opAt ops i) (needC p f i))
def foldA (p : PlanL) (ops : List Opn) (o : List Nat) : Nat → Ce := o.foldl (stepA p ops) (fun _ => clZero)
theorem foldA_snoc (p : PlanL) (ops : List Opn) (o : List Nat) (i : Nat) : foldA p ops (o ++ [i]) = stepA p ops (foldA p ops o) i := by simp [foldA]

theorem clZero_ok : ceOk clZero := ⟨by unfold inV clZero; simp, fun _ => rfl⟩
theorem foldA_ok (p : PlanL) (ops : List Opn) (o : List Nat) (hops : ∀ x ∈ ops, opOk x) (ho : ∀ x ∈ o, x < ops.length) : ∀ j, ceOk (foldA p ops o j) := by
  obtain ⟨r, hr⟩ : ∃ r, r = o.reverse := ⟨_, rfl⟩
  obtain rfl : o = r.reverse := by rw [hr]; simp
  clear hr
  induction r with
  | nil => intro j; exact clZero_ok
  | cons x r ih =>
    rw [List.reverse_cons, foldA_snoc]
    have hx : ∀ y ∈ r.reverse, y < ops.length := fun y hy => ho y (by simp at hy ⊢; exact .inl hy)
    intro j
    unfold stepA updCl
    split
    · refine doC_ok _ _ (hops _ (opAt_mem (ho x (by simp)))) fun c hc => ?_
      obtain ⟨k, _, rfl⟩ := List.mem_map.1 hc
      exact ih hx _
    · exact ih hx _

/-- Does each stand behind those that it needs? -/
def aheadB (p : PlanL) (o : List Nat) : Prop := ∀ k, k < o.length → ∀ x ∈ ndOf p (o[k]?.getD 0), x.toNat ∈ o.take k
noncomputable instance (p : PlanL) (o : List Nat) : Decidable (aheadB p o) := Classical.propDecidable _

/-- What is wrong with ops; with a plan, and its ops. -/
def opFault (o : Opn) : Int := if opOk o then 0 else 1
def ceFault (c : Ce) : Int := if ceOk c then 0 else 1
open Classical in
noncomputable def opsFault (l : List Opn) : Int := if ∀ o ∈ l, opOk o then 0 else 1

/-- Each number is the op of those that it needs. -/
def Comes (p : PlanL) (ops : List Opn) (f : Nat → Ce) : Prop := ∀ i, i < p.length → f i = doC (opAt ops i) (needC p f i)

theorem ahead_snoc {p : PlanL} {o : List Nat} {i : Nat} (h : aheadB p (o ++ [i])) : aheadB p o ∧ ∀ x ∈ ndOf p i, x.toNat ∈ o := by
  constructor
  · intro k hk x hx
    have := h k (by simp; omega) x (by rw [List.getElem?_append_left hk]; exact hx)
    rwa [List.take_append_of_le_length (by omega)] at this
  · intro x hx
    have := h o.length (by simp) x (by simpa using hx)
    simpa using this

theorem needC_upd (p : PlanL) (f : Nat → Ce) (x : Nat) (c : Ce) (i : Nat) (h : ∀ k ∈ ndOf p i, k.toNat ≠ x) : needC p (updCl f x c) i = needC p f i := by
  unfold needC
  refine List.map_congr_left fun k hk => ?_
  unfold updCl
  rw [if_neg (h k hk)]

theorem foldA_in (p : PlanL) (ops : List Opn) (o : List Nat) (hn : o.Nodup) (ha : aheadB p o) : ∀ i ∈ o, foldA p ops o i = doC (opAt ops i) (needC p (foldA p ops o) i) := by
  obtain ⟨r, hr⟩ : ∃ r, r = o.reverse := ⟨_, rfl⟩
  obtain rfl : o = r.reverse := by rw [hr]; simp
  clear hr
  induction r with
  | nil => intro i hi; simp at hi
  | cons x r ih =>
    rw [List.reverse_cons] at hn ha ⊢
    obtain ⟨ha1, ha2⟩ := ahead_snoc ha
    have hn1 : r.reverse.Nodup := (List.nodup_append.1 hn).1
    have hx : x ∉ r.reverse := fun h => (List.nodup_append.1 hn).2.2 x h x (by simp) rfl
    have ihh := ih hn1 ha1
    rw [foldA_snoc]
    intro i hi
    unfold stepA
    rcases List.mem_append.1 hi with h | h
    · have hne : i ≠ x := fun e => hx (e ▸ h)
      have hnd : ∀ k ∈ ndOf p i, k.toNat ≠ x := by
        intro k hk e
        obtain ⟨m, hm⟩ := List.getElem?_of_mem h
        have hml : m < r.reverse.length := by
          rcases Nat.lt_or_ge m r.reverse.length with h1 | h1
          · exact h1
          · rw [List.getElem?_eq_none h1] at hm; cases hm
        have := ha1 m hml k (by rw [hm]; exact hk)
        exact hx (by rw [← e]; exact List.mem_of_mem_take this)
      rw [needC_upd _ _ _ _ _ hnd]
      have e1 : updCl (foldA p ops r.reverse) x (doC (opAt ops x) (needC p (foldA p ops r.reverse) x)) i = foldA p ops r.reverse i := by unfold updCl; rw [if_neg hne]
      rw [e1]
      exact ihh i h
    · obtain rfl : i = x := by simpa using h
      rw [needC_upd _ _ _ _ _ (fun k hk e => hx (by have := ha2 k hk; rw [e] at this; exact this))]
      unfold updCl
      rw [if_pos rfl]

/-- An order of all tasks, each once, behind those that it needs. -/
def orderOk (p : PlanL) (o : List Nat) : Prop := o.Nodup ∧ aheadB p o ∧ ∀ i, i < p.length → i ∈ o

theorem orderOf_ok {p : PlanL} (h : PlanOk p) : orderOk p (orderOf p) := by
  refine ⟨topo_nodup h p.length (Nat.le_refl _), fun k hk x hx => ?_, fun i hi => (orderOf_mem h i).2 hi⟩
  have hg : (orderOf p)[k]? = some ((orderOf p)[k]?.getD 0) := by rw [List.getElem?_eq_getElem hk]; rfl
  have := (orderOf_ready h k _ hg).2
  unfold readyB at this
  simp only [Bool.and_eq_true, List.all_eq_true] at this
  have h2 := this.2 x hx
  simpa using h2

theorem foldA_comes {p : PlanL} (ops : List Opn) {o : List Nat} (h : orderOk p o) : Comes p ops (foldA p ops o) := fun i hi => foldA_in p ops o h.1 h.2.1 i (h.2.2 i hi)

theorem comes_one {p : PlanL} (h : PlanOk p) {ops : List Opn} {f g : Nat → Ce} (hf : Comes p ops f) (hg : Comes p ops g) : ∀ i, i < p.length → f i = g i := by
  obtain ⟨_, ha, hall⟩ := orderOf_ok h
  have hl : (orderOf p).length = p.length := topo_len h p.length (Nat.le_refl _)
  have key : ∀ k, k ≤ p.length → ∀ i ∈ (orderOf p).take k, f i = g i := by
    intro k
    induction k with
    | zero => intro _ i hi; simp at hi
    | succ k ih =>
      intro hk i hi
      have hkl : k < (orderOf p).length := by omega
      rw [List.take_succ_eq_append_getElem hkl] at hi
      rcases List.mem_append.1 hi with h1 | h1
      · exact ih (by omega) i h1
      · have hi2 : i = (orderOf p)[k] := by simpa using h1
        have hip : i < p.length := (orderOf_mem h i).1 (by rw [hi2]; exact List.getElem_mem _)
        rw [hf i hip, hg i hip]
        congr 1
        unfold needC
        refine List.map_congr_left fun x hx => ?_
        exact ih (by omega) _ (ha k hkl x (by rw [List.getElem?_eq_getElem hkl]; simpa [← hi2] using hx))
  intro i hi
  exact key p.length (Nat.le_refl _) i (by rw [List.take_of_length_le (by omega)]; exact hall i hi)

end Go.Proofs.YtmopbimineoogaaDoor

namespace Go.Proofs.YtmopbimineoogaaDoor

/-- The first place; -1, if there is none. -/
def firstIdx (P : Int → Bool) : List Int → Int
  | [] => -1
  | x :: l => if P x then 0 else if firstIdx P l < 0 then -1 else firstIdx P l + 1

theorem firstIdx_ge (P : Int → Bool) (l : List Int) : -1 ≤ firstIdx P l := by
  induction l with
  | nil => exact Int.le_refl _
  | cons x l ih =>
    unfold firstIdx
    split
    · omega
    · split <;> omega

theorem firstIdx_any (P : Int → Bool) (l : List Int) : decide (0 ≤ firstIdx P l) = l.any P := by
  induction l with
  | nil => rfl
  | cons x l ih =>
    unfold firstIdx
    rw [List.any_cons]
    cases hx : P x
    · rw [if_neg (by simp), Bool.false_or, ← ih]
      have := firstIdx_ge P l
      split
      · simp; omega
      · simp; omega
    · simp

theorem firstIdx_none (P : Int → Bool) (l : List Int) (h : ∀ j, j < l.length → P (nth l j) = false) : firstIdx P l = -1 := by
  have ha := firstIdx_any P l
  have hf : l.any P = false := by
    rw [List.any_eq_false]
    intro x hx
    obtain ⟨j, hj, rfl⟩ := List.getElem_of_mem hx
    have := h j hj
    simpa [nth, hj] using this
  rw [hf] at ha
  have := firstIdx_ge P l
  simp at ha
  omega

theorem firstIdx_at (P : Int → Bool) (l : List Int) (i : Nat) (hi : i < l.length) (h : ∀ j, j < i → P (nth l j) = false) (hp : P (nth l i) = true) : firstIdx P l = i := by
  induction l generalizing i with
  | nil => simp at hi
  | cons x l ih =>
    unfold firstIdx
    rcases i with _ | i
    · have : P x = true := by simpa [nth] using hp
      simp [this]
    · have h0 : P x = false := by simpa [nth] using h 0 (by omega)
      have := ih i (by simpa using hi) (fun j hj => by simpa [nth] using h (j + 1) (by omega)) (by simpa [nth] using hp)
      rw [if_neg (by simp [h0]), this, if_neg (by omega)]
      rfl

end Go.Proofs.YtmopbimineoogaaDoor

namespace Go.Proofs.YtmopbimineoogaaDoor
open Go.RowKit

/-- A call of F enters it. -/
def Entered (F : FuncId) : Prop := ∀ args w, Sem.run Tryd.prog (callFunc F args) w = .ok (.enter F args) w

set_option maxHeartbeats 1000000 in
set_option maxRecDepth 100000 in
theorem fn_index (F : FuncId) (hcf : Entered F) (caps : Array Value) (v : Value) (l : List Int) (w : World) (P : Int → Bool) (h : Reads w v l) (hl : l.length ≤ 9223372036854775807)
    (hc : ∀ x, x ∈ l → ∀ n, Calls Tryd.prog F (#[.int .i64 x] ++ caps) (w.drewN n) fun e w' => e = .returned (.bool (P x)) ∧ ∃ m, w' = w.drewN m) :
    Calls Tryd.prog 59 #[v, .func (.func F) #[] caps] w fun e w' => e = .returned (.int .i64 (firstIdx P l)) ∧ ∃ m, w' = w.drewN m := by
  obtain ⟨a, c, rfl, ha⟩ := h.opt
  obtain ⟨n, hn⟩ : ∃ n, l.length = n := ⟨_, rfl⟩
  have HN := Lib.hid hn
  have HC := Lib.hid hc
  rw [hn] at ha hl ⊢
  clear h hn hc
  go_enter Tryd.func59, Tryd.ntmps59
  go_wp2_with fail
  go_loopw [8] (fun vi wr => ∃ i : Nat, i ≤ n ∧ vi = .int .i64 i ∧ (∀ j, j < i → P (nth l j) = false) ∧ ∃ m, wr = w.drewN m) (fun vi _ => n - (intOf vi).toNat)
  case atStart => exact ⟨0, Nat.zero_le _, rfl, fun j hj => by omega, 0, rfl⟩
  case round =>
    obtain ⟨i, hi, rfl, hno, m, rfl⟩ := hrel
    have HNO := Lib.hid hno
    clear hno
    by_cases hin : i < n
    · obtain ⟨ba, oa, rfl, k0⟩ := ha i hin
      have hcl := HC.out (nth l i) (by simp [nth, HN.out, hin]) m
      obtain ⟨z, hz⟩ : ∃ z, nth l i = z := ⟨_, rfl⟩
      have HZ := Lib.hid hz
      rw [hz] at k0 hcl
      obtain ⟨pz, hpz⟩ : ∃ p, P z = p := ⟨_, rfl⟩
      have HPZ := Lib.hid hpz
      rw [hpz] at hcl
      clear ha hz hpz
      go_wp2_with fail
      rw [hcf, Oper.upon_enter]
      refine hcl.mono ?_
      rintro e w9 ⟨rfl, m9, rfl⟩
      clear hcl
      cases pz
      · go_wp2
        go_roundw
        case rel =>
          refine ⟨i + 1, by omega, by go_num, fun j hj => ?_, _, rfl⟩
          by_cases e : j = i
          · subst e; rw [HZ.out]; exact HPZ.out
          · exact HNO.out j (by omega)
        case measure => (simp [intOf]; try omega)
      · have hf := Lib.hid (firstIdx_at P l i (by rw [HN.out]; exact hin) HNO.out (by rw [HZ.out]; exact HPZ.out))
        go_wp2
        go_ret
        exact ⟨by rw [hf.out]; rfl, _, rfl⟩
    · obtain rfl : i = n := by omega
      have hf := Lib.hid (firstIdx_none P l (fun j hj => HNO.out j (by rw [HN.out] at hj; exact hj)))
      clear ha
      go_wp2
      go_ret
      exact ⟨by rw [hf.out]; rfl, _, rfl⟩

set_option maxRecDepth 100000 in
theorem fn_contains (F : FuncId) (hcf : Entered F) (caps : Array Value) (v : Value) (l : List Int) (w : World) (P : Int → Bool) (h : Reads w v l) (hl : l.length ≤ 9223372036854775807)
    (hc : ∀ x, x ∈ l → ∀ n, Calls Tryd.prog F (#[.int .i64 x] ++ caps) (w.drewN n) fun e w' => e = .returned (.bool (P x)) ∧ ∃ m, w' = w.drewN m) (r : Bool) (hr : l.any P = r) :
    Calls Tryd.prog 50 #[v, .func (.func F) #[] caps] w fun e w' => e = .returned (.bool r) ∧ ∃ m, w' = w.drewN m := by
  have HR := Lib.hid hr
  have hi := fn_index F hcf caps v l w P h hl hc
  have hs := firstIdx_any P l
  rw [hr] at hs
  obtain ⟨z, hz⟩ : ∃ z, firstIdx P l = z := ⟨_, rfl⟩
  rw [hz] at hi hs
  clear hr hc hz
  go_enter Tryd.func50, Tryd.ntmps50
  go_wp2_with fail
  refine hi.mono ?_
  rintro e w1 ⟨rfl, m, rfl⟩
  clear hi
  go_wp2
  go_ret
  exact ⟨by simp, _, rfl⟩

end Go.Proofs.YtmopbimineoogaaDoor
