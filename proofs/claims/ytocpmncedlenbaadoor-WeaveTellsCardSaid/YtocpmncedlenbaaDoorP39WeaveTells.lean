/-
  A region that draws its order, whose last operation waits for all the others: it is run behind them.
-/
import Derived.Test.YtocpmncedlenbaaDoorP26WeaveTells
namespace Go.Proofs.YtocpmncedlenbaaDoor
open Go

section
variable {P : Program} {md : Region.Mode}

/-- The end of the operations ahead of o: o is run. -/
def thenOp (P : Program) (o : Oper) (Q : Exit → Act → World → Prop) : Exit → Act → World → Prop
  | .normal, a, w => o.wp P a w (fun a' w' => Q .normal a' w') Q
  | e, a, w => Q e a w

theorem Oper.wp_exit {o : Oper} {a : Act} {w : World} {K : Act → World → Prop} {Q Q' : Exit → Act → World → Prop} (hQ : ∀ e a w, e ≠ .normal → Q e a w → Q' e a w) (h : o.wp P a w K Q) : o.wp P a w K Q' := by
  unfold Oper.wp at *
  generalize (execOp a.eval o).run P w = r at *
  cases r with
  | ok n w' =>
    cases n <;> simp only [Oper.upon] at h ⊢ <;>
      first
        | exact h
        | exact Calls.mono h (fun e w'' he => by
            cases e with
            | returned v => exact he
            | panicked c => exact hQ _ _ _ (by simp) he
            | outgrown => obtain ⟨a1, w1, h1⟩ := he; exact ⟨a1, w1, hQ _ _ _ (by simp) h1⟩)
  | halt x w' => cases x <;> simp only [Oper.upon] at h ⊢ <;> first | exact h | exact hQ _ _ _ (by simp) h

/-- All but the last one are waited for; none is guarded; each waits for those ahead of it alone. -/
def lastB (md : Region.Mode) (ops : Array Oper) : Bool :=
  (ops.all fun o => o.guard.isNone) &&
  ((List.range ops.size).all fun i => match ops[i]? with | some o => o.after.all fun e => !Region.binds md e || decide (e.on < i) | none => true) &&
  ((List.range ops.size).all fun i => decide (i + 1 = ops.size) || (List.range ops.size).any fun j => Region.waitsFor md ops j i)

theorem getD_push_lt {listed : Array Bool} {j : Nat} {b d : Bool} (h : j < listed.size) : (listed.push b).getD j d = listed.getD j d := by
  simp [Array.getD_eq_getD_getElem?, Array.getElem?_push, h, Nat.ne_of_lt h]
theorem getD_push_eq {listed : Array Bool} {b d : Bool} : (listed.push b).getD listed.size d = b := by
  simp [Array.getD_eq_getD_getElem?]

theorem all_listed {ops : Array Oper} (hord : ∀ (i : Nat) (o : Oper), ops[i]? = some o → ∀ e ∈ o.after, Region.binds md e = true → e.on < i) {listed : Array Bool} (hsz : listed.size = ops.size) (hr : Region.ready md ops listed = []) : ∀ j, j < ops.size → listed.getD j true = true := by
  intro j
  induction j using Nat.strongRecOn with
  | _ j ih =>
    intro hj
    cases hl : listed.getD j true with
    | true => rfl
    | false =>
      exfalso
      have hmem : j ∈ Region.ready md ops listed := mem_ready.2 ⟨hl, ops[j], Array.getElem?_eq_getElem hj, fun e he hb => by
        have hlt := hord j _ (Array.getElem?_eq_getElem hj) e he hb
        have := ih e.on hlt (by omega)
        cases hf : listed.getD e.on false with
        | true => rfl
        | false => have hx := getD_in (by omega) hf; rw [hx] at this; cases this⟩
      rw [hr] at hmem; cases hmem

theorem wpAny_last {ops : Array Oper} {o : Oper} {Q : Exit → Act → World → Prop} (hB : lastB md (ops.push o) = true) :
    ∀ (fuel : Nat) (listed : Array Bool) (a : Act) (w : World), listed.size = ops.size →
      (∀ j oj, ops[j]? = some oj → listed.getD j false = true → ∀ e ∈ oj.after, Region.binds md e = true → listed.getD e.on false = true) →
      wpAny P md ops (thenOp P o Q) fuel listed a w → wpAny P md (ops.push o) Q (fuel + 1) (listed.push false) a w := by
  simp only [lastB, Bool.and_eq_true] at hB
  obtain ⟨⟨hgd, hord⟩, hall⟩ := hB
  have hsz1 : (ops.push o).size = ops.size + 1 := by simp
  have hgd : ∀ (i : Nat) (x : Oper), (ops.push o)[i]? = some x → x.guard = none := fun i x hi => by
    have := Array.all_eq_true_iff_forall_mem.1 hgd x (Array.mem_of_getElem? hi)
    simpa using this
  have hord : ∀ (i : Nat) (x : Oper), (ops.push o)[i]? = some x → ∀ e ∈ x.after, Region.binds md e = true → e.on < i := fun i x hi e he hb => by
    have := List.all_eq_true.1 hord i (List.mem_range.2 (Array.getElem?_eq_some_iff.1 hi).1)
    simp only [hi] at this
    have := Array.all_eq_true_iff_forall_mem.1 this e he
    simpa [hb] using this
  have hlt : ∀ {i : Nat} {x : Oper}, ops[i]? = some x → (ops.push o)[i]? = some x := fun {i x} hi => by
    have := (Array.getElem?_eq_some_iff.1 hi).1
    rw [Array.getElem?_push, if_neg (by omega)]; exact hi
  have hlo : (ops.push o)[ops.size]? = some o := by simp
  have hord0 : ∀ (i : Nat) (x : Oper), ops[i]? = some x → ∀ e ∈ x.after, Region.binds md e = true → e.on < i := fun i x hi => hord i x (hlt hi)
  -- the last one is not ready while one is not listed
  have ahead : ∀ listed : Array Bool, listed.size = ops.size → (∀ j oj, ops[j]? = some oj → listed.getD j false = true → ∀ e ∈ oj.after, Region.binds md e = true → listed.getD e.on false = true) →
      (∀ e ∈ o.after, Region.binds md e = true → listed.getD e.on false = true) → ∀ d j, ops.size - j ≤ d → j < ops.size → listed.getD j false = true := by
    intro listed hsz hcl hready d
    induction d with
    | zero => intro j h1 h2; omega
    | succ d ih =>
      intro j h1 h2
      have h3 := List.all_eq_true.1 hall j (List.mem_range.2 (by omega))
      simp only [Bool.or_eq_true, decide_eq_true_eq] at h3
      rcases h3 with h3 | h3
      · omega
      · obtain ⟨j', hj', hw⟩ := List.any_eq_true.1 h3
        obtain ⟨o', ho', e, he, hb, hon⟩ := Region.waitsFor_spec hw
        have hlt' := hord j' o' ho' e he hb
        have hj'n : j' < ops.size + 1 := by have := List.mem_range.1 hj'; omega
        rw [← hon]
        by_cases e' : j' = ops.size
        · subst e'
          have : o' = o := Option.some.inj (ho'.symm.trans hlo)
          subst this
          exact hready e he hb
        · have hj'2 : j' < ops.size := by omega
          have ho2 : ops[j']? = some o' := by rw [Array.getElem?_push, if_neg (by omega)] at ho'; exact ho'
          exact hcl j' o' ho2 (ih j' (by omega) hj'2) e he hb
  have ready_lt : ∀ (listed : Array Bool) (i : Nat), listed.size = ops.size → i < ops.size → i ∈ Region.ready md (ops.push o) (listed.push false) → i ∈ Region.ready md ops listed := by
    intro listed i hsz hi h
    obtain ⟨h0, x, hx, hall'⟩ := mem_ready.1 h
    rw [getD_push_lt (by omega)] at h0
    rw [Array.getElem?_push, if_neg (by omega)] at hx
    refine mem_ready.2 ⟨h0, x, hx, fun e he hb => ?_⟩
    have := hall' e he hb
    rwa [getD_push_lt (by have := hord0 i x hx e he hb; omega)] at this
  have last_ready : ∀ (listed : Array Bool), listed.size = ops.size → ops.size ∈ Region.ready md (ops.push o) (listed.push false) → (∀ e ∈ o.after, Region.binds md e = true → listed.getD e.on false = true) := by
    intro listed hsz h e he hb
    obtain ⟨_, x, hx, hall'⟩ := mem_ready.1 h
    have : x = o := Option.some.inj (hx.symm.trans hlo)
    subst this
    have := hall' e he hb
    rwa [getD_push_lt (by have := hord _ _ hlo e he hb; omega)] at this
  have end_ok : ∀ (fuel : Nat) (listed : Array Bool) (a : Act) (w : World), listed.size = ops.size → (∀ j, j < ops.size → listed.getD j true = true) → Q .normal a w → wpAny P md (ops.push o) Q fuel ((listed.push false).setIfInBounds ops.size true) a w := by
    intro fuel listed a w hsz hl hQ
    have hr : Region.ready md (ops.push o) ((listed.push false).setIfInBounds ops.size true) = [] := by
      refine List.eq_nil_iff_forall_not_mem.2 fun j hj => ?_
      obtain ⟨h0, x, hx, _⟩ := mem_ready.1 hj
      have hjn : j < ops.size + 1 := by have := (Array.getElem?_eq_some_iff.1 hx).1; omega
      by_cases e : j = ops.size
      · subst e
        have : ops.size < (listed.push false).size := by simp; omega
        simp [Array.getD_eq_getD_getElem?] at h0
      · rw [getD_set_ne true (Ne.symm e), getD_push_lt (by omega), hl j (by omega)] at h0
        cases h0
    cases fuel with
    | zero => exact ⟨hr, hQ⟩
    | succ fuel => exact ⟨fun _ => hQ, fun i hi => by rw [hr] at hi; cases hi⟩
  have last_step : ∀ (fuel : Nat) (listed : Array Bool) (a : Act) (w : World), listed.size = ops.size → (∀ j, j < ops.size → listed.getD j true = true) → thenOp P o Q .normal a w →
      wpOp P (ops.push o) Q ops.size (wpAny P md (ops.push o) Q fuel ((listed.push false).setIfInBounds ops.size true)) a w := by
    intro fuel listed a w hsz hl h
    have hw : Region.wanted o (yielded (ops.push o) a.tmps) = true := by unfold Region.wanted; rw [hgd _ _ hlo]
    unfold wpOp
    simp only [hlo, hw, if_true]
    left
    exact Oper.wp_mono (fun a' w' hQ => end_ok fuel listed a' w' hsz hl hQ) h
  have nonempty : ∀ listed : Array Bool, listed.size = ops.size → Region.ready md (ops.push o) (listed.push false) ≠ [] := by
    intro listed hsz h
    have := all_listed hord (by simp [hsz]) h ops.size (by omega)
    rw [← hsz, getD_push_eq] at this
    cases this
  intro fuel
  induction fuel with
  | zero =>
    intro listed a w hsz hcl h
    have hl := all_listed hord0 hsz h.1
    refine ⟨fun hr => absurd hr (nonempty listed hsz), fun i hi => ?_⟩
    by_cases hin : i < ops.size
    · have := ready_lt listed i hsz hin hi
      rw [h.1] at this; cases this
    · have hie : i = ops.size := by
        obtain ⟨_, x, hx, _⟩ := mem_ready.1 hi
        have := (Array.getElem?_eq_some_iff.1 hx).1
        omega
      subst hie
      exact last_step 0 listed a w hsz hl h.2
  | succ fuel ih =>
    intro listed a w hsz hcl h
    refine ⟨fun hr => absurd hr (nonempty listed hsz), fun i hi => ?_⟩
    by_cases hin : i < ops.size
    · have hi0 := ready_lt listed i hsz hin hi
      have hop := h.2 i hi0
      obtain ⟨hun, x, hx, hall'⟩ := mem_ready.1 hi0
      have hw0 : Region.wanted x (yielded ops a.tmps) = true := by unfold Region.wanted; rw [hgd i x (hlt hx)]
      have hw1 : Region.wanted x (yielded (ops.push o) a.tmps) = true := by unfold Region.wanted; rw [hgd i x (hlt hx)]
      unfold wpOp at hop ⊢
      simp only [hx, hw0, if_true] at hop
      simp only [hlt hx, hw1, if_true]
      have hset : (listed.push false).setIfInBounds i true = (listed.setIfInBounds i true).push false := by
        apply Array.ext_getElem?
        intro j
        by_cases e : i = j
        · subst e
          simp [Array.getElem?_push, Array.getElem?_setIfInBounds, hsz, Nat.ne_of_lt hin, hin]
          omega
        · rw [Array.getElem?_setIfInBounds_ne e, Array.getElem?_push, Array.getElem?_push, Array.getElem?_setIfInBounds_ne e]
          simp
      rcases hop with hop | ⟨h1, a1, w1, h2⟩
      · left
        refine Oper.wp_mono (fun a' w' hK => ?_) (Oper.wp_exit (Q := thenOp P o Q) (fun e a' w' hne he => by cases e <;> first | exact absurd rfl hne | exact he) hop)
        rw [hset]
        refine ih (listed.setIfInBounds i true) a' w' (by simp [hsz]) (fun j oj hj hl e he hb => ?_) hK
        by_cases hij : i = j
        · subst hij
          have : oj = x := Option.some.inj (hj.symm.trans hx)
          subst this
          exact getD_set_true (hall' e he hb)
        · rw [getD_set_ne false hij] at hl
          exact getD_set_true (hcl j oj hj hl e he hb)
      · right
        exact ⟨h1, a1, w1, h2⟩
    · have hie : i = ops.size := by
        obtain ⟨_, x, hx, _⟩ := mem_ready.1 hi
        have := (Array.getElem?_eq_some_iff.1 hx).1
        omega
      subst hie
      have hrd := last_ready listed hsz hi
      have hl : ∀ j, j < ops.size → listed.getD j true = true := fun j hj => by
        have := ahead listed hsz hcl hrd _ j (Nat.le_refl _) hj
        cases hx : listed.getD j true with
        | true => rfl
        | false => rw [getD_both hx] at this; cases this
      have hr0 : Region.ready md ops listed = [] := by
        refine List.eq_nil_iff_forall_not_mem.2 fun j hj => ?_
        obtain ⟨h0, x, hx, _⟩ := mem_ready.1 hj
        rw [hl j (Array.getElem?_eq_some_iff.1 hx).1] at h0; cases h0
      exact last_step (fuel + 1) listed a w hsz hl (h.1 hr0)

/-- A region with writers s, behind which a last operation is run. -/
theorem wp_region_seqL {id : Nat} {Q : Exit → Act → World → Prop} {a : Act} {w : World} (l : List Oper) {l' : List Oper} (o : Oper) (s : List Nat) (Es : List (List (Nat × Nat))) (hm : P.follows .mixedOrders = true) (hl' : l' = l ++ [o])
    (hLB : lastB .any l'.toArray = true) (hB : seqB .any l.toArray s = true) (hE : ((List.range (s.length - 1)).all fun m => coverB .any l.toArray s m (Es[m]?.getD [])) = true) (hD : (Es.all fun E => dstsB (E.flatMap fun r => (l.drop r.1).take r.2)) = true)
    (hlen : Es.length + 1 = s.length) (hl : s[s.length - 1]?.getD 0 + 1 = l.length)
    (h : runW P l.toArray (fun F ws => lateW P l.toArray F l Es (ws.drop 1) ∧ o.wp P F (ws[s.length]?.getD w) (fun a' w' => Q .normal a' w') Q) (segsOf l 0 s) [] a w.drew) :
    (Code.region id l'.toArray true).wp P Q a w := by
  have hpush : l'.toArray = l.toArray.push o := by rw [hl']; simp
  rw [hpush] at hLB ⊢
  have H := wp_region_seq_any (Q := thenOp P o Q) (w := w) s Es hB hE hD hlen hl h
  have H2 := wpAny_last hLB _ _ _ _ (by simp) (fun j oj _ hl => by rw [getD_replicate_false] at hl; cases hl) H
  refine wp_region_any hm ?_
  have e1 : (l.toArray.push o).size = l.toArray.size + 1 := by simp
  have e2 : Array.replicate (l.toArray.push o).size false = (Array.replicate l.toArray.size false).push false := by rw [e1, Array.replicate_succ]
  rw [e2, e1]
  exact H2

end

end Go.Proofs.YtocpmncedlenbaaDoor
