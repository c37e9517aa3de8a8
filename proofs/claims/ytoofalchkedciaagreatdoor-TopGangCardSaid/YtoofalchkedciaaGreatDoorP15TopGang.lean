/-
  A region that draws its order, with several operations that write, one behind the other: it is enough to run it as the text stands, and to show that each operation that may also run behind a later writer gives there what it gave.
-/
import Derived.Test.YtoofalchkedciaaGreatDoorP14TopGang
namespace Go.Proofs.YtoofalchkedciaaGreatDoor
open Go

section
variable {P : Program} {ops : Array Oper} {md : Region.Mode}

/-- Operation o, run in a, gives v and makes w' of w. -/
def Writes (P : Program) (o : Oper) (a : Act) (w : World) (v : Value) (w' : World) : Prop :=
  (execOp a.eval o).run P w = .ok (.value v) w' ∨ ((execOp a.eval o).run P w = .ok .skip w' ∧ v = undef)

/-- How many of the writers s have run. -/
def cntR (listed : Array Bool) : List Nat → Nat
  | [] => 0
  | s :: l => if listed.getD s false then cntR listed l + 1 else 0

theorem cntR_le (listed : Array Bool) (s : List Nat) : cntR listed s ≤ s.length := by
  induction s with
  | nil => exact Nat.le_refl _
  | cons x l ih => unfold cntR; split <;> simp <;> omega
theorem cntR_in {listed : Array Bool} {s : List Nat} {m : Nat} (h : m < cntR listed s) : listed.getD (s[m]?.getD 0) false = true := by
  induction s generalizing m with
  | nil => simp [cntR] at h
  | cons x l ih =>
    unfold cntR at h
    split at h
    · rename_i hx
      rcases m with _ | m
      · simpa using hx
      · simpa using ih (by omega)
    · omega
theorem cntR_next {listed : Array Bool} {s : List Nat} (h : cntR listed s < s.length) : listed.getD (s[cntR listed s]?.getD 0) false = false := by
  induction s with
  | nil => simp [cntR] at h
  | cons x l ih =>
    unfold cntR at h ⊢
    by_cases hx : listed.getD x false = true
    · rw [if_pos hx] at h ⊢
      simpa using ih (by simpa using h)
    · rw [if_neg hx] at h ⊢
      simpa using hx
theorem cntR_eq {listed : Array Bool} {s : List Nat} {q : Nat} (hq : q ≤ s.length) (h1 : ∀ m, m < q → listed.getD (s[m]?.getD 0) false = true) (h2 : q < s.length → listed.getD (s[q]?.getD 0) false = false) : cntR listed s = q := by
  have hle := cntR_le listed s
  rcases Nat.lt_trichotomy (cntR listed s) q with h | h | h
  · have := cntR_next (listed := listed) (s := s) (by omega)
    rw [h1 _ h] at this; cases this
  · exact h
  · have := cntR_in h
    rw [h2 (by omega)] at this; cases this

/-- All that is asked of the operations themselves: each slot is written once; writers wait for one another, all but the last one are waited for; who stands behind a writer waits for it. -/
def seqB (md : Region.Mode) (ops : Array Oper) (s : List Nat) : Bool :=
  Region.noSelect ops && looksB md ops && (ops.all fun o => o.guard.isNone) &&
  ((List.range ops.size).all fun i => match ops[i]? with | some o => o.after.all fun e => !Region.binds md e || decide (e.on < i) | none => true) &&
  (dstsB ops.toList) && decide (0 < s.length) && (s.all fun x => decide (x < ops.size)) &&
  ((List.range s.length).all fun m => decide (m = 0) || (decide (s[m - 1]?.getD 0 < s[m]?.getD 0) && Region.waitsFor md ops (s[m]?.getD 0) (s[m - 1]?.getD 0))) &&
  ((List.range ops.size).all fun i => decide (i = s[s.length - 1]?.getD 0) || (List.range ops.size).any fun j => Region.waitsFor md ops j i) &&
  ((List.range ops.size).all fun i => s.contains i || (List.range s.length).all fun m => decide (i < s[m]?.getD 0) || (decide (m + 1 < s.length) && decide (s[m + 1]?.getD 0 < i)) || Region.waitsFor md ops i (s[m]?.getD 0))

/-- The ranges E hold all operations ahead of writer m in the text that may run behind it. -/
def inR' (E : List (Nat × Nat)) (i : Nat) : Bool := E.any fun r => decide (r.1 ≤ i) && decide (i < r.1 + r.2)
def coverB (md : Region.Mode) (ops : Array Oper) (s : List Nat) (m : Nat) (E : List (Nat × Nat)) : Bool :=
  (List.range ops.size).all fun i => decide (s[m]?.getD 0 ≤ i) || s.contains i || inR' E i ||
    (List.range ops.size).any fun j => !inR' E j && (!s.contains j && decide (j < s[m]?.getD 0) || (s.take (m + 1)).contains j) && Region.waitsFor md ops j i

theorem cover_spec {s : List Nat} {m : Nat} {E : List (Nat × Nat)} (hB : coverB md ops s m E = true) (hsm : m < s.length)
    (hord : ∀ (i : Nat) (o : Oper), ops[i]? = some o → ∀ e ∈ o.after, Region.binds md e = true → e.on < i) {listed : Array Bool}
    (hcl : ∀ j oj, ops[j]? = some oj → listed.getD j false = true → ∀ e ∈ oj.after, Region.binds md e = true → listed.getD e.on false = true)
    (hw : ∀ q, q < m + 1 → listed.getD (s[q]?.getD 0) false = true) : ∀ (k i : Nat), ops.size - i ≤ k → i < ops.size → i < s[m]?.getD 0 → s.contains i = false → inR' E i = false → listed.getD i false = true := by
  intro k
  induction k with
  | zero => intro i h1 h2; omega
  | succ k ih =>
    intro i h1 h2 h3 h4 h5
    have h := List.all_eq_true.1 hB i (List.mem_range.2 h2)
    simp only [Bool.or_eq_true, decide_eq_true_eq, h4, h5, or_false, Bool.false_eq_true] at h
    rcases h with h | h
    · omega
    · obtain ⟨j, hj, h⟩ := List.any_eq_true.1 h
      simp only [Bool.and_eq_true, Bool.or_eq_true, Bool.not_eq_true', decide_eq_true_eq] at h
      obtain ⟨⟨g1, g2⟩, g3⟩ := h
      obtain ⟨oj, hoj, e, he, hb, hon⟩ := Region.waitsFor_spec g3
      have hlt := hord j oj hoj e he hb
      have hjn : j < ops.size := List.mem_range.1 hj
      have hlj : listed.getD j false = true := by
        rcases g2 with ⟨g2, g4⟩ | g2
        · exact ih j (by omega) hjn g4 g2 g1
        · obtain ⟨q, hq, rfl⟩ := List.mem_iff_getElem.1 (List.contains_iff_mem.1 g2)
          rw [List.length_take] at hq
          have := hw q (by omega)
          rw [List.getElem?_eq_getElem (by omega)] at this
          simpa using this
      rw [← hon]
      exact hcl j oj hoj hlj e he hb

theorem seq_any {s : List Nat} {F : Act} {Ws : Nat → World} {Q : Exit → Act → World → Prop} (hB : seqB md ops s = true)
    (hW : ∀ q o, q < s.length → ops[s[q]?.getD 0]? = some o → ∃ v, Writes P o F (Ws q) v (Ws (q + 1)) ∧ F.put o.dst v = F)
    (hR : ∀ i o q, ops[i]? = some o → s.contains i = false → q < s.length → (q = 0 ∨ s[q - 1]?.getD 0 < i) → i < s[q]?.getD 0 → GivesF P ops F (Ws q) o)
    (Es : Nat → List (Nat × Nat)) (hE : ∀ m, m + 1 < s.length → coverB md ops s m (Es m) = true) (hL : ∀ m i o, m + 1 < s.length → ops[i]? = some o → inR' (Es m) i = true → GivesF P ops F (Ws (m + 1)) o)
    (hQ : Q .normal F (Ws s.length)) :
    ∀ (fuel : Nat) (listed : Array Bool) (a : Act), listed.size = ops.size → ((List.range ops.size).filter fun j => !listed.getD j true).length ≤ fuel → NearF ops listed a F →
      (∀ j oj, ops[j]? = some oj → listed.getD j false = true → ∀ e ∈ oj.after, Region.binds md e = true → listed.getD e.on false = true) →
      wpAny P md ops Q fuel listed a (Ws (cntR listed s)) := by
  simp only [seqB, Bool.and_eq_true, decide_eq_true_eq] at hB
  obtain ⟨⟨⟨⟨⟨⟨⟨⟨⟨hsel, hlook⟩, hgd⟩, hord⟩, _⟩, hpos⟩, hin⟩, hch⟩, hlast⟩, hbeh⟩ := hB
  have hsel := Region.noSelect_spec hsel
  have hgd : ∀ (i : Nat) (o : Oper), ops[i]? = some o → o.guard = none := fun i o hi => by
    have := Array.all_eq_true_iff_forall_mem.1 hgd o (Array.mem_of_getElem? hi)
    simpa using this
  have hord : ∀ (i : Nat) (o : Oper), ops[i]? = some o → ∀ e ∈ o.after, Region.binds md e = true → e.on < i := fun i o hi e he hb => by
    have := List.all_eq_true.1 hord i (List.mem_range.2 (Array.getElem?_eq_some_iff.1 hi).1)
    simp only [hi] at this
    have := Array.all_eq_true_iff_forall_mem.1 this e he
    simpa [hb] using this
  have hgetm : ∀ m, m < s.length → s[m]?.getD 0 ∈ s := fun m hm => by rw [List.getElem?_eq_getElem hm]; exact List.getElem_mem hm
  have hslt : ∀ m, m < s.length → s[m]?.getD 0 < ops.size := fun m hm => by
    have := List.all_eq_true.1 hin _ (hgetm m hm)
    simpa using this
  have hstep : ∀ m, m + 1 < s.length → s[m]?.getD 0 < s[m + 1]?.getD 0 ∧ Region.waitsFor md ops (s[m + 1]?.getD 0) (s[m]?.getD 0) = true := fun m hm => by
    have := List.all_eq_true.1 hch (m + 1) (List.mem_range.2 hm)
    simpa using this
  have hlast : ∀ i, i < ops.size → i ≠ s[s.length - 1]?.getD 0 → ∃ j, j < ops.size ∧ Region.waitsFor md ops j i = true := fun i hi hn => by
    have := List.all_eq_true.1 hlast i (List.mem_range.2 hi)
    simp only [hn, decide_false, Bool.false_or] at this
    obtain ⟨j, hj, h⟩ := List.any_eq_true.1 this
    exact ⟨j, List.mem_range.1 hj, h⟩
  have hmono : ∀ a b, a < b → b < s.length → s[a]?.getD 0 < s[b]?.getD 0 := by
    intro a b hab
    induction b with
    | zero => omega
    | succ b ih =>
      intro hb
      have := (hstep b hb).1
      by_cases e : a = b
      · subst e; exact this
      · have := ih (by omega) (by omega); omega
  have none_left : ∀ listed : Array Bool, listed.size = ops.size → Region.ready md ops listed = [] → ∀ j, j < ops.size → listed.getD j true = true := by
    intro listed hsz hr j
    induction j using Nat.strongRecOn with
    | _ j ih =>
      intro hj
      cases hl : listed.getD j true with
      | true => rfl
      | false =>
        exfalso
        have hmem : j ∈ Region.ready md ops listed := mem_ready.2 ⟨hl, ops[j], Array.getElem?_eq_getElem hj, fun e he hb => by
          have hlt := hord j _ (Array.getElem?_eq_getElem hj) e he hb
          have := ih e.on hlt (by omega)
          cases hf : listed.getD e.on false with
          | true => rfl
          | false => have hx := getD_in (by omega) hf; rw [hx] at this; cases this⟩
        rw [hr] at hmem; cases hmem
  have done : ∀ (listed : Array Bool) (a : Act), listed.size = ops.size → NearF ops listed a F → Region.ready md ops listed = [] → Q .normal a (Ws (cntR listed s)) := by
    intro listed a hsz hn hr
    have hall := none_left listed hsz hr
    have hc : cntR listed s = s.length := cntR_eq (Nat.le_refl _) (fun m hm => by
      have hlt := hslt m hm
      cases hf : listed.getD (s[m]?.getD 0) false with
      | true => rfl
      | false => have h1 := getD_in (by omega) hf; rw [hall _ hlt] at h1; cases h1) (fun h => by omega)
    rw [hn.all hall, hc]
    exact hQ
  intro fuel
  induction fuel with
  | zero =>
    intro listed a hsz hf hn _
    have hall : ∀ j, j < ops.size → listed.getD j true = true := fun j hj => by
      cases hl : listed.getD j true with
      | true => rfl
      | false =>
        exfalso
        have : j ∈ (List.range ops.size).filter fun j => !listed.getD j true := List.mem_filter.2 ⟨List.mem_range.2 hj, by rw [hl]; rfl⟩
        have := List.length_pos_of_mem this
        omega
    have hr : Region.ready md ops listed = [] := by
      refine List.eq_nil_iff_forall_not_mem.2 fun j hj => ?_
      obtain ⟨h0, o, ho, _⟩ := mem_ready.1 hj
      rw [hall j (Array.getElem?_eq_some_iff.1 ho).1] at h0; cases h0
    exact ⟨hr, done listed a hsz hn hr⟩
  | succ fuel ih =>
    intro listed a hsz hf hn hcl
    refine ⟨done listed a hsz hn, fun i hi => ?_⟩
    obtain ⟨hun, o, ho, hall⟩ := mem_ready.1 hi
    have hil : i < ops.size := (Array.getElem?_eq_some_iff.1 ho).1
    have hev := looks_eval hlook hsel hn ho hi
    have hunf : listed.getD i false = false := getD_both hun
    have hsz' : (listed.setIfInBounds i true).size = ops.size := by simp [hsz]
    have hf' : ((List.range ops.size).filter fun j => !(listed.setIfInBounds i true).getD j true).length ≤ fuel := by
      have := filter_less (p := fun j => !listed.getD j true) (q := fun j => !(listed.setIfInBounds i true).getD j true) (List.range ops.size) (fun x _ hx => by
        by_cases e : x = i
        · subst e; rw [getD_both hun |> fun _ => hun]; rfl
        · rwa [getD_set_ne true (Ne.symm e)] at hx) i (List.mem_range.2 hil) (by rw [hun]; rfl) (by
          have : i < listed.size := by omega
          simp [this])
      omega
    have hcl' : ∀ j oj, ops[j]? = some oj → (listed.setIfInBounds i true).getD j false = true → ∀ e ∈ oj.after, Region.binds md e = true → (listed.setIfInBounds i true).getD e.on false = true := fun j oj hj hl e he hb => by
      by_cases hij : i = j
      · subst hij
        have : oj = o := Option.some.inj (hj.symm.trans ho)
        subst this
        exact getD_set_true (hall e he hb)
      · rw [getD_set_ne false hij] at hl
        exact getD_set_true (hcl j oj hj hl e he hb)
    have hwant : Region.wanted o (yielded ops a.tmps) = true := by unfold Region.wanted; rw [hgd i o ho]
    have setF : ∀ x, x ≠ i → (listed.setIfInBounds i true).getD x false = listed.getD x false := fun x hx => getD_set_ne false (Ne.symm hx)
    have setT : (listed.setIfInBounds i true).getD i false = true := by
      have : i < listed.size := by omega
      simp [this]
    have waits : ∀ j, Region.waitsFor md ops i j = true → listed.getD j false = true := fun j hj => by
      obtain ⟨o', ho', e, he, hb, hon⟩ := Region.waitsFor_spec hj
      have : o' = o := Option.some.inj (ho'.symm.trans ho)
      subst this
      rw [← hon]; exact hall e he hb
    -- writers ahead of one that has run have run
    have back : ∀ b, b < s.length → listed.getD (s[b]?.getD 0) false = true → ∀ c, c ≤ b → listed.getD (s[c]?.getD 0) false = true := by
      intro b
      induction b with
      | zero => intro _ hl c hc; obtain rfl : c = 0 := by omega
                exact hl
      | succ b ihb =>
        intro hb hl c hc
        by_cases e : c = b + 1
        · subst e; exact hl
        · refine ihb (by omega) ?_ c (by omega)
          obtain ⟨o', ho', e, he, hbb, hon⟩ := Region.waitsFor_spec (hstep b hb).2
          rw [← hon]; exact hcl _ o' ho' hl e he hbb
    obtain ⟨q, hq⟩ : ∃ q, cntR listed s = q := ⟨_, rfl⟩
    have hqle : q ≤ s.length := by rw [← hq]; exact cntR_le _ _
    have hqin : ∀ m, m < q → listed.getD (s[m]?.getD 0) false = true := fun m hm => cntR_in (by omega)
    have hqlt : q < s.length := by
      rcases Nat.lt_or_ge q s.length with h | h
      · exact h
      · exfalso
        have hl := hqin (s.length - 1) (by omega)
        have key : ∀ d j, ops.size - j ≤ d → j < ops.size → listed.getD j false = false → False := by
          intro d
          induction d with
          | zero => intro j h1 h2; omega
          | succ d ihd =>
            intro j h1 h2 h3
            by_cases e : j = s[s.length - 1]?.getD 0
            · rw [← e, h3] at hl; cases hl
            · obtain ⟨j', hj', hw⟩ := hlast j h2 e
              obtain ⟨o', ho', e', he, hb, hon⟩ := Region.waitsFor_spec hw
              have hlt := hord j' o' ho' e' he hb
              refine ihd j' (by omega) hj' ?_
              cases hl2 : listed.getD j' false with
              | false => rfl
              | true =>
                have := hcl j' o' ho' hl2 e' he hb
                rw [hon, h3] at this; cases this
        exact key _ i (Nat.le_refl _) hil hunf
    have hqn : ∀ m, q ≤ m → m < s.length → listed.getD (s[m]?.getD 0) false = false := fun m hm hml => by
      have hx := cntR_next (listed := listed) (s := s) (by omega)
      rw [hq] at hx
      cases hl : listed.getD (s[m]?.getD 0) false with
      | false => rfl
      | true => rw [back m hml hl q hm] at hx; cases hx
    rw [hq]
    unfold wpOp
    simp only [ho, hwant, if_true]
    left
    unfold Oper.wp
    rw [hev]
    by_cases hiw : s.contains i = true
    · obtain ⟨m, hm, hmi⟩ := List.mem_iff_getElem.1 (List.contains_iff_mem.1 hiw)
      have hmi' : s[m]?.getD 0 = i := by rw [List.getElem?_eq_getElem hm]; exact hmi
      have hmq : m = q := by
        rcases Nat.lt_trichotomy m q with h | h | h
        · have := hqin m h
          rw [hmi', hunf] at this; cases this
        · exact h
        · exfalso
          have hw : Region.waitsFor md ops i (s[m - 1]?.getD 0) = true := by
            have := (hstep (m - 1) (by omega)).2
            rw [show m - 1 + 1 = m by omega, hmi'] at this
            exact this
          have := waits _ hw
          rw [hqn (m - 1) (by omega) (by omega)] at this; cases this
      subst hmq
      obtain ⟨v, hrun, hput⟩ := hW m o hm (by rw [hmi']; exact ho)
      have hcnt : cntR (listed.setIfInBounds i true) s = m + 1 := cntR_eq (by omega) (fun c hc => by
        by_cases e : s[c]?.getD 0 = i
        · rw [e]; exact setT
        · rw [setF _ e]
          refine hqin c ?_
          rcases Nat.lt_or_ge c m with h | h
          · exact h
          · obtain rfl : c = m := by omega
            exact absurd hmi' e) (fun hlt => by
        have : s[m + 1]?.getD 0 ≠ i := by
          have := (hstep m hlt).1
          omega
        rw [setF _ this]
        exact hqn (m + 1) (by omega) hlt)
      have hnext := ih _ _ hsz' hf' (hn.put ho hput) hcl'
      rw [hcnt] at hnext
      rcases hrun with hrun | ⟨hrun, rfl⟩
      · rw [hrun]; exact hnext
      · rw [hrun]; exact hnext
    · have hiw : s.contains i = false := by simpa using hiw
      have hne : ∀ m, m < s.length → s[m]?.getD 0 ≠ i := fun m hm e => by
        have := hgetm m hm
        rw [e] at this
        rw [List.contains_iff_mem.2 this] at hiw
        cases hiw
      have hcnt : cntR (listed.setIfInBounds i true) s = q := cntR_eq hqle (fun c hc => by rw [setF _ (hne c (by omega))]; exact hqin c hc) (fun hlt => by rw [setF _ (hne q hlt)]; exact hqn q (Nat.le_refl _) hlt)
      have hg : GivesF P ops F (Ws q) o := by
        have hlo : i < s[q]?.getD 0 := by
          rcases Nat.lt_or_ge i (s[q]?.getD 0) with h | h
          · exact h
          · exfalso
            have hgt : s[q]?.getD 0 < i := by have := hne q hqlt; omega
            -- the last writer ahead of i in the text
            have key : ∀ d m, s.length - m ≤ d → q ≤ m → m < s.length → s[m]?.getD 0 < i → False := by
              intro d
              induction d with
              | zero => intro m h1 h2 h3; omega
              | succ d ihd =>
                intro m h1 h2 h3 h4
                have hb := List.all_eq_true.1 hbeh i (List.mem_range.2 hil)
                simp only [hiw, Bool.false_or] at hb
                have hb2 := List.all_eq_true.1 hb m (List.mem_range.2 h3)
                simp only [Bool.or_eq_true, Bool.and_eq_true, decide_eq_true_eq] at hb2
                rcases hb2 with (h5 | ⟨h5, h6⟩) | h5
                · omega
                · exact ihd (m + 1) (by omega) (by omega) h5 h6
                · have := waits _ h5
                  rw [hqn m h2 h3] at this; cases this
            exact key _ q (Nat.le_refl _) (Nat.le_refl _) hqlt hgt
        by_cases h0 : q = 0 ∨ s[q - 1]?.getD 0 < i
        · exact hR i o q ho hiw hqlt h0 hlo
        · have hq0 : q ≠ 0 := fun e => h0 (.inl e)
          have hlt : i < s[q - 1]?.getD 0 := by
            have := hne (q - 1) (by omega)
            have : ¬ s[q - 1]?.getD 0 < i := fun h => h0 (.inr h)
            omega
          have hE1 := hE (q - 1) (by omega)
          cases hin2 : inR' (Es (q - 1)) i with
          | true =>
            have := hL (q - 1) i o (by omega) ho hin2
            rwa [show q - 1 + 1 = q by omega] at this
          | false =>
            have := cover_spec hE1 (by omega) hord hcl (fun c hc => hqin c (by omega)) _ i (Nat.le_refl _) hil hlt hiw hin2
            rw [hunf] at this; cases this
      obtain ⟨v, hrun, hput⟩ := hg
      have hnext := ih _ _ hsz' hf' (hn.put ho hput) hcl'
      rw [hcnt] at hnext
      have hwF : Region.wanted o (yielded ops F.tmps) = true := by unfold Region.wanted; rw [hgd i o ho]
      rcases hrun with ⟨_, hrun | ⟨hrun, rfl⟩ | ⟨f, args, hrun, hc⟩⟩ | ⟨hw, _⟩
      · rw [hrun]; exact hnext
      · rw [hrun]; exact hnext
      · rw [hrun]
        refine hc.mono ?_
        rintro e w' ⟨rfl, rfl⟩
        exact hnext
      · rw [hwF] at hw; cases hw

theorem dstsB_spec {l : List Oper} (h : dstsB l = true) {i j : Nat} {o o' : Oper} (hi : l[i]? = some o) (hj : l[j]? = some o') (hij : i < j) : o.dst = none ∨ o'.dst ≠ o.dst := by
  induction l generalizing i j with
  | nil => simp at hi
  | cons x l ih =>
    simp only [dstsB, Bool.and_eq_true] at h
    rcases j with _ | j
    · omega
    · rcases i with _ | i
      · simp at hi
        subst hi
        have := List.all_eq_true.1 h.1 o' (List.mem_of_getElem? (by simpa using hj))
        simpa using this
      · exact ih h.2 (by simpa using hi) (by simpa using hj) (by omega)

/-- The frame a is F, but for the slots of the operations from number i on. -/
structure FromF (ops : Array Oper) (i : Nat) (a F : Act) : Prop where
  defers : a.defers = F.defers
  size : a.tmps.size = F.tmps.size
  slot : ∀ d : Nat, (∀ j o, ops[j]? = some o → i ≤ j → o.dst ≠ some d) → a.tmps[d]? = F.tmps[d]?

def upTo (n i : Nat) : Array Bool := ((List.range n).map fun j => decide (j < i)).toArray
theorem upTo_get {n i j : Nat} (d : Bool) (hj : j < n) : (upTo n i).getD j d = decide (j < i) := by
  unfold upTo
  simp [Array.getD_eq_getD_getElem?, hj]

theorem FromF.near {i : Nat} {a F : Act} (h : FromF ops i a F) : NearF ops (upTo ops.size i) a F :=
  ⟨h.defers, h.size, fun d hd => h.slot d fun j o hj hij => hd j o hj (by rw [upTo_get true (Array.getElem?_eq_some_iff.1 hj).1]; simpa using hij)⟩
theorem FromF.back {i : Nat} {o : Oper} {v : Value} {a F : Act} (hi : ops[i]? = some o) (h : FromF ops (i + 1) (a.put o.dst v) F) : FromF ops i a F := by
  refine ⟨by rw [← h.defers]; cases o.dst <;> rfl, by rw [← h.size]; cases o.dst <;> simp [Act.put], fun d hd => ?_⟩
  rw [← h.slot d (fun j o' hj hij => hd j o' hj (by omega))]
  have := hd i o hi (Nat.le_refl _)
  cases hdst : o.dst with
  | none => rfl
  | some e =>
    have hne : e ≠ d := fun e' => this (by rw [hdst, e'])
    simp [Act.put, Array.getElem?_setIfInBounds_ne hne]
theorem FromF.put {i : Nat} {o : Oper} {v : Value} {a F : Act} (hd : dstsB ops.toList = true) (hi : ops[i]? = some o) (h : FromF ops (i + 1) (a.put o.dst v) F) : F.put o.dst v = F := by
  cases hdst : o.dst with
  | none => rfl
  | some e =>
    rw [hdst] at h
    have hs := h.slot e (fun j o' hj hij he => by
      rcases dstsB_spec hd (by simpa using hi) (by simpa using hj) (show i < j by omega) with h1 | h1
      · rw [hdst] at h1; cases h1
      · exact h1 (by rw [he, hdst]))
    have hsz : a.tmps.size = F.tmps.size := by have := h.size; simpa [Act.put] using this
    have ht : F.tmps.setIfInBounds e v = F.tmps := Array.ext_getElem? fun d => by
      by_cases hde : e = d
      · subst hde
        rw [← hs]
        have hsz2 : (a.tmps.setIfInBounds e v).size = a.tmps.size := by simp
        have hsz3 : (F.tmps.setIfInBounds e v).size = F.tmps.size := by simp
        show (F.tmps.setIfInBounds e v)[e]? = (a.tmps.setIfInBounds e v)[e]?
        simp only [Array.getElem?_setIfInBounds, if_true, hsz]
      · rw [Array.getElem?_setIfInBounds_ne hde]
    show ({ F with tmps := F.tmps.setIfInBounds e v } : Act) = F
    rw [ht]

theorem FromF.eval {i : Nat} {o : Oper} {a F : Act} (hlook : looksB md ops = true) (hsel : Region.noSelect ops = true)
    (hord : ∀ (i : Nat) (o : Oper), ops[i]? = some o → ∀ e ∈ o.after, Region.binds md e = true → e.on < i) (hi : ops[i]? = some o) (h : FromF ops i a F) : execOp a.eval o = execOp F.eval o := by
  have hil : i < ops.size := (Array.getElem?_eq_some_iff.1 hi).1
  refine looks_eval hlook (Region.noSelect_spec hsel) h.near hi (mem_ready.2 ⟨by rw [upTo_get true hil]; simp, o, hi, fun e he hb => ?_⟩)
  have := hord i o hi e he hb
  rw [upTo_get false (by omega)]; simpa using this

/-- Run as the text stands: of each part what only reads, then the writer. ws: the worlds that were. -/
def runW (P : Program) (ops : Array Oper) (K : Act → List World → Prop) : List (List Oper × Oper) → List World → Act → World → Prop
  | [], ws, a, w => K a (ws ++ [w])
  | (rs, o) :: rest, ws, a, w => wpStill P ops w (fun a1 => ∃ v w', Writes P o a1 w v w' ∧ runW P ops K rest (ws ++ [w]) (a1.put o.dst v) w') rs a

def segsOf (l : List Oper) (fr : Nat) : List Nat → List (List Oper × Oper)
  | [] => []
  | x :: s => match l[x]? with
    | some o => ((l.drop fr).take (x - fr), o) :: segsOf l (x + 1) s
    | none => []

theorem still_from {w : World} {F : Act} {K : Act → Prop} {x : Nat} (hd : dstsB ops.toList = true) (hlook : looksB md ops = true) (hsel : Region.noSelect ops = true)
    (hord : ∀ (i : Nat) (o : Oper), ops[i]? = some o → ∀ e ∈ o.after, Region.binds md e = true → e.on < i) (hgd : ∀ (i : Nat) (o : Oper), ops[i]? = some o → o.guard = none)
    (hK : ∀ a, K a → FromF ops x a F) : ∀ (rs : List Oper) (i : Nat) (a : Act), i + rs.length = x → (∀ t, t < rs.length → ops[i + t]? = rs[t]?) → wpStill P ops w K rs a →
    FromF ops i a F ∧ ∀ j o, i ≤ j → j < x → ops[j]? = some o → GivesF P ops F w o := by
  intro rs
  induction rs with
  | nil =>
    intro i a hx _ h
    obtain rfl : i = x := by simpa using hx
    exact ⟨hK a h, fun j o h1 h2 => by omega⟩
  | cons o rs ih =>
    intro i a hx hat h
    have hi : ops[i]? = some o := by have := hat 0 (by simp); simpa using this
    have hst : stOp P ops w i (wpStill P ops w K rs) a := by unfold stOp; simp only [hi]; exact h
    obtain ⟨v, hy, hnext⟩ := yieldsAt_of_stOp hi hst
    obtain ⟨h1, h2⟩ := ih (i + 1) _ (by simp at hx; omega) (fun t ht => by
      have := hat (t + 1) (by simpa using ht)
      rw [show i + 1 + t = i + (t + 1) by omega, this]; simp) hnext
    have hb := h1.back hi
    have hput := h1.put hd hi
    refine ⟨hb, fun j o' hj1 hj2 hj3 => ?_⟩
    by_cases e : j = i
    · subst e
      have : o' = o := Option.some.inj (hj3.symm.trans hi)
      subst this
      have he := hb.eval hlook hsel hord hi
      exact ⟨v, hy.of_same he.symm (by unfold Region.wanted; rw [hgd j o' hi]), hput⟩
    · exact h2 j o' (by omega) hj2 hj3

theorem still_point {w : World} {K : Act → Prop} : ∀ (rs : List Oper) (a : Act), (∀ o ∈ rs, ∃ i : Nat, ops[i]? = some o) → wpStill P ops w K rs a → ∃ a1, K a1 ∧ wpStill P ops w (fun a' => a' = a1) rs a
  | [], a, _, h => ⟨a, h, rfl⟩
  | o :: rs, a, hl, h => by
    obtain ⟨i, hi⟩ := hl o (by simp)
    have hst : stOp P ops w i (wpStill P ops w K rs) a := by unfold stOp; simp only [hi]; exact h
    obtain ⟨v, hy, hK⟩ := yieldsAt_of_stOp hi hst
    obtain ⟨a1, h1, h2⟩ := still_point rs _ (fun x hx => hl x (by simp [hx])) hK
    refine ⟨a1, h1, ?_⟩
    have := hy.stOp hi (K := wpStill P ops w (fun a' => a' = a1) rs) h2
    unfold stOp at this
    simp only [hi] at this
    exact this

theorem run_spec {l : List Oper} {K : Act → List World → Prop} (hd : dstsB l = true) (hlook : looksB md l.toArray = true) (hsel : Region.noSelect l.toArray = true)
    (hord : ∀ (i : Nat) (o : Oper), l.toArray[i]? = some o → ∀ e ∈ o.after, Region.binds md e = true → e.on < i) (hgd : ∀ (i : Nat) (o : Oper), l.toArray[i]? = some o → o.guard = none) :
    ∀ (s : List Nat) (fr : Nat) (ws : List World) (a : Act) (w : World), (∀ q, q < s.length → s[q]?.getD 0 < l.length) → (s = [] → fr = l.length) → (∀ q, q < s.length → (q = 0 → fr ≤ s[q]?.getD 0) ∧ (q ≠ 0 → s[q - 1]?.getD 0 < s[q]?.getD 0)) → (s ≠ [] → s[s.length - 1]?.getD 0 + 1 = l.length) →
      runW P l.toArray K (segsOf l fr s) ws a w →
      ∃ F wr, wr.length = s.length ∧ K F (ws ++ w :: wr) ∧ FromF l.toArray fr a F ∧
        (∀ q o, q < s.length → l.toArray[s[q]?.getD 0]? = some o → ∃ v, Writes P o F ((w :: wr)[q]?.getD w) v ((w :: wr)[q + 1]?.getD w) ∧ F.put o.dst v = F) ∧
        (∀ q i o, q < s.length → l.toArray[i]? = some o → (q = 0 → fr ≤ i) → (q ≠ 0 → s[q - 1]?.getD 0 < i) → i < s[q]?.getD 0 → GivesF P l.toArray F ((w :: wr)[q]?.getD w) o) := by
  intro s
  induction s with
  | nil =>
    intro fr ws a w _ hfr _ _ h
    have hfr := hfr rfl
    refine ⟨a, [], rfl, h, ⟨rfl, rfl, fun _ _ => rfl⟩, fun q o hq => by simp at hq, fun q i o hq => by simp at hq⟩
  | cons x s ih =>
    intro fr ws a w hlt _ hinc hend h
    have hx : x < l.length := by have := hlt 0 (by simp); simpa using this
    have hfx : fr ≤ x := by have := (hinc 0 (by simp)).1 rfl; simpa using this
    obtain ⟨o, ho⟩ : ∃ o, l[x]? = some o := ⟨l[x], List.getElem?_eq_getElem hx⟩
    have hox : l.toArray[x]? = some o := by simpa using ho
    simp only [segsOf, ho, runW] at h
    obtain ⟨a1, ⟨v, w', hW, hrest⟩, hst⟩ := still_point _ a (fun o' ho' => by
      obtain ⟨i, hi⟩ := List.getElem?_of_mem (List.mem_of_mem_drop (List.mem_of_mem_take ho'))
      exact ⟨i, by simpa using hi⟩) h
    obtain ⟨F, wr, hlen, hKF, hfrom, hws, hrs⟩ := ih (x + 1) (ws ++ [w]) _ w' (fun q hq => by have := hlt (q + 1) (by simp; omega); simpa using this) (fun hs => by
        subst hs
        have := hend (by simp)
        simpa using this) (fun q hq => by
        have := hinc (q + 1) (by simp; omega)
        refine ⟨fun h0 => ?_, fun h0 => ?_⟩
        · subst h0
          have := this.2 (by omega)
          simp at this
          simp; omega
        · have := this.2 (by omega)
          obtain ⟨q, rfl⟩ : ∃ r, q = r + 1 := ⟨q - 1, by omega⟩
          simpa using this) (fun hs => by
        have := hend (by simp)
        have hl : s.length ≠ 0 := fun e => hs (List.eq_nil_of_length_eq_zero e)
        obtain ⟨n, hn⟩ : ∃ n, s.length = n + 1 := ⟨s.length - 1, by omega⟩
        simp only [List.length_cons, hn] at this
        rw [hn]
        simpa using this) hrest
    have hfa1 := hfrom.back hox
    have hput := hfrom.put (by simpa using hd) hox
    obtain ⟨hfa, hgs⟩ := still_from (F := F) (x := x) (by simpa using hd) hlook hsel hord hgd (fun a' (e : a' = a1) => by subst e; exact hfa1) _ fr a (by simp; omega) (fun t ht => by
      have ht' : t < x - fr := by simp at ht; omega
      rw [List.getElem?_take_of_lt ht', List.getElem?_drop]; simp) hst
    refine ⟨F, w' :: wr, by simp [hlen], by simpa using hKF, hfa, fun q o' hq ho' => ?_, fun q i o' hq ho' h0 h1 h2 => ?_⟩
    · rcases q with _ | q
      · have : o' = o := Option.some.inj (ho'.symm.trans (by simpa using ho))
        subst this
        have he := hfa1.eval hlook hsel hord hox
        refine ⟨v, ?_, hput⟩
        unfold Writes at hW ⊢
        rw [← he]
        simpa using hW
      · have hq2 : q < s.length := by simpa using hq
        obtain ⟨v2, h3, h4⟩ := hws q o' hq2 (by simpa using ho')
        refine ⟨v2, ?_, h4⟩
        have e1 : (w :: w' :: wr)[q + 1]?.getD w = (w' :: wr)[q]?.getD w' := by
          have : q < (w' :: wr).length := by simp; omega
          rw [List.getElem?_cons_succ, List.getElem?_eq_getElem this]; rfl
        have e2 : (w :: w' :: wr)[q + 1 + 1]?.getD w = (w' :: wr)[q + 1]?.getD w' := by
          have : q + 1 < (w' :: wr).length := by simp; omega
          rw [List.getElem?_cons_succ, List.getElem?_eq_getElem this]; rfl
        rw [e1, e2]; exact h3
    · rcases q with _ | q
      · exact hgs i o' (h0 rfl) (by simpa using h2) ho'
      · have hq2 : q < s.length := by simpa using hq
        have h1 := h1 (by omega)
        have := hrs q i o' hq2 ho' (fun h0 => by subst h0; simp at h1; omega) (fun h0 => by
          obtain ⟨q, rfl⟩ : ∃ r, q = r + 1 := ⟨q - 1, by omega⟩
          simpa using h1) (by simpa using h2)
        have e1 : (w :: w' :: wr)[q + 1]?.getD w = (w' :: wr)[q]?.getD w' := by
          have : q < (w' :: wr).length := by simp; omega
          rw [List.getElem?_cons_succ, List.getElem?_eq_getElem this]; rfl
        rw [e1]; exact this

/-- What may run behind a later writer gives there what it gave. -/
def lateW (P : Program) (ops : Array Oper) (F : Act) (l : List Oper) : List (List (Nat × Nat)) → List World → Prop
  | E :: Es, w :: ws => wpStill P ops w (fun a' => a' = F) (E.flatMap fun r => (l.drop r.1).take r.2) F ∧ lateW P ops F l Es ws
  | _, _ => True

theorem lateW_at {ops : Array Oper} {F : Act} {l : List Oper} : ∀ (Es : List (List (Nat × Nat))) (ws : List World) (m : Nat) (w : World), lateW P ops F l Es ws → m < Es.length → ws[m]? = some w →
    wpStill P ops w (fun a' => a' = F) ((Es[m]?.getD []).flatMap fun r => (l.drop r.1).take r.2) F
  | [], _, m, _, _, h, _ => by simp at h
  | _ :: _, [], m, _, _, _, h => by simp at h
  | E :: Es, w :: ws, 0, w', h, _, he => by
    simp at he
    subst he
    simpa [lateW] using h.1
  | E :: Es, w :: ws, m + 1, w', h, hm, he => by
    have := lateW_at Es ws m w' (by have := h; simp only [lateW] at this; exact this.2) (by simpa using hm) (by simpa using he)
    simpa using this

theorem wp_region_seq_any {Q : Exit → Act → World → Prop} {a : Act} {w : World} {l : List Oper} (s : List Nat) (Es : List (List (Nat × Nat)))
    (hB : seqB .any l.toArray s = true) (hE : ((List.range (s.length - 1)).all fun m => coverB .any l.toArray s m (Es[m]?.getD [])) = true) (hD : (Es.all fun E => dstsB (E.flatMap fun r => (l.drop r.1).take r.2)) = true)
    (hlen : Es.length + 1 = s.length) (hl : s[s.length - 1]?.getD 0 + 1 = l.length)
    (h : runW P l.toArray (fun F ws => lateW P l.toArray F l Es (ws.drop 1) ∧ Q .normal F (ws[s.length]?.getD w)) (segsOf l 0 s) [] a w.drew) :
    wpAny P .any l.toArray Q l.toArray.size (Array.replicate l.toArray.size false) a w.drew := by
  have hB0 := hB
  simp only [seqB, Bool.and_eq_true, decide_eq_true_eq] at hB0
  obtain ⟨⟨⟨⟨⟨⟨⟨⟨⟨hsel, hlook⟩, hgd⟩, hord⟩, hdst⟩, hpos⟩, hin⟩, hch⟩, _⟩, _⟩ := hB0
  have hgd : ∀ (i : Nat) (o : Oper), l.toArray[i]? = some o → o.guard = none := fun i o hi => by
    have := Array.all_eq_true_iff_forall_mem.1 hgd o (Array.mem_of_getElem? hi)
    simpa using this
  have hord : ∀ (i : Nat) (o : Oper), l.toArray[i]? = some o → ∀ e ∈ o.after, Region.binds .any e = true → e.on < i := fun i o hi e he hb => by
    have := List.all_eq_true.1 hord i (List.mem_range.2 (Array.getElem?_eq_some_iff.1 hi).1)
    simp only [hi] at this
    have := Array.all_eq_true_iff_forall_mem.1 this e he
    simpa [hb] using this
  have hslt : ∀ m, m < s.length → s[m]?.getD 0 < l.length := fun m hm => by
    have := List.all_eq_true.1 hin _ (by rw [List.getElem?_eq_getElem hm]; exact List.getElem_mem hm : s[m]?.getD 0 ∈ s)
    simpa using this
  have hne : s ≠ [] := fun e => by subst e; simp at hpos
  obtain ⟨F, wr, hwr, ⟨hlate, hQ⟩, hfrom, hW, hR⟩ := run_spec (by simpa using hdst) hlook hsel hord hgd s 0 [] a w.drew hslt (fun e => absurd e hne) (fun q hq => ⟨fun _ => Nat.zero_le _, fun h0 => by
    have := List.all_eq_true.1 hch q (List.mem_range.2 hq)
    simp only [Bool.or_eq_true, Bool.and_eq_true, decide_eq_true_eq, h0, false_or] at this
    exact this.1⟩) (fun _ => hl) h
  simp only [List.nil_append, List.drop_succ_cons, List.drop_zero] at hlate hQ
  have hws : ∀ q, q ≤ s.length → (w.drew :: wr)[q]?.getD w = (w.drew :: wr)[q]?.getD w.drew := fun q hq => by
    have : q < (w.drew :: wr).length := by simp; omega
    rw [List.getElem?_eq_getElem this]; rfl
  have H := seq_any (Q := Q) (F := F) (Ws := fun q => (w.drew :: wr)[q]?.getD w.drew) hB hW
    (fun i o q ho hni hq h0 hlo => hR q i o hq ho (fun _ => Nat.zero_le _) (fun hq0 => by
      rcases h0 with h0 | h0
      · exact absurd h0 hq0
      · exact h0) hlo)
    (fun m => Es[m]?.getD []) (fun m hm => List.all_eq_true.1 hE m (List.mem_range.2 (by omega)))
    (fun m i o hm ho hin2 => by
      have hmE : m < Es.length := by omega
      have hmw : m < wr.length := by omega
      have hst := lateW_at Es wr m wr[m] hlate hmE (List.getElem?_eq_getElem hmw)
      have hDm : dstsB ((Es[m]?.getD []).flatMap fun r => (l.drop r.1).take r.2) = true := by
        rw [List.getElem?_eq_getElem hmE]
        exact List.all_eq_true.1 hD _ (List.getElem_mem hmE)
      have := still_each _ (fun o ho => by
        obtain ⟨r, _, hr⟩ := List.mem_flatMap.1 ho
        obtain ⟨j, hj⟩ := List.getElem?_of_mem (List.mem_of_mem_drop (List.mem_of_mem_take hr))
        exact ⟨j, by simpa using hj⟩) hDm hst o (by
        unfold inR' at hin2
        obtain ⟨r, hr, hr2⟩ := List.any_eq_true.1 hin2
        simp only [Bool.and_eq_true, decide_eq_true_eq] at hr2
        have hi' : l[i]? = some o := by simpa using ho
        refine List.mem_flatMap.2 ⟨r, hr, List.mem_of_getElem? (i := i - r.1) ?_⟩
        rw [List.getElem?_take_of_lt (by omega), List.getElem?_drop, show r.1 + (i - r.1) = i by omega]; exact hi')
      show GivesF P l.toArray F ((w.drew :: wr)[m + 1]?.getD w.drew) o
      rw [List.getElem?_cons_succ, List.getElem?_eq_getElem hmw]
      exact this)
    (by
      show Q .normal F ((w.drew :: wr)[s.length]?.getD w.drew)
      rw [← hws _ (Nat.le_refl _)]; exact hQ)
    l.toArray.size (Array.replicate l.toArray.size false) a (by simp) (Nat.le_trans (List.length_filter_le _ _) (by simp))
    ⟨hfrom.defers, hfrom.size, fun d hd => hfrom.slot d fun j o hj _ => hd j o hj (getD_in (by simpa using (Array.getElem?_eq_some_iff.1 hj).1) (getD_replicate_false _ _))⟩
    (fun j oj _ hl => by rw [getD_replicate_false] at hl; cases hl)
  have hc0 : cntR (Array.replicate l.toArray.size false) s = 0 := cntR_eq (Nat.zero_le _) (fun m hm => by omega) (fun _ => getD_replicate_false _ _)
  rw [hc0] at H
  exact H

theorem wp_region_seq {id : Nat} {Q : Exit → Act → World → Prop} {a : Act} {w : World} {l : List Oper} (s : List Nat) (Es : List (List (Nat × Nat))) (hm : P.follows .mixedOrders = true)
    (hB : seqB .any l.toArray s = true) (hE : ((List.range (s.length - 1)).all fun m => coverB .any l.toArray s m (Es[m]?.getD [])) = true) (hD : (Es.all fun E => dstsB (E.flatMap fun r => (l.drop r.1).take r.2)) = true)
    (hlen : Es.length + 1 = s.length) (hl : s[s.length - 1]?.getD 0 + 1 = l.length)
    (h : runW P l.toArray (fun F ws => lateW P l.toArray F l Es (ws.drop 1) ∧ Q .normal F (ws[s.length]?.getD w)) (segsOf l 0 s) [] a w.drew) :
    (Code.region id l.toArray true).wp P Q a w := wp_region_any hm (wp_region_seq_any s Es hB hE hD hlen hl h)

def writesThen (P : Program) (o : Oper) (a : Act) (w : World) (K : Value → World → Prop) : Prop :=
  match (execOp a.eval o).run P w with
  | .ok (.value v) w' => K v w'
  | .ok .skip w' => K undef w'
  | _ => False
theorem writes_step {o : Oper} {a : Act} {w : World} {K : Value → World → Prop} (h : ∀ K' : Value → World → Prop, (∀ v W, K v W → K' v W) → writesThen P o a w K') : ∃ v w', Writes P o a w v w' ∧ K v w' := by
  have h := h K (fun _ _ h => h)
  unfold writesThen at h
  unfold Writes
  generalize (execOp a.eval o).run P w = r at h ⊢
  cases r with
  | ok n w' =>
    cases n with
    | value v => exact ⟨v, w', .inl rfl, h⟩
    | skip => exact ⟨undef, w', .inr ⟨rfl, rfl⟩, h⟩
    | _ => exact h.elim
  | halt x w' => exact h.elim

end

end Go.Proofs.YtoofalchkedciaaGreatDoor
