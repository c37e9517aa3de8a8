/-
  A region that draws its order, with several operations that write, one behind the other; of what only reads some may run ahead of, or behind, writers that the text has elsewhere: at each of the worlds between the writers all that may run there has to be shown to give what it gives in the text.
-/
import Derived.Test.YtoofalchkedciaaGreatDoorP15TopGang
namespace Go.Proofs.YtoofalchkedciaaGreatDoor
open Go

section
variable {P : Program} {ops : Array Oper} {md : Region.Mode}

/-- As seqB, but that who stands behind a writer need not wait for it. -/
def seqE (md : Region.Mode) (ops : Array Oper) (s : List Nat) : Bool :=
  Region.noSelect ops && looksB md ops && (ops.all fun o => o.guard.isNone) &&
  ((List.range ops.size).all fun i => match ops[i]? with | some o => o.after.all fun e => !Region.binds md e || decide (e.on < i) | none => true) &&
  (dstsB ops.toList) && decide (0 < s.length) && (s.all fun x => decide (x < ops.size)) &&
  ((List.range s.length).all fun m => decide (m = 0) || (decide (s[m - 1]?.getD 0 < s[m]?.getD 0) && Region.waitsFor md ops (s[m]?.getD 0) (s[m - 1]?.getD 0))) &&
  ((List.range ops.size).all fun i => decide (i = s[s.length - 1]?.getD 0) || (List.range ops.size).any fun j => Region.waitsFor md ops j i)

/-- When m writers have run: who may run then stands there in the text, or in the ranges E. -/
def covE (md : Region.Mode) (ops : Array Oper) (s : List Nat) (m : Nat) (E : List (Nat × Nat)) : Bool :=
  (List.range ops.size).all fun i => s.contains i || ((decide (m = 0) || decide (s[m - 1]?.getD 0 < i)) && decide (i < s[m]?.getD 0)) || inR' E i ||
    ((List.range s.length).any fun b => decide (m ≤ b) && Region.waitsFor md ops i (s[b]?.getD 0)) ||
    (List.range s.length).any fun b => decide (b < m) && Region.waitsFor md ops (s[b]?.getD 0) i

theorem seqE_any {s : List Nat} {F : Act} {Ws : Nat → World} {Q : Exit → Act → World → Prop} (hB : seqE md ops s = true)
    (hW : ∀ q o, q < s.length → ops[s[q]?.getD 0]? = some o → ∃ v, Writes P o F (Ws q) v (Ws (q + 1)) ∧ F.put o.dst v = F)
    (hR : ∀ i o q, ops[i]? = some o → s.contains i = false → q < s.length → (q = 0 ∨ s[q - 1]?.getD 0 < i) → i < s[q]?.getD 0 → GivesF P ops F (Ws q) o)
    (Es : Nat → List (Nat × Nat)) (hE : ∀ m, m < s.length → covE md ops s m (Es m) = true) (hL : ∀ m i o, m < s.length → ops[i]? = some o → inR' (Es m) i = true → GivesF P ops F (Ws m) o)
    (hQ : Q .normal F (Ws s.length)) :
    ∀ (fuel : Nat) (listed : Array Bool) (a : Act), listed.size = ops.size → ((List.range ops.size).filter fun j => !listed.getD j true).length ≤ fuel → NearF ops listed a F →
      (∀ j oj, ops[j]? = some oj → listed.getD j false = true → ∀ e ∈ oj.after, Region.binds md e = true → listed.getD e.on false = true) →
      wpAny P md ops Q fuel listed a (Ws (cntR listed s)) := by
  simp only [seqE, Bool.and_eq_true, decide_eq_true_eq] at hB
  obtain ⟨⟨⟨⟨⟨⟨⟨⟨hsel, hlook⟩, hgd⟩, hord⟩, _⟩, hpos⟩, hin⟩, hch⟩, hlast⟩ := hB
  have hsel := Region.noSelect_spec hsel
  have hgd : ∀ (i : Nat) (o : Oper), ops[i]? = some o → o.guard = none := fun i o hi => by
    have := Array.all_eq_true_iff_forall_mem.1 hgd o (Array.mem_of_getElem? hi)
    simpa using this
  have hord : ∀ (i : Nat) (o : Oper), ops[i]? = some o → ∀ e ∈ o.after, Region.binds md e = true → e.on < i := fun i o hi e he hb => by
    have := List.all_eq_true.1 hord i (List.mem_range.2 (Array.getElem?_eq_some_iff.1 hi).1)
    simp only [hi] at this
    have := Array.all_eq_true_iff_forall_mem.1 this e he
    simpa [hb] using this
  have hgetm : ∀ m, m < s.length → s[m]?.getD 0 ∈ s := fun m hm => by rw [List.getElem?_eq_getElem hm]; exact List.getElem_mem hm
  have hslt : ∀ m, m < s.length → s[m]?.getD 0 < ops.size := fun m hm => by
    have := List.all_eq_true.1 hin _ (hgetm m hm)
    simpa using this
  have hstep : ∀ m, m + 1 < s.length → s[m]?.getD 0 < s[m + 1]?.getD 0 ∧ Region.waitsFor md ops (s[m + 1]?.getD 0) (s[m]?.getD 0) = true := fun m hm => by
    have := List.all_eq_true.1 hch (m + 1) (List.mem_range.2 hm)
    simpa using this
  have hlast : ∀ i, i < ops.size → i ≠ s[s.length - 1]?.getD 0 → ∃ j, j < ops.size ∧ Region.waitsFor md ops j i = true := fun i hi hn => by
    have := List.all_eq_true.1 hlast i (List.mem_range.2 hi)
    simp only [hn, decide_false, Bool.false_or] at this
    obtain ⟨j, hj, h⟩ := List.any_eq_true.1 this
    exact ⟨j, List.mem_range.1 hj, h⟩
  have hmono : ∀ a b, a < b → b < s.length → s[a]?.getD 0 < s[b]?.getD 0 := by
    intro a b hab
    induction b with
    | zero => omega
    | succ b ih =>
      intro hb
      have := (hstep b hb).1
      by_cases e : a = b
      · subst e; exact this
      · have := ih (by omega) (by omega); omega
  have none_left : ∀ listed : Array Bool, listed.size = ops.size → Region.ready md ops listed = [] → ∀ j, j < ops.size → listed.getD j true = true := by
    intro listed hsz hr j
    induction j using Nat.strongRecOn with
    | _ j ih =>
      intro hj
      cases hl : listed.getD j true with
      | true => rfl
      | false =>
        exfalso
        have hmem : j ∈ Region.ready md ops listed := mem_ready.2 ⟨hl, ops[j], Array.getElem?_eq_getElem hj, fun e he hb => by
          have hlt := hord j _ (Array.getElem?_eq_getElem hj) e he hb
          have := ih e.on hlt (by omega)
          cases hf : listed.getD e.on false with
          | true => rfl
          | false => have hx := getD_in (by omega) hf; rw [hx] at this; cases this⟩
        rw [hr] at hmem; cases hmem
  have done : ∀ (listed : Array Bool) (a : Act), listed.size = ops.size → NearF ops listed a F → Region.ready md ops listed = [] → Q .normal a (Ws (cntR listed s)) := by
    intro listed a hsz hn hr
    have hall := none_left listed hsz hr
    have hc : cntR listed s = s.length := cntR_eq (Nat.le_refl _) (fun m hm => by
      have hlt := hslt m hm
      cases hf : listed.getD (s[m]?.getD 0) false with
      | true => rfl
      | false => have h1 := getD_in (by omega) hf; rw [hall _ hlt] at h1; cases h1) (fun h => by omega)
    rw [hn.all hall, hc]
    exact hQ
  intro fuel
  induction fuel with
  | zero =>
    intro listed a hsz hf hn _
    have hall : ∀ j, j < ops.size → listed.getD j true = true := fun j hj => by
      cases hl : listed.getD j true with
      | true => rfl
      | false =>
        exfalso
        have : j ∈ (List.range ops.size).filter fun j => !listed.getD j true := List.mem_filter.2 ⟨List.mem_range.2 hj, by rw [hl]; rfl⟩
        have := List.length_pos_of_mem this
        omega
    have hr : Region.ready md ops listed = [] := by
      refine List.eq_nil_iff_forall_not_mem.2 fun j hj => ?_
      obtain ⟨h0, o, ho, _⟩ := mem_ready.1 hj
      rw [hall j (Array.getElem?_eq_some_iff.1 ho).1] at h0; cases h0
    exact ⟨hr, done listed a hsz hn hr⟩
  | succ fuel ih =>
    intro listed a hsz hf hn hcl
    refine ⟨done listed a hsz hn, fun i hi => ?_⟩
    obtain ⟨hun, o, ho, hall⟩ := mem_ready.1 hi
    have hil : i < ops.size := (Array.getElem?_eq_some_iff.1 ho).1
    have hev := looks_eval hlook hsel hn ho hi
    have hunf : listed.getD i false = false := getD_both hun
    have hsz' : (listed.setIfInBounds i true).size = ops.size := by simp [hsz]
    have hf' : ((List.range ops.size).filter fun j => !(listed.setIfInBounds i true).getD j true).length ≤ fuel := by
      have := filter_less (p := fun j => !listed.getD j true) (q := fun j => !(listed.setIfInBounds i true).getD j true) (List.range ops.size) (fun x _ hx => by
        by_cases e : x = i
        · subst e; rw [getD_both hun |> fun _ => hun]; rfl
        · rwa [getD_set_ne true (Ne.symm e)] at hx) i (List.mem_range.2 hil) (by rw [hun]; rfl) (by
          have : i < listed.size := by omega
          simp [this])
      omega
    have hcl' : ∀ j oj, ops[j]? = some oj → (listed.setIfInBounds i true).getD j false = true → ∀ e ∈ oj.after, Region.binds md e = true → (listed.setIfInBounds i true).getD e.on false = true := fun j oj hj hl e he hb => by
      by_cases hij : i = j
      · subst hij
        have : oj = o := Option.some.inj (hj.symm.trans ho)
        subst this
        exact getD_set_true (hall e he hb)
      · rw [getD_set_ne false hij] at hl
        exact getD_set_true (hcl j oj hj hl e he hb)
    have hwant : Region.wanted o (yielded ops a.tmps) = true := by unfold Region.wanted; rw [hgd i o ho]
    have setF : ∀ x, x ≠ i → (listed.setIfInBounds i true).getD x false = listed.getD x false := fun x hx => getD_set_ne false (Ne.symm hx)
    have setT : (listed.setIfInBounds i true).getD i false = true := by
      have : i < listed.size := by omega
      simp [this]
    have waits : ∀ j, Region.waitsFor md ops i j = true → listed.getD j false = true := fun j hj => by
      obtain ⟨o', ho', e, he, hb, hon⟩ := Region.waitsFor_spec hj
      have : o' = o := Option.some.inj (ho'.symm.trans ho)
      subst this
      rw [← hon]; exact hall e he hb
    -- writers ahead of one that has run have run
    have back : ∀ b, b < s.length → listed.getD (s[b]?.getD 0) false = true → ∀ c, c ≤ b → listed.getD (s[c]?.getD 0) false = true := by
      intro b
      induction b with
      | zero => intro _ hl c hc; obtain rfl : c = 0 := by omega
                exact hl
      | succ b ihb =>
        intro hb hl c hc
        by_cases e : c = b + 1
        · subst e; exact hl
        · refine ihb (by omega) ?_ c (by omega)
          obtain ⟨o', ho', e, he, hbb, hon⟩ := Region.waitsFor_spec (hstep b hb).2
          rw [← hon]; exact hcl _ o' ho' hl e he hbb
    obtain ⟨q, hq⟩ : ∃ q, cntR listed s = q := ⟨_, rfl⟩
    have hqle : q ≤ s.length := by rw [← hq]; exact cntR_le _ _
    have hqin : ∀ m, m < q → listed.getD (s[m]?.getD 0) false = true := fun m hm => cntR_in (by omega)
    have hqlt : q < s.length := by
      rcases Nat.lt_or_ge q s.length with h | h
      · exact h
      · exfalso
        have hl := hqin (s.length - 1) (by omega)
        have key : ∀ d j, ops.size - j ≤ d → j < ops.size → listed.getD j false = false → False := by
          intro d
          induction d with
          | zero => intro j h1 h2; omega
          | succ d ihd =>
            intro j h1 h2 h3
            by_cases e : j = s[s.length - 1]?.getD 0
            · rw [← e, h3] at hl; cases hl
            · obtain ⟨j', hj', hw⟩ := hlast j h2 e
              obtain ⟨o', ho', e', he, hb, hon⟩ := Region.waitsFor_spec hw
              have hlt := hord j' o' ho' e' he hb
              refine ihd j' (by omega) hj' ?_
              cases hl2 : listed.getD j' false with
              | false => rfl
              | true =>
                have := hcl j' o' ho' hl2 e' he hb
                rw [hon, h3] at this; cases this
        exact key _ i (Nat.le_refl _) hil hunf
    have hqn : ∀ m, q ≤ m → m < s.length → listed.getD (s[m]?.getD 0) false = false := fun m hm hml => by
      have hx := cntR_next (listed := listed) (s := s) (by omega)
      rw [hq] at hx
      cases hl : listed.getD (s[m]?.getD 0) false with
      | false => rfl
      | true => rw [back m hml hl q hm] at hx; cases hx
    rw [hq]
    unfold wpOp
    simp only [ho, hwant, if_true]
    left
    unfold Oper.wp
    rw [hev]
    by_cases hiw : s.contains i = true
    · obtain ⟨m, hm, hmi⟩ := List.mem_iff_getElem.1 (List.contains_iff_mem.1 hiw)
      have hmi' : s[m]?.getD 0 = i := by rw [List.getElem?_eq_getElem hm]; exact hmi
      have hmq : m = q := by
        rcases Nat.lt_trichotomy m q with h | h | h
        · have := hqin m h
          rw [hmi', hunf] at this; cases this
        · exact h
        · exfalso
          have hw : Region.waitsFor md ops i (s[m - 1]?.getD 0) = true := by
            have := (hstep (m - 1) (by omega)).2
            rw [show m - 1 + 1 = m by omega, hmi'] at this
            exact this
          have := waits _ hw
          rw [hqn (m - 1) (by omega) (by omega)] at this; cases this
      subst hmq
      obtain ⟨v, hrun, hput⟩ := hW m o hm (by rw [hmi']; exact ho)
      have hcnt : cntR (listed.setIfInBounds i true) s = m + 1 := cntR_eq (by omega) (fun c hc => by
        by_cases e : s[c]?.getD 0 = i
        · rw [e]; exact setT
        · rw [setF _ e]
          refine hqin c ?_
          rcases Nat.lt_or_ge c m with h | h
          · exact h
          · obtain rfl : c = m := by omega
            exact absurd hmi' e) (fun hlt => by
        have : s[m + 1]?.getD 0 ≠ i := by
          have := (hstep m hlt).1
          omega
        rw [setF _ this]
        exact hqn (m + 1) (by omega) hlt)
      have hnext := ih _ _ hsz' hf' (hn.put ho hput) hcl'
      rw [hcnt] at hnext
      rcases hrun with hrun | ⟨hrun, rfl⟩
      · rw [hrun]; exact hnext
      · rw [hrun]; exact hnext
    · have hiw : s.contains i = false := by simpa using hiw
      have hne : ∀ m, m < s.length → s[m]?.getD 0 ≠ i := fun m hm e => by
        have := hgetm m hm
        rw [e] at this
        rw [List.contains_iff_mem.2 this] at hiw
        cases hiw
      have hcnt : cntR (listed.setIfInBounds i true) s = q := cntR_eq hqle (fun c hc => by rw [setF _ (hne c (by omega))]; exact hqin c hc) (fun hlt => by rw [setF _ (hne q hlt)]; exact hqn q (Nat.le_refl _) hlt)
      have hg : GivesF P ops F (Ws q) o := by
        have hb := List.all_eq_true.1 (hE q hqlt) i (List.mem_range.2 hil)
        simp only [hiw, Bool.false_or, Bool.or_eq_true, Bool.and_eq_true, decide_eq_true_eq, List.any_eq_true, List.mem_range] at hb
        rcases hb with ((⟨h0, hlo⟩ | hin2) | ⟨b, hbl, hbq, hbw⟩) | ⟨b, hbl, hbq, hbw⟩
        · exact hR i o q ho hiw hqlt h0 hlo
        · exact hL q i o hqlt ho hin2
        · have := waits _ hbw
          rw [hqn b hbq hbl] at this; cases this
        · obtain ⟨o', ho', e, he, hbb, hon⟩ := Region.waitsFor_spec hbw
          have := hcl _ o' ho' (hqin b hbq) e he hbb
          rw [hon, hunf] at this; cases this
      obtain ⟨v, hrun, hput⟩ := hg
      have hnext := ih _ _ hsz' hf' (hn.put ho hput) hcl'
      rw [hcnt] at hnext
      have hwF : Region.wanted o (yielded ops F.tmps) = true := by unfold Region.wanted; rw [hgd i o ho]
      rcases hrun with ⟨_, hrun | ⟨hrun, rfl⟩ | ⟨f, args, hrun, hc⟩⟩ | ⟨hw, _⟩
      · rw [hrun]; exact hnext
      · rw [hrun]; exact hnext
      · rw [hrun]
        refine hc.mono ?_
        rintro e w' ⟨rfl, rfl⟩
        exact hnext
      · rw [hwF] at hw; cases hw

theorem wp_region_seqE_any {Q : Exit → Act → World → Prop} {a : Act} {w : World} {l : List Oper} (s : List Nat) (Es : List (List (Nat × Nat)))
    (hB : seqE .any l.toArray s = true) (hE : ((List.range s.length).all fun m => covE .any l.toArray s m (Es[m]?.getD [])) = true) (hD : (Es.all fun E => dstsB (E.flatMap fun r => (l.drop r.1).take r.2)) = true)
    (hlen : Es.length = s.length) (hl : s[s.length - 1]?.getD 0 + 1 = l.length)
    (h : runW P l.toArray (fun F ws => lateW P l.toArray F l Es ws ∧ Q .normal F (ws[s.length]?.getD w)) (segsOf l 0 s) [] a w.drew) :
    wpAny P .any l.toArray Q l.toArray.size (Array.replicate l.toArray.size false) a w.drew := by
  have hB0 := hB
  simp only [seqE, Bool.and_eq_true, decide_eq_true_eq] at hB0
  obtain ⟨⟨⟨⟨⟨⟨⟨⟨hsel, hlook⟩, hgd⟩, hord⟩, hdst⟩, hpos⟩, hin⟩, hch⟩, _⟩ := hB0
  have hgd : ∀ (i : Nat) (o : Oper), l.toArray[i]? = some o → o.guard = none := fun i o hi => by
    have := Array.all_eq_true_iff_forall_mem.1 hgd o (Array.mem_of_getElem? hi)
    simpa using this
  have hord : ∀ (i : Nat) (o : Oper), l.toArray[i]? = some o → ∀ e ∈ o.after, Region.binds .any e = true → e.on < i := fun i o hi e he hb => by
    have := List.all_eq_true.1 hord i (List.mem_range.2 (Array.getElem?_eq_some_iff.1 hi).1)
    simp only [hi] at this
    have := Array.all_eq_true_iff_forall_mem.1 this e he
    simpa [hb] using this
  have hslt : ∀ m, m < s.length → s[m]?.getD 0 < l.length := fun m hm => by
    have := List.all_eq_true.1 hin _ (by rw [List.getElem?_eq_getElem hm]; exact List.getElem_mem hm : s[m]?.getD 0 ∈ s)
    simpa using this
  have hne : s ≠ [] := fun e => by subst e; simp at hpos
  obtain ⟨F, wr, hwr, ⟨hlate, hQ⟩, hfrom, hW, hR⟩ := run_spec (by simpa using hdst) hlook hsel hord hgd s 0 [] a w.drew hslt (fun e => absurd e hne) (fun q hq => ⟨fun _ => Nat.zero_le _, fun h0 => by
    have := List.all_eq_true.1 hch q (List.mem_range.2 hq)
    simp only [Bool.or_eq_true, Bool.and_eq_true, decide_eq_true_eq, h0, false_or] at this
    exact this.1⟩) (fun _ => hl) h
  simp only [List.nil_append] at hlate hQ
  have hws : ∀ q, q ≤ s.length → (w.drew :: wr)[q]?.getD w = (w.drew :: wr)[q]?.getD w.drew := fun q hq => by
    have : q < (w.drew :: wr).length := by simp; omega
    rw [List.getElem?_eq_getElem this]; rfl
  have H := seqE_any (Q := Q) (F := F) (Ws := fun q => (w.drew :: wr)[q]?.getD w.drew) hB hW
    (fun i o q ho hni hq h0 hlo => hR q i o hq ho (fun _ => Nat.zero_le _) (fun hq0 => by
      rcases h0 with h0 | h0
      · exact absurd h0 hq0
      · exact h0) hlo)
    (fun m => Es[m]?.getD []) (fun m hm => List.all_eq_true.1 hE m (List.mem_range.2 hm))
    (fun m i o hm ho hin2 => by
      have hmE : m < Es.length := by omega
      have hmw : m < (w.drew :: wr).length := by simp; omega
      have hst := lateW_at Es (w.drew :: wr) m (w.drew :: wr)[m] hlate hmE (List.getElem?_eq_getElem hmw)
      have hDm : dstsB ((Es[m]?.getD []).flatMap fun r => (l.drop r.1).take r.2) = true := by
        rw [List.getElem?_eq_getElem hmE]
        exact List.all_eq_true.1 hD _ (List.getElem_mem hmE)
      have := still_each _ (fun o ho => by
        obtain ⟨r, _, hr⟩ := List.mem_flatMap.1 ho
        obtain ⟨j, hj⟩ := List.getElem?_of_mem (List.mem_of_mem_drop (List.mem_of_mem_take hr))
        exact ⟨j, by simpa using hj⟩) hDm hst o (by
        unfold inR' at hin2
        obtain ⟨r, hr, hr2⟩ := List.any_eq_true.1 hin2
        simp only [Bool.and_eq_true, decide_eq_true_eq] at hr2
        have hi' : l[i]? = some o := by simpa using ho
        refine List.mem_flatMap.2 ⟨r, hr, List.mem_of_getElem? (i := i - r.1) ?_⟩
        rw [List.getElem?_take_of_lt (by omega), List.getElem?_drop, show r.1 + (i - r.1) = i by omega]; exact hi')
      show GivesF P l.toArray F ((w.drew :: wr)[m]?.getD w.drew) o
      rw [List.getElem?_eq_getElem hmw]
      exact this)
    (by
      show Q .normal F ((w.drew :: wr)[s.length]?.getD w.drew)
      rw [← hws _ (Nat.le_refl _)]; exact hQ)
    l.toArray.size (Array.replicate l.toArray.size false) a (by simp) (Nat.le_trans (List.length_filter_le _ _) (by simp))
    ⟨hfrom.defers, hfrom.size, fun d hd => hfrom.slot d fun j o hj _ => hd j o hj (getD_in (by simpa using (Array.getElem?_eq_some_iff.1 hj).1) (getD_replicate_false _ _))⟩
    (fun j oj _ hl => by rw [getD_replicate_false] at hl; cases hl)
  have hc0 : cntR (Array.replicate l.toArray.size false) s = 0 := cntR_eq (Nat.zero_le _) (fun m hm => by omega) (fun _ => getD_replicate_false _ _)
  rw [hc0] at H
  exact H

theorem wp_region_seqE {id : Nat} {Q : Exit → Act → World → Prop} {a : Act} {w : World} {l : List Oper} (s : List Nat) (Es : List (List (Nat × Nat))) (hm : P.follows .mixedOrders = true)
    (hB : seqE .any l.toArray s = true) (hE : ((List.range s.length).all fun m => covE .any l.toArray s m (Es[m]?.getD [])) = true) (hD : (Es.all fun E => dstsB (E.flatMap fun r => (l.drop r.1).take r.2)) = true)
    (hlen : Es.length = s.length) (hl : s[s.length - 1]?.getD 0 + 1 = l.length)
    (h : runW P l.toArray (fun F ws => lateW P l.toArray F l Es ws ∧ Q .normal F (ws[s.length]?.getD w)) (segsOf l 0 s) [] a w.drew) :
    (Code.region id l.toArray true).wp P Q a w := wp_region_any hm (wp_region_seqE_any s Es hB hE hD hlen hl h)

end

end Go.Proofs.YtoofalchkedciaaGreatDoor
