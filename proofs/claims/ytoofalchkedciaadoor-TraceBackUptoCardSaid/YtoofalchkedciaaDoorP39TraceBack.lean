/-
  How many deeds there are of each kind, of deeds that may have been.
-/
import Derived.Test.YtoofalchkedciaaDoorP38TraceBack
namespace Go.Proofs.YtoofalchkedciaaDoor

/-- How many deeds are of a kind. -/
def kindN (k : Int) (l : List Dd) : Nat := l.countP (fun d => decide (d.what = k))
def hadN (l : List Dd) : Nat := kindN 1 l + kindN 2 l + kindN 3 l
theorem kindN_cons (k : Int) (d : Dd) (l : List Dd) : kindN k (d :: l) = kindN k l + if d.what = k then 1 else 0 := by
  unfold kindN
  rw [List.countP_cons]
  by_cases h : d.what = k <;> simp [h]
theorem kindN_app (k : Int) (a b : List Dd) : kindN k (a ++ b) = kindN k a + kindN k b := by simp [kindN]

theorem cnt_one : ∀ (n : Nat) (f g : Nat → Bool) (k : Nat), k < n → f k = false → g k = true → (∀ i, i ≠ k → g i = f i) → (List.range n).countP g = (List.range n).countP f + 1
  | 0, _, _, _, h, _, _, _ => by omega
  | n + 1, f, g, k, hk, hf, hg, he => by
    rw [List.range_succ, List.countP_append, List.countP_append]
    by_cases e : k = n
    · subst e
      have h1 : (List.range k).countP g = (List.range k).countP f := List.countP_congr fun x hx => by rw [he x (by have := List.mem_range.1 hx; omega)]
      rw [h1]
      simp [hf, hg]
    · have := cnt_one n f g k (by omega) hf hg he
      rw [this]
      have h2 : [n].countP g = [n].countP f := by simp [he n (Ne.symm e)]
      omega
theorem cnt_le (n : Nat) (f : Nat → Bool) : (List.range n).countP f ≤ n := by
  have := List.countP_le_length (p := f) (l := List.range n)
  simpa using this

def nHad (p : PlanL) (s : TSt) : Nat := (List.range p.length).countP s.had
def nHas (m : Nat) (s : TSt) : Nat := (List.range m).countP (fun h => (s.has h).isSome)
def nSlp (m : Nat) (s : TSt) : Nat := (List.range m).countP s.slp

theorem run_kinds (p : PlanL) (m : Nat) : ∀ (l : List Dd) (s : TSt), (∀ d ∈ l, ddFault d = 0) → runF p (m : Int) s l = 0 →
    hadN l + nHad p s ≤ p.length ∧ kindN 4 l ≤ hadN l + nHas m s ∧ kindN 6 l ≤ kindN 5 l + nSlp m s ∧ kindN 5 l + nSlp m s ≤ kindN 6 l + m
  | [], s, _, _ => by
    have h1 := cnt_le p.length s.had
    have h2 := cnt_le m s.slp
    unfold nHad nSlp hadN kindN
    simp
    omega
  | d :: l, s, hf, hr => by
    have hd := hf d (by simp)
    have hl := fun x hx => hf x (List.mem_cons_of_mem d hx)
    have hg := dd_right hd
    unfold runF at hr
    split at hr
    · cases hr
    rename_i hout
    split at hr
    · rename_i hdo
      obtain ⟨i1, i2, i3, i4⟩ := run_kinds p m l (dT s d) hl hr
      obtain ⟨wh, hd', t, o, rfl, hh6, ho6, ht, hal⟩ := dd_nat hd
      have hw : 1 ≤ wh ∧ wh ≤ 6 := by have h1 := hg.1; have h2 := hg.2.1; simp only at h1 h2; omega
      have hhm : hd' < m := by
        unfold ddOut at hout
        simp only [Bool.or_eq_true, decide_eq_true_eq, not_or] at hout
        omega
      have htn : wh ≠ 5 → wh ≠ 6 → t < p.length := by
        intro h5 h6
        unfold ddOut at hout
        have : aloneB (wh : Int) = false := by simp [aloneB]; omega
        simp only [this, Bool.not_false, Bool.true_and, Bool.or_eq_true, decide_eq_true_eq, not_or] at hout
        omega
      have e1 : dF p s ⟨(wh : Int), (hd' : Int), (t : Int), (o : Int)⟩ = doF p s wh hd' t o := rfl
      have e2 : dT s ⟨(wh : Int), (hd' : Int), (t : Int), (o : Int)⟩ = doT s wh hd' t := rfl
      rw [e1] at hdo
      rw [e2] at i1 i2 i3 i4
      unfold doF at hdo
      unfold doT at i1 i2 i3 i4
      have k := fun k => kindN_cons k ⟨(wh : Int), (hd' : Int), (t : Int), (o : Int)⟩ l
      simp only at k
      by_cases h4 : wh = 4
      · subst h4
        rw [if_pos rfl] at hdo i1 i2 i3 i4
        have hhas : s.has hd' = some t := by
          by_cases h : s.has hd' = some t
          · exact h
          · rw [if_neg h] at hdo; cases hdo
        have hc : nHas m s = nHas m ⟨setO s.has hd' none, s.had, setB s.fin t true, s.slp⟩ + 1 := by
          unfold nHas
          refine cnt_one m _ _ hd' hhm ?_ ?_ ?_
          · simp [setO]
          · rw [hhas]; rfl
          · intro i hi
            simp [setO, hi]
        have hc2 : nHad p ⟨setO s.has hd' none, s.had, setB s.fin t true, s.slp⟩ = nHad p s := rfl
        have hc3 : nSlp m ⟨setO s.has hd' none, s.had, setB s.fin t true, s.slp⟩ = nSlp m s := rfl
        rw [hc2] at i1
        rw [hc3] at i3 i4
        have k1 := k 1; have k2 := k 2; have k3 := k 3; have k4 := k 4; have k5 := k 5; have k6 := k 6
        rw [if_neg (by omega)] at k1
        rw [if_neg (by omega)] at k2
        rw [if_neg (by omega)] at k3
        rw [if_pos (by omega)] at k4
        rw [if_neg (by omega)] at k5
        rw [if_neg (by omega)] at k6
        unfold hadN at *
        omega
      · rw [if_neg h4] at hdo i1 i2 i3 i4
        by_cases h5 : wh = 5
        · subst h5
          rw [if_pos rfl] at hdo i1 i2 i3 i4
          have hs : s.slp hd' = false := by
            cases h : s.slp hd' with
            | false => rfl
            | true => rw [h] at hdo; simp at hdo
          have hc : nSlp m ⟨s.has, s.had, s.fin, setB s.slp hd' true⟩ = nSlp m s + 1 := by
            unfold nSlp
            refine cnt_one m _ _ hd' hhm hs ?_ ?_
            · simp [setB]
            · intro i hi
              simp [setB, hi]
          have hc2 : nHad p ⟨s.has, s.had, s.fin, setB s.slp hd' true⟩ = nHad p s := rfl
          have hc3 : nHas m ⟨s.has, s.had, s.fin, setB s.slp hd' true⟩ = nHas m s := rfl
          rw [hc2] at i1
          rw [hc3] at i2
          have k1 := k 1; have k2 := k 2; have k3 := k 3; have k4 := k 4; have k5 := k 5; have k6 := k 6
          rw [if_neg (by omega)] at k1
          rw [if_neg (by omega)] at k2
          rw [if_neg (by omega)] at k3
          rw [if_neg (by omega)] at k4
          rw [if_pos (by omega)] at k5
          rw [if_neg (by omega)] at k6
          unfold hadN at *
          omega
        · rw [if_neg h5] at hdo i1 i2 i3 i4
          by_cases h6 : wh = 6
          · subst h6
            rw [if_pos rfl] at hdo i1 i2 i3 i4
            have hs : s.slp hd' = true := by
              cases h : s.slp hd' with
              | true => rfl
              | false => rw [h] at hdo; simp at hdo
            have hc : nSlp m s = nSlp m ⟨s.has, s.had, s.fin, setB s.slp hd' false⟩ + 1 := by
              unfold nSlp
              refine cnt_one m _ _ hd' hhm ?_ hs ?_
              · simp [setB]
              · intro i hi
                simp [setB, hi]
            have hc2 : nHad p ⟨s.has, s.had, s.fin, setB s.slp hd' false⟩ = nHad p s := rfl
            have hc3 : nHas m ⟨s.has, s.had, s.fin, setB s.slp hd' false⟩ = nHas m s := rfl
            rw [hc2] at i1
            rw [hc3] at i2
            have k1 := k 1; have k2 := k 2; have k3 := k 3; have k4 := k 4; have k5 := k 5; have k6 := k 6
            rw [if_neg (by omega)] at k1
            rw [if_neg (by omega)] at k2
            rw [if_neg (by omega)] at k3
            rw [if_neg (by omega)] at k4
            rw [if_neg (by omega)] at k5
            rw [if_pos (by omega)] at k6
            unfold hadN at *
            omega
          · rw [if_neg h6] at hdo i1 i2 i3 i4
            have htl := htn h5 h6
            unfold takeF at hdo
            have hb : (s.has hd').isSome = false ∧ s.had t = false := by
              by_cases h : ((s.has hd').isSome || s.had t) = true
              · rw [if_pos h] at hdo; cases hdo
              · simp only [Bool.or_eq_true, not_or, Bool.not_eq_true] at h
                exact h
            have hc : nHas m (takeT s hd' t) = nHas m s + 1 := by
              unfold nHas takeT
              refine cnt_one m _ _ hd' hhm hb.1 ?_ ?_
              · simp [setO]
              · intro i hi
                simp [setO, hi]
            have hc2 : nHad p (takeT s hd' t) = nHad p s + 1 := by
              unfold nHad takeT
              refine cnt_one p.length _ _ t htl hb.2 ?_ ?_
              · simp [setB]
              · intro i hi
                simp [setB, hi]
            have hc3 : nSlp m (takeT s hd' t) = nSlp m s := rfl
            rw [hc] at i2
            rw [hc2] at i1
            rw [hc3] at i3 i4
            have hk : (∀ x : Int, x = 4 ∨ x = 5 ∨ x = 6 → kindN x (⟨(wh : Int), (hd' : Int), (t : Int), (o : Int)⟩ :: l) = kindN x l) ∧ hadN (⟨(wh : Int), (hd' : Int), (t : Int), (o : Int)⟩ :: l) = hadN l + 1 := by
              refine ⟨fun x hx => ?_, ?_⟩
              · rw [k x, if_neg (by omega)]; rfl
              · unfold hadN
                rw [k 1, k 2, k 3]
                have : wh = 1 ∨ wh = 2 ∨ wh = 3 := by omega
                rcases this with rfl | rfl | rfl <;> simp <;> omega
            rw [hk.1 4 (by omega), hk.1 5 (by omega), hk.1 6 (by omega), hk.2]
            omega
    · exact absurd hr (by assumption)

theorem kinds_zero {p : PlanL} {m : Nat} {l : List Dd} (hf : ∀ d ∈ l, ddFault d = 0) (hr : runF p (m : Int) tZero l = 0) : hadN l ≤ p.length ∧ kindN 4 l ≤ hadN l ∧ kindN 6 l ≤ kindN 5 l ∧ kindN 5 l ≤ kindN 6 l + m := by
  have h := run_kinds p m l tZero hf hr
  have e1 : nHad p tZero = 0 := by unfold nHad tZero; simp
  have e2 : nHas m tZero = 0 := by unfold nHas tZero; simp
  have e3 : nSlp m tZero = 0 := by unfold nSlp tZero; simp
  rw [e1, e2, e3] at h
  omega
theorem kinds_all (l : List Dd) (hf : ∀ d ∈ l, ddFault d = 0) : l.length = hadN l + kindN 4 l + kindN 5 l + kindN 6 l := by
  induction l with
  | nil => rfl
  | cons d l ih =>
    have hg := dd_right (hf d (by simp))
    have := ih (fun x hx => hf x (by simp [hx]))
    unfold hadN at *
    rw [List.length_cons, this, kindN_cons, kindN_cons, kindN_cons, kindN_cons, kindN_cons, kindN_cons]
    have hw : d.what = 1 ∨ d.what = 2 ∨ d.what = 3 ∨ d.what = 4 ∨ d.what = 5 ∨ d.what = 6 := by omega
    rcases hw with h | h | h | h | h | h <;> simp [h] <;> omega
/-- A beginning of deeds that may have been may have been. -/
theorem run_take (p : PlanL) (hands : Int) : ∀ (l : List Dd) (s : TSt) (k : Nat), runF p hands s l = 0 → runF p hands s (l.take k) = 0
  | [], _, _, _ => by simp [runF]
  | d :: l, s, 0, _ => by simp [runF]
  | d :: l, s, k + 1, h => by
    rw [List.take_succ_cons]
    unfold runF at h ⊢
    split at h
    · cases h
    · rename_i h1
      rw [if_neg h1]
      split at h
      · rename_i h2
        rw [if_pos h2]
        exact run_take p hands l _ k h
      · exact absurd h (by assumption)

end Go.Proofs.YtoofalchkedciaaDoor
