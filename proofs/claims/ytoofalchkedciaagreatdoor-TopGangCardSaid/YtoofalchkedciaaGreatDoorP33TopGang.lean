/-
  A gang that is watched: what its steps tell, in which order its tasks are finished; how far it is in its rounds.
  Contract of a gang's step.
-/
import Derived.Test.YtoofalchkedciaaGreatDoorP19TopGang
import Derived.Test.YtoofalchkedciaaGreatDoorP27TopGang
import Derived.Test.YtoofalchkedciaaGreatDoorP32TopGang
import Derived.Test.YtoofalchkedciaaGreatDoorP26TopGang
import Derived.Test.YtoofalchkedciaaGreatDoorP23TopGang
namespace Go.Proofs.YtoofalchkedciaaGreatDoor
open Go.RowKit Go.Deep

/-- The tasks that deeds tell to be finished. -/
def finL : List Dd → List Nat
  | [] => []
  | d :: l => if d.what = 4 then d.task.toNat :: finL l else finL l
theorem finL_app : ∀ (a b : List Dd), finL (a ++ b) = finL a ++ finL b
  | [], _ => rfl
  | d :: a, b => by
    have e1 : finL (d :: (a ++ b)) = if d.what = 4 then d.task.toNat :: finL (a ++ b) else finL (a ++ b) := rfl
    have e2 : finL (d :: a) = if d.what = 4 then d.task.toNat :: finL a else finL a := rfl
    rw [List.cons_append, e1, e2, finL_app a b]
    split <;> rfl
theorem finL_push (l : List Dd) (d : Dd) : finL (l ++ [d]) = if d.what = 4 then finL l ++ [d.task.toNat] else finL l := by
  rw [finL_app]
  show finL l ++ (if d.what = 4 then d.task.toNat :: finL [] else finL []) = _
  split
  · rfl
  · simp [finL]
theorem finL_none {l : List Dd} (h : ∀ d ∈ l, d.what ≠ 4) : finL l = [] := by
  induction l with
  | nil => rfl
  | cons d l ih =>
    unfold finL
    rw [if_neg (h d (by simp))]
    exact ih (fun x hx => h x (by simp [hx]))
theorem dUp_fin : ∀ (ds : List Dd) (OL : List Nat), dUp (finB OL) ds = finB (OL ++ finL ds)
  | [], OL => by show finB OL = finB (OL ++ []); rw [List.append_nil]
  | d :: ds, OL => by
    show dUp (if d.what = 4 then upB (finB OL) d.task.toNat else finB OL) ds = finB (OL ++ finL (d :: ds))
    have e : finL (d :: ds) = if d.what = 4 then d.task.toNat :: finL ds else finL ds := rfl
    rw [e]
    by_cases h : d.what = 4
    · rw [if_pos h, if_pos h, ← finB_push, dUp_fin ds, List.append_assoc]
      rfl
    · rw [if_neg h, if_neg h, dUp_fin ds]

/-- A step finishes no task, or one that was ready. -/
theorem step_fin {p : PlanL} {room m : Nat} {s : GSt} (H : GInv p room m s) {h : Nat} (pick : Nat) (hm : h < m) :
    finL (gStep p room m s h pick).2 = [] ∨ ∃ i, finL (gStep p room m s h pick).2 = [i] ∧ i ∈ readyL p s.done := by
  have other : ∀ (x : Dd), x.what ≠ 4 → finL [x] = [] := fun x hx => finL_none (fun d hd => by obtain rfl : d = x := (by simpa using hd); exact hx)
  unfold gStep
  split
  · exact .inl rfl
  · split
    · rename_i ht
      unfold gWork
      split
      · exact .inl rfl
      · obtain ⟨i, hi, hir⟩ := H.task hm ht
        refine .inr ⟨i, ?_, hir⟩
        have e0 : (s.ws h).task.toNat = i := by rw [hi]; rfl
        show (if (4 : Int) = 4 then (s.ws h).task.toNat :: finL _ else finL _) = _
        rw [if_pos rfl, e0, finL_none]
        intro d hd
        obtain ⟨k, _, rfl⟩ := List.mem_map.1 hd
        show (6 : Int) ≠ 4
        omega
    · left
      unfold gFind
      split
      · exact other _ (show (1 : Int) ≠ 4 by omega)
      · split
        · exact other _ (show (1 : Int) ≠ 4 by omega)
        · split
          · exact other _ (show (3 : Int) ≠ 4 by omega)
          · split
            · exact other _ (show (5 : Int) ≠ 4 by omega)
            · unfold gRob
              split
              · exact other _ (show (5 : Int) ≠ 4 by omega)
              · exact other _ (show (2 : Int) ≠ 4 by omega)

/-- What has been told, and finished. -/
structure GTold (p : PlanL) (r m : Nat) (s : GSt) (t : TSt) (AL : List Dd) (OL : List Nat) : Prop where
  inv : GInv p r m s
  watch : Watch m s
  leads : Leads p m tZero AL t
  rel : RelT m s.done s.row (gTk s.ws) t
  wake : kindN 6 AL + leftN p s.done ≤ p.length + (readyL p s.done).length
  ord : FinOk p OL
  done : s.done = finB OL

theorem GTold.new (p : PlanL) (r m : Nat) (h1 : 1 ≤ m) : GTold p r m (gNew p) tZero [] [] :=
  ⟨gNew_inv p r m, new_watch p m h1, Leads.nil _ _ _, RelT.new p m, by
    show kindN 6 [] + leftN p (fun _ => false) ≤ _
    rw [left_none]; simp [kindN], FinOk.nil p, by rw [finB_nil]; rfl⟩
theorem GTold.step {p : PlanL} {r m : Nat} {s : GSt} {t : TSt} {AL : List Dd} {OL : List Nat} (h : GTold p r m s t AL OL) (hok : PlanOk p) (r1 : 1 ≤ r) (m6 : m ≤ 6) {k : Nat} (hk : k < m) (pick : Nat) :
    ∃ t', GTold p r m (gStep p r m s k pick).1 t' (AL ++ (gStep p r m s k pick).2) (OL ++ finL (gStep p r m s k pick).2) := by
  obtain ⟨t', l1, r1'⟩ := step_leads hok m6 h.inv h.rel pick hk
  have hw := step_wakes hok h.inv pick hk
  have hs := (step_says h.inv pick hk).1
  refine ⟨t', gStep_inv hok r1 h.inv pick hk, step_watch h.inv h.watch pick hk, h.leads.trans l1, r1', ?_, ?_, ?_⟩
  · have := h.wake
    rw [kindN_app]
    omega
  · rcases step_fin h.inv pick hk with e | ⟨i, e, hi⟩
    · rw [e, List.append_nil]; exact h.ord
    · rw [e]
      obtain ⟨h1, h2⟩ := ready_of_lack hi
      rw [h.done] at h2
      exact h.ord.push h1 h2
  · rw [← hs, ← dUp_fin, ← h.done]
theorem ready_left (p : PlanL) (D : Nat → Bool) : (readyL p D).length ≤ leftN p D := by
  unfold readyL leftN
  rw [← List.countP_eq_length_filter]
  refine List.countP_mono_left fun i _ h => ?_
  unfold readyB at h
  simp at h
  simp [h.1]
theorem GTold.few {p : PlanL} {r m : Nat} {s : GSt} {t : TSt} {AL : List Dd} {OL : List Nat} (h : GTold p r m s t AL OL) (hok : PlanOk p) (m6 : m ≤ 6) : AL.length ≤ 200 ∧ ddsFault AL = 0 ∧ runF p m tZero AL = 0 := by
  have hrun : runF p m tZero AL = 0 := by
    have := h.leads.1 []
    rw [List.append_nil] at this
    rw [this]
    rfl
  have hall := h.leads.2
  obtain ⟨k1, k2, k3, k4⟩ := kinds_zero hall hrun
  have hl := kinds_all AL hall
  have h6 := h.wake
  have hr := ready_left p s.done
  have h30 := hok.len
  refine ⟨by omega, ?_, hrun⟩
  unfold ddsFault
  rw [if_neg (by omega)]
  exact (firstDd_zero AL).2 hall
theorem GTold.few_step {p : PlanL} {r m : Nat} {s : GSt} {t : TSt} {AL : List Dd} {OL : List Nat} (h : GTold p r m s t AL OL) (hok : PlanOk p) : OL.length ≤ 30 := by
  have := h.ord.len
  have := hok.len
  omega

/-- How far the rounds are, behind the first T steps. -/
def Rnd (p : PlanL) (r m T i : Nat) (s : GSt) : Prop :=
  T ≤ i → ∃ (rr k : Nat) (s0 : GSt), k < m ∧ i = T + rr * m + k ∧ GInv p r m s0 ∧ Watch m s0 ∧ Late p m rr s0 ∧ s = seqN p r m (fun j => (T + rr * m + j) % m) (fun j => T + rr * m + j) s0 k
theorem Rnd.start {p : PlanL} {r m T i : Nat} {s : GSt} (hok : PlanOk p) (h1 : 1 ≤ m) (hi : i ≤ T) (H : GInv p r m s) (W : Watch m s) : Rnd p r m T i s := by
  intro hT
  exact ⟨0, 0, s, by omega, by omega, H, W, late_start hok H, rfl⟩
theorem Rnd.round {p : PlanL} {r m T i : Nat} {s : GSt} (hok : PlanOk p) (r1 : 1 ≤ r) (h1 : 1 ≤ m) (hi : T ≤ i) (h : Rnd p r m T i s) : Rnd p r m T (i + 1) (gStep p r m s (i % m) i).1 := by
  intro _
  obtain ⟨rr, k, s0, hk, rfl, H, W, L, rfl⟩ := h hi
  have hlt : ∀ j, (T + rr * m + j) % m < m := fun j => around_lt h1 _ _
  by_cases hkm : k + 1 < m
  · exact ⟨rr, k + 1, s0, hkm, by omega, H, W, L, rfl⟩
  · have hkm' : k + 1 = m := by omega
    have hkeep := seq_keeps (ps := fun j => T + rr * m + j) hok r1 hlt H W m
    have hlate := late_seq (ps := fun j => T + rr * m + j) hok r1 hlt (fun a b ha hb e => around_inj (T + rr * m) a b ha hb e) (fun j hj => around_all (T + rr * m) j hj) H W L
    refine ⟨rr + 1, 0, _, by omega, ?_, hkeep.1, hkeep.2, hlate, ?_⟩
    · rw [Nat.add_mul, Nat.one_mul]; omega
    · show _ = seqN p r m (fun j => (T + rr * m + j) % m) (fun j => T + rr * m + j) s0 m
      rw [← hkm']
      rfl
theorem Rnd.over {p : PlanL} {r m T : Nat} {s : GSt} (hok : PlanOk p) (h1 : 1 ≤ m) (W0 : Nat) (hW : workF p = (W0 : Int)) (h : Rnd p r m T (T + m * (W0 + p.length)) s) (H : GInv p r m s) : leftN p s.done = 0 := by
  obtain ⟨rr, k, s0, hk, e, H0, W, L, rfl⟩ := h (by omega)
  have hrr : rr = W0 + p.length ∧ k = 0 := by
    have e1 : m * (W0 + p.length) = rr * m + k := by omega
    rw [Nat.mul_comm] at e1
    have h2 : (W0 + p.length) = rr := by
      have d1 : ((W0 + p.length) * m) / m = W0 + p.length := Nat.mul_div_cancel _ (by omega)
      have d2 : (rr * m + k) / m = rr := by
        rw [Nat.add_comm, Nat.add_mul_div_right _ _ (by omega), Nat.div_eq_of_lt hk]; omega
      rw [← d1, e1, d2]
    refine ⟨h2.symm, ?_⟩
    rw [h2] at e1; omega
  obtain ⟨rfl, rfl⟩ := hrr
  exact late_end hok H L (by rw [hW]; omega)

theorem rowCl_keep {w w' : World} {A n : Nat} {f : Nat → Ce} {S : List Nat} (h : RowCl w A n f) (ho : Only S w w') (hA : 0 < n → A ∉ S) : RowCl w' A n f := by
  by_cases h0 : 0 < n
  · exact h.only ho (hA h0)
  · intro i hi; omega

/-- What is kept while steps are tried: the gang, what it told, the order; the row of cells that stands beside. -/
structure TH (w : World) (p : PlanL) (r m n : Nat) (q : GPar) (A bs : Nat) (f : Nat → Ce) (wr : World) (va vo : Value) (s : GSt) (t : TSt) (AL : List Dd) (OL : List Nat) (F : Nat → Prop) : Prop where
  gang : GangIs wr q p r m s F
  told : GTold p r m s t AL OL
  deeds : OwnDeeds wr bs va AL
  ord : Ints wr bs vo (natL OL)
  far : ∀ x, F x → w.heap.size ≤ x ∧ x ∉ own va ∧ x ∉ own vo ∧ (0 < n → x ≠ A)
  two : ∀ x ∈ own va, x ∉ own vo
  row : RowCl wr A n f
  at_ : (0 < n → A < bs) ∧ w.heap.size ≤ bs ∧ bs ≤ wr.heap.size
  only : Only [] w wr

theorem TH.move {w : World} {p : PlanL} {r m n : Nat} {q : GPar} {A bs : Nat} {f : Nat → Ce} {wr wr' : World} {va vo : Value} {s : GSt} {t : TSt} {AL : List Dd} {OL : List Nat} {F : Nat → Prop} {T : List Nat} (h : TH w p r m n q A bs f wr va vo s t AL OL F) (ho : Only T wr wr') (hT : ∀ x ∈ T, wr.heap.size ≤ x) : TH w p r m n q A bs f wr' va vo s t AL OL F := by
  have hs := ho.size
  have hlt := h.gang.lt
  have ha := h.at_
  refine ⟨h.gang.apart ho (fun x hx hf => by have := hlt x hf; have := hT x hx; omega), h.told, ?_, ?_, h.far, h.two, rowCl_keep h.row ho (fun h0 hx => by have := hT A hx; have := ha.1 h0; omega), ⟨ha.1, ha.2.1, by omega⟩, ?_⟩
  · exact Row.only h.deeds ho (fun x hx hx2 => by have := (Row.far h.deeds x hx).2; have := hT x hx2; omega)
  · exact Ints.only h.ord ho (fun x hx hx2 => by have := (Row.far h.ord x (own_of hx)).2; have := hT x hx2; omega)
  · exact h.only.trans ho (fun x hx _ => by have := hT x hx; have := h.only.size; omega)
theorem TH.moved {w : World} {p : PlanL} {r m n : Nat} {q : GPar} {A bs : Nat} {f : Nat → Ce} {wr wr' : World} {va vo : Value} {s : GSt} {t : TSt} {AL : List Dd} {OL : List Nat} {F : Nat → Prop} {o : Obj} (h : TH w p r m n q A bs f wr va vo s t AL OL F) (ho : Only [wr.heap.size] (wr.alloc o) wr') : TH w p r m n q A bs f wr' va vo s t AL OL F :=
  h.move (T := [wr.heap.size]) (((Only.refl [wr.heap.size] wr).alloc o).trans ho (fun x hx _ => hx)) (by simp)

/-- Behind a step, before what it told is laid to the rest. -/
structure TS (w : World) (p : PlanL) (r m n : Nat) (q : GPar) (A bs : Nat) (f : Nat → Ce) (wr : World) (va vo : Value) (s : GSt) (t : TSt) (AL ds : List Dd) (OL : List Nat) (F : Nat → Prop) : Prop where
  gang : GangIs wr q p r m s F
  told : GTold p r m s t (AL ++ ds) (OL ++ finL ds)
  deeds : OwnDeeds wr bs va AL
  ord : Ints wr bs vo (natL OL)
  far : ∀ x, F x → w.heap.size ≤ x ∧ x ∉ own va ∧ x ∉ own vo ∧ (0 < n → x ≠ A)
  two : ∀ x ∈ own va, x ∉ own vo
  row : RowCl wr A n f
  at_ : (0 < n → A < bs) ∧ w.heap.size ≤ bs ∧ bs ≤ wr.heap.size
  only : Only [] w wr
theorem TH.step {w : World} {p : PlanL} {r m n : Nat} {q : GPar} {A bs : Nat} {f : Nat → Ce} {wr wr' : World} {va vo : Value} {s : GSt} {t : TSt} {AL : List Dd} {OL : List Nat} {F F' : Nat → Prop} (h : TH w p r m n q A bs f wr va vo s t AL OL F) (hok : PlanOk p) (r1 : 1 ≤ r) (m6 : m ≤ 6) {k : Nat} (hk : k < m) (pick : Nat)
    (hg : GRel wr F wr' q p r m (gStep p r m s k pick).1 F') : ∃ t', TS w p r m n q A bs f wr' va vo (gStep p r m s k pick).1 t' AL (gStep p r m s k pick).2 OL F' := by
  obtain ⟨t', h'⟩ := h.told.step hok r1 m6 hk pick
  obtain ⟨T, hT, hoT⟩ := hg.only
  have ha := h.at_
  have hs := hoT.size
  refine ⟨t', hg.gang, h', ?_, ?_, fun x hx => ?_, h.two, rowCl_keep h.row hoT (fun h0 hx => (h.far A (hT A hx)).2.2.2 h0 rfl), ⟨ha.1, ha.2.1, by omega⟩, ?_⟩
  · exact Row.only h.deeds hoT (fun x hx hx2 => (h.far x (hT x hx2)).2.1 hx)
  · exact Ints.only h.ord hoT (fun x hx hx2 => (h.far x (hT x hx2)).2.2.1 (own_of hx))
  · rcases hg.kin x hx with hx | hx
    · exact h.far x hx
    · exact ⟨by omega, fun hx2 => by have := (Row.far h.deeds x hx2).2; omega, fun hx2 => by have := (Row.far h.ord x hx2).2; omega, fun h0 e => by have := ha.1 h0; omega⟩
  · exact h.only.trans hoT (fun x hx _ => by have := (h.far x (hT x hx)).1; omega)
/-- The deeds are laid to the rest. -/
theorem TS.laid {w : World} {p : PlanL} {r m n : Nat} {q : GPar} {A bs : Nat} {f : Nat → Ce} {wr wr' : World} {va v' vo : Value} {s : GSt} {t : TSt} {AL ds : List Dd} {OL : List Nat} {F : Nat → Prop} (h : TS w p r m n q A bs f wr va vo s t AL ds OL F)
    (_ : OwnDeeds wr' bs v' (AL ++ ds)) (hO : Only (own va) wr wr') (hK : Kin wr (own va) (own v')) :
    GangIs wr' q p r m s F ∧ Ints wr' bs vo (natL OL) ∧ (∀ x, F x → w.heap.size ≤ x ∧ x ∉ own v' ∧ x ∉ own vo ∧ (0 < n → x ≠ A)) ∧ (∀ x ∈ own v', x ∉ own vo) ∧ RowCl wr' A n f ∧ bs ≤ wr'.heap.size ∧ Only [] w wr' := by
  have hs := hO.size
  have ha := h.at_
  have hlt := h.gang.lt
  refine ⟨h.gang.apart hO (fun x hx hf => (h.far x hf).2.1 hx), Ints.only h.ord hO (fun x hx hx2 => h.two x hx2 (own_of hx)), fun x hx => ⟨(h.far x hx).1, fun hx2 => ?_, (h.far x hx).2.2.1, (h.far x hx).2.2.2⟩, fun x hx hx2 => ?_, rowCl_keep h.row hO (fun h0 hx => by have := (Row.far h.deeds A hx).1; have := ha.1 h0; omega), by omega, ?_⟩
  · rcases hK x hx2 with h3 | h3
    · exact (h.far x hx).2.1 h3
    · have := hlt x hx; omega
  · rcases hK x hx with h3 | h3
    · exact h.two x h3 hx2
    · have := (Row.far h.ord x hx2).2; omega
  · exact h.only.trans hO (fun x hx _ => by have := (Row.far h.deeds x hx).1; omega)
/-- The finished ones are laid to the order. -/
theorem TS.over {w : World} {p : PlanL} {r m n : Nat} {q : GPar} {A bs : Nat} {f : Nat → Ce} {wr w2 w3 : World} {va v' vo v3 : Value} {s : GSt} {t : TSt} {AL ds : List Dd} {OL : List Nat} {F : Nat → Prop} (h : TS w p r m n q A bs f wr va vo s t AL ds OL F)
    (hI : OwnDeeds w2 bs v' (AL ++ ds)) (hG : GangIs w2 q p r m s F) (hfar : ∀ x, F x → w.heap.size ≤ x ∧ x ∉ own v' ∧ x ∉ own vo ∧ (0 < n → x ≠ A)) (htwo : ∀ x ∈ own v', x ∉ own vo) (hrow : RowCl w2 A n f) (hb2 : bs ≤ w2.heap.size) (ho2 : Only [] w w2)
    (hov : ∀ x ∈ own vo, bs ≤ x) (ho : Only (own vo) w2 w3) (hK : Kin w2 (own vo) (own v3)) (hO3 : Ints w3 bs v3 (natL (OL ++ finL ds))) : TH w p r m n q A bs f w3 v' v3 s t (AL ++ ds) (OL ++ finL ds) F := by
  have hs := ho.size
  have ha := h.at_
  have hlt := hG.lt
  refine ⟨hG.apart ho (fun x hx hf => (hfar x hf).2.2.1 hx), h.told, Row.only hI ho (fun x hx hx2 => htwo x hx hx2), hO3, fun x hx => ⟨(hfar x hx).1, (hfar x hx).2.1, fun hx2 => ?_, (hfar x hx).2.2.2⟩, fun x hx hx2 => ?_, rowCl_keep hrow ho (fun h0 hx => by have := hov A hx; have := ha.1 h0; omega), ⟨ha.1, ha.2.1, by omega⟩, ?_⟩
  · rcases hK x hx2 with h3 | h3
    · exact (hfar x hx).2.2.1 h3
    · have := hlt x hx; omega
  · rcases hK x hx2 with h3 | h3
    · exact htwo x hx h3
    · have := (Row.far hI x hx).2; omega
  · exact ho2.trans ho (fun x hx _ => by have := hov x hx; omega)

end Go.Proofs.YtoofalchkedciaaGreatDoor

namespace Go.Proofs.YtoofalchkedciaaGreatDoor
open Go.RowKit Go.Deep

theorem own_one {B n c x : Nat} (h : x ∈ own (.slice (some ⟨B, 0, none⟩) n c)) : x = B := by simpa [own, Value.ownBlock] using h

theorem gang_work {w : World} {F : Nat → Prop} {q : GPar} {p : PlanL} {room m : Nat} {s : GSt} (h : GangIs w q p room m s F) (H : GInv p room m s) {i : Nat} (hi : i < m) (ht : 0 ≤ (s.ws i).task) :
    Calls Tryz.prog 95 #[.pointer (some ⟨q.G, 0, none⟩), .int .i64 i] w fun e w' => ∃ v F', e = .returned (.tuple #[v, .nilIface]) ∧ OwnDeeds w' w.heap.size v (gWork p room s i).2 ∧
      GRel w F w' q p room m (gWork p room s i).1 F' ∧ ∀ x ∈ own v, ¬ F' x := by
  by_cases hl : 1 < (s.ws i).left
  · refine (gang_unit h H hi ht hl).mono ?_
    rintro e w' ⟨rfl, hg⟩
    have e : gWork p room s i = (⟨s.done, s.spill, s.row, upW s.ws i ⟨(s.ws i).near, (s.ws i).ring, (s.ws i).task, (s.ws i).left - 1⟩⟩, []) := if_pos hl
    rw [e]
    exact ⟨_, F, rfl, OwnDeeds.nil _ _, hg, fun x hx => by simp [own, Value.ownBlock] at hx⟩
  · exact gang_finish h H hi ht hl

theorem pick_cases {p : PlanL} {room m : Nat} {s : GSt} (H : GInv p room m s) {h : Nat} (pick : Nat) (hm : h < m) : gPick room m s h pick = ⟨-1, 0, 0, s⟩ ∨ ∃ k : Nat, (gPick room m s h pick).x = (k : Int) ∧ k < p.length := by
  have ge : ∀ x ∈ heldL m s, ∃ k : Nat, x = (k : Int) ∧ k < p.length := fun x hx => by obtain ⟨i, e, hi⟩ := H.mem hx; exact ⟨i, e, (readyL_mem.1 hi).1⟩
  by_cases hn : 0 ≤ (s.ws h).near
  · rw [gPick_near hn]
    exact .inr (ge _ (held_own hm (by unfold ownW; rw [nearL_pos hn]; simp)))
  · have hn' : (s.ws h).near < 0 := by omega
    by_cases hg : (s.ws h).ring = []
    · cases hs : s.spill with
      | cons x rest => rw [gPick_spill hn' hg hs]; exact .inr (ge x (by unfold heldL; rw [hs]; simp))
      | nil =>
        by_cases hh : pick % m = h
        · exact .inl (gPick_self hn' hg hs hh)
        · cases hl : (s.ws (pick % m)).ring.take (halfOf (s.ws (pick % m)).ring) with
          | nil => exact .inl (gPick_none hn' hg hs hh hl)
          | cons x xs =>
            rw [gPick_rob hn' hg hs hh hl]
            exact .inr (ge x (held_own (Nat.mod_lt pick (by omega)) (show x ∈ ownW (s.ws (pick % m)) by
              have : x ∈ x :: xs := by simp
              rw [← hl] at this
              unfold ownW
              simp [List.mem_of_mem_take this])))
    · rw [gPick_ring hn' hg]
      exact .inr (ge _ (held_own hm (show (s.ws h).ring.getLastD 0 ∈ ownW (s.ws h) from List.mem_append.2 (.inl (List.mem_append.2 (.inl (getLastD_mem _ hg)))))))

theorem deed_kept {W4 w5 : World} {F' : Nat → Prop} {B base : Nat} (d : Dd) (h : W4.heap[B]? = some (.cells #[.int .i64 d.what, .int .i64 d.hand, .int .i64 d.task, .int .i64 d.other] 53 (0, 0))) (hb : base ≤ B) (ho : OnlyF F' W4 w5) (hF : ¬ F' B) : OwnDeeds w5 base (.slice (some ⟨B, 0, none⟩) 1 1) [d] :=
  (deed_one d h hb).onlyF ho (fun x hx => by
    obtain rfl : x = B := by simpa [own, Value.ownBlock] using hx
    exact hF)

set_option maxRecDepth 100000 in
set_option maxHeartbeats 4000000 in
theorem gang_step {w : World} {F : Nat → Prop} {q : GPar} {p : PlanL} {room m : Nat} {s : GSt} (h : GangIs w q p room m s F) (H : GInv p room m s) {i : Nat} (hi : i < m) (pick : Nat) :
    Calls Tryz.prog 44 #[.pointer (some ⟨q.G, 0, none⟩), .int .i64 i, .int .i64 pick] w fun e w' => ∃ v F', e = .returned (.tuple #[v, .nilIface]) ∧ OwnDeeds w' w.heap.size v (gStep p room m s i pick).2 ∧
      GRel w F w' q p room m (gStep p room m s i pick).1 F' ∧ ∀ x ∈ own v, ¬ F' x := by
  have R := GRel.start h
  have HR := Lib.hid R
  obtain ⟨hC, _, hrow, hwk, _, m1, m6, mc, cm, _, _, hok⟩ := R.cells
  have c4 := hC.cell 4 _ rfl
  have c3 := hC.cell 3 _ rfl
  have cr := hrow i hi
  have d1 := (hwk i hi).cell 1 _ rfl
  by_cases hr : (i : Int) ∈ s.row
  · have haw := R.awake hi true (by simp [hr])
    have e : gStep p room m s i pick = (s, []) := if_pos hr
    rw [e]
    clear h H R hC hrow hwk e hr hok
    go_enter Tryz.func44, Tryz.ntmps44
    go_wp2_with fail
    refine haw.mono ?_
    rintro e w1 ⟨rfl, rfl⟩
    clear haw
    go_wp2
    go_ret2
    exact ⟨_, F, rfl, OwnDeeds.nil _ _, HR.out, fun x hx => by simp [own, Value.ownBlock] at hx⟩
  · have haw := R.awake hi false (by simp [hr])
    by_cases ht : 0 ≤ (s.ws i).task
    · have hw := gang_work h H hi ht
      have e : gStep p room m s i pick = gWork p room s i := by unfold gStep; rw [if_neg hr, if_pos ht]
      rw [e]
      obtain ⟨Z, hZ⟩ : ∃ Z, gWork p room s i = Z := ⟨_, rfl⟩
      rw [hZ] at hw ⊢
      obtain ⟨t, htk⟩ : ∃ t, (s.ws i).task = t := ⟨_, rfl⟩
      rw [htk] at d1 ht
      clear h H R hC hrow hwk e hr hok hZ htk
      go_enter Tryz.func44, Tryz.ntmps44
      go_wp2_with fail
      refine haw.mono ?_
      rintro e w1 ⟨rfl, rfl⟩
      clear haw
      go_wp2_with fail
      refine hw.mono ?_
      rintro e w2 ⟨v, F', rfl, hD, hG, hN⟩
      have HD := Lib.hid (And.intro hD (And.intro hG hN))
      clear hw hD hG hN
      go_wp2
      go_ret2
      exact ⟨_, F', rfl, HD.out.1, HD.out.2.1, HD.out.2.2⟩
    · have hf := gang_find h H hi pick
      have hpc := pick_cases H pick hi
      have e : gStep p room m s i pick = gHave p s i (gPick room m s i pick) := by unfold gStep; rw [if_neg hr, if_neg ht, gFind_pick H hi]
      rw [e]
      have HL := Lib.hid h.lt
      have HRL := Lib.hid H.row_len
      have HNR := Lib.hid hr
      obtain ⟨t, htk⟩ : ∃ t, (s.ws i).task = t := ⟨_, rfl⟩
      rw [htk] at d1 ht
      have ht' : t < 0 := by omega
      rcases hpc with hp | ⟨k, hk, hkl⟩
      · have e2 : gHave p s i (gPick room m s i pick) = gSleep s i := by rw [hp]; unfold gHave; rw [if_pos (show (-1 : Int) < 0 by omega)]
        rw [e2]
        rw [hp] at hf
        clear h H R hC hrow hwk e hr hok htk e2 hp ht
        go_enter Tryz.func44, Tryz.ntmps44
        go_wp2_with fail
        refine haw.mono ?_
        rintro e w1 ⟨rfl, rfl⟩
        clear haw
        go_wp2_with fail
        refine hf.mono ?_
        rintro e w2 ⟨F', rfl, hG⟩
        obtain ⟨W3, hW3⟩ : ∃ W3, w2.alloc (.cells #[.int .i64 5, .int .i64 (i : Int), .int .i64 0, .int .i64 0] 53) = W3 := ⟨_, rfl⟩
        have ho3 : Only [] w2 W3 := by rw [← hW3]; exact (Only.refl [] w2).alloc _
        have hG3 := hG.same ho3
        have hD3 : Cells W3 w2.heap.size [.int .i64 5, .int .i64 (i : Int), .int .i64 0, .int .i64 0] := by rw [← hW3]; exact Cells.new w2 _ _
        have hz3 : W3.heap.size = w2.heap.size + 1 := by rw [← hW3]; simp
        have hlt := hG.gang.lt
        have HD3 := Lib.hid (fun (W : World) (ho : OnlyF F' W3 W) => (by
          obtain ⟨T, hT, ho⟩ := ho
          exact hD3.only ho (fun hx => by have := hlt _ (hT _ hx); omega) : Cells W w2.heap.size [.int .i64 5, .int .i64 (i : Int), .int .i64 0, .int .i64 0]))
        have HSL := Lib.hid (fun (W : World) (ho : Only [] W3 W) => ((GRel.start hG3.gang).same ho).sleep hi HNR.out (by have := HRL.out; omega))
        have hC3 := hG3.cells
        have k3 := hC3.1.cell 3 _ rfl
        have k3b : (W3.alloc (.cells #[.int .i64 5, .int .i64 (i : Int), .int .i64 0, .int .i64 0] 53)).cell? ⟨q.G, 3, none⟩ = some (.pointer (some ⟨q.K, 0, none⟩)) :=
          (hC3.1.only ((Only.refl [] W3).alloc _) (by simp)).cell 3 _ rfl
        have e0 := hD3.cell 0 _ rfl
        have e1 := hD3.cell 1 _ rfl
        have e2 := hD3.cell 2 _ rfl
        have e3 := hD3.cell 3 _ rfl
        have HG3 := Lib.hid hG3
        have HLT := Lib.hid hlt
        have HW3 := Lib.hid hW3
        have HZ3 := Lib.hid hz3
        clear hf hG hG3 hD3 hlt hC3 hW3 ho3 hz3
        go_wp2_with fail
        rw [HW3.out]
        go_region_law (first | (go_simp; go_at_call 97; refine (HSL.out _ (by first | exact Only.refl _ _ | exact (Only.refl _ _).drew | exact (Only.refl _ _).drewN _ | exact ((Only.refl _ _).alloc _).drew | exact ((Only.refl _ _).alloc _).drewN _)).mono ?_; rintro e w5 ⟨rfl, F5, hS5, hk5, ho5⟩; have x0 := (HD3.out _ hS5.only).cell 0 _ rfl; have x1 := (HD3.out _ hS5.only).cell 1 _ rfl; have x2 := (HD3.out _ hS5.only).cell 2 _ rfl; have x3 := (HD3.out _ hS5.only).cell 3 _ rfl))
        all_goals
          have hfin := Lib.hid (HG3.out.trans hS5)
          have hba := HG3.out.only.size
          have hFB : ¬ F' W3.heap.size := fun hx => by have := HLT.out _ hx; have := HZ3.out; omega
          have hHO := Lib.hid ho5
          have hw5 := hS5.only.size
          have HLT5 := Lib.hid hS5.gang.lt
          have HK5 := Lib.hid hk5
          clear hS5 hk5 ho5 x0 x1 x2 x3 e0 e1 e2 e3 k3 k3b HSL
          go_wp2
          go_ret2
          first
            | (refine ⟨_, F5, rfl, deed_kept (B := W3.heap.size) ⟨5, (i : Int), 0, 0⟩ ?_ hba hHO.out hFB, hfin.out, fun x hx hF => ?_⟩
               · exact heap_alloc_new W3 _
               · obtain rfl : x = W3.heap.size := own_one (n := 1) (c := 1) hx
                 rcases HK5.out _ hF with h | h
                 · exact hFB h
                 · simp at h; try omega)
            | exact ⟨_, F5, rfl, deed_one (B := w5.heap.size) ⟨5, (i : Int), 0, 0⟩ (heap_alloc_new w5 _) (by omega), hfin.out.same ((Only.refl [] w5).alloc _), fun x hx hF => by
                obtain rfl : x = w5.heap.size := own_one (n := 1) (c := 1) hx
                have := HLT5.out _ hF; omega⟩
      · obtain ⟨r, hrr⟩ : ∃ r, gPick room m s i pick = r := ⟨_, rfl⟩
        rw [hrr] at hf hk ⊢
        obtain ⟨x, wh, ot, S1⟩ := r
        obtain rfl : x = (k : Int) := hk
        have e2 : gHave p s i ⟨(k : Int), wh, ot, S1⟩ = (⟨S1.done, S1.spill, S1.row, upW S1.ws i ⟨(S1.ws i).near, (S1.ws i).ring, (k : Int), wkOf p k⟩⟩, [⟨wh, (i : Int), (k : Int), ot⟩]) := by
          unfold gHave
          rw [if_neg (show ¬ (k : Int) < 0 by omega)]
          simp only [gTake, Int.toNat_natCast]
        rw [e2]
        clear h H R hC hrow hwk e hr hok htk e2 hrr ht
        go_enter Tryz.func44, Tryz.ntmps44
        go_wp2_with fail
        refine haw.mono ?_
        rintro e w1 ⟨rfl, rfl⟩
        clear haw
        go_wp2_with fail
        refine hf.mono ?_
        rintro e w2 ⟨F', rfl, hG⟩
        have hG : GRel w F w2 q p room m S1 F' := hG
        obtain ⟨hC, hP, _, hwk2, _⟩ := hG.cells
        have c0 := hC.cell 0 _ rfl
        have hcw := hwk2 i hi
        have y1 := hcw.cell 1 _ rfl
        have y2 := hcw.cell 2 _ rfl
        have g1 := hcw.free 1 _ rfl
        have g2 := hcw.free 2 _ rfl
        obtain ⟨pa, pc, hpv, hpl, hpm, hpt⟩ := hP.task
        obtain ⟨pb, po, u, hpa, z0, _⟩ := hpt k hkl
        subst hpa
        rw [hpv] at c0
        have hal := (Only.refl [] w2).alloc (.cells #[.int .i64 wh, .int .i64 (i : Int), .int .i64 0, .int .i64 ot] 53)
        have c0' := (hC.only hal (by simp)).cell 0 _ rfl
        rw [hpv] at c0'
        have y1' := (hcw.only hal (by simp)).cell 1 _ rfl
        have y2' := (hcw.only hal (by simp)).cell 2 _ rfl
        have g1' := (hcw.only hal (by simp)).free 1 _ rfl
        have g2' := (hcw.only hal (by simp)).free 2 _ rfl
        have z0' := (hal.cell (p := ⟨pb, po + k * 2, none⟩) (cell_lt z0) (by simp)).trans z0
        have z0'' : w2.cell? ⟨pb, po + k * 2 + 0, none⟩ = some (.int .i64 (wkOf p k)) := z0
        have hne1 : ¬ q.WB i = w2.heap.size := by have : q.WB i < w2.heap.size := cell_lt y1; omega
        have hne2 : ¬ w2.heap.size = q.WB i := fun e => hne1 e.symm
        have HG := Lib.hid hG
        have HCW := Lib.hid hcw
        have HLT := Lib.hid hG.gang.lt
        obtain ⟨n, hn⟩ : ∃ n, p.length = n := ⟨_, rfl⟩
        rw [hn] at c0 c0' hkl hpl
        clear hf hG hC hP hwk2 hcw hpv hpt hal hn
        go_wp2_with fail
        go_ret2
        have hal := (Only.refl [] w2).alloc (.cells #[.int .i64 wh, .int .i64 (i : Int), .int .i64 0, .int .i64 ot] 53)
        have hwz : w.heap.size ≤ w2.heap.size := HG.out.only.size
        have h5 := ((HG.out.same hal).set hi (((HCW.out.only hal (by simp)).set 1 (.int .i64 (k : Int))).set 2 (.int .i64 (wkOf p k))) (((Only.refl [q.WB i] _).setCell (by simp) _).setCell (by simp) _)).fresh
          ((Only.refl [w2.heap.size] _).setCell (p := ⟨w2.heap.size, 2, none⟩) (by simp) (.int .i64 (k : Int))) (fun x hx => by
            obtain rfl : x = w2.heap.size := by simpa using hx
            exact ⟨fun hF => by have := HLT.out _ hF; omega, hwz⟩)
        exact ⟨_, F', rfl, deed_one (B := w2.heap.size + 1) ⟨wh, (i : Int), (k : Int), ot⟩ (heap_alloc_at _ _ _ (by simp [World.setCell])) (by omega), h5.same ((Only.refl [] _).alloc _), fun x hx hF => by
          obtain rfl : x = w2.heap.size + 1 := own_one (n := 1) (c := 1) hx
          have := HLT.out _ hF; omega⟩

end Go.Proofs.YtoofalchkedciaaGreatDoor
