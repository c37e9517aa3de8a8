/-
  A gang under a law: what is kept, what is refused.
  Contract of a gang's Has.
  Contract of yardref1.Cutting.
-/
import Derived.Test.YtocpmncedlenbaaGreatDoorP22GangPlays
import Derived.Test.YtocpmncedlenbaaGreatDoorP24GangPlays
import Derived.Test.YtocpmncedlenbaaGreatDoorP31GangPlays
import Derived.Test.YtocpmncedlenbaaGreatDoorP32GangPlays
import Derived.Test.YtocpmncedlenbaaGreatDoorP27GangPlays
import Derived.Test.YtocpmncedlenbaaGreatDoorP2GangPlays
namespace Go.Proofs.YtocpmncedlenbaaGreatDoor
open Go.RowKit Go.Deep

set_option maxRecDepth 100000 in
set_option maxHeartbeats 4000000 in
theorem gang_step_no {w : World} {F : Nat → Prop} {q : GPar} {p : PlanL} {room m : Nat} {s : GSt} (h : GangIs w q p room m s F) (x y : Int) (hx : x < 0 ∨ (m : Int) ≤ x ∨ y < 0) :
    Calls Tryz.prog 21 #[.pointer (some ⟨q.G, 0, none⟩), .int .i64 x, .int .i64 y] w fun e w' => e = .returned (.tuple #[.slice none 0 0, .iface 99 (.int .i64 1)]) ∧ w = w' := by
  obtain ⟨hC, _, _, _, _, _, m6, _⟩ := (GRel.start h).cells
  have c4 := hC.cell 4 _ rfl
  clear h hC
  have hcs : x < 0 ∨ (0 ≤ x ∧ (m : Int) ≤ x) ∨ (0 ≤ x ∧ x < (m : Int) ∧ y < 0) := by omega
  clear hx
  rcases hcs with h | ⟨h, h2⟩ | ⟨h, h2, h3⟩
  all_goals
    go_enter Tryz.func21, Tryz.ntmps21
    go_wp2
    go_ret2
    exact ⟨rfl, rfl⟩

/-- What deeds say is done. -/
def dUp (D : Nat → Bool) : List Dd → Nat → Bool
  | [] => D
  | d :: l => dUp (if d.what = 4 then upB D d.task.toNat else D) l
theorem dUp_app (D : Nat → Bool) (a b : List Dd) : dUp D (a ++ b) = dUp (dUp D a) b := by
  induction a generalizing D with
  | nil => rfl
  | cons d a ih => exact ih _
theorem dUp_push (D : Nat → Bool) (l : List Dd) (d : Dd) : dUp D (l ++ [d]) = if d.what = 4 then upB (dUp D l) d.task.toNat else dUp D l := by rw [dUp_app]; rfl
theorem dUp_none (D : Nat → Bool) (l : List Dd) (h : ∀ d ∈ l, d.what ≠ 4) : dUp D l = D := by
  induction l generalizing D with
  | nil => rfl
  | cons d l ih =>
    show dUp (if d.what = 4 then upB D d.task.toNat else D) l = D
    rw [if_neg (h d (by simp))]
    exact ih _ (fun x hx => h x (by simp [hx]))

/-- A step's deeds say what is done. -/
theorem step_says {p : PlanL} {room m : Nat} {s : GSt} (H : GInv p room m s) {h : Nat} (pick : Nat) (hm : h < m) :
    dUp s.done (gStep p room m s h pick).2 = (gStep p room m s h pick).1.done ∧ ∀ d ∈ (gStep p room m s h pick).2, d.what = 4 → 0 ≤ d.task ∧ d.task < (p.length : Int) := by
  have other : ∀ (x : Dd), x.what ≠ 4 → ∀ D, dUp D [x] = D ∧ ∀ d ∈ [x], d.what = 4 → 0 ≤ d.task ∧ d.task < (p.length : Int) := by
    intro x hx D
    refine ⟨dUp_none _ _ (fun d hd => by obtain rfl : d = x := (by simpa using hd); exact hx), fun d hd h4 => ?_⟩
    obtain rfl : d = x := by simpa using hd
    exact absurd h4 hx
  unfold gStep
  split
  · exact ⟨rfl, fun d hd => nomatch hd⟩
  · split
    · rename_i ht
      unfold gWork
      split
      · exact ⟨rfl, fun d hd => nomatch hd⟩
      · obtain ⟨i, hi, hir⟩ := H.task hm ht
        have i1 := (readyL_mem.1 hir).1
        have h4 : ∀ d ∈ ((s.row.take (natL (newL p s.done (s.ws h).task.toNat)).length).map fun k => (⟨6, k, 0, 0⟩ : Dd)), d.what ≠ 4 := by
          intro d hd
          obtain ⟨k, _, rfl⟩ := List.mem_map.1 hd
          show (6 : Int) ≠ 4
          omega
        refine ⟨?_, fun d hd hd4 => ?_⟩
        · show dUp (if (4 : Int) = 4 then upB s.done (s.ws h).task.toNat else s.done) _ = _
          rw [if_pos rfl, dUp_none _ _ h4]
        · rcases List.mem_cons.1 hd with rfl | hd
          · show 0 ≤ (s.ws h).task ∧ (s.ws h).task < _
            omega
          · exact absurd hd4 (h4 d hd)
    · unfold gFind
      split
      · exact other _ (show (1 : Int) ≠ 4 by omega) _
      · split
        · exact other _ (show (1 : Int) ≠ 4 by omega) _
        · split
          · exact other _ (show (3 : Int) ≠ 4 by omega) _
          · split
            · exact other _ (show (5 : Int) ≠ 4 by omega) _
            · unfold gRob
              split
              · exact other _ (show (5 : Int) ≠ 4 by omega) _
              · exact other _ (show (2 : Int) ≠ 4 by omega) _

/-- What is kept while steps are tried. -/
structure GH (w : World) (p : PlanL) (r m n : Nat) (q : GPar) (A : Nat) (wr : World) (i : Nat) (va : Value) (s : GSt) (t : TSt) (AL : List Dd) (F : Nat → Prop) : Prop where
  gang : GangIs wr q p r m s F
  inv : GInv p r m s
  watch : Watch m s
  bools : Bools wr A n s.done
  deeds : OwnDeeds wr w.heap.size va AL
  leads : Leads p m tZero AL t
  rel : RelT m s.done s.row (gTk s.ws) t
  few : AL.length + s.row.length ≤ 2 * i
  far : ∀ x, F x → w.heap.size ≤ x ∧ x ≠ A ∧ x ∉ own va
  aa : A ∉ own va
  a1 : w.heap.size ≤ A ∧ A < wr.heap.size
  only : Only [] w wr

theorem GH.move {w : World} {p : PlanL} {r m n : Nat} {q : GPar} {A : Nat} {wr wr' : World} {i : Nat} {va : Value} {s : GSt} {t : TSt} {AL : List Dd} {F : Nat → Prop} {T : List Nat} (h : GH w p r m n q A wr i va s t AL F) (ho : Only T wr wr') (hT : ∀ x ∈ T, wr.heap.size ≤ x) : GH w p r m n q A wr' i va s t AL F := by
  have hs := ho.size
  have hlt := h.gang.lt
  have ha := h.a1
  refine ⟨h.gang.apart ho (fun x hx hf => by have := hlt x hf; have := hT x hx; omega), h.inv, h.watch, h.bools.only ho (fun hx => by have := hT A hx; omega), ?_, h.leads, h.rel, h.few, h.far, h.aa, ⟨ha.1, by omega⟩, ?_⟩
  · exact Row.only h.deeds ho (fun x hx hx2 => by have := (Row.far h.deeds x hx).2; have := hT x hx2; omega)
  · exact h.only.trans ho (fun x hx _ => by have := hT x hx; have := h.only.size; omega)
/-- Behind the box of a step's numbers. -/
theorem GH.moved {w : World} {p : PlanL} {r m n : Nat} {q : GPar} {A : Nat} {wr wr' : World} {i : Nat} {va : Value} {s : GSt} {t : TSt} {AL : List Dd} {F : Nat → Prop} {o : Obj} (h : GH w p r m n q A wr i va s t AL F) (ho : Only [wr.heap.size] (wr.alloc o) wr') : GH w p r m n q A wr' i va s t AL F :=
  h.move (T := [wr.heap.size]) (((Only.refl [wr.heap.size] wr).alloc o).trans ho (fun x hx _ => hx)) (by simp)
theorem GH.next {w : World} {p : PlanL} {r m n : Nat} {q : GPar} {A : Nat} {wr : World} {i : Nat} {va : Value} {s : GSt} {t : TSt} {AL : List Dd} {F : Nat → Prop} (h : GH w p r m n q A wr i va s t AL F) : GH w p r m n q A wr (i + 1) va s t AL F :=
  ⟨h.gang, h.inv, h.watch, h.bools, h.deeds, h.leads, h.rel, by have := h.few; omega, h.far, h.aa, h.a1, h.only⟩

/-- Behind a step, before what it told is laid to the rest. -/
structure GS (w : World) (p : PlanL) (r m n : Nat) (q : GPar) (A : Nat) (wr : World) (i : Nat) (va : Value) (s : GSt) (D : Nat → Bool) (t : TSt) (AL ds : List Dd) (F : Nat → Prop) : Prop where
  gang : GangIs wr q p r m s F
  inv : GInv p r m s
  watch : Watch m s
  bools : Bools wr A n D
  deeds : OwnDeeds wr w.heap.size va AL
  leads : Leads p m tZero (AL ++ ds) t
  rel : RelT m s.done s.row (gTk s.ws) t
  few : AL.length + ds.length + s.row.length ≤ 2 * (i + 1)
  far : ∀ x, F x → w.heap.size ≤ x ∧ x ≠ A ∧ x ∉ own va
  aa : A ∉ own va
  a1 : w.heap.size ≤ A ∧ A < wr.heap.size
  only : Only [] w wr

theorem GH.step {w : World} {p : PlanL} {r m n : Nat} {q : GPar} {A : Nat} {wr wr' : World} {i : Nat} {va : Value} {s : GSt} {t : TSt} {AL : List Dd} {F F' : Nat → Prop} (h : GH w p r m n q A wr i va s t AL F) (hok : PlanOk p) (r1 : 1 ≤ r) (m6 : m ≤ 6) {k : Nat} (hk : k < m) (pick : Nat)
    (hg : GRel wr F wr' q p r m (gStep p r m s k pick).1 F') : ∃ t', GS w p r m n q A wr' i va (gStep p r m s k pick).1 s.done t' AL (gStep p r m s k pick).2 F' := by
  obtain ⟨t', l1, r1'⟩ := step_leads hok m6 h.inv h.rel pick hk
  have hf := step_few (p := p) (room := r) (m := m) s k pick
  have hfew := h.few
  obtain ⟨T, hT, hoT⟩ := hg.only
  have ha := h.a1
  have hs := hoT.size
  refine ⟨t', hg.gang, gStep_inv hok r1 h.inv pick hk, step_watch h.inv h.watch pick hk, h.bools.only hoT (fun hx => (h.far A (hT A hx)).2.1 rfl), ?_, h.leads.trans l1, r1', by omega, fun x hx => ?_, h.aa, ⟨ha.1, by omega⟩, ?_⟩
  · exact Row.only h.deeds hoT (fun x hx hx2 => (h.far x (hT x hx2)).2.2 hx)
  · rcases hg.kin x hx with hx | hx
    · exact h.far x hx
    · exact ⟨by have := h.only.size; omega, by omega, fun hx2 => by have := (Row.far h.deeds x hx2).2; omega⟩
  · exact h.only.trans hoT (fun x hx _ => by have := (h.far x (hT x hx)).1; omega)

/-- The deeds are laid to the rest. -/
theorem GS.laid {w : World} {p : PlanL} {r m n : Nat} {q : GPar} {A : Nat} {wr wr' : World} {i : Nat} {va v' : Value} {s : GSt} {D : Nat → Bool} {t : TSt} {AL ds : List Dd} {F : Nat → Prop} (h : GS w p r m n q A wr i va s D t AL ds F)
    (hO : Only (own va) wr wr') (hK : Kin wr (own va) (own v')) : GangIs wr' q p r m s F ∧ Bools wr' A n D ∧ (∀ x, F x → w.heap.size ≤ x ∧ x ≠ A ∧ x ∉ own v') ∧ A ∉ own v' ∧ A < wr'.heap.size ∧ Only [] w wr' := by
  have hs := hO.size
  have ha := h.a1
  refine ⟨h.gang.apart hO (fun x hx hf => (h.far x hf).2.2 hx), h.bools.only hO h.aa, fun x hx => ⟨(h.far x hx).1, (h.far x hx).2.1, fun hx2 => ?_⟩, fun hx => ?_, by omega, ?_⟩
  · rcases hK x hx2 with h3 | h3
    · exact (h.far x hx).2.2 h3
    · have := h.gang.lt x hx; omega
  · rcases hK A hx with h3 | h3
    · exact h.aa h3
    · omega
  · exact h.only.trans hO (fun x hx _ => by have := (Row.far h.deeds x hx).1; omega)

/-- What was done is marked. -/
theorem GS.over {w : World} {p : PlanL} {r m n : Nat} {q : GPar} {A : Nat} {wr w2 w3 : World} {i : Nat} {va v' : Value} {s : GSt} {D : Nat → Bool} {t : TSt} {AL ds : List Dd} {F : Nat → Prop} (h : GS w p r m n q A wr i va s D t AL ds F)
    (hI : OwnDeeds w2 w.heap.size v' (AL ++ ds)) (hG : GangIs w2 q p r m s F) (hfar : ∀ x, F x → w.heap.size ≤ x ∧ x ≠ A ∧ x ∉ own v') (haa : A ∉ own v') (hA2 : A < w2.heap.size) (ho2 : Only [] w w2) (ho : Only [A] w2 w3) (hB : Bools w3 A n s.done) : GH w p r m n q A w3 (i + 1) v' s t (AL ++ ds) F := by
  have hs := ho.size
  have ha := h.a1
  refine ⟨hG.apart ho (fun x hx hf => ?_), h.inv, h.watch, hB, ?_, h.leads, h.rel, by have := h.few; rw [List.length_append]; omega, hfar, haa, ⟨ha.1, by omega⟩, ?_⟩
  · obtain rfl : x = A := by simpa using hx
    exact (hfar x hf).2.1 rfl
  · exact Row.only hI ho (fun x hx hx2 => by obtain rfl : x = A := (by simpa using hx2); exact haa hx)
  · exact ho2.trans ho (fun x hx hl => by obtain rfl : x = A := (by simpa using hx); omega)

/-- What trace says of it. -/
theorem GH.told {w : World} {p : PlanL} {r m n : Nat} {q : GPar} {A : Nat} {wr : World} {i : Nat} {va : Value} {s : GSt} {t : TSt} {AL : List Dd} {F : Nat → Prop} (h : GH w p r m n q A wr i va s t AL F) (hi : i ≤ 200) : AL.length ≤ 400 ∧ ddsFault AL = 0 ∧ runF p m tZero AL = 0 := by
  have hf := h.few
  refine ⟨by omega, ?_, ?_⟩
  · unfold ddsFault
    rw [if_neg (by omega)]
    exact (firstDd_zero AL).2 h.leads.2
  · have := h.leads.1 []
    rw [List.append_nil] at this
    rw [this]
    rfl

end Go.Proofs.YtocpmncedlenbaaGreatDoor

namespace Go.Proofs.YtocpmncedlenbaaGreatDoor
open Go.RowKit Go.Deep

set_option maxRecDepth 100000 in
set_option maxHeartbeats 4000000 in
theorem gang_Has {w : World} {F : Nat → Prop} {q : GPar} {p : PlanL} {room m : Nat} {s : GSt} (h : GangIs w q p room m s F) {i : Nat} (hi : i < m) :
    Calls Tryz.prog 23 #[.pointer (some ⟨q.G, 0, none⟩), .int .i64 i] w fun e w' => e = .returned (.tuple #[.int .i64 (s.ws i).task, .nilIface]) ∧ w = w' := by
  obtain ⟨hC, _, hrow, hwk, _, _, m6, mc, cm, _⟩ := (GRel.start h).cells
  have c4 := hC.cell 4 _ rfl
  have cr := hrow i hi
  have d1 := (hwk i hi).cell 1 _ rfl
  obtain ⟨t, ht⟩ : ∃ t, (s.ws i).task = t := ⟨_, rfl⟩
  rw [ht] at d1 ⊢
  clear h hC hrow hwk ht
  go_enter Tryz.func23, Tryz.ntmps23
  go_wp2
  go_ret2
  exact ⟨rfl, rfl⟩

set_option maxRecDepth 100000 in
set_option maxHeartbeats 4000000 in
theorem gang_Has_no {w : World} {F : Nat → Prop} {q : GPar} {p : PlanL} {room m : Nat} {s : GSt} (h : GangIs w q p room m s F) (x : Int) (hx : x < 0 ∨ (m : Int) ≤ x) :
    Calls Tryz.prog 23 #[.pointer (some ⟨q.G, 0, none⟩), .int .i64 x] w fun e w' => e = .returned (.tuple #[.int .i64 0, .iface 99 (.int .i64 1)]) ∧ w = w' := by
  obtain ⟨hC, _, _, _, _, _, m6, _⟩ := (GRel.start h).cells
  have c4 := hC.cell 4 _ rfl
  clear h hC
  have hcs : x < 0 ∨ (0 ≤ x ∧ (m : Int) ≤ x) := by omega
  clear hx
  rcases hcs with h | ⟨h, h2⟩
  all_goals
    go_enter Tryz.func23, Tryz.ntmps23
    go_wp2
    go_ret2
    exact ⟨rfl, rfl⟩

end Go.Proofs.YtocpmncedlenbaaGreatDoor

namespace Go.Proofs.YtocpmncedlenbaaGreatDoor
open Go.RowKit

theorem cut_lt_take (xs : List Int) (i k : Nat) (z : Int) (h : xs.take (i + 1) = xs.take i ++ [z]) (hl : (xs.take i).length = i) (hik : i < k) : (xs.take i).take k ++ [z] = (xs.take (i + 1)).take k := by
  rw [h]
  generalize xs.take i = ys at *
  rw [List.take_of_length_le (by omega), List.take_of_length_le (by simp; omega)]
theorem cut_lt_drop (xs : List Int) (i k : Nat) (z : Int) (h : xs.take (i + 1) = xs.take i ++ [z]) (hl : (xs.take i).length = i) (hik : i < k) : (xs.take i).drop k = (xs.take (i + 1)).drop k := by
  rw [h]
  generalize xs.take i = ys at *
  rw [List.drop_eq_nil_of_le (by omega), List.drop_eq_nil_of_le (by simp; omega)]
theorem cut_ge_drop (xs : List Int) (i k : Nat) (z : Int) (h : xs.take (i + 1) = xs.take i ++ [z]) (hl : (xs.take i).length = i) (hik : k ≤ i) : (xs.take i).drop k ++ [z] = (xs.take (i + 1)).drop k := by
  rw [h]
  generalize xs.take i = ys at *
  rw [List.drop_append_of_le_length (by omega)]
theorem cut_ge_take (xs : List Int) (i k : Nat) (z : Int) (h : xs.take (i + 1) = xs.take i ++ [z]) (hl : (xs.take i).length = i) (hik : k ≤ i) : (xs.take i).take k = (xs.take (i + 1)).take k := by
  rw [h]
  generalize xs.take i = ys at *
  rw [List.take_append_of_le_length (by omega)]

set_option maxHeartbeats 2000000 in
theorem cutting_apart (v : Value) (xs : List Int) (k : Nat) (w : World) (hv : Reads w v xs) (hl : xs.length ≤ 1000000) (hk : k ≤ 9223372036854775807) :
    Calls Tryz.prog 78 #[v, .int .i64 k] w fun e w' => ∃ va vb, e = .returned (.tuple #[va, vb]) ∧ Ints w' w.heap.size va (xs.take k) ∧ Ints w' w.heap.size vb (xs.drop k) ∧ Only [] w w' ∧ ∀ x ∈ own va, x ∉ own vb := by
  obtain ⟨a, ca, rfl, ha⟩ := hv.opt
  obtain ⟨n, hn⟩ : ∃ n, xs.length = n := ⟨_, rfl⟩
  have HN := Lib.hid hn
  rw [hn] at ha hl ⊢
  clear hv hn
  go_enter Tryz.func78, Tryz.ntmps78
  go_wp2_with fail
  go_loopw [6, 7, 8] (fun vp vq vi wr => ∃ i : Nat, i ≤ n ∧ vi = .int .i64 i ∧ Ints wr w.heap.size vp ((xs.take i).take k) ∧ Ints wr w.heap.size vq ((xs.take i).drop k) ∧ Only [] w wr ∧ (∀ x ∈ own vp, x ∉ own vq)) (fun _ _ vi _ => n - (intOf vi).toNat)
  case atStart => exact ⟨0, Nat.zero_le _, rfl, by simp; exact Ints.nil _ _, by simp; exact Ints.nil _ _, Only.refl _ _, by simp [own, Value.ownBlock]⟩
  case round =>
    obtain ⟨i, hi, rfl, hI, hJ, ho, hd⟩ := hrel
    have hsz := ho.size
    by_cases hin : i < n
    · obtain ⟨ba, oa, rfl, k0⟩ := ha i hin
      have c0 := (ho.cell (p := ⟨ba, _, none⟩) (cell_lt k0) (by simp)).trans k0
      have hst := take_succ_nth xs i (by rw [HN.out]; exact hin)
      have hti : (xs.take i).length = i := by rw [List.length_take, HN.out]; omega
      obtain ⟨z, hz⟩ : ∃ z, nth xs i = z := ⟨_, rfl⟩
      rw [hz] at c0 hst
      obtain ⟨pa, pc, rfl, _⟩ := hI.opt
      obtain ⟨qa, qc, rfl, _⟩ := hJ.opt
      have HD := Lib.hid hd
      obtain ⟨p, hp⟩ : ∃ p, ((xs.take i).take k).length = p := ⟨_, rfl⟩
      obtain ⟨q, hq⟩ : ∃ q, ((xs.take i).drop k).length = q := ⟨_, rfl⟩
      have hpi : p ≤ i := by rw [← hp, List.length_take, hti]; omega
      have hqi : q ≤ i := by rw [← hq, List.length_drop, hti]; omega
      have HP := Lib.hid hp
      have HQ := Lib.hid hq
      rw [hp] at hI HD ⊢
      rw [hq] at hJ HD ⊢
      by_cases hik : i < k
      · have hpl : Hid (p = i) := by show _ = _; rw [← hp, List.length_take, hti]; omega
        have e1 := Lib.hid (cut_lt_take xs i k z hst hti hik)
        have e2 := Lib.hid (cut_lt_drop xs i k z hst hti hik)
        rw [hpl.out] at hI HD HP ⊢
        clear ha k0 hst hti hz hd hp hq
        go_wp2_with (at_builtin; refine wpList_push rfl (.tmp 18) (.tmp 23) rfl wr w.heap.size _ _ _ z i hI HP.out (by omega) hsz rfl rfl ((Only.refl [] wr).alloc _) (World.cell?_alloc_at _ _ _ _ rfl) ?_; intro g cap w3 hI3 hO3 hK3)
        rw [e1.out] at hI3
        have hJ3 := hJ.only hO3 (fun g9 h9 hx => HD.out g9 hx (own_of h9))
        rw [e2.out] at hJ3
        have ho3 := Lib.hid (ho.pushed hI (Nat.le_refl _) hO3)
        have hd3 : Hid (∀ x ∈ own (Value.slice (some ⟨g, 0, none⟩) (i + 1) cap), x ∉ own (Value.slice qa q qc)) := by
          show ∀ x ∈ _, _
          intro x hx hx2
          obtain rfl : x = g := by simpa [own, Value.ownBlock] using hx
          rcases hK3 with h | h
          · exact HD.out _ h hx2
          · have := (hJ.own_lt _ hx2).2; omega
        go_roundw
        case rel => exact ⟨i + 1, by omega, by go_num, hI3, hJ3, ho3.out, hd3.out⟩
        case measure => (simp [intOf]; try omega)
      · have hki : k ≤ i := by omega
        have e1 := Lib.hid (cut_ge_drop xs i k z hst hti (by omega))
        have e2 := Lib.hid (cut_ge_take xs i k z hst hti (by omega))
        clear ha k0 hst hti hz hd hp hq
        go_wp2_with (at_builtin; refine wpList_push rfl (.tmp 25) (.tmp 30) rfl wr w.heap.size _ _ _ z q hJ HQ.out (by omega) hsz rfl rfl ((Only.refl [] wr).alloc _) (World.cell?_alloc_at _ _ _ _ rfl) ?_; intro g cap w3 hJ3 hO3 hK3)
        rw [e1.out] at hJ3
        have hI3 := hI.only hO3 (fun g9 h9 hx => HD.out g9 (own_of h9) hx)
        rw [e2.out] at hI3
        have ho3 := Lib.hid (ho.pushed hJ (Nat.le_refl _) hO3)
        have hd3 : Hid (∀ x ∈ own (Value.slice pa p pc), x ∉ own (Value.slice (some ⟨g, 0, none⟩) (q + 1) cap)) := by
          show ∀ x ∈ _, _
          intro x hx hx2
          obtain rfl : x = g := by simpa [own, Value.ownBlock] using hx2
          rcases hK3 with h | h
          · exact HD.out _ hx h
          · have := (hI.own_lt _ hx).2; omega
        go_roundw
        case rel => exact ⟨i + 1, by omega, by go_num, hI3, hJ3, ho3.out, hd3.out⟩
        case measure => (simp [intOf]; try omega)
    · obtain rfl : i = n := by omega
      rw [show xs.take i = xs from List.take_of_length_le (by rw [HN.out]; exact Nat.le_refl _)] at hI hJ
      clear ha
      go_wp2
      go_ret2
      exact ⟨_, _, rfl, hI, hJ, ho, hd⟩

theorem cutting (v : Value) (xs : List Int) (k : Nat) (w : World) (hv : Reads w v xs) (hl : xs.length ≤ 1000000) (hk : k ≤ 9223372036854775807) :
    Calls Tryz.prog 78 #[v, .int .i64 k] w fun e w' => ∃ va vb, e = .returned (.tuple #[va, vb]) ∧ Ints w' w.heap.size va (xs.take k) ∧ Ints w' w.heap.size vb (xs.drop k) ∧ Only [] w w' :=
  (cutting_apart v xs k w hv hl hk).mono fun _ _ ⟨va, vb, h1, h2, h3, h4, _⟩ => ⟨va, vb, h1, h2, h3, h4⟩

end Go.Proofs.YtocpmncedlenbaaGreatDoor
