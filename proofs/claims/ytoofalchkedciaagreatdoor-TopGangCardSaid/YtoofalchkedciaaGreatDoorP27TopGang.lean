/-
  Contract of (*gang.Gang).Left.
  A gang under a law: what is kept, what is refused.
  Slices of api.Cell: plain facts, their cells, those that came in, those of the call's own, rows of cells that are written.
-/
import Derived.Test.YtoofalchkedciaaGreatDoorP26TopGang
import Derived.Test.YtoofalchkedciaaGreatDoorP19TopGang
import Derived.Test.YtoofalchkedciaaGreatDoorP12TopGang
import Derived.Test.YtoofalchkedciaaGreatDoorP24TopGang
import Derived.Test.YtoofalchkedciaaGreatDoorP10TopGang
import Derived.Test.YtoofalchkedciaaGreatDoorP8TopGang
namespace Go.Proofs.YtoofalchkedciaaGreatDoor
open Go.RowKit Go.Deep

theorem gang_Left {w : World} {F : Nat → Prop} {q : GPar} {p : PlanL} {room m : Nat} {s : GSt} (h : GangIs w q p room m s F) :
    Calls Tryz.prog 40 #[.pointer (some ⟨q.G, 0, none⟩)] w fun e w' => e = .returned (.int .i64 (leftN p s.done : Int)) ∧ w = w' := by
  have R := GRel.start h
  have hl := R.left
  have c1 := R.cells.1.cell 1 _ rfl
  generalize leftN p s.done = n at *
  clear h R
  go_enter Tryz.func40, Tryz.ntmps40
  go_wp2_with fail
  refine hl.mono ?_
  rintro e w1 ⟨rfl, rfl⟩
  clear hl
  go_wp2
  go_ret
  exact ⟨rfl, rfl⟩


end Go.Proofs.YtoofalchkedciaaGreatDoor

namespace Go.Proofs.YtoofalchkedciaaGreatDoor
open Go.RowKit Go.Deep

set_option maxRecDepth 100000 in
set_option maxHeartbeats 4000000 in
theorem gang_step_no {w : World} {F : Nat → Prop} {q : GPar} {p : PlanL} {room m : Nat} {s : GSt} (h : GangIs w q p room m s F) (x y : Int) (hx : x < 0 ∨ (m : Int) ≤ x ∨ y < 0) :
    Calls Tryz.prog 44 #[.pointer (some ⟨q.G, 0, none⟩), .int .i64 x, .int .i64 y] w fun e w' => e = .returned (.tuple #[.slice none 0 0, .iface 98 (.int .i64 1)]) ∧ w = w' := by
  obtain ⟨hC, _, _, _, _, _, m6, _⟩ := (GRel.start h).cells
  have c4 := hC.cell 4 _ rfl
  clear h hC
  have hcs : x < 0 ∨ (0 ≤ x ∧ (m : Int) ≤ x) ∨ (0 ≤ x ∧ x < (m : Int) ∧ y < 0) := by omega
  clear hx
  rcases hcs with h | ⟨h, h2⟩ | ⟨h, h2, h3⟩
  all_goals
    go_enter Tryz.func44, Tryz.ntmps44
    go_wp2
    go_ret2
    exact ⟨rfl, rfl⟩

/-- What deeds say is done. -/
def dUp (D : Nat → Bool) : List Dd → Nat → Bool
  | [] => D
  | d :: l => dUp (if d.what = 4 then upB D d.task.toNat else D) l
theorem dUp_app (D : Nat → Bool) (a b : List Dd) : dUp D (a ++ b) = dUp (dUp D a) b := by
  induction a generalizing D with
  | nil => rfl
  | cons d a ih => exact ih _
theorem dUp_push (D : Nat → Bool) (l : List Dd) (d : Dd) : dUp D (l ++ [d]) = if d.what = 4 then upB (dUp D l) d.task.toNat else dUp D l := by rw [dUp_app]; rfl
theorem dUp_none (D : Nat → Bool) (l : List Dd) (h : ∀ d ∈ l, d.what ≠ 4) : dUp D l = D := by
  induction l generalizing D with
  | nil => rfl
  | cons d l ih =>
    show dUp (if d.what = 4 then upB D d.task.toNat else D) l = D
    rw [if_neg (h d (by simp))]
    exact ih _ (fun x hx => h x (by simp [hx]))

/-- A step's deeds say what is done. -/
theorem step_says {p : PlanL} {room m : Nat} {s : GSt} (H : GInv p room m s) {h : Nat} (pick : Nat) (hm : h < m) :
    dUp s.done (gStep p room m s h pick).2 = (gStep p room m s h pick).1.done ∧ ∀ d ∈ (gStep p room m s h pick).2, d.what = 4 → 0 ≤ d.task ∧ d.task < (p.length : Int) := by
  have other : ∀ (x : Dd), x.what ≠ 4 → ∀ D, dUp D [x] = D ∧ ∀ d ∈ [x], d.what = 4 → 0 ≤ d.task ∧ d.task < (p.length : Int) := by
    intro x hx D
    refine ⟨dUp_none _ _ (fun d hd => by obtain rfl : d = x := (by simpa using hd); exact hx), fun d hd h4 => ?_⟩
    obtain rfl : d = x := by simpa using hd
    exact absurd h4 hx
  unfold gStep
  split
  · exact ⟨rfl, fun d hd => nomatch hd⟩
  · split
    · rename_i ht
      unfold gWork
      split
      · exact ⟨rfl, fun d hd => nomatch hd⟩
      · obtain ⟨i, hi, hir⟩ := H.task hm ht
        have i1 := (readyL_mem.1 hir).1
        have h4 : ∀ d ∈ ((s.row.take (natL (newL p s.done (s.ws h).task.toNat)).length).map fun k => (⟨6, k, 0, 0⟩ : Dd)), d.what ≠ 4 := by
          intro d hd
          obtain ⟨k, _, rfl⟩ := List.mem_map.1 hd
          show (6 : Int) ≠ 4
          omega
        refine ⟨?_, fun d hd hd4 => ?_⟩
        · show dUp (if (4 : Int) = 4 then upB s.done (s.ws h).task.toNat else s.done) _ = _
          rw [if_pos rfl, dUp_none _ _ h4]
        · rcases List.mem_cons.1 hd with rfl | hd
          · show 0 ≤ (s.ws h).task ∧ (s.ws h).task < _
            omega
          · exact absurd hd4 (h4 d hd)
    · unfold gFind
      split
      · exact other _ (show (1 : Int) ≠ 4 by omega) _
      · split
        · exact other _ (show (1 : Int) ≠ 4 by omega) _
        · split
          · exact other _ (show (3 : Int) ≠ 4 by omega) _
          · split
            · exact other _ (show (5 : Int) ≠ 4 by omega) _
            · unfold gRob
              split
              · exact other _ (show (5 : Int) ≠ 4 by omega) _
              · exact other _ (show (2 : Int) ≠ 4 by omega) _

/-- What is kept while steps are tried. -/
structure GH (w : World) (p : PlanL) (r m n : Nat) (q : GPar) (A : Nat) (wr : World) (i : Nat) (va : Value) (s : GSt) (t : TSt) (AL : List Dd) (F : Nat → Prop) : Prop where
  gang : GangIs wr q p r m s F
  inv : GInv p r m s
  watch : Watch m s
  bools : Bools wr A n s.done
  deeds : OwnDeeds wr w.heap.size va AL
  leads : Leads p m tZero AL t
  rel : RelT m s.done s.row (gTk s.ws) t
  few : AL.length + s.row.length ≤ 2 * i
  far : ∀ x, F x → w.heap.size ≤ x ∧ x ≠ A ∧ x ∉ own va
  aa : A ∉ own va
  a1 : w.heap.size ≤ A ∧ A < wr.heap.size
  only : Only [] w wr

theorem GH.move {w : World} {p : PlanL} {r m n : Nat} {q : GPar} {A : Nat} {wr wr' : World} {i : Nat} {va : Value} {s : GSt} {t : TSt} {AL : List Dd} {F : Nat → Prop} {T : List Nat} (h : GH w p r m n q A wr i va s t AL F) (ho : Only T wr wr') (hT : ∀ x ∈ T, wr.heap.size ≤ x) : GH w p r m n q A wr' i va s t AL F := by
  have hs := ho.size
  have hlt := h.gang.lt
  have ha := h.a1
  refine ⟨h.gang.apart ho (fun x hx hf => by have := hlt x hf; have := hT x hx; omega), h.inv, h.watch, h.bools.only ho (fun hx => by have := hT A hx; omega), ?_, h.leads, h.rel, h.few, h.far, h.aa, ⟨ha.1, by omega⟩, ?_⟩
  · exact Row.only h.deeds ho (fun x hx hx2 => by have := (Row.far h.deeds x hx).2; have := hT x hx2; omega)
  · exact h.only.trans ho (fun x hx _ => by have := hT x hx; have := h.only.size; omega)
/-- Behind the box of a step's numbers. -/
theorem GH.moved {w : World} {p : PlanL} {r m n : Nat} {q : GPar} {A : Nat} {wr wr' : World} {i : Nat} {va : Value} {s : GSt} {t : TSt} {AL : List Dd} {F : Nat → Prop} {o : Obj} (h : GH w p r m n q A wr i va s t AL F) (ho : Only [wr.heap.size] (wr.alloc o) wr') : GH w p r m n q A wr' i va s t AL F :=
  h.move (T := [wr.heap.size]) (((Only.refl [wr.heap.size] wr).alloc o).trans ho (fun x hx _ => hx)) (by simp)
theorem GH.next {w : World} {p : PlanL} {r m n : Nat} {q : GPar} {A : Nat} {wr : World} {i : Nat} {va : Value} {s : GSt} {t : TSt} {AL : List Dd} {F : Nat → Prop} (h : GH w p r m n q A wr i va s t AL F) : GH w p r m n q A wr (i + 1) va s t AL F :=
  ⟨h.gang, h.inv, h.watch, h.bools, h.deeds, h.leads, h.rel, by have := h.few; omega, h.far, h.aa, h.a1, h.only⟩

/-- Behind a step, before what it told is laid to the rest. -/
structure GS (w : World) (p : PlanL) (r m n : Nat) (q : GPar) (A : Nat) (wr : World) (i : Nat) (va : Value) (s : GSt) (D : Nat → Bool) (t : TSt) (AL ds : List Dd) (F : Nat → Prop) : Prop where
  gang : GangIs wr q p r m s F
  inv : GInv p r m s
  watch : Watch m s
  bools : Bools wr A n D
  deeds : OwnDeeds wr w.heap.size va AL
  leads : Leads p m tZero (AL ++ ds) t
  rel : RelT m s.done s.row (gTk s.ws) t
  few : AL.length + ds.length + s.row.length ≤ 2 * (i + 1)
  far : ∀ x, F x → w.heap.size ≤ x ∧ x ≠ A ∧ x ∉ own va
  aa : A ∉ own va
  a1 : w.heap.size ≤ A ∧ A < wr.heap.size
  only : Only [] w wr

theorem GH.step {w : World} {p : PlanL} {r m n : Nat} {q : GPar} {A : Nat} {wr wr' : World} {i : Nat} {va : Value} {s : GSt} {t : TSt} {AL : List Dd} {F F' : Nat → Prop} (h : GH w p r m n q A wr i va s t AL F) (hok : PlanOk p) (r1 : 1 ≤ r) (m6 : m ≤ 6) {k : Nat} (hk : k < m) (pick : Nat)
    (hg : GRel wr F wr' q p r m (gStep p r m s k pick).1 F') : ∃ t', GS w p r m n q A wr' i va (gStep p r m s k pick).1 s.done t' AL (gStep p r m s k pick).2 F' := by
  obtain ⟨t', l1, r1'⟩ := step_leads hok m6 h.inv h.rel pick hk
  have hf := step_few (p := p) (room := r) (m := m) s k pick
  have hfew := h.few
  obtain ⟨T, hT, hoT⟩ := hg.only
  have ha := h.a1
  have hs := hoT.size
  refine ⟨t', hg.gang, gStep_inv hok r1 h.inv pick hk, step_watch h.inv h.watch pick hk, h.bools.only hoT (fun hx => (h.far A (hT A hx)).2.1 rfl), ?_, h.leads.trans l1, r1', by omega, fun x hx => ?_, h.aa, ⟨ha.1, by omega⟩, ?_⟩
  · exact Row.only h.deeds hoT (fun x hx hx2 => (h.far x (hT x hx2)).2.2 hx)
  · rcases hg.kin x hx with hx | hx
    · exact h.far x hx
    · exact ⟨by have := h.only.size; omega, by omega, fun hx2 => by have := (Row.far h.deeds x hx2).2; omega⟩
  · exact h.only.trans hoT (fun x hx _ => by have := (h.far x (hT x hx)).1; omega)

/-- The deeds are laid to the rest. -/
theorem GS.laid {w : World} {p : PlanL} {r m n : Nat} {q : GPar} {A : Nat} {wr wr' : World} {i : Nat} {va v' : Value} {s : GSt} {D : Nat → Bool} {t : TSt} {AL ds : List Dd} {F : Nat → Prop} (h : GS w p r m n q A wr i va s D t AL ds F)
    (hO : Only (own va) wr wr') (hK : Kin wr (own va) (own v')) : GangIs wr' q p r m s F ∧ Bools wr' A n D ∧ (∀ x, F x → w.heap.size ≤ x ∧ x ≠ A ∧ x ∉ own v') ∧ A ∉ own v' ∧ A < wr'.heap.size ∧ Only [] w wr' := by
  have hs := hO.size
  have ha := h.a1
  refine ⟨h.gang.apart hO (fun x hx hf => (h.far x hf).2.2 hx), h.bools.only hO h.aa, fun x hx => ⟨(h.far x hx).1, (h.far x hx).2.1, fun hx2 => ?_⟩, fun hx => ?_, by omega, ?_⟩
  · rcases hK x hx2 with h3 | h3
    · exact (h.far x hx).2.2 h3
    · have := h.gang.lt x hx; omega
  · rcases hK A hx with h3 | h3
    · exact h.aa h3
    · omega
  · exact h.only.trans hO (fun x hx _ => by have := (Row.far h.deeds x hx).1; omega)

/-- What was done is marked. -/
theorem GS.over {w : World} {p : PlanL} {r m n : Nat} {q : GPar} {A : Nat} {wr w2 w3 : World} {i : Nat} {va v' : Value} {s : GSt} {D : Nat → Bool} {t : TSt} {AL ds : List Dd} {F : Nat → Prop} (h : GS w p r m n q A wr i va s D t AL ds F)
    (hI : OwnDeeds w2 w.heap.size v' (AL ++ ds)) (hG : GangIs w2 q p r m s F) (hfar : ∀ x, F x → w.heap.size ≤ x ∧ x ≠ A ∧ x ∉ own v') (haa : A ∉ own v') (hA2 : A < w2.heap.size) (ho2 : Only [] w w2) (ho : Only [A] w2 w3) (hB : Bools w3 A n s.done) : GH w p r m n q A w3 (i + 1) v' s t (AL ++ ds) F := by
  have hs := ho.size
  have ha := h.a1
  refine ⟨hG.apart ho (fun x hx hf => ?_), h.inv, h.watch, hB, ?_, h.leads, h.rel, by have := h.few; rw [List.length_append]; omega, hfar, haa, ⟨ha.1, by omega⟩, ?_⟩
  · obtain rfl : x = A := by simpa using hx
    exact (hfar x hf).2.1 rfl
  · exact Row.only hI ho (fun x hx hx2 => by obtain rfl : x = A := (by simpa using hx2); exact haa hx)
  · exact ho2.trans ho (fun x hx hl => by obtain rfl : x = A := (by simpa using hx); omega)

/-- What trace says of it. -/
theorem GH.told {w : World} {p : PlanL} {r m n : Nat} {q : GPar} {A : Nat} {wr : World} {i : Nat} {va : Value} {s : GSt} {t : TSt} {AL : List Dd} {F : Nat → Prop} (h : GH w p r m n q A wr i va s t AL F) (hi : i ≤ 200) : AL.length ≤ 400 ∧ ddsFault AL = 0 ∧ runF p m tZero AL = 0 := by
  have hf := h.few
  refine ⟨by omega, ?_, ?_⟩
  · unfold ddsFault
    rw [if_neg (by omega)]
    exact (firstDd_zero AL).2 h.leads.2
  · have := h.leads.1 []
    rw [List.append_nil] at this
    rw [this]
    rfl

end Go.Proofs.YtoofalchkedciaaGreatDoor

namespace Go.Proofs.YtoofalchkedciaaGreatDoor
open Go.RowKit Go.Deep Go.ChangeShapes Go.WideShapes

structure Ce where
  n : Int
  bad : Bool

def clCells (b : Ce) : List Value := [.int .i64 b.n, .bool b.bad]
def clZero : Ce := ⟨0, false⟩
def flatCl (bs : List Ce) : List Value := bs.flatMap clCells
def clAt (bs : List Ce) (i : Nat) : Ce := bs[i]?.getD clZero
theorem take_cl (bs : List Ce) (k : Nat) (h : k < bs.length) : bs.take (k + 1) = bs.take k ++ [clAt bs k] := by
  rw [List.take_succ_eq_append_getElem h]
  simp [clAt, h]
theorem clAt_mem {bs : List Ce} {k : Nat} (h : k < bs.length) : clAt bs k ∈ bs := by simp [clAt, h]

theorem flatCl_len (bs : List Ce) : (flatCl bs).length = bs.length * 2 := by
  induction bs with
  | nil => rfl
  | cons b bs ih => simp only [flatCl, List.flatMap_cons, List.length_append, List.length_cons] at ih ⊢; rw [ih]; simp [clCells]; omega
theorem clCells_one (b : Ce) : ∀ y ∈ clCells b, y.oneCell' = true := by
  intro y hb
  simp only [clCells, List.mem_cons, List.not_mem_nil, or_false] at hb
  rcases hb with rfl | rfl <;> rfl
theorem flatCl_one (bs : List Ce) : ∀ y ∈ flatCl bs, y.oneCell' = true := by
  intro y hy
  obtain ⟨b, _, hb⟩ := List.mem_flatMap.1 hy
  exact clCells_one b y hb
theorem flatCl_push (bs : List Ce) (b : Ce) : flatCl bs ++ [.int .i64 b.n, .bool b.bad] = flatCl (bs ++ [b]) := by
  simp [flatCl, clCells]
theorem flatCl_get (bs : List Ce) (i t : Nat) (hi : i < bs.length) (ht : t < 2) : (flatCl bs)[i * 2 + t]? = (clCells (clAt bs i))[t]? := by
  induction bs generalizing i with
  | nil => simp at hi
  | cons b bs ih =>
    rcases i with _ | i
    · simp only [flatCl, List.flatMap_cons, clAt]
      rw [List.getElem?_append_left (by simp [clCells]; omega)]
      simp
    · have e : (i + 1) * 2 + t = 2 + (i * 2 + t) := by omega
      have := ih i (by simpa using hi)
      simp only [flatCl, List.flatMap_cons] at this ⊢
      rw [e, List.getElem?_append_right (by simp [clCells]), show 2 + (i * 2 + t) - (clCells b).length = i * 2 + t by simp [clCells], this]
      simp [clAt]

/-- The value v is a slice of the records bs. -/
def KellsAt (w : World) (v : Value) (bs : List Ce) : Prop := RowAt w v bs.length 2 (flatCl bs)

theorem KellsAt.opt {w : World} {v : Value} {bs : List Ce} (h : KellsAt w v bs) :
    ∃ a cap, v = .slice a bs.length cap ∧ ∀ i, i < bs.length → ∃ b off, a = some ⟨b, off, none⟩ ∧
      w.cell? ⟨b, off + i * 2, none⟩ = some (.int .i64 (clAt bs i).n) ∧
      w.cell? ⟨b, off + i * 2 + 1, none⟩ = some (.bool (clAt bs i).bad) := by
  obtain ⟨hl, h1, h⟩ := h
  rcases h with ⟨h0, h | ⟨x, cap, h⟩⟩ | ⟨h0, b, off, cap, h, hc⟩
  · exact ⟨none, 0, by rw [h0]; exact h, fun i hi => by omega⟩
  · exact ⟨some x, cap, by rw [h0]; exact h, fun i hi => by omega⟩
  · refine ⟨_, cap, h, fun i hi => ⟨b, off, rfl, ?_, ?_⟩⟩
    · exact hc (i * 2) _ (by rw [show i * 2 = i * 2 + 0 from rfl, flatCl_get bs i 0 hi (by omega)]; rfl)
    · rw [Nat.add_assoc]; exact hc (i * 2 + 1) _ (by rw [flatCl_get bs i 1 hi (by omega)]; rfl)

theorem KellsAt.same {w w' : World} {v : Value} {bs : List Ce} (h : KellsAt w v bs) (ho : Only [] w w') : KellsAt w' v bs := RowAt.same h ho
theorem KellsAt.only {w w' : World} {v : Value} {bs : List Ce} {S : List Nat} (h : KellsAt w v bs) (ho : Only S w w') (hS : ∀ x ∈ own v, x ∉ S) : KellsAt w' v bs := RowAt.only h ho hS

theorem sliceOf_cl : SliceOf 85 191 2 16 :=
  sliceOf_parts (z := .agg #[.int .i64 0, .bool false]) Tryz.underlying85 (by kernel_rfl) rfl (by decide) (by decide)

/-- Records of the call's own. -/
def OwnKells (w : World) (base : Nat) (v : Value) (bs : List Ce) : Prop := w.ownsRow base 191 2 v bs.length (flatCl bs)
theorem OwnKells.at {w : World} {base : Nat} {v : Value} {bs : List Ce} (h : OwnKells w base v bs) : KellsAt w v bs := Row.at h (flatCl_one bs)
theorem OwnKells.nil (w : World) (base : Nat) : OwnKells w base (.slice none 0 0) [] := World.ownsRow_nil _ _ _ _

def clWf (b : Ce) : Prop := (Lit.int .i64 b.n).wf = true

/-- The value v is a slice that came in, with the records bs. -/
def InKells (w : World) (v : Value) (bs : List Ce) : Prop := (∀ b ∈ bs, clWf b) ∧ KellsAt w v bs ∧ bs.length ≤ maxLen
theorem InKells.same {w w' : World} {v : Value} {bs : List Ce} (h : InKells w v bs) (ho : Only [] w w') : InKells w' v bs := ⟨h.1, h.2.1.same ho, h.2.2⟩

theorem flatCl_eq (bs : List Ce) : flatCl bs = flatV (fun i j => (clCells (clAt bs i))[j]?.getD undef) bs.length 2 := by
  apply List.ext_getElem?
  intro m
  by_cases hm : m < bs.length * 2
  · have e : m = m / 2 * 2 + m % 2 := by omega
    have h1 : m / 2 < bs.length := by omega
    rw [e, flatCl_get _ _ _ h1 (by omega), flatV_get _ _ _ _ _ h1 (by omega)]
    have : m % 2 = 0 ∨ m % 2 = 1 := by omega
    rcases this with h | h <;> rw [h] <;> rfl
  · rw [List.getElem?_eq_none (by rw [flatCl_len]; omega), List.getElem?_eq_none (by rw [flatV_len]; omega)]

set_option maxRecDepth 100000 in
theorem open_cls {H : Type} {enc : TypeId × Value → H} {W : World} {base : Nat} {v : Value} {d : DataW H} {p : List MemPlace}
    (hv : Value.okWide Tryz.prog W .any base 85 v) (h : DataW.Trod enc Tryz.prog W 0 (fun _ => true) true 85 v d p) : ∃ l, InKells W v l := by
  obtain ⟨n, V, hR, hV⟩ := open_recs (k := 2) Tryz.underlying85 Tryz.underlying191 rfl (by omega) (by kernel_rfl) (fields_ok (by kernel_rfl)) hv h
  have key : ∀ i, i < n → ∃ b : Ce, (V i 0 = .int .i64 b.n ∧ V i 1 = .bool b.bad) ∧ clWf b := by
    intro i hi
    obtain ⟨_, x0, h0⟩ := hV i hi 0 _ rfl
    obtain ⟨_, x1, h1⟩ := hV i hi 1 _ rfl
    obtain ⟨a0, e0, _, w0⟩ := DataW.trod_int Tryz.underlying3 h0
    obtain ⟨a1, e1, _⟩ := DataW.trod_bool Tryz.underlying4 h1
    simp at e0 e1
    exact ⟨⟨a0, a1⟩, ⟨e0, e1⟩, w0⟩
  haveI : Inhabited Ce := ⟨clZero⟩
  obtain ⟨q, hq⟩ := choose_lt key
  have hl : ((List.range n).map q).length = n := by simp
  have hat : ∀ i, i < n → clAt ((List.range n).map q) i = q i := fun i hi => by simp [clAt, hi]
  have hmax : n ≤ maxLen := by obtain ⟨a, cap, _, h1, h2, _⟩ := hR; omega
  refine ⟨(List.range n).map q, ?_, ?_, by rw [hl]; exact hmax⟩
  · intro j hj
    obtain ⟨i, hi, rfl⟩ := List.mem_map.1 hj
    exact (hq i (List.mem_range.1 hi)).2
  · unfold KellsAt
    rw [flatCl_eq, hl]
    have hR2 := hR.congr (V' := fun i j => (clCells (clAt ((List.range n).map q) i))[j]?.getD undef) (fun i j hi hj => by
      rw [hat i hi]
      obtain ⟨⟨e0, e1⟩, _⟩ := hq i hi
      have : j = 0 ∨ j = 1 := by omega
      rcases this with rfl | rfl
      · exact e0
      · exact e1)
    refine hR2.row (by omega) fun i j hi hj => ?_
    have : j = 0 ∨ j = 1 := by omega
    rcases this with rfl | rfl <;> rfl

/-- A row of n records at block A that may be written: as a function. -/
def RowCl (w : World) (A n : Nat) (f : Nat → Ce) : Prop := ∀ i, i < n → ∀ j v, (clCells (f i))[j]? = some v → w.cell? ⟨A, i * 2 + j, none⟩ = some v ∧ w.frozen? ⟨A, i * 2 + j, none⟩ = false
def updCl (f : Nat → Ce) (j : Nat) (x : Ce) : Nat → Ce := fun i => if i = j then x else f i
theorem RowCl.only {w w' : World} {A n : Nat} {f : Nat → Ce} {S : List Nat} (h : RowCl w A n f) (ho : Only S w w') (hA : A ∉ S) : RowCl w' A n f := fun i hi j v hv => by
  obtain ⟨h1, h2⟩ := h i hi j v hv
  have hl := cell_lt h1
  exact ⟨(ho.cell (p := ⟨A, _, none⟩) hl hA).trans h1, (ho.frozen (p := ⟨A, _, none⟩) hl hA).trans h2⟩
theorem RowCl.congr {w : World} {A n : Nat} {f g : Nat → Ce} (h : RowCl w A n f) (e : ∀ i, i < n → f i = g i) : RowCl w A n g := fun i hi => by
  rw [← e i hi]; exact h i hi
theorem RowCl.at {w : World} {A n : Nat} {f : Nat → Ce} (h : RowCl w A n f) (i : Nat) (hi : i < n) : w.cell? ⟨A, i * 2, none⟩ = some (.int .i64 (f i).n) ∧ w.cell? ⟨A, i * 2 + 1, none⟩ = some (.bool (f i).bad) :=
  ⟨(h i hi 0 _ rfl).1, (h i hi 1 _ rfl).1⟩
theorem RowCl.set {w : World} {A n : Nat} {f : Nat → Ce} (h : RowCl w A n f) (x : Nat) (hx : x < n) (c : Ce) : RowCl (w.setCells A (x * 2) (clCells c)) A n (updCl f x c) := fun i hi j v hv => by
  have hj : j < 2 := by
    rcases Nat.lt_or_ge j 2 with h | h
    · exact h
    · rw [List.getElem?_eq_none (by simp [clCells]; omega)] at hv; cases hv
  obtain ⟨k1, k2, _, k4⟩ := cells_setCells (w := w) (b := A) (off := x * 2) (clCells c) (fun t ht => by
    have ht : t < (clCells (f x)).length := by simpa [clCells] using ht
    have := (h x hx t _ (List.getElem?_eq_getElem ht)).1
    rw [this]; rfl)
  have hfr : (w.setCells A (x * 2) (clCells c)).frozen? ⟨A, i * 2 + j, none⟩ = false := by
    rw [k4]
    have hj2 : j < (clCells (f i)).length := by simpa [clCells] using hj
    exact (h i hi j _ (List.getElem?_eq_getElem hj2)).2
  refine ⟨?_, hfr⟩
  unfold updCl at hv
  by_cases e : i = x
  · subst e
    rw [if_pos rfl] at hv
    exact k1 j v hv
  · rw [if_neg e] at hv
    rw [k2 _ (by simp [clCells]; omega)]
    exact (h i hi j v hv).1
/-- As a list. -/
def listCl (n : Nat) (f : Nat → Ce) : List Ce := (List.range n).map f
theorem listCl_len (n : Nat) (f : Nat → Ce) : (listCl n f).length = n := by simp [listCl]
theorem listCl_at (n : Nat) (f : Nat → Ce) (i : Nat) (hi : i < n) : clAt (listCl n f) i = f i := by simp [listCl, clAt, hi]
theorem RowCl.list {w : World} {A n : Nat} {f : Nat → Ce} (h : RowCl w A n f) (cap : Nat) : KellsAt w (.slice (some ⟨A, 0, none⟩) n cap) (listCl n f) := by
  refine ⟨by rw [flatCl_len], flatCl_one _, ?_⟩
  rw [listCl_len]
  by_cases h0 : n = 0
  · subst h0; exact .inl ⟨rfl, .inr ⟨_, cap, rfl⟩⟩
  · refine .inr ⟨by omega, A, 0, cap, rfl, fun j y hy => ?_⟩
    have hj : j < n * 2 := by
      rcases Nat.lt_or_ge j (flatCl (listCl n f)).length with hl | hl
      · rw [flatCl_len, listCl_len] at hl; exact hl
      · rw [List.getElem?_eq_none hl] at hy; cases hy
    have e : j = j / 2 * 2 + j % 2 := by omega
    have hi : j / 2 < n := by omega
    rw [e, flatCl_get _ _ _ (by rw [listCl_len]; exact hi) (by omega), listCl_at _ _ _ hi] at hy
    have := (h (j / 2) hi (j % 2) y hy).1
    rw [← e] at this
    rw [Nat.zero_add]; exact this

/-- A slice of the call's own, as a row that may be written. -/
theorem OwnKells.row {w : World} {base g cap n : Nat} {bs : List Ce} (h : w.ownsRow base 191 2 (.slice (some ⟨g, 0, none⟩) n cap) n (flatCl bs)) (hn : bs.length = n) : RowCl w g n (clAt bs) := fun i hi j v hv => by
  have hj : j < 2 := by
    rcases Nat.lt_or_ge j 2 with h | h
    · exact h
    · rw [List.getElem?_eq_none (by simp [clCells]; omega)] at hv; cases hv
  refine ⟨?_, World.ownsRow.frozenAt h _⟩
  rw [World.ownsRow.cellAt h _ (by omega), flatCl_get _ _ _ (by omega) hj]
  exact hv

theorem make_cl (n : Nat) (hn : n ≤ 1000000) (w : World) :
    (Instr.makeSlice 85 (.int .i64 (n : Int)) (.int .i64 (n : Int))).run Tryz.prog w = .ok (.slice (some ⟨w.heap.size, 0, none⟩) n n) (w.alloc (.cells (madeCells #[.int .i64 0, .bool false] (n * 2)) 191)) := by
  obtain ⟨i0, h1, h2, h3, h4⟩ := info_parts (P := Tryz.prog) (e := 191) (z := .agg #[.int .i64 0, .bool false]) (size := 2) (bytes := 16) (by kernel_rfl)
  have hr := run_make (P := Tryz.prog) w 85 191 i0 _ Tryz.underlying85 h1 h2 .i64 .i64 n n (by omega) (Int.le_refl _) (by rw [h4]; omega) (by omega)
  simp only [Int.toNat_natCast, h3] at hr
  exact hr

theorem made_cl (w : World) (n : Nat) : RowCl (w.alloc (.cells (madeCells #[.int .i64 0, .bool false] (n * 2)) 191)) w.heap.size n (fun _ => clZero) := fun i hi j v hv => by
  have hj : j < 2 := by
    rcases Nat.lt_or_ge j 2 with h | h
    · exact h
    · rw [List.getElem?_eq_none (by simp [clCells]; omega)] at hv; cases hv
  refine ⟨?_, World.frozen?_alloc_at _ _ _ _ rfl⟩
  rw [World.cell?_alloc_new]
  have e1 : (i * 2 + j) % 2 = j := by omega
  have e2 : i * 2 + j < n * 2 := by omega
  have : j = 0 ∨ j = 1 := by omega
  have e3 : (List.range (n * 2))[i * 2 + j]? = some (i * 2 + j) := List.getElem?_range e2
  unfold madeCells
  rw [← Array.getElem?_toList, Array.toList_map, Array.toList_range, List.getElem?_map, e3]
  simp only [Option.map_some]
  rcases this with rfl | rfl <;> simp [clCells, clZero] at hv e1 ⊢ <;> (try rw [e1]) <;> simpa using hv

end Go.Proofs.YtoofalchkedciaaGreatDoor
