/-
  Keys of maps that are ints.
  What trace.Check keeps: maps by hands and by tasks.
  What is wrong with deeds, in plain words. No program is named here.
  A region that draws its order, with two stores, the second of which waits for all: it is enough that every other operation gives what it gives in the end, in each world in which it may run.
-/
import Derived.Test.YtoofalchkedciaaGreatDoorP13TopGang
import Derived.Test.YtoofalchkedciaaGreatDoorRows
import Derived.Test.YtoofalchkedciaaGreatDoorP8TopGang
import Derived.Test.YtoofalchkedciaaGreatDoorP10TopGang
import Derived.Test.YtoofalchkedciaaGreatDoorP1TopGang
import Derived.StillTail
import Derived.StillTactics
namespace Go.Proofs.YtoofalchkedciaaGreatDoor
open Go.RowKit Go.Maps

theorem key_int : Keyed Tryz.prog 3 := int_keyed Tryz.underlying3
theorem keyOf_int (k : Int) (h1 : -9223372036854775808 ≤ k) (h2 : k ≤ 9223372036854775807) : keyOf Tryz.prog 3 (.int .i64 k) = some (.int .i64 k) :=
  keyOf_int_mk Tryz.underlying3 (WalkArith.wf_i64 ⟨h1, h2⟩)
theorem zero_bool (w : World) : (zeroValue 4).run Tryz.prog w = .ok (.bool false) w := by kernel_rfl

end Go.Proofs.YtoofalchkedciaaGreatDoor

namespace Go.Proofs.YtoofalchkedciaaGreatDoor
open Go.RowKit Go.Maps

def setB (s : Nat → Bool) (k : Nat) (v : Bool) : Nat → Bool := fun i => if i = k then v else s i
def setO (s : Nat → Option Nat) (k : Nat) (v : Option Nat) : Nat → Option Nat := fun i => if i = k then v else s i
theorem setB_true (s : Nat → Bool) (k : Nat) : setB s k true = upB s k := rfl

/-- A map of ints to bools: what is asked of it. -/
def BoolMap (w : World) (b : Nat) (s : Nat → Bool) : Prop := ∃ f, MapB w Tryz.prog 3 b f ∧ ∀ k : Nat, k ≤ 1000 → (f (.int .i64 (k : Int))).getD (.bool false) = .bool (s k)
/-- A map of ints to ints. -/
def IntMap (w : World) (b : Nat) (s : Nat → Option Nat) : Prop := ∃ f, MapB w Tryz.prog 3 b f ∧ ∀ k : Nat, k ≤ 1000 → f (.int .i64 (k : Int)) = (s k).map fun x => .int .i64 (x : Int)

theorem int_ne {j k : Nat} (h : j ≠ k) : (Value.int .i64 (j : Int)) ≠ .int .i64 (k : Int) := fun e => by injection e with _ e; omega
theorem zero_int (w : World) : (zeroValue 3).run Tryz.prog w = .ok (.int .i64 0) w := by kernel_rfl

theorem BoolMap.lt {w : World} {b : Nat} {s : Nat → Bool} (h : BoolMap w b s) : b < w.heap.size := by obtain ⟨f, h, _⟩ := h; exact h.lt
theorem BoolMap.only {w w' : World} {b : Nat} {s : Nat → Bool} {S : List Nat} (h : BoolMap w b s) (ho : Only S w w') (hb : b ∉ S) : BoolMap w' b s := by obtain ⟨f, h, k⟩ := h; exact ⟨f, h.only ho hb, k⟩
theorem BoolMap.made (w : World) : BoolMap (w.alloc (.map #[] 0)) w.heap.size (fun _ => false) := ⟨_, MapB.made w _ _, fun _ _ => rfl⟩
theorem BoolMap.look {w : World} {b : Nat} {s : Nat → Bool} (h : BoolMap w b s) (k : Nat) (hk : k ≤ 1000) : (Instr.lookup 115 (.map (some b)) (.int .i64 (k : Int)) false).run Tryz.prog w = .ok (.bool (s k)) w := by
  obtain ⟨f, h, hf⟩ := h
  rw [h.look false key_int Tryz.underlying115 (zero_bool w) (keyOf_int k (by omega) (by omega))]
  show Result.ok ((f (.int .i64 (k : Int))).getD (.bool false)) w = _
  rw [hf k hk]
theorem BoolMap.upd {f : Value → Option Value} {s : Nat → Bool} (hf : ∀ k : Nat, k ≤ 1000 → (f (.int .i64 (k : Int))).getD (.bool false) = .bool (s k)) (k : Nat) (v : Bool) (j : Nat) (hj : j ≤ 1000) : (updV? f (.int .i64 (k : Int)) (.bool v) (.int .i64 (j : Int))).getD (.bool false) = .bool (setB s k v j) := by
  unfold updV? setB
  by_cases e : j = k
  · subst e; rw [if_pos rfl, if_pos rfl]; rfl
  · rw [if_neg (int_ne e), if_neg e]; exact hf j hj
theorem BoolMap.put {w : World} {b : Nat} {s : Nat → Bool} (h : BoolMap w b s) (k : Nat) (hk : k ≤ 1000) (v : Bool) :
    ∃ w', (Instr.mapUpdate 115 (.map (some b)) (.int .i64 (k : Int)) (.bool v)).run Tryz.prog w = .ok () w' ∧ BoolMap w' b (setB s k v) ∧ Only [b] w w' := by
  obtain ⟨f, h, hf⟩ := h
  obtain ⟨w', h1, h2, h3⟩ := h.put key_int Tryz.underlying115 (keyOf_int k (by omega) (by omega)) (.bool v)
  exact ⟨w', h1, ⟨_, h2, BoolMap.upd hf k v⟩, h3⟩
theorem BoolMap.entry {w : World} {b : Nat} {s : Nat → Bool} (h : BoolMap w b s) (k : Nat) (hk : k ≤ 1000) :
    ∃ (v0 : Value) (st : Nat) (w1 : World), (Instr.mapEntry 115 (.map (some b)) (.int .i64 (k : Int))).run Tryz.prog w = .ok (.tuple #[v0, goInt st]) w1 ∧ Only [b] w w1 ∧ b < w1.heap.size ∧
      ∀ (w2 : World) (v : Bool), w2.heap[b]? = w1.heap[b]? → ∃ w3, (Instr.entryStore 115 (.map (some b)) (goInt st) (.bool v)).run Tryz.prog w2 = .ok () w3 ∧ BoolMap w3 b (setB s k v) ∧ Only [b] w2 w3 := by
  obtain ⟨f, h, hf⟩ := h
  obtain ⟨v0, st, w1, h1, h2, h3, h4⟩ := h.entry key_int Tryz.underlying115 zero_bool (keyOf_int k (by omega) (by omega))
  refine ⟨v0, st, w1, h1, h2, h3, fun w2 v hw2 => ?_⟩
  obtain ⟨w3, k1, k2, k3⟩ := h4 w2 (.bool v) hw2
  exact ⟨w3, k1, ⟨_, k2, BoolMap.upd hf k v⟩, k3⟩

theorem IntMap.lt {w : World} {b : Nat} {s : Nat → Option Nat} (h : IntMap w b s) : b < w.heap.size := by obtain ⟨f, h, _⟩ := h; exact h.lt
theorem IntMap.only {w w' : World} {b : Nat} {s : Nat → Option Nat} {S : List Nat} (h : IntMap w b s) (ho : Only S w w') (hb : b ∉ S) : IntMap w' b s := by obtain ⟨f, h, k⟩ := h; exact ⟨f, h.only ho hb, k⟩
theorem IntMap.made (w : World) : IntMap (w.alloc (.map #[] 0)) w.heap.size (fun _ => none) := ⟨_, MapB.made w _ _, fun _ _ => rfl⟩
theorem IntMap.look {w : World} {b : Nat} {s : Nat → Option Nat} (h : IntMap w b s) (k : Nat) (hk : k ≤ 1000) : (Instr.lookup 114 (.map (some b)) (.int .i64 (k : Int)) true).run Tryz.prog w = .ok (.tuple #[.int .i64 (((s k).getD 0 : Nat) : Int), .bool (s k).isSome]) w := by
  obtain ⟨f, h, hf⟩ := h
  rw [h.look true key_int Tryz.underlying114 (zero_int w) (keyOf_int k (by omega) (by omega))]
  show Result.ok (Value.tuple #[(f (.int .i64 (k : Int))).getD (.int .i64 0), .bool (f (.int .i64 (k : Int))).isSome]) w = _
  rw [hf k hk]
  cases s k <;> rfl
theorem IntMap.upd {f : Value → Option Value} {s : Nat → Option Nat} (hf : ∀ k : Nat, k ≤ 1000 → f (.int .i64 (k : Int)) = (s k).map fun x => .int .i64 (x : Int)) (k v : Nat) (j : Nat) (hj : j ≤ 1000) : updV? f (.int .i64 (k : Int)) (.int .i64 (v : Int)) (.int .i64 (j : Int)) = (setO s k (some v) j).map fun x => .int .i64 (x : Int) := by
  unfold updV? setO
  by_cases e : j = k
  · subst e; rw [if_pos rfl, if_pos rfl]; rfl
  · rw [if_neg (int_ne e), if_neg e]; exact hf j hj
theorem IntMap.entry {w : World} {b : Nat} {s : Nat → Option Nat} (h : IntMap w b s) (k : Nat) (hk : k ≤ 1000) :
    ∃ (v0 : Value) (st : Nat) (w1 : World), (Instr.mapEntry 114 (.map (some b)) (.int .i64 (k : Int))).run Tryz.prog w = .ok (.tuple #[v0, goInt st]) w1 ∧ Only [b] w w1 ∧ b < w1.heap.size ∧
      ∀ (w2 : World) (v : Nat), w2.heap[b]? = w1.heap[b]? → ∃ w3, (Instr.entryStore 114 (.map (some b)) (goInt st) (.int .i64 (v : Int))).run Tryz.prog w2 = .ok () w3 ∧ IntMap w3 b (setO s k (some v)) ∧ Only [b] w2 w3 := by
  obtain ⟨f, h, hf⟩ := h
  obtain ⟨v0, st, w1, h1, h2, h3, h4⟩ := h.entry key_int Tryz.underlying114 zero_int (keyOf_int k (by omega) (by omega))
  refine ⟨v0, st, w1, h1, h2, h3, fun w2 v hw2 => ?_⟩
  obtain ⟨w3, k1, k2, k3⟩ := h4 w2 (.int .i64 (v : Int)) hw2
  exact ⟨w3, k1, ⟨_, k2, IntMap.upd hf k v⟩, k3⟩
theorem IntMap.drop {w : World} {b : Nat} {s : Nat → Option Nat} (h : IntMap w b s) (k : Nat) (hk : k ≤ 1000) (ty : TypeId) :
    ∃ w', (Builtin.delete_ #[114, 3] ty #[.map (some b), .int .i64 (k : Int)]).run Tryz.prog w = .ok (.tuple #[]) w' ∧ IntMap w' b (setO s k none) ∧ Only [b] w w' := by
  obtain ⟨f, h, hf⟩ := h
  obtain ⟨w', h1, h2, h3⟩ := h.drop key_int Tryz.underlying114 ty (keyOf_int k (by omega) (by omega))
  refine ⟨w', h1, ⟨_, h2, fun j hj => ?_⟩, h3⟩
  unfold delV? setO
  by_cases e : j = k
  · subst e; rw [if_pos rfl, if_pos rfl]; rfl
  · rw [if_neg (int_ne e), if_neg e]; exact hf j hj

/-- How a gang stands, as deeds tell it. -/
structure TSt where
  has : Nat → Option Nat
  had : Nat → Bool
  fin : Nat → Bool
  slp : Nat → Bool

structure TrAt (w : World) (T a1 a2 a3 a4 : Nat) (pv : Value) (s : TSt) : Prop where
  cells : Cells w T [pv, .map (some a1), .map (some a2), .map (some a3), .map (some a4)]
  has : IntMap w a1 s.has
  had : BoolMap w a2 s.had
  fin : BoolMap w a3 s.fin
  slp : BoolMap w a4 s.slp
  nd : [T, a1, a2, a3, a4].Nodup

theorem TrAt.same {w w' : World} {T a1 a2 a3 a4 : Nat} {pv : Value} {s : TSt} (h : TrAt w T a1 a2 a3 a4 pv s) (ho : Only [] w w') : TrAt w' T a1 a2 a3 a4 pv s :=
  ⟨h.cells.only ho (by simp), h.has.only ho (by simp), h.had.only ho (by simp), h.fin.only ho (by simp), h.slp.only ho (by simp), h.nd⟩

end Go.Proofs.YtoofalchkedciaaGreatDoor

namespace Go.Proofs.YtoofalchkedciaaGreatDoor

def aloneB (what : Int) : Bool := decide (what = 5 ∨ what = 6)
/-- What is wrong with a deed. -/
def ddFault (d : Dd) : Int :=
  if d.what < 1 ∨ 6 < d.what ∨ d.hand < 0 ∨ 6 ≤ d.hand ∨ d.task < 0 ∨ 30 ≤ d.task ∨ (d.what = 2 ∧ (d.other < 0 ∨ 6 ≤ d.other)) then 1
  else if (d.what ≠ 2 ∧ d.other ≠ 0) ∨ ((d.what = 5 ∨ d.what = 6) ∧ d.task ≠ 0) then 3 else 0
/-- The first fault. -/
def firstDd : List Dd → Int
  | [] => 0
  | d :: l => if ddFault d = 0 then firstDd l else ddFault d
/-- What is wrong with deeds. -/
def ddsFault (l : List Dd) : Int := if 1000 < l.length then 4 else firstDd l

theorem firstDd_drop (l : List Dd) (i : Nat) (h : i < l.length) : firstDd (l.drop i) = if ddFault (ddAt l i) = 0 then firstDd (l.drop (i + 1)) else ddFault (ddAt l i) := by
  rw [List.drop_eq_getElem_cons h]
  simp [firstDd, ddAt, h]

theorem firstDd_zero (l : List Dd) : firstDd l = 0 ↔ ∀ d ∈ l, ddFault d = 0 := by
  induction l with
  | nil => simp [firstDd]
  | cons d l ih =>
    unfold firstDd
    by_cases h : ddFault d = 0
    · rw [if_pos h, ih]; simp [h]
    · rw [if_neg h]; simp [h]

/-- The ways a deed may be: wrong by range, by shape, or right. -/
theorem dd_range {d : Dd} (h : ddFault d = 1) : d.what < 1 ∨ (1 ≤ d.what ∧ 6 < d.what) ∨ (1 ≤ d.what ∧ d.what ≤ 6 ∧ d.hand < 0) ∨ (1 ≤ d.what ∧ d.what ≤ 6 ∧ 0 ≤ d.hand ∧ 6 ≤ d.hand) ∨ (1 ≤ d.what ∧ d.what ≤ 6 ∧ 0 ≤ d.hand ∧ d.hand < 6 ∧ d.task < 0) ∨
    (1 ≤ d.what ∧ d.what ≤ 6 ∧ 0 ≤ d.hand ∧ d.hand < 6 ∧ 0 ≤ d.task ∧ 30 ≤ d.task) ∨ (d.what = 2 ∧ 0 ≤ d.hand ∧ d.hand < 6 ∧ 0 ≤ d.task ∧ d.task < 30 ∧ d.other < 0) ∨ (d.what = 2 ∧ 0 ≤ d.hand ∧ d.hand < 6 ∧ 0 ≤ d.task ∧ d.task < 30 ∧ 0 ≤ d.other ∧ 6 ≤ d.other) := by
  unfold ddFault at h
  split at h
  · omega
  · split at h <;> omega
theorem dd_shape {d : Dd} (h : ddFault d = 3) : 1 ≤ d.what ∧ d.what ≤ 6 ∧ 0 ≤ d.hand ∧ d.hand < 6 ∧ 0 ≤ d.task ∧ d.task < 30 ∧ ((d.what ≠ 2 ∧ d.other ≠ 0) ∨ (d.what = 5 ∧ d.other = 0 ∧ d.task ≠ 0) ∨ (d.what = 6 ∧ d.other = 0 ∧ d.task ≠ 0)) := by
  unfold ddFault at h
  split at h
  · omega
  · split at h <;> omega
theorem dd_right {d : Dd} (h : ddFault d = 0) : 1 ≤ d.what ∧ d.what ≤ 6 ∧ 0 ≤ d.hand ∧ d.hand < 6 ∧ 0 ≤ d.task ∧ d.task < 30 ∧ ((d.what = 2 ∧ 0 ≤ d.other ∧ d.other < 6) ∨ (d.what = 5 ∧ d.other = 0 ∧ d.task = 0) ∨ (d.what = 6 ∧ d.other = 0 ∧ d.task = 0) ∨ (d.what ≠ 2 ∧ d.what ≠ 5 ∧ d.what ≠ 6 ∧ d.other = 0)) := by
  unfold ddFault at h
  split at h
  · omega
  · split at h <;> omega
theorem dd_three (d : Dd) : ddFault d = 1 ∨ ddFault d = 3 ∨ ddFault d = 0 := by
  unfold ddFault
  split
  · exact .inl rfl
  · split
    · exact .inr (.inl rfl)
    · exact .inr (.inr rfl)

end Go.Proofs.YtoofalchkedciaaGreatDoor

namespace Go.Proofs.YtoofalchkedciaaGreatDoor
open Go

section
variable {P : Program} {ops : Array Oper} {md : Region.Mode}

theorem filter_fewer {p q : Nat → Bool} (l : List Nat) (h : ∀ x ∈ l, q x = true → p x = true) : (l.filter q).length ≤ (l.filter p).length := by
  induction l with
  | nil => simp
  | cons x l ih =>
    have := ih (fun y hy => h y (by simp [hy]))
    simp only [List.filter_cons]
    cases hq : q x with
    | true => rw [h x (by simp) hq]; simp; exact this
    | false => cases p x <;> simp <;> omega
theorem filter_less {p q : Nat → Bool} (l : List Nat) (h : ∀ x ∈ l, q x = true → p x = true) (i : Nat) (hi : i ∈ l) (h1 : p i = true) (h2 : q i = false) : (l.filter q).length < (l.filter p).length := by
  induction l with
  | nil => cases hi
  | cons x l ih =>
    simp only [List.filter_cons]
    rcases List.mem_cons.1 hi with rfl | hm
    · rw [h1, h2]
      have := filter_fewer l (fun y hy => h y (by simp [hy]))
      simp; omega
    · have := ih (fun y hy => h y (by simp [hy])) hm
      cases hq : q x with
      | true => rw [h x (by simp) hq]; simp; omega
      | false => cases p x <;> simp <;> omega

/-- The frame a is F, but for the slots of operations that have not run. -/
structure NearF (ops : Array Oper) (listed : Array Bool) (a F : Act) : Prop where
  defers : a.defers = F.defers
  size : a.tmps.size = F.tmps.size
  slot : ∀ d : Nat, (∀ j o, ops[j]? = some o → listed.getD j true = false → o.dst ≠ some d) → a.tmps[d]? = F.tmps[d]?

/-- What operation o gives in F is what F has. -/
def GivesF (P : Program) (ops : Array Oper) (F : Act) (w : World) (o : Oper) : Prop := ∃ v, YieldsAt P ops w o v F ∧ F.put o.dst v = F

theorem put_slot {F : Act} {d : Nat} {v : Value} (h : F.put (some d) v = F) (hd : d < F.tmps.size) : F.tmps[d]? = some v := by
  have := congrArg (fun a : Act => a.tmps[d]?) h
  simp only [Act.put] at this
  rw [← this]; simp [hd]

theorem NearF.put {listed : Array Bool} {a F : Act} (h : NearF ops listed a F) {i : Nat} {o : Oper} {v : Value} (hi : ops[i]? = some o) (hv : F.put o.dst v = F) : NearF ops (listed.setIfInBounds i true) (a.put o.dst v) F := by
  obtain ⟨h1, h2, h3⟩ := h
  have keep : ∀ d, (∀ j o, ops[j]? = some o → (listed.setIfInBounds i true).getD j true = false → o.dst ≠ some d) → o.dst ≠ some d → a.tmps[d]? = F.tmps[d]? := fun d hd hne => h3 d fun j oj hj hl => by
    by_cases e : j = i
    · subst e
      have : oj = o := Option.some.inj (hj.symm.trans hi)
      subst this; exact hne
    · exact hd j oj hj (by rw [getD_set_ne true (Ne.symm e)]; exact hl)
  cases hdst : o.dst with
  | none => exact ⟨h1, h2, fun d hd => keep d hd (by rw [hdst]; simp)⟩
  | some e =>
    refine ⟨h1, by simp [Act.put, h2], fun d hd => ?_⟩
    by_cases hde : d = e
    · subst hde
      rw [hdst] at hv
      by_cases hs : d < a.tmps.size
      · rw [put_slot hv (by omega)]; simp [Act.put, hs]
      · rw [Array.getElem?_eq_none (by simp [Act.put]; omega), Array.getElem?_eq_none (by omega)]
    · have := keep d hd (by rw [hdst]; simpa using fun e' => hde e'.symm)
      simp only [Act.put]
      rw [Array.getElem?_setIfInBounds_ne (Ne.symm hde)]
      exact this

theorem NearF.all {listed : Array Bool} {a F : Act} (h : NearF ops listed a F) (hall : ∀ j, j < ops.size → listed.getD j true = true) : a = F := by
  have ht : a.tmps = F.tmps := Array.ext_getElem? fun d => h.slot d fun j o hj hl => by
    rw [hall j (Array.getElem?_eq_some_iff.1 hj).1] at hl; cases hl
  cases a; cases F
  simp only at ht
  have := h.defers
  simp only at this
  subst ht this
  rfl

/-- Each slot that i looks at is that of an operation for which i waits, or of none. -/
def looksB (md : Region.Mode) (ops : Array Oper) : Bool :=
  (List.range ops.size).all fun i => match ops[i]? with
    | some o => (o.looksAt ops).all fun d => (List.range ops.size).all fun j => match ops[j]? with
      | some oj => oj.dst != some d || Region.waitsFor md ops i j
      | none => true
    | none => true

theorem looks_eval {listed : Array Bool} {a F : Act} (hB : looksB md ops = true) (hsel : ∀ (j : Nat) (o : Oper) cs b, ops[j]? = some o → o.op ≠ .select cs b) (h : NearF ops listed a F) {i : Nat} {o : Oper} (hi : ops[i]? = some o)
    (hr : i ∈ Region.ready md ops listed) : execOp a.eval o = execOp F.eval o := by
  obtain ⟨_, o', ho', hall⟩ := mem_ready.1 hr
  have : o' = o := Option.some.inj (ho'.symm.trans hi)
  subst this
  refine execOp_congr o' (fun cs b => hsel i o' cs b hi) fun x hx => ?_
  cases x with
  | tmp d =>
    have hil : i < ops.size := (Array.getElem?_eq_some_iff.1 hi).1
    have h1 := List.all_eq_true.1 hB i (List.mem_range.2 hil)
    simp only [hi] at h1
    have h2 := List.all_eq_true.1 h1 d (List.mem_append_left _ (List.mem_filterMap.2 ⟨.tmp d, by simpa using hx, rfl⟩))
    have h3 := h.slot d fun j oj hj hl e => by
      have h4 := List.all_eq_true.1 h2 j (List.mem_range.2 (Array.getElem?_eq_some_iff.1 hj).1)
      simp only [hj, Bool.or_eq_true] at h4
      rcases h4 with h4 | h4
      · simp [e] at h4
      · obtain ⟨o2, ho2, ed, he, hb, hon⟩ := Region.waitsFor_spec h4
        have : o2 = o' := Option.some.inj (ho2.symm.trans hi)
        subst this
        have h5 := hall ed he hb
        rw [hon, getD_both hl] at h5
        cases h5
    show a.tmps.getD d undef = F.tmps.getD d undef
    simp only [Array.getD_eq_getD_getElem?, h3]
  | _ => rfl

/-- All that is asked of the operations themselves. -/
def twoB (md : Region.Mode) (ops : Array Oper) (s1 s2 : Nat) : Bool :=
  Region.noSelect ops && looksB md ops && decide (s1 < ops.size) && decide (s2 < ops.size) && decide (s1 ≠ s2) &&
  (ops.all fun o => o.guard.isNone) &&
  ((List.range ops.size).all fun i => match ops[i]? with | some o => o.after.all fun e => !Region.binds md e || decide (e.on < i) | none => true) &&
  ((List.range ops.size).all fun i => decide (i = s2) || Region.waitsFor md ops s2 i)

theorem two_any {s1 s2 : Nat} {F : Act} {W0 W1 W2 : World} {Q : Exit → Act → World → Prop} {o1 o2 : Oper} (hB : twoB md ops s1 s2 = true) (ho1 : ops[s1]? = some o1) (ho2 : ops[s2]? = some o2) (hd1 : o1.dst = none) (hd2 : o2.dst = none)
    (hA : ∀ i o, ops[i]? = some o → i ≠ s1 → i ≠ s2 → GivesF P ops F W0 o) (hC : ∀ i o, ops[i]? = some o → i ≠ s1 → i ≠ s2 → Region.waitsFor md ops s1 i = false → GivesF P ops F W1 o)
    (h1 : ∃ n, (n = .skip ∨ ∃ v, n = .value v) ∧ (execOp F.eval o1).run P W0 = .ok n W1) (h2 : ∃ n, (n = .skip ∨ ∃ v, n = .value v) ∧ (execOp F.eval o2).run P W1 = .ok n W2) (hQ : Q .normal F W2) :
    ∀ (fuel : Nat) (listed : Array Bool) (a : Act), listed.size = ops.size → ((List.range ops.size).filter fun j => !listed.getD j true).length ≤ fuel → NearF ops listed a F →
      (∀ j oj, ops[j]? = some oj → listed.getD j false = true → ∀ e ∈ oj.after, Region.binds md e = true → listed.getD e.on false = true) →
      wpAny P md ops Q fuel listed a (if listed.getD s2 false then W2 else if listed.getD s1 false then W1 else W0) := by
  simp only [twoB, Bool.and_eq_true, decide_eq_true_eq] at hB
  obtain ⟨⟨⟨⟨⟨⟨⟨hsel, hlook⟩, hs1⟩, hs2⟩, hne⟩, hgd⟩, hord⟩, hlast⟩ := hB
  have hsel := Region.noSelect_spec hsel
  have hgd : ∀ (i : Nat) (o : Oper), ops[i]? = some o → o.guard = none := fun i o hi => by
    have := Array.all_eq_true_iff_forall_mem.1 hgd o (Array.mem_of_getElem? hi)
    simpa using this
  have hlast : ∀ i, i < ops.size → i ≠ s2 → Region.waitsFor md ops s2 i = true := fun i hi hn => by
    have := List.all_eq_true.1 hlast i (List.mem_range.2 hi)
    simpa [hn] using this
  have hord : ∀ (i : Nat) (o : Oper), ops[i]? = some o → ∀ e ∈ o.after, Region.binds md e = true → e.on < i := fun i o hi e he hb => by
    have := List.all_eq_true.1 hord i (List.mem_range.2 (Array.getElem?_eq_some_iff.1 hi).1)
    simp only [hi] at this
    have := Array.all_eq_true_iff_forall_mem.1 this e he
    simpa [hb] using this
  have none_left : ∀ listed : Array Bool, listed.size = ops.size → Region.ready md ops listed = [] → ∀ j, j < ops.size → listed.getD j true = true := by
    intro listed hsz hr j
    induction j using Nat.strongRecOn with
    | _ j ih =>
      intro hj
      cases hl : listed.getD j true with
      | true => rfl
      | false =>
        exfalso
        have hmem : j ∈ Region.ready md ops listed := mem_ready.2 ⟨hl, ops[j], Array.getElem?_eq_getElem hj, fun e he hb => by
          have hlt := hord j _ (Array.getElem?_eq_getElem hj) e he hb
          have := ih e.on hlt (by omega)
          cases hf : listed.getD e.on false with
          | true => rfl
          | false => have hx := getD_in (by omega) hf; rw [hx] at this; cases this⟩
        rw [hr] at hmem; cases hmem
  have done : ∀ (listed : Array Bool) (a : Act), listed.size = ops.size → NearF ops listed a F → Region.ready md ops listed = [] → Q .normal a (if listed.getD s2 false then W2 else if listed.getD s1 false then W1 else W0) := by
    intro listed a hsz hn hr
    have hall := none_left listed hsz hr
    have hs : listed.getD s2 false = true := by
      cases hf : listed.getD s2 false with
      | true => rfl
      | false => have h1 := getD_in (by omega) hf; rw [hall s2 hs2] at h1; cases h1
    rw [hn.all hall, hs]
    exact hQ
  intro fuel
  induction fuel with
  | zero =>
    intro listed a hsz hf hn _
    have hall : ∀ j, j < ops.size → listed.getD j true = true := fun j hj => by
      cases hl : listed.getD j true with
      | true => rfl
      | false =>
        exfalso
        have : j ∈ (List.range ops.size).filter fun j => !listed.getD j true := List.mem_filter.2 ⟨List.mem_range.2 hj, by rw [hl]; rfl⟩
        have := List.length_pos_of_mem this
        omega
    have hr : Region.ready md ops listed = [] := by
      refine List.eq_nil_iff_forall_not_mem.2 fun j hj => ?_
      obtain ⟨h0, o, ho, _⟩ := mem_ready.1 hj
      rw [hall j (Array.getElem?_eq_some_iff.1 ho).1] at h0; cases h0
    exact ⟨hr, done listed a hsz hn hr⟩
  | succ fuel ih =>
    intro listed a hsz hf hn hcl
    refine ⟨done listed a hsz hn, fun i hi => ?_⟩
    obtain ⟨hun, o, ho, hall⟩ := mem_ready.1 hi
    have hil : i < ops.size := (Array.getElem?_eq_some_iff.1 ho).1
    have hev := looks_eval hlook hsel hn ho hi
    have hsz' : (listed.setIfInBounds i true).size = ops.size := by simp [hsz]
    have hf' : ((List.range ops.size).filter fun j => !(listed.setIfInBounds i true).getD j true).length ≤ fuel := by
      have := filter_less (p := fun j => !listed.getD j true) (q := fun j => !(listed.setIfInBounds i true).getD j true) (List.range ops.size) (fun x _ hx => by
        by_cases e : x = i
        · subst e; rw [getD_both hun |> fun _ => hun]; rfl
        · rwa [getD_set_ne true (Ne.symm e)] at hx) i (List.mem_range.2 hil) (by rw [hun]; rfl) (by
          have : i < listed.size := by omega
          simp [this])
      omega
    have hcl' : ∀ j oj, ops[j]? = some oj → (listed.setIfInBounds i true).getD j false = true → ∀ e ∈ oj.after, Region.binds md e = true → (listed.setIfInBounds i true).getD e.on false = true := fun j oj hj hl e he hb => by
      by_cases hij : i = j
      · subst hij
        have : oj = o := Option.some.inj (hj.symm.trans ho)
        subst this
        exact getD_set_true (hall e he hb)
      · rw [getD_set_ne false hij] at hl
        exact getD_set_true (hcl j oj hj hl e he hb)
    have hwant : Region.wanted o (yielded ops a.tmps) = true := by unfold Region.wanted; rw [hgd i o ho]
    -- the second store has not run
    have hn2 : i ≠ s2 → listed.getD s2 false = false := fun hne2 => by
      cases hl : listed.getD s2 false with
      | false => rfl
      | true =>
        obtain ⟨o', ho', e, he, hb, hon⟩ := Region.waitsFor_spec (hlast i hil hne2)
        have := hcl s2 o' ho' hl e he hb
        rw [hon, getD_both hun] at this
        cases this
    have setF : ∀ s, s ≠ i → (listed.setIfInBounds i true).getD s false = listed.getD s false := fun s hs => getD_set_ne false (Ne.symm hs)
    have setT : (listed.setIfInBounds i true).getD i false = true := by
      have : i < listed.size := by omega
      simp [this]
    unfold wpOp
    simp only [ho, hwant, if_true]
    left
    unfold Oper.wp
    rw [hev]
    by_cases hi1 : i = s1
    · subst hi1
      have : o = o1 := Option.some.inj (ho.symm.trans ho1)
      subst this
      rw [hn2 hne, getD_both hun]
      obtain ⟨nx, hnx, hrun⟩ := h1
      simp only [Bool.false_eq_true, if_false]
      rw [hrun]
      have nv : ∀ v, NearF ops (listed.setIfInBounds i true) (a.put o.dst v) F := fun v => hn.put ho (by rw [hd1]; rfl)
      have hW : (if (listed.setIfInBounds i true).getD s2 false then W2 else if (listed.setIfInBounds i true).getD i false then W1 else W0) = W1 := by
        rw [setF s2 (Ne.symm hne), hn2 hne, setT]; rfl
      rcases hnx with rfl | ⟨v, rfl⟩
      · have := ih _ _ hsz' hf' (nv undef) hcl'
        rw [hW] at this; exact this
      · have := ih _ _ hsz' hf' (nv v) hcl'
        rw [hW] at this; exact this
    · by_cases hi2 : i = s2
      · subst hi2
        have : o = o2 := Option.some.inj (ho.symm.trans ho2)
        subst this
        have hl1 : listed.getD s1 false = true := by
          obtain ⟨o', ho', e, he, hb, hon⟩ := Region.waitsFor_spec (hlast s1 hs1 hne)
          have : o' = o := Option.some.inj (ho'.symm.trans ho)
          subst this
          rw [← hon]; exact hall e he hb
        rw [getD_both hun, hl1]
        obtain ⟨nx, hnx, hrun⟩ := h2
        simp only [Bool.false_eq_true, if_false, if_true]
        rw [hrun]
        have nv : ∀ v, NearF ops (listed.setIfInBounds i true) (a.put o.dst v) F := fun v => hn.put ho (by rw [hd2]; rfl)
        have hW : (if (listed.setIfInBounds i true).getD i false then W2 else if (listed.setIfInBounds i true).getD s1 false then W1 else W0) = W2 := by rw [setT]; rfl
        rcases hnx with rfl | ⟨v, rfl⟩
        · have := ih _ _ hsz' hf' (nv undef) hcl'
          rw [hW] at this; exact this
        · have := ih _ _ hsz' hf' (nv v) hcl'
          rw [hW] at this; exact this
      · have hW : (if (listed.setIfInBounds i true).getD s2 false then W2 else if (listed.setIfInBounds i true).getD s1 false then W1 else W0) = if listed.getD s2 false then W2 else if listed.getD s1 false then W1 else W0 := by
          rw [setF s2 (Ne.symm hi2), setF s1 (Ne.symm hi1)]
        have hg : GivesF P ops F (if listed.getD s2 false then W2 else if listed.getD s1 false then W1 else W0) o := by
          rw [hn2 hi2]
          cases hl1 : listed.getD s1 false with
          | false => exact hA i o ho hi1 hi2
          | true =>
            refine hC i o ho hi1 hi2 ?_
            cases hw : Region.waitsFor md ops s1 i with
            | false => rfl
            | true =>
              obtain ⟨o', ho', e, he, hb, hon⟩ := Region.waitsFor_spec hw
              have := hcl s1 o' ho' hl1 e he hb
              rw [hon, getD_both hun] at this
              cases this
        obtain ⟨v, hrun, hput⟩ := hg
        have hnext := ih _ _ hsz' hf' (hn.put ho hput) hcl'
        rw [hW] at hnext
        have hwF : Region.wanted o (yielded ops F.tmps) = true := by unfold Region.wanted; rw [hgd i o ho]
        rcases hrun with ⟨_, hrun | ⟨hrun, rfl⟩ | ⟨f, args, hrun, hc⟩⟩ | ⟨hw, _⟩
        · rw [hrun]; exact hnext
        · rw [hrun]; exact hnext
        · rw [hrun]
          refine hc.mono ?_
          rintro e w' ⟨rfl, rfl⟩
          exact hnext
        · rw [hwF] at hw; cases hw

def dstsB : List Oper → Bool
  | [] => true
  | o :: l => l.all (fun o' => o.dst.isNone || o'.dst != o.dst) && dstsB l

theorem still_near {w : World} {K : Act → Prop} : ∀ (l : List Oper) (a : Act), (∀ o ∈ l, ∃ i : Nat, ops[i]? = some o) → wpStill P ops w K l a →
    ∃ F, K F ∧ a.defers = F.defers ∧ a.tmps.size = F.tmps.size ∧ ∀ d : Nat, (∀ o ∈ l, o.dst ≠ some d) → a.tmps[d]? = F.tmps[d]?
  | [], a, _, h => ⟨a, h, rfl, rfl, fun _ _ => rfl⟩
  | o :: l, a, hl, h => by
    obtain ⟨i, hi⟩ := hl o (by simp)
    have hst : stOp P ops w i (wpStill P ops w K l) a := by unfold stOp; simp only [hi]; exact h
    obtain ⟨v, _, hK⟩ := yieldsAt_of_stOp hi hst
    obtain ⟨F, h1, h2, h3, h4⟩ := still_near l (a.put o.dst v) (fun x hx => hl x (by simp [hx])) hK
    refine ⟨F, h1, ?_, ?_, fun d hd => ?_⟩
    · rw [← h2]; cases o.dst <;> rfl
    · rw [← h3]; cases o.dst <;> simp [Act.put]
    · rw [← h4 d (fun x hx => hd x (by simp [hx]))]
      have := hd o (by simp)
      cases hdst : o.dst with
      | none => rfl
      | some e =>
        have hne : e ≠ d := fun e' => this (by rw [hdst, e'])
        simp [Act.put, Array.getElem?_setIfInBounds_ne hne]

/-- Run one behind the other in F, and F is left: so each gives what F has. -/
theorem still_each {w : World} {F : Act} : ∀ (l : List Oper), (∀ o ∈ l, ∃ i : Nat, ops[i]? = some o) → dstsB l = true → wpStill P ops w (fun a' => a' = F) l F → ∀ o ∈ l, GivesF P ops F w o
  | [], _, _, _ => fun o ho => by cases ho
  | o :: l, hl, hd, h => by
    obtain ⟨i, hi⟩ := hl o (by simp)
    have hst : stOp P ops w i (wpStill P ops w (fun a' => a' = F) l) F := by unfold stOp; simp only [hi]; exact h
    obtain ⟨v, hy, hK⟩ := yieldsAt_of_stOp hi hst
    simp only [dstsB, Bool.and_eq_true] at hd
    obtain ⟨F', rfl, h2, h3, h4⟩ := still_near l (F.put o.dst v) (fun x hx => hl x (by simp [hx])) hK
    have hput : F'.put o.dst v = F' := by
      cases hdst : o.dst with
      | none => rfl
      | some e =>
        rw [hdst] at h4
        have hnot : ∀ o' ∈ l, o'.dst ≠ some e := fun o' ho' he => by
          have := List.all_eq_true.1 hd.1 o' ho'
          rw [hdst, he] at this
          simp at this
        have hs := h4 e hnot
        have ht : (F'.put (some e) v).tmps = F'.tmps := Array.ext_getElem? fun d => by
          by_cases hde : d = e
          · subst hde; exact hs
          · simp [Act.put, Array.getElem?_setIfInBounds_ne (Ne.symm hde)]
        show ({ F' with tmps := F'.tmps.setIfInBounds e v } : Act) = F'
        have ht' : F'.tmps.setIfInBounds e v = F'.tmps := ht
        rw [ht']
    rw [hput] at hK
    intro o' ho'
    rcases List.mem_cons.1 ho' with rfl | ho'
    · exact ⟨v, hy, hput⟩
    · exact still_each l (fun x hx => hl x (by simp [hx])) hd.2 hK o' ho'

/-- The store o, run in F; then K. -/
def storeThen (P : Program) (o : Oper) (F : Act) (w : World) (K : World → Prop) : Prop :=
  match (execOp F.eval o).run P w with
  | .ok (.value _) w' => K w'
  | .ok .skip w' => K w'
  | _ => False
theorem storeThen_step {o : Oper} {F : Act} {w : World} {K : World → Prop} (h : ∀ K' : World → Prop, (∀ W, K W → K' W) → storeThen P o F w K') : storeThen P o F w K := h K (fun _ h => h)
theorem storeThen_spec {o : Oper} {F : Act} {w : World} {K : World → Prop} (h : storeThen P o F w K) : ∃ W, (∃ n, (n = .skip ∨ ∃ v, n = .value v) ∧ (execOp F.eval o).run P w = .ok n W) ∧ K W := by
  unfold storeThen at h
  generalize (execOp F.eval o).run P w = r at h
  cases r with
  | ok n w' =>
    cases n with
    | value v => exact ⟨w', ⟨_, .inr ⟨v, rfl⟩, rfl⟩, h⟩
    | skip => exact ⟨w', ⟨_, .inl rfl, rfl⟩, h⟩
    | _ => exact h.elim
  | halt x w' => exact h.elim

/-- The ranges E hold all for which the first store does not wait. -/
def earlyR (md : Region.Mode) (ops : Array Oper) (s1 s2 : Nat) (E : List (Nat × Nat)) : Bool :=
  (List.range ops.size).all fun i => decide (i = s1) || decide (i = s2) || Region.waitsFor md ops s1 i || E.any fun r => decide (r.1 ≤ i) && decide (i < r.1 + r.2)

theorem wp_region_two {id : Nat} {Q : Exit → Act → World → Prop} {a : Act} {w : World} {l : List Oper} (s1 s2 : Nat) (E : List (Nat × Nat)) (o1 o2 : Oper) (hm : P.follows .mixedOrders = true)
    (hD : dstsB (l.take s1 ++ (l.drop (s1 + 1)).take (s2 - s1 - 1)) = true) (hD2 : dstsB (E.flatMap fun r => (l.drop r.1).take r.2) = true) (hB : twoB .any l.toArray s1 s2 = true) (hE : earlyR .any l.toArray s1 s2 E = true) (ho1 : l[s1]? = some o1) (ho2 : l[s2]? = some o2) (hd1 : o1.dst = none) (hd2 : o2.dst = none) (h12 : s1 < s2) (hl2 : l.length = s2 + 1)
    (h : wpStill P l.toArray w.drew (fun F => wpStill P l.toArray w.drew (fun a' => a' = F) (l.take s1 ++ (l.drop (s1 + 1)).take (s2 - s1 - 1)) F ∧
      storeThen P o1 F w.drew fun W1 => wpStill P l.toArray W1 (fun a' => a' = F) (E.flatMap fun r => (l.drop r.1).take r.2) F ∧ storeThen P o2 F W1 fun W2 => Q .normal F W2) (l.take s1 ++ (l.drop (s1 + 1)).take (s2 - s1 - 1)) a) :
    (Code.region id l.toArray true).wp P Q a w := by
  have hmem : ∀ i o, l[i]? = some o → i ≠ s1 → i ≠ s2 → o ∈ l.take s1 ++ (l.drop (s1 + 1)).take (s2 - s1 - 1) := fun i o hi h1 h2 => by
    have hil : i < l.length := (List.getElem?_eq_some_iff.1 hi).1
    rcases Nat.lt_or_ge i s1 with hlt | hge
    · refine List.mem_append_left _ (List.mem_of_getElem? (i := i) ?_)
      rw [List.getElem?_take_of_lt hlt]; exact hi
    · refine List.mem_append_right _ (List.mem_of_getElem? (i := i - (s1 + 1)) ?_)
      rw [List.getElem?_take_of_lt (by omega), List.getElem?_drop, show s1 + 1 + (i - (s1 + 1)) = i by omega]; exact hi
  have hin : ∀ o ∈ l.take s1 ++ (l.drop (s1 + 1)).take (s2 - s1 - 1), ∃ i : Nat, l.toArray[i]? = some o := fun o ho => by
    have : o ∈ l := by
      rcases List.mem_append.1 ho with h | h
      · exact List.mem_of_mem_take h
      · exact List.mem_of_mem_drop (List.mem_of_mem_take h)
    obtain ⟨i, hi⟩ := List.getElem?_of_mem this
    exact ⟨i, by simpa using hi⟩
  obtain ⟨F, ⟨hA, hs1⟩, k1, k2, k3⟩ := still_near _ a hin h
  obtain ⟨W1, hr1, hC, hs2⟩ := storeThen_spec hs1
  obtain ⟨W2, hr2, hQ⟩ := storeThen_spec hs2
  have e1 : l.toArray[s1]? = some o1 := by simpa using ho1
  have e2 : l.toArray[s2]? = some o2 := by simpa using ho2
  have H := two_any (Q := Q) (F := F) (W0 := w.drew) (W1 := W1) (W2 := W2) hB e1 e2 hd1 hd2
    (fun i o hi h1 h2 => still_each _ hin hD hA o (hmem i o (by simpa using hi) h1 h2))
    (fun i o hi h1 h2 hw => still_each _ (fun o ho => by
      obtain ⟨r, _, hr⟩ := List.mem_flatMap.1 ho
      obtain ⟨j, hj⟩ := List.getElem?_of_mem (List.mem_of_mem_drop (List.mem_of_mem_take hr))
      exact ⟨j, by simpa using hj⟩) hD2 hC o (by
      have hE1 := List.all_eq_true.1 hE i (List.mem_range.2 (Array.getElem?_eq_some_iff.1 hi).1)
      simp only [Bool.or_eq_true, decide_eq_true_eq, h1, h2, hw, false_or, Bool.false_eq_true] at hE1
      obtain ⟨r, hr, hr2⟩ := List.any_eq_true.1 hE1
      simp only [Bool.and_eq_true, decide_eq_true_eq] at hr2
      have hi' : l[i]? = some o := by simpa using hi
      refine List.mem_flatMap.2 ⟨r, hr, List.mem_of_getElem? (i := i - r.1) ?_⟩
      rw [List.getElem?_take_of_lt (by omega), List.getElem?_drop, show r.1 + (i - r.1) = i by omega]; exact hi'))
    hr1 hr2 hQ l.toArray.size (Array.replicate l.toArray.size false) a (by simp) (Nat.le_trans (List.length_filter_le _ _) (by simp))
    ⟨k1, k2, fun d hd => k3 d fun o ho => by
      obtain ⟨i, hi⟩ := hin o ho
      exact hd i o hi (getD_in (by simpa using (Array.getElem?_eq_some_iff.1 hi).1) (getD_replicate_false _ _))⟩
    (fun j oj _ hl => by rw [getD_replicate_false] at hl; cases hl)
  rw [getD_replicate_false, getD_replicate_false] at H
  exact wp_region_any hm H
end

end Go.Proofs.YtoofalchkedciaaGreatDoor
