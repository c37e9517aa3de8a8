/-
  Keys of maps that are ints.
  What trace.Check keeps: maps by hands and by tasks.
-/
import Derived.Test.YtoofalchkedciaaDoorP30TraceBack
import Derived.Test.YtoofalchkedciaaDoorRows
import Derived.Test.YtoofalchkedciaaDoorP31TraceBack
import Derived.Test.YtoofalchkedciaaDoorP22TraceBack
namespace Go.Proofs.YtoofalchkedciaaDoor
open Go.RowKit Go.Maps

theorem key_int : Keyed Tryd.prog 3 := int_keyed Tryd.underlying3
theorem keyOf_int (k : Int) (h1 : -9223372036854775808 ≤ k) (h2 : k ≤ 9223372036854775807) : keyOf Tryd.prog 3 (.int .i64 k) = some (.int .i64 k) :=
  keyOf_int_mk Tryd.underlying3 (WalkArith.wf_i64 ⟨h1, h2⟩)
theorem zero_bool (w : World) : (zeroValue 4).run Tryd.prog w = .ok (.bool false) w := by kernel_rfl

end Go.Proofs.YtoofalchkedciaaDoor

namespace Go.Proofs.YtoofalchkedciaaDoor
open Go.RowKit Go.Maps

def setB (s : Nat → Bool) (k : Nat) (v : Bool) : Nat → Bool := fun i => if i = k then v else s i
def setO (s : Nat → Option Nat) (k : Nat) (v : Option Nat) : Nat → Option Nat := fun i => if i = k then v else s i
theorem setB_true (s : Nat → Bool) (k : Nat) : setB s k true = upB s k := rfl

/-- A map of ints to bools: what is asked of it. -/
def BoolMap (w : World) (b : Nat) (s : Nat → Bool) : Prop := ∃ f, MapB w Tryd.prog 3 b f ∧ ∀ k : Nat, k ≤ 1000 → (f (.int .i64 (k : Int))).getD (.bool false) = .bool (s k)
/-- A map of ints to ints. -/
def IntMap (w : World) (b : Nat) (s : Nat → Option Nat) : Prop := ∃ f, MapB w Tryd.prog 3 b f ∧ ∀ k : Nat, k ≤ 1000 → f (.int .i64 (k : Int)) = (s k).map fun x => .int .i64 (x : Int)

theorem int_ne {j k : Nat} (h : j ≠ k) : (Value.int .i64 (j : Int)) ≠ .int .i64 (k : Int) := fun e => by injection e with _ e; omega
theorem zero_int (w : World) : (zeroValue 3).run Tryd.prog w = .ok (.int .i64 0) w := by kernel_rfl

theorem BoolMap.lt {w : World} {b : Nat} {s : Nat → Bool} (h : BoolMap w b s) : b < w.heap.size := by obtain ⟨f, h, _⟩ := h; exact h.lt
theorem BoolMap.only {w w' : World} {b : Nat} {s : Nat → Bool} {S : List Nat} (h : BoolMap w b s) (ho : Only S w w') (hb : b ∉ S) : BoolMap w' b s := by obtain ⟨f, h, k⟩ := h; exact ⟨f, h.only ho hb, k⟩
theorem BoolMap.made (w : World) : BoolMap (w.alloc (.map #[] 0)) w.heap.size (fun _ => false) := ⟨_, MapB.made w _ _, fun _ _ => rfl⟩
theorem BoolMap.look {w : World} {b : Nat} {s : Nat → Bool} (h : BoolMap w b s) (k : Nat) (hk : k ≤ 1000) : (Instr.lookup 87 (.map (some b)) (.int .i64 (k : Int)) false).run Tryd.prog w = .ok (.bool (s k)) w := by
  obtain ⟨f, h, hf⟩ := h
  rw [h.look false key_int Tryd.underlying87 (zero_bool w) (keyOf_int k (by omega) (by omega))]
  show Result.ok ((f (.int .i64 (k : Int))).getD (.bool false)) w = _
  rw [hf k hk]
theorem BoolMap.upd {f : Value → Option Value} {s : Nat → Bool} (hf : ∀ k : Nat, k ≤ 1000 → (f (.int .i64 (k : Int))).getD (.bool false) = .bool (s k)) (k : Nat) (v : Bool) (j : Nat) (hj : j ≤ 1000) : (updV? f (.int .i64 (k : Int)) (.bool v) (.int .i64 (j : Int))).getD (.bool false) = .bool (setB s k v j) := by
  unfold updV? setB
  by_cases e : j = k
  · subst e; rw [if_pos rfl, if_pos rfl]; rfl
  · rw [if_neg (int_ne e), if_neg e]; exact hf j hj
theorem BoolMap.put {w : World} {b : Nat} {s : Nat → Bool} (h : BoolMap w b s) (k : Nat) (hk : k ≤ 1000) (v : Bool) :
    ∃ w', (Instr.mapUpdate 87 (.map (some b)) (.int .i64 (k : Int)) (.bool v)).run Tryd.prog w = .ok () w' ∧ BoolMap w' b (setB s k v) ∧ Only [b] w w' := by
  obtain ⟨f, h, hf⟩ := h
  obtain ⟨w', h1, h2, h3⟩ := h.put key_int Tryd.underlying87 (keyOf_int k (by omega) (by omega)) (.bool v)
  exact ⟨w', h1, ⟨_, h2, BoolMap.upd hf k v⟩, h3⟩
theorem BoolMap.entry {w : World} {b : Nat} {s : Nat → Bool} (h : BoolMap w b s) (k : Nat) (hk : k ≤ 1000) :
    ∃ (v0 : Value) (st : Nat) (w1 : World), (Instr.mapEntry 87 (.map (some b)) (.int .i64 (k : Int))).run Tryd.prog w = .ok (.tuple #[v0, goInt st]) w1 ∧ Only [b] w w1 ∧ b < w1.heap.size ∧
      ∀ (w2 : World) (v : Bool), w2.heap[b]? = w1.heap[b]? → ∃ w3, (Instr.entryStore 87 (.map (some b)) (goInt st) (.bool v)).run Tryd.prog w2 = .ok () w3 ∧ BoolMap w3 b (setB s k v) ∧ Only [b] w2 w3 := by
  obtain ⟨f, h, hf⟩ := h
  obtain ⟨v0, st, w1, h1, h2, h3, h4⟩ := h.entry key_int Tryd.underlying87 zero_bool (keyOf_int k (by omega) (by omega))
  refine ⟨v0, st, w1, h1, h2, h3, fun w2 v hw2 => ?_⟩
  obtain ⟨w3, k1, k2, k3⟩ := h4 w2 (.bool v) hw2
  exact ⟨w3, k1, ⟨_, k2, BoolMap.upd hf k v⟩, k3⟩

theorem IntMap.lt {w : World} {b : Nat} {s : Nat → Option Nat} (h : IntMap w b s) : b < w.heap.size := by obtain ⟨f, h, _⟩ := h; exact h.lt
theorem IntMap.only {w w' : World} {b : Nat} {s : Nat → Option Nat} {S : List Nat} (h : IntMap w b s) (ho : Only S w w') (hb : b ∉ S) : IntMap w' b s := by obtain ⟨f, h, k⟩ := h; exact ⟨f, h.only ho hb, k⟩
theorem IntMap.made (w : World) : IntMap (w.alloc (.map #[] 0)) w.heap.size (fun _ => none) := ⟨_, MapB.made w _ _, fun _ _ => rfl⟩
theorem IntMap.look {w : World} {b : Nat} {s : Nat → Option Nat} (h : IntMap w b s) (k : Nat) (hk : k ≤ 1000) : (Instr.lookup 86 (.map (some b)) (.int .i64 (k : Int)) true).run Tryd.prog w = .ok (.tuple #[.int .i64 (((s k).getD 0 : Nat) : Int), .bool (s k).isSome]) w := by
  obtain ⟨f, h, hf⟩ := h
  rw [h.look true key_int Tryd.underlying86 (zero_int w) (keyOf_int k (by omega) (by omega))]
  show Result.ok (Value.tuple #[(f (.int .i64 (k : Int))).getD (.int .i64 0), .bool (f (.int .i64 (k : Int))).isSome]) w = _
  rw [hf k hk]
  cases s k <;> rfl
theorem IntMap.upd {f : Value → Option Value} {s : Nat → Option Nat} (hf : ∀ k : Nat, k ≤ 1000 → f (.int .i64 (k : Int)) = (s k).map fun x => .int .i64 (x : Int)) (k v : Nat) (j : Nat) (hj : j ≤ 1000) : updV? f (.int .i64 (k : Int)) (.int .i64 (v : Int)) (.int .i64 (j : Int)) = (setO s k (some v) j).map fun x => .int .i64 (x : Int) := by
  unfold updV? setO
  by_cases e : j = k
  · subst e; rw [if_pos rfl, if_pos rfl]; rfl
  · rw [if_neg (int_ne e), if_neg e]; exact hf j hj
theorem IntMap.entry {w : World} {b : Nat} {s : Nat → Option Nat} (h : IntMap w b s) (k : Nat) (hk : k ≤ 1000) :
    ∃ (v0 : Value) (st : Nat) (w1 : World), (Instr.mapEntry 86 (.map (some b)) (.int .i64 (k : Int))).run Tryd.prog w = .ok (.tuple #[v0, goInt st]) w1 ∧ Only [b] w w1 ∧ b < w1.heap.size ∧
      ∀ (w2 : World) (v : Nat), w2.heap[b]? = w1.heap[b]? → ∃ w3, (Instr.entryStore 86 (.map (some b)) (goInt st) (.int .i64 (v : Int))).run Tryd.prog w2 = .ok () w3 ∧ IntMap w3 b (setO s k (some v)) ∧ Only [b] w2 w3 := by
  obtain ⟨f, h, hf⟩ := h
  obtain ⟨v0, st, w1, h1, h2, h3, h4⟩ := h.entry key_int Tryd.underlying86 zero_int (keyOf_int k (by omega) (by omega))
  refine ⟨v0, st, w1, h1, h2, h3, fun w2 v hw2 => ?_⟩
  obtain ⟨w3, k1, k2, k3⟩ := h4 w2 (.int .i64 (v : Int)) hw2
  exact ⟨w3, k1, ⟨_, k2, IntMap.upd hf k v⟩, k3⟩
theorem IntMap.drop {w : World} {b : Nat} {s : Nat → Option Nat} (h : IntMap w b s) (k : Nat) (hk : k ≤ 1000) (ty : TypeId) :
    ∃ w', (Builtin.delete_ #[86, 3] ty #[.map (some b), .int .i64 (k : Int)]).run Tryd.prog w = .ok (.tuple #[]) w' ∧ IntMap w' b (setO s k none) ∧ Only [b] w w' := by
  obtain ⟨f, h, hf⟩ := h
  obtain ⟨w', h1, h2, h3⟩ := h.drop key_int Tryd.underlying86 ty (keyOf_int k (by omega) (by omega))
  refine ⟨w', h1, ⟨_, h2, fun j hj => ?_⟩, h3⟩
  unfold delV? setO
  by_cases e : j = k
  · subst e; rw [if_pos rfl, if_pos rfl]; rfl
  · rw [if_neg (int_ne e), if_neg e]; exact hf j hj

/-- How a gang stands, as deeds tell it. -/
structure TSt where
  has : Nat → Option Nat
  had : Nat → Bool
  fin : Nat → Bool
  slp : Nat → Bool

structure TrAt (w : World) (T a1 a2 a3 a4 : Nat) (pv : Value) (s : TSt) : Prop where
  cells : Cells w T [pv, .map (some a1), .map (some a2), .map (some a3), .map (some a4)]
  has : IntMap w a1 s.has
  had : BoolMap w a2 s.had
  fin : BoolMap w a3 s.fin
  slp : BoolMap w a4 s.slp
  nd : [T, a1, a2, a3, a4].Nodup

theorem TrAt.same {w w' : World} {T a1 a2 a3 a4 : Nat} {pv : Value} {s : TSt} (h : TrAt w T a1 a2 a3 a4 pv s) (ho : Only [] w w') : TrAt w' T a1 a2 a3 a4 pv s :=
  ⟨h.cells.only ho (by simp), h.has.only ho (by simp), h.had.only ho (by simp), h.fin.only ho (by simp), h.slp.only ho (by simp), h.nd⟩

end Go.Proofs.YtoofalchkedciaaDoor
