/-
  Frames: which blocks of memory may have changed. No program is named here.
-/
import Derived.Below
import Derived.Carry
import Derived.WalkKit
import Derived.WalkLawsBesides
import Derived.WalkSpells
import Derived.BigQuiet
import Derived.Deep.QuietTactic
import Derived.Lib.Hide
import Derived.Deep.RegionWith
import Derived.Deep.RegionLaw
import Derived.Deep.AppendLies
import Derived.StillTailTactics
import Derived.Deep.RegionHeld3
import Derived.Deep.LoopGhost
import Derived.Deep.DeepCutAuto
import Derived.Deep.DeepFit
import Derived.Deep.DeepMust
import Derived.Handy
import Derived.WalkSmall
import Derived.Laws.AppendOwnNone
namespace Go.Proofs.YtoofalchkedciaaDoor
open Go.RowKit

/-- Of what was there, at most the blocks of S have changed; the streams are as they were. -/
structure Only (S : List Nat) (w w' : World) : Prop where
  os : w'.os = w.os
  tape : w'.tape = w.tape
  output : w'.output = w.output
  size : w.heap.size ≤ w'.heap.size
  block : ∀ k, k < w.heap.size → k ∉ S → w'.heap[k]? = w.heap[k]?

theorem Only.refl (S : List Nat) (w : World) : Only S w w := ⟨rfl, rfl, rfl, Nat.le_refl _, fun _ _ _ => rfl⟩

theorem Only.trans {S T : List Nat} {a b c : World} (h : Only S a b) (k : Only T b c) (hT : ∀ x ∈ T, x < a.heap.size → x ∈ S) : Only S a c :=
  ⟨k.os.trans h.os, k.tape.trans h.tape, k.output.trans h.output, Nat.le_trans h.size k.size, fun i hi hs =>
    (k.block i (Nat.lt_of_lt_of_le hi h.size) (fun hx => hs (hT i hx hi))).trans (h.block i hi hs)⟩

theorem Only.mono {S T : List Nat} {a b : World} (h : Only S a b) (hs : ∀ x ∈ S, x < a.heap.size → x ∈ T) : Only T a b :=
  ⟨h.os, h.tape, h.output, h.size, fun k hk hn => h.block k hk (fun hx => hn (hs k hx hk))⟩

theorem Only.drew {S : List Nat} {a w : World} (h : Only S a w) : Only S a w.drew := ⟨h.os, h.tape, h.output, h.size, h.block⟩
theorem Only.drewN {S : List Nat} {a w : World} (h : Only S a w) (n : Nat) : Only S a (w.drewN n) := ⟨h.os, h.tape, h.output, h.size, h.block⟩

theorem Only.alloc {S : List Nat} {a w : World} (h : Only S a w) (o : Obj) : Only S a (w.alloc o) :=
  h.trans (T := []) ⟨rfl, rfl, rfl, by simp, fun k hk _ => Below.heap_alloc _ _ _ (by omega)⟩ (by simp)

theorem Only.setCell {S : List Nat} {a w : World} (h : Only S a w) {p : Addr} (hp : p.block < a.heap.size → p.block ∈ S) (u : Value) : Only S a (w.setCell p u) :=
  h.trans (T := [p.block]) ⟨rfl, rfl, rfl, by simp [World.setCell], fun k hk hn => Below.heap_setCell _ _ _ _ (by simpa using hn)⟩ (by simpa using hp)

theorem Only.grown {S : List Nat} {a w w' : World} {row : Option Nat} (h : Only S a w) (hg : w.grownBy w' row) (hr : ∀ k, row = some k → k < a.heap.size → k ∈ S) : Only S a w' := by
  refine h.trans (T := row.toList) ⟨hg.os, hg.tape, hg.output, hg.size, fun k hk hn => hg.block k (by omega) (fun e => hn (by simp [← e]))⟩ ?_
  intro x hx hlt
  exact hr x (by simpa using hx) hlt

theorem Only.fresh {S : List Nat} {B : Nat} {a b c : World} (h : Only S a b) (k : Only [B] b c) (hB : a.heap.size ≤ B) : Only S a c :=
  h.trans k fun x hx hlt => by simp at hx; omega

theorem Only.below {S : List Nat} {B : Nat} {a w : World} (h : Only S a w) (hB : B ≤ a.heap.size) (hS : ∀ x ∈ S, B ≤ x) : Below B a w :=
  ⟨h.os, h.tape, h.output, h.size, fun k hk => h.block k (by omega) (fun hx => by have := hS k hx; omega)⟩

theorem Only.ofBelow {w w' : World} (h : Below w.heap.size w w') : Only [] w w' := ⟨h.os, h.tape, h.output, h.size, fun k hk _ => h.block k hk⟩

theorem Only.cell {S : List Nat} {w w' : World} (h : Only S w w') {p : Addr} (hp : p.block < w.heap.size) (hn : p.block ∉ S) : w'.cell? p = w.cell? p :=
  World.cell?_of_block (w := w) (h.block p.block hp hn)

theorem Only.frozen {S : List Nat} {w w' : World} (h : Only S w w') {p : Addr} (hp : p.block < w.heap.size) (hn : p.block ∉ S) : w'.frozen? p = w.frozen? p :=
  World.frozen?_of_block (w := w) (h.block p.block hp hn)

theorem heap_alloc_new (w : World) (o : Obj) : (w.alloc o).heap[w.heap.size]? = some o := by
  show (w.heap.push o)[w.heap.size]? = some o
  simp

/-- The i-th number of a list; 0, if there is none. -/
def nth (l : List Int) (i : Nat) : Int := l[i]?.getD 0

/-- A cell that reads as something lies in a block that is there. -/
theorem cell_lt {w : World} {p : Addr} {v : Value} (h : w.cell? p = some v) : p.block < w.heap.size := by
  unfold World.cell? at h
  split at h
  · rename_i c _ _ hb
    by_cases hl : p.block < w.heap.size
    · exact hl
    · rw [Array.getElem?_eq_none (by omega)] at hb; cases hb
  · cases h

/-- The blocks of a thing behind a call: those that it had, or new ones. -/
def Kin (w : World) (fp fp' : List Nat) : Prop := ∀ x ∈ fp', x ∈ fp ∨ w.heap.size ≤ x

theorem Kin.refl (w : World) (fp : List Nat) : Kin w fp fp := fun _ h => .inl h
theorem Kin.trans {w w' : World} {a b c : List Nat} (h : Kin w a b) (k : Kin w' b c) (hs : w.heap.size ≤ w'.heap.size) : Kin w a c := fun x hx => by
  rcases k x hx with h1 | h1
  · exact h x h1
  · exact .inr (by omega)

/-- A block of plain cells, all of them known, none frozen. -/
def Cells (w : World) (b : Nat) (vs : List Value) : Prop := ∀ i v, vs[i]? = some v → w.cell? ⟨b, i, none⟩ = some v ∧ w.frozen? ⟨b, i, none⟩ = false

theorem Cells.cell {w : World} {b : Nat} {vs : List Value} (h : Cells w b vs) (i : Nat) (v : Value) (hv : vs[i]? = some v) : w.cell? ⟨b, i, none⟩ = some v := (h i v hv).1
theorem Cells.free {w : World} {b : Nat} {vs : List Value} (h : Cells w b vs) (i : Nat) (v : Value) (hv : vs[i]? = some v) : w.frozen? ⟨b, i, none⟩ = false := (h i v hv).2
theorem Cells.lt {w : World} {b : Nat} {v : Value} {vs : List Value} (h : Cells w b (v :: vs)) : b < w.heap.size := cell_lt (h.cell 0 v rfl)

theorem Cells.drewN {w : World} {b : Nat} {vs : List Value} (h : Cells w b vs) (n : Nat) : Cells (w.drewN n) b vs := h

theorem Cells.only {w w' : World} {b : Nat} {vs : List Value} {S : List Nat} (h : Cells w b vs) (ho : Only S w w') (hb : b ∉ S) : Cells w' b vs := by
  intro i v hv
  have hc := h.cell i v hv
  have hlt := cell_lt hc
  exact ⟨(ho.cell (p := ⟨b, i, none⟩) hlt hb).trans hc, (ho.frozen (p := ⟨b, i, none⟩) hlt hb).trans (h.free i v hv)⟩

theorem Cells.set {w : World} {b : Nat} {vs : List Value} (h : Cells w b vs) (j : Nat) (x : Value) : Cells (w.setCell ⟨b, j, none⟩ x) b (vs.set j x) := by
  intro i v hv
  by_cases e : i = j
  · subst e
    by_cases hi : i < vs.length
    · rw [List.getElem?_set_self hi] at hv
      injection hv with hv
      subst hv
      have hx : vs[i]? = some vs[i] := List.getElem?_eq_getElem hi
      exact ⟨World.cell?_setCell_same _ _ _ (h.cell i _ hx), by rw [World.frozen?_setCell]; exact h.free i _ hx⟩
    · rw [List.getElem?_eq_none (by simp; omega)] at hv
      cases hv
  · rw [List.getElem?_set_ne (Ne.symm e)] at hv
    exact ⟨(World.cell?_setCell_other _ _ _ _ (fun he => e (congrArg Addr.off he).symm)).trans (h.cell i v hv), by rw [World.frozen?_setCell]; exact h.free i v hv⟩

theorem Cells.new (w : World) (cs : Array Value) (t : TypeId) : Cells (w.alloc (.cells cs t)) w.heap.size cs.toList := by
  intro i v hv
  exact ⟨by rw [World.cell?_alloc_new]; simpa using hv, World.frozen?_alloc_at _ _ _ _ rfl⟩

theorem Cells.draws {w : World} {b : Nat} {vs : List Value} (h : Cells w b vs) (n : Nat) : Cells (w.drewN n) b vs := h

end Go.Proofs.YtoofalchkedciaaDoor
