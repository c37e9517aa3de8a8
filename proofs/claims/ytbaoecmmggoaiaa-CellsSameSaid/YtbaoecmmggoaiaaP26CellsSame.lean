/-
  Contract of cells.All.
  Ranges over functions: what a round keeps; the imports of such walks. No program is named here.
-/
import Derived.Test.YtbaoecmmggoaiaaP25CellsSame
import Derived.Test.YtbaoecmmggoaiaaP1CellsSame
import Derived.RangeFuncNested
import Derived.RangeFuncBound
import Derived.RangeFuncCalls
import Derived.RangeFuncLeaves
import Derived.RangeFuncBox
import Derived.Shelf.Abstract
import Derived.Shelf.RegionOpen
import Derived.OwnWalkIn
import Derived.TacticsInMore
import Derived.LoopNIn
import Derived.LoopIn
namespace Go.Proofs.Ytbaoecmmggoaiaa
open Go.RowKit Go.Deep

set_option maxRecDepth 100000 in
set_option maxHeartbeats 2000000 in
theorem cells_All (v u : Value) (p : PlanL) (ops : List Opn) (w : World) (h : InPlan w v p) (hu : OpsAt w u ops) (hlen : ops.length ≤ 9223372036854775807) :
    Calls Try.prog 7 #[v, u] w fun e w' => ∃ v', e = .returned (.tuple #[v', errV (allFault p ops)]) ∧ Only [] w w' ∧
      ((allFault p ops ≠ 0 ∧ v' = .slice none 0 0) ∨ (allFault p ops = 0 ∧ ∃ A, v' = .slice (some ⟨A, 0, none⟩) p.length p.length ∧ w.heap.size ≤ A ∧ RowCl w' A p.length (foldA p ops (orderOf p)))) := by
  have hr := cells_ready v u p ops w h hu hlen
  have hnil : ∀ E, E ≠ 0 → errV E = .iface 62 (.int .i64 E) := fun E hE => errV_ne hE
  obtain ⟨E, hE⟩ : ∃ E, allFault p ops = E := ⟨_, rfl⟩
  rw [hE] at hr ⊢
  by_cases h0 : E = 0
  · obtain ⟨hok, hl, hops⟩ := allFault_zero (hE.trans h0)
    have HP := Lib.hid h
    have HU := Lib.hid hu
    have HO := Lib.hid hok
    have hol : (orderOf p).length = p.length := topo_len hok p.length (Nat.le_refl _)
    have h30 := hok.len
    have HAL := Lib.hid (fun w1 (ho : Only [] w w1) ov (hr : Reads w1 ov (natL (orderOf p))) => cells_along v u ov p ops (orderOf p) w1 (h.same ho) hok (hu.same ho) hops hl hr (fun x hx => (orderOf_mem hok x).1 hx) (by omega))
    have HORD := Lib.hid (fun w1 (ho : Only [] w w1) => plan_OrderOf v p w1 (h.same ho) hok)
    have HAH := Lib.hid (orderOf_ok hok).2.1
    obtain ⟨n, hn⟩ : ∃ n, p.length = n := ⟨_, rfl⟩
    obtain ⟨f, hf⟩ : ∃ f, foldA p ops (orderOf p) = f := ⟨_, rfl⟩
    rw [hn, hf] at HAL ⊢
    subst h0
    rw [errV_zero] at hr ⊢
    clear h hu hE hnil hok hl hops hlen hol h30 hn hf
    go_enter Try.func7, Try.ntmps7
    go_wp2_with fail
    refine hr.mono ?_
    rintro e w1 ⟨rfl, ho1⟩
    clear hr
    go_wp2_with fail
    refine (HORD.out w1 ho1).mono ?_
    rintro e w2 ⟨ov, rfl, hI, ho2⟩
    have ho2 := ho1.trans ho2 (by simp)
    have hal := HAL.out w2 ho2 ov hI.reads
    go_wp2_with fail
    refine hal.mono ?_
    rintro e w3 ⟨v3, b, rfl, ho3, h3⟩
    have ho3 := ho2.trans ho3 (by simp)
    rcases h3 with ⟨_, _, A, rfl, hA, hR⟩ | ⟨_, hno, _⟩
    · have HR := Lib.hid hR
      have hs := ho2.size
      clear hal hR
      go_wp2
      go_ret2
      exact ⟨_, rfl, ho3, .inr ⟨trivial, A, rfl, by omega, HR.out⟩⟩
    · exact absurd HAH.out hno
  · rw [errV_ne h0] at hr
    have H0 := Lib.hid h0
    obtain ⟨_, _, rfl, _⟩ := h.task
    obtain ⟨_, _, rfl, _⟩ := hu.opt
    clear h hu hE h0 hlen
    rw [hnil E H0.out]
    clear hnil
    go_enter Try.func7, Try.ntmps7
    go_wp2_with fail
    refine hr.mono ?_
    rintro e w1 ⟨rfl, ho1⟩
    clear hr
    go_wp2
    go_ret2
    exact ⟨_, rfl, ho1, .inl ⟨H0.out, rfl⟩⟩

end Go.Proofs.Ytbaoecmmggoaiaa

namespace Go.Proofs.Ytbaoecmmggoaiaa
open Go.RowKit

/-- Of the blocks below n0 at most those of S have changed. -/
def KeepW (n0 : Nat) (S : List Nat) (W W' : World) : Prop := ∀ k, k < n0 → k ∉ S → W'.heap[k]? = W.heap[k]?

theorem KeepW.refl (n0 : Nat) (S : List Nat) (W : World) : KeepW n0 S W W := fun _ _ _ => rfl
theorem keepW_t {n0 : Nat} {S : List Nat} {A B C : World} (h : KeepW n0 S A B) (k : KeepW n0 S B C) : KeepW n0 S A C := fun i hi hs => (k i hi hs).trans (h i hi hs)
theorem keepW_b {n0 : Nat} {S : List Nat} {w : World} (hn : n0 ≤ w.heap.size) (W : World) (l : Nat) (o o' : Obj) (hl : w.heap.size ≤ l) (_ : W.heap[l]? = some o) (_ : o.isCells = false) (_ : o.isWalk = false) : KeepW n0 S W (W.putObj l o') :=
  fun k hk _ => World.putObj_heap_other (by omega)
theorem KeepW.cell {n0 : Nat} {S : List Nat} {W W' : World} (h : KeepW n0 S W W') {p : Addr} (hp : p.block < n0) (hn : p.block ∉ S) : W'.cell? p = W.cell? p := World.cell?_of_block (w := W) (h p.block hp hn)
theorem Only.keepW {n0 : Nat} {S T : List Nat} {W W' : World} (h : Only T W W') (hn : n0 ≤ W.heap.size) (hT : ∀ x ∈ T, x < n0 → x ∈ S) : KeepW n0 S W W' := fun k hk hs => h.block k (by omega) (fun hx => hs (hT k hx hk))

/-- What is below B at most: the rounds' own things stay. -/
theorem Only.keepsFrom {B : Nat} {T : List Nat} {W W' : World} (h : Only T W W') (hT : ∀ x ∈ T, x < B ∨ ∃ o : Obj, W.heap[x]? = some o ∧ o.isCells = true) : KeepsFrom B W W' :=
  ⟨h.size, fun k o hk ho hc => by
    have hl := (Array.getElem?_eq_some_iff.1 ho).1
    rw [h.block k hl (fun hx => by
      rcases hT k hx with h1 | ⟨o', h1, h2⟩
      · omega
      · rw [ho] at h1; injection h1 with h1; subst h1; rw [hc] at h2; cases h2)]
    exact ho⟩

/-- A relation on what was there when the call began abides the rounds' own things. -/
theorem ownFrom_only {β : Type} {w : World} {B : Nat} {S : List Nat} (hB : w.heap.size ≤ B) : OwnFrom B (fun (_ : β) W => Only S w W) :=
  fun _ W W' row h hg hr => h.grown hg (fun k hk hlt => by have := (hr k hk).1; omega)

theorem Cells.abides {w w' : World} {b : Nat} {vs : List Value} {row : Option Nat} (h : Cells w b vs) (hg : w.grownBy w' row) (hr : ∀ r, row = some r → ∃ o : Obj, w.heap[r]? = some o ∧ o.isCells = false) : Cells w' b vs := fun i v hv =>
  ⟨cell_kept (h i v hv).1 hg hr, (frozen_kept (h i v hv).1 hg hr).trans (h i v hv).2⟩

/-- So many things, in order. -/
def upto {α : Type} (f : Nat → α) (k : Nat) : List α := (List.range k).map f
theorem upto_succ {α : Type} (f : Nat → α) (k : Nat) : upto f (k + 1) = upto f k ++ [f k] := by simp [upto, List.range_succ]
theorem upto_length {α : Type} (f : Nat → α) (k : Nat) : (upto f k).length = k := by simp [upto]

/-- The block of deferred calls is shut at the return. -/
theorem Only.shut {w W : World} {D : Nat} {o o' : Obj} (h : Only [] w W) (hD : w.heap.size ≤ D) (_ : W.heap[D]? = some o) : Only [] w (W.putObj D o') :=
  h.grown (grownBy_putObj' W D o') (fun k hk hlt => by cases hk; omega)

end Go.Proofs.Ytbaoecmmggoaiaa
