/-
  Ranges over functions: what a round keeps; the imports of such walks. No program is named here.
  A range over a function whose iterator keeps a state of its own in cells: the loop's law. After the library's law for iterators without one. No program is named here.
-/
import Derived.Test.YtoofalchkedciaaDoorP1TraceBack
import Derived.RangeFuncNested
import Derived.RangeFuncBound
import Derived.RangeFuncCalls
import Derived.RangeFuncLeaves
import Derived.RangeFuncBox
import Derived.Shelf.Abstract
import Derived.Shelf.RegionOpen
import Derived.OwnWalkIn
import Derived.TacticsInMore
import Derived.LoopNIn
import Derived.LoopIn
namespace Go.Proofs.YtoofalchkedciaaDoor
open Go.RowKit

/-- Of the blocks below n0 at most those of S have changed. -/
def KeepW (n0 : Nat) (S : List Nat) (W W' : World) : Prop := ∀ k, k < n0 → k ∉ S → W'.heap[k]? = W.heap[k]?

theorem KeepW.refl (n0 : Nat) (S : List Nat) (W : World) : KeepW n0 S W W := fun _ _ _ => rfl
theorem keepW_t {n0 : Nat} {S : List Nat} {A B C : World} (h : KeepW n0 S A B) (k : KeepW n0 S B C) : KeepW n0 S A C := fun i hi hs => (k i hi hs).trans (h i hi hs)
theorem keepW_b {n0 : Nat} {S : List Nat} {w : World} (hn : n0 ≤ w.heap.size) (W : World) (l : Nat) (o o' : Obj) (hl : w.heap.size ≤ l) (_ : W.heap[l]? = some o) (_ : o.isCells = false) (_ : o.isWalk = false) : KeepW n0 S W (W.putObj l o') :=
  fun k hk _ => World.putObj_heap_other (by omega)
theorem KeepW.cell {n0 : Nat} {S : List Nat} {W W' : World} (h : KeepW n0 S W W') {p : Addr} (hp : p.block < n0) (hn : p.block ∉ S) : W'.cell? p = W.cell? p := World.cell?_of_block (w := W) (h p.block hp hn)
theorem Only.keepW {n0 : Nat} {S T : List Nat} {W W' : World} (h : Only T W W') (hn : n0 ≤ W.heap.size) (hT : ∀ x ∈ T, x < n0 → x ∈ S) : KeepW n0 S W W' := fun k hk hs => h.block k (by omega) (fun hx => hs (hT k hx hk))

/-- What is below B at most: the rounds' own things stay. -/
theorem Only.keepsFrom {B : Nat} {T : List Nat} {W W' : World} (h : Only T W W') (hT : ∀ x ∈ T, x < B ∨ ∃ o : Obj, W.heap[x]? = some o ∧ o.isCells = true) : KeepsFrom B W W' :=
  ⟨h.size, fun k o hk ho hc => by
    have hl := (Array.getElem?_eq_some_iff.1 ho).1
    rw [h.block k hl (fun hx => by
      rcases hT k hx with h1 | ⟨o', h1, h2⟩
      · omega
      · rw [ho] at h1; injection h1 with h1; subst h1; rw [hc] at h2; cases h2)]
    exact ho⟩

/-- A relation on what was there when the call began abides the rounds' own things. -/
theorem ownFrom_only {β : Type} {w : World} {B : Nat} {S : List Nat} (hB : w.heap.size ≤ B) : OwnFrom B (fun (_ : β) W => Only S w W) :=
  fun _ W W' row h hg hr => h.grown hg (fun k hk hlt => by have := (hr k hk).1; omega)

theorem Cells.abides {w w' : World} {b : Nat} {vs : List Value} {row : Option Nat} (h : Cells w b vs) (hg : w.grownBy w' row) (hr : ∀ r, row = some r → ∃ o : Obj, w.heap[r]? = some o ∧ o.isCells = false) : Cells w' b vs := fun i v hv =>
  ⟨cell_kept (h i v hv).1 hg hr, (frozen_kept (h i v hv).1 hg hr).trans (h i v hv).2⟩

/-- So many things, in order. -/
def upto {α : Type} (f : Nat → α) (k : Nat) : List α := (List.range k).map f
theorem upto_succ {α : Type} (f : Nat → α) (k : Nat) : upto f (k + 1) = upto f k ++ [f k] := by simp [upto, List.range_succ]
theorem upto_length {α : Type} (f : Nat → α) (k : Nat) : (upto f k).length = k := by simp [upto]

/-- The block of deferred calls is shut at the return. -/
theorem Only.shut {w W : World} {D : Nat} {o o' : Obj} (h : Only [] w W) (hD : w.heap.size ≤ D) (_ : W.heap[D]? = some o) : Only [] w (W.putObj D o') :=
  h.grown (grownBy_putObj' W D o') (fun k hk hlt => by cases hk; omega)

end Go.Proofs.YtoofalchkedciaaDoor

namespace Go.Proofs.YtoofalchkedciaaDoor
open Go.RowKit

variable {F : Fence} {n : Nat} {P : Program}

/-- An iterator's contract: between two rounds it takes steps of its own; they are told, and what the rounds say must stand them. -/
def StopsQ {α : Type} (F : Fence) (n : Nat) (P : Program) (g : Nat) (lb : Array Value) (encs : α → Array Value) (Kp St : World → World → Prop) (S Sp : List α → Prop) (N : Nat) (w : World) : Prop :=
  ∀ (l : Nat) (J Jx : List α → World → Prop) (W : World), Below w.heap.size w W → (∀ s A B, J s A → St A B → J s B) → (∀ s A B, Jx s A → St A B → Jx s B) →
    (∀ pre x W1, J pre W1 → pre.length < N → YieldAt F (n - 1) P l (encs x) W1 fun e W' =>
      (e = .returned (.bool true) ∧ J (pre ++ [x]) W' ∧ Kp W1 W') ∨ (e = .returned (.bool false) ∧ Jx (pre ++ [x]) W')) →
    J [] W →
    CallsIn F n P g (#[.func (.yield l) #[] #[]] ++ lb) W fun e W' => (∃ v, e = .returned v) ∧ ((∃ xs, S xs ∧ J xs W') ∨ (∃ pre, Sp pre ∧ Jx pre W'))

theorem wpIn_rangeFunc_ownQ {α : Type} {g : Operand} {ps : Array Tmp} {assign body : Code} {Q : Exit → Act → World → Prop} {a : Act} {w : World}
    (hro : F.round = none) (h1 : 1 ≤ n) {gf : Nat} {lb : Array Value} (hg : a.eval g = .func (.func gf) #[] lb) (hFg : F.fn gf) (eg : ∀ args w, (callFunc gf args).run P w = .ok (.enter gf args) w)
    {encs : α → Array Value} {Kp St : World → World → Prop} {S Sp : List α → Prop} {N : Nat} {w0 : World} (hseq : StopsQ F (n - 1) P gf lb encs Kp St S Sp N w0)
    (hSt : ∀ A B k o, St A B → w.heap.size ≤ k → A.heap[k]? = some o → o.isCells = false → B.heap[k]? = some o)
    (hKt : ∀ {A B C : World}, Kp A B → Kp B C → Kp A C) (hKb : ∀ (W : World) (l : Nat) (o o' : Obj), w.heap.size ≤ l → W.heap[l]? = some o → o.isCells = false → o.isWalk = false → Kp W (W.putObj l o')) (hb0 : Below w0.heap.size w0 w) (hps : ∀ x, (encs x).size = ps.size)
    (I : List α → World → Prop) (Ix : Code → List α → World → Prop) (hI : OwnFrom w.heap.size I) (hIx : ∀ c, OwnFrom w.heap.size (Ix c)) (hIS : ∀ s A B, I s A → St A B → I s B) (hIxS : ∀ c s A B, Ix c s A → St A B → Ix c s B) (h0 : I [] w) (a₁ : α → Act)
    (hassign : ∀ (l : Nat) (x : α) (W : World) (K : Act → World → Prop), K (a₁ x) W →
      assign.wpIn (F.inRound l) (n - 1 - 1) P (Exit.then K (fun _ _ _ => False)) { tmps := (ps.zip (encs x)).foldl (fun t (p, v) => t.setIfInBounds p v) a.tmps, defers := [] } W)
    (hbody : ∀ (l : Nat) (pre : List α) (x : α) (W : World), I pre W → pre.length < N → body.wpIn (F.inRound l) (n - 1 - 1) P (ownPostG w.heap.size Kp I Ix (pre ++ [x]) W) (a₁ x) W)
    (hdone : ∀ (D : Nat) (xs : List α) (W : World), w.heap.size ≤ D → S xs → I xs W → W.heap[D]? = some (.deferred (some [])) → Q .normal { a with defers := { target := .collected D, args := #[] } :: a.defers } W)
    (hstop : ∀ (D : Nat) (c : Code) (pre : List α) (W : World), w.heap.size ≤ D → Sp pre → Ix c pre W → W.heap[D]? = some (.deferred (some [])) → c.wpIn F n P Q { a with defers := { target := .collected D, args := #[] } :: a.defers } W) :
    (Code.rangeFunc g ps assign body).wpIn F n P Q a w := by
  refine wpIn_rangeFunc fun fn hfn => ?_
  rw [hro]
  obtain ⟨rec, hrec⟩ : ∃ rec : LoopState → Option Code → Loop, rec = fun st pe => { state := st, pending := pe, fn, tmps := a.tmps, params := ps, assign, body, defers := w.heap.size } := ⟨_, rfl⟩
  -- the two blocks of the loop's own
  obtain ⟨V, hV⟩ : ∃ V, (w.alloc (.deferred (some []))).alloc (.loop (rec .ready none)) = V := ⟨_, rfl⟩
  have lRec : V.heap[w.heap.size + 1]? = some (.loop (rec .ready none)) := by
    have := World.alloc_heap_new (w.alloc (.deferred (some []))) (.loop (rec .ready none))
    rw [hV, World.size_alloc] at this
    exact this
  have lDef : V.heap[w.heap.size]? = some (.deferred (some [])) := by
    rw [← hV]
    exact (Below.heap_alloc _ _ _ (by simp)).trans (World.alloc_heap_new w _)
  have iV : I [] V := by
    rw [← hV]
    exact hI.alloc _ (hI.alloc _ h0)
  have bV : Below w0.heap.size w0 V := by
    rw [← hV]
    exact hb0.trans ((((Below.refl _ w).alloc (Nat.le_refl _) _).alloc (by simp) _).mono hb0.size)
  refine ⟨w.heap.size + 1, [{ target := .collected w.heap.size, args := #[] }], V, { target := .fn (.func gf) lb, args := #[.func (.yield (w.heap.size + 1)) #[] #[]] }, V, gf,
    #[.func (.yield (w.heap.size + 1)) #[] #[]] ++ lb, V, ?enter, ?resolve, ?leads, ?invoke, fun _ => h1, ?run⟩
  case enter => rw [← hV, hrec]; exact run_enterLoop_outer _ _ _ _ _
  case resolve =>
    simp only [resolve, hg]
    simp [go_sem]
  case leads =>
    intro f' hf'
    simp [Target.leads] at hf'
    subst hf'
    exact hFg
  case invoke => simp [invoke, go_sem, eg]
  case run =>
    refine (hseq (w.heap.size + 1)
      (fun pre W => I pre W ∧ W.heap[w.heap.size + 1]? = some (.loop (rec .ready none)) ∧ W.heap[w.heap.size]? = some (.deferred (some [])))
      (fun pre W => ∃ c, Ix c pre W ∧ W.heap[w.heap.size + 1]? = some (.loop (rec .done (some c))) ∧ W.heap[w.heap.size]? = some (.deferred (some [])))
      V bV
      (fun s A B hs hst => ⟨hIS s A B hs.1 hst, hSt A B _ _ hst (by omega) hs.2.1 rfl, hSt A B _ _ hst (Nat.le_refl _) hs.2.2 rfl⟩)
      (fun s A B hs hst => by
        obtain ⟨c, hc, hl, hk⟩ := hs
        exact ⟨c, hIxS c s A B hc hst, hSt A B _ _ hst (by omega) hl rfl, hSt A B _ _ hst (Nat.le_refl _) hk rfl⟩)
      ?round ⟨iV, lRec, lDef⟩).mono ?after
    case round =>
      rintro pre x W ⟨hi, hl, hk⟩ hlen
      have hlt : w.heap.size + 1 < W.heap.size := (Array.getElem?_eq_some_iff.1 hl).1
      have hy := run_yield (P := P) (args := encs x) hl (by rw [hrec]; exact hps x)
      rw [hrec] at hy
      refine ⟨fn, _, assign, body, hy, roundIn_of_wpIn hfn (hassign _ x W _ ⟨_, run_beginRound hl (by rw [hrec]), ?_⟩)⟩
      obtain ⟨U, hU⟩ : ∃ U, W.putObj (w.heap.size + 1) (.loop { rec .ready none with state := .busy }) = U := ⟨_, rfl⟩
      have uRec : U.heap[w.heap.size + 1]? = some (.loop { rec .ready none with state := .busy }) := by rw [← hU]; exact World.putObj_heap_same hlt
      have uDef : U.heap[w.heap.size]? = some (.deferred (some [])) := by rw [← hU]; exact (World.putObj_heap_other (by omega)).trans hk
      have uKp : Kp W U := by rw [← hU]; exact hKb _ _ _ _ (by omega) hl rfl rfl
      have uI : I pre U := by rw [← hU]; exact hI.putObj _ hi (by omega) hl rfl
      rw [hU]
      have fin : ∀ (jump : Option Code) (Z : World), KeepsFrom w.heap.size U Z →
          (Instr.endRound (w.heap.size + 1) jump).run P Z = .ok (.bool jump.isNone) (Z.putObj (w.heap.size + 1) (.loop (rec (if jump.isNone then .ready else .done) jump))) ∧
          Z.heap[w.heap.size + 1]? = some (.loop { rec .ready none with state := .busy }) ∧
          (Z.putObj (w.heap.size + 1) (.loop (rec (if jump.isNone then .ready else .done) jump))).heap[w.heap.size + 1]? = some (.loop (rec (if jump.isNone then .ready else .done) jump)) ∧
          (Z.putObj (w.heap.size + 1) (.loop (rec (if jump.isNone then .ready else .done) jump))).heap[w.heap.size]? = some (.deferred (some [])) := fun jump Z hz => by
        have zl := hz.same _ _ (by omega) uRec rfl
        have := run_endRound (P := P) jump zl
        rw [hrec] at this ⊢
        exact ⟨this, by rw [hrec] at zl; exact zl, World.putObj_heap_same (Array.getElem?_eq_some_iff.1 zl).1, (World.putObj_heap_other (by omega)).trans (hz.same _ _ (Nat.le_refl _) uDef rfl)⟩
      have leave : ∀ (c : Code) (Z : World), KeepsFrom w.heap.size U Z → Ix c (pre ++ [x]) Z → ∃ (u : World), (Instr.endRound (w.heap.size + 1) (some c)).run P Z = .ok (.bool false) u ∧
          Ix c (pre ++ [x]) u ∧ u.heap[w.heap.size + 1]? = some (.loop (rec .done (some c))) ∧ u.heap[w.heap.size]? = some (.deferred (some [])) := fun c Z hz hi => by
        obtain ⟨q1, q2, q3, q4⟩ := fin (some c) Z hz
        exact ⟨_, q1, (hIx _).putObj _ hi (by omega) q2 rfl, q3, q4⟩
      refine wpIn_mono (hbody _ pre x _ uI hlen) fun e b Z hp => ?_
      cases e with
      | normal =>
        obtain ⟨hz, hkp, hi3⟩ := hp
        obtain ⟨q1, q2, q3, q4⟩ := fin none Z hz
        exact ⟨_, _, q1, .inl ⟨rfl, ⟨hI.putObj _ hi3 (by omega) q2 rfl, q3, q4⟩, hKt (hKt uKp hkp) (hKb _ _ _ _ (by omega) q2 rfl rfl)⟩⟩
      | ret => obtain ⟨u, q1, q2, q3, q4⟩ := leave _ Z hp.1 hp.2; exact ⟨_, _, q1, .inr ⟨rfl, _, q2, q3, q4⟩⟩
      | exit id => obtain ⟨u, q1, q2, q3, q4⟩ := leave _ Z hp.1 hp.2; exact ⟨_, _, q1, .inr ⟨rfl, _, q2, q3, q4⟩⟩
      | goto t => obtain ⟨u, q1, q2, q3, q4⟩ := leave _ Z hp.1 hp.2; exact ⟨_, _, q1, .inr ⟨rfl, _, q2, q3, q4⟩⟩
      | panic ch => exact hp.elim
      | outgrown => exact hp.elim
    case after =>
      rintro e W2 ⟨⟨v, rfl⟩, (⟨xs, hS, hi, hl, hk⟩ | ⟨pre, hSp, c, hi, hl, hk⟩)⟩
      · refine ⟨none, _, by have := run_endLoop (P := P) hl (by rw [hrec]; simp); rw [hrec] at this; exact this, ?_⟩
        exact hdone _ xs _ (Nat.le_refl _) hS (hI.putObj _ hi (by omega) hl rfl) ((World.putObj_heap_other (by omega)).trans hk)
      · refine ⟨some c, _, by have := run_endLoop (P := P) hl (by rw [hrec]; simp); rw [hrec] at this; exact this, ?_⟩
        exact hstop _ c pre _ (Nat.le_refl _) hSp ((hIx c).putObj _ hi (by omega) hl rfl) ((World.putObj_heap_other (by omega)).trans hk)

end Go.Proofs.YtoofalchkedciaaDoor
