/-
  What the listed variables of a tied card give a walk; a world in which all of them hold what the text lays.
  Weaves in plain words: how a text is read. No program is named here.
-/
import Derived.Test.YtocpmncedlenbaaGreatDoorP1TopWeave
import Derived.Test.YtocpmncedlenbaaGreatDoorRows
import Derived.ChangeSame
import Derived.ChangeVars
import Derived.JoinedOf
import Derived.RowKit
import Derived.LaidLaws
import Derived.LaidHandle
import Derived.Stop.Joined
import Derived.Stop.LaidErr
namespace Go.Proofs.YtocpmncedlenbaaGreatDoor
open Go.ChangeShapes Go.WideShapes Go.RowKit

theorem lay_et : Tryz.prog.globalNamed "errors.errorType" = some 1 := by kernel_rfl
theorem lay_rt : (Tryz.prog.cutTypes.find? (·.1 == "internal/reflectlite.rtype")).map (·.2) = some 289 := by kernel_rfl
theorem lay_one : ((List.range Tryz.prog.types.size).filter fun t => Tryz.prog.rowNamed t [101, 114, 114, 111, 114]) = [26] := by kernel_rfl

theorem glob_of_handles {W : World} (h : handlesMet Tryz.prog [("errors.errorType", Rows.laid_errors_errorType)] W) : Glob W := by
  obtain ⟨name, u, ty, e1, e2, e3, e4, e5⟩ := h _ (List.mem_singleton.2 rfl)
  have en : name = [101, 114, 114, 111, 114] := (Option.some.inj e1).symm
  subst en
  obtain rfl := Option.some.inj (lay_rt.symm.trans e2)
  have hm : ty ∈ (List.range Tryz.prog.types.size).filter fun t => Tryz.prog.rowNamed t [101, 114, 114, 111, 114] := List.mem_filter.2 ⟨List.mem_range.2 e3, e4⟩
  rw [lay_one] at hm
  obtain rfl := List.mem_singleton.1 hm
  have hh : typeHandle Tryz.prog 26 = .pointer (some ⟨10, 26, none⟩) := by kernel_rfl
  rw [hh] at e5
  unfold Glob
  simpa using World.var?_cell lay_et e5 0

/-- A package-level variable that holds an error. -/
def VarErr (n : String) (w : World) : Prop := ∃ tp p, w.var? Tryz.prog n = some #[.iface tp p]

theorem var_only {w w' : World} {n : String} {cs : Array Value} (h : w.var? Tryz.prog n = some cs) (ho : Only [] w w') : w'.var? Tryz.prog n = some cs := by
  unfold World.var? at h ⊢
  cases hg : Tryz.prog.globalNamed n with
  | none => simp [hg] at h
  | some g =>
    simp only [hg, Option.bind_some] at h ⊢
    have hlt : g < w.heap.size := by
      rcases Nat.lt_or_ge g w.heap.size with h' | h'
      · exact h'
      · simp [Array.getElem?_eq_none h'] at h
    rw [ho.block g hlt (by simp)]
    exact h
theorem VarErr.low {n : String} {w w' : World} {S : List Nat} {g : Nat} (h : VarErr n w) (ho : Only S w w') (hg : Tryz.prog.globalNamed n = some g) (hS : g ∉ S) : VarErr n w' := by
  obtain ⟨tp, p, h⟩ := h
  refine ⟨tp, p, ?_⟩
  unfold World.var? at h ⊢
  simp only [hg, Option.bind_some] at h ⊢
  have hlt : g < w.heap.size := by
    rcases Nat.lt_or_ge g w.heap.size with h' | h'
    · exact h'
    · simp [Array.getElem?_eq_none h'] at h
  rw [ho.block g hlt hS]
  exact h
theorem VarErr.lt {n : String} {w : World} {g : Nat} (h : VarErr n w) (hg : Tryz.prog.globalNamed n = some g) : g < w.heap.size := by
  obtain ⟨tp, p, h⟩ := h
  unfold World.var? at h
  simp only [hg, Option.bind_some] at h
  rcases Nat.lt_or_ge g w.heap.size with h' | h'
  · exact h'
  · simp [Array.getElem?_eq_none h'] at h
theorem VarErr.only {n : String} {w w' : World} (h : VarErr n w) (ho : Only [] w w') : VarErr n w' := by
  obtain ⟨tp, p, h⟩ := h
  exact ⟨tp, p, var_only h ho⟩

theorem lay_star : "*errors.errorString" = "*" ++ "errors.errorString" := by decide
theorem lay_row (u : TypeId) (h : Tryz.prog.typeName? 3 u = some "*errors.errorString") : u = 342 :=
  typeName_ptr_named (nm := "errors.errorString") (by rw [← lay_star]; kernel_rfl) (by kernel_rfl) (by decide) u (by rw [← lay_star]; exact h)
theorem varErr_of {n : String} {text : List UInt8} {r : List (String × DataW Unit)} {W : World} {g : Nat} (h : laidMet Tryz.prog ((n, .iface "*errors.errorString" (.ptr (.agg [.lit (.string text)]))) :: r) W)
    (hg : Tryz.prog.globalNamed n = some g) (ht : (Tryz.prog.globals[g]?).map (·.type) = some 26) : VarErr n W := by
  obtain ⟨a, s, hv, _⟩ := laid_sentinel (tp := 342) (te := 344) (ts := 9) h hg ht Tryz.underlying26 lay_row Tryz.underlying342 Tryz.underlying344 rfl rfl Tryz.underlying9 (by kernel_rfl) (by kernel_rfl)
  exact ⟨_, _, hv⟩

/-- strconv's two errors, and where they lie. -/
def ErrsAt (w : World) (base : Nat) : Prop := VarErr "strconv.ErrSyntax" w ∧ VarErr "strconv.ErrRange" w ∧ 6 < base ∧ 7 < base
theorem ErrsAt.low {w w' : World} {base : Nat} {S : List Nat} (h : ErrsAt w base) (ho : Only S w w') (hS : ∀ x ∈ S, base ≤ x) : ErrsAt w' base :=
  ⟨h.1.low (g := 6) ho (by kernel_rfl) (fun hx => by have := hS _ hx; have := h.2.2.1; omega), h.2.1.low (g := 7) ho (by kernel_rfl) (fun hx => by have := hS _ hx; have := h.2.2.2; omega), h.2.2⟩
theorem ErrsAt.of {w : World} (h1 : VarErr "strconv.ErrSyntax" w) (h2 : VarErr "strconv.ErrRange" w) : ErrsAt w w.heap.size := ⟨h1, h2, h1.lt (by kernel_rfl), h2.lt (by kernel_rfl)⟩

/-- The cells of a table. -/
def datumCells : DataW Unit → Array Value
  | .agg ps => (ps.map fun | .lit l => l.value | _ => undef).toArray
  | _ => #[]
/-- A variable set to hold such cells. -/
def setVar (w : World) (g : Nat) (cs : Array Value) : World := { w with heap := w.heap.modify g fun
  | .cells _ t frozen => .cells cs t frozen
  | o => o }

noncomputable def laidLow : Nat := (World.holding Tryz.prog default ⟨#[], #[], []⟩).heap.size
/-- The settled world, every listed variable laid. -/
noncomputable def laidAll (os : Os) : World :=
  let w0 := World.holding Tryz.prog os ⟨#[.cells #[.string ⟨#[105, 110, 118, 97, 108, 105, 100, 32, 115, 121, 110, 116, 97, 120]⟩] 344, .cells #[.string ⟨#[118, 97, 108, 117, 101, 32, 111, 117, 116, 32, 111, 102, 32, 114, 97, 110, 103, 101]⟩] 344], #[], []⟩
  let w0 := setVar w0 1 #[.iface 289 (.agg #[.pointer (some ⟨10, 26, none⟩)])]
  let w0 := setVar w0 6 #[.iface 342 (.pointer (some ⟨laidLow, 0, none⟩))]
  let w0 := setVar w0 7 #[.iface 342 (.pointer (some ⟨laidLow + 1, 0, none⟩))]
  let w0 := setVar w0 2 (datumCells Rows.laid_internal_strconv_uint64pow10)
  let w0 := setVar w0 8 (datumCells Rows.laid_math_bits_deBruijn32tab)
  let w0 := setVar w0 9 (datumCells Rows.laid_math_bits_deBruijn64tab)
  let w0 := setVar w0 0 (datumCells Rows.laid_yardgang_trace_words)
  w0

end Go.Proofs.YtocpmncedlenbaaGreatDoor

namespace Go.Proofs.YtocpmncedlenbaaGreatDoor

/-- A weave: a task, one behind the other, beside each other. -/
inductive Wv where
  | num (n : Int) : Wv
  | seq (a b : Wv) : Wv
  | par (a b : Wv) : Wv

def isDig (c : UInt8) : Bool := decide (48 ≤ c.toNat) && decide (c.toNat ≤ 57)
/-- What digits come to. -/
def digV (l : List UInt8) : Nat := l.foldl (fun n c => n * 10 + (c.toNat - 48)) 0
/-- .. where what is more than 20 is 21. -/
def numV (l : List UInt8) : Int := if digV l ≤ 20 then (digV l : Int) else 21

def pNum (s : List UInt8) : Option (Wv × List UInt8) :=
  if (s.takeWhile isDig).isEmpty || s.head? == some 48 then none else some (.num (numV (s.takeWhile isDig)), s.dropWhile isDig)

/-- Is the next byte one? -/
def isC (c : UInt8) (s : List UInt8) : Bool := s.head? == some c

mutual
/-- A number, or a weave in signs. -/
def pOne : Nat → List UInt8 → Option (Wv × List UInt8)
  | 0, _ => none
  | f + 1, s => if isC 40 s then (pBeside f s.tail).bind (fun x => if isC 41 x.2 then some (x.1, x.2.tail) else none) else pNum s
/-- One behind the other. -/
def pBehind : Nat → List UInt8 → Option (Wv × List UInt8)
  | 0, _ => none
  | f + 1, s => (pOne f s).bind (fun x => pSemi f x.1 x.2)
def pSemi : Nat → Wv → List UInt8 → Option (Wv × List UInt8)
  | 0, _, _ => none
  | f + 1, a, s => if isC 59 s then (pOne f s.tail).bind (fun x => pSemi f (.seq a x.1) x.2) else some (a, s)
/-- Beside each other. -/
def pBeside : Nat → List UInt8 → Option (Wv × List UInt8)
  | 0, _ => none
  | f + 1, s => (pBehind f s).bind (fun x => pBar f x.1 x.2)
def pBar : Nat → Wv → List UInt8 → Option (Wv × List UInt8)
  | 0, _, _ => none
  | f + 1, a, s => if isC 124 s then (pBehind f s.tail).bind (fun x => pBar f (.par a x.1) x.2) else some (a, s)
end

/-- All that is read is shorter. -/
theorem pNum_len {s r : List UInt8} {a : Wv} (h : pNum s = some (a, r)) : r.length < s.length := by
  unfold pNum at h
  split at h
  · cases h
  · rename_i hn
    injection h with h
    injection h with _ h
    subst h
    have h1 : (s.takeWhile isDig) ≠ [] := by
      intro e; rw [e] at hn; simp at hn
    have h2 : (s.takeWhile isDig ++ s.dropWhile isDig).length = s.length := by rw [List.takeWhile_append_dropWhile]
    rw [List.length_append] at h2
    have := List.length_pos_iff.2 h1
    omega

theorem isC_len {c : UInt8} {s : List UInt8} (h : isC c s = true) : s.tail.length + 1 = s.length := by
  cases s with
  | nil => simp [isC] at h
  | cons a l => simp

theorem bind_some {α β : Type} {x : Option α} {f : α → Option β} {b : β} (h : x.bind f = some b) : ∃ a, x = some a ∧ f a = some b := by
  cases x with
  | none => cases h
  | some a => exact ⟨a, rfl, h⟩

theorem p_len : ∀ f : Nat, (∀ s a r, pOne f s = some (a, r) → r.length < s.length) ∧ (∀ s a r, pBehind f s = some (a, r) → r.length < s.length) ∧
    (∀ b s a r, pSemi f b s = some (a, r) → r.length ≤ s.length) ∧ (∀ s a r, pBeside f s = some (a, r) → r.length < s.length) ∧ (∀ b s a r, pBar f b s = some (a, r) → r.length ≤ s.length) := by
  intro f
  induction f with
  | zero => exact ⟨by simp [pOne], by simp [pBehind], by simp [pSemi], by simp [pBeside], by simp [pBar]⟩
  | succ f ih =>
    obtain ⟨i1, i2, i3, i4, i5⟩ := ih
    refine ⟨?_, ?_, ?_, ?_, ?_⟩
    · intro s a r h
      unfold pOne at h
      split at h
      · rename_i hc
        obtain ⟨x, h1, h2⟩ := bind_some h
        split at h2
        · rename_i hd
          injection h2 with h2
          injection h2 with _ h2
          have l1 := i4 _ _ _ h1
          have l2 := isC_len hc
          have l3 := isC_len hd
          rw [h2] at l3
          omega
        · cases h2
      · exact pNum_len h
    · intro s a r h
      unfold pBehind at h
      obtain ⟨x, h1, h2⟩ := bind_some h
      have l1 := i1 _ _ _ h1
      have l2 := i3 _ _ _ _ h2
      omega
    · intro b s a r h
      unfold pSemi at h
      split at h
      · rename_i hc
        obtain ⟨x, h1, h2⟩ := bind_some h
        have l1 := i1 _ _ _ h1
        have l2 := i3 _ _ _ _ h2
        have l3 := isC_len hc
        omega
      · injection h with h
        injection h with _ h
        rw [h]; exact Nat.le_refl _
    · intro s a r h
      unfold pBeside at h
      obtain ⟨x, h1, h2⟩ := bind_some h
      have l1 := i2 _ _ _ h1
      have l2 := i5 _ _ _ _ h2
      omega
    · intro b s a r h
      unfold pBar at h
      split at h
      · rename_i hc
        obtain ⟨x, h1, h2⟩ := bind_some h
        have l1 := i2 _ _ _ h1
        have l2 := i5 _ _ _ _ h2
        have l3 := isC_len hc
        omega
      · injection h with h
        injection h with _ h
        rw [h]; exact Nat.le_refl _

/-- More fuel turns nothing. -/
theorem p_more : ∀ f : Nat, (∀ s x, pOne f s = some x → pOne (f + 1) s = some x) ∧ (∀ s x, pBehind f s = some x → pBehind (f + 1) s = some x) ∧
    (∀ b s x, pSemi f b s = some x → pSemi (f + 1) b s = some x) ∧ (∀ s x, pBeside f s = some x → pBeside (f + 1) s = some x) ∧ (∀ b s x, pBar f b s = some x → pBar (f + 1) b s = some x) := by
  intro f
  induction f with
  | zero => exact ⟨by simp [pOne], by simp [pBehind], by simp [pSemi], by simp [pBeside], by simp [pBar]⟩
  | succ f ih =>
    obtain ⟨i1, i2, i3, i4, i5⟩ := ih
    refine ⟨?_, ?_, ?_, ?_, ?_⟩
    · intro s x h
      unfold pOne at h
      unfold pOne
      split at h
      · rename_i hc
        rw [if_pos hc]
        obtain ⟨y, h1, h2⟩ := bind_some h
        rw [i4 _ _ h1]
        exact h2
      · rename_i hc
        rw [if_neg hc]; exact h
    · intro s x h
      unfold pBehind at h
      obtain ⟨y, h1, h2⟩ := bind_some h
      unfold pBehind
      rw [i1 _ _ h1]
      exact i3 _ _ _ h2
    · intro b s x h
      unfold pSemi at h
      unfold pSemi
      split at h
      · rename_i hc
        rw [if_pos hc]
        obtain ⟨y, h1, h2⟩ := bind_some h
        rw [i1 _ _ h1]
        exact i3 _ _ _ h2
      · rename_i hc
        rw [if_neg hc]; exact h
    · intro s x h
      unfold pBeside at h
      obtain ⟨y, h1, h2⟩ := bind_some h
      unfold pBeside
      rw [i2 _ _ h1]
      exact i5 _ _ _ h2
    · intro b s x h
      unfold pBar at h
      unfold pBar
      split at h
      · rename_i hc
        rw [if_pos hc]
        obtain ⟨y, h1, h2⟩ := bind_some h
        rw [i2 _ _ h1]
        exact i5 _ _ _ h2
      · rename_i hc
        rw [if_neg hc]; exact h

theorem pBeside_more {f g : Nat} (hg : f ≤ g) {s : List UInt8} {x : Wv × List UInt8} (h : pBeside f s = some x) : pBeside g s = some x := by
  obtain ⟨k, rfl⟩ : ∃ k, g = f + k := ⟨g - f, by omega⟩
  clear hg
  induction k with
  | zero => exact h
  | succ k ih => exact (p_more (f + k)).2.2.2.1 _ _ ih
theorem pBar_more {f g : Nat} (hg : f ≤ g) {b : Wv} {s : List UInt8} {x : Wv × List UInt8} (h : pBar f b s = some x) : pBar g b s = some x := by
  obtain ⟨k, rfl⟩ : ∃ k, g = f + k := ⟨g - f, by omega⟩
  clear hg
  induction k with
  | zero => exact h
  | succ k ih => exact (p_more (f + k)).2.2.2.2 _ _ _ ih

/-- What may stand behind a weave that ends there: nothing that would go on with it. -/
def Shut (u : List UInt8) : Prop := ∀ c, u.head? = some c → isDig c = false ∧ c ≠ 59 ∧ c ≠ 124
/-- .. or what goes on beside it. -/
def Half (u : List UInt8) : Prop := ∀ c, u.head? = some c → isDig c = false ∧ c ≠ 59

theorem isC_app {c : UInt8} {s : List UInt8} (u : List UInt8) (h : s ≠ []) : isC c (s ++ u) = isC c s := by
  cases s with
  | nil => exact absurd rfl h
  | cons a l => simp [isC]
theorem isC_ne {c : UInt8} {s : List UInt8} (h : isC c s = true) : s ≠ [] := by
  rintro rfl; simp [isC] at h
theorem tail_app {s : List UInt8} (u : List UInt8) (h : s ≠ []) : (s ++ u).tail = s.tail ++ u := by
  cases s with
  | nil => exact absurd rfl h
  | cons a l => simp

theorem span_app (p : UInt8 → Bool) (s u : List UInt8) (h : s.dropWhile p = [] → ∀ c, u.head? = some c → p c = false) : (s ++ u).takeWhile p = s.takeWhile p ∧ (s ++ u).dropWhile p = s.dropWhile p ++ u := by
  induction s with
  | nil =>
    cases u with
    | nil => simp
    | cons c l =>
      have := h rfl c rfl
      simp [this]
  | cons a l ih =>
    by_cases ha : p a = true
    · have := ih (fun e => h (by simp [ha, e]))
      simp [ha, this.1, this.2]
    · simp [ha]

theorem pNum_app {s r u : List UInt8} {a : Wv} (h : pNum s = some (a, r)) (hu : r = [] → ∀ c, u.head? = some c → isDig c = false) : pNum (s ++ u) = some (a, r ++ u) := by
  unfold pNum at h
  split at h
  · cases h
  · rename_i hn
    injection h with h
    injection h with h1 h
    have hs : s ≠ [] := by rintro rfl; simp at hn
    obtain ⟨e1, e2⟩ := span_app isDig s u (by rw [h]; exact hu)
    unfold pNum
    rw [e1, e2]
    have e3 : (s ++ u).head? = s.head? := by cases s with | nil => exact absurd rfl hs | cons => rfl
    rw [e3, if_neg hn, h1, h]

theorem p_app (u : List UInt8) : ∀ f : Nat,
    (∀ s a r, pOne f s = some (a, r) → (r = [] → Half u ∨ Shut u) → (r = [] → ∀ c, u.head? = some c → isDig c = false) → pOne f (s ++ u) = some (a, r ++ u)) ∧
    (∀ s a r, pBehind f s = some (a, r) → (r = [] → Half u) → pBehind f (s ++ u) = some (a, r ++ u)) ∧
    (∀ b s a r, pSemi f b s = some (a, r) → (r = [] → Half u) → pSemi f b (s ++ u) = some (a, r ++ u)) ∧
    (∀ s a r, pBeside f s = some (a, r) → (r = [] → Shut u) → pBeside f (s ++ u) = some (a, r ++ u)) ∧
    (∀ b s a r, pBar f b s = some (a, r) → (r = [] → Shut u) → pBar f b (s ++ u) = some (a, r ++ u)) := by
  intro f
  induction f with
  | zero => exact ⟨by simp [pOne], by simp [pBehind], by simp [pSemi], by simp [pBeside], by simp [pBar]⟩
  | succ f ih =>
    obtain ⟨i1, i2, i3, i4, i5⟩ := ih
    refine ⟨?_, ?_, ?_, ?_, ?_⟩
    · intro s a r h _ hu
      unfold pOne at h
      unfold pOne
      split at h
      · rename_i hc
        have hne := isC_ne hc
        rw [isC_app u hne, if_pos hc, tail_app u hne]
        obtain ⟨x, h1, h2⟩ := bind_some h
        split at h2
        · rename_i hd
          have hx := isC_ne hd
          rw [i4 _ _ _ h1 (fun e => absurd e hx)]
          injection h2 with h2
          injection h2 with h2 h3
          show (if isC 41 (x.2 ++ u) then _ else _) = _
          rw [isC_app u hx, if_pos hd]
          show some (x.1, (x.2 ++ u).tail) = _
          rw [tail_app u hx, h2, h3]
        · cases h2
      · rename_i hc
        have hne : s ≠ [] := by rintro rfl; simp [pNum] at h
        rw [isC_app u hne, if_neg hc]
        exact pNum_app h hu
    · intro s a r h hu
      unfold pBehind at h
      obtain ⟨x, h1, h2⟩ := bind_some h
      unfold pBehind
      have hr : x.2 = [] → r = [] := fun e => by
        have := (p_len f).2.2.1 _ _ _ _ h2
        rw [e] at this
        exact List.length_eq_zero_iff.1 (by simpa using this)
      rw [i1 _ _ _ h1 (fun e => .inl (hu (hr e))) (fun e c hc => (hu (hr e) c hc).1)]
      exact i3 _ _ _ _ h2 hu
    · intro b s a r h hu
      unfold pSemi at h
      unfold pSemi
      split at h
      · rename_i hc
        have hne := isC_ne hc
        rw [isC_app u hne, if_pos hc, tail_app u hne]
        obtain ⟨x, h1, h2⟩ := bind_some h
        have hr : x.2 = [] → r = [] := fun e => by
          have := (p_len f).2.2.1 _ _ _ _ h2
          rw [e] at this
          exact List.length_eq_zero_iff.1 (by simpa using this)
        rw [i1 _ _ _ h1 (fun e => .inl (hu (hr e))) (fun e c hc => (hu (hr e) c hc).1)]
        exact i3 _ _ _ _ h2 hu
      · rename_i hc
        injection h with h
        injection h with h1 h2
        have hn : ¬ isC 59 (s ++ u) = true := by
          cases s with
          | nil =>
            intro e
            unfold isC at e
            simp only [List.nil_append, beq_iff_eq] at e
            exact (hu h2.symm 59 e).2 rfl
          | cons a l => rw [isC_app u (by simp)]; exact hc
        rw [if_neg hn, h1, h2]
    · intro s a r h hu
      unfold pBeside at h
      obtain ⟨x, h1, h2⟩ := bind_some h
      unfold pBeside
      have hr : x.2 = [] → r = [] := fun e => by
        have := (p_len f).2.2.2.2 _ _ _ _ h2
        rw [e] at this
        exact List.length_eq_zero_iff.1 (by simpa using this)
      rw [i2 _ _ _ h1 (fun e c hc => ⟨(hu (hr e) c hc).1, (hu (hr e) c hc).2.1⟩)]
      exact i5 _ _ _ _ h2 hu
    · intro b s a r h hu
      unfold pBar at h
      unfold pBar
      split at h
      · rename_i hc
        have hne := isC_ne hc
        rw [isC_app u hne, if_pos hc, tail_app u hne]
        obtain ⟨x, h1, h2⟩ := bind_some h
        have hr : x.2 = [] → r = [] := fun e => by
          have := (p_len f).2.2.2.2 _ _ _ _ h2
          rw [e] at this
          exact List.length_eq_zero_iff.1 (by simpa using this)
        rw [i2 _ _ _ h1 (fun e c hc => ⟨(hu (hr e) c hc).1, (hu (hr e) c hc).2.1⟩)]
        exact i5 _ _ _ _ h2 hu
      · rename_i hc
        injection h with h
        injection h with h1 h2
        have hn : ¬ isC 124 (s ++ u) = true := by
          cases s with
          | nil =>
            intro e
            unfold isC at e
            simp only [List.nil_append, beq_iff_eq] at e
            exact (hu h2.symm 124 e).2.2 rfl
          | cons a l => rw [isC_app u (by simp)]; exact hc
        rw [if_neg hn, h1, h2]

end Go.Proofs.YtocpmncedlenbaaGreatDoor
