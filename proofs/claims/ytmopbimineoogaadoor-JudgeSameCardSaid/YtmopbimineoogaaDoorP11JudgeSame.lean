/-
  Keys of maps that are ints.
  A map of pairs of numbers to bools that the call made: which pairs were seen.
-/
import Derived.Test.YtmopbimineoogaaDoorP10JudgeSame
import Derived.Test.YtmopbimineoogaaDoorRows
import Derived.Test.YtmopbimineoogaaDoorP1JudgeSame
import Derived.DeepKeys4
namespace Go.Proofs.YtmopbimineoogaaDoor
open Go.RowKit Go.Maps

theorem key_int : Keyed Tryd.prog 3 := int_keyed Tryd.underlying3
theorem keyOf_int (k : Int) (h1 : -9223372036854775808 ≤ k) (h2 : k ≤ 9223372036854775807) : keyOf Tryd.prog 3 (.int .i64 k) = some (.int .i64 k) :=
  keyOf_int_mk Tryd.underlying3 (WalkArith.wf_i64 ⟨h1, h2⟩)
theorem zero_bool (w : World) : (zeroValue 4).run Tryd.prog w = .ok (.bool false) w := by kernel_rfl

end Go.Proofs.YtmopbimineoogaaDoor

namespace Go.Proofs.YtmopbimineoogaaDoor
open Go.RowKit Go.Maps

theorem key_pair : Keyed Tryd.prog 91 :=
  Keyed.of_law (deep_law_laid laid_out (m := 3) (by omega) (of_decide_eq_true (by kernel_rfl)) (by kernel_rfl) (by kernel_rfl))

theorem pair_kt : Tryd.prog.keyType 91 = true := by kernel_rfl
theorem pair_cells : Tryd.prog.cellsOf 91 = 2 := by kernel_rfl
theorem int_cells : Tryd.prog.cellsOf 3 = 1 := by kernel_rfl

theorem keyLits_int (d : Nat) (a : Int) (h : (Lit.int .i64 a).wf = true) : Tryd.prog.keyLits (d + 1) 3 [.int .i64 a] = some [.int .i64 a] := by
  unfold Program.keyLits
  rw [Tryd.underlying3]
  simp [h]
theorem keyLits_pair (d : Nat) (a b : Int) (ha : (Lit.int .i64 a).wf = true) (hb : (Lit.int .i64 b).wf = true) : ∃ l, Tryd.prog.keyLits (d + 2) 91 [.int .i64 a, .int .i64 b] = some l := by
  refine ⟨[.int .i64 a, .int .i64 b], ?_⟩
  rw [show d + 2 = (d + 1) + 1 from rfl]
  unfold Program.keyLits
  rw [Tryd.underlying91]
  simp [pair_cells, int_cells, keyLits_int d a ha, keyLits_int d b hb]

theorem keyOf_pair (a b : Int) (ha : (Lit.int .i64 a).wf = true) (hb : (Lit.int .i64 b).wf = true) : ∃ l, keyOf Tryd.prog 91 (.agg #[.int .i64 a, .int .i64 b]) = some l := by
  obtain ⟨l, hl⟩ := keyLits_pair (Tryd.prog.types.size - 1) a b ha hb
  rw [show Tryd.prog.types.size - 1 + 2 = Tryd.prog.types.size + 1 by
    have : 0 < Tryd.prog.types.size := of_decide_eq_true (by kernel_rfl)
    omega] at hl
  unfold keyOf
  rw [Tryd.underlying91]
  have hf : (Value.agg #[.int .i64 a, .int .i64 b]).formed Tryd.prog 91 = true := by
    simp [Value.formed, Tryd.underlying91, pair_cells]
  simp only [pair_kt, hf, Bool.and_self, if_true]
  refine ⟨.string (keyBytes l), ?_⟩
  rw [show (Value.agg #[.int .i64 a, .int .i64 b]).cells.toList = [.int .i64 a, .int .i64 b] from rfl, hl]
  rfl

/-- What a map of pairs that were seen holds. -/
def pairF (s : Int → Int → Bool) : Value → Option Value
  | .agg ⟨[.int .i64 a, .int .i64 b]⟩ => if s a b = true then some (.bool true) else none
  | _ => none

def PairMap (w : World) (b : Nat) (s : Int → Int → Bool) : Prop := ∃ n, MapOf w Tryd.prog 91 b n (pairF s)

def upP (s : Int → Int → Bool) (a b : Int) : Int → Int → Bool := fun x y => (decide (a = x) && decide (b = y)) || s x y

theorem PairMap.lt {w : World} {b : Nat} {s : Int → Int → Bool} (h : PairMap w b s) : b < w.heap.size := by obtain ⟨n, h⟩ := h; exact h.lt
theorem PairMap.only {w w' : World} {b : Nat} {s : Int → Int → Bool} {S : List Nat} (h : PairMap w b s) (ho : Only S w w') (hb : b ∉ S) : PairMap w' b s := by obtain ⟨n, h⟩ := h; exact ⟨n, h.only ho hb⟩
theorem PairMap.made (w : World) : PairMap (w.alloc (.map #[] 0)) w.heap.size (fun _ _ => false) := ⟨0, (MapOf.made w _ _).congr fun x => by
  unfold pairF
  split
  · simp
  · rfl⟩

theorem PairMap.look {w : World} {b : Nat} {s : Int → Int → Bool} (h : PairMap w b s) (x y : Int) (hx : (Lit.int .i64 x).wf = true) (hy : (Lit.int .i64 y).wf = true) :
    (Instr.lookup 89 (.map (some b)) (.agg #[.int .i64 x, .int .i64 y]) false).run Tryd.prog w = .ok (.bool (s x y)) w := by
  obtain ⟨n, h⟩ := h
  obtain ⟨l, hl⟩ := keyOf_pair x y hx hy
  have := h.look false key_pair Tryd.underlying89 (zero_bool w) hl
  rw [this]
  have e : (pairF s (.agg #[.int .i64 x, .int .i64 y])).getD (.bool false) = .bool (s x y) := by
    unfold pairF
    cases hs : s x y <;> simp [hs]
  rw [e]
  rfl

theorem PairMap.put {w : World} {b : Nat} {s : Int → Int → Bool} (h : PairMap w b s) (x y : Int) (hx : (Lit.int .i64 x).wf = true) (hy : (Lit.int .i64 y).wf = true) :
    ∃ w', (Instr.mapUpdate 89 (.map (some b)) (.agg #[.int .i64 x, .int .i64 y]) (.bool true)).run Tryd.prog w = .ok () w' ∧ PairMap w' b (upP s x y) ∧ Only [b] w w' := by
  obtain ⟨n, h⟩ := h
  obtain ⟨l, hl⟩ := keyOf_pair x y hx hy
  obtain ⟨w', h1, h2, h3⟩ := h.put key_pair Tryd.underlying89 hl (.bool true)
  refine ⟨w', h1, ⟨_, h2.congr fun v => ?_⟩, h3⟩
  unfold updV?
  by_cases e : v = .agg #[.int .i64 x, .int .i64 y]
  · subst e
    rw [if_pos rfl]
    simp [pairF, upP]
  · rw [if_neg e]
    unfold pairF
    split
    · rename_i a c
      have hac : ¬ (x = a ∧ y = c) := fun h => e (by rw [h.1, h.2])
      have : upP s x y a c = s a c := by
        unfold upP
        by_cases h1 : x = a
        · by_cases h2 : y = c
          · exact absurd ⟨h1, h2⟩ hac
          · simp [h2]
        · simp [h1]
      rw [this]
    · rfl

end Go.Proofs.YtmopbimineoogaaDoor
