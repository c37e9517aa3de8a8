/-
  One element appended to a slice of the call's own, in a plain region.
  What is wrong with a plan, and hands.
  Plans and lists written out in the text.
-/
import Derived.Test.YtocpmncedlenbaaP10GangShares
import Derived.Test.YtocpmncedlenbaaP19GangShares
import Derived.Test.YtocpmncedlenbaaP27GangShares
import Derived.Test.YtocpmncedlenbaaP13GangShares
namespace Go.Proofs.Ytocpmncedlenbaa
open Go.RowKit Go.Deep

theorem wpList_rows {t e : TypeId} {k bytes : Nat} (hT : SliceOf t e k bytes) {ops : Array Oper} {rest : List Oper} {o : Oper} {a : Act} {w : World} {Q : Exit → Act → World → Prop} (hgd : o.guard = none) (s x : Operand)
    (ho : o.op = .call { callee := .builtin .append, args := #[s, x], argTypes := #[t, t] })
    (W : World) (base : Nat) (v : Value) (n : Nat) (xs : List Value) (B : Nat) (ys : List Value) (hown : W.ownsRow base e k v n xs) (hlen : n + 1 ≤ 1000000000) (hbase : base ≤ W.heap.size)
    (hs : a.eval s = v) (hx : a.eval x = .slice (some ⟨B, 0, none⟩) 1 1) (hW : Only [] W w) (hl : ys.length = k) (hc : ∀ j u, ys[j]? = some u → w.cell? ⟨B, j, none⟩ = some u) (h1 : ∀ u ∈ ys, u.oneCell' = true)
    (h : ∀ g cap w', w'.ownsRow base e k (.slice (some ⟨g, 0, none⟩) (n + 1) cap) (n + 1) (xs ++ ys) → Only (own v) W w' → (g ∈ own v ∨ W.heap.size ≤ g) →
      wpList Try.prog ops Q rest (a.put o.dst (.slice (some ⟨g, 0, none⟩) (n + 1) cap)) w') : wpList Try.prog ops Q (o :: rest) a w := by
  obtain ⟨i0, z, hi, hz0, hz1, hz2, hz3⟩ := hT.info
  have hb := hW.size
  have hsm := hT.small
  have hby : (n + 1) * bytes ≤ 140737488355328 := by
    have : (n + 1) * bytes ≤ (n + 1) * 100 := Nat.mul_le_mul_left _ hsm
    omega
  refine wpList_append_lies w hgd s x t ho base e i0 z k bytes hT.under hi hz0 hz1 hz2 hz3 hT.pos v n xs hs (Row.same hown hW) ⟨B, 0, none⟩ 1 1 ys hx (by simpa using hl) ?_ h1 (by decide) (by unfold maxLen; omega) hby (by omega) _ rfl ?_
  · intro j u hj
    have e : ((⟨B, 0, none⟩ : Addr).add j) = ⟨B, j, none⟩ := by unfold Addr.add; split <;> simp_all
    rw [e]
    exact hc j u hj
  · intro g cap w' k1 k2 k3 _
    exact h g cap w' k1 ((hW.mono (by simp)).grown k2 (fun k hk _ => by simp [own, hk])) (k3.imp (fun e => by simp [own, e]) (fun e => by omega))

/-- .. an element of one cell. -/
theorem wpList_row1 {t e : TypeId} {bytes : Nat} (hT : SliceOf t e 1 bytes) {ops : Array Oper} {rest : List Oper} {o : Oper} {a : Act} {w : World} {Q : Exit → Act → World → Prop} (hgd : o.guard = none) (s x : Operand)
    (ho : o.op = .call { callee := .builtin .append, args := #[s, x], argTypes := #[t, t] })
    (W : World) (base : Nat) (v : Value) (n : Nat) (xs : List Value) (B : Nat) (u : Value) (hown : W.ownsRow base e 1 v n xs) (hlen : n + 1 ≤ 1000000000) (hbase : base ≤ W.heap.size)
    (hs : a.eval s = v) (hx : a.eval x = .slice (some ⟨B, 0, none⟩) 1 1) (hW : Only [] W w) (hc : w.cell? ⟨B, 0, none⟩ = some u) (h1 : u.oneCell' = true)
    (h : ∀ g cap w', w'.ownsRow base e 1 (.slice (some ⟨g, 0, none⟩) (n + 1) cap) (n + 1) (xs ++ [u]) → Only (own v) W w' → (g ∈ own v ∨ W.heap.size ≤ g) →
      wpList Try.prog ops Q rest (a.put o.dst (.slice (some ⟨g, 0, none⟩) (n + 1) cap)) w') : wpList Try.prog ops Q (o :: rest) a w :=
  wpList_rows hT hgd s x ho W base v n xs B [u] hown hlen hbase hs hx hW rfl (fun j y hj => by
    rcases j with _ | j
    · simp at hj; subst hj; exact hc
    · simp at hj) (fun y hy => by simp at hy; subst hy; exact h1) h

end Go.Proofs.Ytocpmncedlenbaa

namespace Go.Proofs.Ytocpmncedlenbaa
open Go.RowKit Go.Deep

/-- What is wrong with a plan, and hands. -/
noncomputable def hErr (p : PlanL) (hands : Int) : Int := if planFault p = 0 then (if 1 ≤ hands ∧ hands ≤ 6 then 0 else 1) else planFault p

theorem hErr_ok {p : PlanL} {hands : Int} (h : PlanOk p) (h1 : 1 ≤ hands) (h6 : hands ≤ 6) : hErr p hands = 0 := by
  unfold hErr; rw [if_pos ((planOk_iff p).1 h), if_pos ⟨h1, h6⟩]
theorem hErr_zero {p : PlanL} {hands : Int} (h : hErr p hands = 0) : PlanOk p ∧ 1 ≤ hands ∧ hands ≤ 6 := by
  unfold hErr at h
  by_cases hp : planFault p = 0
  · rw [if_pos hp] at h
    by_cases hh : 1 ≤ hands ∧ hands ≤ 6
    · exact ⟨(planOk_iff p).2 hp, hh⟩
    · rw [if_neg hh] at h; cases h
  · rw [if_neg hp] at h; exact absurd h hp

end Go.Proofs.Ytocpmncedlenbaa

namespace Go.Proofs.Ytocpmncedlenbaa
open Go.RowKit

theorem lit_ints {W : World} {b : Nat} {cs : Array Value} {t : TypeId} (h : W.heap[b]? = some (.cells cs t (0, 0))) (l : List Int) (hcs : cs.toList = l.map (Value.int .i64)) (hn : l.length ≤ 1000) :
    Reads W (.slice (some ⟨b, 0, none⟩) l.length l.length) l := by
  by_cases h0 : l = []
  · subst h0
    exact .inl ⟨rfl, .inr ⟨_, 0, rfl, by unfold maxLen; omega⟩⟩
  · refine .inr ⟨List.length_pos_iff.2 h0, b, 0, l.length, rfl, Nat.le_refl _, by unfold maxLen; omega, fun i hi => ?_⟩
    rw [Nat.zero_add, cell_of_row W b i cs t (0, 0) h, ← Array.getElem?_toList, hcs]
    simp [nth, hi]

theorem lit_plan {W : World} {B : Nat} {cs : Array Value} {t : TypeId} (h : W.heap[B]? = some (.cells cs t (0, 0))) (p : PlanL) (N : Nat → Value) (hcs : cs.toList = flatP p N p.length) (hn : p.length ≤ 1000)
    (hr : ∀ i, i < p.length → Reads W (N i) (ndOf p i)) : InPlan W (.slice (some ⟨B, 0, none⟩) p.length p.length) p := by
  refine ⟨N, ⟨_, p.length, rfl, Nat.le_refl _, by unfold maxLen; omega, (fun h => by cases h), fun i hi => ⟨B, 0, rfl, ?_, ?_⟩⟩, hr, fun _ _ _ => trivial, fun _ _ _ _ _ => trivial⟩
  · rw [Nat.zero_add, cell_of_row W B _ cs t (0, 0) h, ← Array.getElem?_toList, hcs]
    exact flatP_0 _ _ _ _ hi
  · rw [Nat.zero_add, cell_of_row W B _ cs t (0, 0) h, ← Array.getElem?_toList, hcs]
    exact flatP_1 _ _ _ _ hi

theorem heap_alloc_old (w : World) (o : Obj) (k : Nat) (h : k < w.heap.size) : (w.alloc o).heap[k]? = w.heap[k]? := Below.heap_alloc w o k h
theorem heap_alloc_at (w : World) (o : Obj) (k : Nat) (h : k = w.heap.size) : (w.alloc o).heap[k]? = some o := by subst h; exact heap_alloc_new w o

/-- Two tasks of one unit each, the second behind the first. -/
theorem lit_two (W : World) : InPlan ((W.alloc (.cells #[.int .i64 0] 3)).alloc (.cells #[.int .i64 1, .slice none 0 0, .int .i64 1, .slice (some ⟨W.heap.size, 0, none⟩) 1 1] 24)) (.slice (some ⟨W.heap.size + 1, 0, none⟩) 2 2) [(1, []), (1, [0])] := by
  refine lit_plan (heap_alloc_at _ _ _ (by simp)) [(1, []), (1, [0])] (fun i => if i = 0 then .slice none 0 0 else .slice (some ⟨W.heap.size, 0, none⟩) 1 1) ?_ (by simp) ?_
  · rfl
  · intro i hi
    have : i = 0 ∨ i = 1 := by simp at hi; omega
    rcases this with rfl | rfl
    · exact .inl ⟨rfl, .inl rfl⟩
    · refine lit_ints (cs := #[.int .i64 0]) (t := 3) ?_ [0] rfl (by simp)
      rw [heap_alloc_old _ _ _ (by simp)]
      exact heap_alloc_new _ _

end Go.Proofs.Ytocpmncedlenbaa
