/-
  One element appended to a slice of the call's own, in a plain region.
-/
import Derived.Test.YtoofalchkedciaaDoorStruc
namespace Go.Proofs.YtoofalchkedciaaDoor
open Go.RowKit Go.Deep

theorem wpList_rows {t e : TypeId} {k bytes : Nat} (hT : SliceOf t e k bytes) {ops : Array Oper} {rest : List Oper} {o : Oper} {a : Act} {w : World} {Q : Exit → Act → World → Prop} (hgd : o.guard = none) (s x : Operand)
    (ho : o.op = .call { callee := .builtin .append, args := #[s, x], argTypes := #[t, t] })
    (W : World) (base : Nat) (v : Value) (n : Nat) (xs : List Value) (B : Nat) (ys : List Value) (hown : W.ownsRow base e k v n xs) (hlen : n + 1 ≤ 1000000000) (hbase : base ≤ W.heap.size)
    (hs : a.eval s = v) (hx : a.eval x = .slice (some ⟨B, 0, none⟩) 1 1) (hW : Only [] W w) (hl : ys.length = k) (hc : ∀ j u, ys[j]? = some u → w.cell? ⟨B, j, none⟩ = some u) (h1 : ∀ u ∈ ys, u.oneCell' = true)
    (h : ∀ g cap w', w'.ownsRow base e k (.slice (some ⟨g, 0, none⟩) (n + 1) cap) (n + 1) (xs ++ ys) → Only (own v) W w' → (g ∈ own v ∨ W.heap.size ≤ g) →
      wpList Tryd.prog ops Q rest (a.put o.dst (.slice (some ⟨g, 0, none⟩) (n + 1) cap)) w') : wpList Tryd.prog ops Q (o :: rest) a w := by
  obtain ⟨i0, z, hi, hz0, hz1, hz2, hz3⟩ := hT.info
  have hb := hW.size
  have hsm := hT.small
  have hby : (n + 1) * bytes ≤ 140737488355328 := by
    have : (n + 1) * bytes ≤ (n + 1) * 100 := Nat.mul_le_mul_left _ hsm
    omega
  refine wpList_append_lies w hgd s x t ho base e i0 z k bytes hT.under hi hz0 hz1 hz2 hz3 hT.pos v n xs hs (Row.same hown hW) ⟨B, 0, none⟩ 1 1 ys hx (by simpa using hl) ?_ h1 (by decide) (by unfold maxLen; omega) hby (by omega) _ rfl ?_
  · intro j u hj
    have e : ((⟨B, 0, none⟩ : Addr).add j) = ⟨B, j, none⟩ := by unfold Addr.add; split <;> simp_all
    rw [e]
    exact hc j u hj
  · intro g cap w' k1 k2 k3 _
    exact h g cap w' k1 ((hW.mono (by simp)).grown k2 (fun k hk _ => by simp [own, hk])) (k3.imp (fun e => by simp [own, e]) (fun e => by omega))

/-- .. an element of one cell. -/
theorem wpList_row1 {t e : TypeId} {bytes : Nat} (hT : SliceOf t e 1 bytes) {ops : Array Oper} {rest : List Oper} {o : Oper} {a : Act} {w : World} {Q : Exit → Act → World → Prop} (hgd : o.guard = none) (s x : Operand)
    (ho : o.op = .call { callee := .builtin .append, args := #[s, x], argTypes := #[t, t] })
    (W : World) (base : Nat) (v : Value) (n : Nat) (xs : List Value) (B : Nat) (u : Value) (hown : W.ownsRow base e 1 v n xs) (hlen : n + 1 ≤ 1000000000) (hbase : base ≤ W.heap.size)
    (hs : a.eval s = v) (hx : a.eval x = .slice (some ⟨B, 0, none⟩) 1 1) (hW : Only [] W w) (hc : w.cell? ⟨B, 0, none⟩ = some u) (h1 : u.oneCell' = true)
    (h : ∀ g cap w', w'.ownsRow base e 1 (.slice (some ⟨g, 0, none⟩) (n + 1) cap) (n + 1) (xs ++ [u]) → Only (own v) W w' → (g ∈ own v ∨ W.heap.size ≤ g) →
      wpList Tryd.prog ops Q rest (a.put o.dst (.slice (some ⟨g, 0, none⟩) (n + 1) cap)) w') : wpList Tryd.prog ops Q (o :: rest) a w :=
  wpList_rows hT hgd s x ho W base v n xs B [u] hown hlen hbase hs hx hW rfl (fun j y hj => by
    rcases j with _ | j
    · simp at hj; subst hj; exact hc
    · simp at hj) (fun y hy => by simp at hy; subst hy; exact h1) h

end Go.Proofs.YtoofalchkedciaaDoor
