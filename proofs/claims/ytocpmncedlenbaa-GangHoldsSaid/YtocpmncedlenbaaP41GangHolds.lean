/-
  One element appended to a slice of the call's own, in a plain region.
  Contract of gang.New.
-/
import Derived.Test.YtocpmncedlenbaaP7GangHolds
import Derived.Test.YtocpmncedlenbaaP35GangHolds
import Derived.Test.YtocpmncedlenbaaP15GangHolds
import Derived.Test.YtocpmncedlenbaaP26GangHolds
import Derived.Test.YtocpmncedlenbaaP39GangHolds
namespace Go.Proofs.Ytocpmncedlenbaa
open Go.RowKit Go.Deep

theorem wpList_rows {t e : TypeId} {k bytes : Nat} (hT : SliceOf t e k bytes) {ops : Array Oper} {rest : List Oper} {o : Oper} {a : Act} {w : World} {Q : Exit → Act → World → Prop} (hgd : o.guard = none) (s x : Operand)
    (ho : o.op = .call { callee := .builtin .append, args := #[s, x], argTypes := #[t, t] })
    (W : World) (base : Nat) (v : Value) (n : Nat) (xs : List Value) (B : Nat) (ys : List Value) (hown : W.ownsRow base e k v n xs) (hlen : n + 1 ≤ 1000000000) (hbase : base ≤ W.heap.size)
    (hs : a.eval s = v) (hx : a.eval x = .slice (some ⟨B, 0, none⟩) 1 1) (hW : Only [] W w) (hl : ys.length = k) (hc : ∀ j u, ys[j]? = some u → w.cell? ⟨B, j, none⟩ = some u) (h1 : ∀ u ∈ ys, u.oneCell' = true)
    (h : ∀ g cap w', w'.ownsRow base e k (.slice (some ⟨g, 0, none⟩) (n + 1) cap) (n + 1) (xs ++ ys) → Only (own v) W w' → (g ∈ own v ∨ W.heap.size ≤ g) →
      wpList Try.prog ops Q rest (a.put o.dst (.slice (some ⟨g, 0, none⟩) (n + 1) cap)) w') : wpList Try.prog ops Q (o :: rest) a w := by
  obtain ⟨i0, z, hi, hz0, hz1, hz2, hz3⟩ := hT.info
  have hb := hW.size
  have hsm := hT.small
  have hby : (n + 1) * bytes ≤ 140737488355328 := by
    have : (n + 1) * bytes ≤ (n + 1) * 100 := Nat.mul_le_mul_left _ hsm
    omega
  refine wpList_append_lies w hgd s x t ho base e i0 z k bytes hT.under hi hz0 hz1 hz2 hz3 hT.pos v n xs hs (Row.same hown hW) ⟨B, 0, none⟩ 1 1 ys hx (by simpa using hl) ?_ h1 (by decide) (by unfold maxLen; omega) hby (by omega) _ rfl ?_
  · intro j u hj
    have e : ((⟨B, 0, none⟩ : Addr).add j) = ⟨B, j, none⟩ := by unfold Addr.add; split <;> simp_all
    rw [e]
    exact hc j u hj
  · intro g cap w' k1 k2 k3 _
    exact h g cap w' k1 ((hW.mono (by simp)).grown k2 (fun k hk _ => by simp [own, hk])) (k3.imp (fun e => by simp [own, e]) (fun e => by omega))

/-- .. an element of one cell. -/
theorem wpList_row1 {t e : TypeId} {bytes : Nat} (hT : SliceOf t e 1 bytes) {ops : Array Oper} {rest : List Oper} {o : Oper} {a : Act} {w : World} {Q : Exit → Act → World → Prop} (hgd : o.guard = none) (s x : Operand)
    (ho : o.op = .call { callee := .builtin .append, args := #[s, x], argTypes := #[t, t] })
    (W : World) (base : Nat) (v : Value) (n : Nat) (xs : List Value) (B : Nat) (u : Value) (hown : W.ownsRow base e 1 v n xs) (hlen : n + 1 ≤ 1000000000) (hbase : base ≤ W.heap.size)
    (hs : a.eval s = v) (hx : a.eval x = .slice (some ⟨B, 0, none⟩) 1 1) (hW : Only [] W w) (hc : w.cell? ⟨B, 0, none⟩ = some u) (h1 : u.oneCell' = true)
    (h : ∀ g cap w', w'.ownsRow base e 1 (.slice (some ⟨g, 0, none⟩) (n + 1) cap) (n + 1) (xs ++ [u]) → Only (own v) W w' → (g ∈ own v ∨ W.heap.size ≤ g) →
      wpList Try.prog ops Q rest (a.put o.dst (.slice (some ⟨g, 0, none⟩) (n + 1) cap)) w') : wpList Try.prog ops Q (o :: rest) a w :=
  wpList_rows hT hgd s x ho W base v n xs B [u] hown hlen hbase hs hx hW rfl (fun j y hj => by
    rcases j with _ | j
    · simp at hj; subst hj; exact hc
    · simp at hj) (fun y hy => by simp at hy; subst hy; exact h1) h

end Go.Proofs.Ytocpmncedlenbaa

namespace Go.Proofs.Ytocpmncedlenbaa
open Go.RowKit Go.Deep

theorem sliceOf_workers : SliceOf 60 66 1 8 := sliceOf_parts (z := .pointer none) Try.underlying60 (by kernel_rfl) rfl (by omega) (by omega)

def updA (f : Nat → Nat) (j x : Nat) : Nat → Nat := fun i => if i = j then x else f i
def ptrs (i : Nat) (WB : Nat → Nat) : List Value := (List.range i).map fun k => .pointer (some ⟨WB k, 0, none⟩)
theorem ptrs_push (i : Nat) (WB : Nat → Nat) : ptrs (i + 1) WB = ptrs i WB ++ [.pointer (some ⟨WB i, 0, none⟩)] := by simp [ptrs, List.range_succ]
theorem ptrs_congr (i : Nat) (W V : Nat → Nat) (h : ∀ k, k < i → W k = V k) : ptrs i W = ptrs i V := by
  unfold ptrs
  exact List.map_congr_left fun k hk => by rw [h k (by simpa using hk)]
theorem ptrs_len (i : Nat) (WB : Nat → Nat) : (ptrs i WB).length = i := by simp [ptrs]

/-- A gang while its workers come. -/
structure NewAt (w : World) (lab : Nat → Nat) (G J S K : Nat) (pv lv : Value) (SJ SS SK : List Nat) (FJ FP : Nat → Prop) (WB HB RB : Nat → Nat) (p : PlanL) (room m i : Nat) : Prop where
  cells : Cells w G [pv, .pointer (some ⟨J, 0, none⟩), .pointer (some ⟨S, 0, none⟩), .pointer (some ⟨K, 0, none⟩), lv]
  plan : PlanAt w FP pv p
  join : JoinIs w SJ FJ J p (fun _ => false)
  spill : SpillIs w SS S room []
  park : ParkIs w SK K m []
  row : w.ownsRow 0 66 1 lv i (ptrs i WB)
  works : ∀ k, k < i → Cells w (WB k) [.pointer (some ⟨HB k, 0, none⟩), .int .i64 (-1), .int .i64 0]
  hands : ∀ k, k < i → HandIs w (HB k) (RB k) (-1) room []
  lt : ∀ x, lab x ≠ 0 → x < w.heap.size
  l1 : lab G = 1
  l2 : ∀ x ∈ own lv, lab x = 2
  l3 : ∀ x, FP x → lab x = 3
  l4 : ∀ x ∈ SJ, lab x = 4
  l4f : ∀ x, FJ x → lab x = 4
  l5 : ∀ x ∈ SS, lab x = 5
  l6 : ∀ x ∈ SK, lab x = 6
  lw : ∀ k, k < i → lab (WB k) = 10 + 2 * k
  lh : ∀ k, k < i → lab (HB k) = 11 + 2 * k ∧ lab (RB k) = 11 + 2 * k

/-- One worker more. -/
theorem NewAt.more {w w1 w3 : World} {lab : Nat → Nat} {G J S K b rb : Nat} {pv lv lv' : Value} {SJ SS SK T : List Nat} {FJ FP : Nat → Prop} {WB HB RB : Nat → Nat} {p : PlanL} {room m i : Nat} (h : NewAt w lab G J S K pv lv SJ SS SK FJ FP WB HB RB p room m i)
    (ho1 : Only [] w w1) (hH : HandIs w1 b rb (-1) room []) (hb : w.heap.size ≤ b) (hrb : w.heap.size ≤ rb) (hC : Cells w3 w1.heap.size [.pointer (some ⟨b, 0, none⟩), .int .i64 (-1), .int .i64 0])
    (ho3 : Only T w1 w3) (hT : ∀ x ∈ T, x = G ∨ x ∈ own lv ∨ w1.heap.size ≤ x) (hcells : Cells w3 G [pv, .pointer (some ⟨J, 0, none⟩), .pointer (some ⟨S, 0, none⟩), .pointer (some ⟨K, 0, none⟩), lv'])
    (hrow : w3.ownsRow 0 66 1 lv' (i + 1) (ptrs i WB ++ [.pointer (some ⟨w1.heap.size, 0, none⟩)])) (hk : ∀ x ∈ own lv', x ∈ own lv ∨ w1.heap.size + 1 ≤ x) :
    ∃ lab', NewAt w3 lab' G J S K pv lv' SJ SS SK FJ FP (updA WB i w1.heap.size) (updA HB i b) (updA RB i rb) p room m (i + 1) ∧ ∀ x, lab' x ≠ 0 → lab x ≠ 0 ∨ w.heap.size ≤ x := by
  have hs1 := ho1.size
  have hs3 := ho3.size
  have hbl := hH.cells.lt
  have hrl := hH.ring.lt
  have hwl := hC.lt
  have hfar := Row.far hrow
  obtain ⟨lab', hl⟩ : ∃ lab' : Nat → Nat, lab' = fun x => if x < w.heap.size then lab x else if x = w1.heap.size then 10 + 2 * i else if x = b ∨ x = rb then 11 + 2 * i else if w1.heap.size + 1 ≤ x ∧ x ∈ own lv' then 2 else 0 := ⟨_, rfl⟩
  have hlv : ∀ x, lab' x = if x < w.heap.size then lab x else if x = w1.heap.size then 10 + 2 * i else if x = b ∨ x = rb then 11 + 2 * i else if w1.heap.size + 1 ≤ x ∧ x ∈ own lv' then 2 else 0 := fun x => by rw [hl]
  have old : ∀ {x c : Nat}, lab x = c → c ≠ 0 → lab' x = c := fun {x c} e hc => by rw [hl]; simp only; rw [if_pos (h.lt x (by omega))]; exact e
  have nT : ∀ x, lab x ≠ 0 → lab x ≠ 1 → lab x ≠ 2 → x ∉ T := fun x h0 h1 h2 hx => by
    rcases hT x hx with rfl | hx | hx
    · exact h1 h.l1
    · exact h2 (h.l2 x hx)
    · have := h.lt x h0; omega
  have nb : b ∉ T := fun hx => by
    rcases hT b hx with rfl | hx | hx
    · have := h.lt b (by rw [h.l1]; omega); omega
    · have := h.lt b (by rw [h.l2 b hx]; omega); omega
    · omega
  have nrb : rb ∉ T := fun hx => by
    rcases hT rb hx with rfl | hx | hx
    · have := h.lt rb (by rw [h.l1]; omega); omega
    · have := h.lt rb (by rw [h.l2 rb hx]; omega); omega
    · omega
  have ho : Only T w w3 := (ho1.mono (by simp)).trans ho3 (fun x hx _ => hx)
  refine ⟨lab', ⟨hcells, h.plan.only ho (fun x hx => nT x (by rw [h.l3 x hx]; omega) (by rw [h.l3 x hx]; omega) (by rw [h.l3 x hx]; omega)), h.join.only ho (fun x hx => nT x (by rw [h.l4 x hx]; omega) (by rw [h.l4 x hx]; omega) (by rw [h.l4 x hx]; omega)) (fun x hx => nT x (by rw [h.l4f x hx]; omega) (by rw [h.l4f x hx]; omega) (by rw [h.l4f x hx]; omega)),
    h.spill.only ho (fun x hx => nT x (by rw [h.l5 x hx]; omega) (by rw [h.l5 x hx]; omega) (by rw [h.l5 x hx]; omega)), h.park.only ho (fun x hx => nT x (by rw [h.l6 x hx]; omega) (by rw [h.l6 x hx]; omega) (by rw [h.l6 x hx]; omega)), ?_, fun k hki => ?_, fun k hki => ?_, fun x hx => ?_, old h.l1 (by omega), fun x hx => ?_,
    fun x hx => old (h.l3 x hx) (by omega), fun x hx => old (h.l4 x hx) (by omega), fun x hx => old (h.l4f x hx) (by omega), fun x hx => old (h.l5 x hx) (by omega), fun x hx => old (h.l6 x hx) (by omega), fun k hki => ?_, fun k hki => ?_⟩, fun x hx => ?_⟩
  · rw [ptrs_push, ptrs_congr i _ WB (fun k hk => by simp [updA]; omega)]
    rw [show updA WB i w1.heap.size i = w1.heap.size by simp [updA]]
    exact hrow
  · by_cases e : k = i
    · subst e; rw [show updA WB k w1.heap.size k = w1.heap.size by simp [updA], show updA HB k b k = b by simp [updA]]; exact hC
    · rw [show updA WB i w1.heap.size k = WB k by simp [updA, e], show updA HB i b k = HB k by simp [updA, e]]
      exact (h.works k (by omega)).only ho (nT _ (by rw [h.lw k (by omega)]; omega) (by rw [h.lw k (by omega)]; omega) (by rw [h.lw k (by omega)]; omega))
  · by_cases e : k = i
    · subst e; rw [show updA HB k b k = b by simp [updA], show updA RB k rb k = rb by simp [updA]]; exact hH.only ho3 nb nrb
    · rw [show updA HB i b k = HB k by simp [updA, e], show updA RB i rb k = RB k by simp [updA, e]]
      obtain ⟨e1, e2⟩ := h.lh k (by omega)
      exact (h.hands k (by omega)).only ho (nT _ (by rw [e1]; omega) (by rw [e1]; omega) (by rw [e1]; omega)) (nT _ (by rw [e2]; omega) (by rw [e2]; omega) (by rw [e2]; omega))
  · rw [hl] at hx
    simp only at hx
    split at hx
    · omega
    · split at hx
      · omega
      · split at hx
        · rename_i e; rcases e with e | e <;> omega
        · split at hx
          · rename_i e; exact (hfar x e.2).2
          · omega
  · rcases hk x hx with h1 | h1
    · exact old (h.l2 x h1) (by omega)
    · rw [hl]
      simp only
      rw [if_neg (by omega), if_neg (by omega), if_neg (by omega), if_pos ⟨h1, hx⟩]
  · by_cases e : k = i
    · subst e; rw [show updA WB k w1.heap.size k = w1.heap.size by simp [updA], hlv, if_neg (by omega), if_pos rfl]
    · rw [show updA WB i w1.heap.size k = WB k by simp [updA, e]]; exact old (h.lw k (by omega)) (by omega)
  · by_cases e : k = i
    · subst e
      rw [show updA HB k b k = b by simp [updA], show updA RB k rb k = rb by simp [updA], hlv, hlv, if_neg (by omega), if_neg (by omega), if_pos (.inl rfl), if_neg (by omega), if_neg (by omega), if_pos (.inr rfl)]
      exact ⟨rfl, rfl⟩
    · rw [show updA HB i b k = HB k by simp [updA, e], show updA RB i rb k = RB k by simp [updA, e]]
      exact ⟨old (h.lh k (by omega)).1 (by omega), old (h.lh k (by omega)).2 (by omega)⟩
  · rw [hl] at hx
    simp only at hx
    split at hx
    · exact .inl hx
    · right; omega

/-- All are there. -/
theorem NewAt.gang {w : World} {lab : Nat → Nat} {G J S K : Nat} {pv lv : Value} {SJ SS SK : List Nat} {FJ FP : Nat → Prop} {WB HB RB : Nat → Nat} {p : PlanL} {room m : Nat} (h : NewAt w lab G J S K pv lv SJ SS SK FJ FP WB HB RB p room m m) (h1 : 1 ≤ m) (h6 : m ≤ 6) :
    ∃ L cap, GangAt w lab ⟨G, J, S, K, L, cap, pv, SJ, FJ, FP, WB, HB, RB⟩ SS SK p room m ⟨fun _ => false, [], [], fun _ => ⟨-1, [], -1, 0⟩⟩ := by
  obtain ⟨a, cap, rfl, hc, hm, hf⟩ := Row.form h.row
  obtain ⟨L, rfl, _, _⟩ := hf (by omega)
  refine ⟨L, cap, ⟨h.cells, h.plan, h.join, h.spill, h.park, fun k hk => ?_, h.works, h.hands, h.lt, h.l1, h.l2 L (by simp [own, Value.ownBlock]), h.l3, h.l4, h.l4f, h.l5, h.l6, h.lw, h.lh, h1, h6, hc, hm⟩⟩
  rw [World.ownsRow.cellAt h.row k (by omega)]
  simp [ptrs, hk]

/-- What gang.New refuses. -/
noncomputable def gErr (p : PlanL) (hands room : Int) : Int := if planFault p = 0 then (if 1 ≤ hands ∧ hands ≤ 6 ∧ 1 ≤ room ∧ room ≤ 16 then 0 else 1) else planFault p

end Go.Proofs.Ytocpmncedlenbaa
