/-
  Slices of ints that the call itself made: what they hold, how they are kept, one number appended.
  More facts on slices of ints: a value's form as one slice, whether it is empty or not.
  Slices of structs: addresses, pairs that came in.
  Slices of structs that the call itself made: appended to, read, written. k: how many cells an element has.
-/
import Derived.Test.YtocpmncedlenbaaGreatDoorP1GangPlays
import Derived.Test.YtocpmncedlenbaaGreatDoorRows
import Derived.Deep.SlicePairs
namespace Go.Proofs.YtocpmncedlenbaaGreatDoor
open Go.RowKit

/-- A slice value v holds the numbers xs; its memory lies from block 'base' on. -/
def Ints (w : World) (base : Nat) (v : Value) (xs : List Int) : Prop := w.ownsRow base 3 1 v xs.length (xs.map (Value.int .i64))

theorem Ints.nil (w : World) (base : Nat) : Ints w base (.slice none 0 0) [] := World.ownsRow_nil _ _ _ _

theorem Ints.drew {w : World} {base : Nat} {v : Value} {xs : List Int} (h : Ints w base v xs) : Ints w.drew base v xs := h
theorem Ints.drewN {w : World} {base : Nat} {v : Value} {xs : List Int} (h : Ints w base v xs) (n : Nat) : Ints (w.drewN n) base v xs := h

theorem Ints.mono {w : World} {base base' : Nat} {v : Value} {xs : List Int} (h : Ints w base v xs) (hb : base' ≤ base) : Ints w base' v xs := by
  obtain ⟨h1, h2⟩ := h
  refine ⟨h1, ?_⟩
  rcases h2 with h2 | ⟨g, cap, cur, hv, hg, hh, r⟩
  · exact .inl h2
  · exact .inr ⟨g, cap, cur, hv, by omega, hh, r⟩

/-- The form of such a value. -/
theorem Ints.form {w : World} {base : Nat} {v : Value} {xs : List Int} (h : Ints w base v xs) :
    (v = .slice none 0 0 ∧ xs = []) ∨ ∃ g cap, v = .slice (some ⟨g, 0, none⟩) xs.length cap ∧ base ≤ g ∧ g < w.heap.size ∧ xs.length ≤ cap ∧ cap ≤ maxLen := by
  rcases h.2 with ⟨h1, h2⟩ | ⟨g, cap, cur, hv, hb, hg, hc, hm, _⟩
  · exact .inl ⟨h1, List.length_eq_zero_iff.1 h2⟩
  · refine .inr ⟨g, cap, hv, hb, ?_, hc, hm⟩
    rcases Nat.lt_or_ge g w.heap.size with hlt | hge
    · exact hlt
    · rw [Array.getElem?_eq_none hge] at hg; cases hg

theorem Ints.cell {w : World} {base g n cap : Nat} {xs : List Int} (h : Ints w base (.slice (some ⟨g, 0, none⟩) n cap) xs) (i : Nat) (hi : i < xs.length) :
    w.cell? ⟨g, i, none⟩ = some (.int .i64 (nth xs i)) := by
  have e : n = xs.length := by
    rcases h.2 with ⟨h1, _⟩ | ⟨_, _, _, hv, _⟩
    · cases h1
    · injection hv
  subst e
  rw [World.ownsRow.cellAt h i (by omega)]
  simp [nth, hi]

theorem Ints.free {w : World} {base g n cap : Nat} {xs : List Int} (h : Ints w base (.slice (some ⟨g, 0, none⟩) n cap) xs) (i : Nat) :
    w.frozen? ⟨g, i, none⟩ = false := by
  have e : n = xs.length := by
    rcases h.2 with ⟨h1, _⟩ | ⟨_, _, _, hv, _⟩
    · cases h1
    · injection hv
  subst e
  exact World.ownsRow.frozenAt h i

theorem Ints.only {w w' : World} {base : Nat} {v : Value} {xs : List Int} {S : List Nat} (h : Ints w base v xs) (ho : Only S w w') (hS : ∀ g, v.ownBlock = some g → g ∉ S) : Ints w' base v xs := by
  obtain ⟨h1, h2⟩ := h
  refine ⟨h1, ?_⟩
  rcases h2 with h2 | ⟨g, cap, cur, hv, hg, hh, r⟩
  · exact .inl h2
  · refine .inr ⟨g, cap, cur, hv, hg, ?_, r⟩
    have hlt : g < w.heap.size := by
      rcases Nat.lt_or_ge g w.heap.size with hlt | hge
      · exact hlt
      · rw [Array.getElem?_eq_none hge] at hh; cases hh
    rw [ho.block g hlt (hS g (by rw [hv]; rfl))]
    exact hh

/-- .. where what may have changed lies below its memory. -/
theorem Ints.only_low {w w' : World} {base : Nat} {v : Value} {xs : List Int} {S : List Nat} (h : Ints w base v xs) (ho : Only S w w') (hS : ∀ x ∈ S, x < base) : Ints w' base v xs :=
  h.only ho fun g hg hx => by
    have := (World.ownsRow.lt h) g hg
    have := hS g hx
    omega

/-- The value itself, its length a letter. -/
theorem Ints.shape {w : World} {base : Nat} {v : Value} {xs : List Int} (h : Ints w base v xs) : v = .slice none 0 0 ∨ ∃ g m cap, v = .slice (some ⟨g, 0, none⟩) m cap := by
  rcases h.form with ⟨rfl, _⟩ | ⟨g, cap, rfl, _⟩
  · exact .inl rfl
  · exact .inr ⟨_, _, _, rfl⟩

/-- The value of a list that is not empty, its length as it is called. -/
theorem Ints.sized {w : World} {base : Nat} {v : Value} {xs : List Int} (h : Ints w base v xs) (N : Nat) (hN : xs.length = N) (h0 : 0 < N) : ∃ g cap, v = .slice (some ⟨g, 0, none⟩) N cap ∧ base ≤ g ∧ g < w.heap.size := by
  rcases h.form with ⟨_, rfl⟩ | ⟨g, cap, rfl, h1, h2, _⟩
  · simp at hN; omega
  · exact ⟨g, cap, by rw [hN], h1, h2⟩

/-- One element stored. -/
theorem Ints.set {w : World} {base g n cap : Nat} {xs : List Int} (h : Ints w base (.slice (some ⟨g, 0, none⟩) n cap) xs) (i : Nat) (x : Int) :
    Ints (w.setCell ⟨g, i, none⟩ (.int .i64 x)) base (.slice (some ⟨g, 0, none⟩) n cap) (xs.set i x) := by
  have e : n = xs.length := by
    rcases h.2 with ⟨h1, _⟩ | ⟨_, _, _, hv, _⟩
    · cases h1
    · injection hv
  subst e
  have := World.ownsRow.stored h i (.int .i64 x)
  unfold Ints
  simpa [List.map_set] using this.1

theorem info_int : ∃ i0, Tryz.prog.info? 3 = some i0 ∧ i0.zero = some (.int .i64 0) ∧ i0.size = 1 ∧ i0.bytes = 8 :=
  info_parts (show (Tryz.prog.info? 3).map (fun i => (i.zero, i.size, i.bytes)) = some (some (.int .i64 0), 1, 8) by kernel_rfl)

/-- The block of a slice value, as a list. -/
def own (v : Value) : List Nat := v.ownBlock.toList

theorem Only.pushed {S : List Nat} {a W w' : World} {base : Nat} {v : Value} {xs : List Int} (h : Only S a W) (hI : Ints W base v xs) (hb : a.heap.size ≤ base) (ho : Only (own v) W w') : Only S a w' := by
  refine h.trans ho fun x hx hlt => ?_
  have := (World.ownsRow.lt hI) x (by simpa [own] using hx)
  omega

theorem Ints.far {w : World} {base : Nat} {v : Value} {xs : List Int} (h : Ints w base v xs) {b : Nat} (hb : b < base) : b ∉ own v := fun hx => by
  have := (World.ownsRow.lt h) b (by simpa [own] using hx)
  omega

theorem take_succ_nth (l : List Int) (k : Nat) (h : k < l.length) : l.take (k + 1) = l.take k ++ [nth l k] := by
  rw [List.take_succ_eq_append_getElem h]
  simp [nth, h]
theorem drop_nth (l : List Int) (k : Nat) (h : k < l.length) : l.drop k = nth l k :: l.drop (k + 1) := by
  rw [List.drop_eq_getElem_cons h]
  simp [nth, h]

/-- One number appended, in a plain region. W: the world in which the slice was known; since then only new blocks have come. -/
theorem wpList_push {ops : Array Oper} {rest : List Oper} {o : Oper} {a : Act} {w : World} {Q : Exit → Act → World → Prop} (hgd : o.guard = none) (s x : Operand)
    (ho : o.op = .call { callee := .builtin .append, args := #[s, x], argTypes := #[32, 32] })
    (W : World) (base : Nat) (v : Value) (xs : List Int) (B : Nat) (n : Int) (m : Nat) (hown : Ints W base v xs) (hm : xs.length = m) (hlen : m ≤ 1000000000) (hbase : base ≤ W.heap.size)
    (hs : a.eval s = v) (hx : a.eval x = .slice (some ⟨B, 0, none⟩) 1 1) (hW : Only [] W w) (hc : w.cell? ⟨B, 0, none⟩ = some (.int .i64 n))
    (h : ∀ g cap w', Ints w' base (.slice (some ⟨g, 0, none⟩) (m + 1) cap) (xs ++ [n]) → Only (own v) W w' → (g ∈ own v ∨ W.heap.size ≤ g) →
      wpList Tryz.prog ops Q rest (a.put o.dst (.slice (some ⟨g, 0, none⟩) (m + 1) cap)) w') : wpList Tryz.prog ops Q (o :: rest) a w := by
  obtain ⟨i0, hi, hz0, hz1, hz2⟩ := info_int
  have hb := hW.size
  subst hm
  refine wpList_append_lies w hgd s x 32 ho base 3 i0 (.int .i64 0) 1 8 Tryz.underlying32 hi hz0 hz1 hz2 rfl (by decide) v xs.length _ hs (hown.only hW (by simp)) ⟨B, 0, none⟩ 1 1 [.int .i64 n] hx rfl ?_ ?_ (by decide) (by unfold maxLen; omega) (by omega) (by omega) _ rfl ?_
  · intro j u hj
    rcases j with _ | j
    · simp at hj; subst hj; exact hc
    · simp at hj
  · intro u hu; simp at hu; subst hu; rfl
  · intro g cap w' h1 h2 h3 _
    refine h g cap w' ?_ ((hW.mono (by simp)).grown h2 (fun k hk _ => by simp [own, hk])) (h3.imp (fun e => by simp [own, e]) (fun e => by omega))
    unfold Ints
    simpa using h1

/-- .. at a step of a region that draws its order. -/
theorem step_push {ops : Array Oper} {o : Oper} {a : Act} {w : World} {K : Act → World → Prop} {Q : Exit → Act → World → Prop} {E : Prop} (hgd : o.guard = none) (s x : Operand)
    (ho : o.op = .call { callee := .builtin .append, args := #[s, x], argTypes := #[32, 32] })
    (W : World) (base : Nat) (v : Value) (xs : List Int) (B : Nat) (n : Int) (m : Nat) (hown : Ints W base v xs) (hm : xs.length = m) (hlen : m ≤ 1000000000) (hbase : base ≤ W.heap.size)
    (hs : a.eval s = v) (hx : a.eval x = .slice (some ⟨B, 0, none⟩) 1 1) (hW : Only [] W w) (hc : w.cell? ⟨B, 0, none⟩ = some (.int .i64 n))
    (h : ∀ g cap w', Ints w' base (.slice (some ⟨g, 0, none⟩) (m + 1) cap) (xs ++ [n]) → Only (own v) W w' → (g ∈ own v ∨ W.heap.size ≤ g) →
      K (a.put o.dst (.slice (some ⟨g, 0, none⟩) (m + 1) cap)) w') : if Region.wanted o (yielded ops a.tmps) = true then Oper.wp Tryz.prog o a w K Q else E := by
  obtain ⟨i0, hi, hz0, hz1, hz2⟩ := info_int
  have hb := hW.size
  subst hm
  refine step_append_lies w hgd s x 32 ho base 3 i0 (.int .i64 0) 1 8 Tryz.underlying32 hi hz0 hz1 hz2 rfl (by decide) v xs.length _ hs (hown.only hW (by simp)) ⟨B, 0, none⟩ 1 1 [.int .i64 n] hx rfl ?_ ?_ (by decide) (by unfold maxLen; omega) (by omega) (by omega) _ rfl ?_
  · intro j u hj
    rcases j with _ | j
    · simp at hj; subst hj; exact hc
    · simp at hj
  · intro u hu; simp at hu; subst hu; rfl
  · intro g cap w' h1 h2 h3 _
    refine h g cap w' ?_ ((hW.mono (by simp)).grown h2 (fun k hk _ => by simp [own, hk])) (h3.imp (fun e => by simp [own, e]) (fun e => by omega))
    unfold Ints
    simpa using h1

/-- The value v is a slice that reads as the numbers l, wherever it came from. -/
def Reads (w : World) (v : Value) (l : List Int) : Prop :=
  (l = [] ∧ (v = .slice none 0 0 ∨ ∃ x cap, v = .slice (some x) 0 cap ∧ cap ≤ maxLen)) ∨
  (0 < l.length ∧ ∃ b off cap, v = .slice (some ⟨b, off, none⟩) l.length cap ∧ l.length ≤ cap ∧ cap ≤ maxLen ∧ ∀ i, i < l.length → w.cell? ⟨b, off + i, none⟩ = some (.int .i64 (nth l i)))

theorem Ints.reads {w : World} {base : Nat} {v : Value} {xs : List Int} (h : Ints w base v xs) : Reads w v xs := by
  rcases h.form with ⟨rfl, rfl⟩ | ⟨g, cap, rfl, _, _, h1, h2⟩
  · exact .inl ⟨rfl, .inl rfl⟩
  · by_cases h0 : xs = []
    · subst h0
      exact .inl ⟨rfl, .inr ⟨_, cap, rfl, h2⟩⟩
    · exact .inr ⟨List.length_pos_iff.2 h0, g, 0, cap, rfl, h1, h2, fun i hi => by rw [Nat.zero_add]; exact h.cell i hi⟩

theorem Reads.drewN {w : World} {v : Value} {l : List Int} (h : Reads w v l) (n : Nat) : Reads (w.drewN n) v l := h

theorem Reads.cells {w w' : World} {v : Value} {l : List Int} (h : Reads w v l) (hc : ∀ b o x, w.cell? ⟨b, o, none⟩ = some x → some b = v.ownBlock → w'.cell? ⟨b, o, none⟩ = some x) : Reads w' v l := by
  rcases h with h | ⟨h0, b, off, cap, rfl, h1, h2, h3⟩
  · exact .inl h
  · exact .inr ⟨h0, b, off, cap, rfl, h1, h2, fun i hi => hc _ _ _ (h3 i hi) rfl⟩

theorem Reads.only {w w' : World} {v : Value} {l : List Int} {S : List Nat} (h : Reads w v l) (ho : Only S w w') (hS : ∀ g, v.ownBlock = some g → g ∉ S) : Reads w' v l :=
  h.cells fun b o _ hx hb => (ho.cell (p := ⟨b, o, none⟩) (cell_lt hx) (hS b hb.symm)).trans hx

theorem Reads.same {w w' : World} {v : Value} {l : List Int} (h : Reads w v l) (ho : Only [] w w') : Reads w' v l := h.only ho (by simp)

theorem kin_of {W w : World} {v v' : Value} (h : v'.ownBlock = v.ownBlock ∨ v'.ownBlock = some w.heap.size) (hs : W.heap.size ≤ w.heap.size) : Kin W (own v) (own v') := by
  intro x hx
  rcases h with h | h
  · exact .inl (by simpa [own, h] using hx)
  · right
    have : x = w.heap.size := by simpa [own, h] using hx
    omega

/-- A new list, made by append out of one that reads as l: 'append([]int{}, s...)', 'append([]int(nil), s...)' and the like, in a plain region. -/
theorem wpList_append_reads {ops : Array Oper} {rest : List Oper} {o : Oper} {a : Act} {w : World} {Q : Exit → Act → World → Prop} (hgd : o.guard = none) (s x : Operand)
    (ho : o.op = .call { callee := .builtin .append, args := #[s, x], argTypes := #[32, 32] })
    (W : World) (base : Nat) (v : Value) (xs : List Int) (u : Value) (ys : List Int) (hown : Ints W base v xs) (hu : Reads W u ys) (hlen : xs.length + ys.length ≤ 1000000000) (hbase : base ≤ W.heap.size)
    (hs : a.eval s = v) (hx : a.eval x = u) (hW : Only [] W w)
    (h : ∀ v' w', Ints w' base v' (xs ++ ys) → Only (own v) W w' → Kin W (own v) (own v') →
      wpList Tryz.prog ops Q rest (a.put o.dst v') w') : wpList Tryz.prog ops Q (o :: rest) a w := by
  obtain ⟨i0, hi, hz0, hz1, hz2⟩ := info_int
  have hb := hW.size
  have hown' := hown.only hW (by simp)
  rcases hu with ⟨rfl, rfl | ⟨y, cap, rfl, hcap⟩⟩ | ⟨h0, b, off, cap, rfl, h1, h2, h3⟩
  · refine wpList_append_own_none hgd s x 32 ho base 3 i0 1 Tryz.underlying32 hi v xs.length _ hs hown' hx ?_
    exact h v w (by simpa using hown') (hW.mono (by simp)) (Kin.refl _ _)
  · refine wpList_append_own_at w hgd s x 32 ho base 3 i0 (.int .i64 0) 1 8 Tryz.underlying32 hi hz0 hz1 hz2 rfl (by decide) v xs.length _ hs hown' y 0 cap [] hx rfl (by simp) (by simp) (by unfold maxLen; simp at hlen; omega) (by simp at hlen; omega) (by omega) ?_
    intro v' w' k1 k2 _ k4
    refine h v' w' ?_ ((hW.mono (by simp)).grown k2 (fun k hk _ => by simp [own, hk])) (kin_of k4 hb)
    unfold Ints
    simpa using k1
  · refine wpList_append_own_at w hgd s x 32 ho base 3 i0 (.int .i64 0) 1 8 Tryz.underlying32 hi hz0 hz1 hz2 rfl (by decide) v xs.length _ hs hown' ⟨b, off, none⟩ ys.length cap (ys.map (Value.int .i64)) hx (by simp) ?_ ?_ (by unfold maxLen; omega) (by omega) (by omega) ?_
    · intro j u hj
      have hjl : j < ys.length := by
        rcases Nat.lt_or_ge j ys.length with h | h
        · exact h
        · rw [List.getElem?_eq_none (by simpa using h)] at hj; cases hj
      have e : u = .int .i64 (nth ys j) := by
        rw [List.getElem?_map, List.getElem?_eq_getElem hjl] at hj
        simp at hj
        rw [← hj]
        simp [nth, hjl]
      have e2 : ({ block := b, off := off, spot := none } : Addr).add j = ⟨b, off + j, none⟩ := by
        unfold Addr.add
        split
        · rename_i h; subst h; rfl
        · rfl
      have hcell := h3 j hjl
      rw [e, e2, hW.cell (p := ⟨b, off + j, none⟩) (cell_lt hcell) (by simp)]
      exact hcell
    · intro u hu
      simp at hu
      obtain ⟨n, _, rfl⟩ := hu
      rfl
    · intro v' w' k1 k2 _ k4
      refine h v' w' ?_ ((hW.mono (by simp)).grown k2 (fun k hk _ => by simp [own, hk])) (kin_of k4 hb)
      unfold Ints
      simpa using k1

theorem Ints.reads_take {w : World} {base g N cap : Nat} {xs : List Int} (h : Ints w base (.slice (some ⟨g, 0, none⟩) N cap) xs) (k : Nat) (hk : k ≤ xs.length) (hc : xs.length ≤ cap) (hm : cap ≤ maxLen) :
    Reads w (.slice (some ⟨g, 0, none⟩) k cap) (xs.take k) := by
  have hl : (xs.take k).length = k := by simp; omega
  by_cases h0 : k = 0
  · subst h0
    exact .inl ⟨by simp, .inr ⟨_, cap, rfl, hm⟩⟩
  · refine .inr ⟨by omega, g, 0, cap, by rw [hl], by omega, hm, fun i hi => ?_⟩
    rw [hl] at hi
    rw [Nat.zero_add, h.cell i (by omega)]
    simp [nth, hi]

theorem Ints.reads_drop {w : World} {base g N cap : Nat} {xs : List Int} (h : Ints w base (.slice (some ⟨g, 0, none⟩) N cap) xs) (k : Nat) (hk : k ≤ xs.length) (hc : xs.length ≤ cap) (hm : cap ≤ maxLen) (m : Nat) (hm' : m = xs.length - k) :
    Reads w (.slice (some ⟨g, k, none⟩) m (cap - k)) (xs.drop k) := by
  subst hm'
  have hl : (xs.drop k).length = xs.length - k := by simp
  by_cases h0 : k = xs.length
  · subst h0
    exact .inl ⟨by simp, .inr ⟨_, _, by rw [Nat.sub_self], by omega⟩⟩
  · refine .inr ⟨by omega, g, k, cap - k, by rw [hl], by omega, by omega, fun i hi => ?_⟩
    rw [hl] at hi
    rw [h.cell (k + i) (by omega)]
    simp [nth]

end Go.Proofs.YtocpmncedlenbaaGreatDoor

namespace Go.Proofs.YtocpmncedlenbaaGreatDoor
open Go.RowKit

theorem InInts.opt {w : World} {v : Value} {l : List Int} (h : InInts w v l) :
    ∃ a cap, v = .slice a l.length cap ∧ ∀ i, i < l.length → ∃ b off, a = some ⟨b, off, none⟩ ∧ w.cell? ⟨b, off + i, none⟩ = some (.int .i64 (nth l i)) := by
  rcases h.2 with ⟨rfl, a, cap, rfl, _⟩ | ⟨_, b, off, cap, rfl, _, _, hc⟩
  · exact ⟨a, cap, rfl, fun i hi => by simp at hi⟩
  · exact ⟨_, cap, rfl, fun i hi => ⟨b, off, rfl, hc i hi⟩⟩

theorem InInts.reads {w : World} {v : Value} {l : List Int} (h : InInts w v l) : Reads w v l := by
  rcases h.2 with ⟨rfl, a, cap, rfl, k1, k2⟩ | ⟨h0, b, off, cap, rfl, k1, k2, k3⟩
  · cases a with
    | none => rw [k2 rfl]; exact .inl ⟨rfl, .inl rfl⟩
    | some x => exact .inl ⟨rfl, .inr ⟨x, cap, rfl, k1⟩⟩
  · exact .inr ⟨h0, b, off, cap, rfl, k1, k2, k3⟩

theorem InInts.len {w : World} {v : Value} {l : List Int} (h : InInts w v l) : l.length ≤ maxLen := by
  rcases h.2 with ⟨rfl, _⟩ | ⟨_, b, off, cap, rfl, k1, k2, _⟩
  · exact Nat.zero_le _
  · omega

theorem InInts.bounds {w : World} {v : Value} {l : List Int} (h : InInts w v l) : ∀ x ∈ l, -9223372036854775808 ≤ x ∧ x ≤ 9223372036854775807 := fun x hx => bounds_i64 (h.1 x hx)

theorem Ints.opt {w : World} {base : Nat} {v : Value} {xs : List Int} (h : Ints w base v xs) :
    ∃ a cap, v = .slice a xs.length cap ∧ ∀ i, i < xs.length → ∃ g, a = some ⟨g, 0, none⟩ ∧ w.cell? ⟨g, i, none⟩ = some (.int .i64 (nth xs i)) := by
  rcases h.form with ⟨rfl, rfl⟩ | ⟨g, cap, rfl, _⟩
  · exact ⟨none, 0, rfl, fun i hi => by simp at hi⟩
  · exact ⟨_, cap, rfl, fun i hi => ⟨g, rfl, h.cell i hi⟩⟩

theorem Ints.own_lt {w : World} {base : Nat} {v : Value} {xs : List Int} (h : Ints w base v xs) : ∀ x ∈ own v, base ≤ x ∧ x < w.heap.size := fun x hx =>
  (World.ownsRow.lt h) x (by simpa [own] using hx)

/-- What was apart stays apart behind a call that keeps its blocks, or takes new ones. -/
theorem kin_apart {w : World} {fp fp' S : List Nat} (h : Kin w fp fp') (hS : ∀ x ∈ S, x < w.heap.size) (hd : ∀ x ∈ S, x ∉ fp) : ∀ x ∈ S, x ∉ fp' := fun x hx hx' => by
  rcases h x hx' with h1 | h1
  · exact hd x hx h1
  · have := hS x hx; omega

theorem apart_symm {A B : List Nat} (h : ∀ x ∈ A, x ∉ B) : ∀ x ∈ B, x ∉ A := fun x hx hx' => h x hx' hx

theorem kin_push {W : World} {v : Value} {g n cap : Nat} (h : g ∈ own v ∨ W.heap.size ≤ g) : Kin W (own v) (own (.slice (some ⟨g, 0, none⟩) n cap)) := fun x hx => by
  obtain rfl : x = g := by simpa [own, Value.ownBlock] using hx
  exact h

theorem kin_ge {w : World} {fp fp' : List Nat} {B : Nat} (h : Kin w fp fp') (h1 : ∀ x ∈ fp, B ≤ x) (h2 : B ≤ w.heap.size) : ∀ x ∈ fp', B ≤ x := fun x hx => by
  rcases h x hx with h3 | h3
  · exact h1 x h3
  · omega

theorem Only.kin {w0 w w' : World} {fp : List Nat} (h : Only [] w0 w) (k : Only fp w w') (hfp : ∀ x ∈ fp, w0.heap.size ≤ x) : Only [] w0 w' :=
  h.trans k fun x hx hl => absurd (hfp x hx) (by omega)

/-- A callee that leaves the world alone, met in a region that draws. -/
theorem quiet_eq {P : Program} {f : FuncId} {args : Array Value} {w : World} {n : Nat} {v : Value}
    (h : Calls P f args (w.drewN n) fun e w' => e = .returned v ∧ w.drewN n = w') : Calls P f args (w.drewN n) fun e w'' => e = .returned v ∧ ∃ m, w'' = w.drewN m :=
  h.mono fun _ _ ⟨he, hm⟩ => ⟨he, n, hm.symm⟩

theorem Reads.opt {w : World} {v : Value} {xs : List Int} (h : Reads w v xs) :
    ∃ a cap, v = .slice a xs.length cap ∧ ∀ i, i < xs.length → ∃ b off, a = some ⟨b, off, none⟩ ∧ w.cell? ⟨b, off + i, none⟩ = some (.int .i64 (nth xs i)) := by
  rcases h with ⟨rfl, rfl | ⟨x, cap, rfl, _⟩⟩ | ⟨_, b, off, cap, rfl, _, _, hc⟩
  · exact ⟨none, 0, rfl, fun i hi => by simp at hi⟩
  · exact ⟨_, cap, rfl, fun i hi => by simp at hi⟩
  · exact ⟨_, cap, rfl, fun i hi => ⟨b, off, rfl, hc i hi⟩⟩

theorem own_of {v : Value} {g : Nat} (h : v.ownBlock = some g) : g ∈ own v := by simp [own, h]

theorem own_slice (a : Option Addr) (n c n' c' : Nat) : own (.slice a n c) = own (.slice a n' c') := by cases a <;> rfl

theorem cell_drewN (w : World) (n : Nat) (p : Addr) : (w.drewN n).cell? p = w.cell? p := rfl

theorem size_alloc (w : World) (o : Obj) : (w.alloc o).heap.size = w.heap.size + 1 := by simp

/-- The length of a slice value. -/
def lenOfV : Value → Nat | .slice _ n _ => n | _ => 0

end Go.Proofs.YtocpmncedlenbaaGreatDoor

namespace Go.Proofs.YtocpmncedlenbaaGreatDoor
open Go.RowKit Go.Deep Go.ChangeShapes Go.WideShapes

theorem spot_none {w : World} {x : Addr} {v : Value} (h : w.cell? (x.add 0) = some v) : x.spot = none := by
  unfold World.cell? at h
  split at h
  · cases hsp : x.spot with
    | none => rfl
    | some y => simp [Addr.add, hsp] at h
  · cases h

theorem add_flat (b off n : Nat) : ({ block := b, off := off, spot := none } : Addr).add n = ⟨b, off + n, none⟩ := by
  unfold Addr.add
  split
  · rename_i h; subst h; rfl
  · rfl

/-- The value v is a slice of n pairs; the cells of the i-th are A i, B i. -/
def Pairs (w : World) (v : Value) (n : Nat) (A B : Nat → Value) : Prop :=
  ∃ a cap, v = .slice a n cap ∧ n ≤ cap ∧ cap ≤ maxLen ∧ (a = none → cap = 0) ∧ ∀ i, i < n → ∃ b off, a = some ⟨b, off, none⟩ ∧
    w.cell? ⟨b, off + i * 2, none⟩ = some (A i) ∧ w.cell? ⟨b, off + i * 2 + 1, none⟩ = some (B i)

theorem Pairs.only {w w' : World} {v : Value} {n : Nat} {A B : Nat → Value} {S : List Nat} (h : Pairs w v n A B) (ho : Only S w w') (hS : ∀ x ∈ own v, x ∉ S) : Pairs w' v n A B := by
  obtain ⟨a, cap, rfl, h1, h2, h0, h3⟩ := h
  refine ⟨a, cap, rfl, h1, h2, h0, fun i hi => ?_⟩
  obtain ⟨b, off, rfl, c0, c1⟩ := h3 i hi
  have hb : b ∉ S := hS b (by simp [own, Value.ownBlock])
  exact ⟨b, off, rfl, (ho.cell (p := ⟨b, _, none⟩) (cell_lt c0) hb).trans c0, (ho.cell (p := ⟨b, _, none⟩) (cell_lt c1) hb).trans c1⟩

theorem Pairs.same {w w' : World} {v : Value} {n : Nat} {A B : Nat → Value} (h : Pairs w v n A B) (ho : Only [] w w') : Pairs w' v n A B := h.only ho (by simp)

set_option maxRecDepth 100000 in
/-- A slice of pairs that came in. -/
theorem open_pairs {H : Type} {enc : TypeId × Value → H} {W : World} {base : Nat} {t e : TypeId} {f0 f1 : Field} {v : Value} {d : DataW H} {p : List MemPlace}
    (ht : Tryz.prog.underlying t = some (.slice e)) (he : Tryz.prog.underlying e = some (.struct #[f0, f1]))
    (ce : Tryz.prog.cellsOf e = 2) (o0 : f0.offset = 0) (o1 : f1.offset = 1) (c0 : Tryz.prog.cellsOf f0.type = 1) (c1 : Tryz.prog.cellsOf f1.type = 1)
    (hv : Value.okWide Tryz.prog W .any base t v) (h : DataW.Trod enc Tryz.prog W 0 (fun _ => true) true t v d p) :
    ∃ (n : Nat) (A B : Nat → Value), Pairs W v n A B ∧ ∀ i, i < n → ∃ (k : Nat) (x y : DataW H × List MemPlace),
      DataW.trod enc Tryz.prog W 0 (fun _ => true) true k f0.type [A i] = some x ∧ DataW.trod enc Tryz.prog W 0 (fun _ => true) true k f1.type [B i] = some y := by
  obtain ⟨s, len, cap, rfl⟩ := okWide_slice ht hv
  obtain ⟨fuel, hf⟩ := h
  rcases open_slice_pairs ht he ce o0 o1 c0 c1 hf with ⟨hcs, _⟩ | ⟨a, len', cap', m, n, V0, V1, D0, D1, P0, P1, hcs, _, hl, hm, hmm, _, hi⟩
  · simp [Value.cells] at hcs
    obtain ⟨rfl, rfl, rfl⟩ := hcs
    exact ⟨0, fun _ => .nilIface, fun _ => .nilIface, ⟨none, 0, rfl, Nat.le_refl _, Nat.zero_le _, fun _ => rfl, fun i hi => by omega⟩, fun i hi => by omega⟩
  · simp [Value.cells] at hcs
    obtain ⟨rfl, rfl, rfl⟩ := hcs
    have hlm : len ≤ m := by rw [hmm]; simp; omega
    refine ⟨len, V0, V1, ⟨_, _, rfl, hl, hm, (fun h => by cases h), fun i hi' => ?_⟩, fun i hi' => ?_⟩
    · obtain ⟨k0, _, _, _⟩ := hi 0 (by omega)
      have hs := spot_none (x := a) (by simpa using k0)
      obtain ⟨b, off, spot⟩ := a
      obtain rfl : spot = none := hs
      obtain ⟨k0, k1, _, _⟩ := hi i (by omega)
      rw [add_flat] at k0 k1
      exact ⟨b, off, rfl, k0, by rw [Nat.add_assoc]; exact k1⟩
    · obtain ⟨_, _, k2, k3⟩ := hi i (by omega)
      exact ⟨n, _, _, k2, k3⟩

end Go.Proofs.YtocpmncedlenbaaGreatDoor

namespace Go.Proofs.YtocpmncedlenbaaGreatDoor
open Go.RowKit

/-- t is the type of slices of e; an element has k cells. -/
structure SliceOf (t e : TypeId) (k bytes : Nat) : Prop where
  under : Tryz.prog.underlying t = some (.slice e)
  info : ∃ i0 z, Tryz.prog.info? e = some i0 ∧ i0.zero = some z ∧ i0.size = k ∧ i0.bytes = bytes ∧ z.cells.size = k
  pos : 0 < k
  small : bytes ≤ 100

theorem sliceOf_parts {t e : TypeId} {k bytes : Nat} {z : Value} (h1 : Tryz.prog.underlying t = some (.slice e)) (h2 : (Tryz.prog.info? e).map (fun i => (i.zero, i.size, i.bytes)) = some (some z, k, bytes))
    (h3 : z.cells.size = k) (h4 : 0 < k) (h5 : bytes ≤ 100) : SliceOf t e k bytes := by
  obtain ⟨i0, a, b, c, d⟩ := info_parts h2
  exact ⟨h1, ⟨i0, z, a, b, c, d, h3⟩, h4, h5⟩

/-- m elements of k cells are read from the slice value u. -/
def RowAt (w : World) (u : Value) (m k : Nat) (ys : List Value) : Prop :=
  ys.length = m * k ∧ (∀ y ∈ ys, y.oneCell' = true) ∧
  ((m = 0 ∧ (u = .slice none 0 0 ∨ ∃ x cap, u = .slice (some x) 0 cap)) ∨
   (0 < m ∧ ∃ b off cap, u = .slice (some ⟨b, off, none⟩) m cap ∧ ∀ j y, ys[j]? = some y → w.cell? ⟨b, off + j, none⟩ = some y))

theorem RowAt.only {w w' : World} {u : Value} {m k : Nat} {ys : List Value} {S : List Nat} (h : RowAt w u m k ys) (ho : Only S w w') (hS : ∀ x ∈ own u, x ∉ S) : RowAt w' u m k ys := by
  obtain ⟨h1, h2, h3⟩ := h
  refine ⟨h1, h2, ?_⟩
  rcases h3 with h3 | ⟨h0, b, off, cap, rfl, hc⟩
  · exact .inl h3
  · have hb : b ∉ S := hS b (by simp [own, Value.ownBlock])
    exact .inr ⟨h0, b, off, cap, rfl, fun j y hy => (ho.cell (p := ⟨b, _, none⟩) (cell_lt (hc j y hy)) hb).trans (hc j y hy)⟩

theorem RowAt.same {w w' : World} {u : Value} {m k : Nat} {ys : List Value} (h : RowAt w u m k ys) (ho : Only [] w w') : RowAt w' u m k ys := h.only ho (by simp)

/-- One new element, in a block of its own. -/
theorem RowAt.one {w : World} {B k : Nat} {cs : Array Value} {e : TypeId} (hh : w.heap[B]? = some (.cells cs e (0, 0))) (hk : cs.size = k) (h1 : ∀ y ∈ cs.toList, y.oneCell' = true) :
    RowAt w (.slice (some ⟨B, 0, none⟩) 1 1) 1 k cs.toList := by
  refine ⟨by simp [hk], h1, .inr ⟨by omega, B, 0, 1, rfl, fun j y hy => ?_⟩⟩
  rw [Nat.zero_add, cell_of_row w B j cs e (0, 0) hh]
  simpa using hy

theorem Row.only {w w' : World} {base : Nat} {e : TypeId} {k : Nat} {v : Value} {n : Nat} {xs : List Value} {S : List Nat} (h : w.ownsRow base e k v n xs) (ho : Only S w w') (hS : ∀ x ∈ own v, x ∉ S) : w'.ownsRow base e k v n xs := by
  obtain ⟨h1, h2⟩ := h
  refine ⟨h1, ?_⟩
  rcases h2 with h2 | ⟨g, cap, cur, rfl, hg, hh, r⟩
  · exact .inl h2
  · refine .inr ⟨g, cap, cur, rfl, hg, ?_, r⟩
    have hlt : g < w.heap.size := by
      rcases Nat.lt_or_ge g w.heap.size with hlt | hge
      · exact hlt
      · rw [Array.getElem?_eq_none hge] at hh; cases hh
    rw [ho.block g hlt (hS g (by simp [own, Value.ownBlock]))]
    exact hh

theorem Row.same {w w' : World} {base : Nat} {e : TypeId} {k : Nat} {v : Value} {n : Nat} {xs : List Value} (h : w.ownsRow base e k v n xs) (ho : Only [] w w') : w'.ownsRow base e k v n xs := Row.only h ho (by simp)

theorem Row.far {w : World} {base : Nat} {e : TypeId} {k : Nat} {v : Value} {n : Nat} {xs : List Value} (h : w.ownsRow base e k v n xs) : ∀ x ∈ own v, base ≤ x ∧ x < w.heap.size := fun x hx =>
  (World.ownsRow.lt h) x (by simpa [own] using hx)

theorem Row.mono {w : World} {base base' : Nat} {e : TypeId} {k : Nat} {v : Value} {n : Nat} {xs : List Value} (h : w.ownsRow base e k v n xs) (hb : base' ≤ base) : w.ownsRow base' e k v n xs := by
  obtain ⟨h1, h2⟩ := h
  refine ⟨h1, ?_⟩
  rcases h2 with h2 | ⟨g, cap, cur, hv, hg, hh, r⟩
  · exact .inl h2
  · exact .inr ⟨g, cap, cur, hv, by omega, hh, r⟩

theorem Row.form {w : World} {base : Nat} {e : TypeId} {k : Nat} {v : Value} {n : Nat} {xs : List Value} (h : w.ownsRow base e k v n xs) :
    ∃ a cap, v = .slice a n cap ∧ n ≤ cap ∧ cap ≤ maxLen ∧ (0 < n → ∃ g, a = some ⟨g, 0, none⟩ ∧ base ≤ g ∧ g < w.heap.size) := by
  rcases h.2 with ⟨rfl, rfl⟩ | ⟨g, cap, cur, rfl, hb, hg, hc, hm, _⟩
  · exact ⟨none, 0, rfl, Nat.le_refl _, Nat.zero_le _, fun h => by omega⟩
  · refine ⟨_, cap, rfl, hc, hm, fun _ => ⟨g, rfl, hb, ?_⟩⟩
    rcases Nat.lt_or_ge g w.heap.size with hlt | hge
    · exact hlt
    · rw [Array.getElem?_eq_none hge] at hg; cases hg

theorem Row.at {w : World} {base : Nat} {e : TypeId} {k : Nat} {v : Value} {n : Nat} {xs : List Value} (h : w.ownsRow base e k v n xs) (h1 : ∀ y ∈ xs, y.oneCell' = true) : RowAt w v n k xs := by
  refine ⟨h.1, h1, ?_⟩
  rcases h.2 with ⟨rfl, rfl⟩ | ⟨g, cap, cur, rfl, hb, hg, hc, hm, hs, ht⟩
  · exact .inl ⟨rfl, .inl rfl⟩
  · by_cases h0 : n = 0
    · subst h0; exact .inl ⟨rfl, .inr ⟨_, cap, rfl⟩⟩
    · refine .inr ⟨by omega, g, 0, cap, rfl, fun j y hy => ?_⟩
      have hj : j < n * k := by
        rcases Nat.lt_or_ge j xs.length with hl | hl
        · rw [h.1] at hl; exact hl
        · rw [List.getElem?_eq_none hl] at hy; cases hy
      rw [Nat.zero_add, World.ownsRow.cellAt h j hj]
      exact hy

/-- Elements appended to a slice of the call's own, in a plain region. W: the world in which the slice was known; since then only new blocks have come. -/
theorem wpList_append_rows {t e : TypeId} {k bytes : Nat} (hT : SliceOf t e k bytes) {ops : Array Oper} {rest : List Oper} {o : Oper} {a : Act} {w : World} {Q : Exit → Act → World → Prop} (hgd : o.guard = none) (s x : Operand)
    (ho : o.op = .call { callee := .builtin .append, args := #[s, x], argTypes := #[t, t] })
    (W : World) (base : Nat) (v : Value) (n : Nat) (xs : List Value) (u : Value) (m : Nat) (ys : List Value) (hown : W.ownsRow base e k v n xs) (hu : RowAt w u m k ys) (hlen : n + m ≤ 1000000000) (hbase : base ≤ W.heap.size)
    (hs : a.eval s = v) (hx : a.eval x = u) (hW : Only [] W w)
    (h : ∀ v' w', w'.ownsRow base e k v' (n + m) (xs ++ ys) → Only (own v) W w' → Kin W (own v) (own v') →
      wpList Tryz.prog ops Q rest (a.put o.dst v') w') : wpList Tryz.prog ops Q (o :: rest) a w := by
  obtain ⟨i0, z, hi, hz0, hz1, hz2, hz3⟩ := hT.info
  have hb := hW.size
  have hown' := Row.same hown hW
  have hsm := hT.small
  have hby : (n + m) * bytes ≤ 140737488355328 := by
    have : (n + m) * bytes ≤ (n + m) * 100 := Nat.mul_le_mul_left _ hsm
    omega
  obtain ⟨hl, h1, hu⟩ := hu
  rcases hu with ⟨rfl, hu⟩ | ⟨h0, b, off, cap, rfl, hc⟩
  · obtain rfl : ys = [] := List.eq_nil_of_length_eq_zero (by simpa using hl)
    rcases hu with rfl | ⟨y, cap, rfl⟩
    · refine wpList_append_own_none hgd s x t ho base e i0 k hT.under hi v n xs hs hown' hx ?_
      exact h v w (by simpa using hown') (hW.mono (by simp)) (Kin.refl _ _)
    · refine wpList_append_own_at w hgd s x t ho base e i0 z k bytes hT.under hi hz0 hz1 hz2 hz3 hT.pos v n xs hs hown' y 0 cap [] hx (by simp) (by simp) (by simp) (by unfold maxLen; omega) (by simpa using hby) (by omega) ?_
      intro v' w' k1 k2 _ k4
      exact h v' w' (by simpa using k1) ((hW.mono (by simp)).grown k2 (fun k hk _ => by simp [own, hk])) (kin_of k4 hb)
  · refine wpList_append_own_at w hgd s x t ho base e i0 z k bytes hT.under hi hz0 hz1 hz2 hz3 hT.pos v n xs hs hown' ⟨b, off, none⟩ m cap ys hx hl ?_ h1 (by unfold maxLen; omega) hby (by omega) ?_
    · intro j y hy
      rw [add_flat]
      exact hc j y hy
    · intro v' w' k1 k2 _ k4
      exact h v' w' k1 ((hW.mono (by simp)).grown k2 (fun k hk _ => by simp [own, hk])) (kin_of k4 hb)

end Go.Proofs.YtocpmncedlenbaaGreatDoor
