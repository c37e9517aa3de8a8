/-
  Slices of ints that the call itself made: what they hold, how they are kept, one number appended.
  More facts on slices of ints: a value's form as one slice, whether it is empty or not.
  Slices of ints that begin anywhere in their block and may have spare room: one number appended, the first one cut off.
-/
import Derived.Test.YtoofalchkedciaaGreatDoorP1TopGang
import Derived.Test.YtoofalchkedciaaGreatDoorRows
import Derived.ArgAppend
namespace Go.Proofs.YtoofalchkedciaaGreatDoor
open Go.RowKit

/-- A slice value v holds the numbers xs; its memory lies from block 'base' on. -/
def Ints (w : World) (base : Nat) (v : Value) (xs : List Int) : Prop := w.ownsRow base 3 1 v xs.length (xs.map (Value.int .i64))

theorem Ints.nil (w : World) (base : Nat) : Ints w base (.slice none 0 0) [] := World.ownsRow_nil _ _ _ _

theorem Ints.drew {w : World} {base : Nat} {v : Value} {xs : List Int} (h : Ints w base v xs) : Ints w.drew base v xs := h
theorem Ints.drewN {w : World} {base : Nat} {v : Value} {xs : List Int} (h : Ints w base v xs) (n : Nat) : Ints (w.drewN n) base v xs := h

theorem Ints.mono {w : World} {base base' : Nat} {v : Value} {xs : List Int} (h : Ints w base v xs) (hb : base' ≤ base) : Ints w base' v xs := by
  obtain ⟨h1, h2⟩ := h
  refine ⟨h1, ?_⟩
  rcases h2 with h2 | ⟨g, cap, cur, hv, hg, hh, r⟩
  · exact .inl h2
  · exact .inr ⟨g, cap, cur, hv, by omega, hh, r⟩

/-- The form of such a value. -/
theorem Ints.form {w : World} {base : Nat} {v : Value} {xs : List Int} (h : Ints w base v xs) :
    (v = .slice none 0 0 ∧ xs = []) ∨ ∃ g cap, v = .slice (some ⟨g, 0, none⟩) xs.length cap ∧ base ≤ g ∧ g < w.heap.size ∧ xs.length ≤ cap ∧ cap ≤ maxLen := by
  rcases h.2 with ⟨h1, h2⟩ | ⟨g, cap, cur, hv, hb, hg, hc, hm, _⟩
  · exact .inl ⟨h1, List.length_eq_zero_iff.1 h2⟩
  · refine .inr ⟨g, cap, hv, hb, ?_, hc, hm⟩
    rcases Nat.lt_or_ge g w.heap.size with hlt | hge
    · exact hlt
    · rw [Array.getElem?_eq_none hge] at hg; cases hg

theorem Ints.cell {w : World} {base g n cap : Nat} {xs : List Int} (h : Ints w base (.slice (some ⟨g, 0, none⟩) n cap) xs) (i : Nat) (hi : i < xs.length) :
    w.cell? ⟨g, i, none⟩ = some (.int .i64 (nth xs i)) := by
  have e : n = xs.length := by
    rcases h.2 with ⟨h1, _⟩ | ⟨_, _, _, hv, _⟩
    · cases h1
    · injection hv
  subst e
  rw [World.ownsRow.cellAt h i (by omega)]
  simp [nth, hi]

theorem Ints.free {w : World} {base g n cap : Nat} {xs : List Int} (h : Ints w base (.slice (some ⟨g, 0, none⟩) n cap) xs) (i : Nat) :
    w.frozen? ⟨g, i, none⟩ = false := by
  have e : n = xs.length := by
    rcases h.2 with ⟨h1, _⟩ | ⟨_, _, _, hv, _⟩
    · cases h1
    · injection hv
  subst e
  exact World.ownsRow.frozenAt h i

theorem Ints.only {w w' : World} {base : Nat} {v : Value} {xs : List Int} {S : List Nat} (h : Ints w base v xs) (ho : Only S w w') (hS : ∀ g, v.ownBlock = some g → g ∉ S) : Ints w' base v xs := by
  obtain ⟨h1, h2⟩ := h
  refine ⟨h1, ?_⟩
  rcases h2 with h2 | ⟨g, cap, cur, hv, hg, hh, r⟩
  · exact .inl h2
  · refine .inr ⟨g, cap, cur, hv, hg, ?_, r⟩
    have hlt : g < w.heap.size := by
      rcases Nat.lt_or_ge g w.heap.size with hlt | hge
      · exact hlt
      · rw [Array.getElem?_eq_none hge] at hh; cases hh
    rw [ho.block g hlt (hS g (by rw [hv]; rfl))]
    exact hh

/-- .. where what may have changed lies below its memory. -/
theorem Ints.only_low {w w' : World} {base : Nat} {v : Value} {xs : List Int} {S : List Nat} (h : Ints w base v xs) (ho : Only S w w') (hS : ∀ x ∈ S, x < base) : Ints w' base v xs :=
  h.only ho fun g hg hx => by
    have := (World.ownsRow.lt h) g hg
    have := hS g hx
    omega

/-- The value itself, its length a letter. -/
theorem Ints.shape {w : World} {base : Nat} {v : Value} {xs : List Int} (h : Ints w base v xs) : v = .slice none 0 0 ∨ ∃ g m cap, v = .slice (some ⟨g, 0, none⟩) m cap := by
  rcases h.form with ⟨rfl, _⟩ | ⟨g, cap, rfl, _⟩
  · exact .inl rfl
  · exact .inr ⟨_, _, _, rfl⟩

/-- The value of a list that is not empty, its length as it is called. -/
theorem Ints.sized {w : World} {base : Nat} {v : Value} {xs : List Int} (h : Ints w base v xs) (N : Nat) (hN : xs.length = N) (h0 : 0 < N) : ∃ g cap, v = .slice (some ⟨g, 0, none⟩) N cap ∧ base ≤ g ∧ g < w.heap.size := by
  rcases h.form with ⟨_, rfl⟩ | ⟨g, cap, rfl, h1, h2, _⟩
  · simp at hN; omega
  · exact ⟨g, cap, by rw [hN], h1, h2⟩

/-- One element stored. -/
theorem Ints.set {w : World} {base g n cap : Nat} {xs : List Int} (h : Ints w base (.slice (some ⟨g, 0, none⟩) n cap) xs) (i : Nat) (x : Int) :
    Ints (w.setCell ⟨g, i, none⟩ (.int .i64 x)) base (.slice (some ⟨g, 0, none⟩) n cap) (xs.set i x) := by
  have e : n = xs.length := by
    rcases h.2 with ⟨h1, _⟩ | ⟨_, _, _, hv, _⟩
    · cases h1
    · injection hv
  subst e
  have := World.ownsRow.stored h i (.int .i64 x)
  unfold Ints
  simpa [List.map_set] using this.1

theorem info_int : ∃ i0, Tryz.prog.info? 3 = some i0 ∧ i0.zero = some (.int .i64 0) ∧ i0.size = 1 ∧ i0.bytes = 8 :=
  info_parts (show (Tryz.prog.info? 3).map (fun i => (i.zero, i.size, i.bytes)) = some (some (.int .i64 0), 1, 8) by kernel_rfl)

/-- The block of a slice value, as a list. -/
def own (v : Value) : List Nat := v.ownBlock.toList

theorem Only.pushed {S : List Nat} {a W w' : World} {base : Nat} {v : Value} {xs : List Int} (h : Only S a W) (hI : Ints W base v xs) (hb : a.heap.size ≤ base) (ho : Only (own v) W w') : Only S a w' := by
  refine h.trans ho fun x hx hlt => ?_
  have := (World.ownsRow.lt hI) x (by simpa [own] using hx)
  omega

theorem Ints.far {w : World} {base : Nat} {v : Value} {xs : List Int} (h : Ints w base v xs) {b : Nat} (hb : b < base) : b ∉ own v := fun hx => by
  have := (World.ownsRow.lt h) b (by simpa [own] using hx)
  omega

theorem take_succ_nth (l : List Int) (k : Nat) (h : k < l.length) : l.take (k + 1) = l.take k ++ [nth l k] := by
  rw [List.take_succ_eq_append_getElem h]
  simp [nth, h]
theorem drop_nth (l : List Int) (k : Nat) (h : k < l.length) : l.drop k = nth l k :: l.drop (k + 1) := by
  rw [List.drop_eq_getElem_cons h]
  simp [nth, h]

/-- One number appended, in a plain region. W: the world in which the slice was known; since then only new blocks have come. -/
theorem wpList_push {ops : Array Oper} {rest : List Oper} {o : Oper} {a : Act} {w : World} {Q : Exit → Act → World → Prop} (hgd : o.guard = none) (s x : Operand)
    (ho : o.op = .call { callee := .builtin .append, args := #[s, x], argTypes := #[31, 31] })
    (W : World) (base : Nat) (v : Value) (xs : List Int) (B : Nat) (n : Int) (m : Nat) (hown : Ints W base v xs) (hm : xs.length = m) (hlen : m ≤ 1000000000) (hbase : base ≤ W.heap.size)
    (hs : a.eval s = v) (hx : a.eval x = .slice (some ⟨B, 0, none⟩) 1 1) (hW : Only [] W w) (hc : w.cell? ⟨B, 0, none⟩ = some (.int .i64 n))
    (h : ∀ g cap w', Ints w' base (.slice (some ⟨g, 0, none⟩) (m + 1) cap) (xs ++ [n]) → Only (own v) W w' → (g ∈ own v ∨ W.heap.size ≤ g) →
      wpList Tryz.prog ops Q rest (a.put o.dst (.slice (some ⟨g, 0, none⟩) (m + 1) cap)) w') : wpList Tryz.prog ops Q (o :: rest) a w := by
  obtain ⟨i0, hi, hz0, hz1, hz2⟩ := info_int
  have hb := hW.size
  subst hm
  refine wpList_append_lies w hgd s x 31 ho base 3 i0 (.int .i64 0) 1 8 Tryz.underlying31 hi hz0 hz1 hz2 rfl (by decide) v xs.length _ hs (hown.only hW (by simp)) ⟨B, 0, none⟩ 1 1 [.int .i64 n] hx rfl ?_ ?_ (by decide) (by unfold maxLen; omega) (by omega) (by omega) _ rfl ?_
  · intro j u hj
    rcases j with _ | j
    · simp at hj; subst hj; exact hc
    · simp at hj
  · intro u hu; simp at hu; subst hu; rfl
  · intro g cap w' h1 h2 h3 _
    refine h g cap w' ?_ ((hW.mono (by simp)).grown h2 (fun k hk _ => by simp [own, hk])) (h3.imp (fun e => by simp [own, e]) (fun e => by omega))
    unfold Ints
    simpa using h1

/-- .. at a step of a region that draws its order. -/
theorem step_push {ops : Array Oper} {o : Oper} {a : Act} {w : World} {K : Act → World → Prop} {Q : Exit → Act → World → Prop} {E : Prop} (hgd : o.guard = none) (s x : Operand)
    (ho : o.op = .call { callee := .builtin .append, args := #[s, x], argTypes := #[31, 31] })
    (W : World) (base : Nat) (v : Value) (xs : List Int) (B : Nat) (n : Int) (m : Nat) (hown : Ints W base v xs) (hm : xs.length = m) (hlen : m ≤ 1000000000) (hbase : base ≤ W.heap.size)
    (hs : a.eval s = v) (hx : a.eval x = .slice (some ⟨B, 0, none⟩) 1 1) (hW : Only [] W w) (hc : w.cell? ⟨B, 0, none⟩ = some (.int .i64 n))
    (h : ∀ g cap w', Ints w' base (.slice (some ⟨g, 0, none⟩) (m + 1) cap) (xs ++ [n]) → Only (own v) W w' → (g ∈ own v ∨ W.heap.size ≤ g) →
      K (a.put o.dst (.slice (some ⟨g, 0, none⟩) (m + 1) cap)) w') : if Region.wanted o (yielded ops a.tmps) = true then Oper.wp Tryz.prog o a w K Q else E := by
  obtain ⟨i0, hi, hz0, hz1, hz2⟩ := info_int
  have hb := hW.size
  subst hm
  refine step_append_lies w hgd s x 31 ho base 3 i0 (.int .i64 0) 1 8 Tryz.underlying31 hi hz0 hz1 hz2 rfl (by decide) v xs.length _ hs (hown.only hW (by simp)) ⟨B, 0, none⟩ 1 1 [.int .i64 n] hx rfl ?_ ?_ (by decide) (by unfold maxLen; omega) (by omega) (by omega) _ rfl ?_
  · intro j u hj
    rcases j with _ | j
    · simp at hj; subst hj; exact hc
    · simp at hj
  · intro u hu; simp at hu; subst hu; rfl
  · intro g cap w' h1 h2 h3 _
    refine h g cap w' ?_ ((hW.mono (by simp)).grown h2 (fun k hk _ => by simp [own, hk])) (h3.imp (fun e => by simp [own, e]) (fun e => by omega))
    unfold Ints
    simpa using h1

/-- The value v is a slice that reads as the numbers l, wherever it came from. -/
def Reads (w : World) (v : Value) (l : List Int) : Prop :=
  (l = [] ∧ (v = .slice none 0 0 ∨ ∃ x cap, v = .slice (some x) 0 cap ∧ cap ≤ maxLen)) ∨
  (0 < l.length ∧ ∃ b off cap, v = .slice (some ⟨b, off, none⟩) l.length cap ∧ l.length ≤ cap ∧ cap ≤ maxLen ∧ ∀ i, i < l.length → w.cell? ⟨b, off + i, none⟩ = some (.int .i64 (nth l i)))

theorem Ints.reads {w : World} {base : Nat} {v : Value} {xs : List Int} (h : Ints w base v xs) : Reads w v xs := by
  rcases h.form with ⟨rfl, rfl⟩ | ⟨g, cap, rfl, _, _, h1, h2⟩
  · exact .inl ⟨rfl, .inl rfl⟩
  · by_cases h0 : xs = []
    · subst h0
      exact .inl ⟨rfl, .inr ⟨_, cap, rfl, h2⟩⟩
    · exact .inr ⟨List.length_pos_iff.2 h0, g, 0, cap, rfl, h1, h2, fun i hi => by rw [Nat.zero_add]; exact h.cell i hi⟩

theorem Reads.drewN {w : World} {v : Value} {l : List Int} (h : Reads w v l) (n : Nat) : Reads (w.drewN n) v l := h

theorem Reads.cells {w w' : World} {v : Value} {l : List Int} (h : Reads w v l) (hc : ∀ b o x, w.cell? ⟨b, o, none⟩ = some x → some b = v.ownBlock → w'.cell? ⟨b, o, none⟩ = some x) : Reads w' v l := by
  rcases h with h | ⟨h0, b, off, cap, rfl, h1, h2, h3⟩
  · exact .inl h
  · exact .inr ⟨h0, b, off, cap, rfl, h1, h2, fun i hi => hc _ _ _ (h3 i hi) rfl⟩

theorem Reads.only {w w' : World} {v : Value} {l : List Int} {S : List Nat} (h : Reads w v l) (ho : Only S w w') (hS : ∀ g, v.ownBlock = some g → g ∉ S) : Reads w' v l :=
  h.cells fun b o _ hx hb => (ho.cell (p := ⟨b, o, none⟩) (cell_lt hx) (hS b hb.symm)).trans hx

theorem Reads.same {w w' : World} {v : Value} {l : List Int} (h : Reads w v l) (ho : Only [] w w') : Reads w' v l := h.only ho (by simp)

theorem kin_of {W w : World} {v v' : Value} (h : v'.ownBlock = v.ownBlock ∨ v'.ownBlock = some w.heap.size) (hs : W.heap.size ≤ w.heap.size) : Kin W (own v) (own v') := by
  intro x hx
  rcases h with h | h
  · exact .inl (by simpa [own, h] using hx)
  · right
    have : x = w.heap.size := by simpa [own, h] using hx
    omega

/-- A new list, made by append out of one that reads as l: 'append([]int{}, s...)', 'append([]int(nil), s...)' and the like, in a plain region. -/
theorem wpList_append_reads {ops : Array Oper} {rest : List Oper} {o : Oper} {a : Act} {w : World} {Q : Exit → Act → World → Prop} (hgd : o.guard = none) (s x : Operand)
    (ho : o.op = .call { callee := .builtin .append, args := #[s, x], argTypes := #[31, 31] })
    (W : World) (base : Nat) (v : Value) (xs : List Int) (u : Value) (ys : List Int) (hown : Ints W base v xs) (hu : Reads W u ys) (hlen : xs.length + ys.length ≤ 1000000000) (hbase : base ≤ W.heap.size)
    (hs : a.eval s = v) (hx : a.eval x = u) (hW : Only [] W w)
    (h : ∀ v' w', Ints w' base v' (xs ++ ys) → Only (own v) W w' → Kin W (own v) (own v') →
      wpList Tryz.prog ops Q rest (a.put o.dst v') w') : wpList Tryz.prog ops Q (o :: rest) a w := by
  obtain ⟨i0, hi, hz0, hz1, hz2⟩ := info_int
  have hb := hW.size
  have hown' := hown.only hW (by simp)
  rcases hu with ⟨rfl, rfl | ⟨y, cap, rfl, hcap⟩⟩ | ⟨h0, b, off, cap, rfl, h1, h2, h3⟩
  · refine wpList_append_own_none hgd s x 31 ho base 3 i0 1 Tryz.underlying31 hi v xs.length _ hs hown' hx ?_
    exact h v w (by simpa using hown') (hW.mono (by simp)) (Kin.refl _ _)
  · refine wpList_append_own_at w hgd s x 31 ho base 3 i0 (.int .i64 0) 1 8 Tryz.underlying31 hi hz0 hz1 hz2 rfl (by decide) v xs.length _ hs hown' y 0 cap [] hx rfl (by simp) (by simp) (by unfold maxLen; simp at hlen; omega) (by simp at hlen; omega) (by omega) ?_
    intro v' w' k1 k2 _ k4
    refine h v' w' ?_ ((hW.mono (by simp)).grown k2 (fun k hk _ => by simp [own, hk])) (kin_of k4 hb)
    unfold Ints
    simpa using k1
  · refine wpList_append_own_at w hgd s x 31 ho base 3 i0 (.int .i64 0) 1 8 Tryz.underlying31 hi hz0 hz1 hz2 rfl (by decide) v xs.length _ hs hown' ⟨b, off, none⟩ ys.length cap (ys.map (Value.int .i64)) hx (by simp) ?_ ?_ (by unfold maxLen; omega) (by omega) (by omega) ?_
    · intro j u hj
      have hjl : j < ys.length := by
        rcases Nat.lt_or_ge j ys.length with h | h
        · exact h
        · rw [List.getElem?_eq_none (by simpa using h)] at hj; cases hj
      have e : u = .int .i64 (nth ys j) := by
        rw [List.getElem?_map, List.getElem?_eq_getElem hjl] at hj
        simp at hj
        rw [← hj]
        simp [nth, hjl]
      have e2 : ({ block := b, off := off, spot := none } : Addr).add j = ⟨b, off + j, none⟩ := by
        unfold Addr.add
        split
        · rename_i h; subst h; rfl
        · rfl
      have hcell := h3 j hjl
      rw [e, e2, hW.cell (p := ⟨b, off + j, none⟩) (cell_lt hcell) (by simp)]
      exact hcell
    · intro u hu
      simp at hu
      obtain ⟨n, _, rfl⟩ := hu
      rfl
    · intro v' w' k1 k2 _ k4
      refine h v' w' ?_ ((hW.mono (by simp)).grown k2 (fun k hk _ => by simp [own, hk])) (kin_of k4 hb)
      unfold Ints
      simpa using k1

theorem Ints.reads_take {w : World} {base g N cap : Nat} {xs : List Int} (h : Ints w base (.slice (some ⟨g, 0, none⟩) N cap) xs) (k : Nat) (hk : k ≤ xs.length) (hc : xs.length ≤ cap) (hm : cap ≤ maxLen) :
    Reads w (.slice (some ⟨g, 0, none⟩) k cap) (xs.take k) := by
  have hl : (xs.take k).length = k := by simp; omega
  by_cases h0 : k = 0
  · subst h0
    exact .inl ⟨by simp, .inr ⟨_, cap, rfl, hm⟩⟩
  · refine .inr ⟨by omega, g, 0, cap, by rw [hl], by omega, hm, fun i hi => ?_⟩
    rw [hl] at hi
    rw [Nat.zero_add, h.cell i (by omega)]
    simp [nth, hi]

theorem Ints.reads_drop {w : World} {base g N cap : Nat} {xs : List Int} (h : Ints w base (.slice (some ⟨g, 0, none⟩) N cap) xs) (k : Nat) (hk : k ≤ xs.length) (hc : xs.length ≤ cap) (hm : cap ≤ maxLen) (m : Nat) (hm' : m = xs.length - k) :
    Reads w (.slice (some ⟨g, k, none⟩) m (cap - k)) (xs.drop k) := by
  subst hm'
  have hl : (xs.drop k).length = xs.length - k := by simp
  by_cases h0 : k = xs.length
  · subst h0
    exact .inl ⟨by simp, .inr ⟨_, _, by rw [Nat.sub_self], by omega⟩⟩
  · refine .inr ⟨by omega, g, k, cap - k, by rw [hl], by omega, by omega, fun i hi => ?_⟩
    rw [hl] at hi
    rw [h.cell (k + i) (by omega)]
    simp [nth]

end Go.Proofs.YtoofalchkedciaaGreatDoor

namespace Go.Proofs.YtoofalchkedciaaGreatDoor
open Go.RowKit

theorem InInts.opt {w : World} {v : Value} {l : List Int} (h : InInts w v l) :
    ∃ a cap, v = .slice a l.length cap ∧ ∀ i, i < l.length → ∃ b off, a = some ⟨b, off, none⟩ ∧ w.cell? ⟨b, off + i, none⟩ = some (.int .i64 (nth l i)) := by
  rcases h.2 with ⟨rfl, a, cap, rfl, _⟩ | ⟨_, b, off, cap, rfl, _, _, hc⟩
  · exact ⟨a, cap, rfl, fun i hi => by simp at hi⟩
  · exact ⟨_, cap, rfl, fun i hi => ⟨b, off, rfl, hc i hi⟩⟩

theorem InInts.reads {w : World} {v : Value} {l : List Int} (h : InInts w v l) : Reads w v l := by
  rcases h.2 with ⟨rfl, a, cap, rfl, k1, k2⟩ | ⟨h0, b, off, cap, rfl, k1, k2, k3⟩
  · cases a with
    | none => rw [k2 rfl]; exact .inl ⟨rfl, .inl rfl⟩
    | some x => exact .inl ⟨rfl, .inr ⟨x, cap, rfl, k1⟩⟩
  · exact .inr ⟨h0, b, off, cap, rfl, k1, k2, k3⟩

theorem InInts.len {w : World} {v : Value} {l : List Int} (h : InInts w v l) : l.length ≤ maxLen := by
  rcases h.2 with ⟨rfl, _⟩ | ⟨_, b, off, cap, rfl, k1, k2, _⟩
  · exact Nat.zero_le _
  · omega

theorem InInts.bounds {w : World} {v : Value} {l : List Int} (h : InInts w v l) : ∀ x ∈ l, -9223372036854775808 ≤ x ∧ x ≤ 9223372036854775807 := fun x hx => bounds_i64 (h.1 x hx)

theorem Ints.opt {w : World} {base : Nat} {v : Value} {xs : List Int} (h : Ints w base v xs) :
    ∃ a cap, v = .slice a xs.length cap ∧ ∀ i, i < xs.length → ∃ g, a = some ⟨g, 0, none⟩ ∧ w.cell? ⟨g, i, none⟩ = some (.int .i64 (nth xs i)) := by
  rcases h.form with ⟨rfl, rfl⟩ | ⟨g, cap, rfl, _⟩
  · exact ⟨none, 0, rfl, fun i hi => by simp at hi⟩
  · exact ⟨_, cap, rfl, fun i hi => ⟨g, rfl, h.cell i hi⟩⟩

theorem Ints.own_lt {w : World} {base : Nat} {v : Value} {xs : List Int} (h : Ints w base v xs) : ∀ x ∈ own v, base ≤ x ∧ x < w.heap.size := fun x hx =>
  (World.ownsRow.lt h) x (by simpa [own] using hx)

/-- What was apart stays apart behind a call that keeps its blocks, or takes new ones. -/
theorem kin_apart {w : World} {fp fp' S : List Nat} (h : Kin w fp fp') (hS : ∀ x ∈ S, x < w.heap.size) (hd : ∀ x ∈ S, x ∉ fp) : ∀ x ∈ S, x ∉ fp' := fun x hx hx' => by
  rcases h x hx' with h1 | h1
  · exact hd x hx h1
  · have := hS x hx; omega

theorem apart_symm {A B : List Nat} (h : ∀ x ∈ A, x ∉ B) : ∀ x ∈ B, x ∉ A := fun x hx hx' => h x hx' hx

theorem kin_push {W : World} {v : Value} {g n cap : Nat} (h : g ∈ own v ∨ W.heap.size ≤ g) : Kin W (own v) (own (.slice (some ⟨g, 0, none⟩) n cap)) := fun x hx => by
  obtain rfl : x = g := by simpa [own, Value.ownBlock] using hx
  exact h

theorem kin_ge {w : World} {fp fp' : List Nat} {B : Nat} (h : Kin w fp fp') (h1 : ∀ x ∈ fp, B ≤ x) (h2 : B ≤ w.heap.size) : ∀ x ∈ fp', B ≤ x := fun x hx => by
  rcases h x hx with h3 | h3
  · exact h1 x h3
  · omega

theorem Only.kin {w0 w w' : World} {fp : List Nat} (h : Only [] w0 w) (k : Only fp w w') (hfp : ∀ x ∈ fp, w0.heap.size ≤ x) : Only [] w0 w' :=
  h.trans k fun x hx hl => absurd (hfp x hx) (by omega)

/-- A callee that leaves the world alone, met in a region that draws. -/
theorem quiet_eq {P : Program} {f : FuncId} {args : Array Value} {w : World} {n : Nat} {v : Value}
    (h : Calls P f args (w.drewN n) fun e w' => e = .returned v ∧ w.drewN n = w') : Calls P f args (w.drewN n) fun e w'' => e = .returned v ∧ ∃ m, w'' = w.drewN m :=
  h.mono fun _ _ ⟨he, hm⟩ => ⟨he, n, hm.symm⟩

theorem Reads.opt {w : World} {v : Value} {xs : List Int} (h : Reads w v xs) :
    ∃ a cap, v = .slice a xs.length cap ∧ ∀ i, i < xs.length → ∃ b off, a = some ⟨b, off, none⟩ ∧ w.cell? ⟨b, off + i, none⟩ = some (.int .i64 (nth xs i)) := by
  rcases h with ⟨rfl, rfl | ⟨x, cap, rfl, _⟩⟩ | ⟨_, b, off, cap, rfl, _, _, hc⟩
  · exact ⟨none, 0, rfl, fun i hi => by simp at hi⟩
  · exact ⟨_, cap, rfl, fun i hi => by simp at hi⟩
  · exact ⟨_, cap, rfl, fun i hi => ⟨b, off, rfl, hc i hi⟩⟩

theorem own_of {v : Value} {g : Nat} (h : v.ownBlock = some g) : g ∈ own v := by simp [own, h]

theorem own_slice (a : Option Addr) (n c n' c' : Nat) : own (.slice a n c) = own (.slice a n' c') := by cases a <;> rfl

theorem cell_drewN (w : World) (n : Nat) (p : Addr) : (w.drewN n).cell? p = w.cell? p := rfl

theorem size_alloc (w : World) (o : Obj) : (w.alloc o).heap.size = w.heap.size + 1 := by simp

/-- The length of a slice value. -/
def lenOfV : Value → Nat | .slice _ n _ => n | _ => 0

end Go.Proofs.YtoofalchkedciaaGreatDoor

namespace Go.Proofs.YtoofalchkedciaaGreatDoor
open Go.RowKit

def Sl (w : World) (v : Value) (xs : List Int) : Prop :=
  (v = .slice none 0 0 ∧ xs = []) ∨
  ∃ g off cap, v = .slice (some ⟨g, off, none⟩) xs.length cap ∧ xs.length ≤ cap ∧ cap ≤ maxLen ∧ g < w.heap.size ∧
    (∀ i, i < xs.length → w.cell? ⟨g, off + i, none⟩ = some (.int .i64 (nth xs i))) ∧ (∀ i, i < cap → (w.cell? ⟨g, off + i, none⟩).isSome = true ∧ w.frozen? ⟨g, off + i, none⟩ = false)

theorem Sl.nil (w : World) : Sl w (.slice none 0 0) [] := .inl ⟨rfl, rfl⟩

theorem Sl.only {w w' : World} {v : Value} {xs : List Int} {S : List Nat} (h : Sl w v xs) (ho : Only S w w') (hS : ∀ x ∈ own v, x ∉ S) : Sl w' v xs := by
  rcases h with h | ⟨g, off, cap, rfl, h1, h2, h3, h4, h5⟩
  · exact .inl h
  · have hg : g ∉ S := hS g (by simp [own, Value.ownBlock])
    refine .inr ⟨g, off, cap, rfl, h1, h2, Nat.lt_of_lt_of_le h3 ho.size, fun i hi => ?_, fun i hi => ?_⟩
    · rw [ho.cell (p := ⟨g, off + i, none⟩) h3 hg]; exact h4 i hi
    · rw [ho.cell (p := ⟨g, off + i, none⟩) h3 hg, ho.frozen (p := ⟨g, off + i, none⟩) h3 hg]; exact h5 i hi

theorem Sl.lt {w : World} {v : Value} {xs : List Int} (h : Sl w v xs) : ∀ x ∈ own v, x < w.heap.size := by
  rcases h with ⟨rfl, _⟩ | ⟨g, off, cap, rfl, _, _, h3, _⟩
  · intro x hx; simp [own, Value.ownBlock] at hx
  · intro x hx
    obtain rfl : x = g := by simpa [own, Value.ownBlock] using hx
    exact h3

theorem Sl.reads {w : World} {v : Value} {xs : List Int} (h : Sl w v xs) : Reads w v xs := by
  rcases h with ⟨rfl, rfl⟩ | ⟨g, off, cap, rfl, h1, h2, _, h4, _⟩
  · exact .inl ⟨rfl, .inl rfl⟩
  · by_cases h0 : xs = []
    · subst h0
      exact .inl ⟨rfl, .inr ⟨_, cap, rfl, h2⟩⟩
    · exact .inr ⟨List.length_pos_iff.2 h0, g, off, cap, rfl, h1, h2, h4⟩

theorem Ints.sl {w : World} {base : Nat} {v : Value} {xs : List Int} (h : Ints w base v xs) : Sl w v xs := by
  obtain ⟨h1, h2⟩ := h
  rcases h2 with ⟨rfl, h2⟩ | ⟨g, cap, cur, rfl, hg, hh, hn, hm, hs, ht⟩
  · exact .inl ⟨rfl, List.length_eq_zero_iff.1 h2⟩
  · have hlt : g < w.heap.size := by
      rcases Nat.lt_or_ge g w.heap.size with hlt | hge
      · exact hlt
      · rw [Array.getElem?_eq_none hge] at hh; cases hh
    have hI : Ints w base (.slice (some ⟨g, 0, none⟩) xs.length cap) xs := ⟨h1, .inr ⟨g, cap, cur, rfl, hg, hh, hn, hm, hs, ht⟩⟩
    refine .inr ⟨g, 0, cap, rfl, hn, hm, hlt, fun i hi => ?_, fun i hi => ?_⟩
    · rw [Nat.zero_add]; exact hI.cell i hi
    · rw [Nat.zero_add]
      refine ⟨?_, hI.free i⟩
      have : i < cur.size := by omega
      simp [World.cell?, hh, this]

/-- One number appended. -/
theorem wpList_push_sl {ops : Array Oper} {rest : List Oper} {o : Oper} {a : Act} {w : World} {Q : Exit → Act → World → Prop} (hgd : o.guard = none) (s x : Operand)
    (ho : o.op = .call { callee := .builtin .append, args := #[s, x], argTypes := #[31, 31] })
    (W : World) (v : Value) (xs : List Int) (B : Nat) (n : Int) (m : Nat) (hown : Sl W v xs) (hm : xs.length = m) (hlen : m ≤ 1000000000)
    (hs : a.eval s = v) (hx : a.eval x = .slice (some ⟨B, 0, none⟩) 1 1) (hW : Only [] W w) (hc : w.cell? ⟨B, 0, none⟩ = some (.int .i64 n))
    (h : ∀ g off cap w', Sl w' (.slice (some ⟨g, off, none⟩) (m + 1) cap) (xs ++ [n]) → Only (own v) W w' → (g ∈ own v ∨ W.heap.size ≤ g) →
      wpList Tryz.prog ops Q rest (a.put o.dst (.slice (some ⟨g, off, none⟩) (m + 1) cap)) w') : wpList Tryz.prog ops Q (o :: rest) a w := by
  obtain ⟨i0, hi, hz0, hz1, hz2⟩ := info_int
  have hsz := hW.size
  have hown' := hown.only hW (by simp)
  subst hm
  have hnews : ∀ j u, [Value.int .i64 n][j]? = some u → w.cell? (({ block := B, off := 0, spot := none } : Addr).add j) = some u := by
    intro j u hj
    rcases j with _ | j
    · simp at hj; subst hj; exact hc
    · simp at hj
  have hone : ∀ u ∈ [Value.int .i64 n], u.oneCell' = true := by intro u hu; simp at hu; subst hu; rfl
  rcases hown' with ⟨rfl, rfl⟩ | ⟨g, off, cap, rfl, h1, h2, h3, h4, h5⟩
  · refine wpList_push hgd s x ho W 0 _ [] B n 0 (Ints.nil _ _) rfl (by omega) (Nat.zero_le _) hs hx hW hc ?_
    intro g cap w' hI hO hK
    exact h g 0 cap w' (by simpa using hI.sl) hO hK
  · have holds : ∀ j u, (xs.map (Value.int .i64))[j]? = some u → w.cell? ⟨g, off + j, none⟩ = some u := by
      intro j u hj
      have hjl : j < xs.length := by
        rcases Nat.lt_or_ge j xs.length with h | h
        · exact h
        · rw [List.getElem?_eq_none (by simpa using h)] at hj; cases hj
      rw [h4 j hjl]
      rw [List.getElem?_map, List.getElem?_eq_getElem hjl] at hj
      simp at hj
      rw [← hj]
      simp [nth, hjl]
    refine wpList_append_arg w hgd s x 31 ho 3 i0 (.int .i64 0) 1 8 Tryz.underlying31 hi hz0 hz1 hz2 rfl (by decide) g off xs.length cap (xs.map (Value.int .i64)) hs (by simp) holds ⟨B, 0, none⟩ 1 1 [.int .i64 n] hx rfl hnews hone ?_ (by unfold maxLen; omega) (by omega) ?_ ?_
    · intro hr j hj
      have : j = 0 := by simp at hj; omega
      subst this
      have := h5 xs.length (by omega)
      simpa using this
    · intro hr
      have hw' : w.setCells g (off + xs.length * 1) [.int .i64 n] = w.setCell ⟨g, off + xs.length, none⟩ (.int .i64 n) := by simp [World.setCells]
      rw [hw']
      have hset : Only [g] w (w.setCell ⟨g, off + xs.length, none⟩ (.int .i64 n)) := (Only.refl [g] w).setCell (by simp) _
      refine h g off cap _ ?_ ((hW.mono (by simp)).trans hset (by simp [own, Value.ownBlock])) (.inl (by simp [own, Value.ownBlock]))
      obtain ⟨u, hu⟩ := Option.isSome_iff_exists.1 (h5 xs.length (by omega)).1
      refine .inr ⟨g, off, cap, by simp, by simp; omega, h2, by simpa using h3, fun i hi => ?_, fun i hi => ?_⟩
      · by_cases e : i = xs.length
        · subst e
          rw [World.cell?_setCell_same _ _ _ hu]
          simp [nth]
        · have hi' : i < xs.length := by simp at hi; omega
          rw [World.cell?_setCell_other _ _ _ _ (fun he => e (by have := congrArg Addr.off he; simp at this; omega)), h4 i hi']
          simp [nth, List.getElem?_append_left hi', hi']
      · rw [World.frozen?_setCell]
        refine ⟨?_, (h5 i hi).2⟩
        by_cases e : i = xs.length
        · subst e
          rw [World.cell?_setCell_same _ _ _ hu]; rfl
        · rw [World.cell?_setCell_other _ _ _ _ (fun he => e (by have := congrArg Addr.off he; simp at this; omega))]
          exact (h5 i hi).1
    · intro hgrow v' w' k1 k2
      have hI : Ints w' w.heap.size v' (xs ++ [n]) := by unfold Ints; simpa using k1
      obtain ⟨g', cap', rfl, hb, _⟩ := hI.sized (xs.length + 1) (by simp) (by omega)
      refine h g' 0 cap' w' hI.sl ((hW.mono (by simp)).grown k2 (by simp)) (.inr (by omega))

/-- The first one cut off. -/
theorem Sl.tail {w : World} {g off N cap : Nat} {x : Int} {xs : List Int} (h : Sl w (.slice (some ⟨g, off, none⟩) N cap) (x :: xs)) (m : Nat) (hm : m = xs.length) (_hc : cap ≠ 1) :
    Sl w (.slice (some ⟨g, off + 1, none⟩) m (cap - 1)) xs := by
  rcases h with ⟨h, _⟩ | ⟨g', off', cap', hv, h1, h2, h3, h4, h5⟩
  · cases h
  · injection hv with e1 e2 e3
    injection e1 with e1
    injection e1 with e4 e5
    subst e4 e5 e3 hm
    simp at h1
    refine .inr ⟨g, off + 1, cap - 1, rfl, by omega, by omega, h3, fun i hi => ?_, fun i hi => ?_⟩
    · have := h4 (i + 1) (by simp; omega)
      rw [show off + 1 + i = off + (i + 1) by omega, this]
      simp [nth]
    · rw [show off + 1 + i = off + (i + 1) by omega]
      exact h5 (i + 1) (by omega)

theorem Sl.tail1 {w : World} {g off N : Nat} {x : Int} {xs : List Int} (h : Sl w (.slice (some ⟨g, off, none⟩) N 1) (x :: xs)) :
    xs = [] ∧ Sl w (.slice (some ⟨g, off, none⟩) 0 0) [] := by
  rcases h with ⟨h, _⟩ | ⟨g', off', cap', hv, h1, h2, h3, h4, h5⟩
  · cases h
  · injection hv with e1 e2 e3
    injection e1 with e1
    injection e1 with e4 e5
    subst e4 e5 e3
    simp at h1
    exact ⟨h1, .inr ⟨g, off, 0, rfl, by simp, by omega, h3, by simp, by simp⟩⟩

/-- Its value as one form. -/
theorem Sl.opt {w : World} {v : Value} {xs : List Int} (h : Sl w v xs) :
    ∃ a cap, v = .slice a xs.length cap ∧ ∀ i, i < xs.length → ∃ g off, a = some ⟨g, off, none⟩ ∧ w.cell? ⟨g, off + i, none⟩ = some (.int .i64 (nth xs i)) := by
  rcases h with ⟨rfl, rfl⟩ | ⟨g, off, cap, rfl, _, _, _, h4, _⟩
  · exact ⟨none, 0, rfl, fun i hi => by simp at hi⟩
  · exact ⟨_, cap, rfl, fun i hi => ⟨g, off, rfl, h4 i hi⟩⟩

end Go.Proofs.YtoofalchkedciaaGreatDoor
