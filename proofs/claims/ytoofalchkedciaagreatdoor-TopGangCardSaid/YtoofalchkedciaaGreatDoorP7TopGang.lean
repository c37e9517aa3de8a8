/-
  Plans in memory: one that came in, one that the call itself made.
  The first place of a list at which a test says yes.
  Contracts of slices.IndexFunc and slices.ContainsFunc at []int for whatever function literal, with whatever it captures.
  Contracts of plan.task and plan.Check, plan.Right.
-/
import Derived.Test.YtoofalchkedciaaGreatDoorP5TopGang
import Derived.Test.YtoofalchkedciaaGreatDoorP6TopGang
import Derived.Test.YtoofalchkedciaaGreatDoorP2TopGang
namespace Go.Proofs.YtoofalchkedciaaGreatDoor
open Go.RowKit Go.Deep Go.ChangeShapes Go.WideShapes

/-- The value v is a plan; the blocks that it is read from are among those that F names. -/
def PlanAt (w : World) (F : Nat → Prop) (v : Value) (p : PlanL) : Prop :=
  ∃ N : Nat → Value, Pairs w v p.length (fun i => .int .i64 (wkOf p i)) N ∧ (∀ i, i < p.length → Reads w (N i) (ndOf p i)) ∧ (0 < p.length → ∀ x ∈ own v, F x) ∧ ∀ i, i < p.length → ndOf p i ≠ [] → ∀ x ∈ own (N i), F x

/-- .. wherever it lies. -/
def InPlan (w : World) (v : Value) (p : PlanL) : Prop := PlanAt w (fun _ => True) v p

theorem Reads.only' {w w' : World} {v : Value} {l : List Int} {S : List Nat} (h : Reads w v l) (ho : Only S w w') (hS : l ≠ [] → ∀ x ∈ own v, x ∉ S) : Reads w' v l := by
  by_cases h0 : l = []
  · subst h0
    rcases h with h | ⟨h, _⟩
    · exact .inl h
    · simp at h
  · exact h.only ho (fun g hg => hS h0 g (own_of hg))

theorem Pairs.only' {w w' : World} {v : Value} {n : Nat} {A B : Nat → Value} {S : List Nat} (h : Pairs w v n A B) (ho : Only S w w') (hS : 0 < n → ∀ x ∈ own v, x ∉ S) : Pairs w' v n A B := by
  obtain ⟨a, cap, rfl, h1, h2, h0, h3⟩ := h
  refine ⟨a, cap, rfl, h1, h2, h0, fun i hi => ?_⟩
  obtain ⟨b, off, rfl, c0, c1⟩ := h3 i hi
  have hb : b ∉ S := hS (by omega) b (by simp [own, Value.ownBlock])
  exact ⟨b, off, rfl, (ho.cell (p := ⟨b, _, none⟩) (cell_lt c0) hb).trans c0, (ho.cell (p := ⟨b, _, none⟩) (cell_lt c1) hb).trans c1⟩

theorem PlanAt.only {w w' : World} {F : Nat → Prop} {v : Value} {p : PlanL} {S : List Nat} (h : PlanAt w F v p) (ho : Only S w w') (hS : ∀ x, F x → x ∉ S) : PlanAt w' F v p := by
  obtain ⟨N, h1, h2, h3, h4⟩ := h
  exact ⟨N, h1.only' ho (fun h0 x hx => hS x (h3 h0 x hx)), fun i hi => (h2 i hi).only' ho (fun h0 x hx => hS x (h4 i hi h0 x hx)), h3, h4⟩

theorem PlanAt.mono {w : World} {F G : Nat → Prop} {v : Value} {p : PlanL} (h : PlanAt w F v p) (hFG : ∀ x, F x → G x) : PlanAt w G v p := by
  obtain ⟨N, h1, h2, h3, h4⟩ := h
  exact ⟨N, h1, h2, fun h0 x hx => hFG x (h3 h0 x hx), fun i hi h0 x hx => hFG x (h4 i hi h0 x hx)⟩

theorem PlanAt.plan {w : World} {F : Nat → Prop} {v : Value} {p : PlanL} (h : PlanAt w F v p) : InPlan w v p := h.mono fun _ _ => trivial

theorem InPlan.same {w w' : World} {v : Value} {p : PlanL} (h : InPlan w v p) (ho : Only [] w w') : InPlan w' v p := PlanAt.only h ho (by simp)
theorem InPlan.drewN {w : World} {v : Value} {p : PlanL} (h : InPlan w v p) (n : Nat) : InPlan (w.drewN n) v p := h.same ((Only.refl [] w).drewN n)

/-- One task, as it is read. -/
theorem InPlan.task {w : World} {v : Value} {p : PlanL} (h : InPlan w v p) : ∃ a cap, v = .slice a p.length cap ∧ p.length ≤ cap ∧ cap ≤ maxLen ∧ ∀ i, i < p.length → ∃ b off u, a = some ⟨b, off, none⟩ ∧
    w.cell? ⟨b, off + i * 2, none⟩ = some (.int .i64 (wkOf p i)) ∧ w.cell? ⟨b, off + i * 2 + 1, none⟩ = some u ∧ Reads w u (ndOf p i) := by
  obtain ⟨N, ⟨a, cap, rfl, h1, h2, _, h3⟩, h4, _⟩ := h
  refine ⟨a, cap, rfl, h1, h2, fun i hi => ?_⟩
  obtain ⟨b, off, rfl, c0, c1⟩ := h3 i hi
  exact ⟨b, off, _, rfl, c0, c1, h4 i hi⟩

theorem InPlan.len {w : World} {a : Option Addr} {n cap : Nat} {p : PlanL} (h : InPlan w (.slice a n cap) p) : n = p.length := by
  obtain ⟨a', cap', e, _⟩ := h.task
  injection e

/-- One task of a plan whose slice's address is known. -/
theorem InPlan.at {w : World} {b off n cap : Nat} {p : PlanL} (h : InPlan w (.slice (some ⟨b, off, none⟩) n cap) p) (k : Nat) (hk : k < p.length) :
    ∃ ua uc, w.cell? ⟨b, off + k * 2, none⟩ = some (.int .i64 (wkOf p k)) ∧ w.cell? ⟨b, off + k * 2 + 1, none⟩ = some (.slice ua (ndOf p k).length uc) ∧ Reads w (.slice ua (ndOf p k).length uc) (ndOf p k) := by
  obtain ⟨a', cap', e, _, _, ht⟩ := h.task
  obtain ⟨b', o', u, e', c0, c1, hr⟩ := ht k hk
  injection e with e1 _ _
  subst e1
  injection e' with e'
  injection e' with e1 e2
  subst e1 e2
  obtain ⟨ua, uc, rfl, _⟩ := hr.opt
  exact ⟨ua, uc, c0, c1, hr⟩

/-- .. whose slice's address is not. -/
theorem InPlan.any {w : World} {a : Option Addr} {n cap : Nat} {p : PlanL} (h : InPlan w (.slice a n cap) p) (k : Nat) (hk : k < p.length) : ∃ b off, a = some ⟨b, off, none⟩ := by
  obtain ⟨a', cap', e, _, _, ht⟩ := h.task
  obtain ⟨b', o', u, e', _⟩ := ht k hk
  injection e with e1 _ _
  subst e1
  exact ⟨b', o', e'⟩

theorem Reads.len {w : World} {v : Value} {l : List Int} (h : Reads w v l) : l.length ≤ 9223372036854775807 := by
  rcases h with ⟨rfl, _⟩ | ⟨_, b, off, cap, rfl, h1, h2, _⟩
  · simp
  · unfold maxLen at h2; omega

theorem InPlan.needLen {w : World} {v : Value} {p : PlanL} (h : InPlan w v p) (k : Nat) : (ndOf p k).length ≤ 9223372036854775807 := by
  by_cases hk : k < p.length
  · obtain ⟨N, _, h2, _⟩ := h
    exact (h2 k hk).len
  · rw [ndOf_none p k (by omega)]; simp

/-- The numbers fit. -/
def FitsP (p : PlanL) : Prop := ∀ t ∈ p, (Lit.int .i64 t.1).wf = true ∧ ∀ k ∈ t.2, (Lit.int .i64 k).wf = true

/-- A plan that came in. -/
def ArgPlan (w : World) (v : Value) (p : PlanL) : Prop := FitsP p ∧ InPlan w v p

theorem FitsP.work {p : PlanL} (h : FitsP p) (i : Nat) : -9223372036854775808 ≤ wkOf p i ∧ wkOf p i ≤ 9223372036854775807 := by
  by_cases hi : i < p.length
  · have := (h (p[i]) (List.getElem_mem hi)).1
    have e : wkOf p i = p[i].1 := by unfold wkOf; rw [List.getElem?_eq_getElem hi]; rfl
    rw [e]; exact bounds_i64 this
  · have e : wkOf p i = 0 := by unfold wkOf; rw [List.getElem?_eq_none (by omega)]; rfl
    rw [e]; omega
theorem FitsP.need {p : PlanL} (h : FitsP p) (i : Nat) : ∀ k ∈ ndOf p i, -9223372036854775808 ≤ k ∧ k ≤ 9223372036854775807 := by
  by_cases hi : i < p.length
  · have := (h (p[i]) (List.getElem_mem hi)).2
    have e : ndOf p i = p[i].2 := by unfold ndOf; rw [List.getElem?_eq_getElem hi]; rfl
    rw [e]; exact fun k hk => bounds_i64 (this k hk)
  · rw [ndOf_none p i (by omega)]; simp

set_option maxRecDepth 100000 in
theorem open_plan {H : Type} {enc : TypeId × Value → H} {W : World} {base : Nat} {v : Value} {d : DataW H} {p : List MemPlace}
    (hv : Value.okWide Tryz.prog W .any base 23 v) (h : DataW.Trod enc Tryz.prog W 0 (fun _ => true) true 23 v d p) : ∃ l, ArgPlan W v l := by
  obtain ⟨n, A, B, hp, hAB⟩ := open_pairs Tryz.underlying23 Tryz.underlying94 (by kernel_rfl) rfl rfl (by kernel_rfl) (by kernel_rfl) hv h
  have key : ∀ i, i < n → ∃ x : Int × List Int, A i = .int .i64 x.1 ∧ (Lit.int .i64 x.1).wf = true ∧ InInts W (B i) x.2 := by
    intro i hi
    obtain ⟨k, x, y, hx, hy⟩ := hAB i hi
    obtain ⟨a, e0, _, wa⟩ := DataW.trod_int Tryz.underlying3 hx
    simp at e0
    have hB : ∃ l, InInts W (B i) l := by
      rcases open_ints Tryz.underlying31 Tryz.underlying3 (by kernel_rfl) hy with ⟨hcs, _⟩ | ⟨x, l, c, zs, hcs, _, hl, hm, hz, _, hcell, hwz⟩
      · have hcs' : B i = .slice none 0 0 := by simpa using hcs
        rw [hcs']
        exact ⟨_, inInts_of_row (.inl ⟨rfl, rfl, rfl, rfl⟩)⟩
      · have hcs' : B i = .slice (some x) l c := by simpa using hcs
        rw [hcs']
        exact ⟨_, inInts_of_row (.inr ⟨_, rfl, hl, hm, by simpa using hz, hcell, hwz⟩)⟩
    obtain ⟨l, hl⟩ := hB
    exact ⟨(a, l), e0, wa, hl⟩
  obtain ⟨q, hq⟩ := choose_lt key
  have hl : ((List.range n).map q).length = n := by simp
  have hw : ∀ i, i < n → wkOf ((List.range n).map q) i = (q i).1 := by intro i hi; simp [wkOf, hi]
  have hd : ∀ i, i < n → ndOf ((List.range n).map q) i = (q i).2 := by intro i hi; simp [ndOf, hi]
  refine ⟨(List.range n).map q, ?_, B, ?_, ?_, fun _ _ _ => trivial, fun _ _ _ _ _ => trivial⟩
  · intro t ht
    obtain ⟨i, hi, rfl⟩ := List.mem_map.1 ht
    have := hq i (List.mem_range.1 hi)
    exact ⟨this.2.1, this.2.2.1⟩
  · obtain ⟨a, cap, rfl, h1, h2, h0, h3⟩ := hp
    rw [hl]
    refine ⟨a, cap, rfl, h1, h2, h0, fun i hi => ?_⟩
    obtain ⟨b, off, ha, k0, k1⟩ := h3 i hi
    refine ⟨b, off, ha, ?_, k1⟩
    show _ = some (Value.int .i64 (wkOf ((List.range n).map q) i))
    rw [k0, (hq i hi).1, hw i hi]
  · intro i hi
    rw [hl] at hi
    rw [hd i hi]
    exact (hq i hi).2.2.reads

theorem sliceOf_plan : SliceOf 23 94 2 32 :=
  sliceOf_parts (z := .agg #[.int .i64 0, .slice none 0 0]) Tryz.underlying23 (by kernel_rfl) rfl (by decide) (by decide)

/-- The cells of a plan's tasks, all in a row. -/
def flatP (p : PlanL) (N : Nat → Value) (n : Nat) : List Value := (List.range (n * 2)).map fun j => if j % 2 = 0 then .int .i64 (wkOf p (j / 2)) else N (j / 2)
theorem flatP_len (p : PlanL) (N : Nat → Value) (n : Nat) : (flatP p N n).length = n * 2 := by simp [flatP]
theorem flatP_0 (p : PlanL) (N : Nat → Value) (n i : Nat) (h : i < n) : (flatP p N n)[i * 2]? = some (.int .i64 (wkOf p i)) := by
  unfold flatP
  rw [List.getElem?_map, List.getElem?_range (by omega)]
  simp
theorem flatP_1 (p : PlanL) (N : Nat → Value) (n i : Nat) (h : i < n) : (flatP p N n)[i * 2 + 1]? = some (N i) := by
  unfold flatP
  rw [List.getElem?_map, List.getElem?_range (by omega)]
  have e1 : (i * 2 + 1) / 2 = i := by omega
  have e2 : (i * 2 + 1) % 2 = 1 := by omega
  simp [e1, e2]

theorem wkOf_push_lt (p : PlanL) (t : Int × List Int) (i : Nat) (h : i < p.length) : wkOf (p ++ [t]) i = wkOf p i := by
  unfold wkOf; rw [List.getElem?_append_left h]
theorem wkOf_push_eq (p : PlanL) (t : Int × List Int) : wkOf (p ++ [t]) p.length = t.1 := by
  unfold wkOf; rw [List.getElem?_append_right (Nat.le_refl _)]; simp
theorem ndOf_push_lt (p : PlanL) (t : Int × List Int) (i : Nat) (h : i < p.length) : ndOf (p ++ [t]) i = ndOf p i := by
  unfold ndOf; rw [List.getElem?_append_left h]
theorem ndOf_push_eq (p : PlanL) (t : Int × List Int) : ndOf (p ++ [t]) p.length = t.2 := by
  unfold ndOf; rw [List.getElem?_append_right (Nat.le_refl _)]; simp

def updV (N : Nat → Value) (n : Nat) (u : Value) : Nat → Value := fun i => if i = n then u else N i

theorem flatP_push (p : PlanL) (N : Nat → Value) (t : Int × List Int) (u : Value) : flatP p N p.length ++ [.int .i64 t.1, u] = flatP (p ++ [t]) (updV N p.length u) (p ++ [t]).length := by
  apply List.ext_getElem?
  intro j
  have hl : (p ++ [t]).length = p.length + 1 := by simp
  rcases Nat.lt_or_ge j (p.length * 2) with hj | hj
  · rw [List.getElem?_append_left (by rw [flatP_len]; exact hj)]
    have hd : j / 2 < p.length := by omega
    rcases Nat.mod_two_eq_zero_or_one j with hm | hm
    · obtain ⟨i, rfl⟩ : ∃ i, j = i * 2 := ⟨j / 2, by omega⟩
      rw [flatP_0 _ _ _ _ (by omega), flatP_0 _ _ _ _ (by omega), wkOf_push_lt _ _ _ (by omega)]
    · obtain ⟨i, rfl⟩ : ∃ i, j = i * 2 + 1 := ⟨j / 2, by omega⟩
      rw [flatP_1 _ _ _ _ (by omega), flatP_1 _ _ _ _ (by omega)]
      unfold updV
      rw [if_neg (by omega)]
  · rw [List.getElem?_append_right (by rw [flatP_len]; exact hj), flatP_len]
    by_cases e0 : j = p.length * 2
    · subst e0
      rw [flatP_0 _ _ _ _ (by omega), wkOf_push_eq]
      simp
    · by_cases e1 : j = p.length * 2 + 1
      · subst e1
        rw [flatP_1 _ _ _ _ (by omega)]
        simp [updV]
      · rw [List.getElem?_eq_none (by simp; omega), List.getElem?_eq_none (by rw [flatP_len]; omega)]

/-- A plan that the call itself made: its row from 'base' on; F: what its tasks' needs are read from. -/
def OwnPlan (w : World) (base : Nat) (F : Nat → Prop) (v : Value) (p : PlanL) : Prop :=
  ∃ N : Nat → Value, w.ownsRow base 94 2 v p.length (flatP p N p.length) ∧ (∀ i, i < p.length → Reads w (N i) (ndOf p i)) ∧
    (∀ i, i < p.length → (N i).oneCell' = true) ∧ ∀ i, i < p.length → ndOf p i ≠ [] → ∀ x ∈ own (N i), F x ∧ x ∉ own v

theorem Reads.oneCell {w : World} {v : Value} {l : List Int} (h : Reads w v l) : v.oneCell' = true := by
  rcases h with ⟨_, rfl | ⟨x, c, rfl, _⟩⟩ | ⟨_, b, off, c, rfl, _⟩ <;> rfl

theorem OwnPlan.nil (w : World) (base : Nat) (F : Nat → Prop) : OwnPlan w base F (.slice none 0 0) [] :=
  ⟨fun _ => .nilIface, World.ownsRow_nil _ _ _ _, by simp, by simp, by simp⟩

theorem OwnPlan.only {w w' : World} {base : Nat} {F : Nat → Prop} {v : Value} {p : PlanL} {S : List Nat} (h : OwnPlan w base F v p) (ho : Only S w w') (h1 : ∀ x ∈ own v, x ∉ S) (h2 : ∀ x, F x → x ∉ S) : OwnPlan w' base F v p := by
  obtain ⟨N, k1, k2, k3, k4⟩ := h
  exact ⟨N, Row.only k1 ho h1, fun i hi => (k2 i hi).only' ho (fun h0 x hx => h2 x (k4 i hi h0 x hx).1), k3, k4⟩

theorem OwnPlan.same {w w' : World} {base : Nat} {F : Nat → Prop} {v : Value} {p : PlanL} (h : OwnPlan w base F v p) (ho : Only [] w w') : OwnPlan w' base F v p := h.only ho (by simp) (by simp)

theorem OwnPlan.far {w : World} {base : Nat} {F : Nat → Prop} {v : Value} {p : PlanL} (h : OwnPlan w base F v p) : ∀ x ∈ own v, base ≤ x ∧ x < w.heap.size := by
  obtain ⟨N, k1, _⟩ := h
  exact Row.far k1

theorem OwnPlan.form {w : World} {base : Nat} {F : Nat → Prop} {v : Value} {p : PlanL} (h : OwnPlan w base F v p) : ∃ a cap, v = .slice a p.length cap ∧ p.length ≤ cap ∧ cap ≤ maxLen := by
  obtain ⟨N, k1, _⟩ := h
  obtain ⟨a, cap, rfl, h1, h2, _⟩ := Row.form k1
  exact ⟨a, cap, rfl, h1, h2⟩

theorem OwnPlan.row {w : World} {base : Nat} {F : Nat → Prop} {v : Value} {p : PlanL} (h : OwnPlan w base F v p) : PlanAt w (fun x => F x ∨ (base ≤ x ∧ x < w.heap.size)) v p := by
  obtain ⟨N, k1, k2, k3, k4⟩ := h
  have hf := Row.far k1
  refine ⟨N, ?_, k2, fun _ x hx => .inr (hf x hx), fun i hi h0 x hx => .inl (k4 i hi h0 x hx).1⟩
  rcases k1.2 with ⟨rfl, hn⟩ | ⟨g, cap, cur, rfl, hb, hg, hc, hm, hs, ht⟩
  · exact ⟨none, 0, by rw [hn], by omega, by unfold maxLen; omega, fun _ => rfl, fun i hi => by omega⟩
  · refine ⟨_, cap, rfl, hc, hm, (fun h => by cases h), fun i hi => ⟨g, 0, rfl, ?_, ?_⟩⟩
    · rw [Nat.zero_add, World.ownsRow.cellAt k1 (i * 2) (by omega)]
      exact flatP_0 _ _ _ _ hi
    · rw [Nat.zero_add, World.ownsRow.cellAt k1 (i * 2 + 1) (by omega)]
      exact flatP_1 _ _ _ _ hi

theorem OwnPlan.plan {w : World} {base : Nat} {F : Nat → Prop} {v : Value} {p : PlanL} (h : OwnPlan w base F v p) : InPlan w v p := h.row.plan

/-- One task more, behind append. W: the world in which the plan was known, w' the one behind append. -/
theorem OwnPlan.push {W w' : World} {base : Nat} {F : Nat → Prop} {v v' : Value} {p : PlanL} {N : Nat → Value} (t : Int × List Int) (u : Value)
    (k2 : ∀ i, i < p.length → Reads W (N i) (ndOf p i)) (k3 : ∀ i, i < p.length → (N i).oneCell' = true) (k4 : ∀ i, i < p.length → ndOf p i ≠ [] → ∀ x ∈ own (N i), F x ∧ x ∉ own v)
    (hu : Reads W u t.2) (hF : t.2 ≠ [] → ∀ x ∈ own u, F x ∧ x ∉ own v)
    (hown : w'.ownsRow base 94 2 v' (p.length + 1) (flatP p N p.length ++ [.int .i64 t.1, u])) (ho : Only (own v) W w') (hk : Kin W (own v) (own v')) : OwnPlan w' base F v' (p ++ [t]) := by
  have hl : (p ++ [t]).length = p.length + 1 := by simp
  have hlt : ∀ {x : Nat} {y : Value} {l : List Int}, Reads W y l → l ≠ [] → x ∈ own y → x < W.heap.size := by
    intro x y l hy h0 hx
    rcases hy with ⟨h, _⟩ | ⟨_, b, off, cap, rfl, _, _, hc⟩
    · exact absurd h h0
    · obtain rfl : x = b := by simpa [own, Value.ownBlock] using hx
      exact cell_lt (hc 0 (List.length_pos_iff.2 h0))
  have hap : ∀ {y : Value} {l : List Int}, Reads W y l → l ≠ [] → (∀ x ∈ own y, F x ∧ x ∉ own v) → ∀ x ∈ own y, F x ∧ x ∉ own v' := by
    intro y l hy h0 h x hx
    refine ⟨(h x hx).1, fun hx' => ?_⟩
    rcases hk x hx' with h1 | h1
    · exact (h x hx).2 h1
    · have := hlt hy h0 hx; omega
  refine ⟨updV N p.length u, ?_, fun i hi => ?_, fun i hi => ?_, fun i hi h0 => ?_⟩
  · rw [← flatP_push, hl]; exact hown
  · rcases Nat.lt_or_ge i p.length with h | h
    · rw [show updV N p.length u i = N i by unfold updV; rw [if_neg (by omega)], ndOf_push_lt _ _ _ h]
      exact (k2 i h).only' ho (fun h0 x hx => (k4 i h h0 x hx).2)
    · obtain rfl : i = p.length := by omega
      rw [show updV N p.length u p.length = u by simp [updV], ndOf_push_eq]
      exact hu.only' ho (fun h0 x hx => (hF h0 x hx).2)
  · rcases Nat.lt_or_ge i p.length with h | h
    · rw [show updV N p.length u i = N i by unfold updV; rw [if_neg (by omega)]]; exact k3 i h
    · obtain rfl : i = p.length := by omega
      rw [show updV N p.length u p.length = u by simp [updV]]; exact hu.oneCell
  · rcases Nat.lt_or_ge i p.length with h | h
    · rw [show updV N p.length u i = N i by unfold updV; rw [if_neg (by omega)]]
      rw [ndOf_push_lt _ _ _ h] at h0
      exact hap (k2 i h) h0 (k4 i h h0)
    · obtain rfl : i = p.length := by omega
      rw [show updV N p.length u p.length = u by simp [updV]]
      rw [ndOf_push_eq] at h0
      exact hap hu h0 (hF h0)

end Go.Proofs.YtoofalchkedciaaGreatDoor

namespace Go.Proofs.YtoofalchkedciaaGreatDoor

/-- The first place; -1, if there is none. -/
def firstIdx (P : Int → Bool) : List Int → Int
  | [] => -1
  | x :: l => if P x then 0 else if firstIdx P l < 0 then -1 else firstIdx P l + 1

theorem firstIdx_ge (P : Int → Bool) (l : List Int) : -1 ≤ firstIdx P l := by
  induction l with
  | nil => exact Int.le_refl _
  | cons x l ih =>
    unfold firstIdx
    split
    · omega
    · split <;> omega

theorem firstIdx_any (P : Int → Bool) (l : List Int) : decide (0 ≤ firstIdx P l) = l.any P := by
  induction l with
  | nil => rfl
  | cons x l ih =>
    unfold firstIdx
    rw [List.any_cons]
    cases hx : P x
    · rw [if_neg (by simp), Bool.false_or, ← ih]
      have := firstIdx_ge P l
      split
      · simp; omega
      · simp; omega
    · simp

theorem firstIdx_none (P : Int → Bool) (l : List Int) (h : ∀ j, j < l.length → P (nth l j) = false) : firstIdx P l = -1 := by
  have ha := firstIdx_any P l
  have hf : l.any P = false := by
    rw [List.any_eq_false]
    intro x hx
    obtain ⟨j, hj, rfl⟩ := List.getElem_of_mem hx
    have := h j hj
    simpa [nth, hj] using this
  rw [hf] at ha
  have := firstIdx_ge P l
  simp at ha
  omega

theorem firstIdx_at (P : Int → Bool) (l : List Int) (i : Nat) (hi : i < l.length) (h : ∀ j, j < i → P (nth l j) = false) (hp : P (nth l i) = true) : firstIdx P l = i := by
  induction l generalizing i with
  | nil => simp at hi
  | cons x l ih =>
    unfold firstIdx
    rcases i with _ | i
    · have : P x = true := by simpa [nth] using hp
      simp [this]
    · have h0 : P x = false := by simpa [nth] using h 0 (by omega)
      have := ih i (by simpa using hi) (fun j hj => by simpa [nth] using h (j + 1) (by omega)) (by simpa [nth] using hp)
      rw [if_neg (by simp [h0]), this, if_neg (by omega)]
      rfl

end Go.Proofs.YtoofalchkedciaaGreatDoor

namespace Go.Proofs.YtoofalchkedciaaGreatDoor
open Go.RowKit

/-- A call of F enters it. -/
def Entered (F : FuncId) : Prop := ∀ args w, Sem.run Tryz.prog (callFunc F args) w = .ok (.enter F args) w

set_option maxHeartbeats 1000000 in
set_option maxRecDepth 100000 in
theorem fn_index (F : FuncId) (hcf : Entered F) (caps : Array Value) (v : Value) (l : List Int) (w : World) (P : Int → Bool) (h : Reads w v l) (hl : l.length ≤ 9223372036854775807)
    (hc : ∀ x, x ∈ l → ∀ n, Calls Tryz.prog F (#[.int .i64 x] ++ caps) (w.drewN n) fun e w' => e = .returned (.bool (P x)) ∧ ∃ m, w' = w.drewN m) :
    Calls Tryz.prog 147 #[v, .func (.func F) #[] caps] w fun e w' => e = .returned (.int .i64 (firstIdx P l)) ∧ ∃ m, w' = w.drewN m := by
  obtain ⟨a, c, rfl, ha⟩ := h.opt
  obtain ⟨n, hn⟩ : ∃ n, l.length = n := ⟨_, rfl⟩
  have HN := Lib.hid hn
  have HC := Lib.hid hc
  rw [hn] at ha hl ⊢
  clear h hn hc
  go_enter Tryz.func147, Tryz.ntmps147
  go_wp2_with fail
  go_loopw [8] (fun vi wr => ∃ i : Nat, i ≤ n ∧ vi = .int .i64 i ∧ (∀ j, j < i → P (nth l j) = false) ∧ ∃ m, wr = w.drewN m) (fun vi _ => n - (intOf vi).toNat)
  case atStart => exact ⟨0, Nat.zero_le _, rfl, fun j hj => by omega, 0, rfl⟩
  case round =>
    obtain ⟨i, hi, rfl, hno, m, rfl⟩ := hrel
    have HNO := Lib.hid hno
    clear hno
    by_cases hin : i < n
    · obtain ⟨ba, oa, rfl, k0⟩ := ha i hin
      have hcl := HC.out (nth l i) (by simp [nth, HN.out, hin]) m
      obtain ⟨z, hz⟩ : ∃ z, nth l i = z := ⟨_, rfl⟩
      have HZ := Lib.hid hz
      rw [hz] at k0 hcl
      obtain ⟨pz, hpz⟩ : ∃ p, P z = p := ⟨_, rfl⟩
      have HPZ := Lib.hid hpz
      rw [hpz] at hcl
      clear ha hz hpz
      go_wp2_with fail
      rw [hcf, Oper.upon_enter]
      refine hcl.mono ?_
      rintro e w9 ⟨rfl, m9, rfl⟩
      clear hcl
      cases pz
      · go_wp2
        go_roundw
        case rel =>
          refine ⟨i + 1, by omega, by go_num, fun j hj => ?_, _, rfl⟩
          by_cases e : j = i
          · subst e; rw [HZ.out]; exact HPZ.out
          · exact HNO.out j (by omega)
        case measure => (simp [intOf]; try omega)
      · have hf := Lib.hid (firstIdx_at P l i (by rw [HN.out]; exact hin) HNO.out (by rw [HZ.out]; exact HPZ.out))
        go_wp2
        go_ret
        exact ⟨by rw [hf.out]; rfl, _, rfl⟩
    · obtain rfl : i = n := by omega
      have hf := Lib.hid (firstIdx_none P l (fun j hj => HNO.out j (by rw [HN.out] at hj; exact hj)))
      clear ha
      go_wp2
      go_ret
      exact ⟨by rw [hf.out]; rfl, _, rfl⟩

set_option maxRecDepth 100000 in
theorem fn_contains (F : FuncId) (hcf : Entered F) (caps : Array Value) (v : Value) (l : List Int) (w : World) (P : Int → Bool) (h : Reads w v l) (hl : l.length ≤ 9223372036854775807)
    (hc : ∀ x, x ∈ l → ∀ n, Calls Tryz.prog F (#[.int .i64 x] ++ caps) (w.drewN n) fun e w' => e = .returned (.bool (P x)) ∧ ∃ m, w' = w.drewN m) (r : Bool) (hr : l.any P = r) :
    Calls Tryz.prog 99 #[v, .func (.func F) #[] caps] w fun e w' => e = .returned (.bool r) ∧ ∃ m, w' = w.drewN m := by
  have HR := Lib.hid hr
  have hi := fn_index F hcf caps v l w P h hl hc
  have hs := firstIdx_any P l
  rw [hr] at hs
  obtain ⟨z, hz⟩ : ∃ z, firstIdx P l = z := ⟨_, rfl⟩
  rw [hz] at hi hs
  clear hr hc hz
  go_enter Tryz.func99, Tryz.ntmps99
  go_wp2_with fail
  refine hi.mono ?_
  rintro e w1 ⟨rfl, m, rfl⟩
  clear hi
  go_wp2
  go_ret
  exact ⟨by simp, _, rfl⟩

end Go.Proofs.YtoofalchkedciaaGreatDoor

namespace Go.Proofs.YtoofalchkedciaaGreatDoor
open Go.RowKit

/-- An error of the program, by its number; 0: none. -/
def errV (e : Int) : Value := if e = 0 then .nilIface else .iface 98 (.int .i64 e)

theorem plan_task1 (k : Int) (bx : Nat) (a : Option Addr) (n cap : Nat) (w : World) (hb : w.cell? ⟨bx, 0, none⟩ = some (.slice a n cap)) (_hn : n ≤ 9223372036854775807) :
    Calls Tryz.prog 100 #[.int .i64 k, .pointer (some ⟨bx, 0, none⟩)] w fun e w' => e = .returned (.bool (outOf n k)) ∧ w = w' := by
  have hr : Hid (outOf n k = (decide (k < 0) || decide ((n : Int) ≤ k))) := rfl
  by_cases h0 : k < 0
  · have h1 : Hid (outOf n k = true) := by show _ = _; simp [outOf, h0]
    go_enter Tryz.func100, Tryz.ntmps100
    go_wp2
    go_ret
    exact ⟨by rw [h1.out]; rfl, rfl⟩
  · have h1 : 0 ≤ k := by omega
    clear h0
    go_enter Tryz.func100, Tryz.ntmps100
    go_wp2
    go_ret
    exact ⟨by rw [hr.out]; rfl, rfl⟩

set_option maxHeartbeats 1000000 in
theorem plan_task (v : Value) (p : PlanL) (i : Nat) (w : World) (h : InPlan w v p) (hi : i < p.length) :
    Calls Tryz.prog 48 #[v, .int .i64 i] w fun e w' => e = .returned (errV (taskFault p.length (p[i]?.getD (0, [])))) ∧ Only [] w w' := by
  obtain ⟨a, cap, rfl, hc1, hc2, ht⟩ := h.task
  obtain ⟨b, off, u, rfl, c0, c1, hr⟩ := ht i hi
  have hnl := h.needLen i
  have hF : taskFault p.length (p[i]?.getD (0, [])) = if wkOf p i < 1 ∨ 20 < wkOf p i ∨ (ndOf p i).any (outOf p.length) = true then 1 else if rising (ndOf p i) = true then 0 else 7 := rfl
  rw [hF]
  generalize wkOf p i = x at *
  generalize ndOf p i = l at *
  obtain ⟨n, hn⟩ : ∃ n, p.length = n := ⟨_, rfl⟩
  rw [hn] at hi hc1 ⊢
  have hc2' : n ≤ 9223372036854775807 := by unfold maxLen at hc2; omega
  clear ht hF hn h
  obtain ⟨ua, ucap, rfl, hul⟩ := hr.opt
  obtain ⟨m, hm⟩ : ∃ m, l.length = m := ⟨_, rfl⟩
  have HM := Lib.hid hm
  rw [hm] at c1 hr hul hnl
  clear hm
  have ho1 := (Only.refl [] w).alloc (.cells #[.slice (some ⟨b, off, none⟩) n cap] 23)
  have ho2 := ho1.alloc (.cells #[.int .i64 x, .slice ua m ucap] 94)
  have d0 := (ho1.cell (p := ⟨b, _, none⟩) (cell_lt c0) (by simp)).trans c0
  have d1 := (ho1.cell (p := ⟨b, _, none⟩) (cell_lt c1) (by simp)).trans c1
  clear c0 c1 ho1
  by_cases hx1 : x < 1
  · rw [if_pos (.inl hx1)]
    clear hr
    go_enter Tryz.func48, Tryz.ntmps48
    go_wp2
    go_ret
    exact ⟨rfl, ho2⟩
  · have hx1' : 1 ≤ x := by omega
    by_cases hx2 : 20 < x
    · rw [if_pos (.inr (.inl hx2))]
      clear hr hx1
      go_enter Tryz.func48, Tryz.ntmps48
      go_wp2
      go_ret
      exact ⟨rfl, ho2⟩
    · have hx2' : x ≤ 20 := by omega
      clear hx1 hx2
      have hrd := hr.same ho2
      clear hr
      have hbx : ((w.alloc (.cells #[.slice (some ⟨b, off, none⟩) n cap] 23)).alloc (.cells #[.int .i64 x, .slice ua m ucap] 94)).cell? ⟨w.heap.size, 0, none⟩ = some (.slice (some ⟨b, off, none⟩) n cap) := by
        rw [World.cell?_alloc_lt _ _ _ (by simp), World.cell?_alloc_at _ _ _ _ rfl]; rfl
      have hcl := fn_contains 100 (fun _ _ => by kernel_rfl) #[.pointer (some ⟨w.heap.size, 0, none⟩)] _ l _ (outOf n) hrd (by rw [HM.out]; exact hnl)
        (fun k hk dn => (plan_task1 k w.heap.size (some ⟨b, off, none⟩) n cap _ ((cell_drewN _ dn _).trans hbx) hc2').mono fun e w' ⟨h1, h2⟩ => ⟨h1, dn, h2.symm⟩)
      clear hbx
      by_cases hany : l.any (outOf n) = true
      · rw [if_pos (.inr (.inr hany))]
        have hcl := hcl true hany
        clear hany hrd
        go_enter Tryz.func48, Tryz.ntmps48
        go_wp2_with fail
        refine hcl.mono ?_
        rintro e w1 ⟨rfl, dn, rfl⟩
        clear hcl
        go_wp2
        go_ret
        exact ⟨rfl, ho2.drewN _⟩
      · have hany' : l.any (outOf n) = false := by simpa using hany
        rw [if_neg (by rintro (h | h | h) <;> first | omega | exact hany h)]
        have hcl := hcl false hany'
        clear hany hany'
        obtain ⟨r, hr⟩ : ∃ r, (if rising l = true then (0 : Int) else 7) = r := ⟨_, rfl⟩
        rw [hr]
        have HRES := Lib.hid hr
        clear hr
        go_enter Tryz.func48, Tryz.ntmps48
        go_wp2_with fail
        refine hcl.mono ?_
        rintro e w1 ⟨rfl, dn, rfl⟩
        clear hcl
        have hcells : ∀ i, i < m → ∃ ub uo, ua = some ⟨ub, uo, none⟩ ∧ ((w.alloc (.cells #[.slice (some ⟨b, off, none⟩) n cap] 23)).alloc (.cells #[.int .i64 x, .slice ua m ucap] 94)).cell? ⟨ub, uo + i, none⟩ = some (.int .i64 (nth l i)) := by
          intro i hi
          obtain ⟨ub, uo, rfl, hc⟩ := hul i hi
          exact ⟨ub, uo, rfl, (ho2.cell (p := ⟨ub, _, none⟩) (cell_lt hc) (by simp)).trans hc⟩
        have HC := Lib.hid hcells
        clear hcells hul hrd d0 d1
        go_wp2_with fail
        go_loopw [6] (fun vi wr => ∃ j : Nat, (j < m ∨ j = 0) ∧ vi = .int .i64 ((j : Int) + 1) ∧ (∀ i, i < j → nth l i < nth l (i + 1)) ∧ ∃ dn, wr = ((w.alloc (.cells #[.slice (some ⟨b, off, none⟩) n cap] 23)).alloc (.cells #[.int .i64 x, .slice ua m ucap] 94)).drewN dn)
          (fun vi _ => m + 1 - (intOf vi).toNat)
        case atStart => exact ⟨0, .inr rfl, rfl, fun i hi => by omega, dn, rfl⟩
        case round =>
          obtain ⟨j, hj, rfl, hris, dn2, rfl⟩ := hrel
          have HR := Lib.hid hris
          clear hris
          by_cases hlt : j + 1 < m
          · obtain ⟨ub, uo, rfl, k0⟩ := HC.out j (by omega)
            obtain ⟨ub2, uo2, e, k1⟩ := HC.out (j + 1) hlt
            injection e with e
            injection e with e1 e2
            subst e1 e2
            have hwr : IntKind.i64.wrap ((j : Int) + 1 - 1) = (j : Int) := by rw [IntWalk.i64_in _ (by omega)]; omega
            obtain ⟨y0, hy0⟩ : ∃ y, nth l j = y := ⟨_, rfl⟩
            obtain ⟨y1, hy1⟩ : ∃ y, nth l (j + 1) = y := ⟨_, rfl⟩
            rw [hy0] at k0
            rw [hy1] at k1
            have HY0 := Lib.hid hy0
            have HY1 := Lib.hid hy1
            clear hy0 hy1
            by_cases hcl : y1 ≤ y0
            · have hfa : Hid (rising l ≠ true) := by
                show _ ≠ _
                intro h
                have := (rising_nth l).1 h j (by rw [HM.out]; exact hlt)
                rw [HY0.out, HY1.out] at this
                omega
              go_wp2_with fail
              go_quiet (fail)
              go_wp2
              go_ret
              exact ⟨by rw [← HRES.out, if_neg hfa.out]; rfl, ho2.drewN _⟩
            · have hcl2 : y0 < y1 := by omega
              clear hcl
              go_wp2_with fail
              go_quiet (fail)
              go_wp2
              go_roundw
              case rel =>
                refine ⟨j + 1, by omega, by go_num, fun i hi => ?_, _, rfl⟩
                by_cases e : i = j
                · subst e; rw [HY0.out, HY1.out]; exact hcl2
                · exact HR.out i (by omega)
              case measure => (simp [intOf]; try omega)
          · have hfa : Hid (rising l = true) := by
              show _ = _
              refine (rising_nth l).2 fun k hk => ?_
              rw [HM.out] at hk
              exact HR.out k (by omega)
            clear hj
            go_wp2
            go_ret
            exact ⟨by rw [← HRES.out, if_pos hfa.out]; rfl, ho2.drewN _⟩

end Go.Proofs.YtoofalchkedciaaGreatDoor
