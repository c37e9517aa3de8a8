/-
  Plans in memory: one that came in, one that the call itself made.
-/
import Derived.Test.YtoofalchkedciaaDoorP5TraceBack
import Derived.Test.YtoofalchkedciaaDoorP11TraceBack
namespace Go.Proofs.YtoofalchkedciaaDoor
open Go.RowKit Go.Deep Go.ChangeShapes Go.WideShapes

/-- The value v is a plan; the blocks that it is read from are among those that F names. -/
def PlanAt (w : World) (F : Nat → Prop) (v : Value) (p : PlanL) : Prop :=
  ∃ N : Nat → Value, Pairs w v p.length (fun i => .int .i64 (wkOf p i)) N ∧ (∀ i, i < p.length → Reads w (N i) (ndOf p i)) ∧ (0 < p.length → ∀ x ∈ own v, F x) ∧ ∀ i, i < p.length → ndOf p i ≠ [] → ∀ x ∈ own (N i), F x

/-- .. wherever it lies. -/
def InPlan (w : World) (v : Value) (p : PlanL) : Prop := PlanAt w (fun _ => True) v p

theorem Reads.only' {w w' : World} {v : Value} {l : List Int} {S : List Nat} (h : Reads w v l) (ho : Only S w w') (hS : l ≠ [] → ∀ x ∈ own v, x ∉ S) : Reads w' v l := by
  by_cases h0 : l = []
  · subst h0
    rcases h with h | ⟨h, _⟩
    · exact .inl h
    · simp at h
  · exact h.only ho (fun g hg => hS h0 g (own_of hg))

theorem Pairs.only' {w w' : World} {v : Value} {n : Nat} {A B : Nat → Value} {S : List Nat} (h : Pairs w v n A B) (ho : Only S w w') (hS : 0 < n → ∀ x ∈ own v, x ∉ S) : Pairs w' v n A B := by
  obtain ⟨a, cap, rfl, h1, h2, h0, h3⟩ := h
  refine ⟨a, cap, rfl, h1, h2, h0, fun i hi => ?_⟩
  obtain ⟨b, off, rfl, c0, c1⟩ := h3 i hi
  have hb : b ∉ S := hS (by omega) b (by simp [own, Value.ownBlock])
  exact ⟨b, off, rfl, (ho.cell (p := ⟨b, _, none⟩) (cell_lt c0) hb).trans c0, (ho.cell (p := ⟨b, _, none⟩) (cell_lt c1) hb).trans c1⟩

theorem PlanAt.only {w w' : World} {F : Nat → Prop} {v : Value} {p : PlanL} {S : List Nat} (h : PlanAt w F v p) (ho : Only S w w') (hS : ∀ x, F x → x ∉ S) : PlanAt w' F v p := by
  obtain ⟨N, h1, h2, h3, h4⟩ := h
  exact ⟨N, h1.only' ho (fun h0 x hx => hS x (h3 h0 x hx)), fun i hi => (h2 i hi).only' ho (fun h0 x hx => hS x (h4 i hi h0 x hx)), h3, h4⟩

theorem PlanAt.mono {w : World} {F G : Nat → Prop} {v : Value} {p : PlanL} (h : PlanAt w F v p) (hFG : ∀ x, F x → G x) : PlanAt w G v p := by
  obtain ⟨N, h1, h2, h3, h4⟩ := h
  exact ⟨N, h1, h2, fun h0 x hx => hFG x (h3 h0 x hx), fun i hi h0 x hx => hFG x (h4 i hi h0 x hx)⟩

theorem PlanAt.plan {w : World} {F : Nat → Prop} {v : Value} {p : PlanL} (h : PlanAt w F v p) : InPlan w v p := h.mono fun _ _ => trivial

theorem InPlan.same {w w' : World} {v : Value} {p : PlanL} (h : InPlan w v p) (ho : Only [] w w') : InPlan w' v p := PlanAt.only h ho (by simp)
theorem InPlan.drewN {w : World} {v : Value} {p : PlanL} (h : InPlan w v p) (n : Nat) : InPlan (w.drewN n) v p := h.same ((Only.refl [] w).drewN n)

/-- One task, as it is read. -/
theorem InPlan.task {w : World} {v : Value} {p : PlanL} (h : InPlan w v p) : ∃ a cap, v = .slice a p.length cap ∧ p.length ≤ cap ∧ cap ≤ maxLen ∧ ∀ i, i < p.length → ∃ b off u, a = some ⟨b, off, none⟩ ∧
    w.cell? ⟨b, off + i * 2, none⟩ = some (.int .i64 (wkOf p i)) ∧ w.cell? ⟨b, off + i * 2 + 1, none⟩ = some u ∧ Reads w u (ndOf p i) := by
  obtain ⟨N, ⟨a, cap, rfl, h1, h2, _, h3⟩, h4, _⟩ := h
  refine ⟨a, cap, rfl, h1, h2, fun i hi => ?_⟩
  obtain ⟨b, off, rfl, c0, c1⟩ := h3 i hi
  exact ⟨b, off, _, rfl, c0, c1, h4 i hi⟩

theorem InPlan.len {w : World} {a : Option Addr} {n cap : Nat} {p : PlanL} (h : InPlan w (.slice a n cap) p) : n = p.length := by
  obtain ⟨a', cap', e, _⟩ := h.task
  injection e

/-- One task of a plan whose slice's address is known. -/
theorem InPlan.at {w : World} {b off n cap : Nat} {p : PlanL} (h : InPlan w (.slice (some ⟨b, off, none⟩) n cap) p) (k : Nat) (hk : k < p.length) :
    ∃ ua uc, w.cell? ⟨b, off + k * 2, none⟩ = some (.int .i64 (wkOf p k)) ∧ w.cell? ⟨b, off + k * 2 + 1, none⟩ = some (.slice ua (ndOf p k).length uc) ∧ Reads w (.slice ua (ndOf p k).length uc) (ndOf p k) := by
  obtain ⟨a', cap', e, _, _, ht⟩ := h.task
  obtain ⟨b', o', u, e', c0, c1, hr⟩ := ht k hk
  injection e with e1 _ _
  subst e1
  injection e' with e'
  injection e' with e1 e2
  subst e1 e2
  obtain ⟨ua, uc, rfl, _⟩ := hr.opt
  exact ⟨ua, uc, c0, c1, hr⟩

/-- .. whose slice's address is not. -/
theorem InPlan.any {w : World} {a : Option Addr} {n cap : Nat} {p : PlanL} (h : InPlan w (.slice a n cap) p) (k : Nat) (hk : k < p.length) : ∃ b off, a = some ⟨b, off, none⟩ := by
  obtain ⟨a', cap', e, _, _, ht⟩ := h.task
  obtain ⟨b', o', u, e', _⟩ := ht k hk
  injection e with e1 _ _
  subst e1
  exact ⟨b', o', e'⟩

theorem Reads.len {w : World} {v : Value} {l : List Int} (h : Reads w v l) : l.length ≤ 9223372036854775807 := by
  rcases h with ⟨rfl, _⟩ | ⟨_, b, off, cap, rfl, h1, h2, _⟩
  · simp
  · unfold maxLen at h2; omega

theorem InPlan.needLen {w : World} {v : Value} {p : PlanL} (h : InPlan w v p) (k : Nat) : (ndOf p k).length ≤ 9223372036854775807 := by
  by_cases hk : k < p.length
  · obtain ⟨N, _, h2, _⟩ := h
    exact (h2 k hk).len
  · rw [ndOf_none p k (by omega)]; simp

/-- The numbers fit. -/
def FitsP (p : PlanL) : Prop := ∀ t ∈ p, (Lit.int .i64 t.1).wf = true ∧ ∀ k ∈ t.2, (Lit.int .i64 k).wf = true

/-- A plan that came in. -/
def ArgPlan (w : World) (v : Value) (p : PlanL) : Prop := FitsP p ∧ InPlan w v p

theorem FitsP.work {p : PlanL} (h : FitsP p) (i : Nat) : -9223372036854775808 ≤ wkOf p i ∧ wkOf p i ≤ 9223372036854775807 := by
  by_cases hi : i < p.length
  · have := (h (p[i]) (List.getElem_mem hi)).1
    have e : wkOf p i = p[i].1 := by unfold wkOf; rw [List.getElem?_eq_getElem hi]; rfl
    rw [e]; exact bounds_i64 this
  · have e : wkOf p i = 0 := by unfold wkOf; rw [List.getElem?_eq_none (by omega)]; rfl
    rw [e]; omega
theorem FitsP.need {p : PlanL} (h : FitsP p) (i : Nat) : ∀ k ∈ ndOf p i, -9223372036854775808 ≤ k ∧ k ≤ 9223372036854775807 := by
  by_cases hi : i < p.length
  · have := (h (p[i]) (List.getElem_mem hi)).2
    have e : ndOf p i = p[i].2 := by unfold ndOf; rw [List.getElem?_eq_getElem hi]; rfl
    rw [e]; exact fun k hk => bounds_i64 (this k hk)
  · rw [ndOf_none p i (by omega)]; simp

set_option maxRecDepth 100000 in
theorem open_plan {H : Type} {enc : TypeId × Value → H} {W : World} {base : Nat} {v : Value} {d : DataW H} {p : List MemPlace}
    (hv : Value.okWide Tryd.prog W .any base 23 v) (h : DataW.Trod enc Tryd.prog W 0 (fun _ => true) true 23 v d p) : ∃ l, ArgPlan W v l := by
  obtain ⟨n, A, B, hp, hAB⟩ := open_pairs Tryd.underlying23 Tryd.underlying30 (by kernel_rfl) rfl rfl (by kernel_rfl) (by kernel_rfl) hv h
  have key : ∀ i, i < n → ∃ x : Int × List Int, A i = .int .i64 x.1 ∧ (Lit.int .i64 x.1).wf = true ∧ InInts W (B i) x.2 := by
    intro i hi
    obtain ⟨k, x, y, hx, hy⟩ := hAB i hi
    obtain ⟨a, e0, _, wa⟩ := DataW.trod_int Tryd.underlying3 hx
    simp at e0
    have hB : ∃ l, InInts W (B i) l := by
      rcases open_ints Tryd.underlying28 Tryd.underlying3 (by kernel_rfl) hy with ⟨hcs, _⟩ | ⟨x, l, c, zs, hcs, _, hl, hm, hz, _, hcell, hwz⟩
      · have hcs' : B i = .slice none 0 0 := by simpa using hcs
        rw [hcs']
        exact ⟨_, inInts_of_row (.inl ⟨rfl, rfl, rfl, rfl⟩)⟩
      · have hcs' : B i = .slice (some x) l c := by simpa using hcs
        rw [hcs']
        exact ⟨_, inInts_of_row (.inr ⟨_, rfl, hl, hm, by simpa using hz, hcell, hwz⟩)⟩
    obtain ⟨l, hl⟩ := hB
    exact ⟨(a, l), e0, wa, hl⟩
  obtain ⟨q, hq⟩ := choose_lt key
  have hl : ((List.range n).map q).length = n := by simp
  have hw : ∀ i, i < n → wkOf ((List.range n).map q) i = (q i).1 := by intro i hi; simp [wkOf, hi]
  have hd : ∀ i, i < n → ndOf ((List.range n).map q) i = (q i).2 := by intro i hi; simp [ndOf, hi]
  refine ⟨(List.range n).map q, ?_, B, ?_, ?_, fun _ _ _ => trivial, fun _ _ _ _ _ => trivial⟩
  · intro t ht
    obtain ⟨i, hi, rfl⟩ := List.mem_map.1 ht
    have := hq i (List.mem_range.1 hi)
    exact ⟨this.2.1, this.2.2.1⟩
  · obtain ⟨a, cap, rfl, h1, h2, h0, h3⟩ := hp
    rw [hl]
    refine ⟨a, cap, rfl, h1, h2, h0, fun i hi => ?_⟩
    obtain ⟨b, off, ha, k0, k1⟩ := h3 i hi
    refine ⟨b, off, ha, ?_, k1⟩
    show _ = some (Value.int .i64 (wkOf ((List.range n).map q) i))
    rw [k0, (hq i hi).1, hw i hi]
  · intro i hi
    rw [hl] at hi
    rw [hd i hi]
    exact (hq i hi).2.2.reads

theorem sliceOf_plan : SliceOf 23 30 2 32 :=
  sliceOf_parts (z := .agg #[.int .i64 0, .slice none 0 0]) Tryd.underlying23 (by kernel_rfl) rfl (by decide) (by decide)

/-- The cells of a plan's tasks, all in a row. -/
def flatP (p : PlanL) (N : Nat → Value) (n : Nat) : List Value := (List.range (n * 2)).map fun j => if j % 2 = 0 then .int .i64 (wkOf p (j / 2)) else N (j / 2)
theorem flatP_len (p : PlanL) (N : Nat → Value) (n : Nat) : (flatP p N n).length = n * 2 := by simp [flatP]
theorem flatP_0 (p : PlanL) (N : Nat → Value) (n i : Nat) (h : i < n) : (flatP p N n)[i * 2]? = some (.int .i64 (wkOf p i)) := by
  unfold flatP
  rw [List.getElem?_map, List.getElem?_range (by omega)]
  simp
theorem flatP_1 (p : PlanL) (N : Nat → Value) (n i : Nat) (h : i < n) : (flatP p N n)[i * 2 + 1]? = some (N i) := by
  unfold flatP
  rw [List.getElem?_map, List.getElem?_range (by omega)]
  have e1 : (i * 2 + 1) / 2 = i := by omega
  have e2 : (i * 2 + 1) % 2 = 1 := by omega
  simp [e1, e2]

theorem wkOf_push_lt (p : PlanL) (t : Int × List Int) (i : Nat) (h : i < p.length) : wkOf (p ++ [t]) i = wkOf p i := by
  unfold wkOf; rw [List.getElem?_append_left h]
theorem wkOf_push_eq (p : PlanL) (t : Int × List Int) : wkOf (p ++ [t]) p.length = t.1 := by
  unfold wkOf; rw [List.getElem?_append_right (Nat.le_refl _)]; simp
theorem ndOf_push_lt (p : PlanL) (t : Int × List Int) (i : Nat) (h : i < p.length) : ndOf (p ++ [t]) i = ndOf p i := by
  unfold ndOf; rw [List.getElem?_append_left h]
theorem ndOf_push_eq (p : PlanL) (t : Int × List Int) : ndOf (p ++ [t]) p.length = t.2 := by
  unfold ndOf; rw [List.getElem?_append_right (Nat.le_refl _)]; simp

def updV (N : Nat → Value) (n : Nat) (u : Value) : Nat → Value := fun i => if i = n then u else N i

theorem flatP_push (p : PlanL) (N : Nat → Value) (t : Int × List Int) (u : Value) : flatP p N p.length ++ [.int .i64 t.1, u] = flatP (p ++ [t]) (updV N p.length u) (p ++ [t]).length := by
  apply List.ext_getElem?
  intro j
  have hl : (p ++ [t]).length = p.length + 1 := by simp
  rcases Nat.lt_or_ge j (p.length * 2) with hj | hj
  · rw [List.getElem?_append_left (by rw [flatP_len]; exact hj)]
    have hd : j / 2 < p.length := by omega
    rcases Nat.mod_two_eq_zero_or_one j with hm | hm
    · obtain ⟨i, rfl⟩ : ∃ i, j = i * 2 := ⟨j / 2, by omega⟩
      rw [flatP_0 _ _ _ _ (by omega), flatP_0 _ _ _ _ (by omega), wkOf_push_lt _ _ _ (by omega)]
    · obtain ⟨i, rfl⟩ : ∃ i, j = i * 2 + 1 := ⟨j / 2, by omega⟩
      rw [flatP_1 _ _ _ _ (by omega), flatP_1 _ _ _ _ (by omega)]
      unfold updV
      rw [if_neg (by omega)]
  · rw [List.getElem?_append_right (by rw [flatP_len]; exact hj), flatP_len]
    by_cases e0 : j = p.length * 2
    · subst e0
      rw [flatP_0 _ _ _ _ (by omega), wkOf_push_eq]
      simp
    · by_cases e1 : j = p.length * 2 + 1
      · subst e1
        rw [flatP_1 _ _ _ _ (by omega)]
        simp [updV]
      · rw [List.getElem?_eq_none (by simp; omega), List.getElem?_eq_none (by rw [flatP_len]; omega)]

/-- A plan that the call itself made: its row from 'base' on; F: what its tasks' needs are read from. -/
def OwnPlan (w : World) (base : Nat) (F : Nat → Prop) (v : Value) (p : PlanL) : Prop :=
  ∃ N : Nat → Value, w.ownsRow base 30 2 v p.length (flatP p N p.length) ∧ (∀ i, i < p.length → Reads w (N i) (ndOf p i)) ∧
    (∀ i, i < p.length → (N i).oneCell' = true) ∧ ∀ i, i < p.length → ndOf p i ≠ [] → ∀ x ∈ own (N i), F x ∧ x ∉ own v

theorem Reads.oneCell {w : World} {v : Value} {l : List Int} (h : Reads w v l) : v.oneCell' = true := by
  rcases h with ⟨_, rfl | ⟨x, c, rfl, _⟩⟩ | ⟨_, b, off, c, rfl, _⟩ <;> rfl

theorem OwnPlan.nil (w : World) (base : Nat) (F : Nat → Prop) : OwnPlan w base F (.slice none 0 0) [] :=
  ⟨fun _ => .nilIface, World.ownsRow_nil _ _ _ _, by simp, by simp, by simp⟩

theorem OwnPlan.only {w w' : World} {base : Nat} {F : Nat → Prop} {v : Value} {p : PlanL} {S : List Nat} (h : OwnPlan w base F v p) (ho : Only S w w') (h1 : ∀ x ∈ own v, x ∉ S) (h2 : ∀ x, F x → x ∉ S) : OwnPlan w' base F v p := by
  obtain ⟨N, k1, k2, k3, k4⟩ := h
  exact ⟨N, Row.only k1 ho h1, fun i hi => (k2 i hi).only' ho (fun h0 x hx => h2 x (k4 i hi h0 x hx).1), k3, k4⟩

theorem OwnPlan.same {w w' : World} {base : Nat} {F : Nat → Prop} {v : Value} {p : PlanL} (h : OwnPlan w base F v p) (ho : Only [] w w') : OwnPlan w' base F v p := h.only ho (by simp) (by simp)

theorem OwnPlan.far {w : World} {base : Nat} {F : Nat → Prop} {v : Value} {p : PlanL} (h : OwnPlan w base F v p) : ∀ x ∈ own v, base ≤ x ∧ x < w.heap.size := by
  obtain ⟨N, k1, _⟩ := h
  exact Row.far k1

theorem OwnPlan.form {w : World} {base : Nat} {F : Nat → Prop} {v : Value} {p : PlanL} (h : OwnPlan w base F v p) : ∃ a cap, v = .slice a p.length cap ∧ p.length ≤ cap ∧ cap ≤ maxLen := by
  obtain ⟨N, k1, _⟩ := h
  obtain ⟨a, cap, rfl, h1, h2, _⟩ := Row.form k1
  exact ⟨a, cap, rfl, h1, h2⟩

theorem OwnPlan.row {w : World} {base : Nat} {F : Nat → Prop} {v : Value} {p : PlanL} (h : OwnPlan w base F v p) : PlanAt w (fun x => F x ∨ (base ≤ x ∧ x < w.heap.size)) v p := by
  obtain ⟨N, k1, k2, k3, k4⟩ := h
  have hf := Row.far k1
  refine ⟨N, ?_, k2, fun _ x hx => .inr (hf x hx), fun i hi h0 x hx => .inl (k4 i hi h0 x hx).1⟩
  rcases k1.2 with ⟨rfl, hn⟩ | ⟨g, cap, cur, rfl, hb, hg, hc, hm, hs, ht⟩
  · exact ⟨none, 0, by rw [hn], by omega, by unfold maxLen; omega, fun _ => rfl, fun i hi => by omega⟩
  · refine ⟨_, cap, rfl, hc, hm, (fun h => by cases h), fun i hi => ⟨g, 0, rfl, ?_, ?_⟩⟩
    · rw [Nat.zero_add, World.ownsRow.cellAt k1 (i * 2) (by omega)]
      exact flatP_0 _ _ _ _ hi
    · rw [Nat.zero_add, World.ownsRow.cellAt k1 (i * 2 + 1) (by omega)]
      exact flatP_1 _ _ _ _ hi

theorem OwnPlan.plan {w : World} {base : Nat} {F : Nat → Prop} {v : Value} {p : PlanL} (h : OwnPlan w base F v p) : InPlan w v p := h.row.plan

/-- One task more, behind append. W: the world in which the plan was known, w' the one behind append. -/
theorem OwnPlan.push {W w' : World} {base : Nat} {F : Nat → Prop} {v v' : Value} {p : PlanL} {N : Nat → Value} (t : Int × List Int) (u : Value)
    (k2 : ∀ i, i < p.length → Reads W (N i) (ndOf p i)) (k3 : ∀ i, i < p.length → (N i).oneCell' = true) (k4 : ∀ i, i < p.length → ndOf p i ≠ [] → ∀ x ∈ own (N i), F x ∧ x ∉ own v)
    (hu : Reads W u t.2) (hF : t.2 ≠ [] → ∀ x ∈ own u, F x ∧ x ∉ own v)
    (hown : w'.ownsRow base 30 2 v' (p.length + 1) (flatP p N p.length ++ [.int .i64 t.1, u])) (ho : Only (own v) W w') (hk : Kin W (own v) (own v')) : OwnPlan w' base F v' (p ++ [t]) := by
  have hl : (p ++ [t]).length = p.length + 1 := by simp
  have hlt : ∀ {x : Nat} {y : Value} {l : List Int}, Reads W y l → l ≠ [] → x ∈ own y → x < W.heap.size := by
    intro x y l hy h0 hx
    rcases hy with ⟨h, _⟩ | ⟨_, b, off, cap, rfl, _, _, hc⟩
    · exact absurd h h0
    · obtain rfl : x = b := by simpa [own, Value.ownBlock] using hx
      exact cell_lt (hc 0 (List.length_pos_iff.2 h0))
  have hap : ∀ {y : Value} {l : List Int}, Reads W y l → l ≠ [] → (∀ x ∈ own y, F x ∧ x ∉ own v) → ∀ x ∈ own y, F x ∧ x ∉ own v' := by
    intro y l hy h0 h x hx
    refine ⟨(h x hx).1, fun hx' => ?_⟩
    rcases hk x hx' with h1 | h1
    · exact (h x hx).2 h1
    · have := hlt hy h0 hx; omega
  refine ⟨updV N p.length u, ?_, fun i hi => ?_, fun i hi => ?_, fun i hi h0 => ?_⟩
  · rw [← flatP_push, hl]; exact hown
  · rcases Nat.lt_or_ge i p.length with h | h
    · rw [show updV N p.length u i = N i by unfold updV; rw [if_neg (by omega)], ndOf_push_lt _ _ _ h]
      exact (k2 i h).only' ho (fun h0 x hx => (k4 i h h0 x hx).2)
    · obtain rfl : i = p.length := by omega
      rw [show updV N p.length u p.length = u by simp [updV], ndOf_push_eq]
      exact hu.only' ho (fun h0 x hx => (hF h0 x hx).2)
  · rcases Nat.lt_or_ge i p.length with h | h
    · rw [show updV N p.length u i = N i by unfold updV; rw [if_neg (by omega)]]; exact k3 i h
    · obtain rfl : i = p.length := by omega
      rw [show updV N p.length u p.length = u by simp [updV]]; exact hu.oneCell
  · rcases Nat.lt_or_ge i p.length with h | h
    · rw [show updV N p.length u i = N i by unfold updV; rw [if_neg (by omega)]]
      rw [ndOf_push_lt _ _ _ h] at h0
      exact hap (k2 i h) h0 (k4 i h h0)
    · obtain rfl : i = p.length := by omega
      rw [show updV N p.length u p.length = u by simp [updV]]
      rw [ndOf_push_eq] at h0
      exact hap hu h0 (hF h0)

end Go.Proofs.YtoofalchkedciaaDoor
