/-
  What weave's behind and beside hold while they read on.
-/
import Derived.Test.YtocpmncedlenbaaDoorP24WeaveTells
import Derived.Test.YtocpmncedlenbaaDoorP27WeaveTells
namespace Go.Proofs.YtocpmncedlenbaaDoor
open Go.RowKit Go.Deep

/-- A cloth held in block C, that of the weave a, read up to k; Z: the result's block. -/
structure Held (w wr : World) (base : Nat) (F : Nat → Prop) (R : Nat) (s : ByteArray) (pv : Value) (p : PlanL) (Z C : Nat) (a : Wv) (k : Nat) (pv' : Value) (F' : Nat → Prop) (fv lv : Value) : Prop where
  rd : RdAt wr base F' R s k pv' (build a p)
  c : Cells wr C [fv, lv, .int .i64 (workW a), .int .i64 (spanW a)]
  z : Cells wr Z [.slice none 0 0, .slice none 0 0, .int .i64 0, .int .i64 0]
  fa : Arm wr base R pv' fv (firstW a p.length)
  la : Arm wr base R pv' lv (lastW a p.length)
  only : Only (R :: own pv) w wr
  kin : Kin w (own pv) (own pv')
  ff : ∀ x, F' x → F x ∨ w.heap.size ≤ x
  fn : ∀ x ∈ own fv, w.heap.size ≤ x
  ln : ∀ x ∈ own lv, w.heap.size ≤ x
  ap : ∀ x, (x ∈ own pv' ∨ F' x ∨ x ∈ own fv ∨ x ∈ own lv) → x ≠ C ∧ x ≠ Z
  cz : C ≠ Z ∧ C ≠ R ∧ Z ≠ R ∧ w.heap.size ≤ Z ∧ w.heap.size ≤ C

theorem Held.same {w wr wq : World} {base : Nat} {F F' : Nat → Prop} {R Z C k : Nat} {s : ByteArray} {pv pv' fv lv : Value} {p : PlanL} {a : Wv} (h : Held w wr base F R s pv p Z C a k pv' F' fv lv) (ho : Only [] wr wq) : Held w wq base F R s pv p Z C a k pv' F' fv lv :=
  ⟨h.rd.same ho, h.c.only ho (by simp), h.z.only ho (by simp), h.fa.only ho (by simp) (Kin.refl _ _), h.la.only ho (by simp) (Kin.refl _ _), h.only.trans ho (by simp), h.kin, h.ff, h.fn, h.ln, h.ap, h.cz⟩

/-- The reader goes on by one. -/
theorem Held.step {w wr : World} {base : Nat} {F F' : Nat → Prop} {R Z C k : Nat} {s : ByteArray} {pv pv' fv lv : Value} {p : PlanL} {a : Wv} (h : Held w wr base F R s pv p Z C a k pv' F' fv lv) (hk : k < s.size) :
    Held w (wr.setCell ⟨R, 1, none⟩ (.int .i64 ((k : Int) + 1))) base F R s pv p Z C a (k + 1) pv' F' fv lv := by
  obtain ⟨h1, ho⟩ := h.rd.step hk
  have ek : ((k + 1 : Nat) : Int) = (k : Int) + 1 := by omega
  rw [ek] at h1 ho
  have hcz := h.cz
  refine ⟨h1, h.c.only ho (by simp; exact hcz.2.1), h.z.only ho (by simp; exact hcz.2.2.1), h.fa.only ho (fun x hx hz => by simp at hz; exact (h.fa.apart x hx).2.1 hz) (Kin.refl _ _), h.la.only ho (fun x hx hz => by simp at hz; exact (h.la.apart x hx).2.1 hz) (Kin.refl _ _), h.only.trans ho (by simp), h.kin, h.ff, h.fn, h.ln, h.ap, hcz⟩

/-- One more has been read. -/
structure Held2 (w wr : World) (base : Nat) (F : Nat → Prop) (R : Nat) (s : ByteArray) (pv : Value) (p : PlanL) (Z C : Nat) (a b : Wv) (q : PlanL) (k : Nat) (pv' : Value) (F' : Nat → Prop) (fv lv fv2 lv2 : Value) : Prop where
  rd : RdAt wr base F' R s k pv' q
  c : Cells wr C [fv, lv, .int .i64 (workW a), .int .i64 (spanW a)]
  z : Cells wr Z [.slice none 0 0, .slice none 0 0, .int .i64 0, .int .i64 0]
  fa : Arm wr base R pv' fv (firstW a p.length)
  la : Arm wr base R pv' lv (lastW a p.length)
  fb : Arm wr base R pv' fv2 (firstW b (p.length + cntW a))
  lb : Arm wr base R pv' lv2 (lastW b (p.length + cntW a))
  only : Only (R :: own pv) w wr
  kin : Kin w (own pv) (own pv')
  ff : ∀ x, F' x → F x ∨ w.heap.size ≤ x
  fn : ∀ x ∈ own fv, w.heap.size ≤ x
  ln : ∀ x ∈ own lv, w.heap.size ≤ x
  fn2 : ∀ x ∈ own fv2, w.heap.size ≤ x
  ln2 : ∀ x ∈ own lv2, w.heap.size ≤ x
  ap : ∀ x, (x ∈ own pv' ∨ F' x ∨ x ∈ own fv ∨ x ∈ own lv ∨ x ∈ own fv2 ∨ x ∈ own lv2) → x ≠ C ∧ x ≠ Z
  cz : C ≠ Z ∧ C ≠ R ∧ Z ≠ R ∧ w.heap.size ≤ Z ∧ w.heap.size ≤ C

theorem Held2.same {w wr wq : World} {base : Nat} {F F' : Nat → Prop} {R Z C k : Nat} {s : ByteArray} {pv pv' fv lv fv2 lv2 : Value} {p q : PlanL} {a b : Wv} (h : Held2 w wr base F R s pv p Z C a b q k pv' F' fv lv fv2 lv2) (ho : Only [] wr wq) : Held2 w wq base F R s pv p Z C a b q k pv' F' fv lv fv2 lv2 :=
  ⟨h.rd.same ho, h.c.only ho (by simp), h.z.only ho (by simp), h.fa.only ho (by simp) (Kin.refl _ _), h.la.only ho (by simp) (Kin.refl _ _), h.fb.only ho (by simp) (Kin.refl _ _), h.lb.only ho (by simp) (Kin.refl _ _), h.only.trans ho (by simp), h.kin, h.ff, h.fn, h.ln, h.fn2, h.ln2, h.ap, h.cz⟩

theorem Held.next {w wr w5 : World} {base : Nat} {F F' : Nat → Prop} {R Z C k : Nat} {s : ByteArray} {pv pv' fv lv : Value} {p : PlanL} {a b : Wv} {r : List UInt8} {e : Ending} (h : Held w wr base F R s pv p Z C a k pv' F' fv lv)
    (hp : RdPost base F' R s pv' (build a p) wr (some (b, r)) e w5) :
    ∃ fv2 lv2 pv2 F2, e = .returned (.agg #[fv2, lv2, .int .i64 (workW b), .int .i64 (spanW b)]) ∧ Held2 w w5 base F R s pv p Z C a b (build b (build a p)) (s.size - r.length) pv2 F2 fv lv fv2 lv2 := by
  obtain ⟨fv2, lv2, pv2, F2, rfl, hRd, hf, hl, ho, hK, hFF, hfn, hln⟩ := hp
  have hcz := h.cz
  have hs := h.only.size
  have hlt := fun x (hx : x ∈ own pv') => (h.rd.plan.far x hx).2
  have hcl := h.c.lt
  have hzl := h.z.lt
  rw [build_len] at hf hl
  have hC : C ∉ R :: own pv' := fun hx => by
    rcases List.mem_cons.1 hx with hx | hx
    · exact hcz.2.1 hx
    · exact (h.ap C (.inl hx)).1 rfl
  have hZ : Z ∉ R :: own pv' := fun hx => by
    rcases List.mem_cons.1 hx with hx | hx
    · exact hcz.2.2.1 hx
    · exact (h.ap Z (.inl hx)).2 rfl
  refine ⟨fv2, lv2, pv2, F2, rfl, hRd, h.c.only ho hC, h.z.only ho hZ, h.fa.only ho (fun x hx hz => ?_) hK, h.la.only ho (fun x hx hz => ?_) hK, hf, hl, ?_, ?_, ?_, h.fn, h.ln, ?_, ?_, ?_, hcz⟩
  · rcases List.mem_cons.1 hz with hz | hz
    · exact (h.fa.apart x hx).2.1 hz
    · exact (h.fa.apart x hx).2.2.1 hz
  · rcases List.mem_cons.1 hz with hz | hz
    · exact (h.la.apart x hx).2.1 hz
    · exact (h.la.apart x hx).2.2.1 hz
  · refine h.only.trans ho (fun x hx hlt => ?_)
    rcases List.mem_cons.1 hx with hx | hx
    · rw [hx]; simp
    · rcases h.kin x hx with h1 | h1
      · simp [h1]
      · omega
  · exact h.kin.trans hK hs
  · intro x hx
    rcases hFF x hx with h1 | h1
    · exact h.ff x h1
    · exact .inr (by omega)
  · intro x hx; have := hfn x hx; omega
  · intro x hx; have := hln x hx; omega
  · intro x hx
    rcases hx with hx | hx | hx | hx | hx | hx
    · rcases hK x hx with h1 | h1
      · exact h.ap x (.inl h1)
      · omega
    · rcases hFF x hx with h1 | h1
      · exact h.ap x (.inr (.inl h1))
      · omega
    · exact h.ap x (.inr (.inr (.inl hx)))
    · exact h.ap x (.inr (.inr (.inr hx)))
    · have := hfn x hx; omega
    · have := hln x hx; omega

/-- Begun: the first one has been read, and lies in the block C. -/
theorem held_new {w W0 w5 : World} {base : Nat} {F : Nat → Prop} {R Z : Nat} {s : ByteArray} {pv : Value} {p : PlanL} {a : Wv} {r : List UInt8} {e : Ending} (hpvl : ∀ x ∈ own pv, x < w.heap.size) (hFl : ∀ x, F x → x < w.heap.size) (hRl : R < w.heap.size)
    (ho0 : Only [] w W0) (hZ0 : Cells W0 Z [.slice none 0 0, .slice none 0 0, .int .i64 0, .int .i64 0]) (hz1 : w.heap.size ≤ Z) (h : RdPost base F R s pv p W0 (some (a, r)) e w5) :
    ∃ fv lv pv' F', e = .returned (.agg #[fv, lv, .int .i64 (workW a), .int .i64 (spanW a)]) ∧
      Held w (w5.alloc (.cells #[fv, lv, .int .i64 (workW a), .int .i64 (spanW a)] 73)) base F R s pv p Z w5.heap.size a (s.size - r.length) pv' F' fv lv := by
  obtain ⟨fv, lv, pv', F', rfl, hRd, hf, hl, ho, hK, hFF, hfn, hln⟩ := h
  have hs0 := ho0.size
  have hzl := hZ0.lt
  have hs5 := ho.size
  have hal : Only [] w5 (w5.alloc (.cells #[fv, lv, .int .i64 (workW a), .int .i64 (spanW a)] 73)) := (Only.refl [] w5).alloc _
  refine ⟨fv, lv, pv', F', rfl, hRd.same hal, Cells.new w5 #[fv, lv, .int .i64 (workW a), .int .i64 (spanW a)] 73, (hZ0.only ho (fun hx => ?_)).only hal (by simp), hf.only hal (by simp) (Kin.refl _ _), hl.only hal (by simp) (Kin.refl _ _), ?_, ?_, ?_, ?_, ?_, ?_, ?_⟩
  · rcases List.mem_cons.1 hx with hx | hx
    · omega
    · have := hpvl _ hx; omega
  · exact ((ho0.mono (T := R :: own pv) (by simp)).trans ho (fun x hx _ => hx)).trans hal (by simp)
  · intro x hx
    rcases hK x hx with h1 | h1
    · exact .inl h1
    · exact .inr (by omega)
  · intro x hx
    rcases hFF x hx with h1 | h1
    · exact .inl h1
    · exact .inr (by omega)
  · intro x hx; have := hfn x hx; omega
  · intro x hx; have := hln x hx; omega
  · intro x hx
    rcases hx with hx | hx | hx | hx
    · have := (hRd.plan.far x hx).2
      rcases hK x hx with h1 | h1
      · have := hpvl x h1; omega
      · omega
    · have := (hRd.b1 x hx).2
      rcases hFF x hx with h1 | h1
      · have := hFl x h1; omega
      · omega
    · have := (hf.apart x hx).2.2.2; have := hfn x hx; omega
    · have := (hl.apart x hx).2.2.2; have := hln x hx; omega
  · exact ⟨by omega, by omega, by omega, hz1, by omega⟩

/-- The end: the cloth goes into the result's block. -/
theorem Held.done {w wr W8 : World} {base : Nat} {F F' : Nat → Prop} {R Z C k : Nat} {s : ByteArray} {pv pv' fv lv : Value} {p : PlanL} {a : Wv} {r : List UInt8} (h : Held w wr base F R s pv p Z C a k pv' F' fv lv) (hr : s.size - r.length = k) (ho : Only [Z] wr W8) :
    RdPost base F R s pv p w (some (a, r)) (.returned (.agg #[fv, lv, .int .i64 (workW a), .int .i64 (spanW a)])) W8 := by
  have hcz := h.cz
  refine ⟨fv, lv, pv', F', rfl, ?_, h.fa.only ho (fun x hx hz => ?_) (Kin.refl _ _), h.la.only ho (fun x hx hz => ?_) (Kin.refl _ _), ?_, h.kin, h.ff, h.fn, h.ln⟩
  · rw [hr]
    exact h.rd.only ho (by simp; exact fun e => hcz.2.2.1 e.symm) (fun x hx hz => by simp at hz; exact (h.ap x (.inl hx)).2 hz) (fun x hx hz => by simp at hz; exact (h.ap x (.inr (.inl hx))).2 hz)
  · simp at hz; exact (h.ap x (.inr (.inr (.inl hx)))).2 hz
  · simp at hz; exact (h.ap x (.inr (.inr (.inr hx)))).2 hz
  · exact h.only.trans ho (fun x hx hlt => by simp at hx; omega)

/-- A list that is not empty put behind one of the call's own, as a writer of a region. -/
theorem writes_reads {o : Oper} {a : Act} {w : World} {K : Value → World → Prop} (s x : Operand)
    (ho : o.op = .call { callee := .builtin .append, args := #[s, x], argTypes := #[37, 37] })
    (W : World) (base : Nat) (v : Value) (xs : List Int) (u : Value) (ys : List Int) (hown : Ints W base v xs) (hu : Reads W u ys) (h0 : ys ≠ []) (hlen : xs.length + ys.length ≤ 1000000000) (hbase : base ≤ W.heap.size)
    (hs : a.eval s = v) (hx : a.eval x = u) (hW : Only [] W w)
    (h : ∀ v' w', Ints w' base v' (xs ++ ys) → Only (own v) W w' → Kin W (own v) (own v') → K v' w') : ∃ v' w', Writes Tryd.prog o a w v' w' ∧ K v' w' := by
  obtain ⟨i0, hi, hz0, hz1, hz2⟩ := info_int
  have hb := hW.size
  have hown' := hown.only hW (by simp)
  rcases hu with ⟨e, _⟩ | ⟨_, b, off, cap, rfl, h1, h2, h3⟩
  · exact absurd e h0
  · obtain ⟨v', w', hr, k1, k2, _, k4⟩ := run_append_own_at (P := Tryd.prog) (w := w) base 37 o.type 3 i0 (.int .i64 0) 1 8 Tryd.underlying37 hi hz0 hz1 hz2 rfl (by decide) v xs.length _ hown' ⟨b, off, none⟩ ys.length cap (ys.map (Value.int .i64)) (by simp) (fun j u hj => by
      have hjl : j < ys.length := by
        rcases Nat.lt_or_ge j ys.length with h | h
        · exact h
        · rw [List.getElem?_eq_none (by simpa using h)] at hj; cases hj
      have e : u = .int .i64 (nth ys j) := by
        rw [List.getElem?_map, List.getElem?_eq_getElem hjl] at hj
        simp at hj
        rw [← hj]
        simp [nth, hjl]
      have e2 : ({ block := b, off := off, spot := none } : Addr).add j = ⟨b, off + j, none⟩ := by
        unfold Addr.add
        split
        · rename_i h; subst h; rfl
        · rfl
      have hcell := h3 j hjl
      rw [e, e2, hW.cell (p := ⟨b, off + j, none⟩) (cell_lt hcell) (by simp)]
      exact hcell) (fun u hu => by simp at hu; obtain ⟨n, _, rfl⟩ := hu; rfl) (by unfold maxLen; omega) (by omega) (by omega)
    refine ⟨v', w', .inl ?_, h v' w' (by unfold Ints; simpa using k1) ((hW.mono (by simp)).grown k2 (fun k hk _ => by simp [own, hk])) (kin_of k4 hb)⟩
    unfold execOp
    simp only [ho, resolve, invoke, builtin, Sem.run_bind, Sem.run_pure, Result.andThen_ok, List.map_toArray, List.map_cons, List.map_nil, hs, hx, hr]

theorem firstW_ne (t : Wv) (n : Nat) : firstW t n ≠ [] := by
  induction t generalizing n with
  | num m => simp [firstW]
  | seq a b ia ib => exact ia n
  | par a b ia ib => show firstW a n ++ firstW b (n + cntW a) ≠ []; simp [ia n]
theorem lastW_ne (t : Wv) (n : Nat) : lastW t n ≠ [] := by
  induction t generalizing n with
  | num m => simp [lastW]
  | seq a b ia ib => exact ib _
  | par a b ia ib => show lastW a n ++ lastW b (n + cntW a) ≠ []; simp [ia n]
theorem firstW_len (t : Wv) (n : Nat) : (firstW t n).length ≤ cntW t ∧ (lastW t n).length ≤ cntW t := by
  induction t generalizing n with
  | num m => exact ⟨Nat.le_refl _, Nat.le_refl _⟩
  | seq a b ia ib => exact ⟨Nat.le_trans (ia n).1 (Nat.le_add_right _ _), Nat.le_trans (ib _).2 (Nat.le_add_left _ _)⟩
  | par a b ia ib =>
    show (firstW a n ++ firstW b (n + cntW a)).length ≤ cntW a + cntW b ∧ (lastW a n ++ lastW b (n + cntW a)).length ≤ cntW a + cntW b
    have := ia n
    have := ib (n + cntW a)
    rw [List.length_append, List.length_append]
    omega

/-- Beside: both cloths have become one, in C. -/
theorem Held2.beside {w w6 w4 W8 : World} {base : Nat} {F F' : Nat → Prop} {R Z C k : Nat} {s : ByteArray} {pv pv' fv lv fv2 lv2 f3 l3 : Value} {p : PlanL} {a b : Wv} (h : Held2 w w6 base F R s pv p Z C a b (build b (build a p)) k pv' F' fv lv fv2 lv2)
    (ho : Only [] w6 w4) (hf : Ints w4 w6.heap.size f3 (natL (firstW a p.length) ++ natL (firstW b (p.length + cntW a)))) (hl : Ints w4 w6.heap.size l3 (natL (lastW a p.length) ++ natL (lastW b (p.length + cntW a))))
    (hC : Cells W8 C [f3, l3, .int .i64 (workW a + workW b), .int .i64 (max (spanW a) (spanW b))]) (ho8 : Only [C] w4 W8) : Held w W8 base F R s pv p Z C (.par a b) k pv' F' f3 l3 := by
  have hcz := h.cz
  have hs := h.only.size
  have hs4 := ho.size
  have hcl := h.c.lt
  have hzl := h.z.lt
  have hRl := h.rd.cells.lt
  have hb2 := h.rd.b2
  have hff : ∀ x ∈ own f3, w6.heap.size ≤ x ∧ x < w4.heap.size := fun x hx => hf.own_lt x hx
  have hll : ∀ x ∈ own l3, w6.heap.size ≤ x ∧ x < w4.heap.size := fun x hx => hl.own_lt x hx
  have hpl : ∀ x ∈ own pv', x < w6.heap.size := fun x hx => (h.rd.plan.far x hx).2
  have hFl : ∀ x, F' x → x < w6.heap.size := fun x hx => (h.rd.b1 x hx).2
  have h48 := ho8.size
  have e1 : natL (firstW (.par a b) p.length) = natL (firstW a p.length) ++ natL (firstW b (p.length + cntW a)) := by show natL (_ ++ _) = _; simp [natL]
  have e2 : natL (lastW (.par a b) p.length) = natL (lastW a p.length) ++ natL (lastW b (p.length + cntW a)) := by show natL (_ ++ _) = _; simp [natL]
  refine ⟨?_, hC, (h.z.only ho (by simp)).only ho8 (by simp; exact fun e => hcz.1 e.symm), ⟨?_, fun x hx => ?_⟩, ⟨?_, fun x hx => ?_⟩, ?_, h.kin, h.ff, fun x hx => ?_, fun x hx => ?_, fun x hx => ?_, hcz⟩
  · exact (h.rd.same ho).only ho8 (by simp; exact fun e => hcz.2.1 e.symm) (fun x hx hz => by simp at hz; exact (h.ap x (.inl hx)).1 hz) (fun x hx hz => by simp at hz; exact (h.ap x (.inr (.inl hx))).1 hz)
  · rw [e1]
    exact hf.reads.only ho8 (fun g hg hx => by simp at hx; have := hff g (own_of hg); omega)
  · have := hff x hx
    exact ⟨by omega, by omega, fun hp => by have := hpl x hp; omega, by omega⟩
  · rw [e2]
    exact hl.reads.only ho8 (fun g hg hx => by simp at hx; have := hll g (own_of hg); omega)
  · have := hll x hx
    exact ⟨by omega, by omega, fun hp => by have := hpl x hp; omega, by omega⟩
  · exact (h.only.trans ho (by simp)).trans ho8 (fun x hx hlt => by simp at hx; omega)
  · have := hff x hx; omega
  · have := hll x hx; omega
  · rcases hx with hx | hx | hx | hx
    · exact h.ap x (.inl hx)
    · exact h.ap x (.inr (.inl hx))
    · have := hff x hx; omega
    · have := hll x hx; omega

end Go.Proofs.YtocpmncedlenbaaDoor
