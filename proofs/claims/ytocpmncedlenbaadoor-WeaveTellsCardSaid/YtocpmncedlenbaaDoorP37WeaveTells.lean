/-
  What the document's behind and beside hold while they read on.
-/
import Derived.Test.YtocpmncedlenbaaDoorP30WeaveTells
import Derived.Test.YtocpmncedlenbaaDoorP36WeaveTells
namespace Go.Proofs.YtocpmncedlenbaaDoor
open Go.RowKit Go.Deep

/-- A cloth held in block C, that of the weave a, read up to k; Z: the result's block. -/
structure Qeld (w wr : World) (base : Nat) (F : Nat → Prop) (R : Nat) (s : ByteArray) (pv : Value) (p : PlanL) (Z C : Nat) (a : Wv) (k : Nat) (pv' : Value) (F' : Nat → Prop) (fv lv : Value) : Prop where
  rd : QdAt wr base F' R s k pv' (build a p)
  c : Cells wr C [fv, lv, .int .i64 (workW a), .int .i64 (spanW a)]
  z : Cells wr Z [.slice none 0 0, .slice none 0 0, .int .i64 0, .int .i64 0]
  fa : Arm wr base R pv' fv (firstW a p.length)
  la : Arm wr base R pv' lv (lastW a p.length)
  only : Only (R :: own pv) w wr
  kin : Kin w (own pv) (own pv')
  ff : ∀ x, F' x → F x ∨ w.heap.size ≤ x
  fn : ∀ x ∈ own fv, w.heap.size ≤ x
  ln : ∀ x ∈ own lv, w.heap.size ≤ x
  ap : ∀ x, (x ∈ own pv' ∨ F' x ∨ x ∈ own fv ∨ x ∈ own lv) → x ≠ C ∧ x ≠ Z
  cz : C ≠ Z ∧ C ≠ R ∧ Z ≠ R ∧ w.heap.size ≤ Z ∧ w.heap.size ≤ C

theorem Qeld.same {w wr wq : World} {base : Nat} {F F' : Nat → Prop} {R Z C k : Nat} {s : ByteArray} {pv pv' fv lv : Value} {p : PlanL} {a : Wv} (h : Qeld w wr base F R s pv p Z C a k pv' F' fv lv) (ho : Only [] wr wq) : Qeld w wq base F R s pv p Z C a k pv' F' fv lv :=
  ⟨h.rd.same ho, h.c.only ho (by simp), h.z.only ho (by simp), h.fa.only ho (by simp) (Kin.refl _ _), h.la.only ho (by simp) (Kin.refl _ _), h.only.trans ho (by simp), h.kin, h.ff, h.fn, h.ln, h.ap, h.cz⟩

/-- The reader goes on by one. -/
theorem Qeld.step {w wr : World} {base : Nat} {F F' : Nat → Prop} {R Z C k : Nat} {s : ByteArray} {pv pv' fv lv : Value} {p : PlanL} {a : Wv} (h : Qeld w wr base F R s pv p Z C a k pv' F' fv lv) (hk : k < s.size) :
    Qeld w (wr.setCell ⟨R, 1, none⟩ (.int .i64 ((k : Int) + 1))) base F R s pv p Z C a (k + 1) pv' F' fv lv := by
  obtain ⟨h1, ho⟩ := h.rd.step hk
  have ek : ((k + 1 : Nat) : Int) = (k : Int) + 1 := by omega
  rw [ek] at h1 ho
  have hcz := h.cz
  refine ⟨h1, h.c.only ho (by simp; exact hcz.2.1), h.z.only ho (by simp; exact hcz.2.2.1), h.fa.only ho (fun x hx hz => by simp at hz; exact (h.fa.apart x hx).2.1 hz) (Kin.refl _ _), h.la.only ho (fun x hx hz => by simp at hz; exact (h.la.apart x hx).2.1 hz) (Kin.refl _ _), h.only.trans ho (by simp), h.kin, h.ff, h.fn, h.ln, h.ap, hcz⟩

/-- One more has been read. -/
structure Qeld2 (w wr : World) (base : Nat) (F : Nat → Prop) (R : Nat) (s : ByteArray) (pv : Value) (p : PlanL) (Z C : Nat) (a b : Wv) (q : PlanL) (k : Nat) (pv' : Value) (F' : Nat → Prop) (fv lv fv2 lv2 : Value) : Prop where
  rd : QdAt wr base F' R s k pv' q
  c : Cells wr C [fv, lv, .int .i64 (workW a), .int .i64 (spanW a)]
  z : Cells wr Z [.slice none 0 0, .slice none 0 0, .int .i64 0, .int .i64 0]
  fa : Arm wr base R pv' fv (firstW a p.length)
  la : Arm wr base R pv' lv (lastW a p.length)
  fb : Arm wr base R pv' fv2 (firstW b (p.length + cntW a))
  lb : Arm wr base R pv' lv2 (lastW b (p.length + cntW a))
  only : Only (R :: own pv) w wr
  kin : Kin w (own pv) (own pv')
  ff : ∀ x, F' x → F x ∨ w.heap.size ≤ x
  fn : ∀ x ∈ own fv, w.heap.size ≤ x
  ln : ∀ x ∈ own lv, w.heap.size ≤ x
  fn2 : ∀ x ∈ own fv2, w.heap.size ≤ x
  ln2 : ∀ x ∈ own lv2, w.heap.size ≤ x
  ap : ∀ x, (x ∈ own pv' ∨ F' x ∨ x ∈ own fv ∨ x ∈ own lv ∨ x ∈ own fv2 ∨ x ∈ own lv2) → x ≠ C ∧ x ≠ Z
  cz : C ≠ Z ∧ C ≠ R ∧ Z ≠ R ∧ w.heap.size ≤ Z ∧ w.heap.size ≤ C

theorem Qeld2.same {w wr wq : World} {base : Nat} {F F' : Nat → Prop} {R Z C k : Nat} {s : ByteArray} {pv pv' fv lv fv2 lv2 : Value} {p q : PlanL} {a b : Wv} (h : Qeld2 w wr base F R s pv p Z C a b q k pv' F' fv lv fv2 lv2) (ho : Only [] wr wq) : Qeld2 w wq base F R s pv p Z C a b q k pv' F' fv lv fv2 lv2 :=
  ⟨h.rd.same ho, h.c.only ho (by simp), h.z.only ho (by simp), h.fa.only ho (by simp) (Kin.refl _ _), h.la.only ho (by simp) (Kin.refl _ _), h.fb.only ho (by simp) (Kin.refl _ _), h.lb.only ho (by simp) (Kin.refl _ _), h.only.trans ho (by simp), h.kin, h.ff, h.fn, h.ln, h.fn2, h.ln2, h.ap, h.cz⟩

theorem Qeld.next {mm : Nat} {w wr w5 : World} {base : Nat} {F F' : Nat → Prop} {R Z C k : Nat} {s : ByteArray} {pv pv' fv lv : Value} {p : PlanL} {a b : Wv} {r : List UInt8} {e : Ending} (h : Qeld w wr base F R s pv p Z C a k pv' F' fv lv)
    (hp : QdPost mm base F' R s pv' (build a p) wr (some (b, r)) e w5) :
    ∃ fv2 lv2 pv2 F2, e = .returned (.agg #[fv2, lv2, .int .i64 (workW b), .int .i64 (spanW b)]) ∧ Qeld2 w w5 base F R s pv p Z C a b (build b (build a p)) (s.size - r.length) pv2 F2 fv lv fv2 lv2 := by
  obtain ⟨fv2, lv2, pv2, F2, rfl, hRd, hf, hl, ho, hK, hFF, hfn, hln⟩ := hp
  have hcz := h.cz
  have hs := h.only.size
  have hlt := fun x (hx : x ∈ own pv') => (h.rd.plan.far x hx).2
  have hcl := h.c.lt
  have hzl := h.z.lt
  rw [build_len] at hf hl
  have hC : C ∉ R :: own pv' := fun hx => by
    rcases List.mem_cons.1 hx with hx | hx
    · exact hcz.2.1 hx
    · exact (h.ap C (.inl hx)).1 rfl
  have hZ : Z ∉ R :: own pv' := fun hx => by
    rcases List.mem_cons.1 hx with hx | hx
    · exact hcz.2.2.1 hx
    · exact (h.ap Z (.inl hx)).2 rfl
  refine ⟨fv2, lv2, pv2, F2, rfl, hRd, h.c.only ho hC, h.z.only ho hZ, h.fa.only ho (fun x hx hz => ?_) hK, h.la.only ho (fun x hx hz => ?_) hK, hf, hl, ?_, ?_, ?_, h.fn, h.ln, ?_, ?_, ?_, hcz⟩
  · rcases List.mem_cons.1 hz with hz | hz
    · exact (h.fa.apart x hx).2.1 hz
    · exact (h.fa.apart x hx).2.2.1 hz
  · rcases List.mem_cons.1 hz with hz | hz
    · exact (h.la.apart x hx).2.1 hz
    · exact (h.la.apart x hx).2.2.1 hz
  · refine h.only.trans ho (fun x hx hlt => ?_)
    rcases List.mem_cons.1 hx with hx | hx
    · rw [hx]; simp
    · rcases h.kin x hx with h1 | h1
      · simp [h1]
      · omega
  · exact h.kin.trans hK hs
  · intro x hx
    rcases hFF x hx with h1 | h1
    · exact h.ff x h1
    · exact .inr (by omega)
  · intro x hx; have := hfn x hx; omega
  · intro x hx; have := hln x hx; omega
  · intro x hx
    rcases hx with hx | hx | hx | hx | hx | hx
    · rcases hK x hx with h1 | h1
      · exact h.ap x (.inl h1)
      · omega
    · rcases hFF x hx with h1 | h1
      · exact h.ap x (.inr (.inl h1))
      · omega
    · exact h.ap x (.inr (.inr (.inl hx)))
    · exact h.ap x (.inr (.inr (.inr hx)))
    · have := hfn x hx; omega
    · have := hln x hx; omega

/-- Begun: the first one has been read, and lies in the block C. -/
theorem qeld_new {mm : Nat} {w W0 w5 : World} {base : Nat} {F : Nat → Prop} {R Z : Nat} {s : ByteArray} {pv : Value} {p : PlanL} {a : Wv} {r : List UInt8} {e : Ending} (hpvl : ∀ x ∈ own pv, x < w.heap.size) (hFl : ∀ x, F x → x < w.heap.size) (hRl : R < w.heap.size)
    (ho0 : Only [] w W0) (hZ0 : Cells W0 Z [.slice none 0 0, .slice none 0 0, .int .i64 0, .int .i64 0]) (hz1 : w.heap.size ≤ Z) (h : QdPost mm base F R s pv p W0 (some (a, r)) e w5) :
    ∃ fv lv pv' F', e = .returned (.agg #[fv, lv, .int .i64 (workW a), .int .i64 (spanW a)]) ∧
      Qeld w (w5.alloc (.cells #[fv, lv, .int .i64 (workW a), .int .i64 (spanW a)] 64)) base F R s pv p Z w5.heap.size a (s.size - r.length) pv' F' fv lv := by
  obtain ⟨fv, lv, pv', F', rfl, hRd, hf, hl, ho, hK, hFF, hfn, hln⟩ := h
  have hs0 := ho0.size
  have hzl := hZ0.lt
  have hs5 := ho.size
  have hal : Only [] w5 (w5.alloc (.cells #[fv, lv, .int .i64 (workW a), .int .i64 (spanW a)] 64)) := (Only.refl [] w5).alloc _
  refine ⟨fv, lv, pv', F', rfl, hRd.same hal, Cells.new w5 #[fv, lv, .int .i64 (workW a), .int .i64 (spanW a)] 64, (hZ0.only ho (fun hx => ?_)).only hal (by simp), hf.only hal (by simp) (Kin.refl _ _), hl.only hal (by simp) (Kin.refl _ _), ?_, ?_, ?_, ?_, ?_, ?_, ?_⟩
  · rcases List.mem_cons.1 hx with hx | hx
    · omega
    · have := hpvl _ hx; omega
  · exact ((ho0.mono (T := R :: own pv) (by simp)).trans ho (fun x hx _ => hx)).trans hal (by simp)
  · intro x hx
    rcases hK x hx with h1 | h1
    · exact .inl h1
    · exact .inr (by omega)
  · intro x hx
    rcases hFF x hx with h1 | h1
    · exact .inl h1
    · exact .inr (by omega)
  · intro x hx; have := hfn x hx; omega
  · intro x hx; have := hln x hx; omega
  · intro x hx
    rcases hx with hx | hx | hx | hx
    · have := (hRd.plan.far x hx).2
      rcases hK x hx with h1 | h1
      · have := hpvl x h1; omega
      · omega
    · have := (hRd.b1 x hx).2
      rcases hFF x hx with h1 | h1
      · have := hFl x h1; omega
      · omega
    · have := (hf.apart x hx).2.2.2; have := hfn x hx; omega
    · have := (hl.apart x hx).2.2.2; have := hln x hx; omega
  · exact ⟨by omega, by omega, by omega, hz1, by omega⟩

/-- The end: the cloth goes into the result's block. -/
theorem Qeld.done {mm : Nat} {w wr W8 : World} {base : Nat} {F F' : Nat → Prop} {R Z C k : Nat} {s : ByteArray} {pv pv' fv lv : Value} {p : PlanL} {a : Wv} {r : List UInt8} (h : Qeld w wr base F R s pv p Z C a k pv' F' fv lv) (hr : s.size - r.length = k) (ho : Only [Z] wr W8) :
    QdPost mm base F R s pv p w (some (a, r)) (.returned (.agg #[fv, lv, .int .i64 (workW a), .int .i64 (spanW a)])) W8 := by
  have hcz := h.cz
  refine ⟨fv, lv, pv', F', rfl, ?_, h.fa.only ho (fun x hx hz => ?_) (Kin.refl _ _), h.la.only ho (fun x hx hz => ?_) (Kin.refl _ _), ?_, h.kin, h.ff, h.fn, h.ln⟩
  · rw [hr]
    exact h.rd.only ho (by simp; exact fun e => hcz.2.2.1 e.symm) (fun x hx hz => by simp at hz; exact (h.ap x (.inl hx)).2 hz) (fun x hx hz => by simp at hz; exact (h.ap x (.inr (.inl hx))).2 hz)
  · simp at hz; exact (h.ap x (.inr (.inr (.inl hx)))).2 hz
  · simp at hz; exact (h.ap x (.inr (.inr (.inr hx)))).2 hz
  · exact h.only.trans ho (fun x hx hlt => by simp at hx; omega)

/-- Beside: both cloths have become one, in C. -/
theorem Qeld2.beside {w w6 w4 W8 : World} {base : Nat} {F F' : Nat → Prop} {R Z C k : Nat} {s : ByteArray} {pv pv' fv lv fv2 lv2 f3 l3 : Value} {p : PlanL} {a b : Wv} (h : Qeld2 w w6 base F R s pv p Z C a b (build b (build a p)) k pv' F' fv lv fv2 lv2)
    (ho : Only [] w6 w4) (hf : Ints w4 w6.heap.size f3 (natL (firstW a p.length) ++ natL (firstW b (p.length + cntW a)))) (hl : Ints w4 w6.heap.size l3 (natL (lastW a p.length) ++ natL (lastW b (p.length + cntW a))))
    (hC : Cells W8 C [f3, l3, .int .i64 (workW a + workW b), .int .i64 (max (spanW a) (spanW b))]) (ho8 : Only [C] w4 W8) : Qeld w W8 base F R s pv p Z C (.par a b) k pv' F' f3 l3 := by
  have hcz := h.cz
  have hs := h.only.size
  have hs4 := ho.size
  have hcl := h.c.lt
  have hzl := h.z.lt
  have hRl := h.rd.cells.lt
  have hb2 := h.rd.b2
  have hff : ∀ x ∈ own f3, w6.heap.size ≤ x ∧ x < w4.heap.size := fun x hx => hf.own_lt x hx
  have hll : ∀ x ∈ own l3, w6.heap.size ≤ x ∧ x < w4.heap.size := fun x hx => hl.own_lt x hx
  have hpl : ∀ x ∈ own pv', x < w6.heap.size := fun x hx => (h.rd.plan.far x hx).2
  have hFl : ∀ x, F' x → x < w6.heap.size := fun x hx => (h.rd.b1 x hx).2
  have h48 := ho8.size
  have e1 : natL (firstW (.par a b) p.length) = natL (firstW a p.length) ++ natL (firstW b (p.length + cntW a)) := by show natL (_ ++ _) = _; simp [natL]
  have e2 : natL (lastW (.par a b) p.length) = natL (lastW a p.length) ++ natL (lastW b (p.length + cntW a)) := by show natL (_ ++ _) = _; simp [natL]
  refine ⟨?_, hC, (h.z.only ho (by simp)).only ho8 (by simp; exact fun e => hcz.1 e.symm), ⟨?_, fun x hx => ?_⟩, ⟨?_, fun x hx => ?_⟩, ?_, h.kin, h.ff, fun x hx => ?_, fun x hx => ?_, fun x hx => ?_, hcz⟩
  · exact (h.rd.same ho).only ho8 (by simp; exact fun e => hcz.2.1 e.symm) (fun x hx hz => by simp at hz; exact (h.ap x (.inl hx)).1 hz) (fun x hx hz => by simp at hz; exact (h.ap x (.inr (.inl hx))).1 hz)
  · rw [e1]
    exact hf.reads.only ho8 (fun g hg hx => by simp at hx; have := hff g (own_of hg); omega)
  · have := hff x hx
    exact ⟨by omega, by omega, fun hp => by have := hpl x hp; omega, by omega⟩
  · rw [e2]
    exact hl.reads.only ho8 (fun g hg hx => by simp at hx; have := hll g (own_of hg); omega)
  · have := hll x hx
    exact ⟨by omega, by omega, fun hp => by have := hpl x hp; omega, by omega⟩
  · exact (h.only.trans ho (by simp)).trans ho8 (fun x hx hlt => by simp at hx; omega)
  · have := hff x hx; omega
  · have := hll x hx; omega
  · rcases hx with hx | hx | hx | hx
    · exact h.ap x (.inl hx)
    · exact h.ap x (.inr (.inl hx))
    · have := hff x hx; omega
    · have := hll x hx; omega

theorem Qeld2.link {w wr x1 : World} {base : Nat} {F F' : Nat → Prop} {R Z C k g m cap i : Nat} {s : ByteArray} {pv fv lv fv2 lv2 v' : Value} {p q : PlanL} {a b : Wv} {X : List Int}
    (h : Qeld2 w wr base F R s pv p Z C a b q k (.slice (some ⟨g, 0, none⟩) m cap) F' fv lv fv2 lv2) (hi : i < q.length) (h0 : ndOf q i = []) (ho : Only [] wr x1) (hI : Ints x1 wr.heap.size v' X) (hX : X ≠ []) :
    Qeld2 w (x1.setCell ⟨g, i * 2 + 1, none⟩ v') base F R s pv p Z C a b (addN X q i) k (.slice (some ⟨g, 0, none⟩) m cap) (fun x => F' x ∨ x ∈ own v') fv lv fv2 lv2 ∧ Only [g] wr (x1.setCell ⟨g, i * 2 + 1, none⟩ v') := by
  have hown : own (.slice (some ⟨g, 0, none⟩) m cap) = [g] := by simp [own, Value.ownBlock]
  have hgp : g ∈ own (.slice (some ⟨g, 0, none⟩) m cap) := by rw [hown]; simp
  have hcz := h.cz
  have hs1 := ho.size
  have hsw := h.only.size
  have hgl := (h.rd.plan.far g hgp)
  have hcl := h.c.lt
  have hzl := h.z.lt
  have hRl := h.rd.cells.lt
  have hb2 := h.rd.b2
  have hgR : R ≠ g := fun e => h.rd.n1 (by rw [e]; exact hgp)
  have hgC := (h.ap g (.inl hgp)).1
  have hgZ := (h.ap g (.inl hgp)).2
  have hv : ∀ x ∈ own v', wr.heap.size ≤ x ∧ x < x1.heap.size := fun x hx => hI.own_lt x hx
  have hst : Only [g] x1 (x1.setCell ⟨g, i * 2 + 1, none⟩ v') := (Only.refl [g] x1).setCell (by simp) _
  have hall : Only [g] wr (x1.setCell ⟨g, i * 2 + 1, none⟩ v') := (ho.mono (by simp)).trans hst (by simp)
  have hs2 := hst.size
  have hP := (h.rd.plan.same ho).setNeeds (F' := fun x => F' x ∨ x ∈ own v') (p' := addN X q i) i (u := v') (l := X) hi (addN_len _ _ _) (fun j _ => (addN_wk X q i j).symm) (fun j _ => by
    rw [addN_nd X q i j hi]
    by_cases e : j = i
    · subst e; rw [if_pos rfl, if_pos rfl, h0]; rfl
    · rw [if_neg e, if_neg e]) hI.reads (fun x hx => .inl hx) (fun x hx => ⟨.inr hx, by have := hv x hx; omega⟩) hX
  refine ⟨⟨⟨h.rd.cells.only hall (by simp; exact hgR), hP, h.rd.n1, ?_, ?_, hb2, h.rd.hk, by rw [addN_len]; exact h.rd.len⟩, h.c.only hall (by simp; exact fun e => hgC e.symm), h.z.only hall (by simp; exact fun e => hgZ e.symm),
    h.fa.only hall (fun x hx hz => ?_) (Kin.refl _ _), h.la.only hall (fun x hx hz => ?_) (Kin.refl _ _), h.fb.only hall (fun x hx hz => ?_) (Kin.refl _ _), h.lb.only hall (fun x hx hz => ?_) (Kin.refl _ _), ?_, h.kin, ?_, h.fn, h.ln, h.fn2, h.ln2, ?_, hcz⟩, hall⟩
  · rintro (hx | hx)
    · exact h.rd.n2 hx
    · have := hv R hx; omega
  · rintro x (hx | hx)
    · have := h.rd.b1 x hx; omega
    · have := hv x hx; omega
  · exact (h.fa.apart x hx).2.2.1 (by rw [hown]; exact hz)
  · exact (h.la.apart x hx).2.2.1 (by rw [hown]; exact hz)
  · exact (h.fb.apart x hx).2.2.1 (by rw [hown]; exact hz)
  · exact (h.lb.apart x hx).2.2.1 (by rw [hown]; exact hz)
  · refine h.only.trans hall (fun x hx hlt => ?_)
    simp at hx
    subst hx
    rcases h.kin _ hgp with h1 | h1
    · simp [h1]
    · omega
  · rintro x (hx | hx)
    · exact h.ff x hx
    · have := hv x hx; exact .inr (by omega)
  · rintro x (hx | (hx | hx) | hx)
    · exact h.ap x (.inl hx)
    · exact h.ap x (.inr (.inl hx))
    · have := hv x hx; omega
    · exact h.ap x (.inr (.inr hx))

theorem qfirst_ok (a b : Wv) (p : PlanL) (hb : Big b) : (∀ i ∈ firstW b (p.length + cntW a), i < (build b (build a p)).length ∧ ndOf (build b (build a p)) i = []) ∧ (firstW b (p.length + cntW a)).Nodup := by
  obtain ⟨hs, _⟩ := build_seg b (build a p) (NumsW.mono (fun n (h : 1 ≤ n ∧ n ≤ 10300) => h.1) hb)
  rw [build_len] at hs
  refine ⟨fun i hi => ?_, hs.firstp.imp (fun h => Nat.ne_of_lt h)⟩
  have h1 := (hs.first i).1 hi
  exact ⟨by have := hs.len; omega, h1.2.2⟩

/-- Behind: both cloths have become one, in C. -/
theorem Qeld2.behind {w w6 W8 : World} {base : Nat} {F F' : Nat → Prop} {R Z C k : Nat} {s : ByteArray} {pv pv' fv lv fv2 lv2 : Value} {p : PlanL} {a b : Wv} (h : Qeld2 w w6 base F R s pv p Z C a b (links (build b (build a p)) (firstW b (p.length + cntW a)) (natL (lastW a p.length))) k pv' F' fv lv fv2 lv2)
    (hC : Cells W8 C [fv, lv2, .int .i64 (workW a + workW b), .int .i64 (spanW a + spanW b)]) (ho8 : Only [C] w6 W8) : Qeld w W8 base F R s pv p Z C (.seq a b) k pv' F' fv lv2 := by
  have hcz := h.cz
  have hcl := h.c.lt
  refine ⟨?_, hC, h.z.only ho8 (by simp; exact fun e => hcz.1 e.symm), h.fa.only ho8 (fun x hx hz => ?_) (Kin.refl _ _), h.lb.only ho8 (fun x hx hz => ?_) (Kin.refl _ _), ?_, h.kin, h.ff, h.fn, h.ln2, ?_, hcz⟩
  · exact h.rd.only ho8 (by simp; exact fun e => hcz.2.1 e.symm) (fun x hx hz => by simp at hz; exact (h.ap x (.inl hx)).1 hz) (fun x hx hz => by simp at hz; exact (h.ap x (.inr (.inl hx))).1 hz)
  · simp at hz; exact (h.ap x (.inr (.inr (.inl hx)))).1 hz
  · simp at hz; exact (h.ap x (.inr (.inr (.inr (.inr (.inr hx)))))).1 hz
  · exact h.only.trans ho8 (fun x hx hlt => by simp at hx; omega)
  · rintro x (hx | hx | hx | hx)
    · exact h.ap x (.inl hx)
    · exact h.ap x (.inr (.inl hx))
    · exact h.ap x (.inr (.inr (.inl hx)))
    · exact h.ap x (.inr (.inr (.inr (.inr (.inr hx)))))

/-- A fault has been told; what stands lies in the block C. -/
structure Gone (mm : Nat) (w wr : World) (R : Nat) (s : ByteArray) (pv : Value) (Z C : Nat) (fa : Option Addr) (fn fc : Nat) (la : Option Addr) (ln lc : Nat) (x y : Int) : Prop where
  lost : Lost mm w wr R s pv fa fn fc la ln lc x y
  c : Cells wr C [.slice fa fn fc, .slice la ln lc, .int .i64 x, .int .i64 y]
  z : Cells wr Z [.slice none 0 0, .slice none 0 0, .int .i64 0, .int .i64 0]
  ap : ∀ u, (u ∈ own (.slice fa fn fc) ∨ u ∈ own (.slice la ln lc)) → u ≠ C ∧ u ≠ Z
  cz : C ≠ Z ∧ C ≠ R ∧ Z ≠ R ∧ w.heap.size ≤ Z ∧ w.heap.size ≤ C

theorem Gone.up {mm mn : Nat} {w wr : World} {R Z C : Nat} {s : ByteArray} {pv : Value} {fa la : Option Addr} {fn fc ln lc : Nat} {x y : Int} (h : Gone mm w wr R s pv Z C fa fn fc la ln lc x y) (hm : mm ≤ mn) : Gone mn w wr R s pv Z C fa fn fc la ln lc x y :=
  ⟨h.lost.up hm, h.c, h.z, h.ap, h.cz⟩
theorem Gone.same {mm : Nat} {w wr wq : World} {R Z C : Nat} {s : ByteArray} {pv : Value} {fa la : Option Addr} {fn fc ln lc : Nat} {x y : Int} (h : Gone mm w wr R s pv Z C fa fn fc la ln lc x y) (ho : Only [] wr wq) : Gone mm w wq R s pv Z C fa fn fc la ln lc x y :=
  ⟨h.lost.only' ho (by simp) (by simp) (by simp) (by simp), h.c.only ho (by simp), h.z.only ho (by simp), h.ap, h.cz⟩
theorem gone_new {mm : Nat} {w W0 w5 : World} {R Z : Nat} {s : ByteArray} {pv : Value} {fa la : Option Addr} {fn fc ln lc : Nat} {x y : Int} (hpvl : ∀ x ∈ own pv, x < w.heap.size) (hRl : R < w.heap.size)
    (ho0 : Only [] w W0) (hZ0 : Cells W0 Z [.slice none 0 0, .slice none 0 0, .int .i64 0, .int .i64 0]) (hz1 : w.heap.size ≤ Z) (h : Lost mm W0 w5 R s pv fa fn fc la ln lc x y) :
    Gone mm w (w5.alloc (.cells #[.slice fa fn fc, .slice la ln lc, .int .i64 x, .int .i64 y] 64)) R s pv Z w5.heap.size fa fn fc la ln lc x y := by
  have hs0 := ho0.size
  have hzl := hZ0.lt
  have hs5 := h.only.size
  have hal : Only [] w5 (w5.alloc (.cells #[.slice fa fn fc, .slice la ln lc, .int .i64 x, .int .i64 y] 64)) := (Only.refl [] w5).alloc _
  refine ⟨(h.before ho0 (by simp)).only' hal (by simp) (by simp) (by simp) (by simp), Cells.new w5 _ 64, (hZ0.only h.only (fun hx => ?_)).only hal (by simp), fun u hu => ?_, by omega, by omega, by omega, hz1, by omega⟩
  · rcases List.mem_cons.1 hx with hx | hx
    · omega
    · have := hpvl _ hx; omega
  · rcases hu with hu | hu
    · have := h.af u hu; omega
    · have := h.al u hu; omega
theorem Gone.done {mm base : Nat} {F : Nat → Prop} {p : PlanL} {w wr W8 : World} {R Z C : Nat} {s : ByteArray} {pv : Value} {fa la : Option Addr} {fn fc ln lc : Nat} {x y : Int} (h : Gone mm w wr R s pv Z C fa fn fc la ln lc x y) (ho : Only [Z] wr W8) :
    QdPost mm base F R s pv p w none (.returned (.agg #[.slice fa fn fc, .slice la ln lc, .int .i64 x, .int .i64 y])) W8 := by
  have hcz := h.cz
  refine ⟨fa, fn, fc, la, ln, lc, x, y, rfl, h.lost.only' ho (by simp; omega) (by simp; exact fun e => hcz.2.2.1 e.symm) (fun z hz hx => ?_) (fun z hz hx => ?_)⟩
  · simp at hx; exact (h.ap z (.inl hz)).2 hx
  · simp at hx; exact (h.ap z (.inr hz)).2 hx

/-- A fault behind a cloth that is held. -/
theorem Qeld.lost {mm : Nat} {w wr w5 : World} {base : Nat} {F F' : Nat → Prop} {R Z C k : Nat} {s : ByteArray} {pv pv' : Value} {p : PlanL} {a : Wv} {fa la ga ka : Option Addr} {n1 fc n2 lc n3 c3 n4 c4 : Nat} {x y : Int}
    (h : Qeld w wr base F R s pv p Z C a k pv' F' (.slice fa n1 fc) (.slice la n2 lc)) (hs : s.size ≤ 200) (ha : Big a) (hp : Lost mm wr w5 R s pv' ga n3 c3 ka n4 c4 x y) :
    Gone 1 w w5 R s pv Z C fa n1 fc la n2 lc (workW a) (spanW a) := by
  have hcz := h.cz
  have ho := hp.only
  have hsz := ho.size
  have hs1 := h.only.size
  have hlt := fun x (hx : x ∈ own pv') => (h.rd.plan.far x hx).2
  have hC : C ∉ R :: own pv' := fun hx => by
    rcases List.mem_cons.1 hx with hx | hx
    · exact hcz.2.1 hx
    · exact (h.ap C (.inl hx)).1 rfl
  have hZ : Z ∉ R :: own pv' := fun hx => by
    rcases List.mem_cons.1 hx with hx | hx
    · exact hcz.2.2.1 hx
    · exact (h.ap Z (.inl hx)).2 rfl
  have hlen := h.rd.len
  rw [build_len] at hlen
  have hk := h.rd.hk
  have hw := big_work a ha
  have hl := firstW_len a p.length
  have e1 := natL_len (firstW a p.length)
  have e2 := natL_len (lastW a p.length)
  refine ⟨⟨hp.rc, ?_, ⟨_, h.fa.reads.only ho (fun g hg hz => ?_), by omega⟩, ⟨_, h.la.reads.only ho (fun g hg hz => ?_), by omega⟩, by omega, by omega, fun u hu => ?_, fun u hu => ?_⟩, h.c.only ho hC, h.z.only ho hZ, fun u hu => ?_, hcz⟩
  · refine h.only.trans ho (fun x hx hlt => ?_)
    rcases List.mem_cons.1 hx with hx | hx
    · rw [hx]; simp
    · rcases h.kin x hx with h1 | h1
      · simp [h1]
      · omega
  · have hx := own_of hg
    rcases List.mem_cons.1 hz with hz | hz
    · exact (h.fa.apart _ hx).2.1 hz
    · exact (h.fa.apart _ hx).2.2.1 hz
  · have hx := own_of hg
    rcases List.mem_cons.1 hz with hz | hz
    · exact (h.la.apart _ hx).2.1 hz
    · exact (h.la.apart _ hx).2.2.1 hz
  · have := h.fn u hu; have := (h.fa.apart u hu).2.2.2; omega
  · have := h.ln u hu; have := (h.la.apart u hu).2.2.2; omega
  · rcases hu with hu | hu
    · exact h.ap u (.inr (.inr (.inl hu)))
    · exact h.ap u (.inr (.inr (.inr hu)))

/-- Beside, with a fault: both cloths have become one, in C. -/
theorem Gone.beside {w w5 w4 W8 : World} {R Z C : Nat} {s : ByteArray} {pv : Value} {fa la f3 l3 : Option Addr} {fn fc ln lc m3 c3 m4 c4 B : Nat} {x y u v : Int} {lf ll : List Int} (h : Gone 1 w w5 R s pv Z C fa fn fc la ln lc x y)
    (ho : Only [] w5 w4) (hB : w5.heap.size ≤ B) (hf : Ints w4 B (.slice f3 m3 c3) lf) (hl : Ints w4 B (.slice l3 m4 c4) ll) (h1 : lf.length ≤ 400) (h2 : ll.length ≤ 400)
    (hC : Cells W8 C [.slice f3 m3 c3, .slice l3 m4 c4, .int .i64 u, .int .i64 v]) (ho8 : Only [C] w4 W8) (hu : -5000000 ≤ u ∧ u ≤ 5000000) (hv : -5000000 ≤ v ∧ v ≤ 5000000) : Gone 2 w W8 R s pv Z C f3 m3 c3 l3 m4 c4 u v := by
  have hcz := h.cz
  have hcl := h.c.lt
  have hzl := h.z.lt
  have hs := h.lost.only.size
  have hs4 := ho.size
  have hs8 := ho8.size
  have hff := fun z hz => hf.own_lt z hz
  have hll := fun z hz => hl.own_lt z hz
  obtain ⟨j, pv', hr⟩ := h.lost.rc
  refine ⟨⟨⟨j, pv', (hr.only ho (by simp)).only ho8 (by simp; exact fun e => hcz.2.1 e.symm)⟩, ?_, ⟨lf, hf.reads.only ho8 (fun g hg hx => ?_), by omega⟩, ⟨ll, hl.reads.only ho8 (fun g hg hx => ?_), by omega⟩, by omega, by omega, fun z hz => ?_, fun z hz => ?_⟩, hC, (h.z.only ho (by simp)).only ho8 (by simp; exact fun e => hcz.1 e.symm), fun z hz => ?_, hcz⟩
  · exact (h.lost.only.trans ho (by simp)).trans ho8 (fun x hx hlt => by simp at hx; omega)
  · simp at hx; have := hff g (own_of hg); omega
  · simp at hx; have := hll g (own_of hg); omega
  · have := hff z hz; omega
  · have := hll z hz; omega
  · rcases hz with hz | hz
    · have := hff z hz; omega
    · have := hll z hz; omega

/-- Where the reader is: its measure. -/
def measQ (s : ByteArray) (R : Nat) (wr : World) : Nat :=
  match wr.cell? ⟨R, 3, none⟩ with
  | some (.int _ e) => if e = 0 then s.size + 1 - (match wr.cell? ⟨R, 1, none⟩ with | some (.int _ j) => j.toNat | _ => 0) else 0
  | _ => 0
theorem meas_on {s : ByteArray} {R k : Nat} {wr : World} {a pv : Value} (h : Cells wr R [a, .int .i64 k, pv, .int .i64 0]) : measQ s R wr = s.size + 1 - k := by
  have h1 := h.cell 1 _ rfl
  have h3 := h.cell 3 _ rfl
  unfold measQ
  rw [h3, h1]
  simp
theorem meas_off {s : ByteArray} {R : Nat} {wr : World} {a b pv : Value} (h : Cells wr R [a, b, pv, .int .i64 2]) : measQ s R wr = 0 := by
  have h3 := h.cell 3 _ rfl
  unfold measQ
  rw [h3]
  simp

/-- Where a loop over signs stands. -/
def LoopAt (mm : Nat) (G : Nat → Wv → List UInt8 → Option (Wv × List UInt8)) (w : World) (base : Nat) (F : Nat → Prop) (R : Nat) (s : ByteArray) (pv : Value) (p : PlanL) (Z C k : Nat) (res : Option (Wv × List UInt8)) (wr : World) : Prop :=
  (∃ a k' f' pv' F' fv lv, 3 * (s.size - k') + 1 ≤ f' ∧ k ≤ k' ∧ G f' a (rest s k') = res ∧ Big a ∧ Qeld w wr base F R s pv p Z C a k' pv' F' fv lv) ∨
  (res = none ∧ ∃ fa fn fc la ln lc x y, Gone mm w wr R s pv Z C fa fn fc la ln lc x y)

theorem LoopAt.cases {mm : Nat} {G H : Nat → Wv → List UInt8 → Option (Wv × List UInt8)} {w wr : World} {base : Nat} {F : Nat → Prop} {R Z C k : Nat} {s : ByteArray} {pv : Value} {p : PlanL} {res : Option (Wv × List UInt8)} (h : LoopAt mm G w base F R s pv p Z C k res wr) (c : UInt8) (cz : Int) (hcz : cz = (c.toNat : Int))
    (hG : ∀ f a l, G (f + 1) a l = if isC c l then H f a l.tail else some (a, l)) :
    ((Calls Tryd.prog 47 #[.pointer (some ⟨R, 0, none⟩), .int .u8 cz] wr fun e w' => e = .returned (.bool false) ∧ ∃ n, w' = wr.drewN n) ∧
      ∃ fa fn fc la ln lc x y, Cells wr C [.slice fa fn fc, .slice la ln lc, .int .i64 x, .int .i64 y] ∧ Cells wr Z [.slice none 0 0, .slice none 0 0, .int .i64 0, .int .i64 0] ∧
        ∀ w7 W8, Only [] wr w7 → Only [Z] w7 W8 → QdPost mm base F R s pv p w res (.returned (.agg #[.slice fa fn fc, .slice la ln lc, .int .i64 x, .int .i64 y])) W8) ∨
    (∃ a k' f' pv' F' fa n1 fc la n2 lc, isC c (rest s k') = true ∧ k' < s.size ∧ 3 * (s.size - k') ≤ f' ∧ k ≤ k' ∧ H f' a (rest s (k' + 1)) = res ∧ Big a ∧ Qeld w wr base F R s pv p Z C a k' pv' F' (.slice fa n1 fc) (.slice la n2 lc)) := by
  rcases h with ⟨a, k', f', pv', F', fv, lv, h1, h2, h3, h4, h5⟩ | ⟨rfl, fa, fn, fc, la, ln, lc, x, y, h⟩
  · obtain ⟨f2, rfl⟩ : ∃ f2, f' = f2 + 1 := ⟨f' - 1, by omega⟩
    obtain ⟨fa, fc, rfl, _⟩ := h5.fa.reads.opt
    obtain ⟨la, lc, rfl, _⟩ := h5.la.reads.opt
    rw [hG] at h3
    cases hb : isC c (rest s k') with
    | false =>
      rw [if_neg (by rw [hb]; simp)] at h3
      subst h3
      refine .inl ⟨ref_next R s k' pv' c cz hcz wr h5.rd.cells false hb, _, _, _, _, _, _, _, _, h5.c, h5.z, fun w7 W8 ho7 ho8 => (h5.same ho7).done ?_ ho8⟩
      rw [rest_len]
      have := h5.rd.hk
      omega
    | true =>
      rw [if_pos hb, rest_tail] at h3
      refine .inr ⟨a, k', f2, pv', F', _, _, _, _, _, _, hb, ?_, by omega, h2, h3, h4, h5⟩
      rcases Nat.lt_or_ge k' s.size with h' | h'
      · exact h'
      · rw [rest_end s k' h'] at hb; cases hb
  · obtain ⟨j, pv', hr⟩ := h.lost.rc
    exact .inl ⟨ref_next_no R _ _ pv' cz wr hr, _, _, _, _, _, _, _, _, h.c, h.z, fun w7 W8 ho7 ho8 => (h.same ho7).done ho8⟩

/-- The first reading, put into a block of its own. -/
theorem loop_new {mm mn : Nat} {G : Nat → Wv → List UInt8 → Option (Wv × List UInt8)} {w W0 w5 : World} {base : Nat} {F : Nat → Prop} {R Z k f : Nat} {s : ByteArray} {pv : Value} {p : PlanL} {r0 res : Option (Wv × List UInt8)} {e : Ending} (hpvl : ∀ x ∈ own pv, x < w.heap.size) (hFl : ∀ x, F x → x < w.heap.size) (hRl : R < w.heap.size)
    (ho0 : Only [] w W0) (hZ0 : Cells W0 Z [.slice none 0 0, .slice none 0 0, .int .i64 0, .int .i64 0]) (hz1 : w.heap.size ≤ Z) (h : QdPost mm base F R s pv p W0 r0 e w5) (hm : mm ≤ mn) (hr : r0.bind (fun x => G f x.1 x.2) = res) (hf : 3 * (s.size - k) + 1 ≤ f) (hk : k ≤ s.size)
    (h0 : ∀ a r, r0 = some (a, r) → Big a ∧ r <:+ rest s k) :
    ∃ fa fn fc la ln lc x y, e = .returned (.agg #[.slice fa fn fc, .slice la ln lc, .int .i64 x, .int .i64 y]) ∧ LoopAt mn G w base F R s pv p Z w5.heap.size k res (w5.alloc (.cells #[.slice fa fn fc, .slice la ln lc, .int .i64 x, .int .i64 y] 64)) := by
  cases r0 with
  | none =>
    obtain ⟨fa, fn, fc, la, ln, lc, x, y, rfl, h⟩ := h
    exact ⟨fa, fn, fc, la, ln, lc, x, y, rfl, .inr ⟨hr.symm, _, _, _, _, _, _, _, _, (gone_new hpvl hRl ho0 hZ0 hz1 h).up hm⟩⟩
  | some ar =>
    obtain ⟨a, r⟩ := ar
    obtain ⟨hb, hsuf⟩ := h0 a r rfl
    obtain ⟨fv, lv, pv', F', rfl, hH⟩ := qeld_new hpvl hFl hRl ho0 hZ0 hz1 h
    obtain ⟨fa, fc, rfl, _⟩ := hH.fa.reads.opt
    obtain ⟨la, lc, rfl, _⟩ := hH.la.reads.opt
    have hrl := hsuf.length_le
    rw [rest_len] at hrl
    refine ⟨_, _, _, _, _, _, _, _, rfl, .inl ⟨a, s.size - r.length, f, pv', F', _, _, by omega, by omega, ?_, hb, hH⟩⟩
    rw [rest_suf s k r hsuf]
    exact hr

/-- A list put behind one of the call's own, as a writer of a region: the list may be empty. -/
theorem writes_any {o : Oper} {a : Act} {w : World} {K : Value → World → Prop} (s x : Operand)
    (ho : o.op = .call { callee := .builtin .append, args := #[s, x], argTypes := #[37, 37] })
    (W : World) (base : Nat) (v : Value) (xs : List Int) (u : Value) (ys : List Int) (hown : Ints W base v xs) (hu : Reads W u ys) (hlen : xs.length + ys.length ≤ 1000000000) (hbase : base ≤ W.heap.size)
    (hs : a.eval s = v) (hx : a.eval x = u) (hW : Only [] W w)
    (h : ∀ v' w', Ints w' base v' (xs ++ ys) → Only (own v) W w' → Kin W (own v) (own v') → K v' w') : ∃ v' w', Writes Tryd.prog o a w v' w' ∧ K v' w' := by
  obtain ⟨v', w', hr, k1, k2, k3⟩ := run_reads (w := w) o.type W base v xs u ys hown hu hlen hbase hW
  refine ⟨v', w', .inl ?_, h v' w' k1 k2 k3⟩
  unfold execOp
  simp only [ho, resolve, invoke, builtin, Sem.run_bind, Sem.run_pure, Result.andThen_ok, List.map_toArray, List.map_cons, List.map_nil, hs, hx, hr]

end Go.Proofs.YtocpmncedlenbaaDoor
