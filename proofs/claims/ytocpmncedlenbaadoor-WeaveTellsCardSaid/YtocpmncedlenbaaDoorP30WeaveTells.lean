/-
  What weave's behind does to the plan: a task needs the last ones.
-/
import Derived.Test.YtocpmncedlenbaaDoorP29WeaveTells
namespace Go.Proofs.YtocpmncedlenbaaDoor
open Go.RowKit Go.Deep

theorem Held2.link {w wr x1 : World} {base : Nat} {F F' : Nat → Prop} {R Z C k g m cap i : Nat} {s : ByteArray} {pv fv lv fv2 lv2 v' : Value} {p q : PlanL} {a b : Wv} {X : List Int}
    (h : Held2 w wr base F R s pv p Z C a b q k (.slice (some ⟨g, 0, none⟩) m cap) F' fv lv fv2 lv2) (hi : i < q.length) (h0 : ndOf q i = []) (ho : Only [] wr x1) (hI : Ints x1 wr.heap.size v' X) (hX : X ≠ []) :
    Held2 w (x1.setCell ⟨g, i * 2 + 1, none⟩ v') base F R s pv p Z C a b (addN X q i) k (.slice (some ⟨g, 0, none⟩) m cap) (fun x => F' x ∨ x ∈ own v') fv lv fv2 lv2 ∧ Only [g] wr (x1.setCell ⟨g, i * 2 + 1, none⟩ v') := by
  have hown : own (.slice (some ⟨g, 0, none⟩) m cap) = [g] := by simp [own, Value.ownBlock]
  have hgp : g ∈ own (.slice (some ⟨g, 0, none⟩) m cap) := by rw [hown]; simp
  have hcz := h.cz
  have hs1 := ho.size
  have hsw := h.only.size
  have hgl := (h.rd.plan.far g hgp)
  have hcl := h.c.lt
  have hzl := h.z.lt
  have hRl := h.rd.cells.lt
  have hb2 := h.rd.b2
  have hgR : R ≠ g := fun e => h.rd.n1 (by rw [e]; exact hgp)
  have hgC := (h.ap g (.inl hgp)).1
  have hgZ := (h.ap g (.inl hgp)).2
  have hv : ∀ x ∈ own v', wr.heap.size ≤ x ∧ x < x1.heap.size := fun x hx => hI.own_lt x hx
  have hst : Only [g] x1 (x1.setCell ⟨g, i * 2 + 1, none⟩ v') := (Only.refl [g] x1).setCell (by simp) _
  have hall : Only [g] wr (x1.setCell ⟨g, i * 2 + 1, none⟩ v') := (ho.mono (by simp)).trans hst (by simp)
  have hs2 := hst.size
  have hP := (h.rd.plan.same ho).setNeeds (F' := fun x => F' x ∨ x ∈ own v') (p' := addN X q i) i (u := v') (l := X) hi (addN_len _ _ _) (fun j _ => (addN_wk X q i j).symm) (fun j _ => by
    rw [addN_nd X q i j hi]
    by_cases e : j = i
    · subst e; rw [if_pos rfl, if_pos rfl, h0]; rfl
    · rw [if_neg e, if_neg e]) hI.reads (fun x hx => .inl hx) (fun x hx => ⟨.inr hx, by have := hv x hx; omega⟩) hX
  refine ⟨⟨⟨h.rd.cells.only hall (by simp; exact hgR), hP, h.rd.n1, ?_, ?_, hb2, h.rd.hk, by rw [addN_len]; exact h.rd.len⟩, h.c.only hall (by simp; exact fun e => hgC e.symm), h.z.only hall (by simp; exact fun e => hgZ e.symm),
    h.fa.only hall (fun x hx hz => ?_) (Kin.refl _ _), h.la.only hall (fun x hx hz => ?_) (Kin.refl _ _), h.fb.only hall (fun x hx hz => ?_) (Kin.refl _ _), h.lb.only hall (fun x hx hz => ?_) (Kin.refl _ _), ?_, h.kin, ?_, h.fn, h.ln, h.fn2, h.ln2, ?_, hcz⟩, hall⟩
  · rintro (hx | hx)
    · exact h.rd.n2 hx
    · have := hv R hx; omega
  · rintro x (hx | hx)
    · have := h.rd.b1 x hx; omega
    · have := hv x hx; omega
  · exact (h.fa.apart x hx).2.2.1 (by rw [hown]; exact hz)
  · exact (h.la.apart x hx).2.2.1 (by rw [hown]; exact hz)
  · exact (h.fb.apart x hx).2.2.1 (by rw [hown]; exact hz)
  · exact (h.lb.apart x hx).2.2.1 (by rw [hown]; exact hz)
  · refine h.only.trans hall (fun x hx hlt => ?_)
    simp at hx
    subst hx
    rcases h.kin _ hgp with h1 | h1
    · simp [h1]
    · omega
  · rintro x (hx | hx)
    · exact h.ff x hx
    · have := hv x hx; exact .inr (by omega)
  · rintro x (hx | (hx | hx) | hx)
    · exact h.ap x (.inl hx)
    · exact h.ap x (.inr (.inl hx))
    · have := hv x hx; omega
    · exact h.ap x (.inr (.inr hx))

theorem OwnPlanN.some {w : World} {base : Nat} {F : Nat → Prop} {v : Value} {p : PlanL} (h : OwnPlanN w base F v p) (hp : 0 < p.length) : ∃ g cap, v = .slice (some ⟨g, 0, none⟩) p.length cap := by
  obtain ⟨N, k1, _⟩ := h
  obtain ⟨a, cap, rfl, _, _, h0⟩ := Row.form k1
  obtain ⟨g, rfl, _⟩ := h0 hp
  exact ⟨g, cap, rfl⟩

/-- Of the first tasks of what stands behind: they need nothing yet. -/
theorem links_step {q : PlanL} {l : List Nat} {X : List Int} (hl : ∀ i ∈ l, i < q.length ∧ ndOf q i = []) (hn : l.Nodup) (j i : Nat) (hj : l[j]? = some i) :
    i < (links q (l.take j) X).length ∧ ndOf (links q (l.take j) X) i = [] ∧ links q (l.take (j + 1)) X = addN X (links q (l.take j) X) i := by
  obtain ⟨hjl, hji⟩ := List.getElem?_eq_some_iff.1 hj
  have hi := hl i (by rw [← hji]; exact List.getElem_mem _)
  have ht : l.take (j + 1) = l.take j ++ [i] := by rw [List.take_succ_eq_append_getElem hjl, hji]
  refine ⟨by rw [links_len]; exact hi.1, ?_, ?_⟩
  · rw [links_nd _ _ _ _ (fun x hx => (hl x (List.mem_of_mem_take hx)).1) (hn.sublist (List.take_sublist _ _)), if_neg]
    · exact hi.2
    · intro hm
      obtain ⟨m, hm, hme⟩ := List.getElem_of_mem hm
      rw [List.length_take] at hm
      rw [List.getElem_take] at hme
      have := (List.pairwise_iff_getElem.1 hn) m j (by omega) hjl (by omega)
      exact this (by rw [hme, hji])
  · rw [ht]
    unfold links
    rw [List.foldl_append]
    rfl

theorem first_ok (a b : Wv) (p : PlanL) (hb : Small b) : (∀ i ∈ firstW b (p.length + cntW a), i < (build b (build a p)).length ∧ ndOf (build b (build a p)) i = []) ∧ (firstW b (p.length + cntW a)).Nodup := by
  obtain ⟨hs, _⟩ := build_seg b (build a p) (NumsW.mono (fun n (h : 1 ≤ n ∧ n ≤ 21) => h.1) hb)
  rw [build_len] at hs
  refine ⟨fun i hi => ?_, hs.firstp.imp (fun h => Nat.ne_of_lt h)⟩
  have h1 := (hs.first i).1 hi
  exact ⟨by have := hs.len; omega, h1.2.2⟩

/-- Behind: both cloths have become one, in C. -/
theorem Held2.behind {w w6 W8 : World} {base : Nat} {F F' : Nat → Prop} {R Z C k : Nat} {s : ByteArray} {pv pv' fv lv fv2 lv2 : Value} {p : PlanL} {a b : Wv} (h : Held2 w w6 base F R s pv p Z C a b (links (build b (build a p)) (firstW b (p.length + cntW a)) (natL (lastW a p.length))) k pv' F' fv lv fv2 lv2)
    (hC : Cells W8 C [fv, lv2, .int .i64 (workW a + workW b), .int .i64 (spanW a + spanW b)]) (ho8 : Only [C] w6 W8) : Held w W8 base F R s pv p Z C (.seq a b) k pv' F' fv lv2 := by
  have hcz := h.cz
  have hcl := h.c.lt
  refine ⟨?_, hC, h.z.only ho8 (by simp; exact fun e => hcz.1 e.symm), h.fa.only ho8 (fun x hx hz => ?_) (Kin.refl _ _), h.lb.only ho8 (fun x hx hz => ?_) (Kin.refl _ _), ?_, h.kin, h.ff, h.fn, h.ln2, ?_, hcz⟩
  · exact h.rd.only ho8 (by simp; exact fun e => hcz.2.1 e.symm) (fun x hx hz => by simp at hz; exact (h.ap x (.inl hx)).1 hz) (fun x hx hz => by simp at hz; exact (h.ap x (.inr (.inl hx))).1 hz)
  · simp at hz; exact (h.ap x (.inr (.inr (.inl hx)))).1 hz
  · simp at hz; exact (h.ap x (.inr (.inr (.inr (.inr (.inr hx)))))).1 hz
  · exact h.only.trans ho8 (fun x hx hlt => by simp at hx; omega)
  · rintro x (hx | hx | hx | hx)
    · exact h.ap x (.inl hx)
    · exact h.ap x (.inr (.inl hx))
    · exact h.ap x (.inr (.inr (.inl hx)))
    · exact h.ap x (.inr (.inr (.inr (.inr (.inr hx)))))

end Go.Proofs.YtocpmncedlenbaaDoor
