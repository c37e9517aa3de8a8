/-
  Contract of weave's beside.
-/
import Derived.Test.YtocpmncedlenbaaDoorP28WeaveTells
namespace Go.Proofs.YtocpmncedlenbaaDoor
open Go.RowKit Go.Deep

abbrev Small (t : Wv) : Prop := NumsW (fun n => 1 ≤ n ∧ n ≤ 21) t
theorem small_work (t : Wv) (h : Small t) : 0 ≤ spanW t ∧ spanW t ≤ workW t ∧ workW t ≤ 21 * cntW t := by
  induction t with
  | num n => exact ⟨by have := h.1; show 0 ≤ n; omega, Int.le_refl _, by have := h.2; show n ≤ 21 * ((1 : Nat) : Int); omega⟩
  | seq a b ia ib =>
    obtain ⟨a1, a2, a3⟩ := ia h.1
    obtain ⟨b1, b2, b3⟩ := ib h.2
    show 0 ≤ spanW a + spanW b ∧ spanW a + spanW b ≤ workW a + workW b ∧ workW a + workW b ≤ 21 * ((cntW a + cntW b : Nat) : Int)
    omega
  | par a b ia ib =>
    obtain ⟨a1, a2, a3⟩ := ia h.1
    obtain ⟨b1, b2, b3⟩ := ib h.2
    show 0 ≤ max (spanW a) (spanW b) ∧ max (spanW a) (spanW b) ≤ workW a + workW b ∧ workW a + workW b ≤ 21 * ((cntW a + cntW b : Nat) : Int)
    omega
theorem pBar_succ (f : Nat) (a : Wv) (s : List UInt8) : pBar (f + 1) a s = if isC 124 s then (pBehind f s.tail).bind (fun x => pBar f (.par a x.1) x.2) else some (a, s) := by rw [pBar]
theorem pSemi_succ (f : Nat) (a : Wv) (s : List UInt8) : pSemi (f + 1) a s = if isC 59 s then (pOne f s.tail).bind (fun x => pSemi f (.seq a x.1) x.2) else some (a, s) := by rw [pSemi]

set_option maxRecDepth 100000 in
set_option maxHeartbeats 4000000 in
theorem weave_beside (base R : Nat) (s : ByteArray) (hs : s.size ≤ 200) (f k : Nat) (hfu : 3 * (s.size - k) + 2 ≤ f)
    (hbeh : ∀ k' f', k ≤ k' → 3 * (s.size - k') + 2 ≤ f' → ∀ F pv p w, RdAt w base F R s k' pv p → ErrsAt w base → Calls Tryd.prog 48 #[.pointer (some ⟨R, 0, none⟩)] w (RdPost base F R s pv p w (pBehind f' (rest s k'))))
    (F : Nat → Prop) (pv : Value) (p : PlanL) (w : World) (h : RdAt w base F R s k pv p) (hv : ErrsAt w base) :
    Calls Tryd.prog 24 #[.pointer (some ⟨R, 0, none⟩)] w (RdPost base F R s pv p w (pBeside (f + 1) (rest s k))) := by
  obtain ⟨W0, hW0⟩ : ∃ W0, w.alloc (.cells #[.slice none 0 0, .slice none 0 0, .int .i64 0, .int .i64 0] 73) = W0 := ⟨_, rfl⟩
  have ho0 : Only [] w W0 := by rw [← hW0]; exact (Only.refl [] w).alloc _
  have hsz0 : W0.heap.size = w.heap.size + 1 := by rw [← hW0]; simp
  have hZ0 : Cells W0 w.heap.size [.slice none 0 0, .slice none 0 0, .int .i64 0, .int .i64 0] := by
    have := Cells.new w #[.slice none 0 0, .slice none 0 0, .int .i64 0, .int .i64 0] 73
    rw [hW0] at this; exact this
  have hpv := Lib.hid (fun x hx => (h.plan.far x hx).2)
  have hFl := Lib.hid (fun x hx => (h.b1 x hx).2)
  have hRl := Lib.hid h.cells.lt
  have HZ := Lib.hid hZ0
  have HO := Lib.hid ho0
  have HV := Lib.hid hv
  have HB := Lib.hid (fun x (hx : x ∈ R :: own pv) => (show base ≤ x by
    rcases List.mem_cons.1 hx with rfl | hx
    · exact h.b2
    · exact (h.plan.far x hx).1))
  have HBEH := Lib.hid hbeh
  obtain ⟨res, hres⟩ : ∃ res, pBeside (f + 1) (rest s k) = res := ⟨_, rfl⟩
  rw [hres]
  have hres' : (pBehind f (rest s k)).bind (fun x => pBar f x.1 x.2) = res := by rw [← hres]; unfold pBeside; rfl
  have HRES := Lib.hid hres'
  have hcall := hbeh k f (Nat.le_refl _) hfu F pv p W0 (h.same ho0) (hv.low ho0 (by simp))
  have hkl := h.hk
  clear hZ0 ho0 hres hres' hbeh hsz0 h hv
  go_enter Tryd.func24, Tryd.ntmps24
  cases hq : pBehind f (rest s k) with
  | none =>
    rw [hq] at hcall
    have hr0 : res = none := by rw [← HRES.out, hq]; rfl
    subst hr0
    go_wp2_with fail
    refine hcall.mono ?_
    rintro e w5 ⟨rfl, ho5⟩
    have hfin := Lib.hid ((HO.out.mono (T := R :: own pv) (by simp)).trans ho5 (fun x hx _ => hx))
    exact ⟨rfl, rfl, hfin.out⟩
  | some x =>
    obtain ⟨a, r⟩ := x
    rw [hq] at hcall
    go_wp2_with fail
    refine hcall.mono ?_
    intro e w5 hpost
    obtain ⟨fv, lv, pv1, F1, rfl, hH⟩ := held_new hpv.out hFl.out hRl.out HO.out HZ.out (Nat.le_refl _) hpost
    have hrl := (p_len f).2.1 _ _ _ hq
    have hrr := rest_suf s k r ((p_suf f).2.1 _ _ _ hq)
    have hsm : Small a := (p_nums f).2.1 _ _ hq
    rw [rest_len] at hrl
    have hbar : pBar f a (rest s (s.size - r.length)) = res := by rw [hrr, ← HRES.out, hq]; rfl
    obtain ⟨C, hC⟩ : ∃ C, w5.heap.size = C := ⟨_, rfl⟩
    obtain ⟨fa, fc, rfl, _⟩ := hH.fa.reads.opt
    obtain ⟨la, lc, rfl, _⟩ := hH.la.reads.opt
    rw [hC] at hH
    have HH := Lib.hid hH
    have HBAR := Lib.hid hbar
    have HSM := Lib.hid hsm
    clear hpost hH hcall hbar hrr hsm hq hW0 HRES HZ HO
    go_wp2_with fail
    clear hC
    go_loopw [4] (fun _ wr => ∃ a k' f' pv' F' fv lv, 3 * (s.size - k') + 1 ≤ f' ∧ k ≤ k' ∧ pBar f' a (rest s k') = res ∧ Small a ∧ Held w wr base F R s pv p w.heap.size C a k' pv' F' fv lv) (fun _ wr => s.size - (match wr.cell? ⟨R, 1, none⟩ with | some (.int _ j) => j.toNat | _ => 0))
    case atStart => exact ⟨a, s.size - r.length, f, pv1, F1, _, _, by omega, by omega, HBAR.out, HSM.out, HH.out⟩
    case round =>
      clear HH HBAR HSM hrl
      obtain ⟨wo, rfl⟩ : ∃ wo : World, wo = wr := ⟨_, rfl⟩
      obtain ⟨a, k', f', pv', F', fv, lv, hf', hkk, hbar, hsm, hH⟩ := hrel
      obtain ⟨f2, rfl⟩ : ∃ f2, f' = f2 + 1 := ⟨f' - 1, by omega⟩
      have HH := Lib.hid hH
      have hk2 := hH.rd.hk
      cases hb : isC 124 (rest s k') with
      | false =>
        have hr0 : res = some (a, rest s k') := by rw [← hbar, pBar_succ, if_neg (by rw [hb]; simp)]
        subst hr0
        have his := weave_is R s k' pv' 124 124 rfl wo hH.rd.cells false hb
        clear hH hbar
        obtain ⟨fa, fc, rfl, _⟩ := HH.out.fa.reads.opt
        obtain ⟨la, lc, rfl, _⟩ := HH.out.la.reads.opt
        go_wp2_with fail
        refine his.mono ?_
        rintro e w7 ⟨rfl, n7, hw7⟩
        have hH7 := HH.out.same (hw7 ▸ (Only.refl [] wo).drewN n7)
        have q0 := hH7.c.cell 0 _ rfl
        have q1 := hH7.c.cell 1 _ rfl
        have q2 := hH7.c.cell 2 _ rfl
        have q3 := hH7.c.cell 3 _ rfl
        have z0 := hH7.z.cell 0 _ rfl
        have z1 := hH7.z.cell 1 _ rfl
        have z2 := hH7.z.cell 2 _ rfl
        have z3 := hH7.z.cell 3 _ rfl
        have y0 := hH7.z.free 0 _ rfl
        have y1 := hH7.z.free 1 _ rfl
        have y2 := hH7.z.free 2 _ rfl
        have y3 := hH7.z.free 3 _ rfl
        have hZ9 := Lib.hid (hH7.z.set4 (x := .slice fa (natL (firstW a p.length)).length fc) (y := .slice la (natL (lastW a p.length)).length lc) (u := .int .i64 (workW a)) (v := .int .i64 (spanW a)))
        have HH7 := Lib.hid hH7
        clear his hw7 hH7
        go_wp2_with fail
        refine bodyPost_ret (results_cell1' rfl _ _ _ _ rfl (load_cloth _ _ _ _ hZ9.out)) rfl ?_
        exact HH7.out.done (by rw [rest_len]; omega) (((((Only.refl [w.heap.size] _).setCell (by simp) _).setCell (by simp) _).setCell (by simp) _).setCell (by simp) _)
      | true =>
        have hks : k' < s.size := by
          rcases Nat.lt_or_ge k' s.size with h' | h'
          · exact h'
          · rw [rest_end s k' h'] at hb; cases hb
        have hbar2 : (pBehind f2 (rest s (k' + 1))).bind (fun x => pBar f2 (.par a x.1) x.2) = res := by rw [← hbar, ← rest_tail, pBar_succ, if_pos hb]
        have his := weave_is R s k' pv' 124 124 rfl wo hH.rd.cells true hb
        have HBAR := Lib.hid hbar2
        have HSM := Lib.hid hsm
        clear hH hbar hbar2 hsm hb
        go_wp2_with fail
        refine his.mono ?_
        rintro e w7 ⟨rfl, n7, hw7⟩
        have hH7 := HH.out.same (hw7 ▸ (Only.refl [] wo).drewN n7)
        have hw7c := Lib.hid (show w7.cell? ⟨R, 1, none⟩ = wo.cell? ⟨R, 1, none⟩ by rw [hw7]; rfl)
        have d1 := hH7.rd.cells.cell 1 _ rfl
        have g1 := hH7.rd.cells.free 1 _ rfl
        have HH8 := Lib.hid (hH7.step hks)
        have hcall := HBEH.out (k' + 1) f2 (by omega) (by omega) F' pv' (build a p) _ HH8.out.rd (HV.out.low HH8.out.only HB.out)
        clear his hw7 hH7
        cases hq : pBehind f2 (rest s (k' + 1)) with
        | none =>
          rw [hq] at hcall
          have hr0 : res = none := by rw [← HBAR.out, hq]; rfl
          subst hr0
          go_wp2_with fail
          refine hcall.mono ?_
          rintro e w5 ⟨rfl, ho5⟩
          have hfin := Lib.hid (HH8.out.only.trans ho5 (fun x hx hlt => by
            rcases List.mem_cons.1 hx with hx | hx
            · rw [hx]; simp
            · rcases HH8.out.kin x hx with h1 | h1
              · simp [h1]
              · omega))
          exact ⟨rfl, rfl, hfin.out⟩
        | some x =>
          obtain ⟨b, r⟩ := x
          rw [hq] at hcall
          go_wp2_with fail
          refine hcall.mono ?_
          intro e w5 hpost
          obtain ⟨fv2, lv2, pv2, F2, rfl, hG⟩ := HH8.out.next hpost
          obtain ⟨D, hD⟩ : ∃ D, w5.heap.size = D := ⟨_, rfl⟩
          obtain ⟨fa, fc, rfl, _⟩ := hG.fa.reads.opt
          obtain ⟨la, lc, rfl, _⟩ := hG.la.reads.opt
          obtain ⟨fa2, fc2, rfl, _⟩ := hG.fb.reads.opt
          obtain ⟨la2, lc2, rfl, _⟩ := hG.lb.reads.opt
          obtain ⟨n1, hn1⟩ : ∃ n1, (natL (firstW a p.length)).length = n1 := ⟨_, rfl⟩
          obtain ⟨n2, hn2⟩ : ∃ n2, (natL (lastW a p.length)).length = n2 := ⟨_, rfl⟩
          obtain ⟨n3, hn3⟩ : ∃ n3, (natL (firstW b (p.length + cntW a))).length = n3 := ⟨_, rfl⟩
          obtain ⟨n4, hn4⟩ : ∃ n4, (natL (lastW b (p.length + cntW a))).length = n4 := ⟨_, rfl⟩
          rw [hn1, hn2, hn3, hn4] at hG
          rw [hn3, hn4]
          have HN := Lib.hid (And.intro hn1 (And.intro hn2 (And.intro hn3 hn4)))
          have hal : Only [] w5 (w5.alloc (.cells #[.slice fa2 n3 fc2, .slice la2 n4 lc2, .int .i64 (workW b), .int .i64 (spanW b)] 73)) := (Only.refl [] w5).alloc _
          have hG6 := hG.same hal
          have hD6 : Cells (w5.alloc (.cells #[.slice fa2 n3 fc2, .slice la2 n4 lc2, .int .i64 (workW b), .int .i64 (spanW b)] 73)) D [.slice fa2 n3 fc2, .slice la2 n4 lc2, .int .i64 (workW b), .int .i64 (spanW b)] := by
            rw [← hD]; exact Cells.new w5 _ _
          obtain ⟨w6, hw6⟩ : ∃ w6, w5.alloc (.cells #[.slice fa2 n3 fc2, .slice la2 n4 lc2, .int .i64 (workW b), .int .i64 (spanW b)] 73) = w6 := ⟨_, rfl⟩
          rw [hw6] at hG6 hD6 hal
          have c0 := hG6.c.cell 0 _ rfl
          have c1 := hG6.c.cell 1 _ rfl
          have c2 := hG6.c.cell 2 _ rfl
          have c3 := hG6.c.cell 3 _ rfl
          have d0 := hD6.cell 0 _ rfl
          have d1 := hD6.cell 1 _ rfl
          have d2 := hD6.cell 2 _ rfl
          have d3 := hD6.cell 3 _ rfl
          have hlen := firstW_len a p.length
          have hlen2 := firstW_len b (p.length + cntW a)
          have hpk := hG6.rd.len
          rw [build_len, build_len] at hpk
          have hk9 := hG6.rd.hk
          have hcnt : cntW a + cntW b ≤ 200 := by omega
          have hsb : Small b := (p_nums f2).2.1 _ _ hq
          have hwa := small_work a HSM.out
          have hwb := small_work b hsb
          have hbig : workW a ≤ 4200 ∧ workW b ≤ 4200 := by omega
          have hr1 := HN.out.1
          have hr2 := HN.out.2.1
          have hr3 := HN.out.2.2.1
          have hr4 := HN.out.2.2.2
          have HFa := Lib.hid hG6.fa.reads
          have HLa := Lib.hid hG6.la.reads
          have HFb := Lib.hid hG6.fb.reads
          have HLb := Lib.hid hG6.lb.reads
          have hCl := hG6.c.lt
          have hDl := hD6.lt
          have HG6 := Lib.hid hG6
          have HC6 := Lib.hid hG6.c
          have HD6 := Lib.hid hD6
          have hne1 : natL (firstW a p.length) ≠ [] := by simpa [natL] using firstW_ne a p.length
          have hne2 : natL (lastW a p.length) ≠ [] := by simpa [natL] using lastW_ne a p.length
          have hne3 : natL (firstW b (p.length + cntW a)) ≠ [] := by simpa [natL] using firstW_ne b (p.length + cntW a)
          have hne4 : natL (lastW b (p.length + cntW a)) ≠ [] := by simpa [natL] using lastW_ne b (p.length + cntW a)
          have hl1 : n1 ≤ 200 := by rw [← hr1, natL_len]; omega
          have hl2 : n2 ≤ 200 := by rw [← hr2, natL_len]; omega
          have hl3 : n3 ≤ 200 := by rw [← hr3, natL_len]; omega
          have hl4 : n4 ≤ 200 := by rw [← hr4, natL_len]; omega
          have HNE := Lib.hid (And.intro hne1 (And.intro hne2 (And.intro hne3 hne4)))
          have HL := Lib.hid (And.intro hl1 (And.intro hl2 (And.intro hl3 hl4)))
          have HWK := Lib.hid (And.intro hwa (And.intro hwb (And.intro hbig hsb)))
          have hb0 : 0 ≤ workW a ∧ workW a ≤ 4200 ∧ 0 ≤ workW b ∧ workW b ≤ 4200 ∧ 0 ≤ spanW a ∧ spanW a ≤ 4200 ∧ 0 ≤ spanW b ∧ spanW b ≤ 4200 := by omega
          obtain ⟨b1, b2, b3, b4, b5, b6, b7, b8⟩ := hb0
          clear hcall hpost hn1 hn2 hn3 hn4 hG hlen hlen2 hpk hcnt hsb hwa hwb hbig hr1 hr2 hr3 hr4 hG6 hD6 hal hne1 hne2 hne3 hne4 hl1 hl2 hl3 hl4
          have hq9 := Lib.hid hq
          clear hq
          go_wp2_with fail
          clear hD hw6
          have hwr : IntKind.i64.wrap (workW a + workW b) = workW a + workW b := IntWalk.i64_in _ (by omega)
          refine wp_region_seqE [2, 5, 8, 11, 23] [[(3, 2), (6, 2), (9, 2), (12, 10)], [(0, 1), (6, 2), (9, 2), (12, 10)], [(0, 1), (3, 1), (9, 2), (12, 10)], [(0, 1), (3, 1), (6, 1), (12, 10)], [(0, 1), (3, 1), (6, 1), (9, 1)]] (by kernel_rfl) (by decide +kernel) (by decide +kernel) (by decide +kernel) rfl rfl ?_
          simp only [segsOf, runW, List.getElem?_cons_succ, List.getElem?_cons_zero, List.take_succ_cons, List.take_zero, List.drop_succ_cons, List.drop_zero, Nat.reduceAdd, Nat.reduceSub]
          repeat still_step
          refine wpStill_nil ?_
          refine writes_reads (.const (.slice none 0 0)) (.tmp 19) rfl w6 w6.heap.size (.slice none 0 0) [] _ _ (Ints.nil _ _) HFa.out HNE.out.1 (by have := HN.out.1; have := HL.out.1; simp; omega) (Nat.le_refl _) rfl rfl ((Only.refl [] w6).drew) ?_
          intro v1 x1 hI1 hO1 hK1
          have hown0 : own (.slice none 0 0) = [] := rfl
          rw [hown0] at hO1
          have p1 : 0 < n1 := by have := List.length_pos_iff.2 HNE.out.1; have := HN.out.1; omega
          have p2 : 0 < n2 := by have := List.length_pos_iff.2 HNE.out.2.1; have := HN.out.2.1; omega
          have p3 : 0 < n3 := by have := List.length_pos_iff.2 HNE.out.2.2.1; have := HN.out.2.2.1; omega
          have p4 : 0 < n4 := by have := List.length_pos_iff.2 HNE.out.2.2.2; have := HN.out.2.2.2; omega
          obtain ⟨g1, k1, rfl, q1, q1'⟩ := hI1.sized n1 (by simpa using HN.out.1) p1
          have hC1 := HC6.out.only hO1 (by simp)
          have hD1 := HD6.out.only hO1 (by simp)
          have c10 := hC1.cell 0 _ rfl
          have d10 := hD1.cell 0 _ rfl
          have c11 := hC1.cell 1 _ rfl
          have d11 := hD1.cell 1 _ rfl
          have c12 := hC1.cell 2 _ rfl
          have d12 := hD1.cell 2 _ rfl
          have c13 := hC1.cell 3 _ rfl
          have d13 := hD1.cell 3 _ rfl
          repeat still_step
          refine wpStill_nil ?_
          refine writes_reads (.tmp 20) (.tmp 22) rfl x1 w6.heap.size (.slice (some ⟨g1, 0, none⟩) n1 k1) _ _ _ hI1 (HFb.out.same hO1) HNE.out.2.2.1 (by have := HN.out.1; have := HN.out.2.2.1; have := HL.out; simp; omega) hO1.size rfl rfl (Only.refl [] x1) ?_
          intro v2 x2 hI2 hO2 hK2
          have hgo : own (.slice (some ⟨g1, 0, none⟩) n1 k1) = [g1] := by simp [own, Value.ownBlock]
          rw [hgo] at hO2
          have hlen2 : ([] ++ natL (firstW a p.length) ++ natL (firstW b (p.length + cntW a))).length = n1 + n3 := by have := HN.out.1; have := HN.out.2.2.1; simp; omega
          obtain ⟨g2, k2, rfl, q2, q2'⟩ := hI2.sized (n1 + n3) hlen2 (by omega)
          have hC2 := hC1.only hO2 (by simp; omega)
          have hD2 := hD1.only hO2 (by simp; omega)
          have HLa2 := Lib.hid ((HLa.out.same hO1).only hO2 (fun g hg hx => by simp at hx; have := (HG6.out.la.apart g (own_of hg)).2.2.2; omega))
          have HLb2 := Lib.hid ((HLb.out.same hO1).only hO2 (fun g hg hx => by simp at hx; have := (HG6.out.lb.apart g (own_of hg)).2.2.2; omega))
          have c20 := hC2.cell 0 _ rfl
          have d20 := hD2.cell 0 _ rfl
          have c21 := hC2.cell 1 _ rfl
          have d21 := hD2.cell 1 _ rfl
          have c22 := hC2.cell 2 _ rfl
          have d22 := hD2.cell 2 _ rfl
          have c23 := hC2.cell 3 _ rfl
          have d23 := hD2.cell 3 _ rfl
          repeat still_step
          refine wpStill_nil ?_
          refine writes_reads (.const (.slice none 0 0)) (.tmp 25) rfl x2 x2.heap.size (.slice none 0 0) [] _ _ (Ints.nil _ _) HLa2.out HNE.out.2.1 (by have := HN.out.2.1; have := HL.out; simp; omega) (Nat.le_refl _) rfl rfl (Only.refl [] x2) ?_
          intro v3 x3 hI3 hO3 hK3
          rw [hown0] at hO3
          obtain ⟨g3, k3, rfl, q3, q3'⟩ := hI3.sized n2 (by simpa using HN.out.2.1) p2
          have hC3 := hC2.only hO3 (by simp)
          have hD3 := hD2.only hO3 (by simp)
          have c30 := hC3.cell 0 _ rfl
          have d30 := hD3.cell 0 _ rfl
          have c31 := hC3.cell 1 _ rfl
          have d31 := hD3.cell 1 _ rfl
          have c32 := hC3.cell 2 _ rfl
          have d32 := hD3.cell 2 _ rfl
          have c33 := hC3.cell 3 _ rfl
          have d33 := hD3.cell 3 _ rfl
          repeat still_step
          refine wpStill_nil ?_
          refine writes_reads (.tmp 26) (.tmp 28) rfl x3 x2.heap.size (.slice (some ⟨g3, 0, none⟩) n2 k3) _ _ _ hI3 (HLb2.out.same hO3) HNE.out.2.2.2 (by have := HN.out.2.1; have := HN.out.2.2.2; have := HL.out; simp; omega) hO3.size rfl rfl (Only.refl [] x3) ?_
          intro v4 x4 hI4 hO4 hK4
          have hgo3 : own (.slice (some ⟨g3, 0, none⟩) n2 k3) = [g3] := by simp [own, Value.ownBlock]
          rw [hgo3] at hO4
          have hlen4 : ([] ++ natL (lastW a p.length) ++ natL (lastW b (p.length + cntW a))).length = n2 + n4 := by have := HN.out.2.1; have := HN.out.2.2.2; simp; omega
          obtain ⟨g4, k4, rfl, q4, q4'⟩ := hI4.sized (n2 + n4) hlen4 (by omega)
          have hs1 := hO1.size
          have hs2 := hO2.size
          have hC4 := hC3.only hO4 (by simp; omega)
          have hD4 := hD3.only hO4 (by simp; omega)
          have hI2' := (hI2.only hO3 (by simp)).only hO4 (fun g hg hx => by simp at hx; have := (hI2.own_lt g (own_of hg)).2; omega)
          have ho64 : Only [] w6 x4 := ((hO1.trans hO2 (fun x hx hlt => by simp at hx; omega)).trans hO3 (by simp)).trans hO4 (fun x hx hlt => by simp at hx; omega)
          have c40 := hC4.cell 0 _ rfl
          have d40 := hD4.cell 0 _ rfl
          have c41 := hC4.cell 1 _ rfl
          have d41 := hD4.cell 1 _ rfl
          have c42 := hC4.cell 2 _ rfl
          have d42 := hD4.cell 2 _ rfl
          have c43 := hC4.cell 3 _ rfl
          have d43 := hD4.cell 3 _ rfl
          have f40 := hC4.free 0 _ rfl
          have f41 := hC4.free 1 _ rfl
          have f42 := hC4.free 2 _ rfl
          have f43 := hC4.free 3 _ rfl
          have hC8 := hC4.set4 (x := .slice (some ⟨g2, 0, none⟩) (n1 + n3) k2) (y := .slice (some ⟨g4, 0, none⟩) (n2 + n4) k4) (u := .int .i64 (workW a + workW b)) (v := .int .i64 (max (spanW a) (spanW b)))
          have HFIN := Lib.hid (HG6.out.beside ho64 (by simpa using hI2') (by simpa using hI4.mono (by omega)) hC8 (((((Only.refl [C] x4).setCell (by simp) _).setCell (by simp) _).setCell (by simp) _).setCell (by simp) _))
          clear hC8 hI2' ho64 hI1 hI2 hI3 hI4 hC1 hC2 hC3 hC4 hD1 hD2 hD3 hD4 hO1 hO2 hO3 hO4 HLa2 HLb2 hK1 hK2 hK3 hK4
          repeat still_step
          refine wpStill_nil ?_
          refine writes_step fun K1 hK1 => ?_
          unfold writesThen
          go_simp
          refine hK1 _ _ ?_
          clear hK1 K1
          simp only [lateW, List.nil_append, List.cons_append, List.drop_succ_cons, List.drop_zero, List.flatMap_cons, List.flatMap_nil, List.take_succ_cons, List.take_zero, List.append_nil, List.getElem?_cons_succ, List.getElem?_cons_zero, Option.getD_some, List.length_cons, List.length_nil, Nat.reduceAdd, and_true]
          refine ⟨⟨?_, ?_, ?_, ?_, ?_⟩, ?_⟩
          · repeat still_step
            exact wpStill_nil rfl
          · repeat still_step
            exact wpStill_nil rfl
          · repeat still_step
            exact wpStill_nil rfl
          · repeat still_step
            exact wpStill_nil rfl
          · repeat still_step
            exact wpStill_nil rfl
          have hfin := HFIN.out
          have hpl := (p_len f2).2.1 _ _ _ hq9.out
          rw [rest_len] at hpl
          have hrr := rest_suf s (k' + 1) r ((p_suf f2).2.1 _ _ _ hq9.out)
          have hbar9 : pBar f2 (.par a b) (rest s (s.size - r.length)) = res := by rw [hrr, ← HBAR.out, hq9.out]; rfl
          have hk0 : wo.cell? ⟨R, 1, none⟩ = some (.int .i64 (k' : Int)) := HH.out.rd.cells.cell 1 _ rfl
          have hk8 := hfin.rd.cells.cell 1 _ rfl
          have HE := Lib.hid (And.intro hbar9 (And.intro hk0 (And.intro hk8 hpl)))
          clear hfin hbar9 hk0 hk8 hrr hpl
          go_roundw
          case rel => exact ⟨_, _, _, _, _, _, _, _, _, _, _, _, _, _, _, _, _, _, _, _, _, _, _, _, _, _, _, _, _, _, _, _, _, _, _, ⟨.par a b, s.size - r.length, f2, _, _, _, _, by have := HE.out.2.2.2; omega, by have := HE.out.2.2.2; omega, HE.out.1, ⟨HSM.out, HWK.out.2.2.2⟩, HFIN.out⟩, rfl⟩
          case measure =>
            rw [HE.out.2.2.1, HE.out.2.1]
            have := HE.out.2.2.2
            simp only []
            omega

end Go.Proofs.YtocpmncedlenbaaDoor
