/-
  Contract of the document's behind.
-/
import Derived.Test.YtocpmncedlenbaaDoorP38WeaveTells
import Derived.Test.YtocpmncedlenbaaDoorP39WeaveTells
namespace Go.Proofs.YtocpmncedlenbaaDoor
open Go.RowKit Go.Deep

set_option maxRecDepth 100000 in
set_option maxHeartbeats 4000000 in
theorem ref_behind (base R : Nat) (s : ByteArray) (hs : s.size ≤ 200) (f k : Nat) (hfu : 3 * (s.size - k) + 1 ≤ f)
    (hbeh : ∀ k' f', k ≤ k' → 3 * (s.size - k') + 1 ≤ f' → ∀ F pv p w, QdAt w base F R s k' pv p → Calls Tryd.prog 67 #[.pointer (some ⟨R, 0, none⟩)] w (QdPost 0 base F R s pv p w (qOne f' (rest s k'))))
    (F : Nat → Prop) (pv : Value) (p : PlanL) (w : World) (h : QdAt w base F R s k pv p) :
    Calls Tryd.prog 46 #[.pointer (some ⟨R, 0, none⟩)] w (QdPost 1 base F R s pv p w (qBehind (f + 1) (rest s k))) := by
  obtain ⟨W0, hW0⟩ : ∃ W0, w.alloc (.cells #[.slice none 0 0, .slice none 0 0, .int .i64 0, .int .i64 0] 64) = W0 := ⟨_, rfl⟩
  have ho0 : Only [] w W0 := by rw [← hW0]; exact (Only.refl [] w).alloc _
  have hZ0 : Cells W0 w.heap.size [.slice none 0 0, .slice none 0 0, .int .i64 0, .int .i64 0] := by
    have := Cells.new w #[.slice none 0 0, .slice none 0 0, .int .i64 0, .int .i64 0] 64
    rw [hW0] at this; exact this
  have hpv := Lib.hid (fun x hx => (h.plan.far x hx).2)
  have hFl := Lib.hid (fun x hx => (h.b1 x hx).2)
  have hRl := Lib.hid h.cells.lt
  have HZ := Lib.hid hZ0
  have HO := Lib.hid ho0
  have HBEH := Lib.hid hbeh
  obtain ⟨res, hres⟩ : ∃ res, qBehind (f + 1) (rest s k) = res := ⟨_, rfl⟩
  rw [hres]
  have hres' : (qOne f (rest s k)).bind (fun x => qSemi f x.1 x.2) = res := by rw [← hres]; unfold qBehind; rfl
  have HRES := Lib.hid hres'
  have hcall := hbeh k f (Nat.le_refl _) hfu F pv p W0 (h.same ho0)
  have hkl := h.hk
  clear hZ0 ho0 hres hres' hbeh h
  go_enter Tryd.func46, Tryd.ntmps46
  go_wp2_with fail
  refine hcall.mono ?_
  intro e w5 hpost
  obtain ⟨fa, fn, fc, la, ln, lc, x, y, rfl, hL⟩ := loop_new (mn := 1) (G := qSemi) (k := k) (f := f) hpv.out hFl.out hRl.out HO.out HZ.out (Nat.le_refl _) hpost (by omega) HRES.out (by omega) hkl (fun a r hq => ⟨(q_nums f).1 _ _ hq, (q_suf f).1 _ _ _ hq⟩)
  obtain ⟨C, hC⟩ : ∃ C, w5.heap.size = C := ⟨_, rfl⟩
  rw [hC] at hL
  have HL := Lib.hid hL
  clear hpost hcall hL hW0 HRES HZ HO
  go_wp2_with fail
  clear hC
  go_loopw [4, 5, 6] (fun _ _ _ wr => LoopAt 1 qSemi w base F R s pv p w.heap.size C k res wr) (fun _ _ _ wr => measQ s R wr)
  case atStart => exact HL.out
  case round =>
    clear HL
    obtain ⟨wo, rfl⟩ : ∃ wo : World, wo = wr := ⟨_, rfl⟩
    rcases hrel.cases (H := fun f a l => (qOne f l).bind (fun x => qSemi f (Wv.seq a x.1) x.2)) 59 59 rfl (fun f a l => qSemi_succ f a l) with ⟨his, fa, fn, fc, la, ln, lc, x, y, hCc, hZc, hfin⟩ | ⟨a, k', f2, pv', F', fa, n1, fc, la, n2, lc, hb, hks, hf2, hkk, hbar, hsm, hH⟩
    · have HF := Lib.hid hfin
      have HCc := Lib.hid hCc
      have HZc := Lib.hid hZc
      clear hrel hCc hZc hfin
      go_wp2_with fail
      refine his.mono ?_
      rintro e w7 ⟨rfl, n7, hw7⟩
      have ho7 : Only [] wo w7 := hw7 ▸ (Only.refl [] wo).drewN n7
      have hC7 := HCc.out.only ho7 (by simp)
      have hZ7 := HZc.out.only ho7 (by simp)
      have q0 := hC7.cell 0 _ rfl
      have q1 := hC7.cell 1 _ rfl
      have q2 := hC7.cell 2 _ rfl
      have q3 := hC7.cell 3 _ rfl
      have z0 := hZ7.cell 0 _ rfl
      have z1 := hZ7.cell 1 _ rfl
      have z2 := hZ7.cell 2 _ rfl
      have z3 := hZ7.cell 3 _ rfl
      have y0 := hZ7.free 0 _ rfl
      have y1 := hZ7.free 1 _ rfl
      have y2 := hZ7.free 2 _ rfl
      have y3 := hZ7.free 3 _ rfl
      have hZ9 := Lib.hid (hZ7.set4 (x := .slice fa fn fc) (y := .slice la ln lc) (u := .int .i64 x) (v := .int .i64 y))
      have HF7 := Lib.hid (fun W8 h8 => HF.out w7 W8 ho7 h8)
      clear his hw7 ho7 hC7 hZ7 HF
      go_wp2_with fail
      refine bodyPost_ret (results_cell1' rfl _ _ _ _ rfl (load_Cloth _ _ _ _ hZ9.out)) rfl ?_
      exact HF7.out _ (((((Only.refl [w.heap.size] _).setCell (by simp) _).setCell (by simp) _).setCell (by simp) _).setCell (by simp) _)
    · have his := ref_next R s k' pv' 59 59 rfl wo hH.rd.cells true hb
      have HH := Lib.hid hH
      have HBAR := Lib.hid hbar
      have HSM := Lib.hid hsm
      clear hrel hH hbar hsm hb
      go_wp2_with fail
      refine his.mono ?_
      rintro e w7 ⟨rfl, n7, hw7⟩
      have hH7 := HH.out.same (hw7 ▸ (Only.refl [] wo).drewN n7)
      have d1 := hH7.rd.cells.cell 1 _ rfl
      have g1 := hH7.rd.cells.free 1 _ rfl
      have HH8 := Lib.hid (hH7.step hks)
      have hcall := HBEH.out (k' + 1) f2 (by omega) (by omega) F' pv' (build a p) _ HH8.out.rd
      clear his hw7 hH7
      go_wp2_with fail
      refine hcall.mono ?_
      intro e w5 hpost
      have hbar' : (qOne f2 (rest s (k' + 1))).bind (fun x => qSemi f2 (Wv.seq a x.1) x.2) = res := HBAR.out
      clear hcall HBEH
      cases hq : qOne f2 (rest s (k' + 1)) with
      | none =>
        rw [hq] at hpost
        have hr0 : res = none := by rw [← hbar', hq]; rfl
        subst hr0
        obtain ⟨fb, n3, fd, lb, n4, ld, xb, yb, rfl, hL⟩ := hpost
        have hG := HH8.out.lost hs HSM.out hL
        obtain ⟨w6, hw6⟩ : ∃ w6, w5.alloc (.cells #[.slice fb n3 fd, .slice lb n4 ld, .int .i64 xb, .int .i64 yb] 64) = w6 := ⟨_, rfl⟩
        have hG6 := hG.same (hw6 ▸ (Only.refl [] w5).alloc _)
        obtain ⟨j, pj, hrc⟩ := hG6.lost.rc
        have r3 := hrc.cell 3 _ rfl
        have q0 := hG6.c.cell 0 _ rfl
        have q1 := hG6.c.cell 1 _ rfl
        have q2 := hG6.c.cell 2 _ rfl
        have q3 := hG6.c.cell 3 _ rfl
        have z0 := hG6.z.cell 0 _ rfl
        have z1 := hG6.z.cell 1 _ rfl
        have z2 := hG6.z.cell 2 _ rfl
        have z3 := hG6.z.cell 3 _ rfl
        have y0 := hG6.z.free 0 _ rfl
        have y1 := hG6.z.free 1 _ rfl
        have y2 := hG6.z.free 2 _ rfl
        have y3 := hG6.z.free 3 _ rfl
        have hZ9 := Lib.hid (hG6.z.set4 (x := .slice fa n1 fc) (y := .slice la n2 lc) (u := .int .i64 (workW a)) (v := .int .i64 (spanW a)))
        have HF := Lib.hid (fun W8 (h8 : Only [w.heap.size] w6 W8) => hG6.done (base := base) (F := F) (p := p) h8)
        clear hL hG hG6 hrc hq hbar' HBAR HH HH8
        go_wp2_with fail
        refine bodyPost_ret (results_cell1' rfl _ _ _ _ rfl (load_Cloth _ _ _ _ hZ9.out)) rfl ?_
        exact HF.out _ (((((Only.refl [w.heap.size] _).setCell (by simp) _).setCell (by simp) _).setCell (by simp) _).setCell (by simp) _)
      | some x =>
          obtain ⟨b, r⟩ := x
          rw [hq] at hpost
          obtain ⟨fv2, lv2, pv2, F2, rfl, hG⟩ := HH8.out.next hpost
          obtain ⟨D, hD⟩ : ∃ D, w5.heap.size = D := ⟨_, rfl⟩
          obtain ⟨fa2, fc2, rfl, _⟩ := hG.fb.reads.opt
          obtain ⟨la2, lc2, rfl, _⟩ := hG.lb.reads.opt
          have hn1 : (natL (firstW a p.length)).length = n1 := (reads_n hG.fa.reads).symm
          have hn2 : (natL (lastW a p.length)).length = n2 := (reads_n hG.la.reads).symm
          obtain ⟨n3, hn3⟩ : ∃ n3, (natL (firstW b (p.length + cntW a))).length = n3 := ⟨_, rfl⟩
          obtain ⟨n4, hn4⟩ : ∃ n4, (natL (lastW b (p.length + cntW a))).length = n4 := ⟨_, rfl⟩
          rw [hn3, hn4] at hG
          rw [hn3, hn4]
          have HN := Lib.hid (And.intro hn1 (And.intro hn2 (And.intro hn3 hn4)))
          have hal : Only [] w5 (w5.alloc (.cells #[.slice fa2 n3 fc2, .slice la2 n4 lc2, .int .i64 (workW b), .int .i64 (spanW b)] 64)) := (Only.refl [] w5).alloc _
          have hG6 := hG.same hal
          have hD6 : Cells (w5.alloc (.cells #[.slice fa2 n3 fc2, .slice la2 n4 lc2, .int .i64 (workW b), .int .i64 (spanW b)] 64)) D [.slice fa2 n3 fc2, .slice la2 n4 lc2, .int .i64 (workW b), .int .i64 (spanW b)] := by
            rw [← hD]; exact Cells.new w5 _ _
          obtain ⟨w6, hw6⟩ : ∃ w6, w5.alloc (.cells #[.slice fa2 n3 fc2, .slice la2 n4 lc2, .int .i64 (workW b), .int .i64 (spanW b)] 64) = w6 := ⟨_, rfl⟩
          rw [hw6] at hG6 hD6 hal
          have c0 := hG6.c.cell 0 _ rfl
          have c1 := hG6.c.cell 1 _ rfl
          have c2 := hG6.c.cell 2 _ rfl
          have c3 := hG6.c.cell 3 _ rfl
          have d0 := hD6.cell 0 _ rfl
          have d1 := hD6.cell 1 _ rfl
          have d2 := hD6.cell 2 _ rfl
          have d3 := hD6.cell 3 _ rfl
          have hDlt : ∀ x ∈ own pv2, x ≠ D := fun x hx => by have := (hG.rd.plan.far x hx).2; omega
          have hqlen : 0 < (build b (build a p)).length := by rw [build_len, build_len]; have := cntW_pos a; omega
          have hlen := firstW_len a p.length
          have hlen2 := firstW_len b (p.length + cntW a)
          have hpk := hG6.rd.len
          rw [build_len, build_len] at hpk
          have hk9 := hG6.rd.hk
          have hcnt : cntW a + cntW b ≤ 200 := by omega
          have hsb : Big b := (q_nums f2).1 _ _ hq
          have hr3c := hG6.rd.cells.cell 3 _ rfl
          have hwa := big_work a HSM.out
          have hwb := big_work b hsb
          have hbig : workW a ≤ 2060000 ∧ workW b ≤ 2060000 := by omega
          have hr1 := HN.out.1
          have hr2 := HN.out.2.1
          have hr3 := HN.out.2.2.1
          have hr4 := HN.out.2.2.2
          have HFa := Lib.hid hG6.fa.reads
          have HLa := Lib.hid hG6.la.reads
          have HFb := Lib.hid hG6.fb.reads
          have HLb := Lib.hid hG6.lb.reads
          have hCl := hG6.c.lt
          have hDl := hD6.lt
          have HG6 := Lib.hid hG6
          have HC6 := Lib.hid hG6.c
          have HD6 := Lib.hid hD6
          have hne1 : natL (firstW a p.length) ≠ [] := by simpa [natL] using firstW_ne a p.length
          have hne2 : natL (lastW a p.length) ≠ [] := by simpa [natL] using lastW_ne a p.length
          have hne3 : natL (firstW b (p.length + cntW a)) ≠ [] := by simpa [natL] using firstW_ne b (p.length + cntW a)
          have hne4 : natL (lastW b (p.length + cntW a)) ≠ [] := by simpa [natL] using lastW_ne b (p.length + cntW a)
          have hl1 : n1 ≤ 200 := by rw [← hr1, natL_len]; omega
          have hl2 : n2 ≤ 200 := by rw [← hr2, natL_len]; omega
          have hl3 : n3 ≤ 200 := by rw [← hr3, natL_len]; omega
          have hl4 : n4 ≤ 200 := by rw [← hr4, natL_len]; omega
          have HNE := Lib.hid (And.intro hne1 (And.intro hne2 (And.intro hne3 hne4)))
          have HL := Lib.hid (And.intro hl1 (And.intro hl2 (And.intro hl3 hl4)))
          have HWK := Lib.hid (And.intro hwa (And.intro hwb (And.intro hbig hsb)))
          have hb0 : 0 ≤ workW a ∧ workW a ≤ 2060000 ∧ 0 ≤ workW b ∧ workW b ≤ 2060000 ∧ 0 ≤ spanW a ∧ spanW a ≤ 2060000 ∧ 0 ≤ spanW b ∧ spanW b ≤ 2060000 := by omega
          obtain ⟨b1, b2, b3, b4, b5, b6, b7, b8⟩ := hb0
          clear hpost hn1 hn2 hn3 hn4 hG hlen hlen2 hpk hcnt hsb hwa hwb hbig hr1 hr2 hr3 hr4 hG6 hD6 hal hne1 hne2 hne3 hne4 hl1 hl2 hl3 hl4
          have hq9 := Lib.hid hq
          clear hq
          go_wp2_with fail
          clear hD hw6 hr3c
          obtain ⟨g, cap, rfl⟩ := HG6.out.rd.plan.some hqlen
          have hgD : g ≠ D := hDlt g (by simp [own, Value.ownBlock])
          obtain ⟨X, hX⟩ : ∃ X, natL (lastW a p.length) = X := ⟨_, rfl⟩
          obtain ⟨l, hl⟩ : ∃ l, firstW b (p.length + cntW a) = l := ⟨_, rfl⟩
          have hfo := qfirst_ok a b p HWK.out.2.2.2
          rw [hl] at hfo
          have hn3 : l.length = n3 := by have := HN.out.2.2.1; rw [natL_len, hl] at this; exact this
          have hXl : X.length = n2 := by have := HN.out.2.1; rw [hX] at this; exact this
          have hXne : X ≠ [] := by have := HNE.out.2.1; rw [hX] at this; exact this
          obtain ⟨m, hm⟩ : ∃ m, (build b (build a p)).length = m := ⟨_, rfl⟩
          have HQ := Lib.hid (And.intro hfo (And.intro hn3 (And.intro hXl (And.intro hXne (And.intro hX (And.intro hl hm))))))
          have hm9 : m ≤ 200 := by have h1 := HG6.out.rd.len; have h2 := HG6.out.rd.hk; omega
          have hG0 : Qeld2 w w6 base F R s pv p w.heap.size C a b (links (build b (build a p)) (l.take 0) X) (s.size - r.length) (.slice (some ⟨g, 0, none⟩) m cap) F2 (.slice fa n1 fc) (.slice la n2 lc) (.slice fa2 n3 fc2) (.slice la2 n4 lc2) := by
            have h := HG6.out
            rw [hm] at h
            exact h
          have HG0 := Lib.hid hG0
          clear hfo hn3 hXl hXne hX hl hm hG0 hDlt hqlen
          go_loopw [5, 6] (fun vj _ wr => ∃ (j : Nat) (F' : Nat → Prop), j ≤ n3 ∧ vj = .int .i64 (j : Int) ∧ Qeld2 w wr base F R s pv p w.heap.size C a b (links (build b (build a p)) (l.take j) X) (s.size - r.length) (.slice (some ⟨g, 0, none⟩) m cap) F' (.slice fa n1 fc) (.slice la n2 lc) (.slice fa2 n3 fc2) (.slice la2 n4 lc2) ∧ Cells wr D [.slice fa2 n3 fc2, .slice la2 n4 lc2, .int .i64 (workW b), .int .i64 (spanW b)]) (fun vj _ _ => n3 - (intOf vj).toNat)
          case atStart => exact ⟨0, F2, Nat.zero_le _, rfl, HG0.out, HD6.out⟩
          case round =>
            clear HG0 c0 c1 c2 c3 d0 d1 d2 d3
            obtain ⟨wq, rfl⟩ : ∃ wq : World, wq = wr := ⟨_, rfl⟩
            obtain ⟨j, F3, hj, rfl, hG3, hD3⟩ := hrel
            have hn3s : n3 ≤ 200 := HL.out.2.2.1
            by_cases hjn : j < n3
            · obtain ⟨i, hji⟩ : ∃ i, l[j]? = some i := ⟨l[j]'(by have := HQ.out.2.1; omega), List.getElem?_eq_getElem _⟩
              obtain ⟨hi, h0, hls⟩ := links_step (X := X) HQ.out.1.1 HQ.out.1.2 j i hji
              obtain ⟨_, e0, e1⟩ := hG3.rd.plan.at i hi h0
              have him : i < m := by rw [links_len, HQ.out.2.2.2.2.2.2] at hi; exact hi
              have hfb := hG3.fb.reads
              rw [HQ.out.2.2.2.2.2.1] at hfb
              have hRl3 := hG3.la.reads
              rw [HQ.out.2.2.2.2.1] at hRl3
              obtain ⟨fx, fy, hfe, hfcell⟩ := hfb.opt
              injection hfe with hfe1 hfe2 hfe3
              subst hfe1
              obtain ⟨fbk, fbo, rfl, cfx⟩ := hfcell j (by rw [natL_len]; have := HQ.out.2.1; omega)
              have hnth : nth (natL l) j = (i : Int) := by unfold nth natL; rw [List.getElem?_map, hji]; rfl
              rw [hnth] at cfx
              have r2 := hG3.rd.cells.cell 2 _ rfl
              have t0 := hG3.c.cell 1 _ rfl
              have HG3 := Lib.hid hG3
              have HD3 := Lib.hid hD3
              have HR3 := Lib.hid hRl3
              have HI := Lib.hid (And.intro hi (And.intro h0 hls))
              clear hfb hfcell hfe2 hfe3 hnth hG3 hD3 hRl3 hi h0 hls hji
              have d0 := HD3.out.cell 0 _ rfl
              have CFX := Lib.hid cfx
              go_wp2_with fail
              refine wp_region_seqL [_, _, _, _, _, _, _, _, _, _, _, _, _, _] _ [13] [] (by kernel_rfl) rfl (by kernel_rfl) (by kernel_rfl) (by kernel_rfl) (by kernel_rfl) rfl rfl ?_
              simp only [segsOf, runW, List.getElem?_cons_succ, List.getElem?_cons_zero, List.take_succ_cons, List.take_zero, List.drop_zero, Nat.reduceSub]
              repeat still_step
              refine wpStill_nil ?_
              refine writes_any (.tmp 32) (.tmp 44) rfl wq wq.heap.size (.slice none 0 0) [] (.slice none 0 0) [] (Ints.nil _ _) (.inl ⟨rfl, .inl rfl⟩) (by simp) (Nat.le_refl _) rfl rfl ((Only.refl [] wq).drew) ?_
              intro v1 x1 hI1 hO1 hK1
              have hown0 : own (.slice none 0 0) = [] := rfl
              rw [hown0] at hO1
              replace hI1 : Ints x1 wq.heap.size v1 [] := hI1
              obtain ⟨va1, vc1, rfl, _⟩ := hI1.opt
              simp only [lateW, List.nil_append, List.cons_append, List.getElem?_cons_succ, List.getElem?_cons_zero, Option.getD_some, List.length_cons, List.length_nil, Nat.reduceAdd, true_and]
              have hsx := hO1.size
              have HO1 := Lib.hid hO1
              have cfx1 := (hO1.cell (p := ⟨fbk, fbo + j, none⟩) (cell_lt cfx) (by simp)).trans cfx
              have hG1 := HG3.out.same hO1
              have hD1 := HD3.out.only hO1 (by simp)
              have HR1 := Lib.hid (HR3.out.same hO1)
              have r21 := hG1.rd.cells.cell 2 _ rfl
              have t01 := hG1.c.cell 1 _ rfl
              have e11 := (hG1.rd.plan.at i HI.out.1 HI.out.2.1).2.2
              have e01 := (hG1.rd.plan.at i HI.out.1 HI.out.2.1).2.1
              have d01 := hD1.cell 0 _ rfl
              have HI1 := Lib.hid hI1
              have HG1 := Lib.hid hG1
              have HD1 := Lib.hid hD1
              clear hG1 hD1 hO1 hK1 hI1 r2 t0 e0 e1 d0 cfx
              go_wp2_with fail
              refine wp_region_seqE [12, 15] [[(13, 2)], [(0, 9), (10, 1)]] (by kernel_rfl) (by decide +kernel) (by decide +kernel) (by decide +kernel) rfl rfl ?_
              simp only [segsOf, runW, List.getElem?_cons_succ, List.getElem?_cons_zero, List.take_succ_cons, List.take_zero, List.drop_succ_cons, List.drop_zero, Nat.reduceAdd, Nat.reduceSub]
              repeat still_step
              refine wpStill_nil ?_
              refine writes_any (.tmp 55) (.tmp 57) rfl x1 wq.heap.size (.slice va1 0 vc1) [] _ X HI1.out HR1.out (by have := HQ.out.2.2.1; have := HL.out; simp; omega) hsx rfl rfl ((Only.refl [] x1).drew) ?_
              intro v2 x2 hI2 hO2 hK2
              have ho12 : Only [] wq x2 := HO1.out.trans hO2 (fun x hx hlt => by have := (HI1.out.own_lt x hx).1; omega)
              obtain ⟨g1, k1, rfl, q1, q1'⟩ := hI2.sized n2 (by simpa using HQ.out.2.2.1) (by have := HQ.out.2.2.1; have := List.length_pos_iff.2 HQ.out.2.2.2.1; omega)
              obtain ⟨hG4, ho4⟩ := HG3.out.link HI.out.1 HI.out.2.1 ho12 (by simpa using hI2) HQ.out.2.2.2.1
              rw [← HI.out.2.2] at hG4
              have r2' := (HG3.out.same ho12).rd.cells.cell 2 _ rfl
              have e1' := ((HG3.out.same ho12).rd.plan.at i HI.out.1 HI.out.2.1).2.2
              have e1'' := ((HG3.out.same ho12).rd.plan.at i HI.out.1 HI.out.2.1).2.1
              have d0' := (HD3.out.only ho12 (by simp)).cell 0 _ rfl
              have t0' := (HG3.out.same ho12).c.cell 1 _ rfl
              have cfx' := (ho12.cell (p := ⟨fbk, fbo + j, none⟩) (cell_lt (CFX.out)) (by simp)).trans CFX.out
              have HF4 := Lib.hid (And.intro hG4 (HD3.out.only ho4 (by simp; exact fun e => hgD e.symm)))
              clear hI2 hO2 hK2 hG4 ho4 ho12
              repeat still_step
              refine wpStill_nil ?_
              refine writes_step fun K1 hK1 => ?_
              unfold writesThen
              go_simp
              refine hK1 _ _ ?_
              clear hK1 K1
              simp only [lateW, List.nil_append, List.cons_append, List.drop_succ_cons, List.drop_zero, List.flatMap_cons, List.flatMap_nil, List.take_succ_cons, List.take_zero, List.append_nil, List.getElem?_cons_succ, List.getElem?_cons_zero, Option.getD_some, List.length_cons, List.length_nil, Nat.reduceAdd, and_true]
              refine ⟨⟨?_, ?_⟩, ?_⟩
              · repeat still_step
                exact wpStill_nil rfl
              · repeat still_step
                exact wpStill_nil rfl
              go_wp2_with fail
              go_roundw
              case rel => exact ⟨j + 1, _, by omega, by go_num, HF4.out.1, HF4.out.2⟩
              case measure => (simp [intOf]; try omega)
            · obtain rfl : j = n3 := by omega
              have hfin : Qeld2 w wq base F R s pv p w.heap.size C a b (links (build b (build a p)) (firstW b (p.length + cntW a)) (natL (lastW a p.length))) (s.size - r.length) (.slice (some ⟨g, 0, none⟩) m cap) F3 (.slice fa n1 fc) (.slice la n2 lc) (.slice fa2 j fc2) (.slice la2 n4 lc2) := by
                have h := hG3
                rw [List.take_of_length_le (by have := HQ.out.2.1; omega), ← HQ.out.2.2.2.2.1, ← HQ.out.2.2.2.2.2.1] at h
                exact h
              have hC4 := hG3.c
              have c40 := hC4.cell 0 _ rfl
              have c41 := hC4.cell 1 _ rfl
              have c42 := hC4.cell 2 _ rfl
              have c43 := hC4.cell 3 _ rfl
              have d40 := hD3.cell 0 _ rfl
              have d41 := hD3.cell 1 _ rfl
              have d42 := hD3.cell 2 _ rfl
              have d43 := hD3.cell 3 _ rfl
              have f40 := hC4.free 0 _ rfl
              have f41 := hC4.free 1 _ rfl
              have f42 := hC4.free 2 _ rfl
              have f43 := hC4.free 3 _ rfl
              have hwr : IntKind.i64.wrap (workW a + workW b) = workW a + workW b := IntWalk.i64_in _ (by omega)
              have hws : IntKind.i64.wrap (spanW a + spanW b) = spanW a + spanW b := IntWalk.i64_in _ (by omega)
              have hC8 := hC4.set4 (x := .slice fa n1 fc) (y := .slice la2 n4 lc2) (u := .int .i64 (workW a + workW b)) (v := .int .i64 (spanW a + spanW b))
              have HFIN := Lib.hid (hfin.behind hC8 (((((Only.refl [C] wq).setCell (by simp) _).setCell (by simp) _).setCell (by simp) _).setCell (by simp) _))
              have hpl := (q_len f2).1 _ _ _ hq9.out
              rw [rest_len] at hpl
              have hrr := rest_suf s (k' + 1) r ((q_suf f2).1 _ _ _ hq9.out)
              have hbar9 : qSemi f2 (.seq a b) (rest s (s.size - r.length)) = res := by rw [hrr, ← hbar', hq9.out]; rfl
              have hk0 := True.intro
              have hk8 := True.intro
              have HE := Lib.hid (And.intro hbar9 (And.intro hk0 (And.intro hk8 hpl)))
              clear hfin hbar9 hk0 hk8 hrr hpl hC8 hC4 hG3 hD3
              go_wp2_with fail
              refine ⟨.inl ⟨Wv.seq a b, s.size - r.length, f2, _, _, _, _, by have := HE.out.2.2.2; omega, by have := HE.out.2.2.2; omega, HE.out.1, ⟨HSM.out, HWK.out.2.2.2⟩, HFIN.out⟩, ?_⟩
              rw [meas_on HFIN.out.rd.cells, meas_on HH.out.rd.cells]
              have := HE.out.2.2.2
              omega

end Go.Proofs.YtocpmncedlenbaaDoor
