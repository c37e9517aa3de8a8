/-
  Contract of the document's beside.
-/
import Derived.Test.YtocpmncedlenbaaDoorP37WeaveTells
namespace Go.Proofs.YtocpmncedlenbaaDoor
open Go.RowKit Go.Deep

theorem reads_n {w : World} {a : Option Addr} {n c : Nat} {l : List Int} (h : Reads w (.slice a n c) l) : n = l.length := by
  obtain ⟨x, y, e, _⟩ := h.opt
  injection e

/-- A cloth is held in C, another one has been read; what becomes of both. -/
structure Both (w5 : World) (C : Nat) (fa : Option Addr) (n1 fc : Nat) (la : Option Addr) (n2 lc : Nat) (wa sa : Int) (fb : Option Addr) (n3 fd : Nat) (lb : Option Addr) (n4 ld : Nat) (wb sb : Int) (L1 L2 L3 L4 : List Int) (Rel : World → Prop) : Prop where
  c : Cells w5 C [.slice fa n1 fc, .slice la n2 lc, .int .i64 wa, .int .i64 sa]
  r1 : Reads w5 (.slice fa n1 fc) L1
  r2 : Reads w5 (.slice la n2 lc) L2
  r3 : Reads w5 (.slice fb n3 fd) L3
  r4 : Reads w5 (.slice lb n4 ld) L4
  len : L1.length ≤ 200 ∧ L2.length ≤ 200 ∧ L3.length ≤ 200 ∧ L4.length ≤ 200
  bd : (-2500000 ≤ wa ∧ wa ≤ 2500000) ∧ (-2500000 ≤ sa ∧ sa ≤ 2500000) ∧ (-2500000 ≤ wb ∧ wb ≤ 2500000) ∧ (-2500000 ≤ sb ∧ sb ≤ 2500000)
  old : ∀ z, z ∈ own (.slice fa n1 fc) ∨ z ∈ own (.slice la n2 lc) ∨ z ∈ own (.slice fb n3 fd) ∨ z ∈ own (.slice lb n4 ld) → z < w5.heap.size
  fin : ∀ w4 W8 f3 m3 c3 l3 m4 c4, Only [] w5 w4 → Ints w4 w5.heap.size (.slice f3 m3 c3) (L1 ++ L3) → Ints w4 w5.heap.size (.slice l3 m4 c4) (L2 ++ L4) → Cells W8 C [.slice f3 m3 c3, .slice l3 m4 c4, .int .i64 (wa + wb), .int .i64 (max sa sb)] → Only [C] w4 W8 → Rel W8

theorem both_of {w W1 w5 : World} {base : Nat} {F F' : Nat → Prop} {R Z C k k1 f2 m0 : Nat} {s : ByteArray} {pv pv' : Value} {p : PlanL} {a : Wv} {fa la : Option Addr} {n1 fc n2 lc : Nat} {r res : Option (Wv × List UInt8)} {e : Ending}
    (hH : Qeld w W1 base F R s pv p Z C a k1 pv' F' (.slice fa n1 fc) (.slice la n2 lc)) (hs : s.size ≤ 200) (ha : Big a) (hp : QdPost 1 base F' R s pv' (build a p) W1 r e w5) (hr : r.bind (fun x => qBar f2 (.par a x.1) x.2) = res)
    (h0 : ∀ b q, r = some (b, q) → Big b ∧ q <:+ rest s k1 ∧ q.length < (rest s k1).length) (hf : 3 * (s.size - k1) ≤ f2 + 2) (hk : k ≤ k1) (hm : s.size + 1 - k1 < m0) :
    ∃ fb n3 fd lb n4 ld wb sb L1 L2 L3 L4, e = .returned (.agg #[.slice fb n3 fd, .slice lb n4 ld, .int .i64 wb, .int .i64 sb]) ∧
      Both w5 C fa n1 fc la n2 lc (workW a) (spanW a) fb n3 fd lb n4 ld wb sb L1 L2 L3 L4 (fun W8 => LoopAt 2 qBar w base F R s pv p Z C k res W8 ∧ measQ s R W8 < m0) := by
  have hwa := big_work a ha
  have hka := hH.rd.len
  have hkk := hH.rd.hk
  rw [build_len] at hka
  cases r with
  | none =>
    obtain ⟨fb, n3, fd, lb, n4, ld, wb, sb, rfl, hL⟩ := hp
    have hG := hH.lost hs ha hL
    obtain ⟨L1, q1, l1⟩ := hG.lost.lf
    obtain ⟨L2, q2, l2⟩ := hG.lost.ll
    obtain ⟨L3, q3, l3⟩ := hL.lf
    obtain ⟨L4, q4, l4⟩ := hL.ll
    have b1 := hL.bx
    have b2 := hL.bz
    refine ⟨fb, n3, fd, lb, n4, ld, wb, sb, L1, L2, L3, L4, rfl, hG.c, q1, q2, q3, q4, by omega, by omega, fun z hz => ?_, fun w4 W8 f3 m3 c3 l3' m4 c4 ho hf3 hl3 hC ho8 => ?_⟩
    · rcases hz with hz | hz | hz | hz
      · exact (hG.lost.af z hz).2
      · exact (hG.lost.al z hz).2
      · exact (hL.af z hz).2
      · exact (hL.al z hz).2
    · have hX := hG.beside ho (Nat.le_refl _) hf3 hl3 (by simp; omega) (by simp; omega) hC ho8 (by omega) (by omega)
      refine ⟨.inr ⟨hr.symm, _, _, _, _, _, _, _, _, hX⟩, ?_⟩
      obtain ⟨j, pj, hc⟩ := hX.lost.rc
      rw [meas_off hc]
      omega
  | some bq =>
    obtain ⟨b, q⟩ := bq
    obtain ⟨hb, hsuf, hlt⟩ := h0 b q rfl
    obtain ⟨fv2, lv2, pv2, F2, rfl, hG⟩ := hH.next hp
    obtain ⟨fb, fd, rfl, _⟩ := hG.fb.reads.opt
    obtain ⟨lb, ld, rfl, _⟩ := hG.lb.reads.opt
    have hwb := big_work b hb
    have hkb := hG.rd.len
    have hkk2 := hG.rd.hk
    rw [build_len, build_len] at hkb
    have e1 := firstW_len a p.length
    have e2 := firstW_len b (p.length + cntW a)
    rw [rest_len] at hlt
    have e3 := natL_len (firstW a p.length)
    have e4 := natL_len (lastW a p.length)
    have e5 := natL_len (firstW b (p.length + cntW a))
    have e6 := natL_len (lastW b (p.length + cntW a))
    refine ⟨_, _, _, _, _, _, _, _, _, _, _, _, rfl, hG.c, hG.fa.reads, hG.la.reads, hG.fb.reads, hG.lb.reads, by omega, by omega, fun z hz => ?_, fun w4 W8 f3 m3 c3 l3' m4 c4 ho hf3 hl3 hC ho8 => ?_⟩
    · rcases hz with hz | hz | hz | hz
      · exact (hG.fa.apart z hz).2.2.2
      · exact (hG.la.apart z hz).2.2.2
      · exact (hG.fb.apart z hz).2.2.2
      · exact (hG.lb.apart z hz).2.2.2
    · have hX := hG.beside ho hf3 hl3 hC ho8
      refine ⟨.inl ⟨.par a b, s.size - q.length, f2, _, _, _, _, by omega, by omega, ?_, ⟨ha, hb⟩, hX⟩, ?_⟩
      · rw [rest_suf s k1 q hsuf]
        exact hr
      · rw [meas_on hX.rd.cells]
        omega

set_option maxRecDepth 100000 in
set_option maxHeartbeats 4000000 in
theorem ref_beside (base R : Nat) (s : ByteArray) (hs : s.size ≤ 200) (f k : Nat) (hfu : 3 * (s.size - k) + 2 ≤ f)
    (hbeh : ∀ k' f', k ≤ k' → 3 * (s.size - k') + 2 ≤ f' → ∀ F pv p w, QdAt w base F R s k' pv p → Calls Tryd.prog 46 #[.pointer (some ⟨R, 0, none⟩)] w (QdPost 1 base F R s pv p w (qBehind f' (rest s k'))))
    (F : Nat → Prop) (pv : Value) (p : PlanL) (w : World) (h : QdAt w base F R s k pv p) :
    Calls Tryd.prog 22 #[.pointer (some ⟨R, 0, none⟩)] w (QdPost 2 base F R s pv p w (qBeside (f + 1) (rest s k))) := by
  obtain ⟨W0, hW0⟩ : ∃ W0, w.alloc (.cells #[.slice none 0 0, .slice none 0 0, .int .i64 0, .int .i64 0] 64) = W0 := ⟨_, rfl⟩
  have ho0 : Only [] w W0 := by rw [← hW0]; exact (Only.refl [] w).alloc _
  have hZ0 : Cells W0 w.heap.size [.slice none 0 0, .slice none 0 0, .int .i64 0, .int .i64 0] := by
    have := Cells.new w #[.slice none 0 0, .slice none 0 0, .int .i64 0, .int .i64 0] 64
    rw [hW0] at this; exact this
  have hpv := Lib.hid (fun x hx => (h.plan.far x hx).2)
  have hFl := Lib.hid (fun x hx => (h.b1 x hx).2)
  have hRl := Lib.hid h.cells.lt
  have HZ := Lib.hid hZ0
  have HO := Lib.hid ho0
  have HBEH := Lib.hid hbeh
  obtain ⟨res, hres⟩ : ∃ res, qBeside (f + 1) (rest s k) = res := ⟨_, rfl⟩
  rw [hres]
  have hres' : (qBehind f (rest s k)).bind (fun x => qBar f x.1 x.2) = res := by rw [← hres]; unfold qBeside; rfl
  have HRES := Lib.hid hres'
  have hcall := hbeh k f (Nat.le_refl _) hfu F pv p W0 (h.same ho0)
  have hkl := h.hk
  clear hZ0 ho0 hres hres' hbeh h
  go_enter Tryd.func22, Tryd.ntmps22
  go_wp2_with fail
  refine hcall.mono ?_
  intro e w5 hpost
  obtain ⟨fa, fn, fc, la, ln, lc, x, y, rfl, hL⟩ := loop_new (mn := 2) (G := qBar) (k := k) (f := f) hpv.out hFl.out hRl.out HO.out HZ.out (Nat.le_refl _) hpost (by omega) HRES.out (by omega) hkl (fun a r hq => ⟨(q_nums f).2.1 _ _ hq, (q_suf f).2.1 _ _ _ hq⟩)
  obtain ⟨C, hC⟩ : ∃ C, w5.heap.size = C := ⟨_, rfl⟩
  rw [hC] at hL
  have HL := Lib.hid hL
  clear hpost hcall hL hW0 HRES HZ HO
  go_wp2_with fail
  clear hC
  go_loopw [4, 5, 6, 7] (fun _ _ _ _ wr => LoopAt 2 qBar w base F R s pv p w.heap.size C k res wr) (fun _ _ _ _ wr => measQ s R wr)
  case atStart => exact HL.out
  case round =>
    clear HL
    obtain ⟨wo, rfl⟩ : ∃ wo : World, wo = wr := ⟨_, rfl⟩
    rcases hrel.cases (H := fun f a l => (qBehind f l).bind (fun x => qBar f (.par a x.1) x.2)) 124 124 rfl (fun f a l => qBar_succ f a l) with ⟨his, fa, fn, fc, la, ln, lc, x, y, hCc, hZc, hfin⟩ | ⟨a, k', f2, pv', F', fa, n1, fc, la, n2, lc, hb, hks, hf2, hkk, hbar, hsm, hH⟩
    · have HF := Lib.hid hfin
      have HCc := Lib.hid hCc
      have HZc := Lib.hid hZc
      clear hrel hCc hZc hfin
      go_wp2_with fail
      refine his.mono ?_
      rintro e w7 ⟨rfl, n7, hw7⟩
      have ho7 : Only [] wo w7 := hw7 ▸ (Only.refl [] wo).drewN n7
      have hC7 := HCc.out.only ho7 (by simp)
      have hZ7 := HZc.out.only ho7 (by simp)
      have q0 := hC7.cell 0 _ rfl
      have q1 := hC7.cell 1 _ rfl
      have q2 := hC7.cell 2 _ rfl
      have q3 := hC7.cell 3 _ rfl
      have z0 := hZ7.cell 0 _ rfl
      have z1 := hZ7.cell 1 _ rfl
      have z2 := hZ7.cell 2 _ rfl
      have z3 := hZ7.cell 3 _ rfl
      have y0 := hZ7.free 0 _ rfl
      have y1 := hZ7.free 1 _ rfl
      have y2 := hZ7.free 2 _ rfl
      have y3 := hZ7.free 3 _ rfl
      have hZ9 := Lib.hid (hZ7.set4 (x := .slice fa fn fc) (y := .slice la ln lc) (u := .int .i64 x) (v := .int .i64 y))
      have HF7 := Lib.hid (fun W8 h8 => HF.out w7 W8 ho7 h8)
      clear his hw7 ho7 hC7 hZ7 HF
      go_wp2_with fail
      refine bodyPost_ret (results_cell1' rfl _ _ _ _ rfl (load_Cloth _ _ _ _ hZ9.out)) rfl ?_
      exact HF7.out _ (((((Only.refl [w.heap.size] _).setCell (by simp) _).setCell (by simp) _).setCell (by simp) _).setCell (by simp) _)
    · have his := ref_next R s k' pv' 124 124 rfl wo hH.rd.cells true hb
      have HH := Lib.hid hH
      have HBAR := Lib.hid hbar
      have HSM := Lib.hid hsm
      clear hrel hH hbar hsm hb
      go_wp2_with fail
      refine his.mono ?_
      rintro e w7 ⟨rfl, n7, hw7⟩
      have hH7 := HH.out.same (hw7 ▸ (Only.refl [] wo).drewN n7)
      have d1 := hH7.rd.cells.cell 1 _ rfl
      have g1 := hH7.rd.cells.free 1 _ rfl
      have HH8 := Lib.hid (hH7.step hks)
      have hcall := HBEH.out (k' + 1) f2 (by omega) (by omega) F' pv' (build a p) _ HH8.out.rd
      clear his hw7 hH7
      go_wp2_with fail
      refine hcall.mono ?_
      intro e w5 hpost
      obtain ⟨fb, n3, fd, lb, n4, ld, wb, sb, L1, L2, L3, L4, rfl, hB⟩ := both_of (k := k) (m0 := measQ s R wo) (res := res) (f2 := f2) HH8.out hs HSM.out hpost HBAR.out (fun b q hq => ⟨(q_nums f2).2.1 _ _ hq, (q_suf f2).2.1 _ _ _ hq, (q_len f2).2.1 _ _ _ hq⟩) (by omega) (by omega) (by rw [meas_on HH.out.rd.cells]; omega)
      obtain ⟨D, hD⟩ : ∃ D, w5.heap.size = D := ⟨_, rfl⟩
      obtain ⟨w6, hw6⟩ : ∃ w6, w5.alloc (.cells #[.slice fb n3 fd, .slice lb n4 ld, .int .i64 wb, .int .i64 sb] 64) = w6 := ⟨_, rfl⟩
      have hal : Only [] w5 w6 := by rw [← hw6]; exact (Only.refl [] w5).alloc _
      have hD6 : Cells w6 D [.slice fb n3 fd, .slice lb n4 ld, .int .i64 wb, .int .i64 sb] := by rw [← hw6, ← hD]; exact Cells.new w5 _ _
      have hC6 := hB.c.only hal (by simp)
      have c0 := hC6.cell 0 _ rfl
      have c1 := hC6.cell 1 _ rfl
      have c2 := hC6.cell 2 _ rfl
      have c3 := hC6.cell 3 _ rfl
      have d0 := hD6.cell 0 _ rfl
      have d1 := hD6.cell 1 _ rfl
      have d2 := hD6.cell 2 _ rfl
      have d3 := hD6.cell 3 _ rfl
      have hs6 := hal.size
      have HR := Lib.hid (And.intro (hB.r1.same hal) (And.intro (hB.r2.same hal) (And.intro (hB.r3.same hal) (hB.r4.same hal))))
      have HO := Lib.hid hB.old
      have HF := Lib.hid (fun w4 W8 f3 m3 c3 l3 m4 c4 (ho : Only [] w6 w4) (h1 : Ints w4 w6.heap.size (.slice f3 m3 c3) (L1 ++ L3)) (h2 : Ints w4 w6.heap.size (.slice l3 m4 c4) (L2 ++ L4)) h3 h4 => hB.fin w4 W8 f3 m3 c3 l3 m4 c4 (hal.trans ho (by simp)) (h1.mono hs6) (h2.mono hs6) h3 h4)
      have HL := Lib.hid hB.len
      have HC6 := Lib.hid hC6
      have HD6 := Lib.hid hD6
      have hCl := hC6.lt
      have hDl := hD6.lt
      obtain ⟨⟨b1, b2⟩, ⟨b3, b4⟩, ⟨b5, b6⟩, b7, b8⟩ := hB.bd
      have HOLD := Lib.hid (fun z (hz : z ∈ own (.slice fa n1 fc) ∨ z ∈ own (.slice la n2 lc) ∨ z ∈ own (.slice fb n3 fd) ∨ z ∈ own (.slice lb n4 ld)) => (show z < w6.heap.size by have := hB.old z hz; omega))
      clear hcall hpost hB hal hC6 hD6 HH HH8 HBEH hs6 HO
      obtain ⟨wa, hwa⟩ : ∃ wa, workW a = wa := ⟨_, rfl⟩
      obtain ⟨sa, hsa⟩ : ∃ sa, spanW a = sa := ⟨_, rfl⟩
      rw [hwa] at c2 b1 b2 HF HC6
      rw [hsa] at c3 b3 b4 HF HC6
      clear hwa hsa
      have hwr : IntKind.i64.wrap (wa + wb) = wa + wb := IntWalk.i64_in _ (by omega)
      obtain ⟨mx, hmx⟩ : ∃ mx, max sa sb = mx := ⟨_, rfl⟩
      rw [hmx] at HF
      have hcmp : (decide (sa < sb) = true ∧ sb = mx) ∨ (decide (sa < sb) = false ∧ sa = mx) := by
        by_cases e : sa < sb
        · exact .inl ⟨by simpa using e, by omega⟩
        · exact .inr ⟨by simp; omega, by omega⟩
      have hmb : Hid (-2500000 ≤ mx ∧ mx ≤ 2500000) := by show _ ∧ _; omega
      clear hmx
      rcases hcmp with ⟨hcmp, rfl⟩ | ⟨hcmp, rfl⟩
      · go_wp2_with (first
          | (at_builtin; refine wpList_append_reads rfl (.tmp 21) (.tmp 23) rfl w6 w6.heap.size _ [] _ L1 (Ints.nil _ _) HR.out.1 (by have := HL.out; simp; omega) (Nat.le_refl _) rfl rfl (Only.refl [] w6) ?_; intro v1 x1 hI1 hO1 hK1; have ho1 : Hid (Only [] w6 x1) := hO1.mono (by simp [own, Value.ownBlock]); replace hI1 : Ints x1 w6.heap.size v1 L1 := hI1; obtain ⟨a1, b1, rfl, _⟩ := hI1.opt; have C1 := HC6.out.only ho1.out (by simp); have D1 := HD6.out.only ho1.out (by simp); have c11 := C1.cell 1 _ rfl; have c12 := C1.cell 2 _ rfl; have c13 := C1.cell 3 _ rfl; have d10 := D1.cell 0 _ rfl; have d11 := D1.cell 1 _ rfl; have d12 := D1.cell 2 _ rfl; have d13 := D1.cell 3 _ rfl; clear C1 D1 c0 c1 c2 c3 d0 d1 d2 d3 hO1 hK1)
          | (at_builtin; refine wpList_append_reads rfl (.tmp 25) (.tmp 27) rfl x1 w6.heap.size _ L1 _ L3 hI1 (HR.out.2.2.1.same ho1.out) (by have := HL.out; omega) ho1.out.size rfl rfl (Only.refl [] x1) ?_; intro v2 x2 hI2 hO2 hK2; have ho2 : Hid (Only [] w6 x2) := ho1.out.pushed hI1 (Nat.le_refl _) hO2; obtain ⟨a2, b2', rfl, _⟩ := hI2.opt; have HI2 := Lib.hid hI2; have C1 := HC6.out.only ho2.out (by simp); have D1 := HD6.out.only ho2.out (by simp); have c21 := C1.cell 1 _ rfl; have c22 := C1.cell 2 _ rfl; have c23 := C1.cell 3 _ rfl; have d21 := D1.cell 1 _ rfl; have d22 := D1.cell 2 _ rfl; have d23 := D1.cell 3 _ rfl; clear C1 D1 c11 c12 c13 d10 d11 d12 d13 hO2 hK2 hI1 hI2)
          | (at_builtin; refine wpList_append_reads rfl (.tmp 29) (.tmp 31) rfl x2 x2.heap.size _ [] _ L2 (Ints.nil _ _) (HR.out.2.1.same ho2.out) (by have := HL.out; simp; omega) (Nat.le_refl _) rfl rfl (Only.refl [] x2) ?_; intro v3 x3 hI3 hO3 hK3; have hO3 : Only [] x2 x3 := hO3.mono (by simp [own, Value.ownBlock]); have ho3 : Hid (Only [] w6 x3) := ho2.out.trans hO3 (by simp); replace hI3 : Ints x3 x2.heap.size v3 L2 := hI3; obtain ⟨a3, b3', rfl, _⟩ := hI3.opt; have HI23 := Lib.hid (HI2.out.only hO3 (by simp)); have hs23 := hO3.size; have C1 := HC6.out.only ho3.out (by simp); have D1 := HD6.out.only ho3.out (by simp); have c32 := C1.cell 2 _ rfl; have c33 := C1.cell 3 _ rfl; have d31 := D1.cell 1 _ rfl; have d32 := D1.cell 2 _ rfl; have d33 := D1.cell 3 _ rfl; clear C1 D1 c21 c22 c23 d21 d22 d23 hO3 hK3)
          | (at_builtin; refine wpList_append_reads rfl (.tmp 33) (.tmp 35) rfl x3 x2.heap.size _ L2 _ L4 hI3 (HR.out.2.2.2.same ho3.out) (by have := HL.out; omega) hs23 rfl rfl (Only.refl [] x3) ?_; intro v4 x4 hI4 hO4 hK4; have ho4 : Hid (Only [] w6 x4) := ho3.out.pushed (hI3.mono ho2.out.size) (Nat.le_refl _) hO4; obtain ⟨a4, b4', rfl, _⟩ := hI4.opt; have HI4 := Lib.hid (hI4.mono ho2.out.size); have HI24 := Lib.hid (HI23.out.only hO4 (fun g hg hx => by have h1 := (hI3.own_lt g hx).1; have h2 := (HI2.out.own_lt g (own_of hg)).2; omega)); have C1 := HC6.out.only ho4.out (by simp); have D1 := HD6.out.only ho4.out (by simp); have HC4 := Lib.hid C1; have c40 := C1.cell 0 _ rfl; have c41 := C1.cell 1 _ rfl; have c42 := C1.cell 2 _ rfl; have c43 := C1.cell 3 _ rfl; have d42 := D1.cell 2 _ rfl; have d43 := D1.cell 3 _ rfl; have f40 := C1.free 0 _ rfl; have f41 := C1.free 1 _ rfl; have f42 := C1.free 2 _ rfl; have f43 := C1.free 3 _ rfl; clear C1 D1 c32 c33 d31 d32 d33 hO4 hK4 hI3 hI4 hs23))
        have hC8 := HC4.out.set4 (x := .slice a2 (L1 ++ L3).length b2') (y := .slice a4 (L2 ++ L4).length b4') (u := .int .i64 (wa + wb)) (v := .int .i64 sb)
        have HFIN := Lib.hid (HF.out x4 _ _ _ _ _ _ _ ho4.out HI24.out HI4.out hC8 (((((Only.refl [C] x4).setCell (by simp) _).setCell (by simp) _).setCell (by simp) _).setCell (by simp) _))
        clear hC8
        have h := HFIN.out
        simp only [List.length_append] at h
        exact h
      · go_wp2_with (first
          | (at_builtin; refine wpList_append_reads rfl (.tmp 21) (.tmp 23) rfl w6 w6.heap.size _ [] _ L1 (Ints.nil _ _) HR.out.1 (by have := HL.out; simp; omega) (Nat.le_refl _) rfl rfl (Only.refl [] w6) ?_; intro v1 x1 hI1 hO1 hK1; have ho1 : Hid (Only [] w6 x1) := hO1.mono (by simp [own, Value.ownBlock]); replace hI1 : Ints x1 w6.heap.size v1 L1 := hI1; obtain ⟨a1, b1, rfl, _⟩ := hI1.opt; have C1 := HC6.out.only ho1.out (by simp); have D1 := HD6.out.only ho1.out (by simp); have c11 := C1.cell 1 _ rfl; have c12 := C1.cell 2 _ rfl; have c13 := C1.cell 3 _ rfl; have d10 := D1.cell 0 _ rfl; have d11 := D1.cell 1 _ rfl; have d12 := D1.cell 2 _ rfl; have d13 := D1.cell 3 _ rfl; clear C1 D1 c0 c1 c2 c3 d0 d1 d2 d3 hO1 hK1)
          | (at_builtin; refine wpList_append_reads rfl (.tmp 25) (.tmp 27) rfl x1 w6.heap.size _ L1 _ L3 hI1 (HR.out.2.2.1.same ho1.out) (by have := HL.out; omega) ho1.out.size rfl rfl (Only.refl [] x1) ?_; intro v2 x2 hI2 hO2 hK2; have ho2 : Hid (Only [] w6 x2) := ho1.out.pushed hI1 (Nat.le_refl _) hO2; obtain ⟨a2, b2', rfl, _⟩ := hI2.opt; have HI2 := Lib.hid hI2; have C1 := HC6.out.only ho2.out (by simp); have D1 := HD6.out.only ho2.out (by simp); have c21 := C1.cell 1 _ rfl; have c22 := C1.cell 2 _ rfl; have c23 := C1.cell 3 _ rfl; have d21 := D1.cell 1 _ rfl; have d22 := D1.cell 2 _ rfl; have d23 := D1.cell 3 _ rfl; clear C1 D1 c11 c12 c13 d10 d11 d12 d13 hO2 hK2 hI1 hI2)
          | (at_builtin; refine wpList_append_reads rfl (.tmp 29) (.tmp 31) rfl x2 x2.heap.size _ [] _ L2 (Ints.nil _ _) (HR.out.2.1.same ho2.out) (by have := HL.out; simp; omega) (Nat.le_refl _) rfl rfl (Only.refl [] x2) ?_; intro v3 x3 hI3 hO3 hK3; have hO3 : Only [] x2 x3 := hO3.mono (by simp [own, Value.ownBlock]); have ho3 : Hid (Only [] w6 x3) := ho2.out.trans hO3 (by simp); replace hI3 : Ints x3 x2.heap.size v3 L2 := hI3; obtain ⟨a3, b3', rfl, _⟩ := hI3.opt; have HI23 := Lib.hid (HI2.out.only hO3 (by simp)); have hs23 := hO3.size; have C1 := HC6.out.only ho3.out (by simp); have D1 := HD6.out.only ho3.out (by simp); have c32 := C1.cell 2 _ rfl; have c33 := C1.cell 3 _ rfl; have d31 := D1.cell 1 _ rfl; have d32 := D1.cell 2 _ rfl; have d33 := D1.cell 3 _ rfl; clear C1 D1 c21 c22 c23 d21 d22 d23 hO3 hK3)
          | (at_builtin; refine wpList_append_reads rfl (.tmp 33) (.tmp 35) rfl x3 x2.heap.size _ L2 _ L4 hI3 (HR.out.2.2.2.same ho3.out) (by have := HL.out; omega) hs23 rfl rfl (Only.refl [] x3) ?_; intro v4 x4 hI4 hO4 hK4; have ho4 : Hid (Only [] w6 x4) := ho3.out.pushed (hI3.mono ho2.out.size) (Nat.le_refl _) hO4; obtain ⟨a4, b4', rfl, _⟩ := hI4.opt; have HI4 := Lib.hid (hI4.mono ho2.out.size); have HI24 := Lib.hid (HI23.out.only hO4 (fun g hg hx => by have h1 := (hI3.own_lt g hx).1; have h2 := (HI2.out.own_lt g (own_of hg)).2; omega)); have C1 := HC6.out.only ho4.out (by simp); have D1 := HD6.out.only ho4.out (by simp); have HC4 := Lib.hid C1; have c40 := C1.cell 0 _ rfl; have c41 := C1.cell 1 _ rfl; have c42 := C1.cell 2 _ rfl; have c43 := C1.cell 3 _ rfl; have d42 := D1.cell 2 _ rfl; have d43 := D1.cell 3 _ rfl; have f40 := C1.free 0 _ rfl; have f41 := C1.free 1 _ rfl; have f42 := C1.free 2 _ rfl; have f43 := C1.free 3 _ rfl; clear C1 D1 c32 c33 d31 d32 d33 hO4 hK4 hI3 hI4 hs23))
        have hC8 := HC4.out.set4 (x := .slice a2 (L1 ++ L3).length b2') (y := .slice a4 (L2 ++ L4).length b4') (u := .int .i64 (wa + wb)) (v := .int .i64 sa)
        have HFIN := Lib.hid (HF.out x4 _ _ _ _ _ _ _ ho4.out HI24.out HI4.out hC8 (((((Only.refl [C] x4).setCell (by simp) _).setCell (by simp) _).setCell (by simp) _).setCell (by simp) _))
        clear hC8
        have h := HFIN.out
        simp only [List.length_append] at h
        exact h

end Go.Proofs.YtocpmncedlenbaaDoor
