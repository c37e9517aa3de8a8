/-
  Contract of the document's one: a number, or a weave in signs.
-/
import Derived.Test.YtocpmncedlenbaaDoorP41WeaveTells
namespace Go.Proofs.YtocpmncedlenbaaDoor
open Go.RowKit Go.Deep

set_option maxRecDepth 100000 in
set_option maxHeartbeats 4000000 in
theorem ref_one (base R : Nat) (s : ByteArray) (hs : s.size ≤ 200) (f k : Nat)
    (hbes : isC 40 (rest s k) = true → ∀ F pv p w, QdAt w base F R s (k + 1) pv p → Calls Tryd.prog 22 #[.pointer (some ⟨R, 0, none⟩)] w (QdPost 2 base F R s pv p w (qBeside f (rest s (k + 1)))))
    (F : Nat → Prop) (pv : Value) (p : PlanL) (w : World) (h : QdAt w base F R s k pv p) :
    Calls Tryd.prog 67 #[.pointer (some ⟨R, 0, none⟩)] w (QdPost 0 base F R s pv p w (qOne (f + 1) (rest s k))) := by
  obtain ⟨W0, hW0⟩ : ∃ W0, w.alloc (.cells #[.slice none 0 0, .slice none 0 0, .int .i64 0, .int .i64 0] 64) = W0 := ⟨_, rfl⟩
  have ho0 : Only [] w W0 := by rw [← hW0]; exact (Only.refl [] w).alloc _
  have hsz0 : W0.heap.size = w.heap.size + 1 := by rw [← hW0]; simp
  have hZ0 : Cells W0 w.heap.size [.slice none 0 0, .slice none 0 0, .int .i64 0, .int .i64 0] := by
    have := Cells.new w #[.slice none 0 0, .slice none 0 0, .int .i64 0, .int .i64 0] 64
    rw [hW0] at this; exact this
  have hpv := Lib.hid (fun x hx => (h.plan.far x hx).2)
  have hFl := Lib.hid (fun x hx => (h.b1 x hx).2)
  have hRl := Lib.hid h.cells.lt
  have hZp : Hid (w.heap.size ∉ R :: own pv) := fun hx => by
    rcases List.mem_cons.1 hx with hx | hx
    · have := hRl.out; omega
    · have := hpv.out _ hx; omega
  have H0 := Lib.hid (h.same ho0)
  have HZ := Lib.hid hZ0
  have HO := Lib.hid ho0
  have HS := Lib.hid hsz0
  clear hZ0 ho0 hsz0
  cases hb : isC 40 (rest s k) with
  | false =>
    have hpo : qOne (f + 1) (rest s k) = qNum (rest s k) := by unfold qOne; rw [if_neg (by rw [hb]; simp)]
    rw [hpo]
    exact ref_number base R s hs k hb F pv p w h
  | true =>
    have hks : k < s.size := by
      rcases Nat.lt_or_ge k s.size with h' | h'
      · exact h'
      · rw [rest_end s k h'] at hb; cases hb
    have hpo : qOne (f + 1) (rest s k) = (qBeside f (rest s (k + 1))).bind (fun x => if isC 41 x.2 then some (x.1, x.2.tail) else none) := by unfold qOne; rw [if_pos hb, rest_tail]
    obtain ⟨res, hres⟩ : ∃ res, (qBeside f (rest s (k + 1))).bind (fun x => if isC 41 x.2 then some (x.1, x.2.tail) else none) = res := ⟨_, rfl⟩
    rw [hpo, hres]
    have HRES := Lib.hid hres
    clear hres
    have his := ref_next R s k pv 40 40 rfl W0 H0.out.cells true hb
    have hbes := Lib.hid (hbes hb)
    clear hpo hb h
    go_enter Tryd.func67, Tryd.ntmps67
    go_wp2_with fail
    refine his.mono ?_
    rintro e w1 ⟨rfl, n1, hw1⟩
    clear hW0
    have ho1 : Only [] W0 w1 := by rw [hw1]; exact (Only.refl [] W0).drewN n1
    have hs1 : w1.heap.size = W0.heap.size := by rw [hw1]; rfl
    have HS1 := Lib.hid hs1
    have HO1 := Lib.hid (HO.out.trans ho1 (by simp))
    have HZ1 := Lib.hid (HZ.out.only ho1 (by simp))
    have hR1 := H0.out.same ho1
    have c1 := hR1.cells.cell 1 _ rfl
    have f1 := hR1.cells.free 1 _ rfl
    obtain ⟨hR2, ho2⟩ := hR1.step hks
    have ek : ((k + 1 : Nat) : Int) = (k : Int) + 1 := by omega
    rw [ek] at ho2
    have hR2' : QdAt (w1.setCell ⟨R, 1, none⟩ (.int .i64 ((k : Int) + 1))) base F R s (k + 1) pv p := by rw [← ek]; exact hR2
    have HR2 := Lib.hid hR2'
    have HO2 := Lib.hid ho2
    have hcall := hbes.out F pv p (w1.setCell ⟨R, 1, none⟩ (.int .i64 ((k : Int) + 1))) hR2'
    clear his hw1 hs1 ho1 hR1 hR2 ho2 ek hR2' hbes
    cases hq : qBeside f (rest s (k + 1)) with
    | none =>
      rw [hq] at hcall
      go_wp2_with fail
      refine hcall.mono ?_
      rintro e w5 ⟨ga, gn, gc, ka, kn, kc, xb, yb, rfl, hL⟩
      have hr0 : res = none := by rw [← HRES.out, hq]; rfl
      subst hr0
      obtain ⟨W6, hW6⟩ : ∃ W6, w5.alloc (.cells #[.slice ga gn gc, .slice ka kn kc, .int .i64 xb, .int .i64 yb] 64) = W6 := ⟨_, rfl⟩
      have ho6 : Only [] w5 W6 := by rw [← hW6]; exact (Only.refl [] w5).alloc _
      obtain ⟨j, pv', hc⟩ := hL.rc
      have hC6 := hc.only ho6 (by simp)
      have his2 := ref_next_no R _ _ pv' 41 W6 hC6
      have HC6 := Lib.hid hC6
      have HO6 := Lib.hid ((((HO1.out.mono (T := R :: own pv) (by simp)).trans HO2.out (by simp)).trans hL.only (fun x hx _ => hx)).trans ho6 (by simp))
      have HZ6 := Lib.hid (((HZ1.out.only HO2.out (by simp; have := hRl.out; omega)).only hL.only hZp.out).only ho6 (by simp))
      clear hcall hq hL hc hC6 ho6 c1 f1
      go_wp2_with fail
      refine his2.mono ?_
      rintro e w7 ⟨rfl, n7, hw7⟩
      have ho67 : Only [] W6 w7 := by rw [hw7]; exact (Only.refl [] W6).drewN n7
      have ho7 := HO6.out.trans ho67 (by simp)
      have hC7 := HC6.out.only ho67 (by simp)
      have hZ7 := HZ6.out.only ho67 (by simp)
      clear his2 hw7 hW6 ho67
      have f3 := hC7.free 3 _ rfl
      have c3 := hC7.cell 3 _ rfl
      have hZq := hZ7.only ((Only.refl [R] w7).setCell (p := ⟨R, 3, none⟩) (by simp) (.int .i64 2)) (by simp; have := hRl.out; omega)
      have z0 := hZq.cell 0 _ rfl
      have z1 := hZq.cell 1 _ rfl
      have z2 := hZq.cell 2 _ rfl
      have z3 := hZq.cell 3 _ rfl
      have y0 := hZq.free 0 _ rfl
      have y1 := hZq.free 1 _ rfl
      have y2 := hZq.free 2 _ rfl
      have y3 := hZq.free 3 _ rfl
      have HB := Lib.hid (fun W8 hW8 => qd_bad (mm := 0) (base := base) (F := F) (p := p) ho7 hC7 hZ7 (Nat.le_refl _) (by have := hRl.out; omega) W8 hW8)
      clear hZq ho7 hC7 hZ7
      go_wp2_with fail
      have hend := HB.out _ rfl
      exact bodyPost_ret (results_cell1' rfl _ _ _ _ rfl (load_Cloth _ _ _ _ hend.1)) rfl hend.2
    | some x =>
      obtain ⟨a, r⟩ := x
      rw [hq] at hcall
      go_wp2_with fail
      refine hcall.mono ?_
      intro e w5 hpost
      obtain ⟨fa, fc, la, lc, rfl⟩ := qd_forms hpost
      obtain ⟨fv', lv', pv', F', he, hRd, hf, hl, ho5, hK, hFF, hfn, hln⟩ := hpost
      injection he with he
      injection he with he
      have e2 := congrArg Array.toList he
      simp at e2
      obtain ⟨rfl, rfl⟩ := e2
      have hrr := rest_suf s (k + 1) r ((q_suf f).2.2 _ _ _ hq)
      have hrl := (q_len f).2.2 _ _ _ hq
      rw [rest_len] at hrl
      obtain ⟨W6, hW6⟩ : ∃ W6, w5.alloc (.cells #[.slice fa (firstW a p.length).length fc, .slice la (lastW a p.length).length lc, .int .i64 (workW a), .int .i64 (spanW a)] 64) = W6 := ⟨_, rfl⟩
      have ho6 : Only [] w5 W6 := by rw [← hW6]; exact (Only.refl [] w5).alloc _
      have hC6 : Cells W6 w5.heap.size [.slice fa (firstW a p.length).length fc, .slice la (lastW a p.length).length lc, .int .i64 (workW a), .int .i64 (spanW a)] := by
        have := Cells.new w5 #[.slice fa (firstW a p.length).length fc, .slice la (lastW a p.length).length lc, .int .i64 (workW a), .int .i64 (spanW a)] 64
        rw [hW6] at this; exact this
      have hZ6 := (((HZ1.out.only HO2.out (by simp; have := hRl.out; omega)).only ho5 hZp.out)).only ho6 (by simp)
      have hR6 := hRd.same ho6
      obtain ⟨j, hj⟩ : ∃ j, s.size - r.length = j := ⟨_, rfl⟩
      rw [hj] at hR6 hrr
      have HC6 := Lib.hid hC6
      have HZ6 := Lib.hid hZ6
      have HR6 := Lib.hid hR6
      have HF6 := Lib.hid (And.intro hf hl)
      have HK6 := Lib.hid (And.intro ho5 (And.intro hK (And.intro hFF (And.intro hfn hln))))
      have HO6 := Lib.hid ho6
      have hjs : j < s.size ∨ isC 41 r = false := by
        rcases Nat.lt_or_ge j s.size with h' | h'
        · exact .inl h'
        · right; rw [← hrr, rest_end s j h']; rfl
      have HJ := Lib.hid hj
      clear hcall hC6 hZ6 hR6 hf hl hK hFF hfn hln hRd ho6 hj
      cases hb2 : isC 41 r with
      | false =>
        have his2 := ref_next R s j pv' 41 41 rfl W6 HR6.out.cells false (by rw [hrr]; exact hb2)
        have hpost : res = none := by
          rw [← HRES.out, hq]; show (if isC 41 r = true then _ else _) = _; rw [if_neg (by rw [hb2]; simp)]
        subst hpost
        go_wp2_with fail
        refine his2.mono ?_
        rintro e w7 ⟨rfl, n7, hw7⟩
        have ho67 : Only [] W6 w7 := by rw [hw7]; exact (Only.refl [] W6).drewN n7
        have ho7 := ((((HO1.out.mono (T := R :: own pv) (by simp)).trans HO2.out (by simp)).trans HK6.out.1 (fun x hx _ => hx)).trans HO6.out (by simp)).trans ho67 (by simp)
        have hC7 := HR6.out.cells.only ho67 (by simp)
        have hZ7 := HZ6.out.only ho67 (by simp)
        clear his2 hw7 hW6 ho67
        have f3 := hC7.free 3 _ rfl
        have c3 := hC7.cell 3 _ rfl
        have hZq := hZ7.only ((Only.refl [R] w7).setCell (p := ⟨R, 3, none⟩) (by simp) (.int .i64 2)) (by simp; have := hRl.out; omega)
        have z0 := hZq.cell 0 _ rfl
        have z1 := hZq.cell 1 _ rfl
        have z2 := hZq.cell 2 _ rfl
        have z3 := hZq.cell 3 _ rfl
        have y0 := hZq.free 0 _ rfl
        have y1 := hZq.free 1 _ rfl
        have y2 := hZq.free 2 _ rfl
        have y3 := hZq.free 3 _ rfl
        have HB := Lib.hid (fun W8 hW8 => qd_bad (mm := 0) (base := base) (F := F) (p := p) ho7 hC7 hZ7 (Nat.le_refl _) (by have := hRl.out; omega) W8 hW8)
        clear hZq ho7 hC7 hZ7
        go_wp2_with fail
        have hend := HB.out _ rfl
        exact bodyPost_ret (results_cell1' rfl _ _ _ _ rfl (load_Cloth _ _ _ _ hend.1)) rfl hend.2
      | true =>
        have hjlt : j < s.size := by
          rcases hjs with h | h
          · exact h
          · rw [hb2] at h; cases h
        have his2 := ref_next R s j pv' 41 41 rfl W6 HR6.out.cells true (by rw [hrr]; exact hb2)
        have hpost : res = some (a, r.tail) := by
          rw [← HRES.out, hq]; show (if isC 41 r = true then _ else _) = _; rw [if_pos hb2]
        subst hpost
        have hrt := isC_len hb2
        go_wp2_with fail
        refine his2.mono ?_
        rintro e w7 ⟨rfl, n7, hw7⟩
        have ho67 : Only [] W6 w7 := by rw [hw7]; exact (Only.refl [] W6).drewN n7
        have hR7 := HR6.out.same ho67
        have d1 := hR7.cells.cell 1 _ rfl
        have g1 := hR7.cells.free 1 _ rfl
        obtain ⟨hR8, ho8⟩ := hR7.step hjlt
        have ek : ((j + 1 : Nat) : Int) = (j : Int) + 1 := by omega
        rw [ek] at ho8
        have hR8' : QdAt (w7.setCell ⟨R, 1, none⟩ (.int .i64 ((j : Int) + 1))) base F' R s (j + 1) pv' (build a p) := by rw [← ek]; exact hR8
        have hC8 := (HC6.out.only ho67 (by simp)).only ho8 (by simp; have := hRl.out; have := HO1.out.size; have := HO2.out.size; have := HK6.out.1.size; omega)
        have hZ8 := (HZ6.out.only ho67 (by simp)).only ho8 (by simp; have := hRl.out; omega)
        have q0 := hC8.cell 0 _ rfl
        have q1 := hC8.cell 1 _ rfl
        have q2 := hC8.cell 2 _ rfl
        have q3 := hC8.cell 3 _ rfl
        have z0 := hZ8.cell 0 _ rfl
        have z1 := hZ8.cell 1 _ rfl
        have z2 := hZ8.cell 2 _ rfl
        have z3 := hZ8.cell 3 _ rfl
        have y0 := hZ8.free 0 _ rfl
        have y1 := hZ8.free 1 _ rfl
        have y2 := hZ8.free 2 _ rfl
        have y3 := hZ8.free 3 _ rfl
        have hZ9 := Lib.hid (hZ8.set4 (x := .slice fa (firstW a p.length).length fc) (y := .slice la (lastW a p.length).length lc) (u := .int .i64 (workW a)) (v := .int .i64 (spanW a)))
        have HR8 := Lib.hid hR8'
        have HO8 := Lib.hid ((HO6.out.trans ho67 (by simp)).mono (T := [R]) (by simp) |>.trans ho8 (by simp))
        clear his2 hw7 hW6 hR7 hR8 ho8 ho67 ek hR8' hC8 hZ8
        go_wp2_with fail
        refine bodyPost_ret (results_cell1' rfl _ _ _ _ rfl (load_Cloth _ _ _ _ hZ9.out)) rfl ?_
        have hst : Only [w.heap.size] (w7.setCell ⟨R, 1, none⟩ (.int .i64 ((j : Int) + 1))) ((((((w7.setCell ⟨R, 1, none⟩ (.int .i64 ((j : Int) + 1))).setCell ⟨w.heap.size, 0, none⟩ (.slice fa (firstW a p.length).length fc)).setCell ⟨w.heap.size, 1, none⟩ (.slice la (lastW a p.length).length lc)).setCell ⟨w.heap.size, 2, none⟩ (.int .i64 (workW a))).setCell ⟨w.heap.size, 3, none⟩ (.int .i64 (spanW a)))) :=
          ((((Only.refl [w.heap.size] _).setCell (by simp) _).setCell (by simp) _).setCell (by simp) _).setCell (by simp) _
        have hpz : ∀ x ∈ own pv', x ∉ [w.heap.size] := fun x hx hz => by
          simp at hz
          subst hz
          rcases HK6.out.2.1 _ hx with h | h
          · have := hpv.out _ h; omega
          · have := HO2.out.size; have := HS1.out; have := HS.out; omega
        have hfz : ∀ x, F' x → x ∉ [w.heap.size] := fun x hx hz => by
          simp at hz
          subst hz
          rcases HK6.out.2.2.1 _ hx with h | h
          · have := hFl.out _ h; omega
          · have := HO2.out.size; have := HS1.out; have := HS.out; omega
        exact qd_after (HR8.out.only hst (by simp; have := hRl.out; omega) hpz hfz) (by have := HJ.out; omega) HF6.out.1 HF6.out.2 HK6.out.1 HK6.out.2.1 HK6.out.2.2.1 HK6.out.2.2.2.1 HK6.out.2.2.2.2 ((HO1.out.mono (T := [R]) (by simp)).trans HO2.out (by simp))
          ((HO8.out.mono (T := [R, w.heap.size]) (by simp)).trans hst (by simp)) (Nat.le_refl _) (by have := HO2.out.size; have := HS1.out; have := HS.out; omega)

end Go.Proofs.YtocpmncedlenbaaDoor
