/-
  Contract of weave's one; what holds of a reading's end behind later writes.
-/
import Derived.Test.YtocpmncedlenbaaDoorP23WeaveTells
namespace Go.Proofs.YtocpmncedlenbaaDoor
open Go.RowKit Go.Deep

theorem RdAt.same {w w' : World} {base : Nat} {F : Nat → Prop} {R : Nat} {s : ByteArray} {k : Nat} {pv : Value} {p : PlanL} (h : RdAt w base F R s k pv p) (ho : Only [] w w') : RdAt w' base F R s k pv p :=
  ⟨h.cells.only ho (by simp), h.plan.same ho, h.n1, h.n2, fun x hx => by have := h.b1 x hx; have := ho.size; omega, h.b2, h.hk, h.len⟩
theorem RdAt.only {w w' : World} {base : Nat} {F : Nat → Prop} {R : Nat} {s : ByteArray} {k : Nat} {pv : Value} {p : PlanL} {S : List Nat} (h : RdAt w base F R s k pv p) (ho : Only S w w') (h1 : R ∉ S) (h2 : ∀ x ∈ own pv, x ∉ S) (h3 : ∀ x, F x → x ∉ S) : RdAt w' base F R s k pv p :=
  ⟨h.cells.only ho h1, h.plan.only ho h2 h3, h.n1, h.n2, fun x hx => by have := h.b1 x hx; have := ho.size; omega, h.b2, h.hk, h.len⟩
/-- The reader goes on by one. -/
theorem RdAt.step {w : World} {base : Nat} {F : Nat → Prop} {R : Nat} {s : ByteArray} {k : Nat} {pv : Value} {p : PlanL} (h : RdAt w base F R s k pv p) (hk : k < s.size) :
    RdAt (w.setCell ⟨R, 1, none⟩ (.int .i64 ((k + 1 : Nat) : Int))) base F R s (k + 1) pv p ∧ Only [R] w (w.setCell ⟨R, 1, none⟩ (.int .i64 ((k + 1 : Nat) : Int))) := by
  have ho : Only [R] w (w.setCell ⟨R, 1, none⟩ (.int .i64 ((k + 1 : Nat) : Int))) := (Only.refl [R] w).setCell (by simp) _
  refine ⟨⟨h.cells.set 1 _, h.plan.only ho (fun x hx hx2 => by simp at hx2; subst hx2; exact h.n1 hx) (fun x hx hx2 => by simp at hx2; subst hx2; exact h.n2 hx), h.n1, h.n2, fun x hx => ?_, h.b2, hk, by have := h.len; omega⟩, ho⟩
  have := h.b1 x hx
  have := ho.size
  omega
theorem Arm.only {w w' : World} {base R : Nat} {pv pv' v : Value} {l : List Nat} {S : List Nat} (h : Arm w base R pv v l) (ho : Only S w w') (hS : ∀ x ∈ own v, x ∉ S) (hk : Kin w (own pv) (own pv')) : Arm w' base R pv' v l := by
  refine ⟨h.reads.only ho (fun g hg => hS g (own_of hg)), fun x hx => ?_⟩
  obtain ⟨h1, h2, h3, h4⟩ := h.apart x hx
  refine ⟨h1, h2, fun hp => ?_, by have := ho.size; omega⟩
  rcases hk x hp with h | h
  · exact h3 h
  · omega

/-- What a reading of one leaves, behind a store into a block Z that is none of it. -/
theorem rd_stored {base : Nat} {F : Nat → Prop} {R : Nat} {s : ByteArray} {pv : Value} {p : PlanL} {w W0 w5 W8 : World} {a : Wv} {r : List UInt8} {fv lv : Value} {Z : Nat} (ho0 : Only [] w W0) (hZ0 : w.heap.size ≤ Z) (hZ1 : Z < W0.heap.size)
    (hpv : ∀ x ∈ own pv, x < w.heap.size) (hF : ∀ x, F x → x < w.heap.size) (hR : R < w.heap.size)
    (h : RdPost base F R s pv p W0 (some (a, r)) (.returned (.agg #[fv, lv, .int .i64 (workW a), .int .i64 (spanW a)])) w5) (ho8 : Only [Z] w5 W8) :
    RdPost base F R s pv p w (some (a, r)) (.returned (.agg #[fv, lv, .int .i64 (workW a), .int .i64 (spanW a)])) W8 := by
  obtain ⟨fv', lv', pv', F', he, hRd, hf, hl, ho, hK, hFF, hfn, hln⟩ := h
  injection he with he
  injection he with he
  have e := congrArg Array.toList he
  simp at e
  obtain ⟨rfl, rfl⟩ := e
  have hs0 := ho0.size
  have hpz : ∀ x ∈ own pv', x ∉ [Z] := fun x hx hz => by
    simp at hz
    subst hz
    rcases hK x hx with h | h
    · have := hpv x h; omega
    · omega
  have hfz : ∀ x, F' x → x ∉ [Z] := fun x hx hz => by
    simp at hz
    subst hz
    rcases hFF x hx with h | h
    · have := hF x h; omega
    · omega
  refine ⟨fv, lv, pv', F', rfl, hRd.only ho8 (by simp; omega) hpz hfz, hf.only ho8 (fun x hx hz => by simp at hz; have := hfn x hx; omega) (Kin.refl _ _), hl.only ho8 (fun x hx hz => by simp at hz; have := hln x hx; omega) (Kin.refl _ _), ?_, ?_, ?_, ?_, ?_⟩
  · exact ((ho0.mono (T := R :: own pv) (by simp)).trans ho (fun x hx _ => hx)).trans ho8 (fun x hx hlt => by simp at hx; omega)
  · intro x hx
    rcases hK x hx with h | h
    · exact .inl h
    · exact .inr (by omega)
  · intro x hx
    rcases hFF x hx with h | h
    · exact .inl h
    · exact .inr (by omega)
  · intro x hx; have := hfn x hx; omega
  · intro x hx; have := hln x hx; omega

theorem rd_after {base : Nat} {F F' : Nat → Prop} {R Z j' : Nat} {s : ByteArray} {pv pv' fv lv : Value} {p : PlanL} {w W2 w5 w8 : World} {a : Wv} {r' : List UInt8} (hR : RdAt w8 base F' R s j' pv' (build a p)) (hj : s.size - r'.length = j')
    (hf : Arm w5 base R pv' fv (firstW a p.length)) (hl : Arm w5 base R pv' lv (lastW a p.length)) (ho5 : Only (R :: own pv) W2 w5) (hK : Kin W2 (own pv) (own pv')) (hFF : ∀ x, F' x → F x ∨ W2.heap.size ≤ x)
    (hfn : ∀ x ∈ own fv, W2.heap.size ≤ x) (hln : ∀ x ∈ own lv, W2.heap.size ≤ x) (ho2 : Only [R] w W2) (ho8 : Only [R, Z] w5 w8) (hZ : w.heap.size ≤ Z) (hZ2 : Z < W2.heap.size) :
    RdPost base F R s pv p w (some (a, r')) (.returned (.agg #[fv, lv, .int .i64 (workW a), .int .i64 (spanW a)])) w8 := by
  have hs2 := ho2.size
  refine ⟨fv, lv, pv', F', rfl, by rw [hj]; exact hR, hf.only ho8 (fun x hx hz => ?_) (Kin.refl _ _), hl.only ho8 (fun x hx hz => ?_) (Kin.refl _ _), ?_, ?_, ?_, ?_, ?_⟩
  · simp at hz
    rcases hz with rfl | rfl
    · exact (hf.apart _ hx).2.1 rfl
    · have := hfn _ hx; omega
  · simp at hz
    rcases hz with rfl | rfl
    · exact (hl.apart _ hx).2.1 rfl
    · have := hln _ hx; omega
  · exact ((ho2.mono (T := R :: own pv) (by simp)).trans ho5 (fun x hx _ => hx)).trans ho8 (fun x hx hlt => by
      simp at hx
      rcases hx with rfl | rfl
      · simp
      · omega)
  · intro x hx
    rcases hK x hx with h | h
    · exact .inl h
    · exact .inr (by omega)
  · intro x hx
    rcases hFF x hx with h | h
    · exact .inl h
    · exact .inr (by omega)
  · intro x hx; have := hfn x hx; omega
  · intro x hx; have := hln x hx; omega

/-- A reading's end, its two lists in their forms. -/
theorem rd_forms {base : Nat} {F : Nat → Prop} {R : Nat} {s : ByteArray} {pv : Value} {p : PlanL} {w w' : World} {a : Wv} {r : List UInt8} {e : Ending} (h : RdPost base F R s pv p w (some (a, r)) e w') :
    ∃ fa fc la lc, e = .returned (.agg #[.slice fa (firstW a p.length).length fc, .slice la (lastW a p.length).length lc, .int .i64 (workW a), .int .i64 (spanW a)]) := by
  obtain ⟨fv, lv, pv', F', rfl, _, hf, hl, _⟩ := h
  obtain ⟨fa, fc, rfl, _⟩ := hf.reads.opt
  obtain ⟨la, lc, rfl, _⟩ := hl.reads.opt
  exact ⟨fa, fc, la, lc, by rw [natL_len, natL_len]⟩

set_option maxRecDepth 100000 in
set_option maxHeartbeats 4000000 in
theorem weave_one (base R : Nat) (s : ByteArray) (hs : s.size ≤ 200) (f k : Nat)
    (hbes : isC 40 (rest s k) = true → ∀ F pv p w, RdAt w base F R s (k + 1) pv p → ErrsAt w base → Calls Tryd.prog 24 #[.pointer (some ⟨R, 0, none⟩)] w (RdPost base F R s pv p w (pBeside f (rest s (k + 1)))))
    (F : Nat → Prop) (pv : Value) (p : PlanL) (w : World) (h : RdAt w base F R s k pv p) (hv : ErrsAt w base) :
    Calls Tryd.prog 68 #[.pointer (some ⟨R, 0, none⟩)] w (RdPost base F R s pv p w (pOne (f + 1) (rest s k))) := by
  obtain ⟨W0, hW0⟩ : ∃ W0, w.alloc (.cells #[.slice none 0 0, .slice none 0 0, .int .i64 0, .int .i64 0] 73) = W0 := ⟨_, rfl⟩
  have ho0 : Only [] w W0 := by rw [← hW0]; exact (Only.refl [] w).alloc _
  have hsz0 : W0.heap.size = w.heap.size + 1 := by rw [← hW0]; simp
  have hZ0 : Cells W0 w.heap.size [.slice none 0 0, .slice none 0 0, .int .i64 0, .int .i64 0] := by
    have := Cells.new w #[.slice none 0 0, .slice none 0 0, .int .i64 0, .int .i64 0] 73
    rw [hW0] at this; exact this
  have hpv := Lib.hid (fun x hx => (h.plan.far x hx).2)
  have hFl := Lib.hid (fun x hx => (h.b1 x hx).2)
  have hRl := Lib.hid h.cells.lt
  have hZp : Hid (w.heap.size ∉ R :: own pv) := fun hx => by
    rcases List.mem_cons.1 hx with hx | hx
    · have := hRl.out; omega
    · have := hpv.out _ hx; omega
  have H0 := Lib.hid (h.same ho0)
  have HV0 := Lib.hid (hv.low ho0 (by simp))
  have HZ := Lib.hid hZ0
  have HO := Lib.hid ho0
  have HS := Lib.hid hsz0
  have HBP := Lib.hid (fun x (hx : x ∈ R :: own pv) => (show base ≤ x by
    rcases List.mem_cons.1 hx with rfl | hx
    · exact h.b2
    · exact (h.plan.far x hx).1))
  clear hZ0 ho0 hsz0
  cases hb : isC 40 (rest s k) with
  | false =>
    have hpo : pOne (f + 1) (rest s k) = pNum (rest s k) := by unfold pOne; rw [if_neg (by rw [hb]; simp)]
    rw [hpo]
    have his := weave_is R s k pv 40 40 rfl W0 H0.out.cells false hb
    clear hpo hb hbes h hv
    go_enter Tryd.func68, Tryd.ntmps68
    go_wp2_with fail
    refine his.mono ?_
    rintro e w1 ⟨rfl, n1, hw1⟩
    clear hW0
    have ho1 : Only [] W0 w1 := by rw [hw1]; exact (Only.refl [] W0).drewN n1
    have hnum := weave_number base F R s k pv p w1 (H0.out.same ho1) hs (HV0.out.low ho1 (by simp))
    have hs1 : w1.heap.size = W0.heap.size := by rw [hw1]; rfl
    have HS1 := Lib.hid hs1
    have HO1 := Lib.hid (HO.out.trans ho1 (by simp))
    have HZ1 := Lib.hid (HZ.out.only ho1 (by simp))
    clear his hw1 hs1 ho1
    cases hq : pNum (rest s k) with
    | none =>
      rw [hq] at hnum
      go_wp2_with fail
      refine hnum.mono ?_
      rintro e w5 ⟨rfl, ho5⟩
      have hfin := Lib.hid ((HO1.out.mono (T := R :: own pv) (by simp)).trans ho5 (fun x hx _ => hx))
      exact ⟨rfl, rfl, hfin.out⟩
    | some x =>
      obtain ⟨a, r⟩ := x
      rw [hq] at hnum
      go_wp2_with fail
      refine hnum.mono ?_
      intro e w5 hpost
      obtain ⟨fa, fc, la, lc, rfl⟩ := rd_forms hpost
      have hZ5 : Cells w5 w.heap.size [.slice none 0 0, .slice none 0 0, .int .i64 0, .int .i64 0] := by
        obtain ⟨_, _, _, _, _, _, _, _, ho5, _⟩ := hpost
        exact HZ1.out.only ho5 hZp.out
      have hZ8 := Lib.hid (hZ5.set4 (x := .slice fa (firstW a p.length).length fc) (y := .slice la (lastW a p.length).length lc) (u := .int .i64 (workW a)) (v := .int .i64 (spanW a)))
      have hfin := Lib.hid (fun W8 (ho8 : Only [w.heap.size] w5 W8) => rd_stored HO1.out (Nat.le_refl _) (by have := HS.out; have := HS1.out; omega) hpv.out hFl.out hRl.out hpost ho8)
      have z0 := hZ5.cell 0 _ rfl
      have z1 := hZ5.cell 1 _ rfl
      have z2 := hZ5.cell 2 _ rfl
      have z3 := hZ5.cell 3 _ rfl
      have y0 := hZ5.free 0 _ rfl
      have y1 := hZ5.free 1 _ rfl
      have y2 := hZ5.free 2 _ rfl
      have y3 := hZ5.free 3 _ rfl
      clear hnum hpost hZ5
      go_wp2_with fail
      refine bodyPost_ret (results_cell1' rfl _ _ _ _ rfl (load_cloth _ _ _ _ hZ8.out)) rfl ?_
      rw [hq]
      exact hfin.out _ (((((Only.refl [w.heap.size] w5).setCell (by simp) _).setCell (by simp) _).setCell (by simp) _).setCell (by simp) _)
  | true =>
    have hks : k < s.size := by
      rcases Nat.lt_or_ge k s.size with h' | h'
      · exact h'
      · rw [rest_end s k h'] at hb; cases hb
    have hpo : pOne (f + 1) (rest s k) = (pBeside f (rest s (k + 1))).bind (fun x => if isC 41 x.2 then some (x.1, x.2.tail) else none) := by unfold pOne; rw [if_pos hb, rest_tail]
    obtain ⟨res, hres⟩ : ∃ res, (pBeside f (rest s (k + 1))).bind (fun x => if isC 41 x.2 then some (x.1, x.2.tail) else none) = res := ⟨_, rfl⟩
    rw [hpo, hres]
    have HRES := Lib.hid hres
    clear hres
    have his := weave_is R s k pv 40 40 rfl W0 H0.out.cells true hb
    have hbes := Lib.hid (hbes hb)
    clear hpo hb h hv
    go_enter Tryd.func68, Tryd.ntmps68
    go_wp2_with fail
    refine his.mono ?_
    rintro e w1 ⟨rfl, n1, hw1⟩
    clear hW0
    have ho1 : Only [] W0 w1 := by rw [hw1]; exact (Only.refl [] W0).drewN n1
    have hs1 : w1.heap.size = W0.heap.size := by rw [hw1]; rfl
    have HS1 := Lib.hid hs1
    have HO1 := Lib.hid (HO.out.trans ho1 (by simp))
    have HZ1 := Lib.hid (HZ.out.only ho1 (by simp))
    have hR1 := H0.out.same ho1
    have c1 := hR1.cells.cell 1 _ rfl
    have f1 := hR1.cells.free 1 _ rfl
    obtain ⟨hR2, ho2⟩ := hR1.step hks
    have ek : ((k + 1 : Nat) : Int) = (k : Int) + 1 := by omega
    rw [ek] at ho2
    have hR2' : RdAt (w1.setCell ⟨R, 1, none⟩ (.int .i64 ((k : Int) + 1))) base F R s (k + 1) pv p := by rw [← ek]; exact hR2
    have HR2 := Lib.hid hR2'
    have HO2 := Lib.hid ho2
    have hcall := hbes.out F pv p (w1.setCell ⟨R, 1, none⟩ (.int .i64 ((k : Int) + 1))) hR2' ((HV0.out.low ho1 (by simp)).low ho2 (by simp; exact hR2.b2))
    clear his hw1 hs1 ho1 hR1 hR2 ho2 ek hR2' hbes
    cases hq : pBeside f (rest s (k + 1)) with
    | none =>
      rw [hq] at hcall
      go_wp2_with fail
      refine hcall.mono ?_
      rintro e w5 ⟨rfl, ho5⟩
      have hfin := Lib.hid (((HO1.out.mono (T := R :: own pv) (by simp)).trans HO2.out (by simp)).trans ho5 (fun x hx _ => hx))
      have hr0 : res = none := by rw [← HRES.out, hq]; rfl
      subst hr0
      exact ⟨rfl, rfl, hfin.out⟩
    | some x =>
      obtain ⟨a, r⟩ := x
      rw [hq] at hcall
      go_wp2_with fail
      refine hcall.mono ?_
      intro e w5 hpost
      obtain ⟨fa, fc, la, lc, rfl⟩ := rd_forms hpost
      obtain ⟨fv', lv', pv', F', he, hRd, hf, hl, ho5, hK, hFF, hfn, hln⟩ := hpost
      injection he with he
      injection he with he
      have e2 := congrArg Array.toList he
      simp at e2
      obtain ⟨rfl, rfl⟩ := e2
      have hrr := rest_suf s (k + 1) r ((p_suf f).2.2.2.1 _ _ _ hq)
      have hrl := (p_len f).2.2.2.1 _ _ _ hq
      rw [rest_len] at hrl
      obtain ⟨W6, hW6⟩ : ∃ W6, w5.alloc (.cells #[.slice fa (firstW a p.length).length fc, .slice la (lastW a p.length).length lc, .int .i64 (workW a), .int .i64 (spanW a)] 73) = W6 := ⟨_, rfl⟩
      have ho6 : Only [] w5 W6 := by rw [← hW6]; exact (Only.refl [] w5).alloc _
      have hC6 : Cells W6 w5.heap.size [.slice fa (firstW a p.length).length fc, .slice la (lastW a p.length).length lc, .int .i64 (workW a), .int .i64 (spanW a)] := by
        have := Cells.new w5 #[.slice fa (firstW a p.length).length fc, .slice la (lastW a p.length).length lc, .int .i64 (workW a), .int .i64 (spanW a)] 73
        rw [hW6] at this; exact this
      have hZ6 := (((HZ1.out.only HO2.out (by simp; have := hRl.out; omega)).only ho5 hZp.out)).only ho6 (by simp)
      have hR6 := hRd.same ho6
      obtain ⟨j, hj⟩ : ∃ j, s.size - r.length = j := ⟨_, rfl⟩
      rw [hj] at hR6 hrr
      have HC6 := Lib.hid hC6
      have HZ6 := Lib.hid hZ6
      have HR6 := Lib.hid hR6
      have HF6 := Lib.hid (And.intro hf hl)
      have HK6 := Lib.hid (And.intro ho5 (And.intro hK (And.intro hFF (And.intro hfn hln))))
      have HO6 := Lib.hid ho6
      have hjs : j < s.size ∨ isC 41 r = false := by
        rcases Nat.lt_or_ge j s.size with h' | h'
        · exact .inl h'
        · right; rw [← hrr, rest_end s j h']; rfl
      have HJ := Lib.hid hj
      clear hcall hC6 hZ6 hR6 hf hl hK hFF hfn hln hRd ho6 hj
      cases hb2 : isC 41 r with
      | false =>
        have his2 := weave_is R s j pv' 41 41 rfl W6 HR6.out.cells false (by rw [hrr]; exact hb2)
        have hpost : res = none := by
          rw [← HRES.out, hq]; show (if isC 41 r = true then _ else _) = _; rw [if_neg (by rw [hb2]; simp)]
        subst hpost
        go_wp2_with fail
        refine his2.mono ?_
        rintro e w7 ⟨rfl, n7, hw7⟩
        have hfin := Lib.hid ((((HO1.out.mono (T := R :: own pv) (by simp)).trans HO2.out (by simp)).trans HK6.out.1 (fun x hx _ => hx)).trans (hw7 ▸ HO6.out.drewN n7) (by simp))
        clear his2 hw7 hW6
        go_wp2_with fail
        exact ⟨rfl, rfl, hfin.out⟩
      | true =>
        have hjlt : j < s.size := by
          rcases hjs with h | h
          · exact h
          · rw [hb2] at h; cases h
        have his2 := weave_is R s j pv' 41 41 rfl W6 HR6.out.cells true (by rw [hrr]; exact hb2)
        have hpost : res = some (a, r.tail) := by
          rw [← HRES.out, hq]; show (if isC 41 r = true then _ else _) = _; rw [if_pos hb2]
        subst hpost
        have hrt := isC_len hb2
        go_wp2_with fail
        refine his2.mono ?_
        rintro e w7 ⟨rfl, n7, hw7⟩
        have ho67 : Only [] W6 w7 := by rw [hw7]; exact (Only.refl [] W6).drewN n7
        have hR7 := HR6.out.same ho67
        have d1 := hR7.cells.cell 1 _ rfl
        have g1 := hR7.cells.free 1 _ rfl
        obtain ⟨hR8, ho8⟩ := hR7.step hjlt
        have ek : ((j + 1 : Nat) : Int) = (j : Int) + 1 := by omega
        rw [ek] at ho8
        have hR8' : RdAt (w7.setCell ⟨R, 1, none⟩ (.int .i64 ((j : Int) + 1))) base F' R s (j + 1) pv' (build a p) := by rw [← ek]; exact hR8
        have hC8 := (HC6.out.only ho67 (by simp)).only ho8 (by simp; have := hRl.out; have := HO1.out.size; have := HO2.out.size; have := HK6.out.1.size; omega)
        have hZ8 := (HZ6.out.only ho67 (by simp)).only ho8 (by simp; have := hRl.out; omega)
        have q0 := hC8.cell 0 _ rfl
        have q1 := hC8.cell 1 _ rfl
        have q2 := hC8.cell 2 _ rfl
        have q3 := hC8.cell 3 _ rfl
        have z0 := hZ8.cell 0 _ rfl
        have z1 := hZ8.cell 1 _ rfl
        have z2 := hZ8.cell 2 _ rfl
        have z3 := hZ8.cell 3 _ rfl
        have y0 := hZ8.free 0 _ rfl
        have y1 := hZ8.free 1 _ rfl
        have y2 := hZ8.free 2 _ rfl
        have y3 := hZ8.free 3 _ rfl
        have hZ9 := Lib.hid (hZ8.set4 (x := .slice fa (firstW a p.length).length fc) (y := .slice la (lastW a p.length).length lc) (u := .int .i64 (workW a)) (v := .int .i64 (spanW a)))
        have HR8 := Lib.hid hR8'
        have HO8 := Lib.hid ((HO6.out.trans ho67 (by simp)).mono (T := [R]) (by simp) |>.trans ho8 (by simp))
        clear his2 hw7 hW6 hR7 hR8 ho8 ho67 ek hR8' hC8 hZ8
        go_wp2_with fail
        refine bodyPost_ret (results_cell1' rfl _ _ _ _ rfl (load_cloth _ _ _ _ hZ9.out)) rfl ?_
        have hst : Only [w.heap.size] (w7.setCell ⟨R, 1, none⟩ (.int .i64 ((j : Int) + 1))) ((((((w7.setCell ⟨R, 1, none⟩ (.int .i64 ((j : Int) + 1))).setCell ⟨w.heap.size, 0, none⟩ (.slice fa (firstW a p.length).length fc)).setCell ⟨w.heap.size, 1, none⟩ (.slice la (lastW a p.length).length lc)).setCell ⟨w.heap.size, 2, none⟩ (.int .i64 (workW a))).setCell ⟨w.heap.size, 3, none⟩ (.int .i64 (spanW a)))) :=
          ((((Only.refl [w.heap.size] _).setCell (by simp) _).setCell (by simp) _).setCell (by simp) _).setCell (by simp) _
        have hpz : ∀ x ∈ own pv', x ∉ [w.heap.size] := fun x hx hz => by
          simp at hz
          subst hz
          rcases HK6.out.2.1 _ hx with h | h
          · have := hpv.out _ h; omega
          · have := HO2.out.size; have := HS1.out; have := HS.out; omega
        have hfz : ∀ x, F' x → x ∉ [w.heap.size] := fun x hx hz => by
          simp at hz
          subst hz
          rcases HK6.out.2.2.1 _ hx with h | h
          · have := hFl.out _ h; omega
          · have := HO2.out.size; have := HS1.out; have := HS.out; omega
        exact rd_after (HR8.out.only hst (by simp; have := hRl.out; omega) hpz hfz) (by have := HJ.out; omega) HF6.out.1 HF6.out.2 HK6.out.1 HK6.out.2.1 HK6.out.2.2.1 HK6.out.2.2.2.1 HK6.out.2.2.2.2 ((HO1.out.mono (T := [R]) (by simp)).trans HO2.out (by simp))
          ((HO8.out.mono (T := [R, w.heap.size]) (by simp)).trans hst (by simp)) (Nat.le_refl _) (by have := HO2.out.size; have := HS1.out; have := HS.out; omega)

end Go.Proofs.YtocpmncedlenbaaDoor
