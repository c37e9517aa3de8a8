/-
  Contract of the document's reading of a weave: one.
-/
import Derived.Test.YtocpmncedlenbaaDoorP36WeaveTells
namespace Go.Proofs.YtocpmncedlenbaaDoor
open Go.RowKit Go.Deep

theorem digs_take (s : ByteArray) (k j : Nat) (hkj : k ≤ j) (hlt : j < s.size) : (rest s k).take (j + 1 - k) = (rest s k).take (j - k) ++ [s[j]] := by
  have e : j + 1 - k = (j - k) + 1 := by omega
  have e2 : k + (j - k) = j := by omega
  have hg := rest_get s k (j - k) (by omega)
  simp only [e2] at hg
  rw [e, List.take_add_one, hg]
  rfl

/-- A fault is told: nothing stands. -/
theorem qd_bad {mm base : Nat} {F : Nat → Prop} {R Z : Nat} {s : ByteArray} {j : Int} {pv pv' : Value} {p : PlanL} {E0 : Int} {w w3 : World} (ho : Only (R :: own pv) w w3) (hC : Cells w3 R [.string s, .int .i64 j, pv', .int .i64 E0]) (hZ : Cells w3 Z [.slice none 0 0, .slice none 0 0, .int .i64 0, .int .i64 0])
    (hz : w.heap.size ≤ Z) (hRZ : R ≠ Z) (W8 : World) (hW8 : W8 = ((((w3.setCell ⟨R, 3, none⟩ (.int .i64 2)).setCell ⟨Z, 0, none⟩ (.slice none 0 0)).setCell ⟨Z, 1, none⟩ (.slice none 0 0)).setCell ⟨Z, 2, none⟩ (.int .i64 0)).setCell ⟨Z, 3, none⟩ (.int .i64 0)) :
    Cells W8 Z [.slice none 0 0, .slice none 0 0, .int .i64 0, .int .i64 0] ∧ QdPost mm base F R s pv p w none (.returned (.agg #[.slice none 0 0, .slice none 0 0, .int .i64 0, .int .i64 0])) W8 := by
  have h1 : Only [R] w3 (w3.setCell ⟨R, 3, none⟩ (.int .i64 2)) := (Only.refl [R] w3).setCell (by simp) _
  have hC1 := hC.set 3 (.int .i64 2)
  have hZ1 := (hZ.only h1 (by simp; exact fun e => hRZ e.symm)).set4 (x := .slice none 0 0) (y := .slice none 0 0) (u := .int .i64 0) (v := .int .i64 0)
  obtain ⟨W4, hW4⟩ : ∃ W4, w3.setCell ⟨R, 3, none⟩ (.int .i64 2) = W4 := ⟨_, rfl⟩
  rw [hW4] at h1 hC1 hZ1 hW8
  have h2 : Only [Z] W4 W8 := by
    rw [hW8]
    exact ((((Only.refl [Z] W4).setCell (by simp) _).setCell (by simp) _).setCell (by simp) _).setCell (by simp) _
  rw [← hW8] at hZ1
  refine ⟨hZ1, none, 0, 0, none, 0, 0, 0, 0, rfl, lost_zero mm ?_ (hC1.only h2 (by simp; exact hRZ))⟩
  exact (ho.trans h1 (by simp)).trans h2 (fun x hx hlt => by simp at hx; omega)

set_option maxRecDepth 100000 in
set_option maxHeartbeats 8000000 in
theorem ref_number (base R : Nat) (s : ByteArray) (hs : s.size ≤ 200) (k : Nat) (hb : isC 40 (rest s k) = false)
    (F : Nat → Prop) (pv : Value) (p : PlanL) (w : World) (h : QdAt w base F R s k pv p) :
    Calls Tryd.prog 67 #[.pointer (some ⟨R, 0, none⟩)] w (QdPost 0 base F R s pv p w (qNum (rest s k))) := by
  have hk := h.hk
  have hlen := h.len
  have hR := h.b2
  have HR := Lib.hid h
  obtain ⟨hC, hP, _, _, _, _, _, _⟩ := h
  obtain ⟨W0, hW0⟩ : ∃ W0, w.alloc (.cells #[.slice none 0 0, .slice none 0 0, .int .i64 0, .int .i64 0] 64) = W0 := ⟨_, rfl⟩
  have ho0 : Only [] w W0 := by rw [← hW0]; exact (Only.refl [] w).alloc _
  have hsz0 : W0.heap.size = w.heap.size + 1 := by rw [← hW0]; simp
  have hC0 : Cells W0 R [.string s, .int .i64 k, pv, .int .i64 0] := hC.only ho0 (by simp)
  have hZ0 : Cells W0 w.heap.size [.slice none 0 0, .slice none 0 0, .int .i64 0, .int .i64 0] := by
    have := Cells.new w #[.slice none 0 0, .slice none 0 0, .int .i64 0, .int .i64 0] 64
    rw [hW0] at this; exact this
  have hRl := hC.lt
  have his := ref_next R s k pv 40 40 rfl W0 hC0 false hb
  have HP := Lib.hid (hP.same ho0)
  have HZ := Lib.hid hZ0
  have HO := Lib.hid ho0
  have HW := Lib.hid hW0
  have HC0 := Lib.hid hC0
  clear hC hP ho0 hW0 hC0 hZ0 hb
  go_enter Tryd.func67, Tryd.ntmps67
  go_wp2_with fail
  rw [HW.out]
  refine his.mono ?_
  rintro e w1 ⟨rfl, n1, hw1⟩
  have ho1 : Only [] W0 w1 := by rw [hw1]; exact (Only.refl [] W0).drewN n1
  have hs1 : w1.heap.size = W0.heap.size := by rw [hw1]; rfl
  have hC1 := HC0.out.only ho1 (by simp)
  have HZ1 := Lib.hid (HZ.out.only ho1 (by simp))
  have HP1 := Lib.hid (HP.out.same ho1)
  have HO1 := Lib.hid (HO.out.trans ho1 (by simp))
  have c1 := hC1.cell 1 _ rfl
  have HC1 := Lib.hid hC1
  clear his hw1 ho1 hC1
  go_wp2_with fail
  go_loopw [6] (fun vn wr => ∃ j : Nat, k ≤ j ∧ j ≤ s.size ∧ vn = .int .i64 (satV ((rest s k).take (j - k)) : Int) ∧ ((rest s k).take (j - k)).all isDig = true ∧ Cells wr R [.string s, .int .i64 j, pv, .int .i64 0] ∧ Only [R] w1 wr) (fun _ wr => s.size - (match wr.cell? ⟨R, 1, none⟩ with | some v => (intOf v).toNat | none => 0))
  case atStart => exact ⟨k, Nat.le_refl _, hk, by simp [satV], by simp, HC1.out, Only.refl _ _⟩
  case round =>
    obtain ⟨wo, rfl⟩ : ∃ wo : World, wo = wr := ⟨_, rfl⟩
    obtain ⟨j, hkj, hj, rfl, hall, hC, ho⟩ := hrel
    have c0 := hC.cell 0 _ rfl
    have c1 := hC.cell 1 _ rfl
    have c3 := hC.cell 3 _ rfl
    have f1 := hC.free 1 _ rfl
    by_cases hgo : j < s.size ∧ isDig (s[j]?.getD 0) = true
    · obtain ⟨hlt, hdg⟩ := hgo
      have hsj : s[j]?.getD 0 = s[j] := by simp [hlt]
      rw [hsj] at hdg
      have hall2 := digs_step s k j hkj hlt hall hdg
      have hsat := sat_step ((rest s k).take (j - k)) s[j]
      rw [← digs_take s k j hkj hlt] at hsat
      have hsb := sat_bound _ hall
      rw [isDig_iff, Bool.and_eq_true] at hdg
      obtain ⟨d1, d2⟩ := hdg
      have hd : decide (j < s.size) = true := by simpa using hlt
      have HA := Lib.hid hall2
      have HCo := Lib.hid hC
      have HOo := Lib.hid ho
      obtain ⟨n, hn⟩ : ∃ n, satV ((rest s k).take (j - k)) = n := ⟨_, rfl⟩
      rw [hn] at hsat hsb ⊢
      clear hall hall2 hsj hC ho hn
      by_cases hn1 : n < 1000
      · rw [if_pos hn1] at hsat
        have hd1 : decide (n < 1000) = true := by simpa using hn1
        have hd1' : decide ((n : Int) < 1000) = true := by simp; omega
        have hsat' : Hid ((satV ((rest s k).take (j + 1 - k)) : Int) = (n : Int) * 10 + (s[j].toNat : Int) - 48) := by
          show _ = _
          rw [hsat]
          simp at d1
          omega
        have hc1 : (48 : Int) ≤ (s[j].toNat : Int) := by simpa using d1
        have hc2 : (s[j].toNat : Int) ≤ 57 := by simpa using d2
        clear hsat
        go_wp2_with fail
        go_quiet (fail)
        go_wp2_with fail
        obtain ⟨wq, hwq⟩ : ∃ wq, wo.drewN nq = wq := ⟨_, rfl⟩
        have hC2 : Cells wq R [.string s, .int .i64 j, pv, .int .i64 0] := by rw [← hwq]; exact HCo.out.drewN nq
        have hO2 : Only [R] w1 wq := by rw [← hwq]; exact HOo.out.drewN nq
        have c0 := hC2.cell 0 _ rfl
        have c1 := hC2.cell 1 _ rfl
        have f1 := hC2.free 1 _ rfl
        have HC2 := Lib.hid hC2
        have HO2 := Lib.hid hO2
        rw [hwq]
        clear hwq hC2 hO2
        go_quiet (fail)
        have hCn := (HC2.out.drewN nq).set 1 (.int .i64 ((j : Int) + 1))
        have hOn : Only [R] w1 ((wq.drewN nq).setCell ⟨R, 1, none⟩ (.int .i64 ((j : Int) + 1))) := (HO2.out.drewN nq).setCell (by simp) _
        have ej : ((j + 1 : Nat) : Int) = (j : Int) + 1 := by omega
        have cn := hCn.cell 1 _ rfl
        have HN := Lib.hid (And.intro hCn (And.intro hOn (And.intro ej cn)))
        have C1 := Lib.hid (HCo.out.cell 1 _ rfl)
        clear hCn hOn ej cn
        go_wp2_with fail
        refine ⟨⟨j + 1, by omega, by omega, by rw [hsat'.out], HA.out, by rw [HN.out.2.2.1]; exact HN.out.1, HN.out.2.1⟩, ?_⟩
        have h1 := HN.out.2.2.2
        rw [h1, C1.out]
        simp only [intOf]
        omega
      · rw [if_neg hn1] at hsat
        have hd1 : decide (n < 1000) = false := by simpa using hn1
        have hd1' : decide ((n : Int) < 1000) = false := by simp; omega
        have hsat' : Hid ((satV ((rest s k).take (j + 1 - k)) : Int) = (n : Int)) := by
          show _ = _
          rw [hsat]
        have hge : (1000 : Int) ≤ (n : Int) := by omega
        clear hsat hn1
        go_wp2_with fail
        go_quiet (fail)
        have hCn := (HCo.out.drewN nq).set 1 (.int .i64 ((j : Int) + 1))
        have hOn : Only [R] w1 ((wo.drewN nq).setCell ⟨R, 1, none⟩ (.int .i64 ((j : Int) + 1))) := (HOo.out.drewN nq).setCell (by simp) _
        have ej : ((j + 1 : Nat) : Int) = (j : Int) + 1 := by omega
        have cn := hCn.cell 1 _ rfl
        have HN := Lib.hid (And.intro hCn (And.intro hOn (And.intro ej cn)))
        have C1 := Lib.hid (HCo.out.cell 1 _ rfl)
        clear hCn hOn ej cn
        go_wp2_with fail
        refine ⟨⟨j + 1, by omega, by omega, by rw [hsat'.out], HA.out, by rw [HN.out.2.2.1]; exact HN.out.1, HN.out.2.1⟩, ?_⟩
        have h1 := HN.out.2.2.2
        rw [h1, C1.out]
        simp only [intOf]
        omega
    · have hend : j = s.size ∨ ∃ h : j < s.size, isDig s[j] = false := by
        by_cases hlt : j < s.size
        · right
          refine ⟨hlt, ?_⟩
          have hsj : s[j]?.getD 0 = s[j] := by simp [hlt]
          rw [hsj] at hgo
          by_cases e : isDig s[j] = true
          · exact absurd ⟨hlt, e⟩ hgo
          · simpa using e
        · left; omega
      obtain ⟨ht, hdw⟩ := digs_end s k j hkj hj hall hend
      have hsb := sat_bound _ hall
      have HT := Lib.hid (And.intro ht hdw)
      have HCo := Lib.hid hC
      have HOo := Lib.hid ho
      have hcase : Hid (j = s.size) ∨ (∃ h : j < s.size, (s[j].toNat : Int) < 48) ∨ (∃ h : j < s.size, (48 : Int) ≤ s[j].toNat ∧ (57 : Int) < s[j].toNat) := by
        rcases hend with h | ⟨h, hd⟩
        · exact .inl h
        · right
          rw [isDig_iff] at hd
          by_cases h48 : (s[j].toNat : Int) < 48
          · exact .inl ⟨h, h48⟩
          · right
            refine ⟨h, by omega, ?_⟩
            by_cases h57 : (s[j].toNat : Int) ≤ 57
            · have e1 : (48 : Int) ≤ (s[j].toNat : Int) := by omega
              simp only [e1, h57, decide_true, Bool.and_self] at hd
              cases hd
            · omega
      obtain ⟨n, hn⟩ : ∃ n, satV ((rest s k).take (j - k)) = n := ⟨_, rfl⟩
      rw [hn] at hsb ⊢
      have HNV := Lib.hid hn
      clear hend hgo ht hdw hC ho hall hn
      go_upto_region 14 with (fail)
      go_cut [81] (fun v wx => ∃ n, v = .bool false ∧ wx = wo.drewN n)
      case first =>
        as_aux_lemma =>
          rcases hcase with hx | ⟨hlt, hx⟩ | ⟨hlt, hx, hy⟩
          · have hd : decide (j < s.size) = false := by have := hx.out; simp; omega
            go_quiet (fail)
            go_wp2
            go_meet
            exact ⟨nq, rfl, rfl⟩
          · have hd : decide (j < s.size) = true := by simpa using hlt
            have hd2 : decide ((48 : Int) ≤ (s[j].toNat : Int)) = false := by simp; omega
            go_quiet (fail)
            go_wp2
            go_meet
            exact ⟨nq, rfl, rfl⟩
          · have hd : decide (j < s.size) = true := by simpa using hlt
            have hd2 : decide ((48 : Int) ≤ (s[j].toNat : Int)) = true := by simp; omega
            have hd3 : decide ((s[j].toNat : Int) ≤ (57 : Int)) = false := by simp; omega
            go_quiet (fail)
            go_wp2
            go_meet
            exact ⟨nq, rfl, rfl⟩
      case rest =>
      obtain ⟨nq, rfl, hwn⟩ := hcut
      clear hcase c0 c1 c3 f1
      have hCc : Cells wc R [.string s, .int .i64 j, pv, .int .i64 0] := by rw [hwn]; exact HCo.out.drewN nq
      have hoc : Only [R] w1 wc := by rw [hwn]; exact HOo.out.drewN nq
      have c0 := hCc.cell 0 _ rfl
      have c1 := hCc.cell 1 _ rfl
      have c2 := hCc.cell 2 _ rfl
      have c3 := hCc.cell 3 _ rfl
      have f2 := hCc.free 2 _ rfl
      have f3 := hCc.free 3 _ rfl
      have HCc := Lib.hid hCc
      have HOc := Lib.hid hoc
      clear hwn hCc hoc
      have hRZ : R ≠ w.heap.size := by omega
      have hZc : Cells wc w.heap.size [.slice none 0 0, .slice none 0 0, .int .i64 0, .int .i64 0] := HZ1.out.only HOc.out (by simp; omega)
      have hP5 : Hid (OwnPlanN wc base F pv p) := HP1.out.only HOc.out (fun x hx hx2 => HR.out.n1 (by simp at hx2; subst hx2; exact hx)) (by intro x hx hx2; simp at hx2; subst hx2; exact HR.out.n2 hx)
      have hoW : Hid (Only (R :: own pv) w wc) := (HO1.out.mono (by simp)).trans HOc.out (by simp)
      by_cases hbad : j = k ∨ (rest s k).head? = some 48
      · have hnum : qNum (rest s k) = none := by
          unfold qNum
          rw [if_pos]
          rcases hbad with e | e
          · rw [HT.out.1, e]; simp
          · simp [e]
        have HNUM := Lib.hid hnum
        have hZq := hZc.only ((Only.refl [R] wc).setCell (p := ⟨R, 3, none⟩) (by simp) (.int .i64 2)) (by simp; omega)
        have z0 := hZq.cell 0 _ rfl
        have z1 := hZq.cell 1 _ rfl
        have z2 := hZq.cell 2 _ rfl
        have z3 := hZq.cell 3 _ rfl
        have y0 := hZq.free 0 _ rfl
        have y1 := hZq.free 1 _ rfl
        have y2 := hZq.free 2 _ rfl
        have y3 := hZq.free 3 _ rfl
        have HB := Lib.hid (fun W8 hW8 => qd_bad (mm := 0) (base := base) (F := F) (p := p) hoW.out HCc.out hZc (Nat.le_refl _) hRZ W8 hW8)
        clear hnum hZc hZq
        by_cases hjk : j = k
        · subst hjk
          clear hbad
          go_wp2_with fail
          have hend := HB.out _ rfl
          rw [HNUM.out]
          exact bodyPost_ret (results_cell1' rfl _ _ _ _ rfl (load_Cloth _ _ _ _ hend.1)) rfl hend.2
        · have h48 : (rest s k).head? = some 48 := by
            rcases hbad with e | e
            · exact absurd e hjk
            · exact e
          have hkl : k < s.size := by omega
          have hsk : (s[k].toNat : Int) = 48 := by
            rw [rest_cons s k hkl] at h48
            simp only [List.head?_cons, Option.some.injEq] at h48
            rw [h48]; rfl
          have hne : ((j : Int) == (k : Int)) = false := by simp; omega
          have heq : ((s[k].toNat : Int) == 48) = true := by rw [hsk]; rfl
          clear hbad h48 hsk
          go_wp2_with fail
          have hend := HB.out _ rfl
          rw [HNUM.out]
          exact bodyPost_ret (results_cell1' rfl _ _ _ _ rfl (load_Cloth _ _ _ _ hend.1)) rfl hend.2
      · have hjk : k < j := by
          rcases Nat.lt_or_ge k j with h | h
          · exact h
          · exact absurd (.inl (by omega)) hbad
        have hkl : k < s.size := by omega
        have h48 : s[k] ≠ 48 := fun e => hbad (.inr (by rw [rest_cons s k hkl, e]; rfl))
        have hne : ((j : Int) == (k : Int)) = false := by simp; omega
        have hne48 : ((s[k].toNat : Int) == 48) = false := by
          have : s[k].toNat ≠ 48 := fun e => h48 (UInt8.toNat_inj.1 (by rw [e]; rfl))
          simp; omega
        obtain ⟨d, hd⟩ : ∃ d, (rest s k).take (j - k) = d := ⟨_, rfl⟩
        have hd0 : d ≠ [] := by
          intro e
          have : ((rest s k).take (j - k)).length = 0 := by rw [hd, e]; rfl
          rw [List.length_take, rest_len] at this
          omega
        have hnum : Hid (qNum (rest s k) = some (.num (n : Int), rest s j)) := by
          show _ = _
          unfold qNum
          rw [HT.out.1, HT.out.2, hd, if_neg, ← HNV.out, hd]
          simp only [Bool.or_eq_true, not_or]
          refine ⟨by simpa using hd0, ?_⟩
          rw [rest_cons s k hkl]
          simpa using h48
        obtain ⟨a, cap, rfl, hcl, hcm⟩ := hP5.out.form
        obtain ⟨m, hm⟩ : ∃ m, p.length = m := ⟨_, rfl⟩
        have HM := Lib.hid hm
        have hfar : Hid (∀ x ∈ own (Value.slice a p.length cap), base ≤ x ∧ x < w.heap.size) := HR.out.plan.far
        have hoPl := hP5.out
        obtain ⟨N, k1, k2, k3, k4, k5⟩ := hoPl
        have K1 := Lib.hid k1
        have KP := Lib.hid (fun (n' : Int) v' w' => OwnPlanN.push (W := wc) (w' := w') (base := base) (F := F) (v' := v') n' k2 k3 k4 k5)
        have hRn : Hid (R ∉ own (Value.slice a p.length cap)) := HR.out.n1
        have hsz1 := HO1.out.size
        have hszc := HOc.out.size
        have hbw : base ≤ wc.heap.size := by omega
        rw [hm] at c2 hlen
        have hrange : ∀ n' : Int, Hid (RowAt (wc.alloc (.cells #[.int .i64 n', .slice none 0 0] 39)) (.slice (some ⟨wc.heap.size, 0, none⟩) 1 1) 1 2 [.int .i64 n', .slice none 0 0]) := fun n' =>
          RowAt.one (cs := #[.int .i64 n', .slice none 0 0]) (heap_alloc_new wc (.cells #[.int .i64 n', .slice none 0 0] 39)) rfl (by intro y hy; simp at hy; rcases hy with rfl | rfl <;> rfl)
        have HRG := Lib.hid hrange
        rw [hm] at K1 hRn
        have HZ5 := Lib.hid hZc
        have hZn : Hid (w.heap.size ∉ own (Value.slice a m cap)) := by
          show _ ∉ _
          rw [own_any a m p.length cap cap]
          intro hx
          have := (hfar.out _ hx).2
          omega
        clear k1 k2 k3 k4 k5 hbad h48 hrange hd hm hZc hsz1 hszc hd0
        go_wp2_with (at_builtin; refine wpList_append_rows sliceOf_plan rfl (.tmp 128) (.tmp 131) rfl wc base _ _ _ _ 1 _ K1.out (HRG.out (n : Int)).out (by omega) hbw rfl rfl ((Only.refl [] wc).alloc _) ?_; intro v3 w3 hI3 hO3 hK3; have hC3 := HCc.out.only hO3 hRn.out; have e2 := hC3.cell 2 _ rfl; have u2 := hC3.free 2 _ rfl; obtain ⟨a3, cap3, rfl, q1, q2⟩ := Row.form hI3; have hZ3 := HZ5.out.only hO3 (hZn.out); have HI3 := Lib.hid (And.intro hI3 (And.intro hO3 (And.intro hK3 (And.intro hC3 hZ3)))); have hZ7 := Lib.hid ((hZ3.only ((Only.refl [R] w3).setCell (p := ⟨R, 2, none⟩) (by simp) (.slice a3 (m + 1) cap3)) (by simp; omega)).only ((Only.refl [] _).alloc (.cells #[.int .i64 (m : Int)] 3)) (by simp)); have z0 := (hZ7.out.cell 0 _ rfl); have z1 := (hZ7.out.cell 1 _ rfl); have z2 := (hZ7.out.cell 2 _ rfl); have z3 := (hZ7.out.cell 3 _ rfl); have y0 := (hZ7.out.free 0 _ rfl); have y1 := (hZ7.out.free 1 _ rfl); have y2 := (hZ7.out.free 2 _ rfl); have y3 := (hZ7.out.free 3 _ rfl))
        obtain ⟨hI3, hO3, hK3, hC3, hZ3⟩ := HI3.out
        have hP3 := KP.out (n : Int) (.slice a3 (m + 1) cap3) w3 (by rw [HM.out]; exact hI3) (by rw [own_any a _ m _ cap]; exact hO3) (by rw [own_any a _ m _ cap]; exact hK3)
        have hs05 := HOc.out.size
        have hs01 := HO1.out.size
        have hs53 := hO3.size
        have hend := qnum_end (mm := 0) (n : Int) HR.out HM.out (by rw [← HM.out]; exact hC3) hjk hj (hoW.out.trans hO3 (fun y hy _ => by rw [own_any a m p.length cap cap] at hy; simp [hy])) hP3
          (fun y hy => by
            rcases hK3 y hy with h1 | h1
            · left; rw [own_any a p.length m cap cap]; exact h1
            · right; omega) (by omega) hZ3 _ rfl
        rw [hnum.out]
        exact bodyPost_ret (results_cell1' rfl _ _ _ _ rfl (load_Cloth _ _ _ _ hend.1)) rfl hend.2

end Go.Proofs.YtocpmncedlenbaaDoor
