/-
  Contract of yardref2.List, of a right plan and an order of all its tasks.
-/
import Derived.Test.YtloojhnhialenaaGreatDoorP28ListTells
import Derived.Test.YtloojhnhialenaaGreatDoorP6ListTells
import Derived.Test.YtloojhnhialenaaGreatDoorP21ListTells
namespace Go.Proofs.YtloojhnhialenaaGreatDoor
open Go.RowKit Go.Deep

theorem made_three (w : World) (a b : Nat) :
    let w3 := ((w.alloc (.cells (madeCells #[.bool false] a) 4)).alloc (.cells (madeCells #[.bool false] b) 4)).alloc (.cells (madeCells #[.bool false] b) 4)
    Bools w3 w.heap.size a (fun _ => false) ∧ Bools w3 (w.heap.size + 1) b (fun _ => false) ∧ Bools w3 (w.heap.size + 1 + 1) b (fun _ => false) ∧ Only [] w w3 ∧ w3.heap.size = w.heap.size + 1 + 1 + 1 := by
  intro w3
  have h1 := made_bools w a
  have h2 := made_bools (w.alloc (.cells (madeCells #[.bool false] a) 4)) b
  have h3 := made_bools ((w.alloc (.cells (madeCells #[.bool false] a) 4)).alloc (.cells (madeCells #[.bool false] b) 4)) b
  have o1 := (Only.refl [] w).alloc (.cells (madeCells #[.bool false] a) 4)
  have o2 := (Only.refl [] (w.alloc (.cells (madeCells #[.bool false] a) 4))).alloc (.cells (madeCells #[.bool false] b) 4)
  have o3 := (Only.refl [] ((w.alloc (.cells (madeCells #[.bool false] a) 4)).alloc (.cells (madeCells #[.bool false] b) 4))).alloc (.cells (madeCells #[.bool false] b) 4)
  simp only [World.size_alloc] at h2 h3
  exact ⟨(h1.only o2 (by simp)).only o3 (by simp), h2.only o3 (by simp), h3, (o1.trans o2 (by simp)).trans o3 (by simp), by simp [w3]⟩

set_option maxRecDepth 100000 in
theorem ref_free2 (v : Value) (p : PlanL) (i A n : Nat) (D : Nat → Bool) (w : World) (h : InPlan w v p) (hn : NeedsOk p) (hB : Bools w A n D) (hi : i < p.length) (hl : p.length = n) :
    Calls Tryz.prog 75 #[v, .int .i64 i, .slice (some ⟨A, 0, none⟩) n n] w fun e w' => e = .returned (.bool (freeB p D i)) ∧ w' = w := by
  have hf := ref_Free v p i A n D w h hn hB hi hl
  obtain ⟨b, hb⟩ : ∃ b, freeB p D i = b := ⟨_, rfl⟩
  rw [hb] at hf ⊢
  clear h hn hB hi hl hb
  go_enter Tryz.func75, Tryz.ntmps75
  go_wp2_with fail
  refine hf.mono ?_
  rintro e w1 ⟨rfl, rfl⟩
  clear hf
  go_wp2_with fail
  go_ret
  exact ⟨rfl, rfl⟩

theorem Bools.congrB {w : World} {A N : Nat} {f g : Nat → Bool} (h : Bools w A N f) (e : ∀ i, i < N → f i = g i) : Bools w A N g := fun i hi => by
  rw [← e i hi]; exact h i hi

set_option maxRecDepth 100000 in
set_option maxHeartbeats 8000000 in
theorem ref_List (v u : Value) (p : PlanL) (k : Nat) (order : List Int) (w : World) (h : InPlan w v p) (hv : Reads w u order) (hok : PlanOk p) (h1 : 1 ≤ k) (h6 : k ≤ 6) (hE : EachOf p.length order) :
    Calls Tryz.prog 27 #[v, .int .i64 (k : Int), u] w fun e w' => ∃ v' ss, e = .returned v' ∧ LEnd p k order ss ∧ OwnStays w' w.heap.size v' ss ∧ Only [] w w' := by
  obtain ⟨hOrd, hol⟩ := hE.ok
  have h30 := hok.len
  have HP := Lib.hid h
  have HO := Lib.hid hok
  have HOrd := Lib.hid hOrd
  have HNE := Lib.hid hok.needsOk
  have HWK := Lib.hid hok.work
  obtain ⟨pa, cap, rfl, hc1, hc2, _⟩ := h.task
  obtain ⟨ua, uc, rfl, hcu⟩ := hv.opt
  obtain ⟨n, hn⟩ : ∃ n, p.length = n := ⟨_, rfl⟩
  have HL := Lib.hid hn
  rw [hn] at hc1 HP h30 hol HWK ⊢
  rw [hol] at hcu ⊢
  have HOL := Lib.hid hol
  have HCU := Lib.hid hcu
  have hmk := make_bools k (by omega)
  have hmn := make_bools n (by omega)
  clear h hv hok hE hOrd hn hc2 hol hcu
  go_enter Tryz.func27, Tryz.ntmps27
  go_wp2_with fail
  go_loopw [7, 8, 9, 10, 11, 12, 13, 14, 15] (fun vo vt _ _ _ _ _ _ _ wr => ∃ (T T' : Nat) (s : LS), vt = .int .i64 (T : Int) ∧ T ≤ 601 ∧ OwnStays wr w.heap.size vo s.out ∧ Only [] w wr ∧ LAt p k order T' s ∧ (T' = T ∨ s.out.length = n)) (fun _ vt _ _ _ _ _ _ _ _ => 602 - (intOf vt).toNat)
  case atStart => exact ⟨0, 0, lStart, rfl, by omega, OwnStays.nil _ _, Only.refl _ _, .start, .inl rfl⟩
  case round =>
    obtain ⟨wx, rfl⟩ : ∃ wx : World, wx = wr := ⟨_, rfl⟩
    obtain ⟨T, T', s, rfl, hT, hS, ho, hat, hTT⟩ := hrel
    obtain ⟨va, vc, rfl, hvc1, hvc2, _⟩ := Row.form hS
    have hin := hat.inv HO.out HOrd.out
    have hln : s.out.length ≤ n := by have := hin.len; rw [HL.out] at this; exact this
    have HS := Lib.hid hS
    have HAT := Lib.hid hat
    obtain ⟨m, hm⟩ : ∃ m, s.out.length = m := ⟨_, rfl⟩
    have HM := Lib.hid hm
    rw [hm] at hvc1 hln hTT HS ⊢
    by_cases hmn2 : m < n
    · obtain rfl : T' = T := by omega
      have hT6 : T' ≤ 600 := hin.time HO.out h1
      have HX := Lib.hid (show LAt p k order T' s ∧ Only [] w wx ∧ OwnStays wx w.heap.size (.slice va m vc) s.out from ⟨hat, ho, HS.out⟩)
      clear hS hat hin hm ho HS HAT
      have hd6 : decide ((T' : Int) ≤ 600) = true := by simp; omega
      have hd7 : decide ((m : Int) < (n : Int)) = true := by simp; omega
      go_wp2_with fail
      go_loopw [7, 9, 10, 11, 12, 13, 14, 15] (fun vo _ _ _ _ _ _ _ wr => ∃ (s : LS), OwnStays wr w.heap.size vo s.out ∧ Only [] w wr ∧ LAt p k order T' s) (fun vo _ _ _ _ _ _ _ _ => n - lenOfV vo)
      case atStart => exact ⟨s, HX.out.2.2, HX.out.2.1, HX.out.1⟩
      case round =>
        clear HX HM hmn2 hln hvc1 hvc2 hd6 hd7
        obtain ⟨wo, rfl⟩ : ∃ wo : World, wo = wr := ⟨_, rfl⟩
        obtain ⟨s, hS, ho, hat⟩ := hrel
        have hin := hat.inv HO.out HOrd.out
        have hln : s.out.length ≤ n := by have := hin.len; rw [HL.out] at this; exact this
        obtain ⟨va, vc, rfl, hvc1, hvc2, _⟩ := Row.form hS
        obtain ⟨m, hm⟩ : ∃ m, s.out.length = m := ⟨_, rfl⟩
        have HM := Lib.hid hm
        have hst := (OwnStays.at hS).opt
        obtain ⟨sa, sc, he, hcs⟩ := hst
        rw [hm] at hvc1 hln he hcs ⊢
        injection he with he1 _ he3
        subst he1
        have HIN := Lib.hid hin
        have HAT := Lib.hid hat
        have HS : Hid (OwnStays wo w.heap.size (.slice va m vc) s.out) := by show OwnStays _ _ _ _; rw [← hm]; exact hS
        have HOO := Lib.hid ho
        have hm3 := made_three wo k n
        have HCS := Lib.hid hcs
        clear hS hat hin hm he3 hcs
        go_upto_region 8 with (fail)
        obtain ⟨wa, hwa⟩ : ∃ wa, ((wo.alloc (.cells (madeCells #[.bool false] k) 4)).alloc (.cells (madeCells #[.bool false] n) 4)).alloc (.cells (madeCells #[.bool false] n) 4) = wa := ⟨_, rfl⟩
        simp only [hwa] at hm3
        rw [hwa]
        obtain ⟨hB, hD, hK, hoa, hsz⟩ := hm3
        clear hwa
        obtain ⟨B, hBe⟩ : ∃ B, wo.heap.size = B := ⟨_, rfl⟩
        have hB0 : wo.heap.size ≤ B := by omega
        rw [hBe] at hB hD hK hsz ⊢
        clear hBe
        obtain ⟨D, hDe⟩ : ∃ D, B + 1 = D := ⟨_, rfl⟩
        have hB1 : B < D := by omega
        rw [hDe] at hD hK hsz ⊢
        clear hDe
        obtain ⟨K, hKe⟩ : ∃ K, D + 1 = K := ⟨_, rfl⟩
        have hD1 : D < K := by omega
        rw [hKe] at hK hsz ⊢
        clear hKe
        have hK1 : K < wa.heap.size := by omega
        have HOA : Hid (Only [] wo wa) := hoa
        clear hsz hoa
        go_wp2_with fail
        go_loopw [12] (fun vi wr => ∃ i : Nat, i ≤ m ∧ vi = .int .i64 i ∧ Bools wr B k (busyF (s.out.take i) (T' : Int)) ∧ Bools wr D n (doneF (s.out.take i) (T' : Int)) ∧ Bools wr K n (tookF (s.out.take i)) ∧ Only [B, D, K] wa wr) (fun vi _ => m - (intOf vi).toNat)
        case atStart => exact ⟨0, Nat.zero_le _, rfl, hB, hD, hK, Only.refl _ _⟩
        case round =>
          clear hB hD hK
          obtain ⟨wy, rfl⟩ : ∃ wy : World, wy = wr := ⟨_, rfl⟩
          obtain ⟨i, hi, rfl, hB, hD, hK, hoy⟩ := hrel
          have hoo : Hid (Only [] wo wy) := HOA.out.trans hoy (fun x hx hl => by simp at hx; omega)
          by_cases him : i < m
          · obtain ⟨sb, so, rfl, k0, k1, k2, k3⟩ := HCS.out i him
            have c0 := (hoo.out.cell (p := ⟨sb, _, none⟩) (cell_lt k0) (by simp)).trans k0
            have c1 := (hoo.out.cell (p := ⟨sb, _, none⟩) (cell_lt k1) (by simp)).trans k1
            have c3 := (hoo.out.cell (p := ⟨sb, _, none⟩) (cell_lt k3) (by simp)).trans k3
            have hsb : sb < wo.heap.size := cell_lt k0
            have hmem := HIN.out.mem (stAt s.out i) (stAt_mem (by rw [HM.out]; exact him))
            have HTK := Lib.hid (take_st s.out i (by rw [HM.out]; exact him))
            obtain ⟨q1, q2, q3, q4, _⟩ := hmem
            rw [HL.out] at q4
            obtain ⟨c9, hc9⟩ : ∃ c, stAt s.out i = c := ⟨_, rfl⟩
            rw [hc9] at c0 c1 c3 q1 q2 q3 q4 HTK
            clear hc9 k0 k1 k2 k3
            obtain ⟨ch, ct, cf, cl⟩ := c9
            simp only at c0 c1 c3 q1 q2 q3 q4
            obtain ⟨x, rfl⟩ := Int.eq_ofNat_of_zero_le q1
            obtain ⟨y, rfl⟩ := Int.eq_ofNat_of_zero_le q3
            have hxk : x < k := by omega
            have hyn : y < n := by omega
            have g1 := (hB x hxk).1
            have g2 := (hB x hxk).2
            have g3 := (hD y hyn).1
            have g4 := (hD y hyn).2
            have g5 := (hK y hyn).1
            have g6 := (hK y hyn).2
            have hKset := (hK.set y true).congrB (g := tookF (s.out.take (i + 1))) (fun j _ => by rw [HTK.out]; exact tookF_set rfl)
            have hs1 : Only [B, D, K] wy (wy.setCell ⟨K, y, none⟩ (.bool true)) := (Only.refl _ _).setCell (by simp) _
            have hsK : Only [K] wy (wy.setCell ⟨K, y, none⟩ (.bool true)) := (Only.refl _ _).setCell (by simp) _
            have hsbK : sb ∉ [K] := by simp; omega
            have d0 := (hsK.cell (p := ⟨sb, _, none⟩) (cell_lt c0) hsbK).trans c0
            have d1 := (hsK.cell (p := ⟨sb, _, none⟩) (cell_lt c1) hsbK).trans c1
            have d3 := (hsK.cell (p := ⟨sb, _, none⟩) (cell_lt c3) hsbK).trans c3
            by_cases hcl : (T' : Int) < cl
            · have gB := (hB.only hsK (by simp; omega)) x hxk
              obtain ⟨gB1, gB2⟩ := gB
              have hB2 := ((hB.only hsK (by simp; omega)).set x true).congrB (g := busyF (s.out.take (i + 1)) (T' : Int)) (fun j _ => by rw [HTK.out]; exact busyF_set rfl hcl)
              have hsB : Only [B] (wy.setCell ⟨K, y, none⟩ (.bool true)) ((wy.setCell ⟨K, y, none⟩ (.bool true)).setCell ⟨B, x, none⟩ (.bool true)) := (Only.refl _ _).setCell (by simp) _
              have hB2 := Lib.hid hB2
              have hK2 := Lib.hid (hKset.only hsB (by simp; omega))
              have hD2 := Lib.hid (((hD.only hsK (by simp; omega)).only hsB (by simp; omega)).congrB (g := doneF (s.out.take (i + 1)) (T' : Int)) (fun j _ => by rw [HTK.out]; exact doneF_keep hcl))
              have hoy2 := Lib.hid ((hoy.trans hs1 (by simp)).trans (hsB.mono (T := [B, D, K]) (by simp)) (by simp))
              clear hB hD hK hKset hs1 hsK hsB hoy g1 g2 g3 g4 hsb hsbK
              go_wp2_with fail
              go_roundw
              case rel => exact ⟨i + 1, by omega, by go_num, hB2.out, hD2.out, hK2.out, hoy2.out⟩
              case measure => (simp [intOf]; try omega)
            · have hcl2 : cl ≤ (T' : Int) := by omega
              have gD := (hD.only hsK (by simp; omega)) y hyn
              obtain ⟨gD1, gD2⟩ := gD
              have hD2 := ((hD.only hsK (by simp; omega)).set y true).congrB (g := doneF (s.out.take (i + 1)) (T' : Int)) (fun j _ => by rw [HTK.out]; exact doneF_set rfl hcl2)
              have hsD : Only [D] (wy.setCell ⟨K, y, none⟩ (.bool true)) ((wy.setCell ⟨K, y, none⟩ (.bool true)).setCell ⟨D, y, none⟩ (.bool true)) := (Only.refl _ _).setCell (by simp) _
              have hD2 := Lib.hid hD2
              have hK2 := Lib.hid (hKset.only hsD (by simp; omega))
              have hB2 := Lib.hid (((hB.only hsK (by simp; omega)).only hsD (by simp; omega)).congrB (g := busyF (s.out.take (i + 1)) (T' : Int)) (fun j _ => by rw [HTK.out]; exact busyF_keep hcl2))
              have hoy2 := Lib.hid ((hoy.trans hs1 (by simp)).trans (hsD.mono (T := [B, D, K]) (by simp)) (by simp))
              clear hB hD hK hKset hs1 hsK hsD hoy hcl g1 g2 g3 g4 hsb hsbK
              go_wp2_with fail
              go_roundw
              case rel => exact ⟨i + 1, by omega, by go_num, hB2.out, hD2.out, hK2.out, hoy2.out⟩
              case measure => (simp [intOf]; try omega)
          · obtain rfl : m = i := by omega
            rw [show s.out.take m = s.out from List.take_of_length_le (by rw [HM.out]; exact Nat.le_refl _)] at hB hD hK
            have HB := Lib.hid hB
            have HD := Lib.hid hD
            have HK := Lib.hid hK
            have HW : Hid (Only [] w wy) := HOO.out.trans hoo.out (by simp)
            have HSY := Lib.hid (Row.only HS.out hoo.out (by simp))
            clear hB hD hK hoy HOA hB0 hB1 hD1 hK1 HOO HS HCS him hi
            go_wp2_with fail
            go_loopw [13] (fun vh wr => ∃ x : Nat, x ≤ k ∧ vh = .int .i64 x ∧ (∀ q, q < x → busyF s.out (T' : Int) q = true) ∧ wr = wy) (fun vh _ => k - (intOf vh).toNat)
            case atStart => exact ⟨0, Nat.zero_le _, rfl, fun q hq => by omega, rfl⟩
            case round =>
              obtain ⟨x, hx, rfl, hlo, rfl⟩ := hrel
              by_cases hxk : x < k
              · have cb := (HB.out x hxk).1
                obtain ⟨bz, hbz⟩ : ∃ b, busyF s.out (T' : Int) x = b := ⟨_, rfl⟩
                rw [hbz] at cb
                cases bz
                · have HHD := Lib.hid (HIN.out.hand_is hxk hlo hbz)
                  have HBj := HB
                  clear hlo hbz
                  clear HBj
                  obtain ⟨wz, rfl⟩ : ∃ wz : World, wz = wr := ⟨_, rfl⟩
                  go_wp2_with fail
                  go_loopw [14] (fun vj wr => ∃ j : Nat, j ≤ n ∧ vj = .int .i64 j ∧ (∀ q, q < j → (!tookF s.out (nth order q).toNat && freeB p (doneF s.out (T' : Int)) (nth order q).toNat) = false) ∧ wr = wz) (fun vj _ => n - (intOf vj).toNat)
                  case atStart => exact ⟨0, Nat.zero_le _, rfl, fun q hq => by omega, rfl⟩
                  case round =>
                    obtain ⟨j, hj, rfl, hlo, rfl⟩ := hrel
                    by_cases hjn : j < n
                    · obtain ⟨y, hy, hyj⟩ := HOrd.out.mem _ (nth_mem (l := order) (k := j) (by rw [HOL.out]; exact hjn))
                      rw [HL.out] at hy
                      obtain ⟨ob, oo, rfl, ko⟩ := HCU.out j hjn
                      rw [hyj] at ko
                      have co := (HW.out.cell (p := ⟨ob, _, none⟩) (cell_lt ko) (by simp)).trans ko
                      have ck := (HK.out y hy).1
                      clear ko
                      have hfree := ref_free2 (.slice pa n cap) p y D n (doneF s.out (T' : Int)) wr (HP.out.same HW.out) HNE.out HD.out (by rw [HL.out]; exact hy) HL.out
                      have HV : Hid ((!tookF s.out (nth order j).toNat && freeB p (doneF s.out (T' : Int)) (nth order j).toNat) = (!tookF s.out y && freeB p (doneF s.out (T' : Int)) y)) := by
                        show _ = _; rw [hyj, Int.toNat_natCast]
                      obtain ⟨tk, htk⟩ : ∃ b, tookF s.out y = b := ⟨_, rfl⟩
                      rw [htk] at ck HV
                      obtain ⟨fr, hfr⟩ : ∃ b, freeB p (doneF s.out (T' : Int)) y = b := ⟨_, rfl⟩
                      rw [hfr] at hfree HV
                      clear htk hfr
                      have hlo2 : Hid ((!tk && fr) = false → ∀ q, q < j + 1 → (!tookF s.out (nth order q).toNat && freeB p (doneF s.out (T' : Int)) (nth order q).toNat) = false) := fun hb q hq => by
                        by_cases e : q < j
                        · exact hlo q e
                        · rw [show q = j by omega, HV.out]; exact hb
                      have HLO := Lib.hid hlo
                      clear hlo
                      cases tk
                      · go_wp2_with fail
                        refine hfree.mono ?_
                        rintro e w9 ⟨rfl, rfl⟩
                        cases fr
                        · have hr := Lib.hid (hlo2.out rfl)
                          clear hfree
                          go_wp2_with fail
                          go_roundw
                          case rel => exact ⟨j + 1, by omega, by go_num, hr.out, by first | rfl | trivial⟩
                          case measure => (simp [intOf]; try omega)
                        · have hti := Lib.hid (HIN.out.task_is HO.out HOrd.out (x := j) (by rw [HOL.out]; exact hjn) HLO.out (by rw [HV.out]; rfl))
                          clear hfree hlo2 HLO
                          obtain ⟨pb, po, rfl⟩ := HP.out.any y (by rw [HL.out]; exact hy)
                          obtain ⟨na, nc, cw, _, _⟩ := HP.out.at y (by rw [HL.out]; exact hy)
                          have cw := (HW.out.cell (p := ⟨pb, _, none⟩) (cell_lt cw) (by simp)).trans cw
                          have hw := HWK.out y hy
                          have hnext : Hid (LAt p k order T' (lPut p s (T' : Int) x y)) := .give x j y HAT.out HHD.out hti.out hyj
                          obtain ⟨d, hd⟩ : ∃ d, wkOf p y = d := ⟨_, rfl⟩
                          have HDD := Lib.hid hd
                          rw [hd] at cw hw
                          have hsw := HW.out.size
                          have hrow := Cells.new w9 #[.int .i64 (x : Int), .int .i64 (y : Int), .int .i64 (T' : Int), .int .i64 ((T' : Int) + d)] 118
                          have hone : Hid (RowAt (w9.alloc (.cells #[.int .i64 (x : Int), .int .i64 (y : Int), .int .i64 (T' : Int), .int .i64 ((T' : Int) + d)] 118)) (.slice (some ⟨w9.heap.size, 0, none⟩) 1 1) 1 4 [.int .i64 (x : Int), .int .i64 (y : Int), .int .i64 (T' : Int), .int .i64 ((T' : Int) + d)]) :=
                            ⟨rfl, by intro u hu; simp at hu; rcases hu with rfl | rfl | rfl | rfl <;> rfl, .inr ⟨by omega, _, 0, 1, rfl, fun j u hj => by rw [Nat.zero_add]; exact hrow.cell j u hj⟩⟩
                          clear hrow hd HIN HB HD HK HV ck
                          have hl9 := (hnext.out.inv HO.out HOrd.out).len
                          rw [HL.out] at hl9
                          have hl9 : s.out.length + 1 ≤ n := by simpa [lPut] using hl9
                          have hl9 : m + 1 ≤ n := by have e : s.out.length = m := HM.out; omega
                          have hx2 : decide ((j : Int) = (n : Int)) = false := by simp; omega
                          have hx3 : ((x : Int) == (k : Int)) = false := by rw [beq_eq_false_iff_ne]; omega
                          have hx4 : ((j : Int) == (n : Int)) = false := by rw [beq_eq_false_iff_ne]; omega
                          clear hyj
                          go_wp2_with (at_builtin; refine wpList_append_rows sliceOf_stays rfl (.tmp 118) (.tmp 130) rfl w9 w.heap.size _ _ _ _ 1 _ HSY.out hone.out (by omega) hsw rfl rfl ((Only.refl [] w9).alloc _) ?_; intro v3 w3 hI3 hO3 hK3; rw [HM.out] at hI3; obtain ⟨a3, c3, rfl, _⟩ := Row.form hI3)
                          have hnew : Hid (OwnStays w3 w.heap.size (.slice a3 (m + 1) c3) (lPut p s (T' : Int) x y).out) := by
                            show OwnStays _ _ _ _
                            have e9 := flatS_push s.out ⟨(x : Int), (y : Int), (T' : Int), (T' : Int) + d⟩
                            unfold OwnStays lPut
                            rw [HDD.out, List.length_append, List.length_singleton, ← e9, HM.out]; exact hI3
                          have ho3 := Lib.hid (HW.out.trans hO3 (fun q hq hl => by have := (Row.far HSY.out q hq).1; omega))
                          go_roundw
                          case rel => exact ⟨_, hnew.out, ho3.out, hnext.out⟩
                          case measure => (simp [lenOfV]; try omega)
                      · have hr := Lib.hid (hlo2.out rfl)
                        clear hfree
                        go_wp2_with fail
                        go_roundw
                        case rel => exact ⟨j + 1, by omega, by go_num, hr.out, by first | rfl | trivial⟩
                        case measure => (simp [intOf]; try omega)
                    · obtain rfl : j = n := by omega
                      have hno := Lib.hid (HIN.out.task_no HO.out HOrd.out (fun q hq => hlo q (by rw [HOL.out] at hq; exact hq)))
                      clear hlo
                      have hstep : Hid (∃ T9 : Nat, LAt p k order T9 s ∧ (T9 = T' + 1 ∨ s.out.length = j)) := by
                        show ∃ T9 : Nat, _
                        by_cases hl : s.out.length < j
                        · exact ⟨T' + 1, .tick HAT.out (.inr hno.out) (by rw [HL.out]; exact hl), .inl rfl⟩
                        · exact ⟨T', HAT.out, .inr (by have := HM.out; omega)⟩
                      go_wp2_with fail
                      go_roundw
                      case rel =>
                        obtain ⟨T9, e1, e2⟩ := hstep.out
                        exact ⟨T' + 1, T9, s, by go_num, by omega, by first | exact HSY.out | (rw [← HM.out]; exact HSY.out), HW.out, e1, e2⟩
                      case measure => (simp [intOf]; try omega)
                · have hlo2 := Lib.hid (show ∀ q, q < x + 1 → busyF s.out (T' : Int) q = true from fun q hq => by
                    by_cases e : q < x
                    · exact hlo q e
                    · rw [show q = x by omega]; exact hbz)
                  clear hlo hbz
                  go_wp2_with fail
                  go_roundw
                  case rel => exact ⟨x + 1, by omega, by go_num, hlo2.out, by first | rfl | trivial⟩
                  case measure => (simp [intOf]; try omega)
              · obtain rfl : x = k := by omega
                have hnh := Lib.hid (HIN.out.hand_no hlo)
                have HBj := HB
                clear hlo
                clear HBj
                obtain ⟨wz, rfl⟩ : ∃ wz : World, wz = wr := ⟨_, rfl⟩
                go_wp2_with fail
                go_loopw [14] (fun vj wr => ∃ j : Nat, j ≤ n ∧ vj = .int .i64 j ∧ (∀ q, q < j → (!tookF s.out (nth order q).toNat && freeB p (doneF s.out (T' : Int)) (nth order q).toNat) = false) ∧ wr = wz) (fun vj _ => n - (intOf vj).toNat)
                case atStart => exact ⟨0, Nat.zero_le _, rfl, fun q hq => by omega, rfl⟩
                case round =>
                  obtain ⟨j, hj, rfl, hlo, rfl⟩ := hrel
                  by_cases hjn : j < n
                  · obtain ⟨y, hy, hyj⟩ := HOrd.out.mem _ (nth_mem (l := order) (k := j) (by rw [HOL.out]; exact hjn))
                    rw [HL.out] at hy
                    obtain ⟨ob, oo, rfl, ko⟩ := HCU.out j hjn
                    rw [hyj] at ko
                    have co := (HW.out.cell (p := ⟨ob, _, none⟩) (cell_lt ko) (by simp)).trans ko
                    have ck := (HK.out y hy).1
                    clear ko
                    have hfree := ref_free2 (.slice pa n cap) p y D n (doneF s.out (T' : Int)) wr (HP.out.same HW.out) HNE.out HD.out (by rw [HL.out]; exact hy) HL.out
                    have HV : Hid ((!tookF s.out (nth order j).toNat && freeB p (doneF s.out (T' : Int)) (nth order j).toNat) = (!tookF s.out y && freeB p (doneF s.out (T' : Int)) y)) := by
                      show _ = _; rw [hyj, Int.toNat_natCast]
                    obtain ⟨tk, htk⟩ : ∃ b, tookF s.out y = b := ⟨_, rfl⟩
                    rw [htk] at ck HV
                    obtain ⟨fr, hfr⟩ : ∃ b, freeB p (doneF s.out (T' : Int)) y = b := ⟨_, rfl⟩
                    rw [hfr] at hfree HV
                    clear htk hfr
                    have hlo2 : Hid ((!tk && fr) = false → ∀ q, q < j + 1 → (!tookF s.out (nth order q).toNat && freeB p (doneF s.out (T' : Int)) (nth order q).toNat) = false) := fun hb q hq => by
                      by_cases e : q < j
                      · exact hlo q e
                      · rw [show q = j by omega, HV.out]; exact hb
                    have HLO := Lib.hid hlo
                    clear hlo
                    cases tk
                    · go_wp2_with fail
                      refine hfree.mono ?_
                      rintro e w9 ⟨rfl, rfl⟩
                      cases fr
                      · have hr := Lib.hid (hlo2.out rfl)
                        clear hfree
                        go_wp2_with fail
                        go_roundw
                        case rel => exact ⟨j + 1, by omega, by go_num, hr.out, by first | rfl | trivial⟩
                        case measure => (simp [intOf]; try omega)
                      · have hti := Lib.hid (HIN.out.task_is HO.out HOrd.out (x := j) (by rw [HOL.out]; exact hjn) HLO.out (by rw [HV.out]; rfl))
                        clear hfree hlo2 HLO
                        have hstep : Hid (∃ T9 : Nat, LAt p x order T9 s ∧ (T9 = T' + 1 ∨ s.out.length = n)) := by
                          show ∃ T9 : Nat, _
                          by_cases hl : s.out.length < n
                          · exact ⟨T' + 1, .tick HAT.out (.inl hnh.out) (by rw [HL.out]; exact hl), .inl rfl⟩
                          · exact ⟨T', HAT.out, .inr (by have := HM.out; omega)⟩
                        go_wp2_with fail
                        go_roundw
                        case rel =>
                          obtain ⟨T9, e1, e2⟩ := hstep.out
                          exact ⟨T' + 1, T9, s, by go_num, by omega, by first | exact HSY.out | (rw [← HM.out]; exact HSY.out), HW.out, e1, e2⟩
                        case measure => (simp [intOf]; try omega)
                    · have hr := Lib.hid (hlo2.out rfl)
                      clear hfree
                      go_wp2_with fail
                      go_roundw
                      case rel => exact ⟨j + 1, by omega, by go_num, hr.out, by first | rfl | trivial⟩
                      case measure => (simp [intOf]; try omega)
                  · obtain rfl : j = n := by omega
                    have hno := Lib.hid (HIN.out.task_no HO.out HOrd.out (fun q hq => hlo q (by rw [HOL.out] at hq; exact hq)))
                    clear hlo
                    have hstep : Hid (∃ T9 : Nat, LAt p x order T9 s ∧ (T9 = T' + 1 ∨ s.out.length = j)) := by
                      show ∃ T9 : Nat, _
                      by_cases hl : s.out.length < j
                      · exact ⟨T' + 1, .tick HAT.out (.inl hnh.out) (by rw [HL.out]; exact hl), .inl rfl⟩
                      · exact ⟨T', HAT.out, .inr (by have := HM.out; omega)⟩
                    go_wp2_with fail
                    go_roundw
                    case rel =>
                      obtain ⟨T9, e1, e2⟩ := hstep.out
                      exact ⟨T' + 1, T9, s, by go_num, by omega, by first | exact HSY.out | (rw [← HM.out]; exact HSY.out), HW.out, e1, e2⟩
                    case measure => (simp [intOf]; try omega)
    · obtain rfl : m = n := by omega
      have hend : Hid (LEnd p k order s.out) := ⟨T', s, HAT.out, rfl, by rw [HM.out, HL.out]⟩
      have HOO := Lib.hid ho
      have hT9 : T ≤ 600 ∨ T = 601 := by omega
      clear hS hat hin hm ho
      rcases hT9 with hT9 | hT9
      · have hd6 : decide ((T : Int) ≤ 600) = true := by simp; omega
        go_wp2_with fail
        go_ret
        exact ⟨_, rfl, _, hend.out, HS.out, HOO.out⟩
      · have hd6 : decide ((T : Int) ≤ 600) = false := by simp; omega
        go_wp2_with fail
        go_ret
        exact ⟨_, rfl, _, hend.out, HS.out, HOO.out⟩

end Go.Proofs.YtloojhnhialenaaGreatDoor
