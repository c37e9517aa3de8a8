/-
  The statement GangPlays: any steps of any hands with any picks: what is refused, what they do, what each has, what is held, and what is left. No condition but the listed variable's.
-/
import Derived.Test.YtocpmncedlenbaaGreatDoorP1GangPlays
import Derived.Test.YtocpmncedlenbaaGreatDoorP6GangPlays
import Derived.Test.YtocpmncedlenbaaGreatDoorP43GangPlays
import Derived.Test.YtocpmncedlenbaaGreatDoorP44GangPlays
namespace Go.Proofs.YtocpmncedlenbaaGreatDoor.gangPlays
open Go.ChangeShapes Go.WideShapes Go.ChangeAt Go.RowKit
open Go.ChangeMaps (open_string shut_string)
set_option linter.unusedVariables false


theorem gErr_zero {p : PlanL} {m r : Int} (h : gErr p m r = 0) : PlanOk p ∧ 1 ≤ m ∧ m ≤ 6 ∧ 1 ≤ r ∧ r ≤ 16 := by
  unfold gErr at h
  by_cases hp : planFault p = 0
  · rw [if_pos hp] at h
    by_cases hh : 1 ≤ m ∧ m ≤ 6 ∧ 1 ≤ r ∧ r ≤ 16
    · exact ⟨(planOk_iff p).2 hp, hh⟩
    · rw [if_neg hh] at h; cases h
  · rw [if_neg hp] at h; exact absurd h hp
theorem deeds_none (w : World) : DeedsAt w (.slice none 0 0) [] := (OwnDeeds.nil w 0).at

set_option maxRecDepth 100000 in
set_option maxHeartbeats 8000000 in
theorem walk (v0 : Value) (l0 : PlanL) (a1 : Int) (a2 : Int) (v3 : Value) (l3 : List (List Int)) (w : World) (hglob : Glob w) (w0 : ArgPlan w v0 l0) (w1 : (Lit.int .i64 a1).wf = true) (w2 : (Lit.int .i64 a2).wf = true) (w3 : InRows w v3 l3) :
    Calls Tryz.prog 4 #[v0, .int .i64 a1, .int .i64 a2, v3] w fun e w' => e = .returned (.bool true) ∧ Below w.heap.size w w' := by
  have bd1 := bounds_i64 w1
  have bd2 := bounds_i64 w2
  have HG := Lib.hid hglob
  have HS := Lib.hid w3
  have HPW := Lib.hid (fun (W : World) (ho : Only [] w W) => w0.2.same ho)
  obtain ⟨pa, pc, rfl, hpc, hpm, _⟩ := w0.2.task
  obtain ⟨n, hn⟩ : ∃ n, l0.length = n := ⟨_, rfl⟩
  have HN := Lib.hid hn
  have hright := ref_Right _ l0 w w0.2
  rw [hn] at HPW hpc hright ⊢
  clear w0 w1 w2 w3 hn hpm hglob
  obtain ⟨f, hf⟩ : ∃ f, planFault l0 = f := ⟨_, rfl⟩
  rw [hf] at hright
  go_enter Tryz.func4, Tryz.ntmps4
  by_cases hge : gErr l0 a1 a2 = 0
  · obtain ⟨hok, m1, m6, r1, r16⟩ := gErr_zero hge
    obtain ⟨m, rfl⟩ := Int.eq_ofNat_of_zero_le (show 0 ≤ a1 by omega)
    obtain ⟨r, rfl⟩ := Int.eq_ofNat_of_zero_le (show 0 ≤ a2 by omega)
    have hf0 : f = 0 := by rw [← hf]; exact (planOk_iff l0).1 hok
    subst hf0
    have hd1 : decide ((m : Int) < 1) = false := by simp; omega
    have hd2 : decide ((6 : Int) < (m : Int)) = false := by simp; omega
    have hd3 : decide ((r : Int) < 1) = false := by simp; omega
    have hd4 : decide ((16 : Int) < (r : Int)) = false := by simp; omega
    clear hge bd1 bd2 hf
    go_wp2_with fail
    refine hright.mono ?_
    rintro e wa ⟨rfl, hoa⟩
    have HOa := Lib.hid hoa
    have hnw := gang_New _ l0 m r wa (HPW.out wa hoa) hok (by omega) (by omega) (by omega) (by omega)
    clear hright hoa
    go_wp2_with fail
    refine hnw.mono ?_
    rintro e wb ⟨q, F, rfl, hG, hF, hob⟩
    have HOb := Lib.hid (HOa.out.trans hob (by simp))
    have hsn := same_nil 0 wb true rfl
    have HGG := Lib.hid (And.intro hG (And.intro hF (And.intro hob HOa.out.size)))
    clear hnw hG hF hob
    go_wp2_with fail
    refine hsn.mono ?_
    rintro e wb' ⟨rfl, rfl⟩
    have hng := ref_NewGang _ l0 m r wb (HPW.out wb HOb.out) hok (by omega) (by omega) (by omega) (by omega)
    clear hsn
    go_wp2_with fail
    refine hng.mono ?_
    rintro e wc ⟨d, E, rfl, hD, hoc, hpv⟩
    have hst : GP w l0 r m q d wc (gNew l0) F E := by
      refine ⟨HGG.out.1.same hoc, hD.rebase HOb.out (by rw [hpv]; exact HPW.out w (Only.refl _ _)), gNew_inv l0 r m, fun x hx => by have := HGG.out.2.1 x hx; have := HGG.out.2.2.2; omega, fun x hx he => by have h1 := HGG.out.1.lt x hx; have h2 := (hD.lt x he).1; omega, HOb.out.trans hoc (by simp)⟩
    have HST := Lib.hid hst
    obtain ⟨V, ⟨sa, sc, rfl, hs1, hs2, hs3⟩, hs4⟩ := HS.out
    have HS3 := Lib.hid hs3
    have HS4 := Lib.hid hs4
    have hl9 : l3.length ≤ 9223372036854775807 := by unfold maxLen at hs2; omega
    have h30 : n ≤ 30 := by rw [← HN.out]; exact hok.len
    have HOK := Lib.hid hok
    clear hng hD hoc hpv hst hs3 hs4 HS hok
    go_wp2_with fail
    go_loopw [9, 12, 14, 15, 16, 17, 18, 19, 20, 21, 22, 23, 24] (fun _ _ vi _ _ _ _ _ _ _ _ _ _ wr => ∃ (i : Nat) (s : GSt) (F E : Nat → Prop), i ≤ l3.length ∧ i ≤ 200 ∧ vi = .int .i64 i ∧ GP w l0 r m q d wr s F E) (fun _ _ vi _ _ _ _ _ _ _ _ _ _ _ => 200 - (intOf vi).toNat)
    case atStart => exact ⟨0, gNew l0, F, E, Nat.zero_le _, by omega, rfl, HST.out⟩
    case round =>
      clear HST
      obtain ⟨wo, rfl⟩ : ∃ wo : World, wo = wr := ⟨_, rfl⟩
      obtain ⟨i, s, F, E, hi, hi2, rfl, hGH⟩ := hrel
      have HGH := Lib.hid hGH
      by_cases hlt : i < l3.length ∧ i < 200
      · obtain ⟨hlt, hlt2⟩ := hlt
        obtain ⟨sb, so, rfl, hcV⟩ := HS3.out i hlt
        have hVi := HS4.out i hlt
        obtain ⟨va, vcap, hVe, hvc⟩ := hVi.opt
        have hvb := hVi.bounds
        rw [hVe] at hcV
        obtain ⟨li, hli⟩ : ∃ li, l3[i]?.getD [] = li := ⟨_, rfl⟩
        rw [hli] at hcV hvc hvb
        obtain ⟨c, hm⟩ : ∃ c, li.length = c := ⟨_, rfl⟩
        have HM := Lib.hid hm
        rw [hm] at hcV hvc
        have HVC := Lib.hid hvc
        have hc0 := Cells.new wo #[.int .i64 0, .int .i64 0] 52
        have hoA := hGH.only.alloc (.cells #[.int .i64 0, .int .i64 0] 52)
        have hsz := hGH.only.size
        have hAlt : wo.heap.size < (wo.alloc (.cells #[.int .i64 0, .int .i64 0] 52)).heap.size := by simp
        clear hGH hvc hVi hVe hli hm
        go_wp2_with fail
        go_loopw [16] (fun vj wr => ∃ j : Nat, j ≤ 2 ∧ j ≤ c ∧ vj = .int .i64 j ∧ Cells wr wo.heap.size [.int .i64 (if 0 < j then nth li 0 else 0), .int .i64 (if 1 < j then nth li 1 else 0)] ∧ Only [wo.heap.size] (wo.alloc (.cells #[.int .i64 0, .int .i64 0] 52)) wr) (fun vj _ => 2 - (intOf vj).toNat)
        case atStart => exact ⟨0, by omega, Nat.zero_le _, rfl, by simpa using hc0, Only.refl _ _⟩
        case round =>
          obtain ⟨wp, rfl⟩ : ∃ wp : World, wp = wr := ⟨_, rfl⟩
          clear hc0
          obtain ⟨j, hj2, hjm, rfl, hC, hov⟩ := hrel
          have hop := hoA.kin hov (by simpa using hsz)
          have cV := (hop.cell (p := ⟨sb, so + i, none⟩) (cell_lt hcV) (by simp)).trans hcV
          by_cases hjl : j < c ∧ j < 2
          · obtain ⟨hjm2, hj22⟩ := hjl
            obtain ⟨xb, xo, rfl, cx⟩ := HVC.out j hjm2
            have cx2 := (hop.cell (p := ⟨xb, xo + j, none⟩) (cell_lt cx) (by simp)).trans cx
            have hj01 : j = 0 ∨ j = 1 := by omega
            have hs2 := hov.setCell (p := ⟨wo.heap.size, j, none⟩) (fun _ => by simp) (.int .i64 (nth li j))
            have hC2 : Cells (wp.setCell ⟨wo.heap.size, j, none⟩ (.int .i64 (nth li j))) wo.heap.size [.int .i64 (if 0 < j + 1 then nth li 0 else 0), .int .i64 (if 1 < j + 1 then nth li 1 else 0)] := by
              have := hC.set j (.int .i64 (nth li j))
              rcases hj01 with rfl | rfl <;> simpa using this
            have hcj : ∃ u, wp.cell? ⟨wo.heap.size, j, none⟩ = some u ∧ wp.frozen? ⟨wo.heap.size, j, none⟩ = false := by
              rcases hj01 with rfl | rfl
              · exact ⟨_, hC.cell 0 _ rfl, hC.free 0 _ rfl⟩
              · exact ⟨_, hC.cell 1 _ rfl, hC.free 1 _ rfl⟩
            obtain ⟨u, c0, f0⟩ := hcj
            have HC2 := Lib.hid (And.intro hC2 hs2)
            generalize nth li j = x at *
            clear cx hcV hop hC hC2 hs2 hov hj01
            go_wp2
            go_roundw
            case rel => exact ⟨j + 1, by omega, by omega, by go_num, HC2.out.1, HC2.out.2⟩
            case measure => (simp [intOf]; try omega)
          · have hxy : Cells wp wo.heap.size [.int .i64 (nth li 0), .int .i64 (nth li 1)] := by
              have e0 : (if 0 < j then nth li 0 else 0) = nth li 0 := by
                by_cases h : 0 < j
                · rw [if_pos h]
                · rw [if_neg h]
                  unfold nth
                  rw [List.getElem?_eq_none (by rw [HM.out]; omega)]; rfl
              have e1 : (if 1 < j then nth li 1 else 0) = nth li 1 := by
                by_cases h : 1 < j
                · rw [if_pos h]
                · rw [if_neg h]
                  unfold nth
                  rw [List.getElem?_eq_none (by rw [HM.out]; omega)]; rfl
              rw [e0, e1] at hC
              exact hC
            obtain ⟨x, hx⟩ : ∃ x, nth li 0 = x := ⟨_, rfl⟩
            obtain ⟨y, hy⟩ : ∃ y, nth li 1 = y := ⟨_, rfl⟩
            rw [hx, hy] at hxy
            have HGP := Lib.hid (HGH.out.moved hov)
            have c0 := hxy.cell 0 _ rfl
            have c1 := hxy.cell 1 _ rfl
            have HBX := Lib.hid hxy
            have HFB := Lib.hid (show ¬ F wo.heap.size ∧ ¬ E wo.heap.size from ⟨fun h => by have := HGH.out.gang.lt _ h; omega, fun h => by have := (HGH.out.doc.lt _ h).2; omega⟩)
            have hout : c ≤ j ∨ (j < c ∧ 2 ≤ j) := by omega
            clear hC hov hoA hx hy hvb hjl hxy hop HGH HVC HM hcV
            by_cases hxb : x < 0 ∨ (m : Int) ≤ x
            · have hno := gang_step_no HGP.out.gang x y (by omega)
              have hx1 : (decide (x < 0) = true) ∨ (decide (x < 0) = false ∧ decide ((m : Int) ≤ x) = true) := by
                by_cases h : x < 0
                · exact .inl (by simpa using h)
                · exact .inr ⟨by simpa using h, by have h2 := hxb.resolve_left h; simpa using h2⟩
              have HXB := Lib.hid hxb
              have HBXQ := Lib.hid HBX.out
              clear hxb
              rcases hout with hout | ⟨hout, hout2⟩
              all_goals
                rcases hx1 with hx1 | ⟨hx1, hx2⟩
                all_goals
                  by_cases hy : y < 0
                  all_goals
                    go_wp2_with fail
                    refine hno.mono ?_
                    rintro e w6 ⟨rfl, rfl⟩
                    have hse := same_err 1 1 wp (HG.out.only HGP.out.only) true rfl
                    clear hno
                    go_wp2_with fail
                    refine hse.mono ?_
                    rintro e w6 ⟨rfl, ho6⟩
                    have HP6 := Lib.hid (HGP.out.move ho6 (by simp))
                    have HBX6 := Lib.hid (HBXQ.out.only ho6 (by simp))
                    have hsd := same_deeds _ _ [] w6 (deeds_none w6) (deeds_none w6) (by simp)
                    clear hse ho6
                    go_wp2_with fail
                    refine hsd.mono ?_
                    rintro e w7 ⟨rfl, n7, hw7⟩
                    have ho7 : Only [] w6 w7 := hw7 ▸ (Only.refl [] w6).drewN n7
                    have HP7 := Lib.hid (HP6.out.move (T := []) ho7 (by simp))
                    have hb7 := HBX6.out.only ho7 (by simp)
                    have c07 := hb7.cell 0 _ rfl
                    clear hsd hw7 ho7 hb7
                    have hhas := gang_Has_no HP7.out.gang x HXB.out
                    go_wp2_with fail
                    refine hhas.mono ?_
                    rintro e w8 ⟨rfl, rfl⟩
                    have hse := same_err 1 1 w7 (HG.out.only HP7.out.only) true rfl
                    clear hhas c07
                    go_wp2_with fail
                    refine hse.mono ?_
                    rintro e w8 ⟨rfl, ho8⟩
                    have HGPZ := Lib.hid (HP7.out.move ho8 (by simp))
                    clear hse ho8
                    have hgh := gang_Held HGPZ.out.gang HGPZ.out.inv
                    go_wp2_with fail
                    refine hgh.mono ?_
                    rintro e wh ⟨vh, rfl, hIh, hoh⟩
                    have HPH := Lib.hid (HGPZ.out.move hoh (by simp))
                    have hrh := ref_gHeld HPH.out.doc HPH.out.inv HOK.out
                    obtain ⟨ha, hc, rfl, _⟩ := hIh.opt
                    have HIH := Lib.hid hIh
                    clear hgh hIh hoh
                    go_wp2_with fail
                    refine hrh.mono ?_
                    rintro e wk ⟨vk, rfl, hIk, hok2⟩
                    have HPK := Lib.hid (HPH.out.move hok2 (by simp))
                    have hrl : (natL (readyL l0 s.done)).length ≤ 1000000 := by
                      rw [natL_len]
                      have := readyL_len l0 s.done
                      have := HN.out
                      omega
                    have hsi := same_ints _ _ (natL (readyL l0 s.done)) wk (HIH.out.reads.same hok2) hIk.reads hrl
                    obtain ⟨ka, kc, rfl, _⟩ := hIk.opt
                    clear hrh hIk hok2
                    go_wp2_with fail
                    refine hsi.mono ?_
                    rintro e wl ⟨rfl, nl, hwl⟩
                    have HPL := Lib.hid (HPK.out.move (T := []) (hwl ▸ (Only.refl [] wk).drewN nl) (by simp))
                    have hgl := gang_Left HPL.out.gang
                    have hrl2 := ref_gLeft HPL.out.doc (by rw [HN.out]; exact h30)
                    clear hsi hwl hrl
                    generalize leftN l0 s.done = lf at *
                    go_wp2_with fail
                    refine hgl.mono ?_
                    rintro e wl' ⟨rfl, rfl⟩
                    clear hgl
                    go_wp2_with fail
                    refine hrl2.mono ?_
                    rintro e wl' ⟨rfl, rfl⟩
                    clear hrl2
                    go_wp2_with fail
                    go_roundw
                    case rel => exact ⟨i + 1, s, F, E, by omega, by omega, by go_num, HPL.out⟩
                    case measure => (simp [intOf]; try omega)
            · obtain ⟨k, rfl⟩ := Int.eq_ofNat_of_zero_le (show 0 ≤ x by omega)
              have hk : k < m := by omega
              have hx1 : decide ((k : Int) < 0) = false := by first | (simp; done) | (simp; omega)
              have hx2 : decide ((m : Int) ≤ (k : Int)) = false := by first | (simp; omega) | (simp; done)
              clear hxb
              by_cases hy : y < 0
              · have hy2 : decide (0 ≤ y) = false := by simp; omega
                have hno := fun (W : World) (h : GangIs W q l0 r m s F) => gang_step_no h (k : Int) y (.inr (.inr hy))
                obtain ⟨_, _, _, hCd, _, _, hTd, _, _, _, _, _, _, _, _, mcd, cmd, _⟩ := (RRel.start HGP.out.doc).cells
                have k2 := hCd.cell 2 _ rfl
                obtain ⟨kt, _⟩ : wp.cell? ⟨d.T, k, none⟩ = some (.int .i64 (s.ws k).task) ∧ wp.frozen? ⟨d.T, k, none⟩ = false := hTd k hk
                have HKH := Lib.hid (fun (W : World) (h : GangIs W q l0 r m s F) => gang_Has h hk)
                obtain ⟨tk, htk⟩ : ∃ tk, (s.ws k).task = tk := ⟨_, rfl⟩
                rw [htk] at kt HKH
                have HNO := Lib.hid hno
                clear hCd hTd htk hno
                rcases hout with hout | ⟨hout, hout2⟩
                all_goals
                  go_wp2_with fail
                  go_quiet (fail)
                  obtain ⟨wq, hwq⟩ : ∃ wq, wp.drewN nq = wq := ⟨_, rfl⟩
                  have hoq : Only [] wp wq := hwq ▸ (Only.refl [] wp).drewN nq
                  have HGPQ := Lib.hid (HGP.out.move hoq (by simp))
                  have hbq := HBX.out.only hoq (by simp)
                  have c0q := hbq.cell 0 _ rfl
                  have c1q := hbq.cell 1 _ rfl
                  have HBXQ := Lib.hid hbq
                  have hno := HNO.out wq HGPQ.out.gang
                  rw [hwq]
                  clear hwq hoq hbq k2 kt c0 c1
                  go_wp2_with fail
                  refine hno.mono ?_
                  rintro e w6 ⟨rfl, rfl⟩
                  clear c0q c1q
                  have hse := same_err 1 1 wq (HG.out.only HGPQ.out.only) true rfl
                  clear hno
                  go_wp2_with fail
                  refine hse.mono ?_
                  rintro e w6 ⟨rfl, ho6⟩
                  have HP6 := Lib.hid (HGPQ.out.move ho6 (by simp))
                  have HBX6 := Lib.hid (HBXQ.out.only ho6 (by simp))
                  have hsd := same_deeds _ _ [] w6 (deeds_none w6) (deeds_none w6) (by simp)
                  clear hse ho6
                  go_wp2_with fail
                  refine hsd.mono ?_
                  rintro e w7 ⟨rfl, n7, hw7⟩
                  have ho7 : Only [] w6 w7 := hw7 ▸ (Only.refl [] w6).drewN n7
                  have HP7 := Lib.hid (HP6.out.move (T := []) ho7 (by simp))
                  have hb7 := HBX6.out.only ho7 (by simp)
                  have c07 := hb7.cell 0 _ rfl
                  clear hsd hw7 ho7 hb7
                  have hhas := HKH.out w7 HP7.out.gang
                  go_wp2_with fail
                  refine hhas.mono ?_
                  rintro e w8 ⟨rfl, rfl⟩
                  have hsn := same_nil 0 w7 true rfl
                  clear hhas c07
                  go_wp2_with fail
                  refine hsn.mono ?_
                  rintro e w8 ⟨rfl, rfl⟩
                  have HGPZ := Lib.hid HP7.out
                  clear hsn
                  have hgh := gang_Held HGPZ.out.gang HGPZ.out.inv
                  go_wp2_with fail
                  refine hgh.mono ?_
                  rintro e wh ⟨vh, rfl, hIh, hoh⟩
                  have HPH := Lib.hid (HGPZ.out.move hoh (by simp))
                  have hrh := ref_gHeld HPH.out.doc HPH.out.inv HOK.out
                  obtain ⟨ha, hc, rfl, _⟩ := hIh.opt
                  have HIH := Lib.hid hIh
                  clear hgh hIh hoh
                  go_wp2_with fail
                  refine hrh.mono ?_
                  rintro e wk ⟨vk, rfl, hIk, hok2⟩
                  have HPK := Lib.hid (HPH.out.move hok2 (by simp))
                  have hrl : (natL (readyL l0 s.done)).length ≤ 1000000 := by
                    rw [natL_len]
                    have := readyL_len l0 s.done
                    have := HN.out
                    omega
                  have hsi := same_ints _ _ (natL (readyL l0 s.done)) wk (HIH.out.reads.same hok2) hIk.reads hrl
                  obtain ⟨ka, kc, rfl, _⟩ := hIk.opt
                  clear hrh hIk hok2
                  go_wp2_with fail
                  refine hsi.mono ?_
                  rintro e wl ⟨rfl, nl, hwl⟩
                  have HPL := Lib.hid (HPK.out.move (T := []) (hwl ▸ (Only.refl [] wk).drewN nl) (by simp))
                  have hgl := gang_Left HPL.out.gang
                  have hrl2 := ref_gLeft HPL.out.doc (by rw [HN.out]; exact h30)
                  clear hsi hwl hrl
                  generalize leftN l0 s.done = lf at *
                  go_wp2_with fail
                  refine hgl.mono ?_
                  rintro e wl' ⟨rfl, rfl⟩
                  clear hgl
                  go_wp2_with fail
                  refine hrl2.mono ?_
                  rintro e wl' ⟨rfl, rfl⟩
                  clear hrl2
                  go_wp2_with fail
                  go_roundw
                  case rel => exact ⟨i + 1, s, F, E, by omega, by omega, by go_num, HPL.out⟩
                  case measure => (simp [intOf]; try omega)
              · obtain ⟨pk, rfl⟩ := Int.eq_ofNat_of_zero_le (show 0 ≤ y by omega)
                have hy2 : decide ((pk : Int) < 0) = false := by first | (simp; done) | (simp; omega)
                have hst := ref_gstep HGP.out.doc HGP.out.inv HOK.out hk pk
                clear hy
                rcases hout with hout | ⟨hout, hout2⟩
                all_goals
                  go_wp2_with fail
                  refine hst.mono ?_
                  rintro e w6 ⟨v6, E6, rfl, hD6, hR6⟩
                  have hinv := gStep_inv HOK.out (by omega) HGP.out.inv (h := k) pk hk
                  have HSG := Lib.hid (fun (W : World) (h : GangIs W q l0 r m s F) => gang_step h HGP.out.inv hk pk)
                  obtain ⟨Z, hZ⟩ : ∃ Z, gStep l0 r m s k pk = Z := ⟨_, rfl⟩
                  rw [hZ] at hD6 hR6 hinv HSG
                  obtain ⟨s6, ds⟩ := Z
                  simp only at hD6 hR6 hinv HSG
                  obtain ⟨la, lc, rfl, hl1, hl2, _⟩ := Row.form hD6
                  obtain ⟨dn, hdn⟩ : ∃ dn, ds.length = dn := ⟨_, rfl⟩
                  have hd9 : ds.length ≤ 9223372036854775807 := by unfold maxLen at hl2; omega
                  obtain ⟨_, _, _, hCd, _, _, hTd, _, _, _, _, _, _, _, _, mcd, cmd, _⟩ := hR6.cells
                  have k2 := hCd.cell 2 _ rfl
                  obtain ⟨kt, _⟩ : w6.cell? ⟨d.T, k, none⟩ = some (.int .i64 (s6.ws k).task) ∧ w6.frozen? ⟨d.T, k, none⟩ = false := hTd k hk
                  have hb6 : Cells w6 wo.heap.size [.int .i64 (k : Int), .int .i64 (pk : Int)] := by
                    obtain ⟨T, hT, hoT⟩ := hR6.only
                    exact HBX.out.only hoT (fun hx => HFB.out.2 (hT _ hx))
                  have c06 := hb6.cell 0 _ rfl
                  have c16 := hb6.cell 1 _ rfl
                  have HB6 := Lib.hid hb6
                  have HR6 := Lib.hid hR6
                  have HD6 := Lib.hid hD6
                  have HINV := Lib.hid hinv
                  have HL9 := Lib.hid hd9
                  have HDN := Lib.hid hdn
                  rw [hdn]
                  obtain ⟨tk, htk⟩ : ∃ tk, (s6.ws k).task = tk := ⟨_, rfl⟩
                  have HTK := Lib.hid htk
                  rw [htk] at kt
                  clear hst hZ hD6 hR6 hinv hCd hTd hb6 hl1 hl2 hd9 hdn htk c0 c1
                  go_wp2_with fail
                  go_quiet (fail)
                  obtain ⟨wq, hwq⟩ : ∃ wq, w6.drewN nq = wq := ⟨_, rfl⟩
                  have hoq : Only [] w6 wq := hwq ▸ (Only.refl [] w6).drewN nq
                  have hRq := HR6.out.same hoq
                  have hGq := HGP.out.gang' hRq
                  have hsg := HSG.out wq hGq
                  have hbq := HB6.out.only hoq (by simp)
                  have c0q := hbq.cell 0 _ rfl
                  have c1q := hbq.cell 1 _ rfl
                  have hDq : OwnDeeds wq wp.heap.size (.slice la ds.length lc) ds := Row.only HD6.out hoq (by simp)
                  have HRQ := Lib.hid hRq
                  have HBQ := Lib.hid hbq
                  have HDQ := Lib.hid hDq
                  rw [hwq]
                  clear hwq hoq hRq hGq hbq hDq k2 kt c06 c16
                  go_wp2_with fail
                  refine hsg.mono ?_
                  rintro e w8 ⟨v8, F8, rfl, hD8, hR8, _⟩
                  have HP8 := Lib.hid (HGP.out.both HRQ.out hR8 HINV.out)
                  have hb8 : Cells w8 wo.heap.size [.int .i64 (k : Int), .int .i64 (pk : Int)] := by
                    obtain ⟨T, hT, hoT⟩ := hR8.only
                    exact HBQ.out.only hoT (fun hx => HFB.out.1 (hT _ hx))
                  have hDw : OwnDeeds w8 wp.heap.size (.slice la ds.length lc) ds := HDQ.out.onlyF hR8.only (fun x hx hF => by
                    have h1 := (Row.far HD6.out x hx).1
                    have h2 := HGP.out.gang.lt x hF
                    omega)
                  obtain ⟨ga, gc, rfl, _⟩ := Row.form hD8
                  have hsd := same_deeds _ _ ds w8 hD8.at hDw.at HL9.out
                  rw [HDN.out] at hsd ⊢
                  have hsn := same_nil 0 w8 true rfl
                  have c08 := hb8.cell 0 _ rfl
                  have HB8 := Lib.hid hb8
                  clear hsg hD8 hR8 hb8 hDw c0q c1q
                  go_wp2_with fail
                  refine hsn.mono ?_
                  rintro e w8' ⟨rfl, rfl⟩
                  clear hsn
                  go_wp2_with fail
                  refine hsd.mono ?_
                  rintro e w7 ⟨rfl, n7, hw7⟩
                  have ho7 : Only [] w8 w7 := hw7 ▸ (Only.refl [] w8).drewN n7
                  have HP7 := Lib.hid (HP8.out.move (T := []) ho7 (by simp))
                  have hb7 := HB8.out.only ho7 (by simp)
                  have c07 := hb7.cell 0 _ rfl
                  have hhas := gang_Has HP7.out.gang hk
                  rw [HTK.out] at hhas
                  clear hsd hw7 ho7 hb7 c08
                  go_wp2_with fail
                  refine hhas.mono ?_
                  rintro e w9 ⟨rfl, rfl⟩
                  have hsn := same_nil 0 w7 true rfl
                  clear hhas c07
                  go_wp2_with fail
                  refine hsn.mono ?_
                  rintro e w9 ⟨rfl, rfl⟩
                  have HGPZ := Lib.hid HP7.out
                  clear hsn
                  have hgh := gang_Held HGPZ.out.gang HGPZ.out.inv
                  go_wp2_with fail
                  refine hgh.mono ?_
                  rintro e wh ⟨vh, rfl, hIh, hoh⟩
                  have HPH := Lib.hid (HGPZ.out.move hoh (by simp))
                  have hrh := ref_gHeld HPH.out.doc HPH.out.inv HOK.out
                  obtain ⟨ha, hc, rfl, _⟩ := hIh.opt
                  have HIH := Lib.hid hIh
                  clear hgh hIh hoh
                  go_wp2_with fail
                  refine hrh.mono ?_
                  rintro e wk ⟨vk, rfl, hIk, hok2⟩
                  have HPK := Lib.hid (HPH.out.move hok2 (by simp))
                  have hrl : (natL (readyL l0 s6.done)).length ≤ 1000000 := by
                    rw [natL_len]
                    have := readyL_len l0 s6.done
                    have := HN.out
                    omega
                  have hsi := same_ints _ _ (natL (readyL l0 s6.done)) wk (HIH.out.reads.same hok2) hIk.reads hrl
                  obtain ⟨ka, kc, rfl, _⟩ := hIk.opt
                  clear hrh hIk hok2
                  go_wp2_with fail
                  refine hsi.mono ?_
                  rintro e wl ⟨rfl, nl, hwl⟩
                  have HPL := Lib.hid (HPK.out.move (T := []) (hwl ▸ (Only.refl [] wk).drewN nl) (by simp))
                  have hgl := gang_Left HPL.out.gang
                  have hrl2 := ref_gLeft HPL.out.doc (by rw [HN.out]; exact h30)
                  clear hsi hwl hrl
                  generalize leftN l0 s6.done = lf at *
                  go_wp2_with fail
                  refine hgl.mono ?_
                  rintro e wl' ⟨rfl, rfl⟩
                  clear hgl
                  go_wp2_with fail
                  refine hrl2.mono ?_
                  rintro e wl' ⟨rfl, rfl⟩
                  clear hrl2
                  go_wp2_with fail
                  go_roundw
                  case rel => exact ⟨i + 1, s6, F8, E6, by omega, by omega, by go_num, HPL.out⟩
                  case measure => (simp [intOf]; try omega)
      · have hend : l3.length ≤ i ∨ (i < l3.length ∧ 200 ≤ i) := by omega
        have hfin := Lib.hid hGH.only
        clear hGH hlt
        rcases hend with h | ⟨h, h2⟩
        all_goals
          go_wp2
          go_ret
          exact ⟨rfl, hfin.out.below (Nat.le_refl _) (by simp)⟩
  · have HNW := Lib.hid (fun (W : World) (h : InPlan W (.slice pa n pc) l0) => gang_New_no _ l0 a1 a2 W h hge)
    by_cases hf0 : f = 0
    · subst hf0
      have hbad : ¬ (1 ≤ a1 ∧ a1 ≤ 6 ∧ 1 ≤ a2 ∧ a2 ≤ 16) := fun h => hge (by unfold gErr; rw [if_pos hf, if_pos h])
      have hg1 : gErr l0 a1 a2 = 1 := by unfold gErr; rw [if_pos hf, if_neg hbad]
      rw [hg1] at HNW
      have hcs : (decide (a1 < 1) = true) ∨ (decide (a1 < 1) = false ∧ decide (6 < a1) = true) ∨ (decide (a1 < 1) = false ∧ decide (6 < a1) = false ∧ decide (a2 < 1) = true) ∨ (decide (a1 < 1) = false ∧ decide (6 < a1) = false ∧ decide (a2 < 1) = false ∧ decide (16 < a2) = true) := by
        simp only [decide_eq_true_eq, decide_eq_false_iff_not]
        omega
      clear hf hge hbad hg1 bd1 bd2
      rcases hcs with h1 | ⟨h1, h2⟩ | ⟨h1, h2, h3⟩ | ⟨h1, h2, h3, h4⟩
      all_goals
        go_wp2_with fail
        refine hright.mono ?_
        rintro e wa ⟨rfl, hoa⟩
        have HOa := Lib.hid hoa
        have hn1 := HNW.out wa (HPW.out wa hoa)
        clear hright hoa
        go_wp2_with fail
        refine hn1.mono ?_
        rintro e wb ⟨rfl, hob⟩
        have HOb := Lib.hid (HOa.out.trans hob (by simp))
        have hse := same_err 1 1 wb (HG.out.only HOb.out) true rfl
        clear hn1 hob
        go_wp2_with fail
        refine hse.mono ?_
        rintro e wc ⟨rfl, hoc⟩
        have hfin := Lib.hid (HOb.out.trans hoc (by simp))
        clear hse hoc
        go_wp2
        go_ret
        exact ⟨rfl, hfin.out.below (Nat.le_refl _) (by simp)⟩
    · have hg1 : gErr l0 a1 a2 = f := by unfold gErr; rw [if_neg (by rw [hf]; exact hf0), hf]
      rw [hg1] at HNW
      have hf1 : (f == 0) = false := by simpa using hf0
      have hf2 : (f != 0) = true := by simpa using hf0
      clear hf hge hg1 bd1 bd2
      go_wp2_with fail
      refine hright.mono ?_
      rintro e wa ⟨rfl, hoa⟩
      have HOa := Lib.hid hoa
      have hn1 := HNW.out wa (HPW.out wa hoa)
      clear hright hoa
      go_wp2_with fail
      refine hn1.mono ?_
      rintro e wb ⟨rfl, hob⟩
      have HOb := Lib.hid (HOa.out.trans hob (by simp))
      have hse := same_err f f wb (HG.out.only HOb.out) true (by simp)
      clear hn1 hob
      go_wp2_with fail
      refine hse.mono ?_
      rintro e wc ⟨rfl, hoc⟩
      have hfin := Lib.hid (HOb.out.trans hoc (by simp))
      clear hse hoc
      go_wp2
      go_ret
      exact ⟨rfl, hfin.out.below (Nat.le_refl _) (by simp)⟩

end Go.Proofs.YtocpmncedlenbaaGreatDoor.gangPlays
