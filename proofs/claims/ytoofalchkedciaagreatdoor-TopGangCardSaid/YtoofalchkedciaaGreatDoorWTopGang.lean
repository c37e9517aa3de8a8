/-
  The statement TopGang: whoever does a step, whomever it robs, the order in which tasks are finished is one by which all come to the same; and it may be told, read, and told again. No condition but the listed variables'.
-/
import Derived.Test.YtoofalchkedciaaGreatDoorP1TopGang
import Derived.Test.YtoofalchkedciaaGreatDoorP33TopGang
import Derived.Test.YtoofalchkedciaaGreatDoorP31TopGang
import Derived.Test.YtoofalchkedciaaGreatDoorP32TopGang
import Derived.Test.YtoofalchkedciaaGreatDoorP35TopGang
import Derived.Test.YtoofalchkedciaaGreatDoorP42TopGang
import Derived.Test.YtoofalchkedciaaGreatDoorP43TopGang
import Derived.Test.YtoofalchkedciaaGreatDoorP44TopGang
import Derived.Test.YtoofalchkedciaaGreatDoorP39TopGang
namespace Go.Proofs.YtoofalchkedciaaGreatDoor.topGang
open Go.ChangeShapes Go.WideShapes Go.ChangeAt Go.RowKit
open Go.ChangeMaps (open_string shut_string)
set_option linter.unusedVariables false


theorem gErr_zero {p : PlanL} {m r : Int} (h : gErr p m r = 0) : PlanOk p ∧ 1 ≤ m ∧ m ≤ 6 ∧ 1 ≤ r ∧ r ≤ 16 := by
  unfold gErr at h
  by_cases hp : planFault p = 0
  · rw [if_pos hp] at h
    by_cases hh : 1 ≤ m ∧ m ≤ 6 ∧ 1 ≤ r ∧ r ≤ 16
    · exact ⟨(planOk_iff p).2 hp, hh⟩
    · rw [if_neg hh] at h; cases h
  · rw [if_neg hp] at h; exact absurd h hp
theorem dParse_ok (s : ByteArray) (hs : s.size ≤ 1100000) (w : World) (hstd : Std w) (hwd : WordsIn w) {q : List Dd} (hr : readDT s.data.toList = some q) (hf : ddsFault q = 0) :
    Calls Tryz.prog 30 #[.string s] w fun e w' => ∃ v, e = .returned (.tuple #[v, .nilIface]) ∧ OwnDeeds w' w.heap.size v q ∧ Only [] w w' := by
  refine (trace_Parse s hs w hstd hwd).mono ?_
  rintro e w' ⟨ho, h | ⟨v, q', h1, h2, h3, h4⟩⟩
  · rw [dparseF_some hr] at h
    exact absurd hf h.1
  · rw [hr] at h2
    obtain rfl := Option.some.inj h2
    exact ⟨v, h1, h4, ho⟩
theorem TH.start {w w3 : World} {p : PlanL} {r m n : Nat} {q : GPar} {A : Nat} {f : Nat → Ce} {F : Nat → Prop} (hG : GangIs w3 q p r m (gNew p) F) (m1 : 1 ≤ m) (hF : ∀ x, F x → w.heap.size ≤ x ∧ (0 < n → x ≠ A)) (hrow : RowCl w3 A n f) (hA : 0 < n → A < w3.heap.size) (ho : Only [] w w3) :
    TH w p r m n q A w3.heap.size f w3 (.slice none 0 0) (.slice none 0 0) (gNew p) tZero [] [] F :=
  ⟨hG, GTold.new p r m m1, OwnDeeds.nil _ _, Ints.nil _ _, fun x hx => ⟨(hF x hx).1, by simp [own, Value.ownBlock], by simp [own, Value.ownBlock], (hF x hx).2⟩, by simp [own, Value.ownBlock], hrow, ⟨hA, ho.size, Nat.le_refl _⟩, ho⟩
theorem checkF_ok {p : PlanL} {m : Nat} {AL : List Dd} (hok : PlanOk p) (m1 : 1 ≤ m) (m6 : m ≤ 6) (h1 : ddsFault AL = 0) (h2 : runF p m tZero AL = 0) : checkF p m AL = 0 := by
  unfold checkF
  rw [if_neg (by rw [hErr_ok hok (by omega) (by omega)]; simp), if_neg (by simpa using h1)]
  exact h2

theorem dds_all' {l : List Dd} (h : ddsFault l = 0) : ∀ d ∈ l, ddFault d = 0 := by
  unfold ddsFault at h
  split at h
  · cases h
  · exact (firstDd_zero l).1 h

set_option maxRecDepth 100000 in
set_option maxHeartbeats 8000000 in
theorem walk (v0 : Value) (l0 : PlanL) (v1 : Value) (l1 : List Opn) (a2 : Int) (a3 : Int) (v4 : Value) (l4 : List (List Int)) (w : World) (hmax : ∃ m, w.cell? ⟨4, 0, none⟩ = some (.int .i64 m)) (htab : Lib.TabIs Tryz.prog w "internal/strconv.uint64pow10" .u64 Lib.pow10Tab) (hrange : VarErr "strconv.ErrRange" w) (hsyn : VarErr "strconv.ErrSyntax" w) (hwords : WordsIn w) (w0 : ArgPlan w v0 l0) (w1 : InOps w v1 l1) (w2 : (Lit.int .i64 a2).wf = true) (w3 : (Lit.int .i64 a3).wf = true) (w4 : InRows w v4 l4) :
    Calls Tryz.prog 8 #[v0, v1, .int .i64 a2, .int .i64 a3, v4] w fun e w' => e = .returned (.bool true) ∧ Below w.heap.size w w' := by
  have hstd : Std w := ⟨hsyn, hrange, htab, hmax⟩
  have HSTD := Lib.hid (fun (W : World) (hW : Only [] w W) => hstd.only hW)
  have HWD := Lib.hid (fun (W : World) (hW : Only [] w W) => hwords.only hW)
  have bd2 := bounds_i64 w2
  have bd3 := bounds_i64 w3
  have HS := Lib.hid w4
  have HU := Lib.hid w1.2.1
  have hu9 : l1.length ≤ 9223372036854775807 := by have := w1.2.2; unfold maxLen at this; omega
  obtain ⟨ua, uc, rfl, _⟩ := w1.2.1.opt
  have HPW := Lib.hid (fun (W : World) (ho : Only [] w W) => w0.2.same ho)
  obtain ⟨pa, pc, rfl, hpc, hpm, _⟩ := w0.2.task
  have hone := top_one w
  have HALL := Lib.hid (fun W (ho : Only [] w W) => cells_All _ _ l0 l1 W (HPW.out W ho) (HU.out.same ho) hu9)
  have HALO := Lib.hid (fun W (ho : Only [] w W) v l (hr : Reads W v l) (hl : l.length ≤ 17592186044416) => cells_Along _ _ v l0 l1 l W (HPW.out W ho) (HU.out.same ho) hu9 hr hl)
  obtain ⟨n, hn⟩ : ∃ n, l0.length = n := ⟨_, rfl⟩
  obtain ⟨ul, hul⟩ : ∃ ul, l1.length = ul := ⟨_, rfl⟩
  have HN := Lib.hid hn
  rw [hn] at HPW hpc
  rw [hn, hul] at HALL HALO
  rw [hn, hul]
  clear hmax htab hrange hsyn hwords hstd w0 w1 w2 w3 w4 hn hul hu9 hpm
  go_enter Tryz.func8, Tryz.ntmps8
  go_wp2_with fail
  refine hone.mono ?_
  rintro e wq1 ⟨rfl, ho1⟩
  have HO1 := Lib.hid ho1
  clear hone ho1
  by_cases hge : gErr l0 a2 a3 = 0
  · obtain ⟨hok, m1, m6, r1, r16⟩ := gErr_zero hge
    obtain ⟨m, rfl⟩ := Int.eq_ofNat_of_zero_le (show 0 ≤ a2 by omega)
    obtain ⟨r, rfl⟩ := Int.eq_ofNat_of_zero_le (show 0 ≤ a3 by omega)
    have hnw := gang_New _ l0 m r wq1 (HPW.out wq1 HO1.out) hok (by omega) (by omega) (by omega) (by omega)
    have HOK := Lib.hid hok
    have h30 : n ≤ 30 := by rw [← HN.out]; exact hok.len
    clear hge hok
    go_wp2_with fail
    refine hnw.mono ?_
    rintro e wq2 ⟨q, F, rfl, hG, hF, ho2⟩
    have HO2 := Lib.hid (HO1.out.trans ho2 (by simp))
    have hall := HALL.out wq2 HO2.out
    have HG := Lib.hid hG
    have HF := Lib.hid hF
    have hs12 := HO1.out.size
    clear hnw hG hF ho2 HALL
    by_cases hA0 : allFault l0 l1 = 0
    · rw [hA0, errV_zero] at hall
      go_wp2_with fail
      refine hall.mono ?_
      rintro e wq3 ⟨v3, rfl, ho3, hx⟩
      rcases hx with ⟨hx, _⟩ | ⟨_, A, rfl, hAw, hR⟩
      · exact absurd rfl hx
      have HO3 := Lib.hid (HO2.out.trans ho3 (by simp))
      have hst : TH w l0 r m n q A wq3.heap.size (foldA l0 l1 (orderOf l0)) wq3 (.slice none 0 0) (.slice none 0 0) (gNew l0) tZero [] [] F :=
        TH.start (HG.out.same ho3) (by omega) (fun x hx => ⟨by have := HF.out x hx; omega, fun _ e => by have := HG.out.lt x hx; omega⟩) hR (fun h0 => cell_lt (hR.at 0 h0).1) HO3.out
      obtain ⟨f, hf⟩ : ∃ f, foldA l0 l1 (orderOf l0) = f := ⟨_, rfl⟩
      rw [hf] at hst
      have HFF := Lib.hid hf
      have hwk := depth_Work _ l0 wq3 (HPW.out wq3 HO3.out) HOK.out
      have hwb := workK_bd HOK.out l0.length (Nat.le_refl _)
      obtain ⟨W0, hW0⟩ : ∃ W0 : Nat, workF l0 = (W0 : Int) := ⟨(workF l0).toNat, by unfold workF; omega⟩
      have hw6 : W0 ≤ 600 := by
        have h1 : sumI (wkOf l0) l0.length = (W0 : Int) := hW0
        have h2 := HOK.out.len
        omega
      have HW0 := Lib.hid hW0
      rw [hW0] at hwk
      clear hall ho3 hR hf HG HF hwb hW0
      go_wp2_with fail
      refine hwk.mono ?_
      rintro e wq4 ⟨rfl, ho4⟩
      have hst4 := hst.move ho4 (by simp)
      have HST := Lib.hid hst4
      obtain ⟨V, ⟨sa, sc, rfl, hs1, hs2, hs3⟩, hs4⟩ := HS.out
      have HS3 := Lib.hid hs3
      have HS4 := Lib.hid hs4
      have hl9 : l4.length ≤ 9223372036854775807 := by unfold maxLen at hs2; omega
      obtain ⟨R, hR⟩ : ∃ R, m * (W0 + n) = R := ⟨_, rfl⟩
      have hR4 : R ≤ 3780 := by
        rw [← hR]
        have h1 : m * (W0 + n) ≤ 6 * (W0 + n) := Nat.mul_le_mul_right _ (by omega)
        omega
      have hwr1 : IntKind.i64.wrap ((W0 : Int) + (n : Int)) = (W0 : Int) + n := IntWalk.i64_in _ (by omega)
      have hwr2 : IntKind.i64.wrap ((m : Int) * ((W0 : Int) + (n : Int))) = (R : Int) := by
        have e : (m : Int) * ((W0 : Int) + (n : Int)) = (R : Int) := by rw [← hR]; simp
        rw [e]
        exact IntWalk.i64_in _ (by omega)
      have HR := Lib.hid hR
      obtain ⟨T, hT⟩ : ∃ T, (if 200 < l4.length then 200 else l4.length) = T := ⟨_, rfl⟩
      have hT1 : T ≤ 200 ∧ T ≤ l4.length := by rw [← hT]; split <;> omega
      have HT := Lib.hid hT
      clear hwk ho4 hst hst4 hs3 hs4 HS hT hR bd2 bd3
      go_upto_if 77 with (fail)
      go_cut [20] (fun vT wx => vT = .int .i64 (T : Int) ∧ wx = wq4)
      case first =>
        by_cases hc : 200 < l4.length
        · have e : T = 200 := by rw [← HT.out, if_pos hc]
          subst e
          go_wp2
          go_meet
          exact ⟨rfl, rfl⟩
        · have e : l4.length = T := by rw [← HT.out, if_neg hc]
          go_wp2
          go_meet
          exact ⟨by rw [← e], rfl⟩
      case rest =>
      obtain ⟨rfl, rfl⟩ := hcut
      have hwr3 : IntKind.i64.wrap ((T : Int) + (R : Int)) = (T : Int) + R := IntWalk.i64_in _ (by omega)
      obtain ⟨bs, hbs⟩ : ∃ bs, wq3.heap.size = bs := ⟨_, rfl⟩
      rw [hbs] at HST
      have hrd0 : Rnd l0 r m T 0 (gNew l0) := Rnd.start HOK.out (by omega) (by omega) HST.out.told.inv HST.out.told.watch
      have HRD0 := Lib.hid hrd0
      clear hbs hrd0
      go_wp2_with fail
      go_loopw [18, 19, 22] (fun vo va vi wr => ∃ (i : Nat) (s : GSt) (t : TSt) (AL : List Dd) (OL : List Nat) (F : Nat → Prop), i ≤ T + R ∧ vi = .int .i64 (i : Int) ∧ TH w l0 r m n q A bs f wr va vo s t AL OL F ∧ Rnd l0 r m T i s) (fun _ _ vi _ => T + R - (intOf vi).toNat)
      case atStart => exact ⟨0, gNew l0, tZero, [], [], F, Nat.zero_le _, rfl, HST.out, HRD0.out⟩
      case round =>
        clear HST HRD0 hwr1 hwr2
        obtain ⟨wo, rfl⟩ : ∃ wo : World, wo = wr := ⟨_, rfl⟩
        obtain ⟨i, s, t, AL, OL, F, hi, rfl, hTH, hRnd⟩ := hrel
        have HTH := Lib.hid hTH
        have HRND := Lib.hid hRnd
        clear hRnd
        by_cases hlt : i < T + R
        · have hdi : decide ((i : Int) < 5000) = true := decide_eq_true (by omega)
          have hdi2 : decide ((i : Int) < (T : Int) + (R : Int)) = true := decide_eq_true (by omega)
          have hrem : Int.tmod (i : Int) (m : Int) = ((i % m : Nat) : Int) := by rw [Int.tmod_eq_emod_of_nonneg (by omega), Int.natCast_emod]
          have hm0 : ((m : Int) == 0) = false := by simp only [beq_eq_false_iff_ne, ne_eq]; omega
          have hmodm : i % m < m := Nat.mod_lt _ (by omega)
          have hwrm : IntKind.i64.wrap ((i % m : Nat) : Int) = ((i % m : Nat) : Int) := IntWalk.i64_in _ (by omega)
          obtain ⟨im, him⟩ : ∃ im, i % m = im := ⟨_, rfl⟩
          rw [him] at hrem hmodm hwrm
          have HIM := Lib.hid him
          clear hTH him
          go_upto_if 101 with (fail)
          go_cut [23, 24] (fun vh vp wx => ∃ x y : Int, vh = .int .i64 x ∧ vp = .int .i64 y ∧ (T ≤ i → x = (im : Int) ∧ y = (i : Int)) ∧ TH w l0 r m n q A bs f wx u19 u18 s t AL OL F)
          case first =>
            by_cases hiT : i < T
            · have hil : i < l4.length := by omega
              obtain ⟨sb, so, rfl, hcV⟩ := HS3.out i hil
              have hVi := HS4.out i hil
              obtain ⟨va, vcap, hVe, hvc⟩ := hVi.opt
              have hvb := hVi.bounds
              rw [hVe] at hcV
              obtain ⟨li, hli⟩ : ∃ li, l4[i]?.getD [] = li := ⟨_, rfl⟩
              rw [hli] at hcV hvc hvb
              obtain ⟨c, hm⟩ : ∃ c, li.length = c := ⟨_, rfl⟩
              have HM := Lib.hid hm
              rw [hm] at hcV hvc
              have HVC := Lib.hid hvc
              have hc0 := Cells.new wo #[.int .i64 0, .int .i64 0] 88
              have hoA := HTH.out.only.alloc (.cells #[.int .i64 0, .int .i64 0] 88)
              have hsz := HTH.out.only.size
              have hAlt : wo.heap.size < (wo.alloc (.cells #[.int .i64 0, .int .i64 0] 88)).heap.size := by simp
              clear hvc hVi hVe hli hm
              go_wp2_with fail
              go_loopw [26] (fun vj wr => ∃ j : Nat, j ≤ 2 ∧ j ≤ c ∧ vj = .int .i64 j ∧ Cells wr wo.heap.size [.int .i64 (if 0 < j then nth li 0 else 0), .int .i64 (if 1 < j then nth li 1 else 0)] ∧ Only [wo.heap.size] (wo.alloc (.cells #[.int .i64 0, .int .i64 0] 88)) wr) (fun vj _ => 2 - (intOf vj).toNat)
              case atStart => exact ⟨0, by omega, Nat.zero_le _, rfl, by simpa using hc0, Only.refl _ _⟩
              case round =>
                obtain ⟨wp, rfl⟩ : ∃ wp : World, wp = wr := ⟨_, rfl⟩
                clear hc0
                obtain ⟨j, hj2, hjm, rfl, hC, hov⟩ := hrel
                have hop := hoA.kin hov (by simpa using hsz)
                have cV := (hop.cell (p := ⟨sb, so + i, none⟩) (cell_lt hcV) (by simp)).trans hcV
                by_cases hjl : j < c ∧ j < 2
                · obtain ⟨hjm2, hj22⟩ := hjl
                  obtain ⟨xb, xo, rfl, cx⟩ := HVC.out j hjm2
                  have cx2 := (hop.cell (p := ⟨xb, xo + j, none⟩) (cell_lt cx) (by simp)).trans cx
                  have hj01 : j = 0 ∨ j = 1 := by omega
                  have hs2 := hov.setCell (p := ⟨wo.heap.size, j, none⟩) (fun _ => by simp) (.int .i64 (nth li j))
                  have hC2 : Cells (wp.setCell ⟨wo.heap.size, j, none⟩ (.int .i64 (nth li j))) wo.heap.size [.int .i64 (if 0 < j + 1 then nth li 0 else 0), .int .i64 (if 1 < j + 1 then nth li 1 else 0)] := by
                    have := hC.set j (.int .i64 (nth li j))
                    rcases hj01 with rfl | rfl <;> simpa using this
                  have hcj : ∃ u, wp.cell? ⟨wo.heap.size, j, none⟩ = some u ∧ wp.frozen? ⟨wo.heap.size, j, none⟩ = false := by
                    rcases hj01 with rfl | rfl
                    · exact ⟨_, hC.cell 0 _ rfl, hC.free 0 _ rfl⟩
                    · exact ⟨_, hC.cell 1 _ rfl, hC.free 1 _ rfl⟩
                  obtain ⟨u, c0, f0⟩ := hcj
                  have HC2 := Lib.hid (And.intro hC2 hs2)
                  generalize nth li j = x at *
                  clear cx hcV hop hC hC2 hs2 hov hj01
                  go_wp2
                  go_roundw
                  case rel => exact ⟨j + 1, by omega, by omega, by go_num, HC2.out.1, HC2.out.2⟩
                  case measure => (simp [intOf]; try omega)
                · have hxy : Cells wp wo.heap.size [.int .i64 (nth li 0), .int .i64 (nth li 1)] := by
                    have e0 : (if 0 < j then nth li 0 else 0) = nth li 0 := by
                      by_cases h : 0 < j
                      · rw [if_pos h]
                      · rw [if_neg h]
                        unfold nth
                        rw [List.getElem?_eq_none (by rw [HM.out]; omega)]; rfl
                    have e1 : (if 1 < j then nth li 1 else 0) = nth li 1 := by
                      by_cases h : 1 < j
                      · rw [if_pos h]
                      · rw [if_neg h]
                        unfold nth
                        rw [List.getElem?_eq_none (by rw [HM.out]; omega)]; rfl
                    rw [e0, e1] at hC
                    exact hC
                  obtain ⟨x, hx⟩ : ∃ x, nth li 0 = x := ⟨_, rfl⟩
                  obtain ⟨y, hy⟩ : ∃ y, nth li 1 = y := ⟨_, rfl⟩
                  rw [hx, hy] at hxy
                  have HGP := Lib.hid (HTH.out.moved hov)
                  have c0 := hxy.cell 0 _ rfl
                  have c1 := hxy.cell 1 _ rfl
                  have hout : c ≤ j ∨ (j < c ∧ 2 ≤ j) := by omega
                  clear hC hov hoA hx hy hvb hjl hxy hop HM hcV
                  rcases hout with hout | ⟨hout, hout2⟩
                  all_goals
                    go_wp2
                    go_meet
                    exact ⟨x, y, rfl, rfl, fun h => by omega, HGP.out⟩
            · go_wp2
              go_meet
              exact ⟨im, i, rfl, rfl, fun _ => ⟨rfl, rfl⟩, HTH.out⟩
          case rest =>
          obtain ⟨x, y, rfl, rfl, hxy, hTX⟩ := hcut
          have HTX := Lib.hid hTX
          have HXY := Lib.hid hxy
          clear hTX hxy HTH hrem hwrm hm0
          by_cases hbad : x < 0 ∨ (m : Int) ≤ x ∨ y < 0
          · have hiT : i < T := by
              rcases Nat.lt_or_ge i T with h | h
              · exact h
              · obtain ⟨h1, h2⟩ := HXY.out h
                omega
            have hno := gang_step_no HTX.out.gang x y hbad
            have HNX : Hid (Rnd l0 r m T (i + 1) s) := Rnd.start HOK.out (by omega) (by omega) HTX.out.told.inv HTX.out.told.watch
            clear hbad
            go_wp2_with fail
            refine hno.mono ?_
            rintro e w6 ⟨rfl, rfl⟩
            go_wp2
            go_roundw
            case rel => exact ⟨i + 1, s, t, AL, OL, F, by omega, by go_num, HTX.out, HNX.out⟩
            case measure => (simp [intOf]; try omega)
          · obtain ⟨k, rfl⟩ := Int.eq_ofNat_of_zero_le (show 0 ≤ x by omega)
            obtain ⟨pk, rfl⟩ := Int.eq_ofNat_of_zero_le (show 0 ≤ y by omega)
            have hk : k < m := by omega
            have hstep := gang_step HTX.out.gang HTX.out.told.inv hk pk
            have HNX : Hid (Rnd l0 r m T (i + 1) (gStep l0 r m s k pk).1) := by
              show Rnd _ _ _ _ _ _
              rcases Nat.lt_or_ge i T with h | h
              · exact Rnd.start HOK.out (by omega) (by omega) (gStep_inv HOK.out (by omega) HTX.out.told.inv pk hk) (step_watch HTX.out.told.inv HTX.out.told.watch pk hk)
              · obtain ⟨h1, h2⟩ := HXY.out h
                have e1 : k = i % m := by rw [HIM.out]; omega
                have e2 : pk = i := by omega
                rw [e1, e2]
                exact Rnd.round HOK.out (by omega) (by omega) h HRND.out
            clear hbad
            go_wp2_with fail
            refine hstep.mono ?_
            rintro e w6 ⟨vl, F6, rfl, hD6, hR6, _⟩
            obtain ⟨t6, hS6⟩ := HTX.out.step HOK.out (by omega) (by omega) hk pk hR6
            have hsay := (step_says HTX.out.told.inv pk hk).2
            obtain ⟨Z, hZ⟩ : ∃ Z, gStep l0 r m s k pk = Z := ⟨_, rfl⟩
            rw [hZ] at hD6 hS6 hsay HNX
            obtain ⟨s6, ds⟩ := Z
            simp only at hD6 hS6 hsay HNX
            have hfew := (hS6.told.few HOK.out (by omega)).1
            rw [List.length_append] at hfew
            obtain ⟨la, lc, rfl, _⟩ := hD6.at.opt
            obtain ⟨b, hb⟩ : ∃ b, AL.length = b := ⟨_, rfl⟩
            obtain ⟨d, hd⟩ : ∃ d, ds.length = d := ⟨_, rfl⟩
            have hbs6 := hS6.at_.2.2
            have hown6 : ∀ x ∈ own (.slice la ds.length lc), x ∉ own u19 ∧ x ∉ own u18 := fun x hx => by
              have h1 := (Row.far hD6 x hx).1
              refine ⟨fun h => ?_, fun h => ?_⟩
              · have := (Row.far HTX.out.deeds x h).2; omega
              · have := (Row.far HTX.out.ord x h).2; omega
            have HS6 := Lib.hid hS6
            have HSAY := Lib.hid hsay
            have HB := Lib.hid hb
            have HDD := Lib.hid hd
            have HD6 := Lib.hid hD6
            have HOW6 := Lib.hid hown6
            have hDl : w6.ownsRow bs 53 4 u19 AL.length (flatE AL) := hS6.deeds
            have hDr : RowAt w6 (.slice la ds.length lc) ds.length 4 (flatE ds) := hD6.at
            rw [hd] at HD6 HOW6 hDr ⊢
            rw [hb, hd] at hfew
            rw [hb] at hDl
            have HDL := Lib.hid hDl
            have HDR := Lib.hid hDr
            clear hS6 hsay hstep hR6 hZ hown6 hb hd hD6 hDl hDr
            go_wp2_with (at_builtin; refine wpList_append_rows sliceOf_deeds rfl (.tmp 137) (.tmp 138) rfl w6 bs _ b _ _ d _ HDL.out HDR.out (by omega) hbs6 rfl rfl (Only.refl _ _) ?_; intro v7 w7 hI7 hO7 hK7)
            have hI7' : OwnDeeds w7 bs v7 (AL ++ ds) := by
              unfold OwnDeeds
              have e : flatE (AL ++ ds) = flatE AL ++ flatE ds := by simp [flatE]
              rw [List.length_append, HB.out, HDD.out, e]
              exact hI7
            obtain ⟨hG7, hI7o, hfar7, htwo7, hrow7, hbs7, hO7w⟩ := HS6.out.laid hI7' hO7 hK7
            have HI7 := Lib.hid hI7'
            have HD7 := Lib.hid (Row.only HD6.out hO7 (fun x hx h => (HOW6.out x hx).1 h) : OwnDeeds w7 wc.heap.size (.slice la d lc) ds)
            have HIO7 := Lib.hid hI7o
            have HG7 := Lib.hid hG7
            have HFAR7 := Lib.hid hfar7
            have HTWO7 := Lib.hid htwo7
            have HROW7 := Lib.hid hrow7
            have HO7W := Lib.hid hO7w
            have hd4 : d ≤ 1000 := by omega
            clear hI7 hI7' hO7 hK7 hG7 hI7o hfar7 htwo7 hrow7 hO7w HDL HDR HD6
            go_wp2_with fail
            go_loopw [18, 29] (fun vo vk wr => ∃ e : Nat, e ≤ d ∧ vk = .int .i64 e ∧ Ints wr bs vo (natL (OL ++ finL (ds.take e))) ∧ Only (own u18) w7 wr ∧ Kin w7 (own u18) (own vo)) (fun _ vk _ => d - (intOf vk).toNat)
            case atStart => exact ⟨0, Nat.zero_le _, rfl, by simpa [finL] using HIO7.out, Only.refl _ _, Kin.refl _ _⟩
            case round =>
              obtain ⟨wq, rfl⟩ : ∃ wq : World, wq = wr := ⟨_, rfl⟩
              obtain ⟨e, he, rfl, hIe, hoe, hKe⟩ := hrel
              have HIE := Lib.hid hIe
              have HOE := Lib.hid hoe
              have HKE := Lib.hid hKe
              obtain ⟨va0, vc0, rfl, _⟩ := hIe.opt
              obtain ⟨z, hz⟩ : ∃ z, (natL (OL ++ finL (ds.take e))).length = z := ⟨_, rfl⟩
              have HZ := Lib.hid hz
              have hIz := HIE.out
              rw [hz] at hIz HKE ⊢
              have HIZ := Lib.hid hIz
              have hwq7 := hoe.size
              have hbsq : bs ≤ wq.heap.size := by omega
              clear hIe hoe hKe hIz hz
              by_cases hed : e < d
              · have hDe : OwnDeeds wq wc.heap.size (.slice la d lc) ds := Row.only HD7.out HOE.out (fun x hx h => (HOW6.out x hx).2 h)
                obtain ⟨la', lc', e1, hc⟩ := hDe.at.opt
                injection e1 with ea eb ec
                obtain ⟨g, off, hg, z0, _, z2, _⟩ := hc e (by rw [HDD.out]; exact hed)
                rw [← ea] at hg
                subst hg
                clear eb ec ea
                have htk := take_dd ds e (by rw [HDD.out]; exact hed)
                have hsay := HSAY.out _ (ddAt_mem (show e < ds.length by rw [HDD.out]; exact hed))
                have hfp := finL_push (ds.take e) (ddAt ds e)
                rw [← htk] at hfp
                generalize ddAt ds e = D1 at *
                obtain ⟨dw, dh, dt, dx⟩ := D1
                simp only at z0 z2 hsay hfp
                by_cases h4 : dw = 4
                · obtain ⟨h1, h2⟩ := hsay h4
                  obtain ⟨T1, rfl⟩ := Int.eq_ofNat_of_zero_le h1
                  have hzl : z ≤ 40 := by
                    rw [← HZ.out, natL_len, List.length_append]
                    have h5 := HS6.out.told.ord.len
                    rw [List.length_append] at h5
                    have h6 : (finL (ds.take e)).length ≤ (finL ds).length := by
                      have e3 : ds = ds.take e ++ ds.drop e := (List.take_append_drop e ds).symm
                      have e4 := congrArg finL e3
                      rw [finL_app] at e4
                      rw [e4, List.length_append]; omega
                    have h7 := HN.out
                    omega
                  rw [if_pos h4, Int.toNat_natCast] at hfp
                  have HFP := Lib.hid hfp
                  subst h4
                  clear hsay hfp htk hDe hc h1 h2 hfew
                  go_wp2_with (at_builtin; refine wpList_push rfl (.tmp 152) (.tmp 158) rfl wq bs _ _ wq.heap.size (T1 : Int) z HIZ.out HZ.out (by omega) hbsq rfl rfl ((Only.refl [] wq).alloc _) (World.cell?_alloc_at _ _ _ _ rfl) ?_; intro g5 cap5 w8 hI8 hO8 hK8)
                  have hI9 : Hid (Ints w8 bs (.slice (some ⟨g5, 0, none⟩) (z + 1) cap5) (natL (OL ++ finL (ds.take (e + 1))))) := by
                    show Ints _ _ _ _
                    rw [HFP.out, ← List.append_assoc, natL_push]
                    exact hI8
                  have hO9 : Hid (Only (own u18) w7 w8) := HOE.out.trans hO8 (fun x hx hl => by
                    rcases HKE.out x hx with h | h
                    · exact h
                    · omega)
                  have hK9 : Hid (Kin w7 (own u18) (own (.slice (some ⟨g5, 0, none⟩) (z + 1) cap5))) := fun x hx => by
                    obtain rfl : x = g5 := by simpa [own, Value.ownBlock] using hx
                    rcases hK8 with h | h
                    · exact HKE.out x h
                    · right; omega
                  clear hI8 hO8 hK8
                  go_wp2
                  go_roundw
                  case rel => exact ⟨e + 1, by omega, by go_num, hI9.out, hO9.out, hK9.out⟩
                  case measure => (simp [intOf]; try omega)
                · rw [if_neg h4] at hfp
                  have h4' : (dw == 4) = false := by simpa using h4
                  have HI9 : Hid (Ints wq bs (.slice va0 z vc0) (natL (OL ++ finL (ds.take (e + 1))))) := by
                    show Ints _ _ _ _
                    rw [hfp]; exact HIZ.out
                  clear hsay hfp htk hDe hc h4 hfew
                  go_wp2
                  go_roundw
                  case rel => exact ⟨e + 1, by omega, by go_num, HI9.out, HOE.out, HKE.out⟩
                  case measure => (simp [intOf]; try omega)
              · obtain rfl : e = d := by omega
                have htk : ds.take e = ds := List.take_of_length_le (by rw [HDD.out]; exact Nat.le_refl _)
                have hI9 := HIZ.out
                rw [htk] at hI9
                have HTN := Lib.hid (HS6.out.over HI7.out HG7.out HFAR7.out HTWO7.out HROW7.out hbs7 HO7W.out (fun x hx => (Row.far HTX.out.ord x hx).1) HOE.out HKE.out hI9)
                clear htk hI9 hed hfew
                go_wp2
                go_roundw
                case rel => exact ⟨i + 1, s6, t6, AL ++ ds, OL ++ finL ds, F6, by omega, by go_num, HTN.out, HNX.out⟩
                case measure => (simp [intOf]; try omega)
        · obtain rfl : i = T + R := by omega
          have hleft : leftN l0 s.done = 0 := by
            have h1 := HRND.out
            have e : T + R = T + m * (W0 + l0.length) := by rw [HN.out, HR.out]
            rw [e] at h1
            exact Rnd.over HOK.out (by omega) W0 HW0.out h1 hTH.told.inv
          have hpm := fin_full HOK.out hTH.told.ord (by rw [← hTH.told.done]; exact ready_none hleft)
          have hal := fin_along hA0 hTH.told.ord hpm
          have holl := hTH.told.few_step HOK.out
          obtain ⟨hf200, hfd, hfr⟩ := hTH.told.few HOK.out (by omega)
          have hall2 := (dds_all' hfd)
          have hco := comes_one HOK.out (foldA_comes l1 (fin_order hTH.told.ord hpm)) (foldA_comes l1 (orderOf_ok HOK.out))
          rw [HN.out, HFF.out] at hco
          have HCO := Lib.hid hco
          have halo := HALO.out wo hTH.only u18 (natL OL) hTH.ord.reads (by rw [natL_len]; omega)
          rw [hal, errV_zero, natL_toNat] at halo
          obtain ⟨oa, oc, rfl, _⟩ := hTH.ord.opt
          obtain ⟨m2, hm2⟩ : ∃ m2, (natL OL).length = m2 := ⟨_, rfl⟩
          obtain ⟨ta, tc, rfl, _⟩ := hTH.deeds.at.opt
          obtain ⟨b, hb⟩ : ∃ b, AL.length = b := ⟨_, rfl⟩
          have HB := Lib.hid hb
          have hck := checkF_ok HOK.out (by omega) (by omega) hfd hfr
          have HCK := Lib.hid hck
          have HFD := Lib.hid hfd
          have HALL := Lib.hid hall2
          have HL := Lib.hid hleft
          have hdd : Hid (∀ W, Only [] wo W → DeedsAt W (.slice ta b tc) AL) := fun W hW => by
            have h := hTH.deeds.at.same hW
            rw [hb] at h
            exact h
          have hb200 : b ≤ 200 := by omega
          rw [hm2] at halo ⊢
          rw [hb]
          clear hTH hleft hpm hal hm2 hco hlt hi hb hck hfd hfr hall2 hf200
          go_wp2_with fail
          refine halo.mono ?_
          rintro e wb ⟨vb, rfl, hob, hx⟩
          rcases hx with ⟨hx, _⟩ | ⟨_, A2, rfl, _, hR2⟩
          · exact absurd rfl hx
          have hR3 := hR2.congr HCO.out
          have hrowb := rowCl_keep HTH.out.row hob (by simp)
          have hsame := same_kells _ _ _ wb (hR3.list n) (hrowb.list n) (by unfold listCl; simp; omega)
          have HOB := Lib.hid hob
          clear halo hob hR2 hR3 hrowb
          go_wp2_with fail
          refine hsame.mono ?_
          rintro e wd ⟨rfl, nq, hwd⟩
          have HOD : Hid (Only [] wo wd) := by
            show Only _ _ _
            rw [hwd]
            exact HOB.out.drewN nq
          have hlf := gang_Left (HTH.out.gang.same HOD.out)
          rw [HL.out, show ((0 : Nat) : Int) = 0 from rfl] at hlf
          have HOWD := Lib.hid (HTH.out.only.trans HOD.out (by simp))
          clear hsame hwd
          go_wp2_with fail
          refine hlf.mono ?_
          rintro e we ⟨rfl, rfl⟩
          have hpr := trace_Print _ AL wd (hdd.out wd HOD.out) (HWD.out wd HOWD.out) HFD.out
          have hpl := ddsText_len AL HALL.out
          rw [HB.out] at hpl
          obtain ⟨TX, hTX⟩ : ∃ TX : ByteArray, (⟨(ddsText AL).toArray⟩ : ByteArray) = TX := ⟨_, rfl⟩
          have hTd : TX.data.toList = ddsText AL := by rw [← hTX]
          have hTz : TX.size ≤ 100000 := by
            have e : TX.data.toList.length = TX.size := Array.length_toList
            rw [← e, hTd]; omega
          rw [hTX] at hpr
          have HPP := Lib.hid (fun (W : World) (hW : Only [] w W) => dParse_ok TX (by omega) W (HSTD.out W hW) (HWD.out W hW) (by rw [hTd]; exact read_dds HALL.out) HFD.out)
          clear hlf hpl hTX hTd
          go_wp2_with fail
          refine hpr.mono ?_
          rintro e wf ⟨rfl, hof⟩
          have HOF := Lib.hid (HOD.out.trans hof (by simp))
          have hpp := HPP.out wf (HTH.out.only.trans HOF.out (by simp))
          clear hpr hof HPP
          go_wp2_with fail
          refine hpp.mono ?_
          rintro e wg ⟨yv, rfl, hy, hog⟩
          have HOG := Lib.hid (HOF.out.trans hog (by simp))
          have hsd := same_deeds yv (.slice ta b tc) AL wg hy.at (hdd.out wg HOG.out) (by rw [HB.out]; omega)
          obtain ⟨ya, yc, rfl, _⟩ := hy.at.opt
          rw [HB.out] at hsd ⊢
          clear hpp hy hog
          go_wp2_with fail
          refine hsd.mono ?_
          rintro e wh ⟨rfl, dn, hwh⟩
          have HOH : Hid (Only [] wo wh) := by
            show Only _ _ _
            rw [hwh]
            exact HOG.out.drewN dn
          have hck := trace_Check _ (.slice ta b tc) l0 (m : Int) AL wh (HPW.out wh (HTH.out.only.trans HOH.out (by simp))) (hdd.out wh HOH.out) (by rw [HB.out]; omega) (by omega)
          rw [HCK.out, errV_zero] at hck
          clear hsd hwh
          go_wp2_with fail
          refine hck.mono ?_
          rintro e wi ⟨rfl, hoi⟩
          have hfin := Lib.hid ((HTH.out.only.trans HOH.out (by simp)).trans hoi (by simp))
          clear hck hoi
          go_wp2
          go_ret
          exact ⟨rfl, hfin.out.below (Nat.le_refl _) (by simp)⟩
    · rw [errV_ne hA0] at hall
      go_wp2_with fail
      refine hall.mono ?_
      rintro e wq3 ⟨v3, rfl, ho3, hx⟩
      have ho := HO2.out.trans ho3 (by simp)
      have hfin := Lib.hid ho
      rcases hx with ⟨_, rfl⟩ | ⟨hx, _⟩
      · clear hall ho3 ho
        go_wp2
        go_ret
        exact ⟨rfl, hfin.out.below (Nat.le_refl _) (by simp)⟩
      · exact absurd hx hA0
  · have hnw := gang_New_no _ l0 a2 a3 wq1 (HPW.out wq1 HO1.out) hge
    obtain ⟨E, hE⟩ : ∃ E, allFault l0 l1 = E := ⟨_, rfl⟩
    rw [hE] at HALL
    generalize gErr l0 a2 a3 = GE at *
    clear hge hE
    go_wp2_with fail
    refine hnw.mono ?_
    rintro e wq2 ⟨rfl, ho2⟩
    have HO2 := Lib.hid (HO1.out.trans ho2 (by simp))
    have hall := HALL.out wq2 HO2.out
    clear hnw ho2 HALL
    go_wp2_with fail
    refine hall.mono ?_
    rintro e wq3 ⟨v3, rfl, ho3, hx⟩
    have hfin := Lib.hid (HO2.out.trans ho3 (by simp))
    obtain ⟨va, vk, vc, rfl⟩ : ∃ va vk vc, v3 = .slice va vk vc := by
      rcases hx with ⟨_, h⟩ | ⟨_, A, h, _⟩
      · exact ⟨_, _, _, h⟩
      · exact ⟨_, _, _, h⟩
    clear hall ho3 hx
    go_wp2
    go_ret
    exact ⟨rfl, hfin.out.below (Nat.le_refl _) (by simp)⟩

end Go.Proofs.YtoofalchkedciaaGreatDoor.topGang
