/-
  The statement ParkPlays: any hands that fall asleep, and wake: what is refused, who wakes, who sleeps. No condition but the listed variable's.
-/
import Derived.Test.YtmjicogmgkeilaaDoorFrame
import Derived.Test.YtmjicogmgkeilaaDoorTellFrame
import Derived.Test.YtmjicogmgkeilaaDoorPark
import Derived.Test.YtmjicogmgkeilaaDoorCutting
import Derived.Test.YtmjicogmgkeilaaDoorRefIn
import Derived.Test.YtmjicogmgkeilaaDoorSame
import Derived.Test.YtmjicogmgkeilaaDoorSteps
namespace Go.Proofs.YtmjicogmgkeilaaDoor.parkPlays
open Go.ChangeShapes Go.WideShapes Go.ChangeAt Go.RowKit
open Go.ChangeMaps (open_string shut_string)
set_option linter.unusedVariables false


set_option maxHeartbeats 40000000 in
set_option maxRecDepth 100000 in
theorem walk (a0 : Int) (v1 : Value) (l1 : List (List Int)) (w : World) (hglob : Glob w) (w0 : (Lit.int .i64 a0).wf = true) (w1 : InRows w v1 l1) :
    Calls Tryd.prog 7 #[.int .i64 a0, v1] w fun e w' => e = .returned (.bool true) ∧ Below w.heap.size w w' := by
  have bd0 := bounds_i64 w0
  have HA := Lib.hid w1
  have HG := Lib.hid hglob
  clear w0 hglob
  by_cases hin : 1 ≤ a0 ∧ a0 ≤ 6
  · obtain ⟨g1, g2⟩ := hin
    obtain ⟨hands, rfl⟩ := Int.eq_ofNat_of_zero_le (show 0 ≤ a0 by omega)
    have hh6 : hands ≤ 6 := by omega
    have hnew := Park.new (hands : Int) w (by omega) (by omega)
    rw [Int.toNat_natCast] at hnew
    obtain ⟨V, ⟨sa, scap, rfl, hs1, hs2, hs3⟩, hs4⟩ := w1
    have HS3 := Lib.hid hs3
    have HS4 := Lib.hid hs4
    have hl9 : l1.length ≤ 9223372036854775807 := by unfold maxLen at hs2; omega
    clear hs3 hs4 bd0
    go_enter Tryd.func7, Tryd.ntmps7
    go_wp2_with fail
    refine hnew.mono ?_
    rintro e w2 ⟨rfl, hP, ho⟩
    have hwb : w.heap.size < w2.heap.size := by
      obtain ⟨⟨rv, hc, _⟩, _⟩ := hP
      exact hc.lt
    clear hnew
    go_wp2_with fail
    refine (same_nil 0 _ true rfl).mono ?_
    rintro e w3 ⟨rfl, rfl⟩
    go_wp2_with fail
    go_loopw [9, 10] (fun vr vi wr => ∃ (i : Nat) (row : List Int) (fp : List Nat), i ≤ l1.length ∧ i ≤ 60 ∧ vi = .int .i64 i ∧ row.length ≤ i ∧ Ints wr w2.heap.size vr row ∧ ParkIs wr fp w.heap.size hands row ∧ (∀ x ∈ fp, w.heap.size ≤ x ∧ x ∉ own vr) ∧ w2.heap.size ≤ wr.heap.size ∧ Only [] w wr)
      (fun _ vi _ => 60 - (intOf vi).toNat)
    case atStart => exact ⟨0, [], _, Nat.zero_le _, by omega, rfl, by simp, Ints.nil _ _, hP, by simp [own, Value.ownBlock], Nat.le_refl _, ho⟩
    case round =>
      obtain ⟨wo, rfl⟩ : ∃ wo : World, wo = wr := ⟨_, rfl⟩
      clear hP ho
      obtain ⟨i, row, fp, hi, hi60, rfl, hrow, hI, hP, hfp, hwo2, ho⟩ := hrel
      have hwo2 := Lib.hid hwo2
      by_cases hlt : i < l1.length ∧ i < 60
      · obtain ⟨hlt, hlt60⟩ := hlt
        obtain ⟨sb, so, rfl, hcV⟩ := HS3.out i hlt
        have hVi := HS4.out i hlt
        obtain ⟨va, vcap, hVe, hvc⟩ := hVi.opt
        have hvb := hVi.bounds
        rw [hVe] at hcV
        obtain ⟨li, hli⟩ : ∃ li, l1[i]?.getD [] = li := ⟨_, rfl⟩
        rw [hli] at hcV hvc hvb
        obtain ⟨m, hm⟩ : ∃ m, li.length = m := ⟨_, rfl⟩
        have HM := Lib.hid hm
        rw [hm] at hcV hvc
        have HVC := Lib.hid hvc
        have HI := Lib.hid hI
        have HP := Lib.hid hP
        have HFP := Lib.hid hfp
        have hc0 := Cells.new wo #[.int .i64 0, .int .i64 0] 61
        have hoA := ho.alloc (.cells #[.int .i64 0, .int .i64 0] 61)
        have hsz := ho.size
        have hAlt : wo.heap.size < (wo.alloc (.cells #[.int .i64 0, .int .i64 0] 61)).heap.size := by simp
        clear hI hP hfp hvc hVi hVe hli hm
        go_wp2_with fail
        go_loopw [12] (fun vj wr => ∃ j : Nat, j ≤ 2 ∧ j ≤ m ∧ vj = .int .i64 j ∧ Cells wr wo.heap.size [.int .i64 (if 0 < j then nth li 0 else 0), .int .i64 (if 1 < j then nth li 1 else 0)] ∧ Only [wo.heap.size] (wo.alloc (.cells #[.int .i64 0, .int .i64 0] 61)) wr) (fun vj _ => 2 - (intOf vj).toNat)
        case atStart => exact ⟨0, by omega, Nat.zero_le _, rfl, by simpa using hc0, Only.refl _ _⟩
        case round =>
          obtain ⟨wp, rfl⟩ : ∃ wp : World, wp = wr := ⟨_, rfl⟩
          clear hc0
          obtain ⟨j, hj2, hjm, rfl, hC, hov⟩ := hrel
          have hop := hoA.kin hov (by simpa using hsz)
          have cV := (hop.cell (p := ⟨sb, so + i, none⟩) (cell_lt hcV) (by simp)).trans hcV
          by_cases hjl : j < m ∧ j < 2
          · obtain ⟨hjm2, hj22⟩ := hjl
            obtain ⟨xb, xo, rfl, cx⟩ := HVC.out j hjm2
            have cx2 := (hop.cell (p := ⟨xb, xo + j, none⟩) (cell_lt cx) (by simp)).trans cx
            have hj01 : j = 0 ∨ j = 1 := by omega
            have hs2 := hov.setCell (p := ⟨wo.heap.size, j, none⟩) (fun _ => by simp) (.int .i64 (nth li j))
            have hC2 : Cells (wp.setCell ⟨wo.heap.size, j, none⟩ (.int .i64 (nth li j))) wo.heap.size [.int .i64 (if 0 < j + 1 then nth li 0 else 0), .int .i64 (if 1 < j + 1 then nth li 1 else 0)] := by
              have := hC.set j (.int .i64 (nth li j))
              rcases hj01 with rfl | rfl <;> simpa using this
            have hcj : ∃ u, wp.cell? ⟨wo.heap.size, j, none⟩ = some u ∧ wp.frozen? ⟨wo.heap.size, j, none⟩ = false := by
              rcases hj01 with rfl | rfl
              · exact ⟨_, hC.cell 0 _ rfl, hC.free 0 _ rfl⟩
              · exact ⟨_, hC.cell 1 _ rfl, hC.free 1 _ rfl⟩
            obtain ⟨u, c0, f0⟩ := hcj
            have HC2 := Lib.hid (And.intro hC2 hs2)
            generalize nth li j = x at *
            clear cx hcV hop hC hC2 hs2 hov hj01
            go_wp2
            go_roundw
            case rel => exact ⟨j + 1, by omega, by omega, by go_num, HC2.out.1, HC2.out.2⟩
            case measure => (simp [intOf]; try omega)
          · have hxy : Cells wp wo.heap.size [.int .i64 (nth li 0), .int .i64 (nth li 1)] := by
              have e0 : (if 0 < j then nth li 0 else 0) = nth li 0 := by
                by_cases h : 0 < j
                · rw [if_pos h]
                · rw [if_neg h]
                  unfold nth
                  rw [List.getElem?_eq_none (by rw [HM.out]; omega)]; rfl
              have e1 : (if 1 < j then nth li 1 else 0) = nth li 1 := by
                by_cases h : 1 < j
                · rw [if_pos h]
                · rw [if_neg h]
                  unfold nth
                  rw [List.getElem?_eq_none (by rw [HM.out]; omega)]; rfl
              rw [e0, e1] at hC
              exact hC
            have hby : -9223372036854775808 ≤ nth li 1 ∧ nth li 1 ≤ 9223372036854775807 := by
              by_cases h : 1 < m
              · exact hvb _ (by simp [nth, show 1 < li.length by rw [HM.out]; exact h])
              · unfold nth; rw [List.getElem?_eq_none (by rw [HM.out]; omega)]; simp
            obtain ⟨x, hx⟩ : ∃ x, nth li 0 = x := ⟨_, rfl⟩
            obtain ⟨y, hy⟩ : ∃ y, nth li 1 = y := ⟨_, rfl⟩
            rw [hx, hy] at hxy
            rw [hy] at hby
            have hIp := Lib.hid ((HI.out.only ((Only.refl [] wo).alloc (.cells #[.int .i64 0, .int .i64 0] 61)) (by simp)).only hov (fun g hg hx => by have := (HI.out.own_lt g (own_of hg)).2; simp at hx; omega))
            have hPp := Lib.hid ((HP.out.only ((Only.refl [] wo).alloc (.cells #[.int .i64 0, .int .i64 0] 61)) (by simp)).only hov (fun z hz hx => by have := HP.out.lt z hz; simp at hx; omega))
            have hvf : Hid (wo.heap.size ∉ fp ∧ wo.heap.size ∉ own u9 ∧ w.heap.size ≤ wo.heap.size) := ⟨fun h => by have := HP.out.lt _ h; omega, fun h => by have := (HI.out.own_lt _ h).2; omega, hsz⟩
            have c0 := hxy.cell 0 _ rfl
            have c1 := hxy.cell 1 _ rfl
            have hgl := Lib.hid (HG.out.only hop)
            have hbase : Hid (w2.heap.size ≤ wp.heap.size) := by show _ ≤ _; have := hwo2.out; have := hov.size; simp at this; omega
            have hw2 : Hid (w.heap.size ≤ w2.heap.size) := by show _ ≤ _; omega
            have hout : m ≤ j ∨ (j < m ∧ 2 ≤ j) := by omega
            clear hC hov hoA hx hy HI HP hvb hjl
            rcases hout with hout | ⟨hout, hout2⟩
            all_goals
              go_upto_if 76 with (fail)
              go_cut [8, 9] (fun vt vr wx => ∃ (row' : List Int) (fp' : List Nat), vt = .bool true ∧ row'.length ≤ i + 1 ∧ Ints wx w2.heap.size vr row' ∧ ParkIs wx fp' w.heap.size hands row' ∧ (∀ z ∈ fp', w.heap.size ≤ z ∧ z ∉ own vr ∧ z ≠ wo.heap.size) ∧ wo.heap.size ∉ own vr ∧ Cells wx wo.heap.size [.int .i64 x, .int .i64 y] ∧ wp.heap.size ≤ wx.heap.size ∧ Only [] w wx)
              case first =>
                as_aux_lemma =>
                  have hIr := hIp.out
                  have hPr := hPp.out
                  obtain ⟨hv1, hv2, hv3⟩ := hvf.out
                  have hfr := HFP.out
                  have hrl : row.length ≤ 60 := by omega
                  have hbp := hPr.lt
                  by_cases hx0 : x = 0
                  · subst hx0
                    by_cases hy0 : y < 0
                    · have hwk := Park.wake_no fp w.heap.size hands row y wp hPr hy0
                      have hse := same_err 1 1 wp hgl.out true rfl
                      go_wp2_with fail
                      refine hwk.mono ?_
                      rintro e w5 ⟨rfl, rfl⟩
                      go_wp2_with fail
                      refine hse.mono ?_
                      rintro e w6 ⟨rfl, ho6⟩
                      have hsi := same_ints (.slice none 0 0) (.slice none 0 0) [] w6 (.inl ⟨rfl, .inl rfl⟩) (.inl ⟨rfl, .inl rfl⟩) (by simp)
                      clear hwk hse
                      go_wp2_with fail
                      refine hsi.mono ?_
                      rintro e w7 ⟨rfl, dn, rfl⟩
                      have ho7 := ho6.drewN dn
                      clear hsi
                      go_wp2_with fail
                      go_meet
                      exact ⟨row, fp, rfl, by omega, hIr.only ho7 (by simp), hPr.only ho7 (by simp), fun z hz => ⟨(hfr z hz).1, (hfr z hz).2, fun e => hv1 (e ▸ hz)⟩, hv2, hxy.only ho7 (by simp), ho7.size, hop.trans ho7 (by simp)⟩
                    · obtain ⟨k, rfl⟩ := Int.eq_ofNat_of_zero_le (show 0 ≤ y by omega)
                      have hk63 : k ≤ 9223372036854775807 := by omega
                      have hct := cutting_apart u9 row k wp hIr.reads (by omega) hk63
                      have hwkF : ∀ w5, ParkIs w5 fp w.heap.size hands row → _ := fun w5 h => Park.wake fp w.heap.size hands row k w5 h (by omega) (by omega)
                      simp only [Int.toNat_natCast] at hwkF
                      have htl : Hid ((row.take k).length ≤ 1000000) := by show _ ≤ _; simp; omega
                      have hdl : Hid ((row.drop k).length ≤ i + 1) := by show _ ≤ _; simp; omega
                      generalize row.take k = tk at hct hwkF htl
                      generalize row.drop k = dk at hct hwkF hdl
                      go_wp2_with fail
                      refine hct.mono ?_
                      rintro e w5 ⟨va5, vb5, rfl, hIa, hIb, ho5, hap⟩
                      clear hct
                      have hP5 := hPr.only ho5 (by simp)
                      have hxy5 := hxy.only ho5 (by simp)
                      have c15 := hxy5.cell 1 _ rfl
                      have hwk := hwkF w5 hP5
                      clear hwkF
                      have hs5 := ho5.size
                      obtain ⟨ba, bc, hvbe, _⟩ := hIb.opt
                      subst hvbe
                      go_wp2_with fail
                      refine hwk.mono ?_
                      rintro e w6 ⟨v6, rfl, hI6, fp6, hP6, ho6, hk6, hd6⟩
                      clear hwk
                      have hbw : w.heap.size ∈ fp := by
                        obtain ⟨⟨rv, _, _, hfpe, _⟩, _⟩ := hPr
                        rw [hfpe]; simp
                      have hbne := hfr _ hbw
                      have hIa6 := hIa.only ho6 (fun g9 h9 hx => by have := (hIa.own_lt g9 (own_of h9)).1; simp at hx; have := hbp _ hbw; omega)
                      have hIb6 := hIb.only ho6 (fun g9 h9 hx => by have := (hIb.own_lt g9 (own_of h9)).1; simp at hx; have := hbp _ hbw; omega)
                      have hxy6 := hxy5.only ho6 (by simp; intro e; exact hv1 (e ▸ hbw))
                      have hoo6 := (hop.trans ho5 (by simp)).kin ho6 (by simp)
                      have hsi := same_ints v6 va5 tk w6 hI6.reads hIa6.reads htl.out
                      have hbig : w2.heap.size ≤ wp.heap.size ∧ wo.heap.size < wp.heap.size := ⟨by have := hbase.out; omega, hxy.lt⟩
                      have hfin : ∀ z ∈ fp6, w.heap.size ≤ z ∧ z ∉ own (.slice ba dk.length bc) ∧ z ≠ wo.heap.size := by
                        intro z hz
                        rcases hk6 z hz with h | h
                        · exact ⟨(hfr z h).1, fun h2 => by have := (hIb.own_lt z h2).1; have := hbp z h; omega, fun e => hv1 (e ▸ h)⟩
                        · exact ⟨by omega, fun h2 => by have := (hIb.own_lt z h2).2; omega, by omega⟩
                      have hvn : wo.heap.size ∉ own (.slice ba dk.length bc) := fun h2 => by have := (hIb.own_lt _ h2).1; omega
                      have HFIN := Lib.hid (And.intro hfin (And.intro hvn (hIb6.mono hbig.1)))
                      obtain ⟨a6, c6, hv6, _⟩ := hI6.opt
                      subst hv6
                      clear hI6 hIa hIb hIa6 hIb6 hfin hvn hk6 hd6 hbne hbig hap hP5 hxy5 c15 hbp hfr hk63 hby hrl
                      go_wp2_with fail
                      refine (same_nil 0 _ true rfl).mono ?_
                      rintro e w7 ⟨rfl, rfl⟩
                      go_wp2_with fail
                      refine hsi.mono ?_
                      rintro e w8 ⟨rfl, dn, rfl⟩
                      have hdr := (Only.refl [] w6).drewN dn
                      clear hsi
                      go_wp2_with fail
                      go_meet
                      exact ⟨dk, fp6, rfl, hdl.out, HFIN.out.2.2.only hdr (by simp), hP6.only hdr (by simp), HFIN.out.1, HFIN.out.2.1, hxy6.only hdr (by simp), (by have h1 := ho6.size; show wp.heap.size ≤ w6.heap.size; omega), hoo6.drewN dn⟩
                  · have hxb : (x == 0) = false := by simpa using hx0
                    obtain ⟨r, hr⟩ : ∃ r, decide (y ∈ row) = r := ⟨_, rfl⟩
                    have hri := ref_in u9 row y wp hIr.reads (by omega) r hr
                    have hstay : ∀ w6, Only [] wp w6 → ∃ (row' : List Int) (fp' : List Nat), Value.bool true = Value.bool true ∧ row'.length ≤ i + 1 ∧ Ints w6 w2.heap.size u9 row' ∧ ParkIs w6 fp' w.heap.size hands row' ∧ (∀ z ∈ fp', w.heap.size ≤ z ∧ z ∉ own u9 ∧ z ≠ wo.heap.size) ∧ wo.heap.size ∉ own u9 ∧ Cells w6 wo.heap.size [.int .i64 x, .int .i64 y] ∧ wp.heap.size ≤ w6.heap.size ∧ Only [] w w6 :=
                      fun w6 ho7 => ⟨row, fp, rfl, by omega, hIr.only ho7 (by simp), hPr.only ho7 (by simp), fun z hz => ⟨(hfr z hz).1, (hfr z hz).2, fun e => hv1 (e ▸ hz)⟩, hv2, hxy.only ho7 (by simp), ho7.size, hop.trans ho7 (by simp)⟩
                    have HSTAY := Lib.hid hstay
                    clear hx0 hstay
                    by_cases hyr : 0 ≤ y ∧ y < hands
                    · obtain ⟨hy1, hy2⟩ := hyr
                      cases r
                      · have hnin : y ∉ row := by simpa using hr
                        have HNIN := Lib.hid hnin
                        have hwpb := hbase.out
                        have hsp : ∀ w5, ParkIs w5 fp w.heap.size hands row → _ := fun w5 h => Park.sleep fp w.heap.size hands row y w5 h hy1 hy2 HNIN.out (by omega)
                        have HSP := Lib.hid hsp
                        clear hr hnin hsp
                        go_wp2_with fail
                        refine hri.mono ?_
                        rintro e w5 ⟨rfl, rfl⟩
                        clear hri
                        obtain ⟨ra, rc, hrv, _⟩ := hIr.opt
                        subst hrv
                        have HIR := Lib.hid hIr
                        go_wp2_with (at_builtin; refine wpList_push rfl (.tmp 116) (.tmp 119) rfl wp w2.heap.size _ _ wp.heap.size y row.length hIr rfl (by omega) hwpb rfl rfl ((Only.refl [] wp).alloc _) (World.cell?_alloc_at _ _ _ _ rfl) ?_; intro g5 cap5 w5 hI5 hO5 hK5; have hxy5 := hxy.only hO5 hv2; have c15 := hxy5.cell 1 _ rfl)
                        have hP5 := hPr.only hO5 (fun z hz => (hfr z hz).2)
                        have hop5 := hop.trans hO5 (fun z hz hl => by have := (hIr.own_lt z hz).1; have := hw2.out; omega)
                        have hs5 : wp.heap.size ≤ w5.heap.size := hO5.size
                        have hsl := HSP.out w5 hP5
                        refine hsl.mono ?_
                        rintro e w6 ⟨rfl, fp6, hP6, ho6, hk6⟩
                        clear hsl
                        have hg5 : ∀ z ∈ fp, z ≠ g5 := fun z hz e => by
                          subst e
                          rcases hK5 with h | h
                          · exact (hfr _ hz).2 h
                          · have := hbp _ hz; omega
                        have hI6 := hI5.only ho6 (fun g9 h9 hx => by
                          have : g9 = g5 := by simpa [Value.ownBlock] using h9.symm
                          exact hg5 g9 hx this)
                        have hxy6 := hxy5.only ho6 hv1
                        have hoo6 := hop5.kin ho6 (fun z hz => (hfr z hz).1)
                        have hg5l : g5 < w5.heap.size := (hI5.own_lt g5 (by simp [own, Value.ownBlock])).2
                        have hfin : ∀ z ∈ fp6, w.heap.size ≤ z ∧ z ∉ own (.slice (some ⟨g5, 0, none⟩) (row.length + 1) cap5) ∧ z ≠ wo.heap.size := by
                          intro z hz
                          rcases hk6 z hz with h | h
                          · exact ⟨(hfr z h).1, fun h2 => hg5 z h (by simpa [own, Value.ownBlock] using h2), fun e => hv1 (e ▸ h)⟩
                          · exact ⟨by have := hop5.size; omega, fun h2 => absurd (show z = g5 by simpa [own, Value.ownBlock] using h2) (by omega), by have := hxy5.lt; omega⟩
                        have hvn : wo.heap.size ∉ own (.slice (some ⟨g5, 0, none⟩) (row.length + 1) cap5) := fun h2 => by
                          have h3 : wo.heap.size = g5 := by simpa [own, Value.ownBlock] using h2
                          rcases hK5 with h | h
                          · exact hv2 (h3 ▸ h)
                          · have := hxy.lt; omega
                        have HFIN := Lib.hid (And.intro hfin (And.intro hvn hI6))
                        clear hI5 hI6 hfin hvn hO5 hxy5 c15
                        go_wp2_with fail
                        refine (same_nil 0 _ true rfl).mono ?_
                        rintro e w7 ⟨rfl, rfl⟩
                        go_wp2_with fail
                        go_meet
                        exact ⟨row ++ [y], fp6, rfl, by simp; omega, HFIN.out.2.2, hP6, HFIN.out.1, HFIN.out.2.1, hxy6, (by have h1 := ho6.size; omega), hoo6⟩
                      · have hyin : y ∈ row := by simpa using hr
                        have hsl := Park.sleep_in fp w.heap.size hands row y wp hPr hy1 hy2 hyin
                        have hse := same_err 6 6 wp hgl.out true rfl
                        clear hr hyin
                        go_wp2_with fail
                        refine hri.mono ?_
                        rintro e w5 ⟨rfl, rfl⟩
                        clear hri
                        go_wp2_with fail
                        refine hsl.mono ?_
                        rintro e w5 ⟨rfl, rfl⟩
                        clear hsl
                        go_wp2_with fail
                        refine hse.mono ?_
                        rintro e w6 ⟨rfl, ho6⟩
                        clear hse
                        go_wp2_with fail
                        go_meet
                        (obtain ⟨rw6, fw6, _, hrest6⟩ := HSTAY.out w6 ho6; exact ⟨rw6, fw6, rfl, hrest6⟩)
                    · have hyr2 : y < 0 ∨ (0 ≤ y ∧ (hands : Int) ≤ y) := by omega
                      have hsl := Park.sleep_no fp w.heap.size hands row y wp hPr (by omega)
                      have hse := same_err 1 1 wp hgl.out true rfl
                      clear hyr hr
                      rcases hyr2 with hyr | ⟨hyr, hyr2⟩
                      all_goals
                        go_wp2_with fail
                        refine hri.mono ?_
                        rintro e w5 ⟨rfl, rfl⟩
                        clear hri
                        go_wp2_with fail
                        refine hsl.mono ?_
                        rintro e w5 ⟨rfl, rfl⟩
                        clear hsl
                        go_wp2_with fail
                        refine hse.mono ?_
                        rintro e w6 ⟨rfl, ho6⟩
                        clear hse
                        go_wp2_with fail
                        go_meet
                        (obtain ⟨rw6, fw6, _, hrest6⟩ := HSTAY.out w6 ho6; exact ⟨rw6, fw6, rfl, hrest6⟩)
              case rest =>
                as_aux_lemma =>
                  obtain ⟨row', fp', rfl, hrow', hI', hP', hfp', hvb', hxy', hwpx, ho'⟩ := hcut
                  have hrl : row'.length ≤ 61 := by omega
                  clear hIp hPp hvf hxy hop c0 c1 hcV
                  obtain ⟨r, hr⟩ : ∃ r, decide (y ∈ row') = r := ⟨_, rfl⟩
                  have hri := ref_in _ row' y wc hI'.reads (by omega) r hr
                  have c1 := hxy'.cell 1 _ rfl
                  have hmany := Park.many fp' w.heap.size hands row'
                  have HMANY := Lib.hid hmany
                  have HREL := Lib.hid (fun w6 (ho7 : Only [] wc w6) => And.intro (hI'.only ho7 (by simp)) (And.intro (hP'.only ho7 (by simp)) (And.intro (show w2.heap.size ≤ w6.heap.size by have h1 := ho7.size; have h2 := hbase.out; omega) (ho'.trans ho7 (by simp)))))
                  have HFP' := Lib.hid hfp'
                  have hgl' := Lib.hid (HG.out.only ho')
                  obtain ⟨ra, rc, hrv, _⟩ := hI'.opt
                  subst hrv
                  clear hmany hfp' hI' ho'
                  go_wp2_with fail
                  refine hri.mono ?_
                  rintro e w5 ⟨rfl, rfl⟩
                  clear hri
                  by_cases hyr : 0 ≤ y ∧ y < hands
                  · obtain ⟨hy1, hy2⟩ := hyr
                    have haw := Park.awake fp' w.heap.size hands row' y wc hP' hy1 hy2 r hr
                    clear hr hP'
                    go_wp2_with fail
                    refine haw.mono ?_
                    rintro e w5 ⟨rfl, rfl⟩
                    clear haw
                    go_wp2_with fail
                    refine (same_nil 0 _ true rfl).mono ?_
                    rintro e w5 ⟨rfl, rfl⟩
                    have hm := HMANY.out wc (HREL.out wc (Only.refl _ _)).2.1
                    cases r
                    all_goals
                      go_wp2_with fail
                      refine hm.mono ?_
                      rintro e w6 ⟨rfl, rfl⟩
                      clear hm
                      go_wp2
                      go_roundw
                      case rel =>
                        obtain ⟨r1, r2, r4, r3⟩ := HREL.out wc (Only.refl _ _)
                        exact ⟨i + 1, row', fp', by omega, by omega, by go_num, hrow', r1, r2, fun z hz => ⟨(HFP'.out z hz).1, (HFP'.out z hz).2.1⟩, r4, r3⟩
                      case measure => (simp [intOf]; try omega)
                  · have hyr2 : y < 0 ∨ (0 ≤ y ∧ (hands : Int) ≤ y) := by omega
                    have haw := Park.awake_no fp' w.heap.size hands row' y wc hP' (by omega)
                    have hse := same_err 1 1 wc hgl'.out true rfl
                    clear hyr hr hP'
                    rcases hyr2 with hyr | ⟨hyr, hyr2⟩
                    all_goals
                      go_wp2_with fail
                      refine haw.mono ?_
                      rintro e w5 ⟨rfl, rfl⟩
                      clear haw
                      go_wp2_with fail
                      refine hse.mono ?_
                      rintro e w6 ⟨rfl, ho6⟩
                      clear hse
                      have hm := HMANY.out w6 (HREL.out w6 ho6).2.1
                      go_wp2_with fail
                      refine hm.mono ?_
                      rintro e w7 ⟨rfl, rfl⟩
                      clear hm
                      go_wp2
                      go_roundw
                      case rel =>
                        obtain ⟨r1, r2, r4, r3⟩ := HREL.out w6 ho6
                        exact ⟨i + 1, row', fp', by omega, by omega, by go_num, hrow', r1, r2, fun z hz => ⟨(HFP'.out z hz).1, (HFP'.out z hz).2.1⟩, r4, r3⟩
                      case measure => (simp [intOf]; try omega)
      · have hout : l1.length ≤ i ∨ (i < l1.length ∧ 60 ≤ i) := by omega
        clear hlt
        rcases hout with h | ⟨h, h2⟩
        all_goals
          go_wp2
          go_ret
          exact ⟨rfl, ho.below (Nat.le_refl _) (by simp)⟩
  · have hout : a0 < 1 ∨ (1 ≤ a0 ∧ 6 < a0) := by omega
    have hno := park_new_no a0 w (by omega)
    have he := same_err 1 1 w HG.out true rfl
    clear hin
    go_enter Tryd.func7, Tryd.ntmps7
    rcases hout with h | ⟨h, h2⟩
    all_goals
      go_wp2_with fail
      refine hno.mono ?_
      rintro e w2 ⟨rfl, rfl⟩
      go_wp2_with fail
      refine he.mono ?_
      rintro e w3 ⟨rfl, ho3⟩
      clear hno he
      go_wp2
      go_ret
      exact ⟨rfl, ho3.below (Nat.le_refl _) (by simp)⟩

end Go.Proofs.YtmjicogmgkeilaaDoor.parkPlays
