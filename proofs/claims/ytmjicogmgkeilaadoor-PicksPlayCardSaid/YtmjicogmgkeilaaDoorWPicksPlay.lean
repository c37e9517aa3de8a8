/-
  The statement PicksPlay: any numbers that are handed in, and what is picked of them. No condition but the listed variable's.
-/
import Derived.Test.YtmjicogmgkeilaaDoorFrame
import Derived.Test.YtmjicogmgkeilaaDoorTellFrame
import Derived.Test.YtmjicogmgkeilaaDoorShuffle
import Derived.Test.YtmjicogmgkeilaaDoorSame
namespace Go.Proofs.YtmjicogmgkeilaaDoor.picksPlay
open Go.ChangeShapes Go.WideShapes Go.ChangeAt Go.RowKit
open Go.ChangeMaps (open_string shut_string)
set_option linter.unusedVariables false

theorem nth_nonneg {l : List Int} (h : ∀ x ∈ l, 0 ≤ x) (j : Nat) (hj : j < l.length) : 0 ≤ nth l j := h _ (by simp [nth, hj])
theorem nonneg_of_nth {l : List Int} (h : ∀ j, j < l.length → 0 ≤ nth l j) : ∀ x ∈ l, 0 ≤ x := by
  intro x hx
  obtain ⟨j, hj, rfl⟩ := List.getElem_of_mem hx
  have := h j hj
  simpa [nth, hj] using this

set_option maxHeartbeats 16000000 in
set_option maxRecDepth 100000 in
theorem walk (v0 : Value) (l0 : List Int) (v1 : Value) (l1 : List Int) (a2 : Int) (w : World) (hglob : Glob w) (w0 : InInts w v0 l0) (w1 : InInts w v1 l1) (w2 : (Lit.int .i64 a2).wf = true) :
    Calls Tryd.prog 8 #[v0, v1, .int .i64 a2] w fun e w' => e = .returned (.bool true) ∧ Below w.heap.size w w' := by
  have bd2 := bounds_i64 w2
  have HG := Lib.hid hglob
  have hrd := w0.reads
  have hbd := w0.bounds
  have hln := w0.len
  have hb1 := w1.bounds
  obtain ⟨va, vc, rfl, hva⟩ := w0.opt
  obtain ⟨xa, xc, rfl, hxa⟩ := w1.opt
  clear w0 w1 w2 hglob
  obtain ⟨ln, hlen⟩ : ∃ ln, l0.length = ln := ⟨_, rfl⟩
  have HLN := Lib.hid hlen
  unfold maxLen at hln
  by_cases h400 : ln ≤ 400
  · by_cases hpos : ∀ x ∈ l0, 0 ≤ x
    · have hnew := Picks.new _ l0 w hrd (by omega) (fun x hx => ⟨hpos x hx, (hbd x hx).2⟩)
      have Hpos := Lib.hid hpos
      rw [hlen] at hva hrd hnew hln ⊢
      have HNEW := Lib.hid hnew
      clear hlen hpos hbd hnew hrd
      go_enter Tryd.func8, Tryd.ntmps8
      go_wp2_with fail
      go_loop [7, 8] (fun ve vi => ve = .int .i64 0 ∧ ∃ i : Nat, i ≤ ln ∧ vi = .int .i64 i) (fun _ vi => ln - (intOf vi).toNat)
      case atStart => exact ⟨rfl, 0, Nat.zero_le _, rfl⟩
      case round =>
        obtain ⟨rfl, i, hi, rfl⟩ := hrel
        by_cases hin : i < ln
        · obtain ⟨ba, oa, rfl, k0⟩ := hva i hin
          have hz := nth_nonneg Hpos.out i (by rw [HLN.out]; exact hin)
          obtain ⟨z, hze⟩ : ∃ z, nth l0 i = z := ⟨_, rfl⟩
          rw [hze] at k0 hz
          clear hva hxa hze
          go_wp2
          go_round
          case rel => exact ⟨rfl, i + 1, by omega, by go_num⟩
          case measure => (simp [intOf]; try omega)
        · obtain rfl : i = ln := by omega
          go_wp2_with fail
          refine HNEW.out.mono ?_
          rintro e w1 ⟨b, fp, rfl, hP, ho, hfp⟩
          clear HNEW
          have hwb : w.heap.size ≤ b := hfp b hP.lt.1
          have hall := Lib.hid hP.all
          go_wp2_with fail
          refine (same_nil 0 _ true rfl).mono ?_
          rintro e w2 ⟨rfl, rfl⟩
          go_wp2_with fail
          go_loopw [12, 13] (fun vu vk wr => ∃ (k u : Nat), k ≤ l1.length ∧ k ≤ 60 ∧ vk = .int .i64 k ∧ vu = .int .i64 u ∧ PicksIs wr fp b l0 u ∧ Only [] w wr) (fun _ vk _ => 60 - (intOf vk).toNat)
          case atStart => exact ⟨0, 0, Nat.zero_le _, by omega, rfl, rfl, hP, ho⟩
          case round =>
            obtain ⟨wo, rfl⟩ : ∃ wo : World, wo = wr := ⟨_, rfl⟩
            obtain ⟨k, u, hk, hk60, rfl, rfl, hPr, hor⟩ := hrel
            clear hP ho
            have hul : u ≤ i := by rw [← HLN.out]; exact hPr.le
            by_cases hlt : k < l1.length ∧ k < 60
            · as_aux_lemma =>
                obtain ⟨hlt, hlt60⟩ := hlt
                obtain ⟨xb, xo, rfl, hc0⟩ := hxa k hlt
                have hcell : wo.cell? ⟨xb, xo + k, none⟩ = some (.int .i64 (nth l1 k)) := (hor.cell (p := ⟨xb, _, none⟩) (cell_lt hc0) (by simp)).trans hc0
                have hgl := Lib.hid (HG.out.only hor)
                have HOR := Lib.hid hor
                have hqb := hb1 (nth l1 k) (by simp [nth, hlt])
                obtain ⟨q, hq⟩ : ∃ q, nth l1 k = q := ⟨_, rfl⟩
                rw [hq] at hcell hqb
                clear hxa hc0 hq hb1
                by_cases hqr : 1 ≤ q ∧ q ≤ 400
                · obtain ⟨hq1, hq2⟩ := hqr
                  have hnx := fun m => Picks.Next fp b l0 u q (wo.drewN m) (hPr.only ((Only.refl [] wo).drewN m) (by simp)) hq1 hq2
                  by_cases hun : u < i
                  · obtain ⟨ba, oa, rfl, k0⟩ := hva u hun
                    have c0 : wo.cell? ⟨ba, oa + u, none⟩ = some (.int .i64 (nth l0 u)) := (hor.cell (p := ⟨ba, _, none⟩) (cell_lt k0) (by simp)).trans k0
                    have hz := nth_nonneg Hpos.out u (by rw [HLN.out]; exact hun)
                    rw [show pickOf l0 u q = nth l0 u % q by unfold pickOf; rw [if_neg (by rw [HLN.out]; omega)], show pickUp l0 u = u + 1 by unfold pickUp; rw [if_neg (by rw [HLN.out]; omega)]] at hnx
                    obtain ⟨z, hze⟩ : ∃ z, nth l0 u = z := ⟨_, rfl⟩
                    rw [hze] at c0 hz hnx
                    have htm : z.tmod q = z % q := Int.tmod_eq_emod_of_nonneg hz
                    have hmod : 0 ≤ z % q ∧ z % q ≤ 400 := ⟨Int.emod_nonneg _ (by omega), by have := Int.emod_lt_of_pos z (show 0 < q by omega); omega⟩
                    have hwr2 : IntKind.i64.wrap (z % q) = z % q := IntWalk.i64_in _ (by omega)
                    have hq0 : (q == 0) = false := by simp; omega
                    obtain ⟨r, hr⟩ : ∃ r, z % q = r := ⟨_, rfl⟩
                    rw [hr] at hnx htm hmod hwr2
                    have HNX := Lib.hid hnx
                    clear hva k0 hze hr hnx hor hPr
                    go_wp2_with fail
                    go_quiet (fail)
                    go_wp2_with fail
                    clear htm hwr2
                    refine (HNX.out _).mono ?_
                    rintro e w7 ⟨rfl, hP7, ho7⟩
                    have hoo7 := (HOR.out.drewN nq).fresh ho7 hwb
                    clear HNX ho7
                    go_wp2_with fail
                    refine (same_nil 0 _ true rfl).mono ?_
                    rintro e w8 ⟨rfl, rfl⟩
                    go_wp2_with fail
                    refine (Picks.used fp b l0 _ _ hP7).mono ?_
                    rintro e w9 ⟨rfl, rfl⟩
                    go_wp2
                    go_roundw

                    case rel => exact ⟨k + 1, u + 1, by omega, by omega, by go_num, by go_num, hP7, hoo7⟩
                    case measure => (simp [intOf]; try omega)
                  · have hui : u = l0.length := by rw [HLN.out]; omega
                    rw [show pickOf l0 u q = 0 by unfold pickOf; rw [if_pos hui], show pickUp l0 u = u by unfold pickUp; rw [if_pos hui]] at hnx
                    have HNX := Lib.hid (hnx 0)
                    clear hva hnx hor hPr hui
                    go_wp2_with fail
                    refine HNX.out.mono ?_
                    rintro e w7 ⟨rfl, hP7, ho7⟩
                    have hoo7 := HOR.out.fresh (c := w7) ho7 hwb
                    clear HNX ho7
                    go_wp2_with fail
                    refine (same_nil 0 _ true rfl).mono ?_
                    rintro e w8 ⟨rfl, rfl⟩
                    go_wp2_with fail
                    refine (Picks.used fp b l0 _ _ hP7).mono ?_
                    rintro e w9 ⟨rfl, rfl⟩
                    go_wp2
                    go_roundw

                    case rel => exact ⟨k + 1, u, by omega, by omega, by go_num, rfl, hP7, hoo7⟩
                    case measure => (simp [intOf]; try omega)
                · have hq2 : q < 1 ∨ (1 ≤ q ∧ 400 < q) := by omega
                  have hnx := Picks.Next_no b q wo (by omega)
                  have HNX := Lib.hid hnx
                  clear hnx hqr hva
                  rcases hq2 with hq2 | ⟨hq1, hq2⟩
                  all_goals
                    go_wp2_with fail
                    refine HNX.out.mono ?_
                    rintro e w7 ⟨rfl, rfl⟩
                    go_wp2_with fail
                    refine (same_err 1 1 _ hgl.out true rfl).mono ?_
                    rintro e w8 ⟨rfl, ho8⟩
                    have hP8 := hPr.only ho8 (by simp)
                    have hoo8 := HOR.out.trans ho8 (by simp)
                    clear hPr ho8
                    go_wp2_with fail
                    refine (Picks.used fp b l0 u _ hP8).mono ?_
                    rintro e w9 ⟨rfl, rfl⟩
                    go_wp2
                    go_roundw
                    case rel => exact ⟨k + 1, u, by omega, by omega, by go_num, rfl, hP8, hoo8⟩
                    case measure => (simp [intOf]; try omega)
            · have hout : l1.length ≤ k ∨ (k < l1.length ∧ 60 ≤ k) := by omega
              clear hlt hxa
              rcases hout with hout | ⟨hout, hout2⟩
              all_goals
                as_aux_lemma =>
                  by_cases hn : 0 ≤ a2 ∧ a2 ≤ 30
                  · obtain ⟨hn1, hn2⟩ := hn
                    obtain ⟨n, rfl⟩ := Int.eq_ofNat_of_zero_le hn1
                    have hn30 : n ≤ 30 := by omega
                    have hblo := hPr.lt.2 b hPr.lt.1
                    have Hlt := Lib.hid hPr.lt.2
                    have hP0 := hPr
                    go_wp2_with fail
                    go_loopw [17, 18] (fun vo vi wr => ∃ y : Nat, y ≤ n ∧ vi = .int .i64 y ∧ Ints wr wo.heap.size vo (numsTo y) ∧ Only [] wo wr) (fun _ vi _ => n - (intOf vi).toNat)
                    case atStart => exact ⟨0, Nat.zero_le _, rfl, Ints.nil _ _, Only.refl _ _⟩
                    case round =>
                      obtain ⟨wy, rfl⟩ : ∃ wy : World, wy = wr := ⟨_, rfl⟩
                      obtain ⟨y, hy, rfl, hI, hoy⟩ := hrel
                      have hszy := hoy.size
                      obtain ⟨oa, oc, rfl, _⟩ := hI.opt
                      have hl := Lib.hid (numsTo_len y)
                      rw [hl.out] at hI ⊢
                      by_cases hyn : y < n
                      · have hp := Lib.hid (numsTo_push y)
                        go_wp2_with (at_builtin; refine wpList_push rfl (.tmp 134) (.tmp 136) rfl wy wo.heap.size _ _ _ y y hI hl.out (by omega) hszy rfl rfl ((Only.refl [] wy).alloc _) (World.cell?_alloc_at _ _ _ _ rfl) ?_; intro g cap w3 hI3 hO3 hK3)
                        rw [hp.out] at hI3
                        have ho3 := Lib.hid (hoy.pushed hI (Nat.le_refl _) hO3)
                        go_roundw
                        case rel => exact ⟨y + 1, by omega, by go_num, hI3, ho3.out⟩
                        case measure => (simp [intOf]; try omega)
                      · obtain rfl : y = n := by omega
                        have hPy := hPr.only hoy (by simp)
                        clear hPr
                        by_cases hy0 : y = 0
                        · subst hy0
                          have hfin : Hid (shuf l0 u 0 = ([], u)) := rfl
                          have hxl9 : Hid (([] : List Int).length = 0) := rfl
                          have hI9 : Ints wy wo.heap.size (.slice oa 0 oc) [] := hI
                          have hP9 := hPy
                          have hoo9 := hor.trans hoy (by simp)
                          clear hI hPy
                          go_wp2_with fail
                          go_loop [12, 19] (fun vu vi => vu = .int .i64 u ∧ vi = .int .i64 (-1)) (fun _ _ => 0)
                          case atStart => exact ⟨rfl, rfl⟩
                          case round =>
                            obtain ⟨rfl, rfl⟩ := hrel
                            go_wp2_with fail
                            refine (Picks.shuffle fp b l0 u 0 _ hP9 (by omega)).mono ?_
                            rintro e ws ⟨vs, rfl, hIs, hPs, hos⟩
                            rw [hfin.out] at hIs hPs
                            have hIw := hI9.only hos (fun g9 h9 hx => by have := (World.ownsRow.lt hI9 g9 h9).1; simp at hx; omega)
                            have hoos := hoo9.fresh hos hwb
                            clear hI9 hP9 hoo9 hos
                            go_wp2_with fail
                            refine (same_nil 0 _ true rfl).mono ?_
                            rintro e wt ⟨rfl, rfl⟩
                            go_wp2_with fail
                            refine (same_ints _ _ _ _ hIs.reads hIw.reads (by rw [hxl9.out]; omega)).mono ?_
                            rintro e wu ⟨rfl, mu, rfl⟩
                            have hPu := hPs.only (S := []) ((Only.refl [] ws).drewN mu) (by simp)
                            go_wp2_with fail
                            refine (Picks.used fp b l0 _ _ hPu).mono ?_
                            rintro e wv ⟨rfl, rfl⟩
                            go_wp2
                            go_ret
                            exact ⟨by simp, (hoos.drewN mu).below (Nat.le_refl _) (by simp)⟩
                        · obtain ⟨g, cap9, hge, hgb, hgl⟩ := hI.sized y hl.out (by omega)
                          injection hge with hge1 hge2 hge3
                          subst hge1
                          subst hge3
                          have hst : (y : Int) - 1 = ((y - 1 : Nat) : Int) := by omega
                          obtain ⟨top, htop⟩ : ∃ top, y - 1 = top := ⟨_, rfl⟩
                          have hti1 : y ≤ top + 1 := by omega
                          have hti2 : top + 1 ≤ y := by omega
                          have hshuf : Hid (shuf l0 u y = shufTo l0 top (numsTo y, u)) := by show _ = _; unfold shuf; rw [htop]
                          rw [htop] at hst
                          clear htop
                          go_wp2_with fail
                          go_loopw [12, 19] (fun vu vi wz => ∃ (j : Nat) (xs : List Int) (u' : Nat), j ≤ top ∧ vi = .int .i64 j ∧ vu = .int .i64 u' ∧ u' ≤ i ∧ shufTo l0 j (xs, u') = shufTo l0 top (numsTo y, u) ∧ Each y xs ∧ Ints wz wo.heap.size (.slice (some ⟨g, 0, none⟩) y oc) xs ∧ Only [] wo wz) (fun _ vi _ => (intOf vi).toNat)
                          case atStart => exact ⟨top, _, u, Nat.le_refl _, rfl, rfl, hul, rfl, numsTo_each y, hI, hoy⟩
                          case round =>
                            obtain ⟨wz, rfl⟩ : ∃ wz : World, wz = wr := ⟨_, rfl⟩
                            obtain ⟨n, rfl⟩ : ∃ n, n = y := ⟨_, rfl⟩
                            obtain ⟨j, xs, u', hj, rfl, rfl, hu', hsh, hE, hI4, ho4⟩ := hrel
                            clear hI hst
                            have HSH := Lib.hid hsh
                            have HE := Lib.hid hE
                            clear hsh hE
                            rcases j with _ | j
                            · have hfin : Hid (shuf l0 u n = (xs, u')) := by show _ = _; rw [hshuf.out, ← HSH.out]; rfl
                              have hxl9 : Hid (xs.length = n) := HE.out.1
                              have hI9 := hI4
                              have hP9 : PicksIs wz fp b l0 u := hP0.only ho4 (by simp)
                              have hoo9 := hor.trans ho4 (by simp)
                              clear hI4 ho4
                              go_wp2_with fail
                              refine (Picks.shuffle fp b l0 u n _ hP9 (by omega)).mono ?_
                              rintro e ws ⟨vs, rfl, hIs, hPs, hos⟩
                              rw [hfin.out] at hIs hPs
                              have hIw := hI9.only hos (fun g9 h9 hx => by have := (World.ownsRow.lt hI9 g9 h9).1; simp at hx; omega)
                              have hoos := hoo9.fresh hos hwb
                              clear hI9 hP9 hoo9 hos
                              go_wp2_with fail
                              refine (same_nil 0 _ true rfl).mono ?_
                              rintro e wt ⟨rfl, rfl⟩
                              go_wp2_with fail
                              refine (same_ints _ _ _ _ hIs.reads hIw.reads (by rw [hxl9.out]; omega)).mono ?_
                              rintro e wu ⟨rfl, mu, rfl⟩
                              have hPu := hPs.only (S := []) ((Only.refl [] ws).drewN mu) (by simp)
                              go_wp2_with fail
                              refine (Picks.used fp b l0 _ _ hPu).mono ?_
                              rintro e wv ⟨rfl, rfl⟩
                              go_wp2
                              go_ret
                              exact ⟨by simp, (hoos.drewN mu).below (Nat.le_refl _) (by simp)⟩
                            · have hjc : (((j + 1 : Nat) : Int)) = (j : Int) + 1 := by omega
                              have hpk := pickOf_range l0 u' ((j : Int) + 2) hall.out (by omega)
                              have HK : Hid (shufTo l0 j (swapAt xs (j + 1) (pickOf l0 u' ((j : Int) + 2)).toNat, pickUp l0 u') = shufTo l0 top (numsTo n, u)) := by
                                show _ = _; rw [← HSH.out]; rfl
                              obtain ⟨kk, hk⟩ := Int.eq_ofNat_of_zero_le hpk.1
                              rw [hk] at hpk HK
                              rw [Int.toNat_natCast] at HK
                              rw [hjc]
                              have hxl : xs.length = n := HE.out.1
                              have hki : kk < n := by omega
                              have hji : j + 1 < n := by omega
                              have ci := hI4.cell (j + 1) (by omega)
                              have ck := hI4.cell kk (by omega)
                              have fi := hI4.free (j + 1)
                              have fk := hI4.free kk
                              have HEs := Lib.hid (HE.out.swap (j + 1) kk hji hki)
                              obtain ⟨a, ha⟩ : ∃ a, nth xs (j + 1) = a := ⟨_, rfl⟩
                              obtain ⟨c, hc⟩ : ∃ c, nth xs kk = c := ⟨_, rfl⟩
                              rw [ha] at ci
                              rw [hc] at ck
                              have HA := Lib.hid ha
                              have HC := Lib.hid hc
                              clear HSH hxl ha hc
                              by_cases hun : u' < i
                              · obtain ⟨ba, oa2, rfl, k0⟩ := hva u' hun
                                have how := hor.trans ho4 (by simp)
                                have c0 : wz.cell? ⟨ba, oa2 + u', none⟩ = some (.int .i64 (nth l0 u')) := (how.cell (p := ⟨ba, _, none⟩) (cell_lt k0) (by simp)).trans k0
                                have hz := nth_nonneg Hpos.out u' (by rw [HLN.out]; exact hun)
                                have hpe : pickOf l0 u' ((j : Int) + 2) = nth l0 u' % ((j : Int) + 2) := by unfold pickOf; rw [if_neg (by rw [HLN.out]; omega)]
                                have hup : Hid (pickUp l0 u' = u' + 1) := by show _ = _; unfold pickUp; rw [if_neg (by rw [HLN.out]; omega)]
                                rw [hpe] at hk
                                obtain ⟨z, hze⟩ : ∃ z, nth l0 u' = z := ⟨_, rfl⟩
                                rw [hze] at c0 hz hk
                                have hk2 : z % ((j : Int) + 1 + 1) = (kk : Int) := by rw [show (j : Int) + 1 + 1 = (j : Int) + 2 by omega]; exact hk
                                rw [hup.out] at HK
                                have hIf : Hid (Ints ((wz.setCell ⟨g, j + 1, none⟩ (.int .i64 c)).setCell ⟨g, kk, none⟩ (.int .i64 a)) wo.heap.size (.slice (some ⟨g, 0, none⟩) n oc) (swapAt xs (j + 1) kk)) := by
                                  have := (hI4.set (j + 1) c).set kk a
                                  unfold swapAt
                                  rw [HA.out, HC.out]
                                  exact this
                                have hOf : Hid (Only [] wo ((wz.setCell ⟨g, j + 1, none⟩ (.int .i64 c)).setCell ⟨g, kk, none⟩ (.int .i64 a))) :=
                                  (ho4.setCell (fun h => by simp at h; omega) _).setCell (fun h => by simp at h; omega) _
                                have hI5 := hI4.set (j + 1) c
                                have hk9 := hI5.cell kk (by rw [List.length_set, HE.out.1]; exact hki)
                                have hf9 := hI5.free kk
                                obtain ⟨v9, hv9⟩ : ∃ v9, nth (xs.set (j + 1) c) kk = v9 := ⟨_, rfl⟩
                                rw [hv9] at hk9
                                clear hI5 hv9
                                clear hI4 ho4
                                clear hva k0 how hze hpe hk
                                go_wp2
                                go_roundw
                                case rel => exact ⟨j, _, u' + 1, by omega, by go_num, by go_num, by omega, HK.out, HEs.out, hIf.out, hOf.out⟩
                                case measure => (simp [intOf]; try omega)
                              · have hui : u' = l0.length := by rw [HLN.out]; omega
                                have hpe : pickOf l0 u' ((j : Int) + 2) = 0 := by unfold pickOf; rw [if_pos hui]
                                have hup : Hid (pickUp l0 u' = u') := by show _ = _; unfold pickUp; rw [if_pos hui]
                                obtain rfl : kk = 0 := by omega
                                rw [hup.out] at HK
                                have hIf : Hid (Ints ((wz.setCell ⟨g, j + 1, none⟩ (.int .i64 c)).setCell ⟨g, 0, none⟩ (.int .i64 a)) wo.heap.size (.slice (some ⟨g, 0, none⟩) n oc) (swapAt xs (j + 1) 0)) := by
                                  have := (hI4.set (j + 1) c).set 0 a
                                  unfold swapAt
                                  rw [HA.out, HC.out]
                                  exact this
                                have hOf : Hid (Only [] wo ((wz.setCell ⟨g, j + 1, none⟩ (.int .i64 c)).setCell ⟨g, 0, none⟩ (.int .i64 a))) :=
                                  (ho4.setCell (fun h => by simp at h; omega) _).setCell (fun h => by simp at h; omega) _
                                clear hI4 ho4
                                have hn0 : 0 < n := by omega
                                clear hva hui hpe hk
                                go_wp2
                                go_roundw
                                case rel => exact ⟨j, _, u', by omega, by go_num, rfl, by omega, HK.out, HEs.out, hIf.out, hOf.out⟩
                                case measure => (simp [intOf]; try omega)
                  · have hn2 : a2 < 0 ∨ (0 ≤ a2 ∧ 30 < a2) := by omega
                    have hn3 : Hid (a2 < 0 ∨ 30 < a2) := by show _ ∨ _; omega
                    clear hn
                    rcases hn2 with hn2 | ⟨hn2, hn4⟩
                    all_goals
                      go_wp2_with fail
                      go_loop [17, 18] (fun vo vi => vo = .slice none 0 0 ∧ vi = .int .i64 0) (fun _ _ => 0)
                      case atStart => exact ⟨rfl, rfl⟩
                      case round =>
                        obtain ⟨rfl, rfl⟩ := hrel
                        go_wp2_with fail
                        go_loop [12, 19] (fun vu vi => vu = .int .i64 u ∧ ∃ z : Int, vi = .int .i64 z) (fun _ _ => 0)
                        case atStart => exact ⟨rfl, _, rfl⟩
                        case round =>
                          obtain ⟨rfl, z, rfl⟩ := hrel
                          by_cases hz : 0 < z
                          all_goals
                            go_wp2_with fail
                            refine (Picks.shuffle_no b a2 _ hn3.out).mono ?_
                            rintro e ws ⟨rfl, rfl⟩
                            have hgl := HG.out.only hor
                            go_wp2_with fail
                            refine (same_err 1 1 _ hgl true rfl).mono ?_
                            rintro e wt ⟨rfl, ho8⟩
                            have hP8 := hPr.only ho8 (by simp)
                            have hoo8 := hor.trans ho8 (by simp)
                            go_wp2_with fail
                            refine (same_ints _ _ [] _ (.inl ⟨rfl, .inl rfl⟩) (.inl ⟨rfl, .inl rfl⟩) (by simp)).mono ?_
                            rintro e wu ⟨rfl, mu, rfl⟩
                            have hPu := hP8.only (S := []) ((Only.refl [] wt).drewN mu) (by simp)
                            go_wp2_with fail
                            refine (Picks.used fp b l0 _ _ hPu).mono ?_
                            rintro e wv ⟨rfl, rfl⟩
                            go_wp2
                            go_ret
                            exact ⟨by simp, (hoo8.drewN mu).below (Nat.le_refl _) (by simp)⟩
    · have hnew := Picks.new_bad _ l0 w hrd (by omega) hpos
      have Hpos := Lib.hid hpos
      rw [hlen] at hva hrd hnew hln ⊢
      have HNEW := Lib.hid hnew
      clear hlen hpos hbd hnew hrd
      go_enter Tryd.func8, Tryd.ntmps8
      go_wp2_with fail
      go_loop [7, 8] (fun ve vi => ∃ i : Nat, i ≤ ln ∧ vi = .int .i64 i ∧ (ve = .int .i64 0 ∧ (∀ j, j < i → 0 ≤ nth l0 j) ∨ ve = .int .i64 1)) (fun _ vi => ln - (intOf vi).toNat)
      case atStart => exact ⟨0, Nat.zero_le _, rfl, .inl ⟨rfl, fun j hj => by omega⟩⟩
      case round =>
        obtain ⟨i, hi, rfl, ⟨rfl, hno⟩ | rfl⟩ := hrel
        · have HNO := Lib.hid hno
          clear hno
          by_cases hin : i < ln
          · obtain ⟨ba, oa, rfl, k0⟩ := hva i hin
            obtain ⟨z, hze⟩ : ∃ z, nth l0 i = z := ⟨_, rfl⟩
            rw [hze] at k0
            have HZ := Lib.hid hze
            clear hva hxa hze
            by_cases hz : z < 0
            · go_wp2
              go_round
              case rel => exact ⟨i + 1, by omega, by go_num, .inr rfl⟩
              case measure => (simp [intOf]; try omega)
            · go_wp2
              go_round
              case rel =>
                refine ⟨i + 1, by omega, by go_num, .inl ⟨rfl, fun j hj => ?_⟩⟩
                by_cases e : j = i
                · subst e; rw [HZ.out]; omega
                · exact HNO.out j (by omega)
              case measure => (simp [intOf]; try omega)
          · exact absurd (nonneg_of_nth (fun j hj => HNO.out j (by rw [HLN.out] at hj; omega))) Hpos.out
        · by_cases hin : i < ln
          all_goals
            go_wp2_with fail
            refine HNEW.out.mono ?_
            rintro e w1 ⟨rfl, ho⟩
            have hgl := HG.out.only ho
            go_wp2_with fail
            refine (same_err 1 1 _ hgl true rfl).mono ?_
            rintro e w2 ⟨rfl, ho2⟩
            go_wp2
            go_ret
            exact ⟨by simp, (ho.trans ho2 (by simp)).below (Nat.le_refl _) (by simp)⟩
  · have hnew := Picks.new_full _ l0 w hrd (by unfold maxLen; omega) (by omega)
    rw [hlen] at hva hrd hnew hln ⊢
    have HNEW := Lib.hid hnew
    have hd1 : decide (0 < ln) = true := by simp; omega
    clear hlen hbd hnew hrd
    go_enter Tryd.func8, Tryd.ntmps8
    go_wp2_with fail
    go_loop [7, 8] (fun ve vi => ve = .int .i64 4 ∧ vi = .int .i64 0) (fun _ _ => 0)
    case atStart => exact ⟨rfl, rfl⟩
    case round =>
      obtain ⟨rfl, rfl⟩ := hrel
      go_wp2_with fail
      refine HNEW.out.mono ?_
      rintro e w1 ⟨rfl, rfl⟩
      go_wp2_with fail
      refine (same_err 4 4 _ HG.out true rfl).mono ?_
      rintro e w2 ⟨rfl, ho2⟩
      go_wp2
      go_ret
      exact ⟨by simp, ho2.below (Nat.le_refl _) (by simp)⟩

end Go.Proofs.YtmjicogmgkeilaaDoor.picksPlay
