/-
  The statement HandPlays: anything that is put, taken, robbed: what comes, what goes out, what is near. No condition but the listed variable's.
-/
import Derived.Test.YtmjicogmgkeilaaDoorFrame
import Derived.Test.YtmjicogmgkeilaaDoorTellFrame
import Derived.Test.YtmjicogmgkeilaaDoorRefHand
import Derived.Test.YtmjicogmgkeilaaDoorSame
namespace Go.Proofs.YtmjicogmgkeilaaDoor.handPlays
open Go.ChangeShapes Go.WideShapes Go.ChangeAt Go.RowKit
open Go.ChangeMaps (open_string shut_string)
set_option linter.unusedVariables false

theorem last_cases (l : List Int) : l = [] ∨ ∃ l0 x, l = l0 ++ [x] := by
  by_cases h : l = []
  · exact .inl h
  · exact .inr ⟨l.dropLast, l.getLast h, (List.dropLast_concat_getLast h).symm⟩

theorem refhand_put (fp : List Nat) (d room : Nat) (near : Int) (l : List Int) (n : Int) (w : World) (h : RefHandIs w fp d room near l) (hr : l.length ≤ room) (hr16 : room ≤ 16) :
    Calls Tryd.prog 51 #[.pointer (some ⟨d, 0, none⟩), .int .i64 n] w fun e w' => ∃ v fp', e = .returned v ∧ Ints w' w.heap.size v (handOut near room l) ∧ RefHandIs w' fp' d room n (handRest near room l) ∧ Only fp w w' ∧ Kin w fp fp' := by
  unfold handOut handRest
  by_cases h0 : near < 0
  · rw [if_pos h0, if_pos h0]
    exact (RefHand.put_first fp d room near l n w h h0).mono fun e w' ⟨h1, h2, h3⟩ => ⟨_, fp, h1, Ints.nil _ _, h2, h3.mono (fun x hx _ => by simp at hx; subst hx; exact h.lt.1), Kin.refl _ _⟩
  · rw [if_neg h0, if_neg h0]
    by_cases hl : l.length < room
    · rw [if_pos hl, if_pos hl]
      exact (RefHand.put_room fp d room near l n w h (by omega) hl hr16).mono fun e w' ⟨fp', h1, h2, h3, h4⟩ => ⟨_, fp', h1, Ints.nil _ _, h2, h3, h4⟩
    · rw [if_neg hl, if_neg hl]
      exact (RefHand.put_full fp d room near l n w h (by omega) (by omega) hr16).mono fun e w' ⟨v, fp', h1, h2, h3, h4, h5⟩ => ⟨v, fp', h1, h2, h3, h4.mono (fun x hx _ => by simp at hx; subst hx; exact h.lt.1), h5⟩

set_option maxHeartbeats 8000000 in
set_option maxRecDepth 100000 in
theorem walk (a0 : Int) (v1 : Value) (l1 : List Int) (w : World) (hglob : Glob w) (w0 : (Lit.int .i64 a0).wf = true) (w1 : InInts w v1 l1) :
    Calls Tryd.prog 11 #[.int .i64 a0, v1] w fun e w' => e = .returned (.bool true) ∧ Below w.heap.size w w' := by
  have bd0 := bounds_i64 w0
  have HA := w1
  have HG := Lib.hid hglob
  have hb1 := w1.bounds
  clear w0 w1 hglob
  go_enter Tryd.func11, Tryd.ntmps11
  by_cases hr : 1 ≤ a0 ∧ a0 ≤ 16
  · obtain ⟨hr1, hr2⟩ := hr
    go_wp2_with fail
    refine (Hand.new _ _ (by omega) (by omega)).mono ?_
    rintro e w1 ⟨b, rb, rfl, hh, ho, hwb, hwrb⟩
    obtain ⟨room, rfl⟩ := Int.eq_ofNat_of_zero_le (show 0 ≤ a0 by omega)
    rw [Int.toNat_natCast] at hh
    have hroom : room ≤ 16 := by omega
    go_wp2_with fail
    refine (same_nil 0 _ true rfl).mono ?_
    rintro e w2 ⟨rfl, rfl⟩
    have hsz1 := ho.size
    have hbl := hh.cells.lt
    have hrbl := hh.ring.lt
    have hal := (Only.refl [] w1).alloc (.cells #[.int .i64 room, .int .i64 (-1), .slice none 0 0] 90)
    have hRef : RefHandIs (w1.alloc (.cells #[.int .i64 room, .int .i64 (-1), .slice none 0 0] 90)) [w1.heap.size] w1.heap.size room (-1) [] :=
      ⟨⟨_, Cells.new w1 #[.int .i64 room, .int .i64 (-1), .slice none 0 0] 90, Sl.nil _, by simp [own, Value.ownBlock], rfl⟩, by simp⟩
    have hh1 := hh.only hal (by simp) (by simp)
    have ho1 := ho.trans hal (by simp)
    obtain ⟨d, hd⟩ : ∃ d, w1.heap.size = d := ⟨_, rfl⟩
    have hnew : Hid (∀ x ∈ [w1.heap.size], w.heap.size ≤ x ∧ x ≠ b ∧ x ≠ rb) := by
      show ∀ x ∈ _, _
      intro x hx; simp at hx; subst hx; omega
    obtain ⟨sa, scap, rfl, hin⟩ := HA.opt
    clear HA hh ho hal hd
    go_wp2_with fail
    go_loopw [10] (fun vi wr => ∃ (i : Nat) (near : Int) (l : List Int) (fp : List Nat), i ≤ l1.length ∧ i ≤ 100 ∧ vi = .int .i64 i ∧ HandIs wr b rb near room l ∧ RefHandIs wr fp w1.heap.size room near l ∧ (∀ x ∈ fp, w.heap.size ≤ x ∧ x ≠ b ∧ x ≠ rb) ∧ Only [] w wr)
      (fun vi _ => 100 - (intOf vi).toNat)
    case atStart => exact ⟨0, -1, [], _, Nat.zero_le _, by omega, rfl, hh1, hRef, hnew.out, ho1⟩
    case round =>
      obtain ⟨wo, rfl⟩ : ∃ wo : World, wo = wr := ⟨_, rfl⟩
      obtain ⟨i, near, l, fp, hi, hi100, rfl, hH, hR, hfp, ho2⟩ := hrel
      clear hh1 hRef hnew ho1
      by_cases hlt : i < l1.length ∧ i < 100
      · obtain ⟨hlt, hlt100⟩ := hlt
        obtain ⟨ba, oa, rfl, hc0⟩ := hin i hlt
        have hcell : wo.cell? ⟨ba, oa + i, none⟩ = some (.int .i64 (nth l1 i)) := (ho2.cell (p := ⟨ba, oa + i, none⟩) (cell_lt hc0) (by simp)).trans hc0
        have hbaw : ba < w.heap.size := cell_lt hc0
        have HFP := Lib.hid hfp
        have hle := hH.ring.le
        have hbl2 := hH.cells.lt
        have hrbl2 := hH.ring.lt
        have hneg := hb1 (nth l1 i) (by simp [nth, hlt])
        obtain ⟨s, hs⟩ : ∃ s, nth l1 i = s := ⟨_, rfl⟩
        rw [hs] at hcell hneg
        clear hin hc0 hb1 hfp hs
        by_cases hskip : s < 0 ∧ s ≠ -1 ∧ s ≠ -2
        · obtain ⟨hs0, hs1, hs2⟩ := hskip
          have e1 : (s == -1) = false := by simpa using hs1
          have e2 : (s == -2) = false := by simpa using hs2
          clear hs1 hs2
          go_wp2
          go_roundw
          case rel => exact ⟨i + 1, near, l, fp, by omega, by omega, by go_num, hH, hR, HFP.out, ho2⟩
          case measure => (simp [intOf]; try omega)
        · have hs3 : s = -1 ∨ s = -2 ∨ 0 ≤ s := by omega
          clear hskip
          go_upto_block 2 with (fail)
          go_cut [8] (fun vt wx => ∃ (near' : Int) (l' : List Int) (fp' : List Nat), vt = .bool true ∧ HandIs wx b rb near' room l' ∧ RefHandIs wx fp' w1.heap.size room near' l' ∧ (∀ x ∈ fp', w.heap.size ≤ x ∧ x ≠ b ∧ x ≠ rb) ∧ Only [] w wx)
          case first =>
            as_aux_lemma =>
              have HO := Lib.hid ho2
              have hgl := Lib.hid (HG.out.only ho2)
              have hdf := hR.lt.1
              have hdb := HFP.out _ hdf
              have hdl := hR.lt.2 _ hdf
              have hbf : b ∉ fp := fun hx => (HFP.out b hx).2.1 rfl
              have hrf : rb ∉ fp := fun hx => (HFP.out rb hx).2.2 rfl
              obtain ⟨hwd, hdb1, hdb2⟩ := hdb
              clear ho2
              rcases hs3 with rfl | rfl | hs0
              · by_cases hn : 0 ≤ near
                · go_wp2_with fail
                  refine (RefHand.take_near fp _ room near l _ hR hn).mono ?_
                  rintro e w9 ⟨rfl, hR9, ho9⟩
                  have hH9 := hH.only ho9 (by simp; omega) (by simp; omega)
                  have hoo9 := HO.out.kin ho9 (by simp; omega)
                  clear hR hH ho9
                  go_wp2_with fail
                  refine (Hand.take_near _ _ _ _ _ _ hH9 hn).mono ?_
                  rintro e w10 ⟨rfl, hH10, ho10⟩
                  have hR10 := hR9.only ho10 (fun x hx hx2 => by simp at hx2; subst hx2; exact hbf hx)
                  have hoo10 := hoo9.kin ho10 (by simp; omega)
                  clear hR9 hH9 hoo9 ho10
                  go_wp2_with fail
                  refine (same_nil 0 _ true rfl).mono ?_
                  rintro e w11 ⟨rfl, rfl⟩
                  go_wp2_with fail
                  go_meet
                  exact ⟨-1, l, fp, rfl, hH10, hR10, HFP.out, hoo10⟩
                · have hn2 : near < 0 := by omega
                  rcases last_cases l with rfl | ⟨l0, x, rfl⟩
                  · go_wp2_with fail
                    refine (RefHand.take_none fp _ room near _ hR hn2).mono ?_
                    rintro e w9 ⟨rfl, rfl⟩
                    go_wp2_with fail
                    refine (Hand.take_none _ _ _ _ _ hH hn2).mono ?_
                    rintro e w10 ⟨rfl, rfl⟩
                    go_wp2_with fail
                    refine (same_err 5 5 _ hgl.out true rfl).mono ?_
                    rintro e w11 ⟨rfl, ho11⟩
                    have hH11 := hH.only ho11 (by simp) (by simp)
                    have hR11 := hR.only ho11 (by simp)
                    have hoo11 := HO.out.trans ho11 (by simp)
                    clear hH hR ho11
                    go_wp2_with fail
                    go_meet
                    exact ⟨near, [], fp, rfl, hH11, hR11, HFP.out, hoo11⟩
                  · go_wp2_with fail
                    refine (RefHand.take_ring fp _ room near l0 x _ hR hn2).mono ?_
                    rintro e w9 ⟨rfl, hR9, ho9⟩
                    have hH9 := hH.only ho9 (by simp; omega) (by simp; omega)
                    have hoo9 := HO.out.kin ho9 (by simp; omega)
                    clear hR hH ho9
                    go_wp2_with fail
                    refine (Hand.take_ring _ _ _ _ _ _ _ hH9 hn2).mono ?_
                    rintro e w10 ⟨rfl, hH10, ho10⟩
                    have hR10 := hR9.only ho10 (fun x hx hx2 => by simp at hx2; subst hx2; exact hrf hx)
                    have hoo10 := hoo9.kin ho10 (by simp; omega)
                    clear hR9 hH9 hoo9 ho10
                    go_wp2_with fail
                    refine (same_nil 0 _ true rfl).mono ?_
                    rintro e w11 ⟨rfl, rfl⟩
                    go_wp2_with fail
                    go_meet
                    exact ⟨near, l0, fp, rfl, hH10, hR10, HFP.out, hoo10⟩
              · go_wp2_with fail
                refine (RefHand.rob fp _ room near l _ hR).mono ?_
                rintro e w9 ⟨v9, fp9, rfl, hI9, hR9, ho9, hk9⟩
                have hH9 := hH.only ho9 (by simp; omega) (by simp; omega)
                have hoo9 := HO.out.kin ho9 (by simp; omega)
                have hfp9 : Hid (∀ x ∈ fp9, w.heap.size ≤ x ∧ x ≠ b ∧ x ≠ rb) := by
                  show ∀ x ∈ _, _
                  intro x hx
                  rcases hk9 x hx with h | h
                  · exact HFP.out x h
                  · have := HO.out.size; omega
                clear hR hH ho9 hk9
                go_wp2_with fail
                refine (Hand.rob _ _ _ _ _ _ hH9).mono ?_
                rintro e w10 ⟨v10, rfl, hI10, hH10, ho10⟩
                have hR10 := hR9.only ho10 (fun x hx hx2 => by simp at hx2; subst hx2; exact (hfp9.out _ hx).2.2 rfl)
                have hI9' := hI9.only ho10 (fun g hg hx => by have := (World.ownsRow.lt hI9 g hg).1; simp at hx; omega)
                have hoo10 := hoo9.kin ho10 (by simp; omega)
                clear hR9 hH9 hoo9 ho10 hI9
                go_wp2_with fail
                refine (same_ints _ _ _ _ hI10.reads hI9'.reads (by simp; omega)).mono ?_
                rintro e w11 ⟨rfl, k11, rfl⟩
                go_wp2_with fail
                go_meet
                exact ⟨near, _, fp9, rfl, hH10.only ((Only.refl [] w10).drewN k11) (by simp) (by simp), hR10.only ((Only.refl [] w10).drewN k11) (by simp), hfp9.out, hoo10.drewN k11⟩
              · have e1 : (s == -1) = false := by simp; omega
                have e2 : (s == -2) = false := by simp; omega
                go_wp2_with fail
                refine (refhand_put fp _ room near l s _ hR hle hroom).mono ?_
                rintro e w9 ⟨v9, fp9, rfl, hI9, hR9, ho9, hk9⟩
                have hH9 := hH.only ho9 hbf hrf
                have hoo9 := HO.out.kin ho9 (fun x hx => (HFP.out x hx).1)
                have hfp9 : Hid (∀ x ∈ fp9, w.heap.size ≤ x ∧ x ≠ b ∧ x ≠ rb) := by
                  show ∀ x ∈ _, _
                  intro x hx
                  rcases hk9 x hx with h | h
                  · exact HFP.out x h
                  · have := HO.out.size; omega
                have hcell9 : w9.cell? ⟨ba, oa + i, none⟩ = some (.int .i64 s) := (ho9.cell (p := ⟨ba, _, none⟩) (cell_lt hcell) (fun hx => by have := (HFP.out ba hx).1; omega)).trans hcell
                clear hR hH ho9 hk9 hcell
                go_wp2_with fail
                refine (Hand.put _ _ _ _ _ s _ hH9).mono ?_
                rintro e w10 ⟨v10, rfl, hI10, hH10, ho10⟩
                have hR10 := hR9.only ho10 (fun x hx hx2 => by have := hfp9.out x hx; simp at hx2; omega)
                have hI9' := hI9.only ho10 (fun g hg hx => by have := (World.ownsRow.lt hI9 g hg).1; simp at hx; omega)
                have hoo10 := hoo9.kin ho10 (by simp; omega)
                have hol : Hid ((handOut near room l).length ≤ 1000000) := by
                  show _ ≤ _
                  unfold handOut
                  split
                  · simp
                  · split
                    · simp
                    · simp; omega
                clear hR9 hH9 hoo9 ho10 hI9
                go_wp2_with fail
                refine (same_ints _ _ _ _ hI10.reads hI9'.reads hol.out).mono ?_
                rintro e w11 ⟨rfl, k11, rfl⟩
                go_wp2_with fail
                go_meet
                exact ⟨s, _, fp9, rfl, hH10.only ((Only.refl [] w10).drewN k11) (by simp) (by simp), hR10.only ((Only.refl [] w10).drewN k11) (by simp), hfp9.out, hoo10.drewN k11⟩
          case rest =>
            as_aux_lemma =>
              obtain ⟨near', l', fp', rfl, hH', hR', hfp', ho3⟩ := hcut
              clear hR hH ho2 hcell HFP hs3 hneg hle
              have HFP := Lib.hid hfp'
              have hc1 : wc.cell? ⟨w1.heap.size, 1, none⟩ = some (.int .i64 near') := by
                obtain ⟨⟨rv, hc, _⟩, _⟩ := hR'
                exact hc.cell 1 _ rfl
              have q1 := Lib.hid (fun n => Hand.near b rb room near' l' (wc.drewN n) (hH'.only ((Only.refl [] wc).drewN n) (by simp) (by simp)))
              have q2 := Lib.hid (fun n => Hand.len b rb room near' l' (wc.drewN n) (hH'.only ((Only.refl [] wc).drewN n) (by simp) (by simp)))
              have q3 := Lib.hid (fun n => RefHand.len_near fp' w1.heap.size room near' l' (wc.drewN n) (hR'.only ((Only.refl [] wc).drewN n) (by simp)))
              clear hfp'
              go_wp2_with fail
              go_quiet ((first | (go_at_call 53; exact quiet_eq (q1.out _)) | (go_at_call 54; exact quiet_eq (q2.out _)) | (go_at_call 55; exact quiet_eq (q3.out _))))
              clear q1 q2 q3
              go_wp2
              go_roundw
              case rel => exact ⟨i + 1, near', l', fp', by omega, by omega, by go_num, hH'.only ((Only.refl [] wc).drewN _) (by simp) (by simp), hR'.only ((Only.refl [] wc).drewN _) (by simp), HFP.out, ho3.drewN _⟩
              case measure => (simp [intOf]; try omega)
      · have hout : l1.length ≤ i ∨ (i < l1.length ∧ 100 ≤ i) := by omega
        clear hlt hin
        rcases hout with hout | ⟨hout, hout2⟩
        all_goals
          go_wp2
          go_ret
          exact ⟨rfl, ho2.below (Nat.le_refl _) (by simp)⟩
  · have hr' : a0 < 1 ∨ 16 < a0 := by omega
    clear hr
    rcases hr' with hr' | hr'
    · go_wp2_with fail
      refine (hand_new_no _ _ (.inl hr')).mono ?_
      rintro e w7 ⟨rfl, ho7⟩
      have hgl := HG.out.only ho7
      go_wp2_with fail
      refine (same_err 1 1 _ hgl true rfl).mono ?_
      rintro e w8 ⟨rfl, ho8⟩
      go_wp2
      go_ret
      exact ⟨by simp, (ho7.trans ho8 (by simp)).below (Nat.le_refl _) (by simp)⟩
    · have h1 : 1 ≤ a0 := by omega
      go_wp2_with fail
      refine (hand_new_no _ _ (.inr hr')).mono ?_
      rintro e w7 ⟨rfl, ho7⟩
      have hgl := HG.out.only ho7
      go_wp2_with fail
      refine (same_err 1 1 _ hgl true rfl).mono ?_
      rintro e w8 ⟨rfl, ho8⟩
      go_wp2
      go_ret
      exact ⟨by simp, (ho7.trans ho8 (by simp)).below (Nat.le_refl _) (by simp)⟩

end Go.Proofs.YtmjicogmgkeilaaDoor.handPlays
