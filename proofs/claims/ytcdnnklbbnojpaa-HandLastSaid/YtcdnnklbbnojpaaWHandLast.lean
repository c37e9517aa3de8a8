/-
  The statement HandLast: each that was put is taken, robbed, or goes out, once; what was put last is taken next, and is never robbed; a hand has no more than its ring, and one. No condition.
-/
import Derived.Test.YtcdnnklbbnojpaaFrame
import Derived.Test.YtcdnnklbbnojpaaHand
import Derived.Test.YtcdnnklbbnojpaaMore
import Derived.Test.YtcdnnklbbnojpaaArr100
namespace Go.Proofs.Ytcdnnklbbnojpaa.handLast
open Go.ChangeShapes Go.WideShapes Go.ChangeAt Go.RowKit
open Go.ChangeMaps (open_string shut_string)
set_option linter.unusedVariables false

/-- What a hand holds, in order. -/
def held (near : Int) (l : List Int) : List Int := if near < 0 then l else l ++ [near]
theorem held_len (near : Int) (l : List Int) : (held near l).length = handLen near l := by
  unfold held handLen; split <;> simp

theorem U_len_le (n : Nat) (f : Nat → Bool) : (U n f).length ≤ n := by
  unfold U
  rw [List.length_map]
  exact Nat.le_trans (List.length_filter_le _ _) (by simp)

theorem last_cases (l : List Int) : l = [] ∨ ∃ l0 x, l = l0 ++ [x] := by
  by_cases h : l = []
  · exact .inl h
  · exact .inr ⟨l.dropLast, l.getLast h, (List.dropLast_concat_getLast h).symm⟩

theorem put_split (near : Int) (room : Nat) (l : List Int) : held near l = handOut near room l ++ handRest near room l := by
  unfold held handOut handRest
  split
  · simp
  · split
    · simp
    · rw [← List.append_assoc, List.take_append_drop]

theorem rob_split (near : Int) (l : List Int) (k : Nat) : held near l = l.take k ++ held near (l.drop k) := by
  unfold held
  split
  · rw [List.take_append_drop]
  · rw [← List.append_assoc, List.take_append_drop]

set_option maxHeartbeats 4000000 in
set_option maxRecDepth 100000 in
theorem walk (a0 : Int) (v1 : Value) (l1 : List Int) (w : World) (w0 : (Lit.int .i64 a0).wf = true) (w1 : InInts w v1 l1) :
    Calls Try.prog 14 #[.int .i64 a0, v1] w fun e w' => e = .returned (.bool true) ∧ Below w.heap.size w w' := by
  have bd0 := bounds_i64 w0
  have HA := w1
  clear w0 w1
  go_enter Try.func14, Try.ntmps14
  go_wp2_with fail
  refine (Hand.new _ _ (by omega) (by omega)).mono ?_
  rintro e w1 ⟨b1, rb1, rfl, hh1, ho1, hb1, hrb1⟩
  replace hh1 : HandIs w1 b1 rb1 (-1) 2 [] := hh1
  go_wp2_with fail
  refine (Hand.put _ _ _ _ _ _ _ hh1).mono ?_
  rintro e w2 ⟨v2, rfl, hv2, hh2, ho2⟩
  replace hv2 : Ints w2 w1.heap.size v2 [] := hv2
  replace hh2 : HandIs w2 b1 rb1 5 2 [] := hh2
  have hoo2 := ho1.trans ho2 (by simp; omega)
  obtain ⟨a2, cap2, rfl, _⟩ := hv2.opt
  clear hv2 hh1 ho1 ho2
  go_wp2_with fail
  refine (Hand.put _ _ _ _ _ _ _ hh2).mono ?_
  rintro e w3 ⟨v3, rfl, hv3, hh3, ho3⟩
  replace hv3 : Ints w3 w2.heap.size v3 [] := hv3
  replace hh3 : HandIs w3 b1 rb1 6 2 [5] := hh3
  have hoo3 := hoo2.trans ho3 (by simp; omega)
  obtain ⟨a3, cap3, rfl, _⟩ := hv3.opt
  clear hv3 hh2 ho3 hoo2
  go_wp2_with fail
  refine (Hand.take_near _ _ _ _ _ _ hh3 (by omega)).mono ?_
  rintro e w4 ⟨rfl, hh4, ho4⟩
  have hoo4 := hoo3.trans ho4 (by simp; omega)
  clear hh3 ho4 hoo3
  go_wp2_with fail
  refine (Hand.len _ _ _ _ _ _ hh4).mono ?_
  rintro e w5 ⟨rfl, rfl⟩
  clear hh4
  go_wp2_with fail
  by_cases hr : 1 ≤ a0 ∧ a0 ≤ 16
  · obtain ⟨room, rfl⟩ := Int.eq_ofNat_of_zero_le (show 0 ≤ a0 by omega)
    refine (Hand.new _ _ hr.1 hr.2).mono ?_
    rintro e w6 ⟨b, rb, rfl, hh, ho6, hb, hrb⟩
    rw [Int.toNat_natCast] at hh
    have ho := hoo4.trans ho6 (by simp)
    have ho6s := ho.size
    have hb' : w.heap.size ≤ b := Nat.le_trans hoo4.size hb
    have hrb' : w.heap.size ≤ rb := Nat.le_trans hoo4.size hrb
    have hbl := hh.cells.lt
    have hrbl := hh.ring.lt
    have hr1 : 1 ≤ room := by omega
    have hr2 : room ≤ 16 := by omega
    obtain ⟨sa, scap, rfl, hin⟩ := HA.opt
    have hz := zero_100
    have hB := Lib.hid (bools_100 w6)
    have hal := Lib.hid ((Only.refl [] w6).alloc (.cells falses100 49))
    clear hoo4 ho6 HA hr hb hrb
    go_wp2_with fail
    go_loopw [10, 12] (fun vn vi wr => ∃ (k n : Nat) (near : Int) (l : List Int) (f : Nat → Bool), k ≤ l1.length ∧ k ≤ 100 ∧ vi = .int .i64 k ∧ vn = .int .i64 n ∧ n ≤ k ∧ -1 ≤ near ∧ HandIs wr b rb near room l ∧ held near l = U n f ∧ (∀ j, n ≤ j → f j = false) ∧ Bools wr w6.heap.size 100 f ∧ Only [] w wr ∧ w6.heap.size < wr.heap.size)
      (fun _ i _ => 100 - (intOf i).toNat)
    case atStart => exact ⟨0, 0, -1, [], fun _ => false, Nat.zero_le _, by omega, rfl, rfl, Nat.le_refl _, Int.le_refl _, hh.only hal.out (by simp) (by simp), rfl, fun _ _ => rfl, hB.out, ho.trans hal.out (by simp), by simp⟩
    case round =>
      obtain ⟨wo, rfl⟩ : ∃ wo : World, wo = wr := ⟨_, rfl⟩
      obtain ⟨k, n, near, l, f, hk, hk100, rfl, rfl, hnk, hnear, hh2, hU, hff, hB2, ho2, hA2⟩ := hrel
      clear hB hal hz hh ho
      by_cases hlt : k < l1.length ∧ k < 100
      · obtain ⟨hlt, hlt100⟩ := hlt
        obtain ⟨ba, oa, rfl, hc0⟩ := hin k hlt
        have hl0 := cell_lt hc0
        have hcell : wo.cell? ⟨ba, oa + k, none⟩ = some (.int .i64 (nth l1 k)) := (ho2.cell (p := ⟨ba, oa + k, none⟩) hl0 (by simp)).trans hc0
        have HFF := Lib.hid hff
        clear hin hc0 hl0
        go_upto_block 2 with (fail)
        go_cut [10, 13] (fun vn vo wx => ∃ (n' : Nat) (near' : Int) (l' out : List Int), vn = .int .i64 n' ∧ n' ≤ k + 1 ∧ -1 ≤ near' ∧ Ints wx wo.heap.size vo out ∧ HandIs wx b rb near' room l' ∧ (U n' f = out ++ held near' l' ∨ U n' f = held near' l' ++ out) ∧ (∀ j, n' ≤ j → f j = false) ∧ Only [b, rb] wo wx)
        case first =>
          have hsz0 := ho2.size
          by_cases h1 : nth l1 k = -1
          · have e1 : (nth l1 k == -1) = true := by simpa using h1
            clear h1 hff hB2
            go_wp2_with fail
            refine (Hand.near _ _ _ _ _ _ hh2).mono ?_
            rintro e w7 ⟨rfl, rfl⟩
            by_cases hn0 : 0 ≤ near
            · have hs : Hid (U n f = held (-1) l ++ [near]) := by
                show _ = _
                rw [← hU, held, held, if_neg (by omega), if_pos (by omega)]
              go_wp2_with fail
              refine (Hand.take_near _ _ _ _ _ _ hh2 hn0).mono ?_
              rintro e w8 ⟨rfl, hh8, ho8⟩
              have ho8s := ho8.size
              have hnm := hh8.cells.lt
              have hrm := hh8.ring.lt
              have hbd : near ≤ 1000 := by
                have : near ∈ U n f := by rw [hs.out]; simp
                obtain ⟨j, hj, _, e⟩ := mem_U.1 this
                omega
              clear hh2 hcell
              go_wp2_with (at_builtin; refine wpList_push rfl (.tmp 103) (.tmp 105) rfl w8 wo.heap.size _ [] w8.heap.size near 0 (Ints.nil _ _) rfl (by omega) ho8s rfl rfl ((Only.refl [] w8).alloc _) (World.cell?_alloc_at _ _ _ _ rfl) ?_; intro g cap w9 hI9 hO9 _)
              have hO9' : Only [] w8 w9 := hO9.mono (by simp [own, Value.ownBlock])
              have hh9 := hh8.only hO9' (by simp) (by simp)
              have ho9 : Only [b, rb] wo w9 := (ho8.mono (by simp)).trans hO9' (by simp)
              clear hh8 ho8 hO9 hO9'
              go_meet
              exact ⟨n, -1, l, [near], rfl, by omega, by omega, hI9, hh9, .inr hs.out, HFF.out, ho9⟩
            · obtain rfl : near = -1 := by omega
              rcases last_cases l with rfl | ⟨l0, x, rfl⟩
              · go_wp2_with fail
                refine (Hand.take_none _ _ _ _ _ hh2 (by omega)).mono ?_
                rintro e w8 ⟨rfl, rfl⟩
                go_wp2_with fail
                go_meet
                exact ⟨n, -1, [], [], rfl, by omega, by omega, Ints.nil _ _, hh2, .inl (by rw [← hU]; rfl), HFF.out, Only.refl _ _⟩
              · have hs : Hid (U n f = held (-1) l0 ++ [x]) := by
                  show _ = _
                  rw [← hU, held, held, if_pos (by omega), if_pos (by omega)]
                go_wp2_with fail
                refine (Hand.take_ring _ _ _ _ _ _ _ hh2 (by omega)).mono ?_
                rintro e w8 ⟨rfl, hh8, ho8⟩
                have ho8s := ho8.size
                clear hh2 hcell
                go_wp2_with (at_builtin; refine wpList_push rfl (.tmp 103) (.tmp 105) rfl w8 wo.heap.size _ [] w8.heap.size x 0 (Ints.nil _ _) rfl (by omega) ho8s rfl rfl ((Only.refl [] w8).alloc _) (World.cell?_alloc_at _ _ _ _ rfl) ?_; intro g cap w9 hI9 hO9 _)
                have hO9' : Only [] w8 w9 := hO9.mono (by simp [own, Value.ownBlock])
                have hh9 := hh8.only hO9' (by simp) (by simp)
                have ho9 : Only [b, rb] wo w9 := (ho8.mono (by simp)).trans hO9' (by simp)
                clear hh8 ho8 hO9 hO9'
                go_meet
                exact ⟨n, -1, l0, [x], rfl, by omega, by omega, hI9, hh9, .inr hs.out, HFF.out, ho9⟩
          · by_cases h2 : nth l1 k = -2
            · have e1 : (nth l1 k == -1) = false := by simpa using h1
              have e2 : (nth l1 k == -2) = true := by simpa using h2
              clear h1 h2 hff hB2
              have hs : Hid (U n f = l.take (halfOf l) ++ held near (l.drop (halfOf l))) := by
                show _ = _
                rw [← hU]; exact rob_split near l _
              go_wp2_with fail
              refine (Hand.near _ _ _ _ _ _ hh2).mono ?_
              rintro e w7 ⟨rfl, rfl⟩
              go_wp2_with fail
              refine (Hand.rob _ _ _ _ _ _ hh2).mono ?_
              rintro e w8 ⟨v8, rfl, hv8, hh8, ho8⟩
              have ho9 : Only [b, rb] wo w8 := ho8.mono (by simp)
              clear hh2 hcell ho8
              go_wp2_with fail
              refine (Hand.near _ _ _ _ _ _ hh8).mono ?_
              rintro e w9 ⟨rfl, rfl⟩
              go_wp2_with fail
              go_meet
              exact ⟨n, near, _, _, rfl, by omega, hnear, hv8, hh8, .inl hs.out, HFF.out, ho9⟩
            · have hs : Hid (U (n + 1) f = handOut near room l ++ held n (handRest near room l)) := by
                show _ = _
                rw [U_succ, hff n (Nat.le_refl _), ← hU, put_split near room l]
                simp [held]
              have e1 : ((nth l1 k) == -1) = false := by simpa using h1
              have e2 : ((nth l1 k) == -2) = false := by simpa using h2
              have hff2 : Hid (∀ j, n + 1 ≤ j → f j = false) := by
                show ∀ j, n + 1 ≤ j → f j = false
                intro j hj; exact hff j (by omega)
              clear hff hB2
              go_wp2_with fail
              refine (Hand.put _ _ _ _ _ _ _ hh2).mono ?_
              rintro e w8 ⟨v8, rfl, hv8, hh8, ho8⟩
              clear hh2 hcell
              go_wp2_with fail
              refine (Hand.near _ _ _ _ _ _ hh8).mono ?_
              rintro e w9 ⟨rfl, rfl⟩
              go_wp2_with fail
              go_meet
              exact ⟨n + 1, n, _, _, by go_num, by omega, by omega, hv8, hh8, .inl hs.out, hff2.out, ho8⟩
        case rest =>
          obtain ⟨n', near', l', out, rfl, hn', hnear', hI, hh3, hsplit, hff3, ho3⟩ := hcut
          have hoo := ho2.trans ho3 (by simp; omega)
          have hB3 := hB2.only ho3 (by simp; omega)
          have hfin : U n' (mark f out) = held near' l' := by
            rcases hsplit with h | h
            · exact U_front h
            · exact U_back h
          have hsub : ∀ x ∈ out, x ∈ U n' f := by
            intro x hx
            rcases hsplit with h | h
            · rw [h]; simp [hx]
            · rw [h]; simp [hx]
          have hpw : out.Pairwise (· < ·) := by
            have hp := U_lt n' f
            rcases hsplit with h | h
            · rw [h] at hp; exact (List.pairwise_append.1 hp).1
            · rw [h] at hp; exact (List.pairwise_append.1 hp).2.1
          have hol : out.length ≤ 100 := by
            have h1 := U_len_le n' f
            rcases hsplit with h | h
            · rw [h, List.length_append] at h1; omega
            · rw [h, List.length_append] at h1; omega
          have hfar : w6.heap.size ∉ own u13 := fun hx => by have := (hI.own_lt _ hx).1; omega
          obtain ⟨la, lcap, hvo, hvals⟩ := hI.opt
          subst hvo
          have HFin := Lib.hid hfin
          have hn100 : n' ≤ 100 := by omega
          clear hsplit hU hh2 hB2 ho2 hcell hff hI hfin
          go_wp2_with fail
          go_loopw [18] (fun vj wq => ∃ j : Nat, j ≤ out.length ∧ vj = .int .i64 j ∧ Bools wq w6.heap.size 100 (mark f (out.take j)) ∧ Only [w6.heap.size] wc wq)
            (fun vj _ => out.length - (intOf vj).toNat)
          case atStart => exact ⟨0, Nat.zero_le _, rfl, by rw [List.take_zero, mark_nil]; exact hB3, Only.refl _ _⟩
          case round =>
            obtain ⟨j, hj, rfl, hBq, hoq⟩ := hrel
            by_cases hjl : j < out.length
            · obtain ⟨jj, hjj, hjn, hjf⟩ := mark_fresh hsub hpw hjl
              obtain ⟨g, rfl, hcv0⟩ := hvals j hjl
              have hcv : wr.cell? ⟨g, j, none⟩ = some (.int .i64 (jj : Int)) := by
                rw [hoq.cell (p := ⟨g, j, none⟩) (cell_lt hcv0) (by simp only [List.mem_singleton]; intro e; exact hfar (by simp [own, Value.ownBlock]; exact e.symm)), hcv0, hjj]
              obtain ⟨hbc, hbf⟩ := hBq jj (by omega)
              rw [hjf] at hbc
              have HS := Lib.hid (mark_step f out j jj hjl hjj)
              have hset := Lib.hid (hBq.set jj true)
              have hos := Lib.hid (hoq.trans ((Only.refl [w6.heap.size] wr).setCell (p := ⟨w6.heap.size, jj, none⟩) (by simp) (.bool true)) (by simp))
              have hjj100 : jj < 100 := by omega
              clear hvals hjj hjf hBq hoq hB3 hcv0
              go_wp2
              go_roundw
              case rel => exact ⟨j + 1, by omega, by go_num, by rw [← HS.out]; exact hset.out, hos.out⟩
              case measure => (simp [intOf]; try omega)
            · obtain rfl : j = out.length := by omega
              rw [List.take_of_length_le (Nat.le_refl _)] at hBq
              have hmf : Hid (∀ i, n' ≤ i → mark f out i = false) := by
                show ∀ i, n' ≤ i → mark f out i = false
                intro i hi
                unfold mark
                rw [hff3 i hi, Bool.false_or, decide_eq_false_iff_not]
                intro hx
                obtain ⟨j2, h1, _, h2⟩ := mem_U.1 (hsub _ hx)
                omega
              have hh4 := hh3.only hoq (by simp; omega) (by simp; omega)
              have hoo2 := hoo.fresh hoq (by have := ho6s; omega)
              have hA4 : w6.heap.size < wr.heap.size := by have := hoq.size; have := ho3.size; omega
              have hle := hh4.ring.le
              have hHL : Hid (handLen near' l' ≤ room + 1) := by show _ ≤ _; unfold handLen; split <;> omega
              obtain ⟨g, hg⟩ : ∃ g, Hid (mark f out = g) := ⟨_, rfl⟩
              rw [hg.out] at hBq
              have HFin2 : Hid (U n' g = held near' l') := by show _ = _; rw [← hg.out]; exact HFin.out
              have Hmf2 : Hid (∀ i, n' ≤ i → g i = false) := by rw [← hg.out]; exact hmf
              clear hvals hsub hpw HFin hmf hg hff3 hh3 hoo hoq hB3 ho3 hle hfar
              go_wp2_with fail
              go_loop [19, 20] (fun vm vk => ∃ i : Nat, i ≤ n' ∧ vk = .int .i64 i ∧ vm = .int .i64 (U i g).length) (fun _ vk => n' - (intOf vk).toNat)
              case atStart => exact ⟨0, Nat.zero_le _, rfl, rfl⟩
              case round =>
                obtain ⟨i, hi, rfl, rfl⟩ := hrel
                have hUi := U_len_le i g
                by_cases hin' : i < n'
                · obtain ⟨hbc, _⟩ := hBq i (by omega)
                  have hUs := U_succ i g
                  cases hgi : g i
                  · rw [hgi] at hbc hUs
                    have hl : Hid ((U (i + 1) g).length = (U i g).length + 1) := by show _ = _; rw [hUs]; simp
                    obtain ⟨c, hc⟩ : ∃ c, Hid ((U i g).length = c) := ⟨_, rfl⟩
                    rw [hc.out] at hUi hl ⊢
                    have hi100 : i < 100 := by omega
                    clear hUs hgi hBq
                    go_wp2
                    go_round
                    case rel => exact ⟨i + 1, by omega, by go_num, by rw [hl.out]; go_num⟩
                    case measure => (simp [intOf]; try omega)
                  · rw [hgi] at hbc hUs
                    have hl : Hid ((U (i + 1) g).length = (U i g).length) := by show _ = _; rw [hUs]; simp
                    obtain ⟨c, hc⟩ : ∃ c, Hid ((U i g).length = c) := ⟨_, rfl⟩
                    rw [hc.out] at hUi hl ⊢
                    have hi100 : i < 100 := by omega
                    clear hUs hgi hBq
                    go_wp2
                    go_round
                    case rel => exact ⟨i + 1, by omega, by go_num, by rw [hl.out]⟩
                    case measure => (simp [intOf]; try omega)
                · obtain rfl : i = n' := by omega
                  rw [HFin2.out, held_len]
                  obtain ⟨c, hc⟩ : ∃ c, Hid (handLen near' l' = c) := ⟨_, rfl⟩
                  have hLen := Hand.len _ _ _ _ _ _ hh4
                  rw [hc.out] at hLen hHL ⊢
                  have hcr : c ≤ room + 1 := hHL.out
                  have HLen := Lib.hid hLen
                  clear hLen hUi hc
                  go_wp2_with fail
                  refine HLen.out.mono ?_
                  rintro e wz ⟨rfl, rfl⟩
                  clear HLen
                  go_wp2
                  go_roundw
                  case rel => exact ⟨k + 1, i, near', l', g, by omega, by omega, by go_num, rfl, by omega, hnear', hh4, HFin2.out.symm, Hmf2.out, hBq, hoo2, hA4⟩
                  case measure => (simp [intOf]; try omega)
      · have hout : l1.length ≤ k ∨ (k < l1.length ∧ 100 ≤ k) := by omega
        clear hlt hin
        rcases hout with hout | ⟨hout, hout2⟩
        all_goals
          go_wp2
          go_ret
          exact ⟨rfl, ho2.below (Nat.le_refl _) (by simp)⟩
  · have hr' : a0 < 1 ∨ 16 < a0 := by omega
    refine (hand_new_no _ _ hr').mono ?_
    rintro e w7 ⟨rfl, ho7⟩
    have ho8 := hoo4.trans ho7 (by simp)
    rcases hr' with hr' | hr'
    · go_wp2
      go_ret
      exact ⟨by simp, ho8.below (Nat.le_refl _) (by simp)⟩
    · have hr2 : ¬ a0 < 1 := by omega
      go_wp2
      go_ret
      exact ⟨by simp, ho8.below (Nat.le_refl _) (by simp)⟩

end Go.Proofs.Ytcdnnklbbnojpaa.handLast
