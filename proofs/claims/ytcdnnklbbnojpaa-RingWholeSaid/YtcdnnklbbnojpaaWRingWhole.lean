/-
  The statement RingWhole: each number that was pushed comes out once, at one end or the other; those that are stolen as they went in, and what is left stands in order. No condition.
-/
import Derived.Test.YtcdnnklbbnojpaaFrame
import Derived.Test.YtcdnnklbbnojpaaRing2
import Derived.Test.YtcdnnklbbnojpaaMore
import Derived.Test.YtcdnnklbbnojpaaArr100
namespace Go.Proofs.Ytcdnnklbbnojpaa.ringWhole
open Go.ChangeShapes Go.WideShapes Go.ChangeAt Go.RowKit
open Go.ChangeMaps (open_string shut_string)
set_option linter.unusedVariables false

theorem U_len_le (n : Nat) (f : Nat → Bool) : (U n f).length ≤ n := by
  unfold U
  rw [List.length_map]
  exact Nat.le_trans (List.length_filter_le _ _) (by simp)

theorem last_cases (l : List Int) : l = [] ∨ ∃ l0 x, l = l0 ++ [x] := by
  by_cases h : l = []
  · exact .inl h
  · exact .inr ⟨l.dropLast, l.getLast h, (List.dropLast_concat_getLast h).symm⟩

/-- What was stolen last, behind the first j of a list. -/
def StolenAt (st : Int) (out : List Int) (j : Nat) (s : Int) : Prop := (j = 0 ∧ s = st) ∨ (0 < j ∧ s = nth out (j - 1))

theorem stolen_lt {st s : Int} {out rest : List Int} {j : Nat} (h : StolenAt st out j s) (hp : (out ++ rest).Pairwise (· < ·)) (hst : ∀ x ∈ out ++ rest, st < x) (hj : j < out.length) : s < nth out j := by
  rcases h with ⟨_, rfl⟩ | ⟨h0, rfl⟩
  · exact hst _ (by simp [nth_mem hj])
  · exact pairwise_nth (List.pairwise_append.1 hp).1 (by omega) hj

theorem stolen_end {st s : Int} {out rest : List Int} (h : StolenAt st out out.length s) (hp : (out ++ rest).Pairwise (· < ·)) (hst : ∀ x ∈ out ++ rest, st < x) : ∀ x ∈ rest, s < x := by
  intro x hx
  rcases h with ⟨_, rfl⟩ | ⟨h0, rfl⟩
  · exact hst x (by simp [hx])
  · exact (List.pairwise_append.1 hp).2.2 _ (nth_mem (by omega)) x hx

theorem stolen_top {st s : Int} {out : List Int} {n : Nat} (h : StolenAt st out out.length s) (hst : st < n) (hout : ∀ x ∈ out, x < n) : s < n := by
  rcases h with ⟨_, rfl⟩ | ⟨h0, rfl⟩
  · exact hst
  · exact hout _ (nth_mem (by omega))

set_option maxHeartbeats 40000000 in
set_option maxRecDepth 100000 in
theorem walk (a0 : Int) (v1 : Value) (l1 : List Int) (w : World) (w0 : (Lit.int .i64 a0).wf = true) (w1 : InInts w v1 l1) :
    Calls Try.prog 7 #[.int .i64 a0, v1] w fun e w' => e = .returned (.bool true) ∧ Below w.heap.size w w' := by
  have bd0 := bounds_i64 w0
  have HA := w1
  clear w0 w1
  go_enter Try.func7, Try.ntmps7
  go_wp2_with fail
  refine (Ring.new _ _ (by omega) (by omega)).mono ?_
  rintro e w1 ⟨rfl, hr1, ho1⟩
  replace hr1 : RingIs w1 w.heap.size 3 [] := hr1
  go_wp2_with fail
  refine (Ring.push _ _ _ _ _ hr1 (by decide)).mono ?_
  rintro e w2 ⟨rfl, hr2, ho2⟩
  replace hr2 : RingIs w2 w.heap.size 3 [5] := hr2
  have hoo2 := ho1.fresh ho2 (Nat.le_refl _)
  clear hr1 ho1 ho2
  go_wp2_with fail
  refine (Ring.push _ _ _ _ _ hr2 (by decide)).mono ?_
  rintro e w3 ⟨rfl, hr3, ho3⟩
  replace hr3 : RingIs w3 w.heap.size 3 [5, 6] := hr3
  have hoo3 := hoo2.fresh ho3 (Nat.le_refl _)
  clear hr2 hoo2 ho3
  go_wp2_with fail
  refine (Ring.push _ _ _ _ _ hr3 (by decide)).mono ?_
  rintro e w4 ⟨rfl, hr4, ho4⟩
  replace hr4 : RingIs w4 w.heap.size 3 (5 :: [6, 7]) := hr4
  have hoo4 := hoo3.fresh ho4 (Nat.le_refl _)
  clear hr3 hoo3 ho4
  go_wp2_with fail
  refine (Ring.steal _ _ _ _ _ hr4).mono ?_
  rintro e w5 ⟨rfl, hr5, ho5⟩
  replace hr5 : RingIs w5 w.heap.size 3 ([6] ++ [7]) := hr5
  have hoo5 := hoo4.fresh ho5 (Nat.le_refl _)
  clear hr4 hoo4 ho5
  go_wp2_with fail
  refine (Ring.pop _ _ _ _ _ hr5).mono ?_
  rintro e w6 ⟨rfl, hr6, ho6⟩
  have hoo6 := hoo5.fresh ho6 (Nat.le_refl _)
  clear hr5 hoo5 ho6
  go_wp2_with fail
  refine (Ring.len _ _ _ _ hr6).mono ?_
  rintro e w7 ⟨rfl, rfl⟩
  clear hr6
  go_wp2_with fail
  by_cases hr : 1 ≤ a0 ∧ a0 ≤ 16
  · obtain ⟨room, rfl⟩ := Int.eq_ofNat_of_zero_le (show 0 ≤ a0 by omega)
    refine (Ring.new _ _ hr.1 hr.2).mono ?_
    rintro e w8 ⟨rfl, hrg, ho8⟩
    rw [Int.toNat_natCast] at hrg
    have ho := hoo6.trans ho8 (by simp)
    have ho6s := ho.size
    have hb' : w.heap.size ≤ w6.heap.size := hoo6.size
    have hbl := hrg.lt
    have hr1 : 1 ≤ room := by omega
    have hr2 : room ≤ 16 := by omega
    obtain ⟨sa, scap, rfl, hin⟩ := HA.opt
    have hz := zero_100
    have hB := Lib.hid (bools_100 w8)
    have hal := Lib.hid ((Only.refl [] w8).alloc (.cells falses100 49))
    clear hoo6 ho8 HA hr
    go_wp2_with fail
    go_loopw [12, 13, 15] (fun vn vs vi wr => ∃ (k n : Nat) (st : Int) (l : List Int) (f : Nat → Bool), k ≤ l1.length ∧ k ≤ 100 ∧ vi = .int .i64 k ∧ vn = .int .i64 n ∧ vs = .int .i64 st ∧ n ≤ k ∧ st < n ∧ (∀ x ∈ l, st < x) ∧ RingIs wr w6.heap.size room l ∧ l = U n f ∧ (∀ j, n ≤ j → f j = false) ∧ Bools wr w8.heap.size 100 f ∧ Only [] w wr ∧ w8.heap.size < wr.heap.size)
      (fun _ _ i _ => 100 - (intOf i).toNat)
    case atStart => exact ⟨0, 0, -1, [], fun _ => false, Nat.zero_le _, by omega, rfl, rfl, rfl, Nat.le_refl _, by omega, by simp, hrg.only hal.out (by simp), rfl, fun _ _ => rfl, hB.out, ho.trans hal.out (by simp), by simp⟩
    case round =>
      obtain ⟨wo, rfl⟩ : ∃ wo : World, wo = wr := ⟨_, rfl⟩
      obtain ⟨k, n, st, l, f, hk, hk100, rfl, rfl, rfl, hnk, hstn, hstl, hh2, hU, hff, hB2, ho2, hA2⟩ := hrel
      clear hB hal hz hrg ho
      by_cases hlt : k < l1.length ∧ k < 100
      · obtain ⟨hlt, hlt100⟩ := hlt
        obtain ⟨ba, oa, rfl, hc0⟩ := hin k hlt
        have hl0 := cell_lt hc0
        have hcell : wo.cell? ⟨ba, oa + k, none⟩ = some (.int .i64 (nth l1 k)) := (ho2.cell (p := ⟨ba, oa + k, none⟩) hl0 (by simp)).trans hc0
        have HFF := Lib.hid hff
        have HU : Hid (U n f = l) := hU.symm
        clear hin hU
        go_upto_block 2 with (fail)
        go_cut [12, 13, 16] (fun vn vs vo wx => ∃ (n' : Nat) (st' : Int) (l' out : List Int), vn = .int .i64 n' ∧ n' ≤ k + 1 ∧ vs = .int .i64 st' ∧ st' < n' ∧ (∀ x ∈ l', st' < x) ∧ Ints wx wo.heap.size vo out ∧ RingIs wx w6.heap.size room l' ∧ (U n' f = out ++ l' ∨ U n' f = l' ++ out) ∧ (∀ j, n' ≤ j → f j = false) ∧ Only [w6.heap.size] wo wx)
        case first =>
          as_aux_lemma =>
            have hsz0 := ho2.size
            have hlt9 := hh2.lt
            have HP9 : Hid (∀ x ∈ l, x < (n : Int)) := by
              show ∀ x ∈ l, x < (n : Int)
              intro x hx
              rw [← HU.out] at hx
              obtain ⟨j, h1, _, h2⟩ := mem_U.1 hx
              omega
            have HPW : Hid (l.Pairwise (· < ·)) := by
              show l.Pairwise (· < ·)
              rw [← HU.out]; exact U_lt n f
            have HST := Lib.hid hstl
            have hlen100 : l.length ≤ 100 := by rw [← HU.out]; have := U_len_le n f; omega
            clear hstl hff hB2
            by_cases h1 : nth l1 k = 0
            · have e1 : (nth l1 k == 0) = true := by simpa using h1
              clear h1 hcell
              rcases last_cases l with rfl | ⟨l0, x, rfl⟩
              · go_wp2_with fail
                refine (Ring.pop_none _ _ _ hh2).mono ?_
                rintro e w9 ⟨rfl, rfl⟩
                go_wp2_with fail
                go_meet
                exact ⟨n, st, [], [], rfl, by omega, rfl, hstn, by simp, Ints.nil _ _, hh2, .inl (by rw [HU.out]; rfl), HFF.out, Only.refl _ _⟩
              · go_wp2_with fail
                refine (Ring.pop _ _ _ _ _ hh2).mono ?_
                rintro e w9 ⟨rfl, hh9, ho9⟩
                have ho9s := ho9.size
                clear hh2
                go_wp2_with (at_builtin; refine wpList_push rfl (.tmp 119) (.tmp 121) rfl w9 wo.heap.size _ [] w9.heap.size x 0 (Ints.nil _ _) rfl (by omega) ho9s rfl rfl ((Only.refl [] w9).alloc _) (World.cell?_alloc_at _ _ _ _ rfl) ?_; intro g cap w10 hI10 hO10 _)
                have hO' : Only [] w9 w10 := hO10.mono (by simp [own, Value.ownBlock])
                have hh10 := hh9.only hO' (by simp)
                have ho10 : Only [w6.heap.size] wo w10 := ho9.trans hO' (by simp)
                have hst0 : Hid (∀ y ∈ l0, st < y) := by
                  show ∀ y ∈ l0, st < y
                  intro y hy; exact HST.out y (by simp [hy])
                clear hh9 ho9 hO10 hO'
                go_meet
                exact ⟨n, st, l0, [x], rfl, by omega, rfl, hstn, hst0.out, hI10, hh10, .inr HU.out, HFF.out, ho10⟩
            · by_cases h2 : nth l1 k = 2
              · have e1 : (nth l1 k == 0) = false := by simpa using h1
                have e2 : (nth l1 k == 1) = false := by simp; omega
                have e3 : (nth l1 k == 2) = true := by simpa using h2
                clear h1 h2
                go_wp2_with fail
                refine (Ring.half _ _ _ _ hh2).mono ?_
                rintro e w9 ⟨v9, rfl, hv9, hh9, ho9⟩
                have hp : Hid ((l.take (halfOf l) ++ l.drop (halfOf l)).Pairwise (· < ·)) := by show List.Pairwise _ _; rw [List.take_append_drop]; exact HPW.out
                have hst : Hid (∀ x ∈ l.take (halfOf l) ++ l.drop (halfOf l), st < x) := by show ∀ x ∈ l.take (halfOf l) ++ l.drop (halfOf l), st < x; rw [List.take_append_drop]; exact HST.out
                have hsubn : Hid (∀ x ∈ l.take (halfOf l), x < (n : Int)) := by
                  show ∀ x ∈ l.take (halfOf l), x < (n : Int)
                  intro x hx; exact HP9.out x (List.mem_of_mem_take hx)
                have hsp : Hid (U n f = l.take (halfOf l) ++ l.drop (halfOf l)) := by show _ = _; rw [List.take_append_drop]; exact HU.out
                obtain ⟨la, lcap, hvo, hvals⟩ := hv9.opt
                subst hvo
                obtain ⟨N, hNe⟩ : ∃ N, (l.take (halfOf l)).length = N := ⟨_, rfl⟩
                have hN := Lib.hid hNe
                have hN100 : N ≤ 100 := by rw [← hNe, List.length_take]; omega
                rw [hNe] at hvals hv9 ⊢
                clear hNe hh2 hcell
                go_wp2_with fail
                go_loop [13, 21] (fun vs vj => ∃ (j : Nat) (s : Int), j ≤ N ∧ vj = .int .i64 j ∧ vs = .int .i64 s ∧ StolenAt st (l.take (halfOf l)) j s) (fun _ vj => N - (intOf vj).toNat)
                case atStart => exact ⟨0, st, Nat.zero_le _, rfl, rfl, .inl ⟨rfl, rfl⟩⟩
                case round =>
                  obtain ⟨j, s, hj, rfl, rfl, hs⟩ := hrel
                  by_cases hjl : j < N
                  · have hgt := stolen_lt hs hp.out hst.out (by rw [hN.out]; exact hjl)
                    obtain ⟨g, rfl, hcv⟩ := hvals j hjl
                    have hjb : j ≤ 100 := by omega
                    clear hvals
                    go_wp2
                    go_round
                    case rel => exact ⟨j + 1, nth (l.take (halfOf l)) j, by omega, by go_num, rfl, .inr ⟨by omega, rfl⟩⟩
                    case measure => (simp [intOf]; try omega)
                  · have hjN : Hid (j = (l.take (halfOf l)).length) := by show j = _; rw [hN.out]; omega
                    rw [hjN.out] at hs
                    have he1 := Lib.hid (stolen_end hs hp.out hst.out)
                    have he2 := Lib.hid (stolen_top hs hstn (fun x hx => hsubn.out x hx))
                    have hjN2 : N ≤ j := by omega
                    clear hvals hs hjl
                    go_wp2_with fail
                    go_meet
                    exact ⟨n, s, l.drop (halfOf l), l.take (halfOf l), rfl, by omega, rfl, he2.out, he1.out, hv9, hh9, .inl hsp.out, HFF.out, ho9⟩
              · by_cases h3 : nth l1 k = 1
                · have e1 : (nth l1 k == 0) = false := by simpa using h1
                  have e2 : (nth l1 k == 1) = true := by simpa using h3
                  have e3 : (nth l1 k == 2) = false := by simpa using h2
                  clear h1 h2 h3
                  rcases l with _ | ⟨x, rest⟩
                  · go_wp2_with fail
                    refine (Ring.steal_none _ _ _ hh2).mono ?_
                    rintro e w9 ⟨rfl, rfl⟩
                    go_wp2_with fail
                    go_loop [13, 21] (fun vs vj => vj = .int .i64 0 ∧ vs = .int .i64 st) (fun _ _ => 0)
                    case atStart => exact ⟨rfl, rfl⟩
                    case round =>
                      obtain ⟨rfl, rfl⟩ := hrel
                      go_wp2_with fail
                      go_meet
                      exact ⟨n, st, [], [], rfl, by omega, rfl, hstn, by simp, Ints.nil _ _, hh2, .inl (by rw [HU.out]; rfl), HFF.out, Only.refl _ _⟩
                  · go_wp2_with fail
                    refine (Ring.steal _ _ _ _ _ hh2).mono ?_
                    rintro e w9 ⟨rfl, hh9, ho9⟩
                    have ho9s := ho9.size
                    clear hh2 hcell
                    go_wp2_with (at_builtin; refine wpList_push rfl (.tmp 140) (.tmp 142) rfl w9 wo.heap.size _ [] w9.heap.size x 0 (Ints.nil _ _) rfl (by omega) ho9s rfl rfl ((Only.refl [] w9).alloc _) (World.cell?_alloc_at _ _ _ _ rfl) ?_; intro g cap w10 hI10 hO10 _)
                    have hO' : Only [] w9 w10 := hO10.mono (by simp [own, Value.ownBlock])
                    have hh10 := hh9.only hO' (by simp)
                    have ho10 : Only [w6.heap.size] wo w10 := ho9.trans hO' (by simp)
                    have hp : Hid (([x] ++ rest).Pairwise (· < ·)) := HPW.out
                    have hst : Hid (∀ y ∈ [x] ++ rest, st < y) := HST.out
                    have hsubn : Hid (∀ y ∈ [x], y < (n : Int)) := by
                      show ∀ y ∈ [x], y < (n : Int)
                      intro y hy; exact HP9.out y (by simp at hy; simp [hy])
                    have hsp : Hid (U n f = [x] ++ rest) := HU.out
                    have hN : Hid ([x].length = 1) := rfl
                    have hvals : ∀ i, i < 1 → ∃ g', (some ⟨g, 0, none⟩ : Option Addr) = some ⟨g', 0, none⟩ ∧ w10.cell? ⟨g', i, none⟩ = some (.int .i64 (nth [x] i)) := fun i hi => ⟨g, rfl, hI10.cell i hi⟩
                    clear hh9 ho9 hO10 hO'
                    go_wp2_with fail
                    go_loop [13, 21] (fun vs vj => ∃ (j : Nat) (s : Int), j ≤ 1 ∧ vj = .int .i64 j ∧ vs = .int .i64 s ∧ StolenAt st ([x]) j s) (fun _ vj => 1 - (intOf vj).toNat)
                    case atStart => exact ⟨0, st, Nat.zero_le _, rfl, rfl, .inl ⟨rfl, rfl⟩⟩
                    case round =>
                      obtain ⟨j, s, hj, rfl, rfl, hs⟩ := hrel
                      by_cases hjl : j < 1
                      · have hgt := stolen_lt hs hp.out hst.out (by rw [hN.out]; exact hjl)
                        obtain ⟨g', hgg, hcv⟩ := hvals j hjl
                        obtain rfl : g = g' := by injection hgg with hgg; injection hgg
                        clear hgg
                        obtain rfl : j = 0 := by omega
                        clear hvals
                        go_wp2
                        go_round
                        case rel => exact ⟨1, nth ([x]) 0, by omega, by go_num, rfl, .inr ⟨by omega, rfl⟩⟩
                        case measure => (simp [intOf]; try omega)
                      · have hjN : Hid (j = ([x]).length) := by show j = _; rw [hN.out]; omega
                        rw [hjN.out] at hs
                        have he1 := Lib.hid (stolen_end hs hp.out hst.out)
                        have he2 := Lib.hid (stolen_top hs hstn (fun x hx => hsubn.out x hx))
                        have hjN2 : 1 ≤ j := by omega
                        clear hvals hs hjl
                        go_wp2_with fail
                        go_meet
                        exact ⟨n, s, rest, [x], rfl, by omega, rfl, he2.out, he1.out, hI10, hh10, .inl hsp.out, HFF.out, ho10⟩
                · have e1 : (nth l1 k == 0) = false := by simpa using h1
                  have e2 : (nth l1 k == 1) = false := by simpa using h3
                  have e3 : (nth l1 k == 2) = false := by simpa using h2
                  clear h1 h2 h3 hcell
                  by_cases hfull : l.length = room
                  · have HFull := Lib.hid hfull
                    clear hfull
                    go_wp2_with fail
                    refine (Ring.push_full _ _ _ _ _ hh2 HFull.out).mono ?_
                    rintro e w9 ⟨rfl, hh9, ho9⟩
                    go_wp2_with fail
                    go_meet
                    exact ⟨n, st, l, [], rfl, by omega, rfl, hstn, HST.out, Ints.nil _ _, hh9, .inl HU.out, HFF.out, ho9.mono (by simp)⟩
                  · have hroom : l.length < room := by have := hh2.le; omega
                    have hs : Hid (U (n + 1) f = [] ++ (l ++ [(n : Int)])) := by
                      show _ = _
                      rw [U_succ, HFF.out n (Nat.le_refl _), HU.out]; rfl
                    have hff2 : Hid (∀ j, n + 1 ≤ j → f j = false) := by
                      show ∀ j, n + 1 ≤ j → f j = false
                      intro j hj; exact HFF.out j (by omega)
                    have hst2 : Hid (∀ y ∈ l ++ [(n : Int)], st < y) := by
                      show ∀ y ∈ l ++ [(n : Int)], st < y
                      intro y hy
                      rcases List.mem_append.1 hy with h | h
                      · exact HST.out y h
                      · simp at h; omega
                    go_wp2_with fail
                    refine (Ring.push _ _ _ _ _ hh2 hroom).mono ?_
                    rintro e w9 ⟨rfl, hh9, ho9⟩
                    clear hh2
                    go_wp2_with fail
                    go_meet
                    exact ⟨n + 1, st, _, [], by go_num, by omega, rfl, by omega, hst2.out, Ints.nil _ _, hh9, .inl hs.out, hff2.out, ho9⟩
        case rest =>
          as_aux_lemma =>
            obtain ⟨n', st', l', out, rfl, hn', rfl, hst', hstl', hI, hh3, hsplit, hff3, ho3⟩ := hcut
            have hw6 : w.heap.size ≤ w8.heap.size := ho6s
            have hoo := ho2.fresh ho3 hb'
            have hB3 := hB2.only ho3 (by simp; omega)
            have hfin : U n' (mark f out) = l' := by
              rcases hsplit with h | h
              · exact U_front h
              · exact U_back h
            have hsub : ∀ x ∈ out, x ∈ U n' f := by
              intro x hx
              rcases hsplit with h | h
              · rw [h]; simp [hx]
              · rw [h]; simp [hx]
            have hpw : out.Pairwise (· < ·) := by
              have hp := U_lt n' f
              rcases hsplit with h | h
              · rw [h] at hp; exact (List.pairwise_append.1 hp).1
              · rw [h] at hp; exact (List.pairwise_append.1 hp).2.1
            have hol : out.length ≤ 100 := by
              have h1 := U_len_le n' f
              rcases hsplit with h | h
              · rw [h, List.length_append] at h1; omega
              · rw [h, List.length_append] at h1; omega
            have hfar : w8.heap.size ∉ own u16 := fun hx => by have := (hI.own_lt _ hx).1; omega
            obtain ⟨la, lcap, hvo, hvals⟩ := hI.opt
            subst hvo
            have HFin := Lib.hid hfin
            have hn100 : n' ≤ 100 := by omega
            have HSTL := Lib.hid hstl'
            clear hsplit HU hh2 hB2 ho2 hcell hff hI hfin hstl hstl' hc0 hl0 HFF
            go_wp2_with fail
            go_loopw [22] (fun vj wq => ∃ j : Nat, j ≤ out.length ∧ vj = .int .i64 j ∧ Bools wq w8.heap.size 100 (mark f (out.take j)) ∧ Only [w8.heap.size] wc wq)
              (fun vj _ => out.length - (intOf vj).toNat)
            case atStart => exact ⟨0, Nat.zero_le _, rfl, by rw [List.take_zero, mark_nil]; exact hB3, Only.refl _ _⟩
            case round =>
              obtain ⟨j, hj, rfl, hBq, hoq⟩ := hrel
              by_cases hjl : j < out.length
              · obtain ⟨jj, hjj, hjn, hjf⟩ := mark_fresh hsub hpw hjl
                obtain ⟨g, rfl, hcv0⟩ := hvals j hjl
                have hcv : wr.cell? ⟨g, j, none⟩ = some (.int .i64 (jj : Int)) := by
                  rw [hoq.cell (p := ⟨g, j, none⟩) (cell_lt hcv0) (by simp only [List.mem_singleton]; intro e; exact hfar (by simp [own, Value.ownBlock]; exact e.symm)), hcv0, hjj]
                obtain ⟨hbc, hbf⟩ := hBq jj (by omega)
                rw [hjf] at hbc
                have HS := Lib.hid (mark_step f out j jj hjl hjj)
                have hset := Lib.hid (hBq.set jj true)
                have hos := Lib.hid (hoq.trans ((Only.refl [w8.heap.size] wr).setCell (p := ⟨w8.heap.size, jj, none⟩) (by simp) (.bool true)) (by simp))
                have hjj100 : jj < 100 := by omega
                clear hvals hjj hjf hBq hoq hB3 hcv0
                go_wp2
                go_roundw
                case rel => exact ⟨j + 1, by omega, by go_num, by rw [← HS.out]; exact hset.out, hos.out⟩
                case measure => (simp [intOf]; try omega)
              · obtain rfl : j = out.length := by omega
                rw [List.take_of_length_le (Nat.le_refl _)] at hBq
                have hmf : Hid (∀ i, n' ≤ i → mark f out i = false) := by
                  show ∀ i, n' ≤ i → mark f out i = false
                  intro i hi
                  unfold mark
                  rw [hff3 i hi, Bool.false_or, decide_eq_false_iff_not]
                  intro hx
                  obtain ⟨j2, h1, _, h2⟩ := mem_U.1 (hsub _ hx)
                  omega
                have hh4 := hh3.only hoq (by simp; omega)
                have hoo2 := hoo.fresh hoq hw6
                have hA4 : w8.heap.size < wr.heap.size := by have := hoq.size; have := ho3.size; omega
                obtain ⟨g, hg⟩ : ∃ g, Hid (mark f out = g) := ⟨_, rfl⟩
                rw [hg.out] at hBq
                have HFin2 : Hid (U n' g = l') := by show _ = _; rw [← hg.out]; exact HFin.out
                have Hmf2 : Hid (∀ i, n' ≤ i → g i = false) := by rw [← hg.out]; exact hmf
                clear hvals hsub hpw HFin hmf hg hff3 hh3 hoo hoq hB3 ho3 hfar hjl
                go_wp2_with fail
                refine (Ring.all _ _ _ _ hh4).mono ?_
                rintro e wa ⟨va, rfl, hva, hoa⟩
                have hh5 := hh4.only hoa (by simp)
                have hB5 := hBq.only hoa (by simp)
                have hoo3 := hoo2.trans hoa (by simp)
                have hA5 : w8.heap.size < wa.heap.size := by have := hoa.size; omega
                obtain ⟨aa, acap, hvae, hav⟩ := hva.opt
                subst hvae
                obtain ⟨N, hNe⟩ : ∃ N, l'.length = N := ⟨_, rfl⟩
                have HN := Lib.hid hNe
                have hN100 : N ≤ 100 := by have h1 := U_len_le n' g; rw [HFin2.out, hNe] at h1; omega
                rw [hNe] at hav ⊢
                clear hNe hva hh4 hBq hoo2 hoa hA4
                go_wp2_with fail
                go_loop [24, 25] (fun vm vk => ∃ i : Nat, i ≤ n' ∧ vk = .int .i64 i ∧ vm = .int .i64 (U i g).length) (fun _ vk => n' - (intOf vk).toNat)
                case atStart => exact ⟨0, Nat.zero_le _, rfl, rfl⟩
                case round =>
                  obtain ⟨i, hi, rfl, rfl⟩ := hrel
                  have hUi := U_len_le i g
                  by_cases hin' : i < n'
                  · obtain ⟨hbc, _⟩ := hB5 i (by omega)
                    have hUs := U_succ i g
                    cases hgi : g i
                    · rw [hgi] at hbc hUs
                      have hl : Hid ((U (i + 1) g).length = (U i g).length + 1) := by show _ = _; rw [hUs]; simp
                      obtain ⟨c, hc⟩ : ∃ c, Hid ((U i g).length = c) := ⟨_, rfl⟩
                      rw [hc.out] at hUi hl ⊢
                      have hi100 : i < 100 := by omega
                      clear hUs hgi hB5 hav
                      go_wp2
                      go_round
                      case rel => exact ⟨i + 1, by omega, by go_num, by rw [hl.out]; go_num⟩
                      case measure => (simp [intOf]; try omega)
                    · rw [hgi] at hbc hUs
                      have hl : Hid ((U (i + 1) g).length = (U i g).length) := by show _ = _; rw [hUs]; simp
                      obtain ⟨c, hc⟩ : ∃ c, Hid ((U i g).length = c) := ⟨_, rfl⟩
                      rw [hc.out] at hUi hl ⊢
                      have hi100 : i < 100 := by omega
                      clear hUs hgi hB5 hav
                      go_wp2
                      go_round
                      case rel => exact ⟨i + 1, by omega, by go_num, by rw [hl.out]⟩
                      case measure => (simp [intOf]; try omega)
                  · obtain rfl : i = n' := by omega
                    rw [HFin2.out, HN.out]
                    have hLen := Ring.len _ _ _ _ hh5
                    rw [HN.out] at hLen
                    have HLen := Lib.hid hLen
                    clear hLen hUi
                    go_wp2_with fail
                    refine HLen.out.mono ?_
                    rintro e wz ⟨rfl, rfl⟩
                    clear HLen
                    go_wp2_with fail
                    go_loopw [26] (fun vj wq => ∃ j : Nat, j ≤ N ∧ vj = .int .i64 j ∧ ∃ m, wq = wa.drewN m) (fun vj _ => N - (intOf vj).toNat)
                    case atStart => exact ⟨0, Nat.zero_le _, rfl, 0, rfl⟩
                    case round =>
                      obtain ⟨j, hj, rfl, m, rfl⟩ := hrel
                      by_cases hjl : j < N
                      · obtain ⟨jj, hjn, hjf, hjj⟩ := mem_U.1 (show nth l' j ∈ U i g by rw [HFin2.out]; exact nth_mem (by rw [HN.out]; exact hjl))
                        obtain ⟨ga, rfl, hcv⟩ := hav j hjl
                        rw [hjj] at hcv
                        obtain ⟨hbc, _⟩ := hB5 jj (by omega)
                        rw [hjf] at hbc
                        have hjj100 : (jj : Int) < 100 := by omega
                        have hd1 : decide ((jj : Int) < 0) = false := by simp
                        have hd2 : decide ((i : Int) ≤ (jj : Int)) = false := by simp; omega
                        have hd6 : decide (i ≤ jj) = false := by simp; omega
                        have hd7 : decide (jj < i) = true := by simp; omega
                        by_cases hj0 : j = 0
                        · subst hj0
                          have hN0 : 0 < N := hjl
                          clear hav hB5 hjj hjf
                          go_wp2_with fail
                          go_quiet (fail)
                          go_wp2
                          go_roundw
                          case rel => first | exact ⟨1, by omega, by go_num, _, rfl⟩ | ((repeat apply Exists.intro); exact ⟨⟨1, by omega, by go_num, _, rfl⟩, rfl⟩)
                          case measure => (simp [intOf]; try omega)
                        · have hd3 : decide ((0 : Int) < (j : Int)) = true := by simp; omega
                          have hd5 : decide (0 < j) = true := by simp; omega
                          have hlt0 := pairwise_nth (show l'.Pairwise (· < ·) by rw [← HFin2.out]; exact U_lt i g) (show j - 1 < j by omega) (by rw [HN.out]; exact hjl)
                          obtain ⟨gb, hgb, hcp⟩ := hav (j - 1) (by omega)
                          obtain rfl : ga = gb := by injection hgb with hgb; injection hgb
                          clear hgb
                          rw [hjj] at hlt0
                          obtain ⟨pv, hpv⟩ : ∃ pv, nth l' (j - 1) = pv := ⟨_, rfl⟩
                          rw [hpv] at hcp hlt0
                          have hd4 : decide ((jj : Int) ≤ pv) = false := by simp; omega
                          have hj1 : 1 ≤ j := by omega
                          obtain ⟨jp, hjp⟩ : ∃ jp, j - 1 = jp := ⟨_, rfl⟩
                          rw [hjp] at hcp
                          have hjpN : jp < N := by omega
                          have hjpN2 : (jp : Int) < (N : Int) := by omega
                          have hwr : IntKind.i64.wrap ((j : Int) - 1) = (jp : Int) := by rw [IntWalk.i64_in _ (by omega)]; omega
                          clear hav hB5 hjj hjf hj0 hpv hjp
                          go_wp2_with fail
                          go_quiet (fail)
                          go_wp2
                          go_roundw
                          case rel => first | exact ⟨j + 1, by omega, by go_num, _, rfl⟩ | ((repeat apply Exists.intro); exact ⟨⟨j + 1, by omega, by go_num, _, rfl⟩, rfl⟩)
                          case measure => (simp [intOf]; try omega)
                      · obtain rfl : j = N := by omega
                        have hB6 := hB5.only ((Only.refl [] wa).drewN m) (by simp)
                        clear hav hB5
                        go_wp2
                        go_roundw
                        case rel => exact ⟨k + 1, i, st', l', g, by omega, by omega, by go_num, rfl, rfl, by omega, hst', HSTL.out, hh5.drewN m, HFin2.out.symm, Hmf2.out, hB6, hoo3.drewN m, hA5⟩
                        case measure => (simp [intOf]; try omega)
      · have hout : l1.length ≤ k ∨ (k < l1.length ∧ 100 ≤ k) := by omega
        clear hlt hin
        rcases hout with hout | ⟨hout, hout2⟩
        all_goals
          go_wp2
          go_ret
          exact ⟨rfl, ho2.below (Nat.le_refl _) (by simp)⟩
  · have hr' : a0 < 1 ∨ 16 < a0 := by omega
    refine (ring_new_no _ _ hr').mono ?_
    rintro e w7 ⟨rfl, m7, rfl⟩
    rcases hr' with hr' | hr'
    · go_wp2
      go_ret
      exact ⟨by simp, (hoo6.drewN _).below (Nat.le_refl _) (by simp)⟩
    · have hr2 : ¬ a0 < 1 := by omega
      go_wp2
      go_ret
      exact ⟨by simp, (hoo6.drewN _).below (Nat.le_refl _) (by simp)⟩

end Go.Proofs.Ytcdnnklbbnojpaa.ringWhole
