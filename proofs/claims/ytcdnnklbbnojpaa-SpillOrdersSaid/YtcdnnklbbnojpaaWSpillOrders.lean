/-
  The statement SpillOrders: all that was put comes, in the order in which it was put, however much overflowed. No condition.
-/
import Derived.Test.YtcdnnklbbnojpaaFrame
import Derived.Test.YtcdnnklbbnojpaaSpill
import Derived.Test.YtcdnnklbbnojpaaSeg
import Derived.Test.YtcdnnklbbnojpaaMore
namespace Go.Proofs.Ytcdnnklbbnojpaa.spillOrders
open Go.ChangeShapes Go.WideShapes Go.ChangeAt Go.RowKit
open Go.ChangeMaps (open_string shut_string)
set_option linter.unusedVariables false

theorem seg_drop (a : Int) (n k : Nat) (h : k ≤ n) : (seg a n).drop k = seg (a + k) (n - k) := by
  refine List.ext_getElem (by simp [seg]) ?_
  intro i h1 h2
  simp [seg]
  omega
theorem seg_append (a : Int) (n m : Nat) : seg a n ++ seg (a + n) m = seg a (n + m) := by
  refine List.ext_getElem (by simp [seg]) ?_
  intro i h1 h2
  simp only [seg, List.getElem_append, List.length_map, List.length_range, List.getElem_map, List.getElem_range]
  split
  · rfl
  · omega

theorem Spill.len_small (fp : List Nat) (b room : Nat) (all : List Int) (m : Nat) (w : World) (h : SpillIs w fp b room all) (hm : all.length = m) (hs : m < room) :
    Calls Try.prog 40 #[.pointer (some ⟨b, 0, none⟩)] w fun e w' => e = .returned (.tuple #[.int .i64 m, .int .i64 0]) ∧ ∃ n, w' = w.drewN n := by
  have e1 : (all.take room).length = m := by simp; omega
  have e2 : (all.drop room).length = 0 := by simp; omega
  have := Spill.len fp b room all w h
  rw [e1, e2] at this
  exact this
theorem Spill.len_big (fp : List Nat) (b room : Nat) (all : List Int) (r : Nat) (w : World) (h : SpillIs w fp b room all) (hm : all.length = room + r) :
    Calls Try.prog 40 #[.pointer (some ⟨b, 0, none⟩)] w fun e w' => e = .returned (.tuple #[.int .i64 room, .int .i64 r]) ∧ ∃ n, w' = w.drewN n := by
  have e1 : (all.take room).length = room := by simp; omega
  have e2 : (all.drop room).length = r := by simp; omega
  have := Spill.len fp b room all w h
  rw [e1, e2] at this
  exact this

set_option maxHeartbeats 2000000 in
set_option maxRecDepth 100000 in
theorem walk (a0 : Int) (v1 : Value) (l1 : List Int) (w : World) (w0 : (Lit.int .i64 a0).wf = true) (w1 : InInts w v1 l1) :
    Calls Try.prog 11 #[.int .i64 a0, v1] w fun e w' => e = .returned (.bool true) ∧ Below w.heap.size w w' := by
  have bd0 := bounds_i64 w0
  have HA := w1
  clear w0 w1
  go_enter Try.func11, Try.ntmps11
  go_wp2_with fail
  refine (Spill.new _ _ (by omega) (by omega)).mono ?_
  rintro e w1 ⟨b1, fp1, rfl, hs1, ho1, hf1⟩
  replace hs1 : SpillIs w1 fp1 b1 1 [] := hs1
  have hz1 := ho1.size
  have hal := (Only.refl [] w1).alloc (.cells #[.int .i64 5, .int .i64 6, .int .i64 7] 3)
  have hs2 := hs1.only hal (by simp)
  have ho2 := ho1.trans hal (by simp)
  have hlt1 := hs1.lt
  have hrd : Reads (w1.alloc (.cells #[.int .i64 5, .int .i64 6, .int .i64 7] 3)) (.slice (some ⟨w1.heap.size, 0, none⟩) 3 3) [5, 6, 7] := by
    refine .inr ⟨by decide, w1.heap.size, 0, 3, rfl, Nat.le_refl _, by unfold maxLen; omega, fun i hi => ?_⟩
    rw [Nat.zero_add, World.cell?_alloc_new]
    rcases i with _ | _ | _ | i
    · rfl
    · rfl
    · rfl
    · simp at hi; omega
  have hput := Spill.put _ _ _ _ _ _ _ hs2 hrd (fun x hx hx2 => by
    obtain rfl : x = w1.heap.size := by simpa [own, Value.ownBlock] using hx
    exact absurd (hlt1 _ hx2) (by omega)) (by decide)
  have HP := Lib.hid hput
  have H2 := Lib.hid ho2
  clear hal hs2 ho2 hrd hput hs1 ho1
  go_wp2_with fail
  refine HP.out.mono ?_
  rintro e w3 ⟨rfl, fp3, hs3, ho3, hk3⟩
  replace hs3 : SpillIs w3 fp3 b1 1 [5, 6, 7] := hs3
  have ho4 := H2.out.kin ho3 hf1
  have hf3 := kin_ge hk3 hf1 (by simpa using Nat.le_succ_of_le hz1)
  clear HP H2 ho3 hk3 hf1 hlt1 hz1
  go_wp2_with fail
  refine (Spill.get _ _ _ _ _ _ hs3 (by omega) (by omega)).mono ?_
  rintro e w5 ⟨v5, rfl, hv5, fp5, _, ho5, _⟩
  replace hv5 : Ints w5 w3.heap.size v5 [5, 6] := hv5
  obtain ⟨g5, cap5, rfl, _, _⟩ := hv5.sized 2 rfl (by omega)
  have hx0 := hv5.cell 0 (by simp)
  have hx1 := hv5.cell 1 (by simp)
  replace hx0 : w5.cell? ⟨g5, 0, none⟩ = some (.int .i64 5) := hx0
  replace hx1 : w5.cell? ⟨g5, 1, none⟩ = some (.int .i64 6) := hx1
  have ho6 := ho4.kin ho5 hf3
  clear hf3 hs3 hv5 ho5 ho4
  go_wp2_with fail
  clear hx0 hx1
  by_cases hr : 1 ≤ a0 ∧ a0 ≤ 16
  · obtain ⟨room, rfl⟩ := Int.eq_ofNat_of_zero_le (show 0 ≤ a0 by omega)
    refine (Spill.new _ _ hr.1 hr.2).mono ?_
    rintro e w7 ⟨b, fp, rfl, hs, ho7, hfp⟩
    rw [Int.toNat_natCast] at hs
    have hr1 : 1 ≤ room := by omega
    have hr2 : room ≤ 16 := by omega
    have ho := ho6.trans ho7 (by simp)
    have hfp' : ∀ x ∈ fp, w.heap.size ≤ x := fun x hx => Nat.le_trans ho6.size (hfp x hx)
    obtain ⟨sa, scap, rfl, hin⟩ := HA.opt
    clear ho6 ho7 hfp HA hr
    go_wp2_with fail
    go_loopw [10, 11, 12] (fun vn va vi wr => ∃ (k at' m N : Nat) (fp : List Nat), k ≤ l1.length ∧ k ≤ 60 ∧ vi = .int .i64 k ∧ va = .int .i64 at' ∧ vn = .int .i64 N ∧ N ≤ at' + m ∧ at' + m ≤ N ∧ at' + m ≤ 20 * k ∧ m ≤ 60 ∧ SpillIs wr fp b room (seg at' m) ∧ Only [] w wr ∧ ∀ x ∈ fp, w.heap.size ≤ x)
      (fun _ _ i _ => 60 - (intOf i).toNat)
    case atStart => exact ⟨0, 0, 0, 0, fp, Nat.zero_le _, by omega, rfl, rfl, rfl, by omega, by omega, by omega, by omega, hs, ho, hfp'⟩
    case round =>
      obtain ⟨k, at', m, N, fp, hk, hk60, rfl, rfl, rfl, hN1, hN2, hb, hm, hs, ho, hfp⟩ := hrel
      clear hfp'
      by_cases hlt : k < l1.length ∧ k < 60
      · obtain ⟨hlt, hlt60⟩ := hlt
        obtain ⟨ba, oa, rfl, hc0⟩ := hin k hlt
        have hl0 := cell_lt hc0
        have hcell : wr.cell? ⟨ba, oa + k, none⟩ = some (.int .i64 (nth l1 k)) := (ho.cell (p := ⟨ba, oa + k, none⟩) hl0 (by simp)).trans hc0
        clear hin
        have hsz := ho.size
        by_cases hneg : nth l1 k < 0
        · have ht3 : (seg at' m).take (3 : Int).toNat = seg at' (min m 3) := by
            by_cases h : 3 ≤ m
            · rw [show (3 : Int).toNat = 3 from rfl, seg_take _ _ _ h, Nat.min_eq_right h]
            · rw [List.take_of_length_le (by rw [seg_length]; simp; omega), Nat.min_eq_left (by omega)]
          have hd3 : (seg at' m).drop (3 : Int).toNat = seg ((at' : Int) + (min m 3 : Nat)) (m - min m 3) := by
            by_cases h : 3 ≤ m
            · rw [show (3 : Int).toNat = 3 from rfl, seg_drop _ _ _ h, Nat.min_eq_right h]
            · rw [List.drop_of_length_le (by rw [seg_length]; simp; omega), Nat.min_eq_left (by omega), Nat.sub_self]
              rfl
          have HT := Lib.hid ht3
          have HD := Lib.hid hd3
          obtain ⟨t, ht⟩ : ∃ t, t = min m 3 := ⟨_, rfl⟩
          have htm : t ≤ m := by omega
          have ht3' : t ≤ 3 := by omega
          have htt : m < 3 → t = m := by omega
          have ht33 : 3 ≤ m → t = 3 := by omega
          rw [← ht] at HT HD
          clear ht3 hd3 ht
          go_wp2_with fail
          refine (Spill.get _ _ _ _ _ _ hs (by omega) (by omega)).mono ?_
          rintro e w8 ⟨v8, rfl, hv8, fp8, hs8, ho8, hsub8⟩
          rw [HT.out] at hv8
          rw [HD.out] at hs8
          have hoo := ho.kin ho8 hfp
          have hfp8 : ∀ x ∈ fp8, w.heap.size ≤ x := fun x hx => hfp x (hsub8 x hx)
          obtain ⟨la, lcap, rfl, hva⟩ := hv8.opt
          rw [seg_length] at hva ⊢
          have hval : ∀ i, i < t → ∃ g, la = some ⟨g, 0, none⟩ ∧ w8.cell? ⟨g, i, none⟩ = some (.int .i64 ((at' : Int) + i)) := fun i hi => by
            obtain ⟨g, e, h⟩ := hva i hi
            rw [nth_seg _ _ _ hi] at h
            exact ⟨g, e, h⟩
          clear hva hv8 HT HD hs ho ho8 hsub8 hfp hcell hsz
          obtain ⟨M, hM1, hM2, hs⟩ : ∃ M, M + t ≤ m ∧ m ≤ M + t ∧ SpillIs w8 fp8 b room (seg ((at' + t : Nat) : Int) M) := ⟨m - t, by omega, by omega, by simpa using hs8⟩
          have ho := hoo
          clear hs8 hoo hc0 hl0 hneg
          have h3 : (m < 3 ∧ m ≤ t ∧ decide ((t : Int) < 3) = true) ∨ (3 ≤ t ∧ decide ((t : Int) < 3) = false) := by
            by_cases h : m < 3
            · exact .inl ⟨h, by have := htt h; omega, by have := htt h; simp; omega⟩
            · exact .inr ⟨by have := ht33 (by omega); omega, by have := ht33 (by omega); simp; omega⟩
          clear htt ht33
          go_wp2_with fail
          go_loop [11, 15] (fun va vj => ∃ j : Nat, j ≤ t ∧ va = .int .i64 ((at' : Int) + j) ∧ vj = .int .i64 j) (fun _ vj => t - (intOf vj).toNat)
          case atStart => exact ⟨0, Nat.zero_le _, by simp, rfl⟩
          case round =>
            obtain ⟨j, hj, rfl, rfl⟩ := hrel
            by_cases hjt : j < t
            · obtain ⟨gg, rfl, hcv⟩ := hval j hjt
              clear hval h3
              go_wp2
              go_round
              case rel => exact ⟨j + 1, by omega, by go_num, by go_num⟩
              case measure => (simp [intOf]; try omega)
            · have hj1 : j ≤ t := hj
              have hj2 : t ≤ j := by omega
              clear hval
              rcases h3 with ⟨h3, h3t, h3d⟩ | ⟨h3, h3d⟩
              all_goals
                go_wp2_with fail
                by_cases hsm : M < room
                · have hL := Spill.len_small _ _ _ _ M _ hs (seg_length _ _) hsm
                  have HL := Lib.hid hL
                  clear hL
                  go_wp2_with fail
                  refine HL.out.mono ?_
                  rintro e wz ⟨rfl, nz, rfl⟩
                  have hs' := hs.only ((Only.refl [] _).drewN nz) (by simp)
                  have ho' := ho.drewN nz
                  clear HL hs ho
                  try simp only [World.drewN_drewN] at hs' ho'
                  go_wp2
                  all_goals
                    go_roundw
                    case rel => exact ⟨k + 1, at' + t, M, N, fp8, by omega, by omega, by go_num, by go_num, rfl, by omega, by omega, by omega, by omega, hs', ho', hfp8⟩
                    case measure => (simp [intOf]; try omega)
                · obtain ⟨r, hr⟩ : ∃ r, M = room + r := ⟨M - room, by omega⟩
                  have hL := Spill.len_big _ _ _ _ r _ hs (by rw [seg_length]; exact hr)
                  have HL := Lib.hid hL
                  have hr1 : M ≤ room + r := by omega
                  have hr2 : room + r ≤ M := by omega
                  clear hL hr
                  go_wp2_with fail
                  refine HL.out.mono ?_
                  rintro e wz ⟨rfl, nz, rfl⟩
                  have hs' := hs.only ((Only.refl [] _).drewN nz) (by simp)
                  have ho' := ho.drewN nz
                  clear HL hs ho
                  try simp only [World.drewN_drewN] at hs' ho'
                  go_wp2
                  all_goals
                    go_roundw
                    case rel => exact ⟨k + 1, at' + t, M, N, fp8, by omega, by omega, by go_num, by go_num, rfl, by omega, by omega, by omega, by omega, hs', ho', hfp8⟩
                    case measure => (simp [intOf]; try omega)
        · by_cases h20 : nth l1 k < 20
          · obtain ⟨X, hX⟩ : ∃ X : Nat, nth l1 k = X := ⟨(nth l1 k).toNat, by omega⟩
            rw [hX] at hcell hc0
            have hX20 : X < 20 := by omega
            clear hX hneg h20
            obtain ⟨wo, rfl⟩ : ∃ wo : World, wo = wr := ⟨_, rfl⟩
            go_wp2_with fail
            go_loopw [16, 17] (fun v vj wq => ∃ j : Nat, j ≤ X ∧ vj = .int .i64 j ∧ Ints wq wo.heap.size v (seg N j) ∧ Only [] wo wq) (fun _ vj _ => X - (intOf vj).toNat)
            case atStart => exact ⟨0, Nat.zero_le _, rfl, Ints.nil _ _, Only.refl _ _⟩
            case round =>
              obtain ⟨j, hj, rfl, hI, hoq⟩ := hrel
              have hc1 : wr.cell? ⟨ba, oa + k, none⟩ = some (.int .i64 X) := (hoq.cell (p := ⟨ba, oa + k, none⟩) (by have := cell_lt hcell; exact this) (by simp)).trans hcell
              by_cases hjX : j < X
              · have hszq := hoq.size
                clear hcell
                go_wp2_with (at_builtin; refine wpList_push rfl (.tmp 131) (.tmp 135) rfl wr wo.heap.size u16 (seg N j) wr.heap.size ((N : Int) + j) j hI (seg_length _ _) (by omega) hszq rfl rfl ((Only.refl [] wr).alloc _) (World.cell?_alloc_at _ _ _ _ rfl) ?_; intro g cap w2 hI2 hO2 _)
                rw [seg_push] at hI2
                have ho2 := hoq.pushed hI (Nat.le_refl _) hO2
                clear hI hO2 hoq hc1
                go_roundw
                case rel => exact ⟨j + 1, by omega, by go_num, hI2, ho2⟩
                case measure => (simp [intOf]; try omega)
              · have hj1 : X ≤ j := by omega
                have hsq := hs.only hoq (by simp)
                have hlts := hs.lt
                have hooq := ho.trans hoq (by simp)
                have hdis : ∀ x ∈ own u16, x ∉ fp := fun x hx hf => by
                  have := (hI.own_lt x hx).1
                  have := hlts x hf
                  omega
                have hrd := hI.reads
                obtain rfl : j = X := by omega
                obtain ⟨la, lcap, rfl, _⟩ := hI.opt
                have hszq := hooq.size
                rw [seg_length] at hrd hdis ⊢
                clear hI hs ho hoq hlts hcell
                by_cases hfit : m + j ≤ 60
                · have hput := Spill.put _ _ _ _ _ _ _ hsq hrd hdis (by rw [seg_length, seg_length]; exact hfit)
                  have happ : seg at' m ++ seg N j = seg at' (m + j) := by
                    rw [show (N : Int) = (at' : Int) + m by omega, seg_append]
                  rw [happ] at hput
                  have HP := Lib.hid hput
                  clear hput happ hsq hrd
                  go_wp2_with fail
                  refine HP.out.mono ?_
                  rintro e w9 ⟨rfl, fp9, hs, ho9, hk9⟩
                  have hfp9 := kin_ge hk9 hfp hszq
                  have ho := hooq.kin ho9 hfp
                  have hc9 : w9.cell? ⟨ba, oa + k, none⟩ = some (.int .i64 j) := (ho.cell (p := ⟨ba, oa + k, none⟩) hl0 (by simp)).trans hc0
                  clear HP hc1 hooq ho9 hk9 hdis hfp
                  go_wp2_with fail
                  by_cases hsm : (m + j) < room
                  · have hL := Spill.len_small _ _ _ _ (m + j) _ hs (seg_length _ _) hsm
                    have HL := Lib.hid hL
                    clear hL
                    go_wp2_with fail
                    refine HL.out.mono ?_
                    rintro e wz ⟨rfl, nz, rfl⟩
                    have hs' := hs.only ((Only.refl [] _).drewN nz) (by simp)
                    have ho' := ho.drewN nz
                    clear HL hs ho
                    try simp only [World.drewN_drewN] at hs' ho'
                    go_wp2
                    all_goals
                      go_roundw
                      case rel => exact ⟨k + 1, at', m + j, N + j, fp9, by omega, by omega, by go_num, by go_num, by go_num, by omega, by omega, by omega, by omega, hs', ho', hfp9⟩
                      case measure => (simp [intOf]; try omega)
                  · obtain ⟨r, hr⟩ : ∃ r, (m + j) = room + r := ⟨(m + j) - room, by omega⟩
                    have hL := Spill.len_big _ _ _ _ r _ hs (by rw [seg_length]; exact hr)
                    have HL := Lib.hid hL
                    have hr1 : (m + j) ≤ room + r := by omega
                    have hr2 : room + r ≤ (m + j) := by omega
                    clear hL hr
                    go_wp2_with fail
                    refine HL.out.mono ?_
                    rintro e wz ⟨rfl, nz, rfl⟩
                    have hs' := hs.only ((Only.refl [] _).drewN nz) (by simp)
                    have ho' := ho.drewN nz
                    clear HL hs ho
                    try simp only [World.drewN_drewN] at hs' ho'
                    go_wp2
                    all_goals
                      go_roundw
                      case rel => exact ⟨k + 1, at', m + j, N + j, fp9, by omega, by omega, by go_num, by go_num, by go_num, by omega, by omega, by omega, by omega, hs', ho', hfp9⟩
                      case measure => (simp [intOf]; try omega)
                · have hput := Spill.put_full _ _ _ _ _ _ _ hsq hrd (by rw [seg_length]; omega) (by rw [seg_length, seg_length]; omega)
                  have HP := Lib.hid hput
                  clear hput hrd
                  go_wp2_with fail
                  refine HP.out.mono ?_
                  rintro e w9 ⟨rfl, nz9, rfl⟩
                  have hs := hsq.only ((Only.refl [] wr).drewN nz9) (by simp)
                  have ho := hooq.drewN nz9
                  clear HP hsq hooq hdis
                  go_wp2_with fail
                  by_cases hsm : m < room
                  · have hL := Spill.len_small _ _ _ _ m _ hs (seg_length _ _) hsm
                    have HL := Lib.hid hL
                    clear hL
                    go_wp2_with fail
                    refine HL.out.mono ?_
                    rintro e wz ⟨rfl, nz, rfl⟩
                    have hs' := hs.only ((Only.refl [] _).drewN nz) (by simp)
                    have ho' := ho.drewN nz
                    clear HL hs ho
                    try simp only [World.drewN_drewN] at hs' ho'
                    go_wp2
                    all_goals
                      go_roundw
                      case rel => exact ⟨k + 1, at', m, N, fp, by omega, by omega, by go_num, by go_num, by go_num, by omega, by omega, by omega, by omega, hs', ho', hfp⟩
                      case measure => (simp [intOf]; try omega)
                  · obtain ⟨r, hr⟩ : ∃ r, m = room + r := ⟨m - room, by omega⟩
                    have hL := Spill.len_big _ _ _ _ r _ hs (by rw [seg_length]; exact hr)
                    have HL := Lib.hid hL
                    have hr1 : m ≤ room + r := by omega
                    have hr2 : room + r ≤ m := by omega
                    clear hL hr
                    go_wp2_with fail
                    refine HL.out.mono ?_
                    rintro e wz ⟨rfl, nz, rfl⟩
                    have hs' := hs.only ((Only.refl [] _).drewN nz) (by simp)
                    have ho' := ho.drewN nz
                    clear HL hs ho
                    try simp only [World.drewN_drewN] at hs' ho'
                    go_wp2
                    all_goals
                      go_roundw
                      case rel => exact ⟨k + 1, at', m, N, fp, by omega, by omega, by go_num, by go_num, by go_num, by omega, by omega, by omega, by omega, hs', ho', hfp⟩
                      case measure => (simp [intOf]; try omega)
          · go_wp2_with fail
            clear hcell hc0 hl0 hneg h20 hsz
            by_cases hsm : m < room
            · have hL := Spill.len_small _ _ _ _ m _ hs (seg_length _ _) hsm
              have HL := Lib.hid hL
              clear hL
              go_wp2_with fail
              refine HL.out.mono ?_
              rintro e wz ⟨rfl, nz, rfl⟩
              have hs' := hs.only ((Only.refl [] _).drewN nz) (by simp)
              have ho' := ho.drewN nz
              clear HL hs ho
              try simp only [World.drewN_drewN] at hs' ho'
              go_wp2
              all_goals
                go_roundw
                case rel => exact ⟨k + 1, at', m, N, fp, by omega, by omega, by go_num, rfl, rfl, by omega, by omega, by omega, hm, hs', ho', hfp⟩
                case measure => (simp [intOf]; try omega)
            · obtain ⟨r, hr⟩ : ∃ r, m = room + r := ⟨m - room, by omega⟩
              have hL := Spill.len_big _ _ _ _ r _ hs (by rw [seg_length]; exact hr)
              have HL := Lib.hid hL
              have hr1 : m ≤ room + r := by omega
              have hr2 : room + r ≤ m := by omega
              clear hL hr
              go_wp2_with fail
              refine HL.out.mono ?_
              rintro e wz ⟨rfl, nz, rfl⟩
              have hs' := hs.only ((Only.refl [] _).drewN nz) (by simp)
              have ho' := ho.drewN nz
              clear HL hs ho
              try simp only [World.drewN_drewN] at hs' ho'
              go_wp2
              all_goals
                go_roundw
                case rel => exact ⟨k + 1, at', m, N, fp, by omega, by omega, by go_num, rfl, rfl, by omega, by omega, by omega, hm, hs', ho', hfp⟩
                case measure => (simp [intOf]; try omega)
      · have hout : l1.length ≤ k ∨ (k < l1.length ∧ 60 ≤ k) := by omega
        clear hlt hin
        rcases hout with hout | ⟨hout, hout2⟩
        all_goals
          go_wp2
          go_ret
          exact ⟨rfl, ho.below (Nat.le_refl _) (by simp)⟩
  · have hr' : a0 < 1 ∨ 16 < a0 := by omega
    refine (spill_new_no _ _ hr').mono ?_
    rintro e w7 ⟨rfl, ho7⟩
    have ho8 := ho6.trans ho7 (by simp)
    rcases hr' with hr' | hr'
    · go_wp2
      go_ret
      exact ⟨by simp, ho8.below (Nat.le_refl _) (by simp)⟩
    · have hr2 : ¬ a0 < 1 := by omega
      go_wp2
      go_ret
      exact ⟨by simp, ho8.below (Nat.le_refl _) (by simp)⟩

end Go.Proofs.Ytcdnnklbbnojpaa.spillOrders
