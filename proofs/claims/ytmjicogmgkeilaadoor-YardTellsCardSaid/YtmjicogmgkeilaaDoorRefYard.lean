/-
  Contracts of yardref2.Jobs, yardref2.Serve and yardsame.Jobs.
-/
import Derived.Test.YtmjicogmgkeilaaDoorYardLaws
import Derived.BigQuiet
namespace Go.Proofs.YtmjicogmgkeilaaDoor
open Go.RowKit

set_option maxHeartbeats 1000000 in
theorem ref_jobs_full (v : Value) (l : List (Int × Int)) (w : World) (h : InJobs w v l) (h6 : 6 < l.length) :
    Calls Tryd.prog 40 #[v] w fun e w' => e = .returned (.int .i64 4) ∧ w = w' := by
  obtain ⟨a, cap, rfl, h1, h2, h0, h3⟩ := h.2
  unfold maxLen at h2
  clear h h3 h0
  go_enter Tryd.func40, Tryd.ntmps40
  go_wp2
  go_ret
  exact ⟨rfl, rfl⟩

set_option maxHeartbeats 2000000 in
theorem ref_jobs (v : Value) (l : List (Int × Int)) (w : World) (h : InJobs w v l) (h6 : l.length ≤ 6) (x : Int) (hx : (x = 0 ∧ ∀ j ∈ l, jobOk j) ∨ (x = 1 ∧ ¬ ∀ j ∈ l, jobOk j)) :
    Calls Tryd.prog 40 #[v] w fun e w' => e = .returned (.int .i64 x) ∧ w = w' := by
  obtain ⟨a, cap, rfl, h1, h2, h0, h3⟩ := h.2
  clear h h0
  obtain ⟨n, hn⟩ : ∃ n, l.length = n := ⟨_, rfl⟩
  have key : (∀ i, i < n → jobOk (l[i]?.getD (0, 0))) ↔ ∀ j ∈ l, jobOk j := by
    constructor
    · intro hh j hj
      obtain ⟨i, hi, rfl⟩ := List.getElem_of_mem hj
      have := hh i (by omega)
      rw [List.getElem?_eq_getElem hi] at this
      simpa using this
    · intro hh i hi
      refine hh _ ?_
      rw [List.getElem?_eq_getElem (by omega)]
      simp
  rw [← key] at hx
  have HX := Lib.hid hx
  rw [hn] at h1 h3 h6 ⊢
  clear hx key hn
  go_enter Tryd.func40, Tryd.ntmps40
  go_wp2_with fail
  go_loopw [3] (fun i wr => ∃ k : Nat, k ≤ n ∧ i = .int .i64 k ∧ w = wr ∧ ∀ j, j < k → jobOk (l[j]?.getD (0, 0))) (fun i _ => n - (intOf i).toNat)
  case atStart => exact ⟨0, Nat.zero_le _, rfl, rfl, fun j hj => by omega⟩
  case round =>
    obtain ⟨k, hk, rfl, rfl, hall⟩ := hrel
    have Hall := Lib.hid hall
    clear hall
    by_cases hlt : k < n
    · obtain ⟨b, off, rfl, c0, c1⟩ := h3 k hlt
      obtain ⟨p, q, hxy⟩ : ∃ x y, l[k]?.getD (0, 0) = (x, y) := ⟨_, _, rfl⟩
      rw [hxy] at c0 c1
      simp only at c0 c1
      by_cases hj : jobOk (p, q)
      · have Hall2 : Hid (∀ j, j < k + 1 → jobOk (l[j]?.getD (0, 0))) := by
          show ∀ j, j < k + 1 → jobOk (l[j]?.getD (0, 0))
          intro j hj2
          by_cases e : j = k
          · subst e; rw [hxy]; exact hj
          · exact Hall.out j (by omega)
        unfold jobOk at hj
        simp only at hj
        obtain ⟨g1, g2, g3, g4⟩ := hj
        clear h3 hxy
        go_wp2
        go_roundw
        case rel => exact ⟨k + 1, by omega, by go_num, by trivial, Hall2.out⟩
        case measure => (simp [intOf]; try omega)
      · have hx1 : x = 1 := by
          rcases HX.out with ⟨_, h⟩ | ⟨h, _⟩
          · exact absurd (hxy ▸ h k hlt) hj
          · exact h
        subst hx1
        unfold jobOk at hj
        simp only at hj
        clear h3 hxy
        have hj2 : p < 1 ∨ (1 ≤ p ∧ 20 < p) ∨ (1 ≤ p ∧ p ≤ 20 ∧ q < 0) ∨ (1 ≤ p ∧ p ≤ 20 ∧ 0 ≤ q ∧ 10000 < q) := by omega
        clear hj
        rcases hj2 with g1 | ⟨g1, g2⟩ | ⟨g1, g2, g3⟩ | ⟨g1, g2, g3, g4⟩
        all_goals
          go_wp2
          go_ret
          exact ⟨rfl, rfl⟩
    · obtain rfl : k = n := by omega
      have hx0 : x = 0 := by
        rcases HX.out with ⟨h, _⟩ | ⟨_, h⟩
        · exact h
        · exact absurd Hall.out h
      subst hx0
      clear h3
      go_wp2
      go_ret
      exact ⟨rfl, rfl⟩

set_option maxHeartbeats 8000000 in
theorem ref_serve (v : Value) (l : List (Int × Int)) (n : Nat) (W S0 : Nat → Nat) (most : Nat) (w : World) (h : InJobs w v l) (hn : l.length = n) (h6 : n ≤ 6)
    (hWS : ∀ i, i < n → l[i]?.getD (0, 0) = ((W i : Int), (S0 i : Int))) (hW : ∀ i, i < n → 1 ≤ W i ∧ W i ≤ 20) (hS : ∀ i, i < n → S0 i ≤ 10000) (hm : most ≤ 1000) :
    Calls Tryd.prog 42 #[v, .int .i64 most] w fun e w' => ∃ vo vl, e = .returned (.tuple #[vo, vl]) ∧
      Ints w' w.heap.size vo (iter most W n (most + 1) ([], S0)).1 ∧ OwnJobs w' w.heap.size vl n W (iter most W n (most + 1) ([], S0)).2 ∧ Only [] w w' := by
  have hat := h.at hn hWS
  have HW := Lib.hid hW
  have HS := Lib.hid hS
  obtain ⟨a, cap, rfl, hc1, hc2, _, h3⟩ := h.2
  have HIN : Hid (∀ i, i < n → ∃ b off, a = some ⟨b, off, none⟩ ∧ w.cell? ⟨b, off + i * 2, none⟩ = some (.int .i64 (W i))) := by
    show ∀ _, _
    intro i hi
    obtain ⟨b, off, e, k0, _⟩ := h3 i (by omega)
    simp only [hWS i hi] at k0
    exact ⟨b, off, e, k0⟩
  rw [hn] at hc1 hat ⊢
  clear hWS hW hS h3 h hn
  go_enter Tryd.func42, Tryd.ntmps42
  go_wp2_with (at_builtin; refine wpList_append_rows sliceOf_jobs rfl (.tmp 11) (.tmp 12) rfl w w.heap.size _ 0 [] _ n _ (World.ownsRow_nil _ _ _ _) hat (by omega) (Nat.le_refl _) rfl rfl (Only.refl _ _) ?_; intro v1 w1 hI hO _)
  rw [Nat.zero_add, List.nil_append] at hI
  have ho1 : Only [] w w1 := hO.mono (by simp [own, Value.ownBlock])
  have hJ : OwnJobs w1 w.heap.size v1 n W S0 := hI
  obtain ⟨a1, cap1, rfl, hd1, hd2, hg⟩ := Row.form hJ
  have hfar := Row.far hJ
  have hszw := ho1.size
  clear hI hO hat
  go_wp2_with fail
  go_loopw [7, 8] (fun vo vr wr => ∃ (r : Nat) (o : List Int) (S : Nat → Nat), r ≤ most + 1 ∧ vr = .int .i64 r ∧ (o, S) = iter most W n r ([], S0) ∧ Ints wr w1.heap.size vo o ∧ OwnJobs wr w.heap.size (.slice a1 n cap1) n W S ∧ Only [] w wr ∧ o.length ≤ most ∧ w1.heap.size ≤ wr.heap.size)
    (fun _ vr _ => most + 1 - (intOf vr).toNat)
  case atStart => exact ⟨0, [], S0, Nat.zero_le _, rfl, rfl, Ints.nil _ _, hJ, ho1, Nat.zero_le _, Nat.le_refl _⟩
  case round =>
    obtain ⟨wo, rfl⟩ : ∃ wo : World, wo = wr := ⟨_, rfl⟩
    obtain ⟨r, o, S, hr, rfl, hp, hI, hJr, hor, hlen, hszr⟩ := hrel
    have HP := Lib.hid hp
    obtain ⟨oa, ocap, rfl, _⟩ := hI.opt
    clear hp hJ ho1
    by_cases hrm : r ≤ most
    · have hdr : decide (r ≤ most) = true := by simpa using hrm
      go_wp2_with fail
      go_loopw [7, 9] (fun vo vi wr => ∃ (i : Nat) (o1 : List Int) (S1 : Nat → Nat), i ≤ n ∧ vi = .int .i64 i ∧ (o1, S1) = roundTo most W i (o, S) ∧ Ints wr w1.heap.size vo o1 ∧ OwnJobs wr w.heap.size (.slice a1 n cap1) n W S1 ∧ Only [] w wr ∧ o1.length ≤ most ∧ w1.heap.size ≤ wr.heap.size)
        (fun _ vi _ => n - (intOf vi).toNat)
      case atStart => exact ⟨0, o, S, Nat.zero_le _, rfl, rfl, hI, hJr, hor, hlen, hszr⟩
      case round =>
        obtain ⟨wi, rfl⟩ : ∃ wi : World, wi = wr := ⟨_, rfl⟩
        obtain ⟨i, o1, S1, hi, rfl, hp1, hI1, hJ1, ho1, hlen1, hsz1'⟩ := hrel
        have HP1 := Lib.hid hp1
        clear hp1 hI hJr hor
        obtain ⟨m1, hm1⟩ : ∃ m1, o1.length = m1 := ⟨_, rfl⟩
        have HM1 := Lib.hid hm1
        obtain ⟨oa1, ocap1, rfl, _⟩ := hI1.opt
        rw [hm1] at hlen1 hI1 ⊢
        clear hm1
        by_cases hin : i < n
        · obtain ⟨g, rfl, hgb, hgl⟩ := hg (by omega)
          obtain ⟨b0, off0, rfl, hin0⟩ := HIN.out i hin
          have hWi := HW.out i hin
          have hdi : decide (i < n) = true := by simpa using hin
          clear hg
          go_wp2_with fail
          go_loopw [7, 10] (fun vo vk wr => ∃ (k c : Nat), k ≤ W i ∧ c = min k (min (S1 i) (most - m1)) ∧ vk = .int .i64 k ∧ Ints wr w1.heap.size vo (o1 ++ List.replicate c (i : Int)) ∧ OwnJobs wr w.heap.size (.slice (some ⟨g, 0, none⟩) n cap1) n W (upd S1 i (S1 i - c)) ∧ Only [] w wr ∧ m1 + c ≤ most ∧ w1.heap.size ≤ wr.heap.size)
            (fun _ vk _ => W i - (intOf vk).toNat)
          case atStart => exact ⟨0, 0, Nat.zero_le _, by omega, rfl, by simpa [HM1.out] using hI1, by rw [Nat.sub_zero, upd_id]; exact hJ1, ho1, hlen1, hsz1'⟩
          case round =>
            obtain ⟨wc, rfl⟩ : ∃ wc : World, wc = wr := ⟨_, rfl⟩
            obtain ⟨k, c, hkW, hc, rfl, hI2, hJ2, ho2, hlen2, hsz3⟩ := hrel
            have HC := Lib.hid hc
            clear hI1 hJ1 ho1 hsz1' hc
            obtain ⟨a2, cap2, rfl, _⟩ := hI2.opt
            have hl2 : Hid ((o1 ++ List.replicate c (i : Int)).length = m1 + c) := by show _ = _; rw [List.length_append, HM1.out, List.length_replicate]
            rw [hl2.out] at hI2 ⊢
            obtain ⟨c0, c1, f1⟩ := hJ2.cells i hin
            rw [upd_same] at c1
            have cin : wc.cell? ⟨b0, off0 + i * 2, none⟩ = some (.int .i64 (W i)) := (ho2.cell (p := ⟨b0, _, none⟩) (cell_lt hin0) (by simp)).trans hin0
            obtain ⟨d, hd⟩ : ∃ d, S1 i - c = d := ⟨_, rfl⟩
            rw [hd] at c1
            have Hd := Lib.hid hd
            clear hd
            by_cases hkl : k < W i
            · by_cases hgo : 0 < d ∧ m1 + c < most
              · obtain ⟨hd0, hgo2⟩ := hgo
                have hck : c = k := by have := HC.out; have := Hd.out; omega
                subst hck
                have hgo : w.heap.size ≤ g ∧ g < wc.heap.size := by omega
                have hgw : g < w1.heap.size := hgl
                obtain ⟨q, rfl⟩ : ∃ q, d = q + 1 := ⟨d - 1, by omega⟩
                have hq5 : q ≤ 10000 := by
                  have hk : Kept n S0 (o1, S1) := by
                    rw [HP1.out, HP.out]; exact roundTo_kept (iter_kept (kept_start n S0) r) i hi
                  have := hk.all i hin
                  have := HS.out i hin
                  have := Hd.out
                  simp only at *
                  omega
                have hu1 : Hid (upd (upd S1 i (S1 i - c)) i q = upd S1 i (S1 i - (c + 1))) := by
                  show _ = _; rw [upd_upd]; congr 1; have := Hd.out; omega
                simp only [Int.natCast_add, Int.cast_ofNat_Int] at c1
                go_wp2_with (at_builtin; refine wpList_push rfl (.tmp 55) (.tmp 57) rfl wc w1.heap.size _ _ wc.heap.size i (m1 + c) hI2 hl2.out (by omega) hsz3 rfl rfl ((Only.refl [] wc).alloc _) (World.cell?_alloc_at _ _ _ _ rfl) ?_; intro g3 cap3 w3 hI3 hO3 hK3; have hng : g ∉ own (Value.slice a2 (m1 + c) cap2) := (fun hx => by have := (hI2.own_lt _ hx).1; omega); have hJ3 := hJ2.only hO3 (by intro x hx hx2; simp [own, Value.ownBlock] at hx; subst hx; exact hng hx2); have hc3 := (hJ3.cells i hin).2.1; have hf3 := (hJ3.cells i hin).2.2; rw [upd_same, Hd.out] at hc3; simp only [Int.natCast_add, Int.cast_ofNat_Int] at hc3; have hset := Lib.hid (hJ3.set i hin q); rw [push_same] at hI3; have ho3 := Lib.hid (ho2.trans hO3 (by intro x hx hl; have := (hI2.own_lt _ hx).1; omega)); have hs3 := hO3.size; have hI4 := Lib.hid (hI3.only (w' := w3.setCell ⟨g, i * 2 + 1, none⟩ (.int .i64 (q : Int))) ((Only.refl [g] w3).setCell (by simp) _) (by intro g9 hg9 hx9; simp [Value.ownBlock] at hg9 hx9; subst hg9; subst hx9; rcases hK3 with hK3 | hK3 <;> first | exact hng hK3 | omega)); clear hI2 hJ2 ho2 hO3 hJ3 hI3 hK3 hng c1 cin)
                rw [hu1.out] at hset
                go_roundw
                case rel => exact ⟨c + 1, c + 1, by omega, by have := HC.out; have := Hd.out; omega, by go_num, hI4.out, hset.out, ho3.out.setCell (fun hlt => by simp at hlt; omega) _, by omega, by simp; omega⟩
                case measure => (simp [intOf]; try omega)
              · have hgo2 : d = 0 ∨ (0 < d ∧ m1 + c = most) := by omega
                have hnc : Hid (c = min (k + 1) (min (S1 i) (most - m1))) := by
                  show c = _
                  have := HC.out; have := Hd.out; omega
                clear hgo
                rcases hgo2 with rfl | ⟨hd0, hgo2⟩
                · rw [show ((0:Nat):Int) = 0 from rfl] at c1
                  go_wp2
                  go_roundw
                  case rel => exact ⟨k + 1, c, by omega, hnc.out, by go_num, hI2, hJ2, ho2, hlen2, hsz3⟩
                  case measure => (simp [intOf]; try omega)
                · go_wp2
                  go_roundw
                  case rel => exact ⟨k + 1, c, by omega, hnc.out, by go_num, hI2, hJ2, ho2, hlen2, hsz3⟩
                  case measure => (simp [intOf]; try omega)
            · have hkW : k = W i := by omega
              have hgv : gives most W S1 i o1.length = c := by
                have := HC.out
                unfold gives; rw [HM1.out]; omega
              have hend : Hid ((o1 ++ List.replicate c (i : Int), upd S1 i (S1 i - c)) = roundTo most W (i + 1) (o, S)) := by
                show _ = _
                rw [roundTo, ← HP1.out]; exact (give_eq hgv).symm
              clear hgv
              go_wp2_with fail
              go_roundw
              case rel => exact ⟨i + 1, _, _, by omega, by go_num, hend.out, hI2, hJ2, ho2, by rw [hl2.out]; exact hlen2, hsz3⟩
              case measure => (simp [intOf]; try omega)
        · obtain rfl : i = n := by omega
          have hend : Hid ((o1, S1) = iter most W i (r + 1) ([], S0)) := by
            show _ = _
            rw [iter, ← HP.out]; exact HP1.out
          go_wp2_with fail
          go_roundw
          case rel => exact ⟨r + 1, o1, S1, by omega, by go_num, hend.out, hI1, hJ1, ho1, by rw [HM1.out]; exact hlen1, hsz1'⟩
          case measure => (simp [intOf]; try omega)
    · obtain rfl : r = most + 1 := by omega
      go_wp2
      go_ret2
      refine ⟨_, _, rfl, ?_⟩
      rw [← HP.out]
      exact ⟨hI.mono hszw, hJr, hor⟩

set_option maxHeartbeats 1000000 in
theorem same_jobs (u v : Value) (n : Nat) (W S : Nat → Nat) (b1 b2 : Nat) (w : World) (hu : OwnJobs w b1 u n W S) (hv : OwnJobs w b2 v n W S) (hl : n ≤ 1000) :
    Calls Tryd.prog 44 #[u, v] w fun e w' => e = .returned (.bool true) ∧ ∃ n, w' = w.drewN n := by
  obtain ⟨a, ca, rfl, ha1, ha2, ha⟩ := Row.form hu
  obtain ⟨b, cb, rfl, hb1, hb2, hb⟩ := Row.form hv
  go_enter Tryd.func44, Tryd.ntmps44
  go_wp2_with fail
  go_loopw [5] (fun vi wr => ∃ i : Nat, i ≤ n ∧ vi = .int .i64 i ∧ ∃ m, wr = w.drewN m) (fun vi _ => n - (intOf vi).toNat)
  case atStart => exact ⟨0, Nat.zero_le _, rfl, 0, rfl⟩
  case round =>
    obtain ⟨i, hi, rfl, m, rfl⟩ := hrel
    by_cases hin : i < n
    · obtain ⟨g1, rfl, _, _⟩ := ha (by omega)
      obtain ⟨g2, rfl, _, _⟩ := hb (by omega)
      obtain ⟨k0, k1, _⟩ := hu.cells i hin
      obtain ⟨l0, l1, _⟩ := hv.cells i hin
      clear ha hb hu hv
      go_wp2_with fail
      go_quiet (fail)
      go_wp2
      go_roundw
      case rel => exact ⟨i + 1, by omega, by go_num, _, rfl⟩
      case measure => (simp [intOf]; try omega)
    · obtain rfl : i = n := by omega
      clear ha hb hu hv
      go_wp2
      go_ret
      exact ⟨rfl, _, rfl⟩

end Go.Proofs.YtmjicogmgkeilaaDoor
