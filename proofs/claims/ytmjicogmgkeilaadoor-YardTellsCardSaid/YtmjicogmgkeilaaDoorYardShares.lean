/-
  Contracts of yard.Serve where it refuses, and of yard.Shares.
-/
import Derived.Test.YtmjicogmgkeilaaDoorYardServe
namespace Go.Proofs.YtmjicogmgkeilaaDoor
open Go.RowKit

theorem yard_serve_full (v : Value) (l : List (Int × Int)) (m : Int) (w : World) (h : InJobs w v l) (h6 : 6 < l.length) :
    Calls Tryd.prog 43 #[v, .int .i64 m] w fun e w' => e = .returned (.tuple #[.slice none 0 0, .slice none 0 0, .iface 95 (.int .i64 4)]) ∧ Only [] w w' := by
  go_enter Tryd.func43, Tryd.ntmps43
  go_wp2_with fail
  refine (yard_check_full v l w h h6).mono ?_
  rintro e w1 ⟨rfl, rfl⟩
  go_wp2
  go_ret3
  exact ⟨rfl, Only.refl _ _⟩

theorem yard_serve_bad (v : Value) (l : List (Int × Int)) (m : Int) (w : World) (h : InJobs w v l) (h6 : l.length ≤ 6) (hbad : ¬ ∀ j ∈ l, jobOk j) :
    Calls Tryd.prog 43 #[v, .int .i64 m] w fun e w' => e = .returned (.tuple #[.slice none 0 0, .slice none 0 0, .iface 95 (.int .i64 1)]) ∧ Only [] w w' := by
  have Hbad := Lib.hid hbad
  clear hbad
  go_enter Tryd.func43, Tryd.ntmps43
  go_wp2_with fail
  refine (yard_check_bad v l w h h6 Hbad.out).mono ?_
  rintro e w1 ⟨rfl, ho⟩
  go_wp2
  go_ret3
  exact ⟨rfl, ho⟩

theorem yard_serve_out (v : Value) (l : List (Int × Int)) (m : Int) (w : World) (h : InJobs w v l) (h6 : l.length ≤ 6) (hok : ∀ j ∈ l, jobOk j) (hm : m < 0 ∨ 1000 < m) :
    Calls Tryd.prog 43 #[v, .int .i64 m] w fun e w' => e = .returned (.tuple #[.slice none 0 0, .slice none 0 0, .iface 95 (.int .i64 1)]) ∧ Only [] w w' := by
  have Hok := Lib.hid hok
  clear hok
  rcases hm with hm | hm
  · go_enter Tryd.func43, Tryd.ntmps43
    go_wp2_with fail
    refine (yard_check_ok v l w h h6 Hok.out).mono ?_
    rintro e w1 ⟨rfl, ho⟩
    go_wp2
    go_ret3
    exact ⟨rfl, ho⟩
  · have h0 : 0 ≤ m := by omega
    go_enter Tryd.func43, Tryd.ntmps43
    go_wp2_with fail
    refine (yard_check_ok v l w h h6 Hok.out).mono ?_
    rintro e w1 ⟨rfl, ho⟩
    go_wp2
    go_ret3
    exact ⟨rfl, ho⟩

theorem yard_shares_full (v : Value) (l : List (Int × Int)) (m : Int) (w : World) (h : InJobs w v l) (h6 : 6 < l.length) :
    Calls Tryd.prog 45 #[v, .int .i64 m] w fun e w' => e = .returned (.tuple #[.slice none 0 0, .iface 95 (.int .i64 4)]) ∧ Only [] w w' := by
  go_enter Tryd.func45, Tryd.ntmps45
  go_wp2_with fail
  refine (yard_check_full v l w h h6).mono ?_
  rintro e w1 ⟨rfl, rfl⟩
  go_wp2
  go_ret2
  exact ⟨rfl, Only.refl _ _⟩

theorem yard_shares_bad (v : Value) (l : List (Int × Int)) (m : Int) (w : World) (h : InJobs w v l) (h6 : l.length ≤ 6) (hbad : ¬ ∀ j ∈ l, jobOk j) :
    Calls Tryd.prog 45 #[v, .int .i64 m] w fun e w' => e = .returned (.tuple #[.slice none 0 0, .iface 95 (.int .i64 1)]) ∧ Only [] w w' := by
  have Hbad := Lib.hid hbad
  clear hbad
  go_enter Tryd.func45, Tryd.ntmps45
  go_wp2_with fail
  refine (yard_check_bad v l w h h6 Hbad.out).mono ?_
  rintro e w1 ⟨rfl, ho⟩
  go_wp2
  go_ret2
  exact ⟨rfl, ho⟩

theorem yard_shares_none (v : Value) (m : Int) (w : World) (h : InJobs w v []) :
    Calls Tryd.prog 45 #[v, .int .i64 m] w fun e w' => e = .returned (.tuple #[.slice none 0 0, .iface 95 (.int .i64 5)]) ∧ Only [] w w' := by
  have hc := yard_check_ok v [] w h (by simp) (by simp)
  obtain ⟨a, cap, rfl, _⟩ := h.2
  clear h
  go_enter Tryd.func45, Tryd.ntmps45
  go_wp2_with fail
  refine hc.mono ?_
  rintro e w1 ⟨rfl, ho⟩
  clear hc
  go_wp2
  go_ret2
  exact ⟨rfl, ho⟩

theorem yard_shares_out (v : Value) (l : List (Int × Int)) (m : Int) (w : World) (h : InJobs w v l) (h0 : 0 < l.length) (h6 : l.length ≤ 6) (hok : ∀ j ∈ l, jobOk j) (hm : m < 0 ∨ 1000 < m) :
    Calls Tryd.prog 45 #[v, .int .i64 m] w fun e w' => e = .returned (.tuple #[.slice none 0 0, .iface 95 (.int .i64 1)]) ∧ Only [] w w' := by
  have hc := yard_check_ok v l w h h6 hok
  obtain ⟨a, cap, rfl, _⟩ := h.2
  obtain ⟨n, hn⟩ : ∃ n, l.length = n := ⟨_, rfl⟩
  rw [hn] at h0 h6 hc ⊢
  clear h hok hn
  rcases hm with hm | hm
  · go_enter Tryd.func45, Tryd.ntmps45
    go_wp2_with fail
    refine hc.mono ?_
    rintro e w1 ⟨rfl, ho⟩
    clear hc
    go_wp2
    go_ret2
    exact ⟨rfl, ho⟩
  · have hm0 : 0 ≤ m := by omega
    go_enter Tryd.func45, Tryd.ntmps45
    go_wp2_with fail
    refine hc.mono ?_
    rintro e w1 ⟨rfl, ho⟩
    clear hc
    go_wp2
    go_ret2
    exact ⟨rfl, ho⟩

/-- The first i parts; then those behind the first c raised. -/
def parts (k T : Nat) (W : Nat → Nat) (m c : Nat) : List Int := (List.range m).map fun i => ((part k T W i + if i < c then 1 else 0 : Nat) : Int)
theorem parts_len (k T : Nat) (W : Nat → Nat) (m c : Nat) : (parts k T W m c).length = m := by simp [parts]
theorem parts_push (k T : Nat) (W : Nat → Nat) (m : Nat) : parts k T W m 0 ++ [((part k T W m : Nat) : Int)] = parts k T W (m + 1) 0 := by
  unfold parts; rw [List.range_succ, List.map_append]; simp
theorem parts_nth (k T : Nat) (W : Nat → Nat) (m c i : Nat) (h : i < m) : nth (parts k T W m c) i = ((part k T W i + if i < c then 1 else 0 : Nat) : Int) := by
  simp [nth, parts, h]
theorem parts_set (k T : Nat) (W : Nat → Nat) (m c : Nat) (_h : c < m) : (parts k T W m c).set c ((part k T W c : Nat) + 1 : Int) = parts k T W m (c + 1) := by
  apply List.ext_getElem?
  intro j
  by_cases e : j = c
  · subst e
    rw [List.getElem?_set_self (by rw [parts_len]; omega)]
    unfold parts
    rw [List.getElem?_map, List.getElem?_range (by omega)]
    simp
  · rw [List.getElem?_set_ne (Ne.symm e)]
    unfold parts
    rw [List.getElem?_map, List.getElem?_map]
    by_cases hj : j < m
    · rw [List.getElem?_range hj]
      have : (j < c) ↔ (j < c + 1) := by omega
      simp [this]
    · rw [List.getElem?_eq_none (by simpa using hj)]; rfl

theorem part_le (k T : Nat) (W : Nat → Nat) (i : Nat) (hk : k ≤ 1000) (hW : W i ≤ 20) : part k T W i ≤ 20000 ∧ k * W i ≤ 20000 := by
  have h2 : k * W i ≤ 1000 * 20 := Nat.mul_le_mul hk hW
  exact ⟨Nat.le_trans (Nat.div_le_self _ _) h2, h2⟩

set_option maxHeartbeats 4000000 in
theorem yard_shares (v : Value) (l : List (Int × Int)) (n : Nat) (W S0 : Nat → Nat) (k : Nat) (w : World) (h : InJobs w v l) (hn : l.length = n) (hn0 : 0 < n) (h6 : n ≤ 6)
    (hWS : ∀ i, i < n → l[i]?.getD (0, 0) = ((W i : Int), (S0 i : Int))) (hok : ∀ j ∈ l, jobOk j) (hW : ∀ i, i < n → 1 ≤ W i ∧ W i ≤ 20) (hk : k ≤ 1000) :
    Calls Tryd.prog 45 #[v, .int .i64 k] w fun e w' => ∃ vo, e = .returned (.tuple #[vo, .nilIface]) ∧ Ints w' w.heap.size vo ((List.range n).map fun i => (shareOf k n W i : Int)) ∧ Only [] w w' := by
  have hc := yard_check_ok v l w h (by omega) hok
  obtain ⟨a, cap, rfl, hcap1, hcap2, _, hcell⟩ := h.2
  have hcell2 : ∀ i, i < n → ∃ b off, a = some ⟨b, off, none⟩ ∧ w.cell? ⟨b, off + i * 2, none⟩ = some (.int .i64 (W i)) ∧ w.cell? ⟨b, off + i * 2 + 1, none⟩ = some (.int .i64 (S0 i)) := by
    intro i hi
    have := hcell i (by omega)
    simp only [hWS i hi] at this
    exact this
  rw [hn] at hc hcap1 ⊢
  have HW := Lib.hid hW
  have hTp : 1 ≤ sumTo W n := sumTo_pos hn0 (fun i hi => (hW i hi).1)
  have hTl : sumTo W n ≤ 120 := Nat.le_trans (sumTo_le (fun i hi => (hW i hi).2)) (by omega)
  obtain ⟨T, hT⟩ : ∃ T, sumTo W n = T := ⟨_, rfl⟩
  have HT := Lib.hid hT
  rw [hT] at hTp hTl
  clear h hok hWS hcell hW hT hn
  go_enter Tryd.func45, Tryd.ntmps45
  go_wp2_with fail
  refine hc.mono ?_
  rintro e w1 ⟨rfl, ho⟩
  clear hc
  have hs1 := ho.size
  go_wp2_with fail
  go_loopw [7, 36] (fun vs vi wr => ∃ i : Nat, i ≤ n ∧ vi = .int .i64 i ∧ vs = .int .i64 (sumTo W i) ∧ Only [] w wr) (fun _ vi _ => n - (intOf vi).toNat)
  case atStart => exact ⟨0, Nat.zero_le _, rfl, rfl, ho⟩
  case round =>
    obtain ⟨i, hi, rfl, rfl, hor⟩ := hrel
    by_cases hin : i < n
    · obtain ⟨b, off, rfl, k0, k1⟩ := hcell2 i hin
      have c0 := (hor.cell (p := ⟨b, _, none⟩) (cell_lt k0) (by simp)).trans k0
      have c1 := (hor.cell (p := ⟨b, _, none⟩) (cell_lt k1) (by simp)).trans k1
      have hmono : sumTo W i ≤ T := by rw [← HT.out]; exact sumTo_mono hi
      have hstep : Hid (sumTo W (i + 1) = sumTo W i + W i) := rfl
      obtain ⟨s, hs⟩ : ∃ s, sumTo W i = s := ⟨_, rfl⟩
      rw [hs] at hmono hstep ⊢
      have hWi := HW.out i hin
      have ho2 := Lib.hid (hor.alloc (.cells #[.int .i64 (W i), .int .i64 (S0 i)] 82))
      clear hcell2 k0 k1 hor hs ho
      go_wp2
      go_roundw
      case rel => exact ⟨i + 1, by omega, by go_num, by rw [hstep.out]; go_num, ho2.out⟩
      case measure => (simp [intOf]; try omega)
    · obtain rfl : i = n := by omega
      rw [HT.out]
      clear ho
      have hsr := hor.size
      go_wp2_with fail
      go_loopw [10, 11, 48] (fun vo vl vi wq => ∃ j : Nat, j ≤ i ∧ vi = .int .i64 j ∧ Ints wq w.heap.size vo (parts k T W j 0) ∧ vl = .int .i64 ((k : Int) - (sumTo (part k T W) j : Nat)) ∧ Only [] w wq) (fun _ _ vi _ => i - (intOf vi).toNat)
      case atStart => exact ⟨0, Nat.zero_le _, rfl, Ints.nil _ _, by simp [sumTo], hor⟩
      case round =>
        obtain ⟨j, hj, rfl, hI, rfl, hoq⟩ := hrel
        clear hor
        by_cases hjn : j < i
        · obtain ⟨b, off, rfl, k0, k1⟩ := hcell2 j hjn
          have c0 := (hoq.cell (p := ⟨b, _, none⟩) (cell_lt k0) (by simp)).trans k0
          have c1 := (hoq.cell (p := ⟨b, _, none⟩) (cell_lt k1) (by simp)).trans k1
          have hWj := HW.out j hjn
          have hpl := part_le k T W j hk hWj.2
          have hpush := parts_push k T W j
          have hstep : Hid (sumTo (part k T W) (j + 1) = sumTo (part k T W) j + part k T W j) := rfl
          have hsl : sumTo (part k T W) (j + 1) ≤ k := by
            refine Nat.le_trans (sumTo_mono (show j + 1 ≤ i by omega)) ?_
            have := (part_left k W i (by rw [HT.out]; omega)).1
            rw [HT.out] at this; exact this
          rw [hstep.out] at hsl
          obtain ⟨s, hs⟩ : ∃ s, sumTo (part k T W) j = s := ⟨_, rfl⟩
          have hdiv : (k : Int) * (W j : Int) / (T : Int) = (part k T W j : Nat) := by unfold part; simp
          have hmul : (k : Int) * (W j : Int) ≤ 20000 := by rw [← Int.natCast_mul]; omega
          have hmul0 : 0 ≤ (k : Int) * (W j : Int) := by rw [← Int.natCast_mul]; omega
          obtain ⟨q, hq⟩ : ∃ q, part k T W j = q := ⟨_, rfl⟩
          rw [hs] at hstep hsl ⊢
          rw [hq] at hdiv hpush hpl hstep hsl
          have hq2 := hpl.1
          have Hpush := Lib.hid hpush
          obtain ⟨oa, ocap, rfl, _⟩ := hI.opt
          rw [parts_len] at hI ⊢
          have hpl2 : Hid ((parts k T W j 0).length = j) := parts_len _ _ _ _ _
          have hsz9 : w.heap.size ≤ wr.heap.size := hoq.size
          clear hcell2 k0 k1 hs hq hpl hpush
          go_wp2_with (at_builtin; refine wpList_push rfl (.tmp 58) (.tmp 60) rfl _ w.heap.size _ _ _ q j hI hpl2.out (by omega) hsz9 rfl rfl (((Only.refl [] wr).alloc (.cells #[.int .i64 (W j), .int .i64 (S0 j)] 82)).alloc _) (World.cell?_alloc_at _ _ _ _ (by simp)) ?_; intro g3 cap3 w3 hI3 hO3 hK3)
          rw [Hpush.out] at hI3
          have ho3 := Lib.hid (hoq.pushed hI (Nat.le_refl _) hO3)
          go_roundw
          case rel => exact ⟨j + 1, by omega, by go_num, hI3, by rw [hstep.out]; go_num, ho3.out⟩
          case measure => (simp [intOf]; try omega)
        · obtain rfl : j = i := by omega
          obtain ⟨hp1, hp2⟩ := part_left k W j (by rw [HT.out]; omega)
          rw [HT.out] at hp1 hp2
          have hsh : Hid ((List.range j).map (fun i => (shareOf k j W i : Int)) = parts k T W j (k - sumTo (part k T W) j)) := by
            show _ = _
            unfold shareOf parts
            rw [HT.out]
          obtain ⟨s, hs⟩ : ∃ s, sumTo (part k T W) j = s := ⟨_, rfl⟩
          rw [hs] at hp1 hp2 hsh ⊢
          obtain ⟨d, rfl⟩ : ∃ d, k = s + d := ⟨k - s, by omega⟩
          have hd : ((s + d : Nat) : Int) - (s : Int) = (d : Int) := by omega
          have hd2 : Hid (s + d - s = d) := by show _ = _; omega
          rw [hd2.out] at hsh hp2
          rw [hd]
          obtain ⟨oa, ocap, rfl, _⟩ := hI.opt
          have hlen9 : Hid ((parts (s + d) T W j 0).length = j) := parts_len _ _ _ _ _
          rw [hlen9.out] at hI ⊢
          obtain ⟨g, cap9, hge, hgb, hgl⟩ := hI.sized j hlen9.out hn0
          injection hge with hge1 hge2 hge3
          subst hge1
          subst hge3
          clear hs hd hcell2
          go_wp2_with fail
          go_loopw [67] (fun vi wz => ∃ c : Nat, c ≤ d ∧ vi = .int .i64 c ∧ Ints wz w.heap.size (.slice (some ⟨g, 0, none⟩) j ocap) (parts (s + d) T W j c) ∧ Only [] w wz) (fun vi _ => d - (intOf vi).toNat)
          case atStart => exact ⟨0, Nat.zero_le _, rfl, hI, hoq⟩
          case round =>
            obtain ⟨c, hc, rfl, hI3, ho3⟩ := hrel
            clear hI hoq
            by_cases hcd : c < d
            · have hcj : c < j := by omega
              have hcell := hI3.cell c (by rw [parts_len]; exact hcj)
              have hfz := hI3.free c
              have hWc := HW.out c hcj
              have hpl := part_le (s + d) T W c hk hWc.2
              rw [parts_nth _ _ _ _ _ _ hcj, if_neg (Nat.lt_irrefl c), Nat.add_zero] at hcell
              have hset := Lib.hid (hI3.set c ((part (s + d) T W c : Nat) + 1 : Int))
              rw [parts_set _ _ _ _ _ hcj] at hset
              have hos := Lib.hid (ho3.setCell (p := ⟨g, c, none⟩) (fun hlt => by simp at hlt; omega) (.int .i64 ((part (s + d) T W c : Nat) + 1 : Int)))
              obtain ⟨q, hq⟩ : ∃ q, part (s + d) T W c = q := ⟨_, rfl⟩
              rw [hq] at hcell hset hos hpl
              have hq2 := hpl.1
              clear hq hpl hI3 ho3
              go_wp2
              go_roundw
              case rel => exact ⟨c + 1, by omega, by go_num, hset.out, hos.out⟩
              case measure => (simp [intOf]; try omega)
            · obtain rfl : c = d := by omega
              go_wp2
              go_ret2
              exact ⟨_, rfl, by rw [hsh.out]; exact hI3, ho3⟩

end Go.Proofs.YtmjicogmgkeilaaDoor
