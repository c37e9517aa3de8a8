/-
  The statement YardRounds: of two jobs with enough to do, in so many whole rounds, each has its weight in each. No condition.
-/
import Derived.Test.YtcdnnklbbnojpaaFrame
import Derived.Test.YtcdnnklbbnojpaaYardShares
namespace Go.Proofs.Ytcdnnklbbnojpaa.yardRounds
open Go.ChangeShapes Go.WideShapes Go.ChangeAt Go.RowKit
open Go.ChangeMaps (open_string shut_string)
set_option linter.unusedVariables false

theorem two_jobs (w : World) (a b x y : Int) (h1 : (Lit.int .i64 a).wf = true) (h2 : (Lit.int .i64 b).wf = true) (h3 : (Lit.int .i64 x).wf = true) (h4 : (Lit.int .i64 y).wf = true) :
    InJobs (w.alloc (.cells #[.int .i64 a, .int .i64 x, .int .i64 b, .int .i64 y] 74)) (.slice (some ⟨w.heap.size, 0, none⟩) 2 2) [(a, x), (b, y)] := by
  refine ⟨by simp [h1, h2, h3, h4], _, 2, rfl, Nat.le_refl _, by unfold maxLen; omega, (fun h => by cases h), fun i hi => ?_⟩
  have hi2 : i = 0 ∨ i = 1 := by simp at hi; omega
  refine ⟨_, _, rfl, ?_, ?_⟩
  · rw [World.cell?_alloc_new]; rcases hi2 with rfl | rfl <;> rfl
  · rw [World.cell?_alloc_new]; rcases hi2 with rfl | rfl <;> rfl

def pick2 (a b : Nat) : Nat → Nat := fun i => if i = 0 then a else b

theorem count_two (l : List Int) (h : ∀ x ∈ l, ∃ i : Nat, i < 2 ∧ x = (i : Int)) : l.count 0 + l.count 1 = l.length := by
  induction l with
  | nil => rfl
  | cons x l ih =>
    have := ih (fun y hy => h y (by simp [hy]))
    obtain ⟨i, hi, rfl⟩ := h x (by simp)
    have hi2 : i = 0 ∨ i = 1 := by omega
    rcases hi2 with rfl | rfl <;> simp <;> omega

theorem rounds_law (a b n r : Nat) (ha : 1 ≤ a) (hb : 1 ≤ b) (hM : n * (a + b) ≤ 800) (hs : Served (n * (a + b)) 2 (iter (n * (a + b)) (pick2 a b) 2 r ([], fun _ => 1000))) :
    (iter (n * (a + b)) (pick2 a b) 2 r ([], fun _ => 1000)).1.length = n * (a + b) ∧ (iter (n * (a + b)) (pick2 a b) 2 r ([], fun _ => 1000)).1.count 0 = n * a := by
  have hk := iter_kept (most := n * (a + b)) (W := pick2 a b) (kept_start 2 (fun _ => 1000)) r
  have hm := iter_most (most := n * (a + b)) (W := pick2 a b) (n := 2) (p := ([], fun _ => 1000)) r (Nat.zero_le _)
  obtain ⟨q, hq⟩ := iter_near (most := n * (a + b)) (W := pick2 a b) (n := 2) (S0 := fun _ => 1000) r
  generalize iter (n * (a + b)) (pick2 a b) 2 r ([], fun _ => 1000) = p at *
  have hc := count_two p.1 hk.is
  have k0 := hk.all 0 (by omega)
  have k1 := hk.all 1 (by omega)
  have k0' : p.1.count 0 + p.2 0 = 1000 := k0
  have k1' : p.1.count 1 + p.2 1 = 1000 := k1
  have hl : p.1.length = n * (a + b) := by
    rcases hs with hs | hs
    · exact hs
    · have := hs 0 (by omega)
      have := hs 1 (by omega)
      omega
  refine ⟨hl, ?_⟩
  have g0 := hq 0 (by omega) (by omega)
  have g1 := hq 1 (by omega) (by omega)
  have g0' : q * a ≤ p.1.count 0 ∧ p.1.count 0 ≤ (q + 1) * a := g0
  have g1' : q * b ≤ p.1.count 1 ∧ p.1.count 1 ≤ (q + 1) * b := g1
  rw [hl, Nat.mul_add] at hc
  by_cases hqn : n ≤ q
  · have e1 : n * a ≤ q * a := Nat.mul_le_mul_right _ hqn
    have e2 : n * b ≤ q * b := Nat.mul_le_mul_right _ hqn
    omega
  · have e1 : (q + 1) * a ≤ n * a := Nat.mul_le_mul_right _ (by omega)
    have e2 : (q + 1) * b ≤ n * b := Nat.mul_le_mul_right _ (by omega)
    omega

theorem shares_law (a b n : Nat) (ha : 1 ≤ a) (_hb : 1 ≤ b) :
    (List.range 2).map (fun i => (shareOf (n * (a + b)) 2 (pick2 a b) i : Int)) = [((n * a : Nat) : Int), ((n * b : Nat) : Int)] := by
  have hT : sumTo (pick2 a b) 2 = a + b := by simp [sumTo, pick2]
  have h0 : part (n * (a + b)) (a + b) (pick2 a b) 0 = n * a := by
    unfold part pick2
    rw [if_pos rfl, Nat.mul_right_comm]
    exact Nat.mul_div_cancel _ (by omega)
  have h1 : part (n * (a + b)) (a + b) (pick2 a b) 1 = n * b := by
    unfold part pick2
    rw [if_neg (by decide), Nat.mul_right_comm]
    exact Nat.mul_div_cancel _ (by omega)
  have hl : n * (a + b) - sumTo (part (n * (a + b)) (a + b) (pick2 a b)) 2 = 0 := by
    simp only [sumTo, h0, h1]; rw [Nat.mul_add]; omega
  have e : List.range 2 = [0, 1] := rfl
  rw [e]
  simp only [List.map_cons, List.map_nil, shareOf, hT, hl, h0, h1, Nat.not_lt_zero, if_false, Nat.add_zero]

set_option maxHeartbeats 4000000 in
set_option maxRecDepth 100000 in
theorem walk (a0 : Int) (a1 : Int) (a2 : Int) (w : World) (w0 : (Lit.int .i64 a0).wf = true) (w1 : (Lit.int .i64 a1).wf = true) (w2 : (Lit.int .i64 a2).wf = true) :
    Calls Try.prog 12 #[.int .i64 a0, .int .i64 a1, .int .i64 a2] w fun e w' => e = .returned (.bool true) ∧ Below w.heap.size w w' := by
  have bd0 := bounds_i64 w0
  have bd1 := bounds_i64 w1
  have bd2 := bounds_i64 w2
  by_cases hin : 1 ≤ a0 ∧ a0 ≤ 20 ∧ 1 ≤ a1 ∧ a1 ≤ 20 ∧ 0 ≤ a2 ∧ a2 ≤ 20
  · obtain ⟨g1, g2, g3, g4, g5, g6⟩ := hin
    obtain ⟨a, rfl⟩ := Int.eq_ofNat_of_zero_le (show 0 ≤ a0 by omega)
    obtain ⟨b, rfl⟩ := Int.eq_ofNat_of_zero_le (show 0 ≤ a1 by omega)
    obtain ⟨n, rfl⟩ := Int.eq_ofNat_of_zero_le (show 0 ≤ a2 by omega)
    have hab : a + b ≤ 40 := by omega
    have hM800 : n * (a + b) ≤ 800 := Nat.mul_le_mul (show n ≤ 20 by omega) hab
    have hrl := fun r => rounds_law a b n r (by omega) (by omega) hM800
    have hsl := Lib.hid (shares_law a b n (by omega) (by omega))
    have hna : n * a ≤ 400 := Nat.mul_le_mul (show n ≤ 20 by omega) (show a ≤ 20 by omega)
    have hnb : n * b ≤ 400 := Nat.mul_le_mul (show n ≤ 20 by omega) (show b ≤ 20 by omega)
    obtain ⟨M, hM⟩ : ∃ M, n * (a + b) = M := ⟨_, rfl⟩
    obtain ⟨A, hA⟩ : ∃ A, n * a = A := ⟨_, rfl⟩
    obtain ⟨B, hB⟩ : ∃ B, n * b = B := ⟨_, rfl⟩
    have eM : (n : Int) * ((a : Int) + (b : Int)) = (M : Int) := by rw [← hM]; simp
    have eA : (n : Int) * (a : Int) = (A : Int) := by rw [← hA]; simp
    have eB : (n : Int) * (b : Int) = (B : Int) := by rw [← hB]; simp
    rw [hM] at hM800 hrl hsl
    rw [hA] at hrl hsl hna
    rw [hB] at hsl hnb
    have HRL := Lib.hid hrl
    have hj1 := two_jobs w a b 1000 1000 w0 w1 (by decide) (by decide)
    have HW0 := Lib.hid w0
    have HW1 := Lib.hid w1
    clear hM hA hB hrl w0 w1 w2
    go_enter Try.func12, Try.ntmps12
    go_wp2_with fail
    refine (yard_serve _ _ 2 (pick2 a b) (fun _ => 1000) M _ hj1 rfl (by omega) ?_ ?_ ?_ (by intro i hi; decide) (by omega)).mono ?_
    · intro i hi
      have hi2 : i = 0 ∨ i = 1 := by omega
      rcases hi2 with rfl | rfl <;> rfl
    · intro j hj
      simp at hj
      rcases hj with rfl | rfl <;> exact ⟨by simp; omega, by simp; omega, by simp, by simp⟩
    · intro i hi
      unfold pick2; split <;> omega
    rintro e w1 ⟨r, vo, vl, rfl, hs, hI, _, ho⟩
    obtain ⟨p, hp⟩ : ∃ p, iter M (pick2 a b) 2 r ([], fun _ => 1000) = p := ⟨_, rfl⟩
    have hrl := HRL.out r
    rw [hp] at hs hI hrl
    obtain ⟨hl, hcount⟩ := hrl hs
    have HCount := Lib.hid hcount
    obtain ⟨o, ho9⟩ : ∃ o, p.1 = o := ⟨_, rfl⟩
    rw [ho9] at hl hI HCount
    obtain ⟨oa, ocap, rfl, hcell⟩ := hI.opt
    have HL := Lib.hid hl
    rw [hl] at hcell hI ⊢
    have hoo := ((Only.refl [] w).alloc (.cells #[.int .i64 a, .int .i64 1000, .int .i64 b, .int .i64 1000] 74)).trans ho (by simp)
    have hj2 := two_jobs w1 a b 0 0 HW0.out HW1.out (by decide) (by decide)
    clear hrl hcount hl hp ho9 hs hj1 ho
    go_wp2_with fail
    refine (yard_shares _ _ 2 (pick2 a b) (fun _ => 0) M _ hj2 rfl (by omega) (by omega) ?_ ?_ ?_ (by omega)).mono ?_
    · intro i hi
      have hi2 : i = 0 ∨ i = 1 := by omega
      rcases hi2 with rfl | rfl <;> rfl
    · intro j hj
      simp at hj
      rcases hj with rfl | rfl <;> exact ⟨by simp; omega, by simp; omega, by simp, by simp⟩
    · intro i hi
      unfold pick2; split <;> omega
    rintro e w2 ⟨vs, rfl, hI2, ho2⟩
    rw [hsl.out] at hI2
    obtain ⟨g, scap, rfl, _⟩ := hI2.sized 2 rfl (by omega)
    have c0 : w2.cell? ⟨g, 0, none⟩ = some (.int .i64 A) := hI2.cell 0 (by simp)
    have c1 : w2.cell? ⟨g, 1, none⟩ = some (.int .i64 B) := hI2.cell 1 (by simp)
    have ho12 := ((Only.refl [] w1).alloc (.cells #[.int .i64 a, .int .i64 0, .int .i64 b, .int .i64 0] 74)).trans ho2 (by simp)
    have hoo2 := hoo.trans ho12 (by simp)
    have hin : ∀ i, i < M → ∃ g, oa = some ⟨g, 0, none⟩ ∧ w2.cell? ⟨g, i, none⟩ = some (.int .i64 (nth o i)) := by
      intro i hi
      obtain ⟨g, rfl, hc⟩ := hcell i hi
      exact ⟨g, rfl, (ho12.cell (p := ⟨g, i, none⟩) (cell_lt hc) (by simp)).trans hc⟩
    clear hj2 hI2 ho2 hoo ho12 hcell hI hsl
    go_wp2_with fail
    go_loop [12, 13] (fun vx vi => ∃ i : Nat, i ≤ M ∧ vi = .int .i64 i ∧ vx = .int .i64 ((o.take i).count 0 : Nat)) (fun _ vi => M - (intOf vi).toNat)
    case atStart => exact ⟨0, Nat.zero_le _, rfl, rfl⟩
    case round =>
      obtain ⟨i, hi, rfl, rfl⟩ := hrel
      by_cases hlt : i < M
      · obtain ⟨g9, rfl, hc⟩ := hin i hlt
        have hcl : (o.take i).count 0 ≤ i := Nat.le_trans List.count_le_length (List.length_take_le _ _)
        have htk : Hid ((o.take (i + 1)).count 0 = (o.take i).count 0 + if nth o i = 0 then 1 else 0) := by
          show _ = _
          rw [take_succ_nth o i (by rw [HL.out]; exact hlt), List.count_append]
          simp [List.count_cons]
        obtain ⟨c, hce⟩ : ∃ c, (o.take i).count 0 = c := ⟨_, rfl⟩
        rw [hce] at htk hcl ⊢
        clear hin hce
        by_cases h0 : nth o i = 0
        · have e0 : (nth o i == 0) = true := by simpa using h0
          rw [if_pos h0] at htk
          clear h0
          go_wp2
          go_round
          case rel => exact ⟨i + 1, by omega, by go_num, by rw [htk.out]; go_num⟩
          case measure => (simp [intOf]; try omega)
        · have e0 : (nth o i == 0) = false := by simpa using h0
          rw [if_neg h0] at htk
          clear h0
          go_wp2
          go_round
          case rel => exact ⟨i + 1, by omega, by go_num, by rw [htk.out]; rfl⟩
          case measure => (simp [intOf]; try omega)
      · obtain rfl : i = M := by omega
        have ht : Hid ((o.take i).count 0 = A) := by
          show _ = _
          rw [List.take_of_length_le (by rw [HL.out]; exact Nat.le_refl _)]; exact HCount.out
        rw [ht.out]
        clear hin
        go_wp2
        go_ret
        exact ⟨by simp, hoo2.below (Nat.le_refl _) (by simp)⟩
  · have hout : a0 < 1 ∨ (1 ≤ a0 ∧ 20 < a0) ∨ (1 ≤ a0 ∧ a0 ≤ 20 ∧ a1 < 1) ∨ (1 ≤ a0 ∧ a0 ≤ 20 ∧ 1 ≤ a1 ∧ 20 < a1) ∨ (1 ≤ a0 ∧ a0 ≤ 20 ∧ 1 ≤ a1 ∧ a1 ≤ 20 ∧ a2 < 0) ∨ (1 ≤ a0 ∧ a0 ≤ 20 ∧ 1 ≤ a1 ∧ a1 ≤ 20 ∧ 0 ≤ a2 ∧ 20 < a2) := by omega
    clear hin w0 w1 w2
    rcases hout with h | ⟨h, h2⟩ | ⟨h, h2, h3⟩ | ⟨h, h2, h3, h4⟩ | ⟨h, h2, h3, h4, h5⟩ | ⟨h, h2, h3, h4, h5, h6⟩
    all_goals
      go_enter Try.func12, Try.ntmps12
      go_wp2
      go_ret
      exact ⟨rfl, Below.refl _ _⟩

end Go.Proofs.Ytcdnnklbbnojpaa.yardRounds
