/-
  Contracts of the library's stable sort, of a row of ints, by way of list.Urgent's comparison: the parts without recursion.
-/
import Derived.Test.YtnolckhideellaaStableP
import Derived.Test.YtnolckhideellaaNums
namespace Go.Proofs.Ytnolckhideellaa
open Go.RowKit Go.Deep

/-- What the comparison answers. -/
def cmpV (T : Int → Int) (x y : Int) : Int := if T y < T x then -1 else if T x < T y then 1 else 0

theorem isNaN_int (x : Int) (w : World) : Calls Try.prog 17 #[.int .i64 x] w fun e w' => e = .returned (.bool false) ∧ w' = w := by
  go_enter Try.func17, Try.ntmps17
  go_wp2
  go_ret
  exact ⟨by simp, rfl⟩

theorem cmp_int (x y : Int) (w : World) : Calls Try.prog 11 #[.int .i64 x, .int .i64 y] w fun e w' => e = .returned (.int .i64 (if x < y then -1 else if y < x then 1 else 0)) ∧ w' = w := by
  by_cases h1 : x < y
  · rw [if_pos h1]
    go_enter Try.func11, Try.ntmps11
    go_wp2_with (go_at_call 17; refine (isNaN_int _ _).mono ?_; rintro e w2 ⟨rfl, hw⟩; subst hw)
    go_ret
    exact ⟨rfl, rfl⟩
  · rw [if_neg h1]
    by_cases h2 : y < x
    · rw [if_pos h2]
      go_enter Try.func11, Try.ntmps11
      go_wp2_with (go_at_call 17; refine (isNaN_int _ _).mono ?_; rintro e w2 ⟨rfl, hw⟩; subst hw)
      go_ret
      exact ⟨rfl, rfl⟩
    · rw [if_neg h2]
      go_enter Try.func11, Try.ntmps11
      go_wp2_with (go_at_call 17; refine (isNaN_int _ _).mono ?_; rintro e w2 ⟨rfl, hw⟩; subst hw)
      go_ret
      exact ⟨rfl, rfl⟩

/-- The comparison, the tails read through the variable that it captures. -/
theorem urgent1 (x y : Nat) (tb A n : Nat) (f : Nat → Int) (w : World) (ht : w.cell? ⟨tb, 0, none⟩ = some (.slice (some ⟨A, 0, none⟩) n n)) (hB : Nums w A n f) (hx : x < n) (hy : y < n) :
    Calls Try.prog 10 #[.int .i64 (x : Int), .int .i64 (y : Int), .pointer (some ⟨tb, 0, none⟩)] w fun e w' => e = .returned (.int .i64 (cmpV (fun k => f k.toNat) x y)) ∧ ∃ m, w' = w.drewN m := by
  have cx := (hB x hx).1
  have cy := (hB y hy).1
  have hc := fun w' => cmp_int (f y) (f x) w'
  have hv : Hid (cmpV (fun k => f k.toNat) x y = if f y < f x then -1 else if f x < f y then 1 else 0) := by show _ = _; simp [cmpV]
  obtain ⟨r, hr⟩ : ∃ r, (if f y < f x then (-1 : Int) else if f x < f y then 1 else 0) = r := ⟨_, rfl⟩
  simp only [hr] at hc
  rw [hr] at hv
  generalize f x = fx at *
  generalize f y = fy at *
  have h1 : (0 : Int) ≤ (x : Int) := by omega
  have h2 : (x : Int) < (n : Int) := by omega
  have h3 : (0 : Int) ≤ (y : Int) := by omega
  have h4 : (y : Int) < (n : Int) := by omega
  clear hB hr
  go_enter Try.func10, Try.ntmps10
  go_wp2_with fail
  go_quiet ((go_at_call 11; exact quiet_eq ((hc _).mono fun e w' ⟨h1, h2⟩ => ⟨h1, h2.symm⟩)))
  go_wp2
  go_ret
  exact ⟨by rw [hv.out]; rfl, _, rfl⟩

theorem swap_nums {w : World} {G n : Nat} {f : Nat → Int} (h : Nums w G n f) (x y : Nat) : Nums (((w.setCell ⟨G, x, none⟩ (.int .i64 (f y))).setCell ⟨G, y, none⟩ (.int .i64 (f x))).drew) G n (swF f x y) :=
  (((h.set x (f y)).set y (f x)).only ((Only.refl [] _).drew) (by simp)).congr fun k _ => by
    unfold updI swF
    by_cases e1 : k = y
    · subst e1
      by_cases e2 : k = x
      · subst e2; simp
      · simp [e2]
    · simp [e1]
theorem swap_only (w : World) (G x y : Nat) (u v : Value) : Only [G] w (((w.setCell ⟨G, x, none⟩ u).setCell ⟨G, y, none⟩ v).drew) := (((Only.refl [G] w).setCell (by simp) u).setCell (by simp) v).drew

set_option maxRecDepth 100000 in
set_option maxHeartbeats 4000000 in
theorem swap_range (G c n a b k : Nat) (f : Nat → Int) (cv : Value) (w : World) (hN : Nums w G n f) (hab : a + k ≤ b) (hb : b + k ≤ n) (hn : n ≤ 1000) :
    Calls Try.prog 31 #[.slice (some ⟨G, 0, none⟩) n c, .int .i64 (a : Int), .int .i64 (b : Int), .int .i64 (k : Int), cv] w fun e w' => e = .returned (.tuple #[]) ∧ Nums w' G n (swR f a b k) ∧ Only [G] w w' := by
  go_enter Try.func31, Try.ntmps31
  go_wp2_with fail
  go_loopw [10] (fun vi wr => ∃ i : Nat, i ≤ k ∧ vi = .int .i64 i ∧ Nums wr G n (swR f a b i) ∧ Only [G] w wr) (fun vi _ => k - (intOf vi).toNat)
  case atStart => exact ⟨0, Nat.zero_le _, rfl, by rw [swR_zero]; exact hN, Only.refl _ _⟩
  case round =>
    clear hN
    obtain ⟨i, hi, rfl, hN, ho⟩ := hrel
    by_cases hik : i < k
    · have cx := (hN (a + i) (by omega)).1
      have fx := (hN (a + i) (by omega)).2
      have cy := (hN (b + i) (by omega)).1
      have fy := (hN (b + i) (by omega)).2
      have hS := Lib.hid ((swap_nums hN (a + i) (b + i)).congr (g := swR f a b (i + 1)) (fun j _ => by rw [swR_succ f a b i (by omega)]))
      have hO := Lib.hid (fun u v => ho.trans (swap_only wr G (a + i) (b + i) u v) (fun x hx _ => hx))
      obtain ⟨p, hp⟩ : ∃ p, swR f a b i (a + i) = p := ⟨_, rfl⟩
      obtain ⟨q, hq⟩ : ∃ q, swR f a b i (b + i) = q := ⟨_, rfl⟩
      rw [hp] at cx hS
      rw [hq] at cy hS
      clear hN ho hp hq
      obtain ⟨x, hx⟩ : ∃ x, a + i = x := ⟨_, rfl⟩
      obtain ⟨y, hy⟩ : ∃ y, b + i = y := ⟨_, rfl⟩
      rw [hx] at cx fx hS hO
      rw [hy] at cy fy hS hO
      have hx1 : (a : Int) + (i : Int) = (x : Int) := by omega
      have hy1 : (b : Int) + (i : Int) = (y : Int) := by omega
      have hxn : x < n := by omega
      have hyn : y < n := by omega
      have hxy : ¬ x = y := by omega
      clear hx hy
      go_wp2_with fail
      go_region
      go_wp2
      go_roundw
      case rel => exact ⟨i + 1, by omega, by go_num, hS.out, hO.out _ _⟩
      case measure => (simp [intOf]; try omega)
    · obtain rfl : i = k := by omega
      go_wp2
      go_end0
      exact ⟨rfl, hN, ho⟩

set_option maxRecDepth 100000 in
set_option maxHeartbeats 4000000 in
theorem rotate (G c n a m b : Nat) (f : Nat → Int) (cv : Value) (w : World) (hN : Nums w G n f) (ham : a < m) (hmb : m < b) (hb : b ≤ n) (hn : n ≤ 1000) :
    Calls Try.prog 30 #[.slice (some ⟨G, 0, none⟩) n c, .int .i64 (a : Int), .int .i64 (m : Int), .int .i64 (b : Int), cv] w fun e w' => e = .returned (.tuple #[]) ∧ Nums w' G n (rotF f a m b) ∧ Only [G] w w' := by
  have hsw := Lib.hid (fun a b k g w' hN h1 h2 => swap_range G c n a b k g cv w' hN h1 h2 hn)
  obtain ⟨i0, hi0⟩ : ∃ i, m - a = i := ⟨_, rfl⟩
  obtain ⟨j0, hj0⟩ : ∃ j, b - m = j := ⟨_, rfl⟩
  have h1 : (m : Int) - (a : Int) = (i0 : Int) := by omega
  have h2 : (b : Int) - (m : Int) = (j0 : Int) := by omega
  have hst : Hid (rotF f (m - i0) m (m + j0) = rotF f a m b) := by show _ = _; rw [show m - i0 = a by omega, show m + j0 = b by omega]
  have p1 : 1 ≤ i0 := by omega
  have p2 : 1 ≤ j0 := by omega
  have p3 : i0 ≤ m := by omega
  have p4 : m + j0 ≤ n := by omega
  clear hi0 hj0
  go_enter Try.func30, Try.ntmps30
  go_wp2_with fail
  go_loopw [10, 11] (fun vi vj wr => ∃ (i j : Nat) (g : Nat → Int), vi = .int .i64 i ∧ vj = .int .i64 j ∧ 1 ≤ i ∧ 1 ≤ j ∧ i ≤ m ∧ m + j ≤ n ∧ rotF g (m - i) m (m + j) = rotF f a m b ∧ Nums wr G n g ∧ Only [G] w wr) (fun vi vj _ => (intOf vi).toNat + (intOf vj).toNat)
  case atStart => exact ⟨i0, j0, f, rfl, rfl, p1, p2, p3, p4, hst.out, hN, Only.refl _ _⟩
  case round =>
    clear hN h1 h2 p1 p2 p3 p4
    obtain ⟨wo, rfl⟩ : ∃ wo : World, wo = wr := ⟨_, rfl⟩
    obtain ⟨i, j, g, rfl, rfl, p1, p2, p3, p4, hrot, hN, ho⟩ := hrel
    have HROT := Lib.hid hrot
    obtain ⟨mi, hmi⟩ : ∃ x, m - i = x := ⟨_, rfl⟩
    have hmi1 : (m : Int) - (i : Int) = (mi : Int) := by omega
    clear hrot
    by_cases hij : i = j
    · subst hij
      have hs := hsw.out mi m i g wo hN (by omega) (by omega)
      have hfin : Hid (swR g mi m i = rotF f a m b) := by show _ = _; rw [← HROT.out, rot_same g m i p3, hmi]
      clear hN hsw hmi
      go_wp2_with fail
      refine hs.mono ?_
      rintro e w1 ⟨rfl, hN1, ho1⟩
      have hN1 := Lib.hid hN1
      have ho1 := Lib.hid (ho.trans ho1 (fun x hx _ => hx))
      clear hs
      go_wp2
      go_end0
      exact ⟨rfl, by rw [← hfin.out]; exact hN1.out, ho1.out⟩
    · by_cases hlt : j < i
      · have hs := hsw.out mi m j g wo hN (by omega) (by omega)
        obtain ⟨ij, hij2⟩ : ∃ x, i - j = x := ⟨_, rfl⟩
        have hij1 : (i : Int) - (j : Int) = (ij : Int) := by omega
        have hfin : Hid (rotF (swR g mi m j) (m - ij) m (m + j) = rotF f a m b) := by show _ = _; rw [← HROT.out, rot_left g m i j hlt p3, hmi, hij2]
        have hne : ((i : Int) == (j : Int)) = false := by simp; omega
        clear hN hmi
        go_wp2_with fail
        refine hs.mono ?_
        rintro e w1 ⟨rfl, hN1, ho1⟩
        have hN1 := Lib.hid hN1
        have ho1 := Lib.hid (ho.trans ho1 (fun x hx _ => hx))
        clear hs
        go_wp2
        go_roundw
        case rel => exact ⟨ij, j, _, by go_num, rfl, by omega, p2, by omega, p4, hfin.out, hN1.out, ho1.out⟩
        case measure => (simp [intOf]; try omega)
      · obtain ⟨mj, hmj⟩ : ∃ x, m + j - i = x := ⟨_, rfl⟩
        have hmj0 : (m : Int) + (j : Int) = ((m + j : Nat) : Int) := by omega
        have hmj1 : (m : Int) + (j : Int) - (i : Int) = (mj : Int) := by omega
        have hs := hsw.out mi mj i g wo hN (by omega) (by omega)
        obtain ⟨ij, hij2⟩ : ∃ x, j - i = x := ⟨_, rfl⟩
        have hij1 : (j : Int) - (i : Int) = (ij : Int) := by omega
        have hfin : Hid (rotF (swR g mi mj i) (m - i) m (m + ij) = rotF f a m b) := by show _ = _; rw [← HROT.out, rot_right g m i j (by omega) p3, hmi, hij2, hmj]
        have hne : ((i : Int) == (j : Int)) = false := by simp; omega
        clear hN hmi hmj0
        go_wp2_with fail
        refine hs.mono ?_
        rintro e w1 ⟨rfl, hN1, ho1⟩
        have hN1 := Lib.hid hN1
        have ho1 := Lib.hid (ho.trans ho1 (fun x hx _ => hx))
        clear hs
        go_wp2
        go_roundw
        case rel => exact ⟨i, ij, _, rfl, by go_num, p1, by omega, p3, by omega, hfin.out, hN1.out, ho1.out⟩
        case measure => (simp [intOf]; try omega)

end Go.Proofs.Ytnolckhideellaa
