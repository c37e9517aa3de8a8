/-
  Contracts of the library's stable sort, of a row of ints, by way of list.Urgent's comparison: the parts without recursion.
  Contract of the library's insertion sort, of a row of ints, by way of list.Urgent's comparison.
-/
import Derived.Test.YtocpmncedlenbaaGreatDoorP26TopWeave
import Derived.Test.YtocpmncedlenbaaGreatDoorP25TopWeave
import Derived.Test.YtocpmncedlenbaaGreatDoorP6TopWeave
namespace Go.Proofs.YtocpmncedlenbaaGreatDoor
open Go.RowKit Go.Deep

/-- What the comparison answers. -/
def cmpV (T : Int → Int) (x y : Int) : Int := if T y < T x then -1 else if T x < T y then 1 else 0

theorem isNaN_int (x : Int) (w : World) : Calls Tryz.prog 119 #[.int .i64 x] w fun e w' => e = .returned (.bool false) ∧ w' = w := by
  go_enter Tryz.func119, Tryz.ntmps119
  go_wp2
  go_ret
  exact ⟨by simp, rfl⟩

theorem cmp_int (x y : Int) (w : World) : Calls Tryz.prog 57 #[.int .i64 x, .int .i64 y] w fun e w' => e = .returned (.int .i64 (if x < y then -1 else if y < x then 1 else 0)) ∧ w' = w := by
  by_cases h1 : x < y
  · rw [if_pos h1]
    go_enter Tryz.func57, Tryz.ntmps57
    go_wp2_with (go_at_call 119; refine (isNaN_int _ _).mono ?_; rintro e w2 ⟨rfl, hw⟩; subst hw)
    go_ret
    exact ⟨rfl, rfl⟩
  · rw [if_neg h1]
    by_cases h2 : y < x
    · rw [if_pos h2]
      go_enter Tryz.func57, Tryz.ntmps57
      go_wp2_with (go_at_call 119; refine (isNaN_int _ _).mono ?_; rintro e w2 ⟨rfl, hw⟩; subst hw)
      go_ret
      exact ⟨rfl, rfl⟩
    · rw [if_neg h2]
      go_enter Tryz.func57, Tryz.ntmps57
      go_wp2_with (go_at_call 119; refine (isNaN_int _ _).mono ?_; rintro e w2 ⟨rfl, hw⟩; subst hw)
      go_ret
      exact ⟨rfl, rfl⟩

/-- The comparison, the tails read through the variable that it captures. -/
theorem urgent1 (x y : Nat) (tb A n : Nat) (f : Nat → Int) (w : World) (ht : w.cell? ⟨tb, 0, none⟩ = some (.slice (some ⟨A, 0, none⟩) n n)) (hB : Nums w A n f) (hx : x < n) (hy : y < n) :
    Calls Tryz.prog 56 #[.int .i64 (x : Int), .int .i64 (y : Int), .pointer (some ⟨tb, 0, none⟩)] w fun e w' => e = .returned (.int .i64 (cmpV (fun k => f k.toNat) x y)) ∧ ∃ m, w' = w.drewN m := by
  have cx := (hB x hx).1
  have cy := (hB y hy).1
  have hc := fun w' => cmp_int (f y) (f x) w'
  have hv : Hid (cmpV (fun k => f k.toNat) x y = if f y < f x then -1 else if f x < f y then 1 else 0) := by show _ = _; simp [cmpV]
  obtain ⟨r, hr⟩ : ∃ r, (if f y < f x then (-1 : Int) else if f x < f y then 1 else 0) = r := ⟨_, rfl⟩
  simp only [hr] at hc
  rw [hr] at hv
  generalize f x = fx at *
  generalize f y = fy at *
  have h1 : (0 : Int) ≤ (x : Int) := by omega
  have h2 : (x : Int) < (n : Int) := by omega
  have h3 : (0 : Int) ≤ (y : Int) := by omega
  have h4 : (y : Int) < (n : Int) := by omega
  clear hB hr
  go_enter Tryz.func56, Tryz.ntmps56
  go_wp2_with fail
  go_quiet ((go_at_call 57; exact quiet_eq ((hc _).mono fun e w' ⟨h1, h2⟩ => ⟨h1, h2.symm⟩)))
  go_wp2
  go_ret
  exact ⟨by rw [hv.out]; rfl, _, rfl⟩

theorem swap_nums {w : World} {G n : Nat} {f : Nat → Int} (h : Nums w G n f) (x y : Nat) : Nums (((w.setCell ⟨G, x, none⟩ (.int .i64 (f y))).setCell ⟨G, y, none⟩ (.int .i64 (f x))).drew) G n (swF f x y) :=
  (((h.set x (f y)).set y (f x)).only ((Only.refl [] _).drew) (by simp)).congr fun k _ => by
    unfold updI swF
    by_cases e1 : k = y
    · subst e1
      by_cases e2 : k = x
      · subst e2; simp
      · simp [e2]
    · simp [e1]
theorem swap_only (w : World) (G x y : Nat) (u v : Value) : Only [G] w (((w.setCell ⟨G, x, none⟩ u).setCell ⟨G, y, none⟩ v).drew) := (((Only.refl [G] w).setCell (by simp) u).setCell (by simp) v).drew

set_option maxRecDepth 100000 in
set_option maxHeartbeats 4000000 in
theorem swap_range (G c n a b k : Nat) (f : Nat → Int) (cv : Value) (w : World) (hN : Nums w G n f) (hab : a + k ≤ b) (hb : b + k ≤ n) (hn : n ≤ 1000) :
    Calls Tryz.prog 222 #[.slice (some ⟨G, 0, none⟩) n c, .int .i64 (a : Int), .int .i64 (b : Int), .int .i64 (k : Int), cv] w fun e w' => e = .returned (.tuple #[]) ∧ Nums w' G n (swR f a b k) ∧ Only [G] w w' := by
  go_enter Tryz.func222, Tryz.ntmps222
  go_wp2_with fail
  go_loopw [10] (fun vi wr => ∃ i : Nat, i ≤ k ∧ vi = .int .i64 i ∧ Nums wr G n (swR f a b i) ∧ Only [G] w wr) (fun vi _ => k - (intOf vi).toNat)
  case atStart => exact ⟨0, Nat.zero_le _, rfl, by rw [swR_zero]; exact hN, Only.refl _ _⟩
  case round =>
    clear hN
    obtain ⟨i, hi, rfl, hN, ho⟩ := hrel
    by_cases hik : i < k
    · have cx := (hN (a + i) (by omega)).1
      have fx := (hN (a + i) (by omega)).2
      have cy := (hN (b + i) (by omega)).1
      have fy := (hN (b + i) (by omega)).2
      have hS := Lib.hid ((swap_nums hN (a + i) (b + i)).congr (g := swR f a b (i + 1)) (fun j _ => by rw [swR_succ f a b i (by omega)]))
      have hO := Lib.hid (fun u v => ho.trans (swap_only wr G (a + i) (b + i) u v) (fun x hx _ => hx))
      obtain ⟨p, hp⟩ : ∃ p, swR f a b i (a + i) = p := ⟨_, rfl⟩
      obtain ⟨q, hq⟩ : ∃ q, swR f a b i (b + i) = q := ⟨_, rfl⟩
      rw [hp] at cx hS
      rw [hq] at cy hS
      clear hN ho hp hq
      obtain ⟨x, hx⟩ : ∃ x, a + i = x := ⟨_, rfl⟩
      obtain ⟨y, hy⟩ : ∃ y, b + i = y := ⟨_, rfl⟩
      rw [hx] at cx fx hS hO
      rw [hy] at cy fy hS hO
      have hx1 : (a : Int) + (i : Int) = (x : Int) := by omega
      have hy1 : (b : Int) + (i : Int) = (y : Int) := by omega
      have hxn : x < n := by omega
      have hyn : y < n := by omega
      have hxy : ¬ x = y := by omega
      clear hx hy
      go_wp2_with fail
      go_region
      go_wp2
      go_roundw
      case rel => exact ⟨i + 1, by omega, by go_num, hS.out, hO.out _ _⟩
      case measure => (simp [intOf]; try omega)
    · obtain rfl : i = k := by omega
      go_wp2
      go_end0
      exact ⟨rfl, hN, ho⟩

set_option maxRecDepth 100000 in
set_option maxHeartbeats 4000000 in
theorem rotate (G c n a m b : Nat) (f : Nat → Int) (cv : Value) (w : World) (hN : Nums w G n f) (ham : a < m) (hmb : m < b) (hb : b ≤ n) (hn : n ≤ 1000) :
    Calls Tryz.prog 200 #[.slice (some ⟨G, 0, none⟩) n c, .int .i64 (a : Int), .int .i64 (m : Int), .int .i64 (b : Int), cv] w fun e w' => e = .returned (.tuple #[]) ∧ Nums w' G n (rotF f a m b) ∧ Only [G] w w' := by
  have hsw := Lib.hid (fun a b k g w' hN h1 h2 => swap_range G c n a b k g cv w' hN h1 h2 hn)
  obtain ⟨i0, hi0⟩ : ∃ i, m - a = i := ⟨_, rfl⟩
  obtain ⟨j0, hj0⟩ : ∃ j, b - m = j := ⟨_, rfl⟩
  have h1 : (m : Int) - (a : Int) = (i0 : Int) := by omega
  have h2 : (b : Int) - (m : Int) = (j0 : Int) := by omega
  have hst : Hid (rotF f (m - i0) m (m + j0) = rotF f a m b) := by show _ = _; rw [show m - i0 = a by omega, show m + j0 = b by omega]
  have p1 : 1 ≤ i0 := by omega
  have p2 : 1 ≤ j0 := by omega
  have p3 : i0 ≤ m := by omega
  have p4 : m + j0 ≤ n := by omega
  clear hi0 hj0
  go_enter Tryz.func200, Tryz.ntmps200
  go_wp2_with fail
  go_loopw [10, 11] (fun vi vj wr => ∃ (i j : Nat) (g : Nat → Int), vi = .int .i64 i ∧ vj = .int .i64 j ∧ 1 ≤ i ∧ 1 ≤ j ∧ i ≤ m ∧ m + j ≤ n ∧ rotF g (m - i) m (m + j) = rotF f a m b ∧ Nums wr G n g ∧ Only [G] w wr) (fun vi vj _ => (intOf vi).toNat + (intOf vj).toNat)
  case atStart => exact ⟨i0, j0, f, rfl, rfl, p1, p2, p3, p4, hst.out, hN, Only.refl _ _⟩
  case round =>
    clear hN h1 h2 p1 p2 p3 p4
    obtain ⟨wo, rfl⟩ : ∃ wo : World, wo = wr := ⟨_, rfl⟩
    obtain ⟨i, j, g, rfl, rfl, p1, p2, p3, p4, hrot, hN, ho⟩ := hrel
    have HROT := Lib.hid hrot
    obtain ⟨mi, hmi⟩ : ∃ x, m - i = x := ⟨_, rfl⟩
    have hmi1 : (m : Int) - (i : Int) = (mi : Int) := by omega
    clear hrot
    by_cases hij : i = j
    · subst hij
      have hs := hsw.out mi m i g wo hN (by omega) (by omega)
      have hfin : Hid (swR g mi m i = rotF f a m b) := by show _ = _; rw [← HROT.out, rot_same g m i p3, hmi]
      clear hN hsw hmi
      go_wp2_with fail
      refine hs.mono ?_
      rintro e w1 ⟨rfl, hN1, ho1⟩
      have hN1 := Lib.hid hN1
      have ho1 := Lib.hid (ho.trans ho1 (fun x hx _ => hx))
      clear hs
      go_wp2
      go_end0
      exact ⟨rfl, by rw [← hfin.out]; exact hN1.out, ho1.out⟩
    · by_cases hlt : j < i
      · have hs := hsw.out mi m j g wo hN (by omega) (by omega)
        obtain ⟨ij, hij2⟩ : ∃ x, i - j = x := ⟨_, rfl⟩
        have hij1 : (i : Int) - (j : Int) = (ij : Int) := by omega
        have hfin : Hid (rotF (swR g mi m j) (m - ij) m (m + j) = rotF f a m b) := by show _ = _; rw [← HROT.out, rot_left g m i j hlt p3, hmi, hij2]
        have hne : ((i : Int) == (j : Int)) = false := by simp; omega
        clear hN hmi
        go_wp2_with fail
        refine hs.mono ?_
        rintro e w1 ⟨rfl, hN1, ho1⟩
        have hN1 := Lib.hid hN1
        have ho1 := Lib.hid (ho.trans ho1 (fun x hx _ => hx))
        clear hs
        go_wp2
        go_roundw
        case rel => exact ⟨ij, j, _, by go_num, rfl, by omega, p2, by omega, p4, hfin.out, hN1.out, ho1.out⟩
        case measure => (simp [intOf]; try omega)
      · obtain ⟨mj, hmj⟩ : ∃ x, m + j - i = x := ⟨_, rfl⟩
        have hmj0 : (m : Int) + (j : Int) = ((m + j : Nat) : Int) := by omega
        have hmj1 : (m : Int) + (j : Int) - (i : Int) = (mj : Int) := by omega
        have hs := hsw.out mi mj i g wo hN (by omega) (by omega)
        obtain ⟨ij, hij2⟩ : ∃ x, j - i = x := ⟨_, rfl⟩
        have hij1 : (j : Int) - (i : Int) = (ij : Int) := by omega
        have hfin : Hid (rotF (swR g mi mj i) (m - i) m (m + ij) = rotF f a m b) := by show _ = _; rw [← HROT.out, rot_right g m i j (by omega) p3, hmi, hij2, hmj]
        have hne : ((i : Int) == (j : Int)) = false := by simp; omega
        clear hN hmi hmj0
        go_wp2_with fail
        refine hs.mono ?_
        rintro e w1 ⟨rfl, hN1, ho1⟩
        have hN1 := Lib.hid hN1
        have ho1 := Lib.hid (ho.trans ho1 (fun x hx _ => hx))
        clear hs
        go_wp2
        go_roundw
        case rel => exact ⟨i, ij, _, rfl, by go_num, p1, by omega, p3, by omega, hfin.out, hN1.out, ho1.out⟩
        case measure => (simp [intOf]; try omega)

end Go.Proofs.YtocpmncedlenbaaGreatDoor

namespace Go.Proofs.YtocpmncedlenbaaGreatDoor
open Go.RowKit Go.Deep

/-- The comparison's own value. -/
def cvU (tb : Nat) : Value := .func (.func 56) #[] #[.pointer (some ⟨tb, 0, none⟩)]

/-- What a sort of list.Urgent's row leans on. -/
structure SortAt (w : World) (G n tb A : Nat) (T : Nat → Int) : Prop where
  cell : w.cell? ⟨tb, 0, none⟩ = some (.slice (some ⟨A, 0, none⟩) n n)
  nums : Nums w A n T
  gA : A ≠ G
  gt : tb ≠ G

theorem SortAt.only {w w' : World} {G n tb A : Nat} {T : Nat → Int} (h : SortAt w G n tb A T) (ho : Only [G] w w') : SortAt w' G n tb A T :=
  ⟨(ho.cell (p := ⟨tb, 0, none⟩) (cell_lt h.cell) (by simpa using h.gt)).trans h.cell, h.nums.only ho (by simpa using h.gA), h.gA, h.gt⟩

def tt (T : Nat → Int) : Int → Int := fun k => T k.toNat
/-- All of a row are tasks. -/
def Tasks (n : Nat) (f : Nat → Int) : Prop := ∀ i, i < n → 0 ≤ f i ∧ f i < n
theorem Tasks.re {n : Nat} {f g : Nat → Int} {a b : Nat} (h : Tasks n f) (k : Re f g a b) (hb : b ≤ n) : Tasks n g := k.all (P := fun x => 0 ≤ x ∧ x < (n : Int)) hb h

theorem sort_call {w : World} {G n tb A : Nat} {T : Nat → Int} (h : SortAt w G n tb A T) {x y : Int} (hx : 0 ≤ x ∧ x < n) (hy : 0 ≤ y ∧ y < n) (k : Nat) :
    Calls Tryz.prog 56 #[.int .i64 x, .int .i64 y, .pointer (some ⟨tb, 0, none⟩)] (w.drewN k) fun e w' => e = .returned (.int .i64 (cmpV (tt T) x y)) ∧ ∃ m, w' = (w.drewN k).drewN m := by
  obtain ⟨x, rfl⟩ := Int.eq_ofNat_of_zero_le hx.1
  obtain ⟨y, rfl⟩ := Int.eq_ofNat_of_zero_le hy.1
  exact urgent1 x y tb A n T (w.drewN k) h.cell (h.nums.only ((Only.refl [] _).drewN k) (by simp)) (by omega) (by omega)

theorem cmpV_neg (T : Int → Int) (x y : Int) : cmpV T x y < 0 ↔ T y < T x := by
  unfold cmpV
  by_cases h1 : T y < T x
  · rw [if_pos h1]; constructor <;> intro <;> omega
  · rw [if_neg h1]
    by_cases h2 : T x < T y
    · rw [if_pos h2]; constructor <;> intro <;> omega
    · rw [if_neg h2]; constructor <;> intro <;> omega

set_option maxRecDepth 100000 in
set_option maxHeartbeats 8000000 in
theorem insertion_sort (G c n a b tb A : Nat) (f T : Nat → Int) (w : World) (hN : Nums w G n f) (hf : Tasks n f) (hv : ∀ x y, a ≤ x → x < y → y < b → f x < f y) (hS : SortAt w G n tb A T) (hb : b ≤ n) (ha : a ≤ n) (hn : n ≤ 1000) :
    Calls Tryz.prog 161 #[.slice (some ⟨G, 0, none⟩) n c, .int .i64 (a : Int), .int .i64 (b : Int), cvU tb] w fun e w' => e = .returned (.tuple #[]) ∧ ∃ g, Nums w' G n g ∧ SR (tt T) g a b ∧ Re f g a b ∧ Only [G] w w' := by
  unfold cvU
  have HV := Lib.hid hv
  have HF := Lib.hid hf
  have HS := Lib.hid hS
  clear hv hf hS
  go_enter Tryz.func161, Tryz.ntmps161
  go_wp2_with fail
  go_loopw [8, 9] (fun vi _ wr => ∃ (i : Nat) (g : Nat → Int), vi = .int .i64 i ∧ a + 1 ≤ i ∧ (i ≤ b ∨ i = a + 1) ∧ Nums wr G n g ∧ SR (tt T) g a i ∧ Re f g a i ∧ Only [G] w wr) (fun vi _ _ => b - (intOf vi).toNat)
  case atStart => exact ⟨a + 1, f, by go_num, Nat.le_refl _, .inr rfl, hN, fun x y h1 h2 h3 => by omega, Re.refl _ _ _, Only.refl _ _⟩
  case round =>
    clear hN
    obtain ⟨wo, rfl⟩ : ∃ wo : World, wo = wr := ⟨_, rfl⟩
    obtain ⟨i, g, rfl, hi1, hi2, hN, hsr, hre, ho⟩ := hrel
    have HSR := Lib.hid hsr
    have HRE := Lib.hid hre
    clear hsr hre
    by_cases hib : i < b
    · have hini := InsInv.init (T := tt T) (f := g) (a := a) (i := i) (by omega) HSR.out (fun x h1 h2 => by
        obtain ⟨r1, r2, _⟩ := HRE.out
        obtain ⟨x', k1, k2, k3⟩ := r2 x h1 h2
        rw [k3, r1 i (.inr (Nat.le_refl _))]
        exact HV.out x' i k1 k2 hib)
      go_wp2_with fail
      go_loopw [9] (fun vj wr => ∃ (j : Nat) (h : Nat → Int), vj = .int .i64 j ∧ InsInv (tt T) g h a i j ∧ Nums wr G n h ∧ Only [G] w wr) (fun vj _ => (intOf vj).toNat)
      case atStart => exact ⟨i, g, rfl, hini, hN, ho⟩
      case round =>
        clear hini hN ho
        obtain ⟨j, h, rfl, hinv, hN, ho⟩ := hrel
        have hj1 := hinv.lo
        have hj2 := hinv.hi
        have HINV := Lib.hid hinv
        have HT : Hid (Tasks n h) := Tasks.re (Tasks.re HF.out HRE.out (by omega)) hinv.re (by omega)
        clear hinv
        by_cases haj : a < j
        · have hsc := HS.out.only ho
          obtain ⟨p, hp⟩ : ∃ p, j - 1 = p := ⟨_, rfl⟩
          have hp1 : (j : Int) - 1 = (p : Int) := by omega
          have hpn : p < n := by omega
          have hjn : j < n := by omega
          have cj := (hN j hjn).1
          have fj := (hN j hjn).2
          have cp := (hN p hpn).1
          have fp := (hN p hpn).2
          have hcall := Lib.hid (fun k => sort_call hsc (HT.out j hjn) (HT.out p hpn) k)
          have hneg := cmpV_neg (tt T) (h j) (h p)
          have HN := Lib.hid hN
          have HO := Lib.hid ho
          obtain ⟨x, hx⟩ : ∃ x, h j = x := ⟨_, rfl⟩
          obtain ⟨y, hy⟩ : ∃ y, h p = y := ⟨_, rfl⟩
          have HX := Lib.hid hx
          have HY := Lib.hid hy
          rw [hx] at cj hcall hneg
          rw [hy] at cp hcall hneg
          obtain ⟨r, hr⟩ : ∃ r, cmpV (tt T) x y = r := ⟨_, rfl⟩
          rw [hr] at hcall hneg
          have HNEG := Lib.hid hneg
          have hgt : decide ((a : Int) < (j : Int)) = true := by simp; omega
          clear hN ho hsc hx hy hr hneg
          by_cases hr0 : r < 0
          · have hst : Hid (InsInv (tt T) g (swF h j p) a i p) := by
              show InsInv _ _ _ _ _ _
              have := HINV.out.step haj (by rw [hp, HX.out, HY.out]; exact HNEG.out.1 hr0)
              rw [hp] at this
              exact this
            go_wp2_with fail
            go_quiet ((go_at_call 56; exact Calls.quiet_of (hcall.out _)))
            obtain ⟨w9, hw9⟩ : ∃ w9, wr.drewN nq = w9 := ⟨_, rfl⟩
            have cj : w9.cell? ⟨G, j, none⟩ = some (.int .i64 x) := by rw [← hw9]; exact cj
            have fj : w9.frozen? ⟨G, j, none⟩ = false := by rw [← hw9]; exact fj
            have cp : w9.cell? ⟨G, p, none⟩ = some (.int .i64 y) := by rw [← hw9]; exact cp
            have fp : w9.frozen? ⟨G, p, none⟩ = false := by rw [← hw9]; exact fp
            have hN9 : Nums w9 G n h := by rw [← hw9]; exact HN.out.only ((Only.refl [] _).drewN nq) (by simp)
            have ho9 : Only [G] w w9 := by rw [← hw9]; exact HO.out.drewN nq
            rw [hw9]
            have hsw := swap_nums hN9 j p
            rw [HX.out, HY.out] at hsw
            have e1 := Lib.hid hsw
            have e2 := Lib.hid (ho9.trans (swap_only w9 G j p (.int .i64 y) (.int .i64 x)) (fun z hz _ => hz))
            have hjp : ¬ j = p := by omega
            clear hw9 hN9 ho9 hsw
            go_wp2_with fail
            go_region
            go_wp2
            go_roundw
            case rel => exact ⟨p, _, by go_num, hst.out, e1.out, e2.out⟩
            case measure => (simp [intOf]; try omega)
          · have hdn : Hid (SR (tt T) h a (i + 1)) := HINV.out.done (.inr ⟨haj, by
              rw [hp, HX.out, HY.out]
              have : ¬ tt T y < tt T x := fun h => hr0 (HNEG.out.2 h)
              omega⟩)
            go_wp2_with fail
            go_quiet ((go_at_call 56; exact Calls.quiet_of (hcall.out _)))
            have e1 := Lib.hid (HN.out.only ((Only.refl [] _).drewN nq) (by simp))
            have e2 := Lib.hid (HO.out.drewN nq)
            have e3 : Hid (Re f h a (i + 1)) := (HRE.out.wide (Nat.le_refl _) (by omega)).trans HINV.out.re
            go_wp2
            go_roundw
            case rel => exact ⟨i + 1, h, by go_num, by omega, .inl (by omega), e1.out, hdn.out, e3.out, e2.out⟩
            case measure => (simp [intOf]; try omega)
        · have hja : j = a := by omega
          have hdn : Hid (SR (tt T) h a (i + 1)) := HINV.out.done (.inl hja)
          have e3 : Hid (Re f h a (i + 1)) := (HRE.out.wide (Nat.le_refl _) (by omega)).trans HINV.out.re
          have hgt : decide ((a : Int) < (j : Int)) = false := by simp; omega
          have HN := Lib.hid hN
          have HO := Lib.hid ho
          clear hN ho
          go_wp2_with fail
          go_quiet (fail)
          have e1 := Lib.hid (HN.out.only ((Only.refl [] _).drewN nq) (by simp))
          have e2 := Lib.hid (HO.out.drewN nq)
          go_wp2
          go_roundw
          case rel => exact ⟨i + 1, h, by go_num, by omega, .inl (by omega), e1.out, hdn.out, e3.out, e2.out⟩
          case measure => (simp [intOf]; try omega)
    · have hsb : Hid (SR (tt T) g a b) := HSR.out.sub (Nat.le_refl _) (by omega)
      have hrb : Hid (Re f g a b) := by
        rcases hi2 with h | h
        · rw [show b = i by omega]; exact HRE.out
        · by_cases hab : a < b
          · rw [show b = i by omega]; exact HRE.out
          · obtain ⟨r1, r2, r3⟩ := HRE.out
            have hall : ∀ k, g k = f k := fun k => by
              by_cases hk : k = a
              · subst hk
                obtain ⟨x', k1, k2, k3⟩ := r2 k (Nat.le_refl _) (by omega)
                rw [k3, show x' = k by omega]
              · exact r1 k (by omega)
            exact ⟨fun k _ => hall k, fun k h1 h2 => by omega, fun k h1 h2 => by omega⟩
      go_wp2
      go_end0
      exact ⟨rfl, g, hN, hsb.out, hrb.out, ho⟩

end Go.Proofs.YtocpmncedlenbaaGreatDoor
