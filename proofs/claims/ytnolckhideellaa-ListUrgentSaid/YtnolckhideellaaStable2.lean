/-
  Contract of the library's insertion sort, of a row of ints, by way of list.Urgent's comparison.
-/
import Derived.Test.YtnolckhideellaaStable
import Derived.Test.YtnolckhideellaaMore
namespace Go.Proofs.Ytnolckhideellaa
open Go.RowKit Go.Deep

/-- The comparison's own value. -/
def cvU (tb : Nat) : Value := .func (.func 10) #[] #[.pointer (some ⟨tb, 0, none⟩)]

/-- What a sort of list.Urgent's row leans on. -/
structure SortAt (w : World) (G n tb A : Nat) (T : Nat → Int) : Prop where
  cell : w.cell? ⟨tb, 0, none⟩ = some (.slice (some ⟨A, 0, none⟩) n n)
  nums : Nums w A n T
  gA : A ≠ G
  gt : tb ≠ G

theorem SortAt.only {w w' : World} {G n tb A : Nat} {T : Nat → Int} (h : SortAt w G n tb A T) (ho : Only [G] w w') : SortAt w' G n tb A T :=
  ⟨(ho.cell (p := ⟨tb, 0, none⟩) (cell_lt h.cell) (by simpa using h.gt)).trans h.cell, h.nums.only ho (by simpa using h.gA), h.gA, h.gt⟩

def tt (T : Nat → Int) : Int → Int := fun k => T k.toNat
/-- All of a row are tasks. -/
def Tasks (n : Nat) (f : Nat → Int) : Prop := ∀ i, i < n → 0 ≤ f i ∧ f i < n
theorem Tasks.re {n : Nat} {f g : Nat → Int} {a b : Nat} (h : Tasks n f) (k : Re f g a b) (hb : b ≤ n) : Tasks n g := k.all (P := fun x => 0 ≤ x ∧ x < (n : Int)) hb h

theorem sort_call {w : World} {G n tb A : Nat} {T : Nat → Int} (h : SortAt w G n tb A T) {x y : Int} (hx : 0 ≤ x ∧ x < n) (hy : 0 ≤ y ∧ y < n) (k : Nat) :
    Calls Try.prog 10 #[.int .i64 x, .int .i64 y, .pointer (some ⟨tb, 0, none⟩)] (w.drewN k) fun e w' => e = .returned (.int .i64 (cmpV (tt T) x y)) ∧ ∃ m, w' = (w.drewN k).drewN m := by
  obtain ⟨x, rfl⟩ := Int.eq_ofNat_of_zero_le hx.1
  obtain ⟨y, rfl⟩ := Int.eq_ofNat_of_zero_le hy.1
  exact urgent1 x y tb A n T (w.drewN k) h.cell (h.nums.only ((Only.refl [] _).drewN k) (by simp)) (by omega) (by omega)

theorem cmpV_neg (T : Int → Int) (x y : Int) : cmpV T x y < 0 ↔ T y < T x := by
  unfold cmpV
  by_cases h1 : T y < T x
  · rw [if_pos h1]; constructor <;> intro <;> omega
  · rw [if_neg h1]
    by_cases h2 : T x < T y
    · rw [if_pos h2]; constructor <;> intro <;> omega
    · rw [if_neg h2]; constructor <;> intro <;> omega

set_option maxRecDepth 100000 in
set_option maxHeartbeats 8000000 in
theorem insertion_sort (G c n a b tb A : Nat) (f T : Nat → Int) (w : World) (hN : Nums w G n f) (hf : Tasks n f) (hv : ∀ x y, a ≤ x → x < y → y < b → f x < f y) (hS : SortAt w G n tb A T) (hb : b ≤ n) (ha : a ≤ n) (hn : n ≤ 1000) :
    Calls Try.prog 24 #[.slice (some ⟨G, 0, none⟩) n c, .int .i64 (a : Int), .int .i64 (b : Int), cvU tb] w fun e w' => e = .returned (.tuple #[]) ∧ ∃ g, Nums w' G n g ∧ SR (tt T) g a b ∧ Re f g a b ∧ Only [G] w w' := by
  unfold cvU
  have HV := Lib.hid hv
  have HF := Lib.hid hf
  have HS := Lib.hid hS
  clear hv hf hS
  go_enter Try.func24, Try.ntmps24
  go_wp2_with fail
  go_loopw [8, 9] (fun vi _ wr => ∃ (i : Nat) (g : Nat → Int), vi = .int .i64 i ∧ a + 1 ≤ i ∧ (i ≤ b ∨ i = a + 1) ∧ Nums wr G n g ∧ SR (tt T) g a i ∧ Re f g a i ∧ Only [G] w wr) (fun vi _ _ => b - (intOf vi).toNat)
  case atStart => exact ⟨a + 1, f, by go_num, Nat.le_refl _, .inr rfl, hN, fun x y h1 h2 h3 => by omega, Re.refl _ _ _, Only.refl _ _⟩
  case round =>
    clear hN
    obtain ⟨wo, rfl⟩ : ∃ wo : World, wo = wr := ⟨_, rfl⟩
    obtain ⟨i, g, rfl, hi1, hi2, hN, hsr, hre, ho⟩ := hrel
    have HSR := Lib.hid hsr
    have HRE := Lib.hid hre
    clear hsr hre
    by_cases hib : i < b
    · have hini := InsInv.init (T := tt T) (f := g) (a := a) (i := i) (by omega) HSR.out (fun x h1 h2 => by
        obtain ⟨r1, r2, _⟩ := HRE.out
        obtain ⟨x', k1, k2, k3⟩ := r2 x h1 h2
        rw [k3, r1 i (.inr (Nat.le_refl _))]
        exact HV.out x' i k1 k2 hib)
      go_wp2_with fail
      go_loopw [9] (fun vj wr => ∃ (j : Nat) (h : Nat → Int), vj = .int .i64 j ∧ InsInv (tt T) g h a i j ∧ Nums wr G n h ∧ Only [G] w wr) (fun vj _ => (intOf vj).toNat)
      case atStart => exact ⟨i, g, rfl, hini, hN, ho⟩
      case round =>
        clear hini hN ho
        obtain ⟨j, h, rfl, hinv, hN, ho⟩ := hrel
        have hj1 := hinv.lo
        have hj2 := hinv.hi
        have HINV := Lib.hid hinv
        have HT : Hid (Tasks n h) := Tasks.re (Tasks.re HF.out HRE.out (by omega)) hinv.re (by omega)
        clear hinv
        by_cases haj : a < j
        · have hsc := HS.out.only ho
          obtain ⟨p, hp⟩ : ∃ p, j - 1 = p := ⟨_, rfl⟩
          have hp1 : (j : Int) - 1 = (p : Int) := by omega
          have hpn : p < n := by omega
          have hjn : j < n := by omega
          have cj := (hN j hjn).1
          have fj := (hN j hjn).2
          have cp := (hN p hpn).1
          have fp := (hN p hpn).2
          have hcall := Lib.hid (fun k => sort_call hsc (HT.out j hjn) (HT.out p hpn) k)
          have hneg := cmpV_neg (tt T) (h j) (h p)
          have HN := Lib.hid hN
          have HO := Lib.hid ho
          obtain ⟨x, hx⟩ : ∃ x, h j = x := ⟨_, rfl⟩
          obtain ⟨y, hy⟩ : ∃ y, h p = y := ⟨_, rfl⟩
          have HX := Lib.hid hx
          have HY := Lib.hid hy
          rw [hx] at cj hcall hneg
          rw [hy] at cp hcall hneg
          obtain ⟨r, hr⟩ : ∃ r, cmpV (tt T) x y = r := ⟨_, rfl⟩
          rw [hr] at hcall hneg
          have HNEG := Lib.hid hneg
          have hgt : decide ((a : Int) < (j : Int)) = true := by simp; omega
          clear hN ho hsc hx hy hr hneg
          by_cases hr0 : r < 0
          · have hst : Hid (InsInv (tt T) g (swF h j p) a i p) := by
              show InsInv _ _ _ _ _ _
              have := HINV.out.step haj (by rw [hp, HX.out, HY.out]; exact HNEG.out.1 hr0)
              rw [hp] at this
              exact this
            go_wp2_with fail
            go_quiet ((go_at_call 10; exact Calls.quiet_of (hcall.out _)))
            obtain ⟨w9, hw9⟩ : ∃ w9, wr.drewN nq = w9 := ⟨_, rfl⟩
            have cj : w9.cell? ⟨G, j, none⟩ = some (.int .i64 x) := by rw [← hw9]; exact cj
            have fj : w9.frozen? ⟨G, j, none⟩ = false := by rw [← hw9]; exact fj
            have cp : w9.cell? ⟨G, p, none⟩ = some (.int .i64 y) := by rw [← hw9]; exact cp
            have fp : w9.frozen? ⟨G, p, none⟩ = false := by rw [← hw9]; exact fp
            have hN9 : Nums w9 G n h := by rw [← hw9]; exact HN.out.only ((Only.refl [] _).drewN nq) (by simp)
            have ho9 : Only [G] w w9 := by rw [← hw9]; exact HO.out.drewN nq
            rw [hw9]
            have hsw := swap_nums hN9 j p
            rw [HX.out, HY.out] at hsw
            have e1 := Lib.hid hsw
            have e2 := Lib.hid (ho9.trans (swap_only w9 G j p (.int .i64 y) (.int .i64 x)) (fun z hz _ => hz))
            have hjp : ¬ j = p := by omega
            clear hw9 hN9 ho9 hsw
            go_wp2_with fail
            go_region
            go_wp2
            go_roundw
            case rel => exact ⟨p, _, by go_num, hst.out, e1.out, e2.out⟩
            case measure => (simp [intOf]; try omega)
          · have hdn : Hid (SR (tt T) h a (i + 1)) := HINV.out.done (.inr ⟨haj, by
              rw [hp, HX.out, HY.out]
              have : ¬ tt T y < tt T x := fun h => hr0 (HNEG.out.2 h)
              omega⟩)
            go_wp2_with fail
            go_quiet ((go_at_call 10; exact Calls.quiet_of (hcall.out _)))
            have e1 := Lib.hid (HN.out.only ((Only.refl [] _).drewN nq) (by simp))
            have e2 := Lib.hid (HO.out.drewN nq)
            have e3 : Hid (Re f h a (i + 1)) := (HRE.out.wide (Nat.le_refl _) (by omega)).trans HINV.out.re
            go_wp2
            go_roundw
            case rel => exact ⟨i + 1, h, by go_num, by omega, .inl (by omega), e1.out, hdn.out, e3.out, e2.out⟩
            case measure => (simp [intOf]; try omega)
        · have hja : j = a := by omega
          have hdn : Hid (SR (tt T) h a (i + 1)) := HINV.out.done (.inl hja)
          have e3 : Hid (Re f h a (i + 1)) := (HRE.out.wide (Nat.le_refl _) (by omega)).trans HINV.out.re
          have hgt : decide ((a : Int) < (j : Int)) = false := by simp; omega
          have HN := Lib.hid hN
          have HO := Lib.hid ho
          clear hN ho
          go_wp2_with fail
          go_quiet (fail)
          have e1 := Lib.hid (HN.out.only ((Only.refl [] _).drewN nq) (by simp))
          have e2 := Lib.hid (HO.out.drewN nq)
          go_wp2
          go_roundw
          case rel => exact ⟨i + 1, h, by go_num, by omega, .inl (by omega), e1.out, hdn.out, e3.out, e2.out⟩
          case measure => (simp [intOf]; try omega)
    · have hsb : Hid (SR (tt T) g a b) := HSR.out.sub (Nat.le_refl _) (by omega)
      have hrb : Hid (Re f g a b) := by
        rcases hi2 with h | h
        · rw [show b = i by omega]; exact HRE.out
        · by_cases hab : a < b
          · rw [show b = i by omega]; exact HRE.out
          · obtain ⟨r1, r2, r3⟩ := HRE.out
            have hall : ∀ k, g k = f k := fun k => by
              by_cases hk : k = a
              · subst hk
                obtain ⟨x', k1, k2, k3⟩ := r2 k (Nat.le_refl _) (by omega)
                rw [k3, show x' = k by omega]
              · exact r1 k (by omega)
            exact ⟨fun k _ => hall k, fun k h1 h2 => by omega, fun k h1 h2 => by omega⟩
      go_wp2
      go_end0
      exact ⟨rfl, g, hN, hsb.out, hrb.out, ho⟩

end Go.Proofs.Ytnolckhideellaa
