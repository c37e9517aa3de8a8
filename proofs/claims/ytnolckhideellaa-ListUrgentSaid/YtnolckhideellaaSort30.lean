/-
  The library's stable sort of at most 30, by way of list.Urgent's comparison.
-/
import Derived.Test.YtnolckhideellaaSym4
namespace Go.Proofs.Ytnolckhideellaa
open Go.RowKit Go.Deep

set_option maxRecDepth 100000 in
set_option maxHeartbeats 8000000 in
theorem stable_sort (G c n tb A : Nat) (f T : Nat → Int) (w : World) (hN : Nums w G n f) (hf : Tasks n f) (hv : ∀ x y, x < y → y < n → f x < f y) (hS : SortAt w G n tb A T) (hn : n ≤ 30) :
    Calls Try.prog 16 #[.slice (some ⟨G, 0, none⟩) n c, .int .i64 (n : Int), cvU tb] w fun e w' => e = .returned (.tuple #[]) ∧ ∃ g, Nums w' G n g ∧ SR (tt T) g 0 n ∧ Re f g 0 n ∧ Only [G] w w' := by
  have HIns := Lib.hid (fun a b g w' hN hf hv hS hb ha => insertion_sort G c n a b tb A g T w' hN hf hv hS hb ha (by omega))
  have HSym := Lib.hid (fun a m b g w' hb hN hf hr hS => sym_merge G c n tb A T (by omega) (b - a) a m b g w' (Nat.le_refl _) hb hN hf hr hS)
  unfold cvU at HIns HSym ⊢
  have HV := Lib.hid hv
  have HF := Lib.hid hf
  have HS := Lib.hid hS
  have HN := Lib.hid hN
  clear hv hf hS hN
  by_cases h20 : 20 ≤ n
  · go_enter Try.func16, Try.ntmps16
    go_wp2_with fail
    go_loopw [7, 8] (fun va vb wr => (va = .int .i64 0 ∧ vb = .int .i64 20 ∧ w = wr) ∨ (va = .int .i64 20 ∧ vb = .int .i64 40 ∧ ∃ g, Nums wr G n g ∧ SR (tt T) g 0 20 ∧ Re f g 0 20 ∧ Only [G] w wr)) (fun va _ _ => 20 - (intOf va).toNat)
    case atStart => exact .inl ⟨rfl, rfl, rfl⟩
    case round =>
      rcases hrel with ⟨rfl, rfl, rfl⟩ | ⟨rfl, rfl, g, hN1, hs1, hr1, ho1⟩
      · have hc := HIns.out 0 20 f w HN.out HF.out (fun x y _ h2 h3 => HV.out x y h2 (by omega)) HS.out h20 (by omega)
        go_wp2_with fail
        refine hc.mono ?_
        rintro e w1 ⟨rfl, g, hN1, hs1, hr1, ho1⟩
        have S1 := Lib.hid hs1
        have R1 := Lib.hid hr1
        clear hc hs1 hr1
        go_wp2
        go_roundw
        case rel => exact .inr ⟨rfl, rfl, g, hN1, S1.out, R1.out, ho1⟩
        case measure => (simp [intOf]; try omega)
      · have hgf : ∀ i, 20 ≤ i → g i = f i := fun i hi => hr1.1 i (.inr hi)
        have hT1 : Hid (Tasks n g) := Tasks.re HF.out hr1 h20
        have hc := HIns.out 20 n g wr hN1 hT1.out (fun x y h1 h2 h3 => by rw [hgf x h1, hgf y (by omega)]; exact HV.out x y h2 h3) (HS.out.only ho1) (Nat.le_refl _) h20
        have S1 := Lib.hid hs1
        have R1 := Lib.hid hr1
        have HO1 := Lib.hid ho1
        clear hgf hs1 hr1 ho1 hN1
        go_wp2_with fail
        refine hc.mono ?_
        rintro e w2 ⟨rfl, g2, hN2, hs2, hr2, ho2⟩
        have ho2 := HO1.out.trans ho2 (by simp)
        have hrun : Hid (20 < n → Runs (tt T) g2 0 20 n) := fun h => ⟨by omega, h, S1.out.congr (fun i _ hi => hr2.1 i (.inl hi)), hs2, fun i j _ i2 j1 j2 => by
          rw [hr2.1 i (.inl i2)]
          obtain ⟨i', _, a2, a3⟩ := R1.out.2.1 i (Nat.zero_le _) i2
          obtain ⟨j', b1, b2, b3⟩ := hr2.2.1 j j1 j2
          rw [a3, b3, R1.out.1 j' (.inr b1)]
          exact HV.out i' j' (by omega) b2⟩
        have hre2 : Hid (Re f g2 0 n) := (R1.out.wide (Nat.le_refl _) h20).trans (hr2.wide (by omega) (Nat.le_refl _))
        have hT2 : Hid (Tasks n g2) := Tasks.re HF.out hre2.out (Nat.le_refl _)
        have hend : Hid (¬ 20 < n → SR (tt T) g2 0 n) := fun h => by
          rw [show n = 20 by omega]
          exact S1.out.congr (fun i _ hi => hr2.1 i (.inl hi))
        have HN2 := Lib.hid hN2
        have HO2 := Lib.hid ho2
        clear hc hs2 hr2 hN2 ho2
        go_wp2_with fail
        go_loopw [6] (fun vs wx => (vs = .int .i64 20 ∧ w2 = wx) ∨ (vs = .int .i64 40 ∧ ∃ g3, Nums wx G n g3 ∧ SR (tt T) g3 0 n ∧ Re f g3 0 n ∧ Only [G] w wx)) (fun vs _ => 40 - (intOf vs).toNat)
        case atStart => exact .inl ⟨rfl, rfl⟩
        case round =>
          rcases hrel with ⟨rfl, rfl⟩ | ⟨rfl, g3, hN3, hs3, hr3, ho3⟩
          · by_cases h21 : 20 < n
            · have hc := HSym.out 0 20 n g2 w2 (Nat.le_refl _) HN2.out hT2.out (hrun.out h21) (HS.out.only HO2.out)
              go_wp2_with fail
              go_loopw [7, 8] (fun va vb wy => va = .int .i64 0 ∧ vb = .int .i64 40 ∧ w2 = wy) (fun _ _ _ => 0)
              case atStart => exact ⟨rfl, rfl, rfl⟩
              case round =>
                obtain ⟨rfl, rfl, rfl⟩ := hrel
                go_wp2_with fail
                refine hc.mono ?_
                rintro e w3 ⟨rfl, g3, hN3, hs3, hr3, ho3⟩
                have ho3 := HO2.out.trans ho3 (by simp)
                have S3 := Lib.hid hs3
                have R3 : Hid (Re f g3 0 n) := hre2.out.trans hr3
                clear hc hs3 hr3
                go_wp2
                go_roundw
                case rel => exact .inr ⟨rfl, g3, hN3, S3.out, R3.out, ho3⟩
                case measure => (simp [intOf]; try omega)
            · go_wp2
              go_end0
              exact ⟨rfl, g2, HN2.out, hend.out h21, hre2.out, HO2.out⟩
          · go_wp2
            go_end0
            exact ⟨rfl, g3, hN3, hs3, hr3, ho3⟩
  · have hc := HIns.out 0 n f w HN.out HF.out (fun x y _ h2 h3 => HV.out x y h2 h3) HS.out (Nat.le_refl _) (Nat.zero_le _)
    go_enter Try.func16, Try.ntmps16
    go_wp2_with fail
    go_loopw [7, 8] (fun va vb wr => va = .int .i64 0 ∧ vb = .int .i64 20 ∧ w = wr) (fun _ _ _ => 0)
    case atStart => exact ⟨rfl, rfl, rfl⟩
    case round =>
      obtain ⟨rfl, rfl, rfl⟩ := hrel
      go_wp2_with fail
      refine hc.mono ?_
      rintro e w1 ⟨rfl, g, hN1, hs1, hr1, ho1⟩
      have S1 := Lib.hid hs1
      have R1 := Lib.hid hr1
      clear hc hs1 hr1
      go_wp2_with fail
      go_loopw [6] (fun vs wx => vs = .int .i64 20 ∧ w1 = wx) (fun _ _ => 0)
      case atStart => exact ⟨rfl, rfl⟩
      case round =>
        obtain ⟨rfl, rfl⟩ := hrel
        go_wp2
        go_end0
        exact ⟨rfl, g, hN1, S1.out, R1.out, ho1⟩

end Go.Proofs.Ytnolckhideellaa
