/-
  Contract of slices.SortStableFunc, of at most 30 ints, by way of list.Urgent's comparison.
-/
import Derived.Test.YtnolckhideellaaSort30
namespace Go.Proofs.Ytnolckhideellaa
open Go.RowKit Go.Deep

set_option maxRecDepth 100000 in
theorem sort_stable (G c n tb A : Nat) (f T : Nat → Int) (w : World) (hN : Nums w G n f) (hf : Tasks n f) (hv : ∀ x y, x < y → y < n → f x < f y) (hS : SortAt w G n tb A T) (hn : n ≤ 30) :
    Calls Try.prog 9 #[.slice (some ⟨G, 0, none⟩) n c, cvU tb] w fun e w' => e = .returned (.tuple #[]) ∧ ∃ g, Nums w' G n g ∧ SR (tt T) g 0 n ∧ Re f g 0 n ∧ Only [G] w w' := by
  have hc := stable_sort G c n tb A f T w hN hf hv hS hn
  unfold cvU at hc ⊢
  clear hN hf hv hS
  go_enter Try.func9, Try.ntmps9
  go_wp2_with fail
  refine hc.mono ?_
  rintro e w1 ⟨rfl, g, h1, h2, h3, h4⟩
  have S := Lib.hid h2
  have R := Lib.hid h3
  clear h2 h3 hc
  go_wp2
  go_end0
  exact ⟨rfl, g, h1, S.out, R.out, h4⟩

end Go.Proofs.Ytnolckhideellaa
