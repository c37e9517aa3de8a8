/-
  The library's symMerge, whole; its stable sort of at most 40.
-/
import Derived.Test.YtnolckhideellaaSym3
namespace Go.Proofs.Ytnolckhideellaa
open Go.RowKit Go.Deep

theorem sym_merge (G c n tb A : Nat) (T : Nat → Int) (hn : n ≤ 1000) (k : Nat) : ∀ (a m b : Nat) (f : Nat → Int) (w : World), b - a ≤ k → b ≤ n → Nums w G n f → Tasks n f → Runs (tt T) f a m b → SortAt w G n tb A T →
    Calls Try.prog 25 #[.slice (some ⟨G, 0, none⟩) n c, .int .i64 (a : Int), .int .i64 (m : Int), .int .i64 (b : Int), cvU tb] w fun e w' => e = .returned (.tuple #[]) ∧ ∃ g, Nums w' G n g ∧ SR (tt T) g a b ∧ Re f g a b ∧ Only [G] w w' := by
  induction k with
  | zero =>
    intro a m b f w hk hb hN hf hr hS
    have := hr.am
    have := hr.mb
    omega
  | succ k ih =>
    intro a m b f w hk hb hN hf hr hS
    have h1 := hr.am
    have h2 := hr.mb
    by_cases hm : m = a + 1
    · exact sym_front G c n a m b tb A f T w hm hN hf hr hS hb hn
    · by_cases hm2 : b = m + 1
      · exact sym_back G c n a m b tb A f T w hm2 (by omega) hN hf hr hS hb hn
      · exact sym_gen G c n a m b tb A f T w (by omega) (by omega) hN hf hr hS hb hn (fun a' m' b' f' w' h => ih a' m' b' f' w' (by omega))

end Go.Proofs.Ytnolckhideellaa
