/-
  The statement TraceWords: deeds as text have as many lines as there are deeds. No condition but the listed variables'.
-/
import Derived.Test.YtloojhnhialenaaDoorFrame
import Derived.Test.YtloojhnhialenaaDoorLaid
import Derived.Test.YtloojhnhialenaaDoorTraceO
import Derived.Test.YtloojhnhialenaaDoorRCut
namespace Go.Proofs.YtloojhnhialenaaDoor.traceWords
open Go.ChangeShapes Go.WideShapes Go.ChangeAt Go.RowKit
open Go.ChangeMaps (open_string shut_string)
set_option linter.unusedVariables false


theorem nums_no10 (l : List Nat) (h : ∀ n ∈ l, n < 100) : (10 : UInt8) ∉ l.flatMap numB := fun hm => by
  obtain ⟨n, hn, h1⟩ := List.mem_flatMap.1 hm
  unfold numB at h1
  rcases List.mem_cons.1 h1 with h1 | h1
  · exact absurd h1 (by decide)
  · have h2 := h n hn
    by_cases h3 : n < 10
    · rw [Lib.decDigits_one h3] at h1
      have h4 : n = 0 ∨ n = 1 ∨ n = 2 ∨ n = 3 ∨ n = 4 ∨ n = 5 ∨ n = 6 ∨ n = 7 ∨ n = 8 ∨ n = 9 := by omega
      rcases h4 with rfl | rfl | rfl | rfl | rfl | rfl | rfl | rfl | rfl | rfl <;> exact absurd h1 (by decide)
    · rw [Lib.decDigits_two (by omega) h2] at h1
      have a : n / 10 = 1 ∨ n / 10 = 2 ∨ n / 10 = 3 ∨ n / 10 = 4 ∨ n / 10 = 5 ∨ n / 10 = 6 ∨ n / 10 = 7 ∨ n / 10 = 8 ∨ n / 10 = 9 := by omega
      have b : n % 10 = 0 ∨ n % 10 = 1 ∨ n % 10 = 2 ∨ n % 10 = 3 ∨ n % 10 = 4 ∨ n % 10 = 5 ∨ n % 10 = 6 ∨ n % 10 = 7 ∨ n % 10 = 8 ∨ n % 10 = 9 := by omega
      rcases a with a | a | a | a | a | a | a | a | a <;> rcases b with b | b | b | b | b | b | b | b | b | b <;> rw [a, b] at h1 <;> exact absurd h1 (by decide)
theorem cut_deeds (l : List Dd) (h : ∀ d ∈ l, ddFault d = 0) : (cutL 10 (ddsText l)).length = l.length + 1 := by
  induction l with
  | nil => rfl
  | cons d l ih =>
    have h1 := ih (fun x hx => h x (by simp [hx]))
    have h2 : ddsText (d :: l) = (wordB d.what.toNat ++ (ddNums d).flatMap numB) ++ 10 :: ddsText l := by simp [ddsText, ddText]
    rw [h2, cutL_at]
    · simp [h1]
    · simp only [List.mem_append, not_or]
      exact ⟨wordB_no10 _, nums_no10 _ (fun n hn => by have := ddNums_lt (h d (by simp)) n hn; omega)⟩

set_option maxRecDepth 100000 in
set_option maxHeartbeats 4000000 in
theorem walk (v0 : Value) (l0 : List Dd) (w : World) (hwords : WordsIn w) (w0 : InDeeds w v0 l0) :
    Calls Tryd.prog 3 #[v0] w fun e w' => e = .returned (.bool true) ∧ Below w.heap.size w w' := by
  have HV := Lib.hid w0
  have HW := Lib.hid hwords
  obtain ⟨n, hn⟩ : ∃ n, l0.length = n := ⟨_, rfl⟩
  have HN := Lib.hid hn
  have hmax : n ≤ maxLen := by rw [← hn]; exact w0.2.2.1
  have hmax9 : n ≤ 9223372036854775807 := by unfold maxLen at hmax; omega
  have hd1 : DeedsAt (w.alloc (.cells #[.int .i64 6, .int .i64 3, .int .i64 0, .int .i64 0] 28)) (.slice (some ⟨w.heap.size, 0, none⟩) 1 1) [⟨6, 3, 0, 0⟩] := by
    refine ⟨rfl, flatE_one _, .inr ⟨by decide, w.heap.size, 0, 1, rfl, fun j y hj => ?_⟩⟩
    rw [Nat.zero_add]
    exact obj_cell (heap_alloc_new _ _) j y (by simpa [flatE, ddCells] using hj)
  have ho0 := (Only.refl [] w).alloc (.cells #[.int .i64 6, .int .i64 3, .int .i64 0, .int .i64 0] 28)
  have hp1 := trace_Print _ [⟨6, 3, 0, 0⟩] _ hd1 (hwords.only ho0) (by decide)
  have ht1 : ddsText [⟨6, 3, 0, 0⟩] = [119, 111, 107, 101, 32, 51, 10] := by
    have e : ddsText [⟨6, 3, 0, 0⟩] = [119, 111, 107, 101] ++ (32 :: Lib.decDigits 3) ++ [10] := by simp [ddsText, ddText, ddNums, ddPlaces, ddField, wordB, numB]
    rw [e, Lib.decDigits_one (by omega)]
    rfl
  rw [ht1] at hp1
  have HO0 := Lib.hid ho0
  clear hd1 ht1 ho0 hwords hmax
  obtain ⟨a, cap, rfl, _⟩ := w0.2.1.opt
  rw [hn] at HV ⊢
  clear w0 hn
  go_enter Tryd.func3, Tryd.ntmps3
  go_wp2_with fail
  refine hp1.mono ?_
  rintro e w1 ⟨rfl, ho1⟩
  have HO1 := Lib.hid (HO0.out.trans ho1 (by simp))
  clear hp1 ho1
  by_cases hf : ddsFault l0 = 0
  · have hp2 := trace_Print _ l0 _ (HV.out.2.1.same HO1.out) (HW.out.only HO1.out) hf
    have hle : n ≤ 1000 := by
      rw [← HN.out]
      unfold ddsFault at hf
      split at hf
      · simp at hf
      · omega
    have hall : ∀ d ∈ l0, ddFault d = 0 := by
      unfold ddsFault at hf
      rw [if_neg (by have := HN.out; omega)] at hf
      exact (firstDd_zero l0).1 hf
    have hcl := cut_deeds l0 hall
    have htl := ddsText_len l0 hall
    obtain ⟨s, hs⟩ : ∃ s : ByteArray, (⟨(ddsText l0).toArray⟩ : ByteArray) = s := ⟨_, rfl⟩
    rw [hs] at hp2
    have hsz : s.size ≤ 1000000 := by rw [← hs]; show (ddsText l0).toArray.size ≤ _; rw [List.size_toArray]; have := HN.out; omega
    have hcn : (cutS 10 s).length = n + 1 := by unfold cutS; rw [List.length_map, ← hs, hcl, HN.out]
    have HCN := Lib.hid hcn
    have HSZ := Lib.hid hsz
    clear hf hall hcl htl hs hcn hsz
    go_wp2_with fail
    refine hp2.mono ?_
    rintro e w2 ⟨rfl, ho2⟩
    have HO2 := Lib.hid (HO1.out.trans ho2 (by simp))
    have hcut := ref_Cut s 10 w2 HSZ.out
    clear hp2 ho2
    go_wp2_with fail
    refine hcut.mono ?_
    rintro e w3 ⟨v, rfl, hv, ho3⟩
    obtain ⟨va, vc, rfl, _⟩ := hv.opt
    rw [HCN.out]
    have HO3 := Lib.hid (HO2.out.trans ho3 (by simp))
    clear hcut hv ho3
    go_wp2_with fail
    go_ret
    exact ⟨by simp, HO3.out.below (Nat.le_refl _) (by simp)⟩
  · have hp2 := trace_Print_no _ l0 _ (HV.out.2.1.same HO1.out) (by rw [HN.out]; exact hmax9) hf
    rw [errV_ne hf] at hp2
    generalize ddsFault l0 = f at *
    go_wp2_with fail
    refine hp2.mono ?_
    rintro e w2 ⟨rfl, ho2⟩
    have HO2 := Lib.hid (HO1.out.trans ho2 (by simp))
    clear hp2 ho2
    go_wp2
    go_ret
    exact ⟨rfl, HO2.out.below (Nat.le_refl _) (by simp)⟩

end Go.Proofs.YtloojhnhialenaaDoor.traceWords
