/-
  The library's slices.Grow and slices.Concat at []int.
-/
import Derived.Test.YtocpmncedlenbaaP10GangShares
import Derived.Test.YtocpmncedlenbaaP2GangShares
import Derived.Test.YtocpmncedlenbaaP3GangShares
import Derived.Shelf.Spec.SlicesGrow
namespace Go.Proofs.Ytocpmncedlenbaa
open Go.RowKit Go.Deep Go.Shelf

def growRen : Go.Shelf.Ren := ⟨fun | 4 => 61 | n => n, fun | 0 => 0 | 3 => 3 | 4 => 4 | 9 => 9 | 20 => 20 | 22 => 22 | 25 => 3 | n => n, fun n => n⟩
theorem growLay : Lays8.n4 Try.prog growRen where
  mixed := by kernel_rfl
  f4 := ⟨"slices.Grow[[]int,int]", by decide, Try.func61.trans (congrArg some (by kernel_rfl))⟩
  t0 := Try.underlying0
  a0 := Try.isAgg0
  z0 := Try.sizeOf0
  v0 := Try.zeroValue0
  t3 := Try.underlying3
  a3 := Try.isAgg3
  z3 := Try.sizeOf3
  v3 := Try.zeroValue3
  t4 := Try.underlying4
  a4 := Try.isAgg4
  z4 := Try.sizeOf4
  v4 := Try.zeroValue4
  t9 := Try.underlying9
  a9 := Try.isAgg9
  z9 := Try.sizeOf9
  v9 := Try.zeroValue9
  t20 := Try.underlying20
  a20 := Try.isAgg20
  z20 := Try.sizeOf20
  v20 := Try.zeroValue20
  t22 := Try.underlying22
  a22 := Try.isAgg22
  z22 := Try.sizeOf22
  v22 := Try.zeroValue22

theorem grow_nil (n : Nat) (h0 : 0 < n) (hn : n ≤ 1000) (w : World) :
    Calls Try.prog 61 #[.slice none 0 0, .int .i64 n] w fun e w' => ∃ v, e = .returned v ∧ Ints w' w.heap.size v [] ∧ Only [] w w' := by
  obtain ⟨i0, hi, a, b, c⟩ := info_int
  refine (Any8.slices_Grow_grow growLay i0 (.int .i64 0) hi a (by omega) none 0 0 n [] w (by omega) (by omega) (by rw [c]; omega) (by omega) (by simp) (by simp) (by simp)).mono ?_
  rintro e w' ⟨rfl, rfl⟩
  have hg := grownCap_le_maxLen w (0 + n) 0 3 (by unfold maxLen; omega)
  have hge := grownCap_ge w (0 + n) 0 3
  refine ⟨_, rfl, ⟨by simp, .inr ⟨w.heap.size, _, _, rfl, Nat.le_refl _, heap_alloc_new _ _, Nat.zero_le _, hg, ?_, by simp⟩⟩, ((Only.refl [] w).drew).alloc _⟩
  simp only [Array.size_append, size_zeroCells]
  show 0 + (0 + n - 0) * 1 + (grownCap w (0 + n) 0 3 - (0 + n)) * 1 = grownCap w (0 + n) 0 3 * 1
  omega

set_option maxRecDepth 100000 in
/-- Two slices of one number each. -/
theorem concat_two (B : Nat) (a1 a2 : Option Addr) (c1 c2 : Nat) (x y : Int) (w : World) (hB : Cells w B [.slice a1 1 c1, .slice a2 1 c2]) (h1 : Reads w (.slice a1 1 c1) [x]) (h2 : Reads w (.slice a2 1 c2) [y]) :
    Calls Try.prog 47 #[.slice (some ⟨B, 0, none⟩) 2 2] w fun e w' => ∃ v, e = .returned v ∧ Ints w' w.heap.size v [x, y] ∧ Only [] w w' := by
  have H1 := Lib.hid h1
  have H2 := Lib.hid h2
  have HB := Lib.hid hB
  have b0 := hB.cell 0 _ rfl
  have b1 := hB.cell 1 _ rfl
  clear hB h1 h2
  go_enter Try.func47, Try.ntmps47
  go_wp2_with fail
  go_loopw [3, 5, 11] (fun vs _ vi wr => ∃ i : Nat, i ≤ 2 ∧ vi = .int .i64 i ∧ vs = .int .i64 i ∧ wr = w) (fun _ _ vi _ => 2 - (intOf vi).toNat)
  case atStart => exact ⟨0, by omega, rfl, rfl, rfl⟩
  case round =>
    obtain ⟨i, hi, rfl, rfl, rfl⟩ := hrel
    have h3 : i = 0 ∨ i = 1 ∨ i = 2 := by omega
    rcases h3 with rfl | rfl | rfl
    · go_wp2_with fail
      go_roundw
      case rel => exact ⟨1, by omega, rfl, by first | rfl | trivial, by first | rfl | trivial⟩
      case measure => (simp [intOf]; try omega)
    · go_wp2_with fail
      go_roundw
      case rel => exact ⟨2, by omega, rfl, by first | rfl | trivial, by first | rfl | trivial⟩
      case measure => (simp [intOf]; try omega)
    · obtain ⟨wz, rfl⟩ : ∃ wz : World, wz = wr := ⟨_, rfl⟩
      have hgr := grow_nil 2 (by omega) (by omega) wz
      go_wp2_with fail
      refine hgr.mono ?_
      rintro e wa ⟨v, rfl, hI, ho⟩
      have HI := Lib.hid hI
      have HO := Lib.hid ho
      clear hI ho hgr
      go_wp2_with fail
      go_loopw [6, 8, 27] (fun vs _ vi wr => ∃ i : Nat, i ≤ 2 ∧ vi = .int .i64 i ∧ Ints wr wz.heap.size vs ([x, y].take i) ∧ Only [] wz wr) (fun _ _ vi _ => 2 - (intOf vi).toNat)
      case atStart => exact ⟨0, by omega, rfl, HI.out, HO.out⟩
      case round =>
        obtain ⟨i, hi, rfl, hI, ho⟩ := hrel
        have h3 : i = 0 ∨ i = 1 ∨ i = 2 := by omega
        have HI := Lib.hid hI
        have HO := Lib.hid ho
        have hsz := ho.size
        clear hI ho
        rcases h3 with rfl | rfl | rfl
        · have c0 : wr.cell? ⟨B, 0, none⟩ = some (.slice a1 1 c1) := (HO.out.cell (p := ⟨B, 0, none⟩) HB.out.lt (by simp)).trans b0
          have HR := Lib.hid (H1.out.same HO.out)
          go_wp2_with (at_builtin; refine wpList_append_reads rfl (.tmp 31) (.tmp 32) rfl wr wz.heap.size _ _ _ _ HI.out HR.out (by simp) hsz rfl rfl (Only.refl _ _) ?_; intro v3 w3 hI3 hO3 hK3)
          have HI3 : Hid (Ints w3 wz.heap.size v3 ([x, y].take 1)) := hI3
          have HO3 : Hid (Only [] wz w3) := HO.out.trans hO3 (fun z hz hl => by have := (HI.out.own_lt z hz).1; omega)
          clear hI3 hO3 hK3
          go_roundw
          case rel => exact ⟨1, by omega, rfl, HI3.out, HO3.out⟩
          case measure => (simp [intOf]; try omega)
        · have c1 : wr.cell? ⟨B, 1, none⟩ = some (.slice a2 1 c2) := (HO.out.cell (p := ⟨B, 1, none⟩) HB.out.lt (by simp)).trans b1
          have HR := Lib.hid (H2.out.same HO.out)
          go_wp2_with (at_builtin; refine wpList_append_reads rfl (.tmp 31) (.tmp 32) rfl wr wz.heap.size _ _ _ _ HI.out HR.out (by simp) hsz rfl rfl (Only.refl _ _) ?_; intro v3 w3 hI3 hO3 hK3)
          have HI3 : Hid (Ints w3 wz.heap.size v3 ([x, y].take 2)) := hI3
          have HO3 : Hid (Only [] wz w3) := HO.out.trans hO3 (fun z hz hl => by have := (HI.out.own_lt z hz).1; omega)
          clear hI3 hO3 hK3
          go_roundw
          case rel => exact ⟨2, by omega, rfl, HI3.out, HO3.out⟩
          case measure => (simp [intOf]; try omega)
        · go_wp2
          go_ret
          exact ⟨_, rfl, HI.out, HO.out⟩

end Go.Proofs.Ytocpmncedlenbaa
