/-
  The library's slices.Grow and slices.Concat at []int.
  Contract of a gang's find.
-/
import Derived.Test.YtocpmncedlenbaaP7GangHolds
import Derived.Test.YtocpmncedlenbaaP2GangHolds
import Derived.Test.YtocpmncedlenbaaP3GangHolds
import Derived.Shelf.Spec.SlicesGrow
import Derived.Test.YtocpmncedlenbaaP36GangHolds
namespace Go.Proofs.Ytocpmncedlenbaa
open Go.RowKit Go.Deep Go.Shelf

def growRen : Go.Shelf.Ren := ⟨fun | 4 => 61 | n => n, fun | 0 => 0 | 3 => 3 | 4 => 4 | 9 => 9 | 20 => 20 | 22 => 22 | 25 => 3 | n => n, fun n => n⟩
theorem growLay : Lays8.n4 Try.prog growRen where
  mixed := by kernel_rfl
  f4 := ⟨"slices.Grow[[]int,int]", by decide, Try.func61.trans (congrArg some (by kernel_rfl))⟩
  t0 := Try.underlying0
  a0 := Try.isAgg0
  z0 := Try.sizeOf0
  v0 := Try.zeroValue0
  t3 := Try.underlying3
  a3 := Try.isAgg3
  z3 := Try.sizeOf3
  v3 := Try.zeroValue3
  t4 := Try.underlying4
  a4 := Try.isAgg4
  z4 := Try.sizeOf4
  v4 := Try.zeroValue4
  t9 := Try.underlying9
  a9 := Try.isAgg9
  z9 := Try.sizeOf9
  v9 := Try.zeroValue9
  t20 := Try.underlying20
  a20 := Try.isAgg20
  z20 := Try.sizeOf20
  v20 := Try.zeroValue20
  t22 := Try.underlying22
  a22 := Try.isAgg22
  z22 := Try.sizeOf22
  v22 := Try.zeroValue22

theorem grow_nil (n : Nat) (h0 : 0 < n) (hn : n ≤ 1000) (w : World) :
    Calls Try.prog 61 #[.slice none 0 0, .int .i64 n] w fun e w' => ∃ v, e = .returned v ∧ Ints w' w.heap.size v [] ∧ Only [] w w' := by
  obtain ⟨i0, hi, a, b, c⟩ := info_int
  refine (Any8.slices_Grow_grow growLay i0 (.int .i64 0) hi a (by omega) none 0 0 n [] w (by omega) (by omega) (by rw [c]; omega) (by omega) (by simp) (by simp) (by simp)).mono ?_
  rintro e w' ⟨rfl, rfl⟩
  have hg := grownCap_le_maxLen w (0 + n) 0 3 (by unfold maxLen; omega)
  have hge := grownCap_ge w (0 + n) 0 3
  refine ⟨_, rfl, ⟨by simp, .inr ⟨w.heap.size, _, _, rfl, Nat.le_refl _, heap_alloc_new _ _, Nat.zero_le _, hg, ?_, by simp⟩⟩, ((Only.refl [] w).drew).alloc _⟩
  simp only [Array.size_append, size_zeroCells]
  show 0 + (0 + n - 0) * 1 + (grownCap w (0 + n) 0 3 - (0 + n)) * 1 = grownCap w (0 + n) 0 3 * 1
  omega

set_option maxRecDepth 100000 in
/-- Two slices of one number each. -/
theorem concat_two (B : Nat) (a1 a2 : Option Addr) (c1 c2 : Nat) (x y : Int) (w : World) (hB : Cells w B [.slice a1 1 c1, .slice a2 1 c2]) (h1 : Reads w (.slice a1 1 c1) [x]) (h2 : Reads w (.slice a2 1 c2) [y]) :
    Calls Try.prog 47 #[.slice (some ⟨B, 0, none⟩) 2 2] w fun e w' => ∃ v, e = .returned v ∧ Ints w' w.heap.size v [x, y] ∧ Only [] w w' := by
  have H1 := Lib.hid h1
  have H2 := Lib.hid h2
  have HB := Lib.hid hB
  have b0 := hB.cell 0 _ rfl
  have b1 := hB.cell 1 _ rfl
  clear hB h1 h2
  go_enter Try.func47, Try.ntmps47
  go_wp2_with fail
  go_loopw [3, 5, 11] (fun vs _ vi wr => ∃ i : Nat, i ≤ 2 ∧ vi = .int .i64 i ∧ vs = .int .i64 i ∧ wr = w) (fun _ _ vi _ => 2 - (intOf vi).toNat)
  case atStart => exact ⟨0, by omega, rfl, rfl, rfl⟩
  case round =>
    obtain ⟨i, hi, rfl, rfl, rfl⟩ := hrel
    have h3 : i = 0 ∨ i = 1 ∨ i = 2 := by omega
    rcases h3 with rfl | rfl | rfl
    · go_wp2_with fail
      go_roundw
      case rel => exact ⟨1, by omega, rfl, by first | rfl | trivial, by first | rfl | trivial⟩
      case measure => (simp [intOf]; try omega)
    · go_wp2_with fail
      go_roundw
      case rel => exact ⟨2, by omega, rfl, by first | rfl | trivial, by first | rfl | trivial⟩
      case measure => (simp [intOf]; try omega)
    · obtain ⟨wz, rfl⟩ : ∃ wz : World, wz = wr := ⟨_, rfl⟩
      have hgr := grow_nil 2 (by omega) (by omega) wz
      go_wp2_with fail
      refine hgr.mono ?_
      rintro e wa ⟨v, rfl, hI, ho⟩
      have HI := Lib.hid hI
      have HO := Lib.hid ho
      clear hI ho hgr
      go_wp2_with fail
      go_loopw [6, 8, 27] (fun vs _ vi wr => ∃ i : Nat, i ≤ 2 ∧ vi = .int .i64 i ∧ Ints wr wz.heap.size vs ([x, y].take i) ∧ Only [] wz wr) (fun _ _ vi _ => 2 - (intOf vi).toNat)
      case atStart => exact ⟨0, by omega, rfl, HI.out, HO.out⟩
      case round =>
        obtain ⟨i, hi, rfl, hI, ho⟩ := hrel
        have h3 : i = 0 ∨ i = 1 ∨ i = 2 := by omega
        have HI := Lib.hid hI
        have HO := Lib.hid ho
        have hsz := ho.size
        clear hI ho
        rcases h3 with rfl | rfl | rfl
        · have c0 : wr.cell? ⟨B, 0, none⟩ = some (.slice a1 1 c1) := (HO.out.cell (p := ⟨B, 0, none⟩) HB.out.lt (by simp)).trans b0
          have HR := Lib.hid (H1.out.same HO.out)
          go_wp2_with (at_builtin; refine wpList_append_reads rfl (.tmp 31) (.tmp 32) rfl wr wz.heap.size _ _ _ _ HI.out HR.out (by simp) hsz rfl rfl (Only.refl _ _) ?_; intro v3 w3 hI3 hO3 hK3)
          have HI3 : Hid (Ints w3 wz.heap.size v3 ([x, y].take 1)) := hI3
          have HO3 : Hid (Only [] wz w3) := HO.out.trans hO3 (fun z hz hl => by have := (HI.out.own_lt z hz).1; omega)
          clear hI3 hO3 hK3
          go_roundw
          case rel => exact ⟨1, by omega, rfl, HI3.out, HO3.out⟩
          case measure => (simp [intOf]; try omega)
        · have c1 : wr.cell? ⟨B, 1, none⟩ = some (.slice a2 1 c2) := (HO.out.cell (p := ⟨B, 1, none⟩) HB.out.lt (by simp)).trans b1
          have HR := Lib.hid (H2.out.same HO.out)
          go_wp2_with (at_builtin; refine wpList_append_reads rfl (.tmp 31) (.tmp 32) rfl wr wz.heap.size _ _ _ _ HI.out HR.out (by simp) hsz rfl rfl (Only.refl _ _) ?_; intro v3 w3 hI3 hO3 hK3)
          have HI3 : Hid (Ints w3 wz.heap.size v3 ([x, y].take 2)) := hI3
          have HO3 : Hid (Only [] wz w3) := HO.out.trans hO3 (fun z hz hl => by have := (HI.out.own_lt z hz).1; omega)
          clear hI3 hO3 hK3
          go_roundw
          case rel => exact ⟨2, by omega, rfl, HI3.out, HO3.out⟩
          case measure => (simp [intOf]; try omega)
        · go_wp2
          go_ret
          exact ⟨_, rfl, HI.out, HO.out⟩

end Go.Proofs.Ytocpmncedlenbaa

namespace Go.Proofs.Ytocpmncedlenbaa
open Go.RowKit Go.Deep

/-- What a hand finds: a task (-1: none), how, of whom; and how all stands then. -/
structure Found where
  x : Int
  what : Int
  other : Int
  s : GSt

def gPick (room m : Nat) (s : GSt) (h pick : Nat) : Found :=
  if 0 ≤ (s.ws h).near then ⟨(s.ws h).near, 1, 0, ⟨s.done, s.spill, s.row, upW s.ws h ⟨-1, (s.ws h).ring, (s.ws h).task, (s.ws h).left⟩⟩⟩
  else if (s.ws h).ring ≠ [] then ⟨(s.ws h).ring.getLastD 0, 1, 0, ⟨s.done, s.spill, s.row, upW s.ws h ⟨(s.ws h).near, (s.ws h).ring.dropLast, (s.ws h).task, (s.ws h).left⟩⟩⟩
  else match s.spill with
    | x :: rest => ⟨x, 3, 0, ⟨s.done, rest, s.row, s.ws⟩⟩
    | [] => if pick % m = h then ⟨-1, 0, 0, s⟩ else
      match (s.ws (pick % m)).ring.take (halfOf (s.ws (pick % m)).ring) with
      | [] => ⟨-1, 0, 0, s⟩
      | x :: xs => ⟨x, 2, ((pick % m : Nat) : Int), ⟨s.done, s.spill ++ (putAll room (s.ws h) xs).2, s.row, upW (upW s.ws (pick % m) ⟨(s.ws (pick % m)).near, (s.ws (pick % m)).ring.drop (halfOf (s.ws (pick % m)).ring), (s.ws (pick % m)).task, (s.ws (pick % m)).left⟩) h (putAll room (s.ws h) xs).1⟩⟩

/-- .. and has it. -/
def gHave (p : PlanL) (s : GSt) (h : Nat) (r : Found) : GSt × List Dd :=
  if r.x < 0 then gSleep s h else (⟨r.s.done, r.s.spill, r.s.row, upW r.s.ws h (gTake p (r.s.ws h) r.x)⟩, [⟨r.what, h, r.x, r.other⟩])

section
variable {p : PlanL} {room m : Nat} {s : GSt} {h pick : Nat}

theorem gPick_near (hn : 0 ≤ (s.ws h).near) : gPick room m s h pick = ⟨(s.ws h).near, 1, 0, ⟨s.done, s.spill, s.row, upW s.ws h ⟨-1, (s.ws h).ring, (s.ws h).task, (s.ws h).left⟩⟩⟩ := by
  unfold gPick; rw [if_pos hn]
theorem gPick_ring (hn : (s.ws h).near < 0) (hg : (s.ws h).ring ≠ []) : gPick room m s h pick = ⟨(s.ws h).ring.getLastD 0, 1, 0, ⟨s.done, s.spill, s.row, upW s.ws h ⟨(s.ws h).near, (s.ws h).ring.dropLast, (s.ws h).task, (s.ws h).left⟩⟩⟩ := by
  unfold gPick; rw [if_neg (by omega), if_pos hg]
theorem gPick_spill (hn : (s.ws h).near < 0) (hg : (s.ws h).ring = []) {x : Int} {rest : List Int} (hs : s.spill = x :: rest) : gPick room m s h pick = ⟨x, 3, 0, ⟨s.done, rest, s.row, s.ws⟩⟩ := by
  unfold gPick; rw [if_neg (by omega), if_neg (by simp [hg]), hs]
theorem gPick_self (hn : (s.ws h).near < 0) (hg : (s.ws h).ring = []) (hs : s.spill = []) (hh : pick % m = h) : gPick room m s h pick = ⟨-1, 0, 0, s⟩ := by
  unfold gPick; rw [if_neg (by omega), if_neg (by simp [hg]), hs]; simp only; rw [if_pos hh]
theorem gPick_none (hn : (s.ws h).near < 0) (hg : (s.ws h).ring = []) (hs : s.spill = []) (hh : pick % m ≠ h) (hl : (s.ws (pick % m)).ring.take (halfOf (s.ws (pick % m)).ring) = []) : gPick room m s h pick = ⟨-1, 0, 0, s⟩ := by
  unfold gPick; rw [if_neg (by omega), if_neg (by simp [hg]), hs]; simp only; rw [if_neg hh, hl]
theorem gPick_rob (hn : (s.ws h).near < 0) (hg : (s.ws h).ring = []) (hs : s.spill = []) (hh : pick % m ≠ h) {x : Int} {xs : List Int} (hl : (s.ws (pick % m)).ring.take (halfOf (s.ws (pick % m)).ring) = x :: xs) :
    gPick room m s h pick = ⟨x, 2, ((pick % m : Nat) : Int), ⟨s.done, s.spill ++ (putAll room (s.ws h) xs).2, s.row, upW (upW s.ws (pick % m) ⟨(s.ws (pick % m)).near, (s.ws (pick % m)).ring.drop (halfOf (s.ws (pick % m)).ring), (s.ws (pick % m)).task, (s.ws (pick % m)).left⟩) h (putAll room (s.ws h) xs).1⟩⟩ := by
  unfold gPick; rw [if_neg (by omega), if_neg (by simp [hg]), hs]; simp only; rw [if_neg hh, hl]

theorem gFind_pick (H : GInv p room m s) (hm : h < m) : gFind p room m s h pick = gHave p s h (gPick room m s h pick) := by
  have ge : ∀ x ∈ heldL m s, ¬ x < 0 := fun x hx => by obtain ⟨i, e, _⟩ := H.mem hx; omega
  by_cases hn : 0 ≤ (s.ws h).near
  · rw [gPick_near hn]
    unfold gHave gFind
    rw [if_pos hn, if_neg (show ¬ (s.ws h).near < 0 by omega)]
    simp only [upW_same, upW_up]
  · have hn' : (s.ws h).near < 0 := by omega
    by_cases hg : (s.ws h).ring = []
    · cases hs : s.spill with
      | cons x rest =>
        rw [gPick_spill hn' hg hs]
        unfold gHave gFind
        rw [if_neg hn, if_neg (by simp [hg]), hs, if_neg (ge x (by unfold heldL; rw [hs]; simp))]
      | nil =>
        by_cases hh : pick % m = h
        · rw [gPick_self hn' hg hs hh]
          unfold gHave gFind
          rw [if_neg hn, if_neg (by simp [hg]), hs, if_pos (show (-1 : Int) < 0 by omega)]
          simp only
          rw [if_pos hh]
        · cases hl : (s.ws (pick % m)).ring.take (halfOf (s.ws (pick % m)).ring) with
          | nil =>
            rw [gPick_none hn' hg hs hh hl]
            unfold gHave gFind
            rw [if_neg hn, if_neg (by simp [hg]), hs, if_pos (show (-1 : Int) < 0 by omega)]
            simp only
            rw [if_neg hh]
            unfold gRob
            rw [hl]
          | cons x xs =>
            rw [gPick_rob hn' hg hs hh hl]
            unfold gHave gFind
            rw [if_neg hn, if_neg (by simp [hg]), hs, if_neg (ge x (held_own (Nat.mod_lt pick (by omega)) (show x ∈ ownW (s.ws (pick % m)) by
              have : x ∈ x :: xs := by simp
              rw [← hl] at this
              unfold ownW
              simp [List.mem_of_mem_take this])))]
            simp only
            rw [if_neg hh]
            unfold gRob
            rw [hl]
            simp only [upW_same, upW_up, hs]
    · rw [gPick_ring hn' hg]
      unfold gHave gFind
      rw [if_neg hn, if_pos hg, if_neg (ge _ (held_own hm (show (s.ws h).ring.getLastD 0 ∈ ownW (s.ws h) from List.mem_append.2 (.inl (List.mem_append.2 (.inl (getLastD_mem _ hg)))))))]
      simp only [upW_same, upW_up]
end

end Go.Proofs.Ytocpmncedlenbaa
