/-
  Contract of (*picks.Picks).Shuffle.
-/
import Derived.Test.YtmjicogmgkeilaaDoorPicks
import Derived.RegionTactic
import Derived.BigRegion
namespace Go.Proofs.YtmjicogmgkeilaaDoor
open Go.RowKit

theorem Picks.shuffle_no (b : Nat) (n : Int) (w : World) (h : n < 0 ∨ 30 < n) :
    Calls Tryd.prog 36 #[.pointer (some ⟨b, 0, none⟩), .int .i64 n] w fun e w' => e = .returned (.tuple #[.slice none 0 0, .iface 95 (.int .i64 1)]) ∧ w = w' := by
  rcases h with h | h
  · go_enter Tryd.func36, Tryd.ntmps36
    go_wp2
    go_ret2
    exact ⟨rfl, rfl⟩
  · have h1 : 0 ≤ n := by omega
    go_enter Tryd.func36, Tryd.ntmps36
    go_wp2
    go_ret2
    exact ⟨rfl, rfl⟩

set_option maxHeartbeats 4000000 in
theorem Picks.shuffle (fp : List Nat) (b : Nat) (l : List Int) (used : Nat) (n : Nat) (w : World) (h : PicksIs w fp b l used) (hn : n ≤ 30) :
    Calls Tryd.prog 36 #[.pointer (some ⟨b, 0, none⟩), .int .i64 n] w fun e w' => ∃ v, e = .returned (.tuple #[v, .nilIface]) ∧ Ints w' w.heap.size v (shuf l used n).1 ∧ PicksIs w' fp b l (shuf l used n).2 ∧ Only [b] w w' := by
  have hbl := h.lt.2 b h.lt.1
  have Hlt := Lib.hid h.lt.2
  go_enter Tryd.func36, Tryd.ntmps36
  go_wp2_with fail
  go_loopw [6, 18] (fun vo vi wr => ∃ i : Nat, i ≤ n ∧ vi = .int .i64 i ∧ Ints wr w.heap.size vo (numsTo i) ∧ Only [] w wr) (fun _ vi _ => n - (intOf vi).toNat)
  case atStart => exact ⟨0, Nat.zero_le _, rfl, Ints.nil _ _, Only.refl _ _⟩
  case round =>
    obtain ⟨i, hi, rfl, hI, ho⟩ := hrel
    have hsz := ho.size
    obtain ⟨oa, oc, rfl, _⟩ := hI.opt
    have hl := Lib.hid (numsTo_len i)
    rw [hl.out] at hI ⊢
    by_cases hin : i < n
    · have hp := Lib.hid (numsTo_push i)
      go_wp2_with (at_builtin; refine wpList_push rfl (.tmp 21) (.tmp 23) rfl wr w.heap.size _ _ _ i i hI hl.out (by omega) hsz rfl rfl ((Only.refl [] wr).alloc _) (World.cell?_alloc_at _ _ _ _ rfl) ?_; intro g cap w3 hI3 hO3 hK3)
      rw [hp.out] at hI3
      have ho3 := Lib.hid (ho.pushed hI (Nat.le_refl _) hO3)
      go_roundw
      case rel => exact ⟨i + 1, by omega, by go_num, hI3, ho3.out⟩
      case measure => (simp [intOf]; try omega)
    · obtain rfl : i = n := by omega
      have hP := h.only ho (by simp)
      clear h
      by_cases hi0 : i = 0
      · subst hi0
        go_wp2_with fail
        go_loop [8] (fun vi => vi = .int .i64 (-1)) (fun _ => 0)
        case atStart => rfl
        case round =>
          obtain rfl := hrel
          go_wp2
          go_ret2
          exact ⟨_, rfl, hI, hP, ho.mono (by simp)⟩
      · obtain ⟨g, cap9, hge, hgb, hgl⟩ := hI.sized i hl.out (by omega)
        injection hge with hge1 hge2 hge3
        subst hge1
        subst hge3
        have hall := hP.all
        have HALL := Lib.hid hall
        have hst : (i : Int) - 1 = ((i - 1 : Nat) : Int) := by omega
        obtain ⟨top, htop⟩ : ∃ top, i - 1 = top := ⟨_, rfl⟩
        have hti1 : i ≤ top + 1 := by omega
        have hti2 : top + 1 ≤ i := by omega
        have hshuf : Hid (shuf l used i = shufTo l top (numsTo i, used)) := by show _ = _; unfold shuf; rw [htop]
        rw [htop] at hst
        clear hall htop
        go_wp2_with fail
        go_loopw [8] (fun vj wz => ∃ (j : Nat) (xs : List Int) (u : Nat), j ≤ top ∧ vj = .int .i64 j ∧ shufTo l j (xs, u) = shufTo l top (numsTo i, used) ∧ Each i xs ∧ Ints wz w.heap.size (.slice (some ⟨g, 0, none⟩) i oc) xs ∧ PicksIs wz fp b l u ∧ Only [b] w wz) (fun vj _ => (intOf vj).toNat)
        case atStart => exact ⟨top, _, used, Nat.le_refl _, rfl, rfl, numsTo_each i, hI, hP, ho.mono (by simp)⟩
        case round =>
          obtain ⟨j, xs, u, hj, rfl, hsh, hE, hI2, hP2, ho2⟩ := hrel
          clear hI hP ho
          have HSH := Lib.hid hsh
          have HE := Lib.hid hE
          clear hsh hE
          rcases j with _ | j
          · have hfin : Hid (shuf l used i = (xs, u)) := by show _ = _; rw [hshuf.out, ← HSH.out]; rfl
            go_wp2
            go_ret2
            refine ⟨_, rfl, ?_⟩
            rw [hfin.out]
            exact ⟨hI2, hP2, ho2⟩
          · have hjc : (((j + 1 : Nat) : Int)) = (j : Int) + 1 := by omega
            have hpk := pickOf_range l u ((j : Int) + 2) HALL.out (by omega)
            have hnx := Picks.next fp b l u ((j : Int) + 2) wr hP2 (by omega) (by omega)
            have HK : Hid (shufTo l j (swapAt xs (j + 1) (pickOf l u ((j : Int) + 2)).toNat, pickUp l u) = shufTo l top (numsTo i, used)) := by
              show _ = _; rw [← HSH.out]; rfl
            obtain ⟨k, hk⟩ := Int.eq_ofNat_of_zero_le hpk.1
            rw [hk] at hpk hnx HK
            rw [show (j : Int) + 2 = (j : Int) + 1 + 1 by omega] at hnx
            rw [Int.toNat_natCast] at HK
            rw [hjc]
            clear hk HSH hP2
            go_wp2_with fail
            refine hnx.mono ?_
            rintro e wn ⟨rfl, hP3, hoN⟩
            clear hnx
            have hxl : xs.length = i := HE.out.1
            have hki : k < i := by omega
            have hji : j + 1 < i := by omega
            have hI3 := hI2.only hoN (fun g9 h9 hx => by simp [Value.ownBlock] at h9 hx; omega)
            have ho3 := ho2.trans hoN (by simp)
            have ci := hI3.cell (j + 1) (by omega)
            have ck := hI3.cell k (by omega)
            have fi := hI3.free (j + 1)
            have fk := hI3.free k
            have HI3 := Lib.hid hI3
            have HO3 := Lib.hid ho3
            have HP3 := Lib.hid hP3
            obtain ⟨a, ha⟩ : ∃ a, nth xs (j + 1) = a := ⟨_, rfl⟩
            obtain ⟨c, hc⟩ : ∃ c, nth xs k = c := ⟨_, rfl⟩
            rw [ha] at ci
            rw [hc] at ck
            have HA := Lib.hid ha
            have HC := Lib.hid hc
            clear hI2 ho2 hoN hI3 ho3 hP3 ha hc hxl
            have hIf : Hid (Ints (((wn.setCell ⟨g, j + 1, none⟩ (.int .i64 c)).setCell ⟨g, k, none⟩ (.int .i64 a)).drew) w.heap.size (.slice (some ⟨g, 0, none⟩) i oc) (swapAt xs (j + 1) k)) := by
              have := (HI3.out.set (j + 1) c).set k a
              unfold swapAt
              rw [HA.out, HC.out]
              exact this
            have hOf : Hid (Only [b] w (((wn.setCell ⟨g, j + 1, none⟩ (.int .i64 c)).setCell ⟨g, k, none⟩ (.int .i64 a)).drew)) :=
              ((HO3.out.setCell (fun h => by simp at h; omega) _).setCell (fun h => by simp at h; omega) _).drew
            have hPf : Hid (PicksIs (((wn.setCell ⟨g, j + 1, none⟩ (.int .i64 c)).setCell ⟨g, k, none⟩ (.int .i64 a)).drew) fp b l (pickUp l u)) :=
              HP3.out.only (S := [g]) ((((Only.refl [g] wn).setCell (by simp) _).setCell (by simp) _).drew) (fun x hx hx2 => by simp at hx2; have := Hlt.out x hx; omega)
            by_cases hjk : j + 1 = k
            · subst hjk
              obtain rfl : a = c := HA.out.symm.trans HC.out
              go_wp2_with fail
              go_region
              go_wp2
              go_roundw
              case rel => exact ⟨j, _, _, by omega, by go_num, HK.out, HE.out.swap _ _ (by omega) (by omega), hIf.out, hPf.out, hOf.out⟩
              case measure => (simp [intOf]; try omega)
            · have hko : k ≠ j + 1 := fun e => hjk e.symm
              have hne : (⟨g, k, none⟩ : Addr) ≠ ⟨g, j + 1, none⟩ := fun e => hko (congrArg Addr.off e)
              go_wp2_with fail
              go_region
              go_wp2
              go_roundw
              case rel => exact ⟨j, _, _, by omega, by go_num, HK.out, HE.out.swap _ _ (by omega) (by omega), hIf.out, hPf.out, hOf.out⟩
              case measure => (simp [intOf]; try omega)

end Go.Proofs.YtmjicogmgkeilaaDoor
