/-
  Contract of yardref1.Free.
  Contract of yardgang/yardref2.Ready: who is ready.
  Contracts of yardsame.Ints (of two equal lists) .
  Slices of slices of ints that came in.
  Contracts of depth.WorkOf, Work.
-/
import Derived.Test.YtocpmncedlenbaaP13GangHolds
import Derived.Test.YtocpmncedlenbaaP12GangHolds
import Derived.Test.YtocpmncedlenbaaP15GangHolds
import Derived.Test.YtocpmncedlenbaaP3GangHolds
import Derived.Deep.CutBlock
import Derived.Deep.DeepCutAuto
import Derived.Test.YtocpmncedlenbaaP7GangHolds
import Derived.Deep.Matrix
import Derived.Test.YtocpmncedlenbaaP14GangHolds
import Derived.Test.YtocpmncedlenbaaP29GangHolds
namespace Go.Proofs.Ytocpmncedlenbaa
open Go.RowKit Go.Deep

def freeB (p : PlanL) (D : Nat → Bool) (i : Nat) : Bool := (ndOf p i).all (fun k => D k.toNat)
theorem ready_free (p : PlanL) (D : Nat → Bool) (i : Nat) : readyB p D i = (!D i && freeB p D i) := rfl

set_option maxRecDepth 100000 in
set_option maxHeartbeats 2000000 in
theorem ref_Free (v : Value) (p : PlanL) (i A n : Nat) (D : Nat → Bool) (w : World) (h : InPlan w v p) (hn : NeedsOk p) (hB : Bools w A n D) (hi : i < p.length) (hl : p.length = n) :
    Calls Try.prog 29 #[v, .int .i64 i, .slice (some ⟨A, 0, none⟩) n n] w fun e w' => e = .returned (.bool (freeB p D i)) ∧ w' = w := by
  obtain ⟨a, cap, rfl, hc1, hc2, _⟩ := h.task
  obtain ⟨b, off, rfl⟩ := h.any i hi
  obtain ⟨ua, uc, _, c1, hrd⟩ := h.at i hi
  have h30 := hn.1
  obtain ⟨m, hm⟩ : ∃ m, (ndOf p i).length = m := ⟨_, rfl⟩
  have HM := Lib.hid hm
  have hm30 : m ≤ 30 := by have := hn.2.2 i; rw [hm] at this; exact this
  have hcl : ∀ k, k < m → ∃ g o x, ua = some ⟨g, o, none⟩ ∧ w.cell? ⟨g, o + k, none⟩ = some (.int .i64 ((x : Nat) : Int)) ∧ x < n ∧ nth (ndOf p i) k = x := by
    intro k hk
    have hkl : k < (ndOf p i).length := by rw [HM.out]; exact hk
    obtain ⟨a', c', e, hc⟩ := hrd.opt
    obtain ⟨g, o, rfl, hcc⟩ := hc k hkl
    injection e with e1 _ _
    have hx := hn.2.1 i (nth (ndOf p i) k) (by unfold nth; rw [List.getElem?_eq_getElem hkl]; exact List.getElem_mem hkl)
    obtain ⟨x, hxn⟩ := Int.eq_ofNat_of_zero_le hx.1
    rw [hxn] at hcc hx
    exact ⟨g, o, x, e1, hcc, by omega, hxn⟩
  rw [hl] at hc1 hi ⊢
  rw [hm] at c1
  have HCL := Lib.hid hcl
  have HB := Lib.hid hB
  clear h hn hrd hm hcl hB hl
  go_enter Try.func29, Try.ntmps29
  go_wp2_with fail
  go_loopw [7] (fun vk wr => ∃ k : Nat, k ≤ m ∧ vk = .int .i64 k ∧ ((ndOf p i).take k).all (fun k => D k.toNat) = true ∧ w = wr) (fun vk _ => m - (intOf vk).toNat)
  case atStart => exact ⟨0, Nat.zero_le _, rfl, by simp, rfl⟩
  case round =>
    obtain ⟨k, hk, rfl, hall, rfl⟩ := hrel
    by_cases hlt : k < m
    · obtain ⟨g, o, x, rfl, cx, hxn, hnx⟩ := HCL.out k hlt
      have cb := (HB.out x hxn).1
      have hst : Hid (((ndOf p i).take (k + 1)).all (fun k => D k.toNat) = D x) := by
        show _ = _
        rw [take_succ_nth _ k (by rw [HM.out]; exact hlt), List.all_append, hall, hnx]; simp
      have hfr : Hid (D x = false → freeB p D i = false) := fun hd => by
        unfold freeB
        rw [List.all_eq_false]
        refine ⟨(x : Int), ?_, by simp [hd]⟩
        have hkl : k < (ndOf p i).length := by rw [HM.out]; exact hlt
        rw [← hnx]
        unfold nth; rw [List.getElem?_eq_getElem hkl]; exact List.getElem_mem hkl
      cases hd : D x
      · rw [hd] at cb
        have hF := Lib.hid (hfr.out hd)
        clear hall hd
        go_wp2
        go_ret
        exact ⟨by rw [hF.out]; rfl, rfl⟩
      · rw [hd] at cb
        have hst2 : Hid (((ndOf p i).take (k + 1)).all (fun k => D k.toNat) = true) := by rw [← hd]; exact hst
        clear hall hd
        go_wp2
        go_roundw
        case rel => exact ⟨k + 1, by omega, by go_num, hst2.out, trivial⟩
        case measure => (simp [intOf]; try omega)
    · obtain rfl : k = m := by omega
      rw [List.take_of_length_le (Nat.le_of_eq HM.out)] at hall
      have hF : Hid (freeB p D i = true) := hall
      clear hall
      go_wp2
      go_ret
      exact ⟨by rw [hF.out]; rfl, rfl⟩

end Go.Proofs.Ytocpmncedlenbaa

namespace Go.Proofs.Ytocpmncedlenbaa
open Go.RowKit Go.Deep

theorem ref_Ready_succ (p : PlanL) (D : Nat → Bool) (k : Nat) : (List.range (k + 1)).filter (readyB p D) = if readyB p D k then (List.range k).filter (readyB p D) ++ [k] else (List.range k).filter (readyB p D) := by
  rw [List.range_succ, List.filter_append]
  cases h : readyB p D k <;> simp only [List.filter, h] <;> simp

set_option maxRecDepth 100000 in
set_option maxHeartbeats 4000000 in
theorem ref_Ready (v : Value) (p : PlanL) (A n : Nat) (D : Nat → Bool) (w : World) (h : InPlan w v p) (hn : NeedsOk p) (hB : Bools w A n D) (hl : p.length = n) :
    Calls Try.prog 9 #[v, .slice (some ⟨A, 0, none⟩) n n] w fun e w' => ∃ v', e = .returned v' ∧ Ints w' w.heap.size v' (natL (readyL p D)) ∧ Only [] w w' := by
  have HP := Lib.hid h
  have HN := Lib.hid hn
  have HB := Lib.hid hB
  have HL := Lib.hid hl
  have h30 := hn.1
  obtain ⟨a, cap, rfl, hc1, hc2, _⟩ := h.task
  rw [hl] at hc1 h30 HP ⊢
  clear h hn hB hl hc2
  go_enter Try.func9, Try.ntmps9
  go_wp2_with fail
  go_loopw [5, 6, 7] (fun vo vi _ wr => ∃ k : Nat, k ≤ n ∧ vi = .int .i64 k ∧ Ints wr w.heap.size vo (natL ((List.range k).filter (readyB p D))) ∧ Only [] w wr) (fun _ vi _ _ => n - (intOf vi).toNat)
  case atStart => exact ⟨0, Nat.zero_le _, rfl, Ints.nil _ _, Only.refl _ _⟩
  case round =>
    obtain ⟨wo, rfl⟩ : ∃ wo : World, wo = wr := ⟨_, rfl⟩
    obtain ⟨k, hk, rfl, hI, ho⟩ := hrel
    have hsz := ho.size
    by_cases hkn : k < n
    · have hF := ref_Free _ p k A n D wo (HP.out.same ho) HN.out (HB.out.only ho (by simp)) (by rw [HL.out]; exact hkn) HL.out
      have cb := ((HB.out.only ho (by simp)) k hkn).1
      have HSU := Lib.hid (ref_Ready_succ p D k)
      rw [ready_free] at HSU
      generalize freeB p D k = f at *
      generalize D k = d at *
      obtain ⟨va, vc, rfl, _⟩ := hI.opt
      obtain ⟨q, hq⟩ : ∃ q, (natL ((List.range k).filter (readyB p D))).length = q := ⟨_, rfl⟩
      have hqk : q ≤ k := by rw [← hq, natL_len]; have := List.length_filter_le (readyB p D) (List.range k); simpa using this
      have HQ := Lib.hid hq
      rw [hq] at hI ⊢
      clear hq
      by_cases hr : f = true ∧ d = false
      · obtain ⟨rfl, rfl⟩ := hr
        have hst : Hid ((List.range (k + 1)).filter (readyB p D) = (List.range k).filter (readyB p D) ++ [k]) := by show _ = _; rw [HSU.out]; rfl
        go_wp2_with fail
        refine hF.mono ?_
        rintro e w1 ⟨rfl, hw1⟩
        subst hw1
        clear hF
        go_wp2_with (at_builtin; refine wpList_push rfl (.tmp 26) (.tmp 28) rfl w1 w.heap.size _ _ w1.heap.size k q hI HQ.out (by omega) hsz rfl rfl ((Only.refl [] w1).alloc _) (World.cell?_alloc_at _ _ _ _ rfl) ?_; intro g2 cap3 w3 hI4 hO4 hK4)
        rw [← natL_push, ← hst.out] at hI4
        have ho4 := Lib.hid (ho.pushed hI (Nat.le_refl _) hO4)
        clear hI ho hO4
        go_roundw
        case rel => exact ⟨k + 1, by omega, by go_num, hI4, ho4.out⟩
        case measure => (simp [intOf]; try omega)
      · have hst : Hid ((List.range (k + 1)).filter (readyB p D) = (List.range k).filter (readyB p D)) := by
          show _ = _
          rw [HSU.out, if_neg]
          cases f <;> cases d <;> simp at hr ⊢
        have HI : Hid (Ints wo w.heap.size (.slice va q vc) (natL ((List.range (k + 1)).filter (readyB p D)))) := by rw [hst.out]; exact hI
        clear hI
        cases f
        · cases d
          all_goals
            go_wp2_with fail
            refine hF.mono ?_
            rintro e w1 ⟨rfl, hw1⟩
            subst hw1
            clear hF
            go_wp2
            go_roundw
            case rel => exact ⟨k + 1, by omega, by go_num, HI.out, ho⟩
            case measure => (simp [intOf]; try omega)
        · cases d
          · exact absurd ⟨rfl, rfl⟩ hr
          · go_wp2_with fail
            refine hF.mono ?_
            rintro e w1 ⟨rfl, hw1⟩
            subst hw1
            clear hF
            go_wp2
            go_roundw
            case rel => exact ⟨k + 1, by omega, by go_num, HI.out, ho⟩
            case measure => (simp [intOf]; try omega)
    · obtain rfl : k = n := by omega
      obtain ⟨va, vc, rfl, _⟩ := hI.opt
      go_wp2
      go_ret
      exact ⟨_, rfl, by unfold readyL; rw [HL.out]; exact hI, ho⟩

end Go.Proofs.Ytocpmncedlenbaa

namespace Go.Proofs.Ytocpmncedlenbaa
open Go.RowKit

set_option maxHeartbeats 1000000 in
theorem same_ints (u v : Value) (xs : List Int) (w : World) (hu : Reads w u xs) (hv : Reads w v xs) (hl : xs.length ≤ 1000000) :
    Calls Try.prog 10 #[u, v] w fun e w' => e = .returned (.bool true) ∧ ∃ n, w' = w.drewN n := by
  obtain ⟨a, ca, rfl, ha⟩ := hu.opt
  obtain ⟨b, cb, rfl, hb⟩ := hv.opt
  obtain ⟨n, hn⟩ : ∃ n, xs.length = n := ⟨_, rfl⟩
  rw [hn] at ha hb hl ⊢
  clear hu hv hn
  go_enter Try.func10, Try.ntmps10
  go_wp2_with fail
  go_loopw [5] (fun vi wr => ∃ i : Nat, i ≤ n ∧ vi = .int .i64 i ∧ ∃ m, wr = w.drewN m) (fun vi _ => n - (intOf vi).toNat)
  case atStart => exact ⟨0, Nat.zero_le _, rfl, 0, rfl⟩
  case round =>
    obtain ⟨i, hi, rfl, m, rfl⟩ := hrel
    by_cases hin : i < n
    · obtain ⟨ba, oa, rfl, k0⟩ := ha i hin
      obtain ⟨bb, ob, rfl, k1⟩ := hb i hin
      obtain ⟨z, hz⟩ : ∃ z, nth xs i = z := ⟨_, rfl⟩
      rw [hz] at k0 k1
      clear ha hb hz
      go_wp2_with fail
      go_quiet (fail)
      go_wp2
      go_roundw
      case rel => exact ⟨i + 1, by omega, by go_num, _, rfl⟩
      case measure => (simp [intOf]; try omega)
    · obtain rfl : i = n := by omega
      clear ha hb
      go_wp2
      go_ret
      exact ⟨rfl, _, rfl⟩


end Go.Proofs.Ytocpmncedlenbaa

namespace Go.Proofs.Ytocpmncedlenbaa
open Go.RowKit Go.Deep Go.ChangeShapes Go.WideShapes

def InRows (w : World) (v : Value) (ls : List (List Int)) : Prop :=
  ∃ V : Nat → Value, (∃ a cap, v = .slice a ls.length cap ∧ ls.length ≤ cap ∧ cap ≤ maxLen ∧ ∀ i, i < ls.length → ∃ b off, a = some ⟨b, off, none⟩ ∧ w.cell? ⟨b, off + i, none⟩ = some (V i)) ∧
    ∀ i, i < ls.length → InInts w (V i) (ls[i]?.getD [])

theorem InRows.only {w w' : World} {v : Value} {ls : List (List Int)} (h : InRows w v ls) (ho : Only [] w w') : InRows w' v ls := by
  obtain ⟨V, ⟨a, cap, rfl, h1, h2, h3⟩, h4⟩ := h
  refine ⟨V, ⟨a, cap, rfl, h1, h2, fun i hi => ?_⟩, fun i hi => (h4 i hi).only ho⟩
  obtain ⟨b, off, rfl, hc⟩ := h3 i hi
  exact ⟨b, off, rfl, (ho.cell (p := ⟨b, _, none⟩) (cell_lt hc) (by simp)).trans hc⟩

set_option maxRecDepth 100000 in
theorem open_rows {H : Type} {enc : TypeId × Value → H} {W : World} {base : Nat} {v : Value} {d : DataW H} {p : List MemPlace}
    (hv : Value.okWide Try.prog W .any base 39 v) (h : DataW.Trod enc Try.prog W 0 (fun _ => true) true 39 v d p) : ∃ l, InRows W v l := by
  obtain ⟨s, len, cap, rfl⟩ := okWide_slice Try.underlying39 hv
  obtain ⟨fuel, hf⟩ := h
  rcases open_int_rows Try.underlying39 Try.underlying22 Try.underlying3 (by kernel_rfl) (by kernel_rfl) hf with ⟨hcs, _⟩ | ⟨a, len', cap', A, L, C, Z, hcs, _, hl, hm, _, hr⟩
  · simp [Value.cells] at hcs
    obtain ⟨rfl, rfl, rfl⟩ := hcs
    exact ⟨[], fun _ => .nilIface, ⟨none, 0, rfl, Nat.le_refl _, Nat.zero_le _, fun i hi => by simp at hi⟩, fun i hi => by simp at hi⟩
  · simp [Value.cells] at hcs
    obtain ⟨rfl, rfl, rfl⟩ := hcs
    refine ⟨(List.range len).map (fun r => (Z r).take (L r)), fun r => .slice (A r) (L r) (C r), ⟨some a, cap, by simp, by simpa using hl, hm, fun i hi => ?_⟩, fun i hi => ?_⟩
    · simp at hi
      obtain ⟨k0, _⟩ := hr 0 (by omega)
      have hs := spot_none (x := a) k0
      obtain ⟨b, off, spot⟩ := a
      obtain rfl : spot = none := hs
      have := (hr i (by omega)).1
      rw [add_flat] at this
      exact ⟨b, off, rfl, this⟩
    · simp at hi
      obtain ⟨_, k1, k2, k3, k4, k5, k6⟩ := hr i (by omega)
      rw [show ((List.range len).map (fun r => (Z r).take (L r)))[i]?.getD [] = (Z i).take (L i) by simp [hi]]
      apply inInts_of_row
      cases hA : A i with
      | none =>
        have h0 := k5 hA
        exact .inl ⟨rfl, by omega, h0, List.eq_nil_of_length_eq_zero (by omega)⟩
      | some x => exact .inr ⟨x, rfl, k1, k2, k3, fun c hc => (k6 x hA).2 c (by omega), k4⟩

end Go.Proofs.Ytocpmncedlenbaa

namespace Go.Proofs.Ytocpmncedlenbaa
open Go.RowKit Go.Deep

set_option maxRecDepth 100000 in
theorem depth_WorkOf (v : Value) (p : PlanL) (w : World) (h : InPlan w v p) (hok : PlanOk p) :
    Calls Try.prog 34 #[v] w fun e w' => e = .returned (.int .i64 (workF p)) ∧ Only [] w w' := by
  have HP := Lib.hid h
  have HO := Lib.hid hok
  obtain ⟨a, cap, rfl, hc1, hc2, _⟩ := h.task
  obtain ⟨n, hn⟩ : ∃ n, p.length = n := ⟨_, rfl⟩
  have HL := Lib.hid hn
  unfold workF
  rw [hn] at hc1 HP ⊢
  have h30 : n ≤ 30 := by rw [← hn]; exact hok.len
  clear h hn hok
  go_enter Try.func34, Try.ntmps34
  go_wp2
  go_loopw [3, 8] (fun vn vi wr => ∃ k : Nat, k ≤ n ∧ vi = .int .i64 k ∧ vn = .int .i64 (sumI (wkOf p) k) ∧ Only [] w wr) (fun _ vi _ => n - (intOf vi).toNat)
  case atStart => exact ⟨0, Nat.zero_le _, rfl, rfl, Only.refl _ _⟩
  case round =>
    obtain ⟨k, hk, rfl, rfl, ho⟩ := hrel
    by_cases hkn : k < n
    · obtain ⟨b, off, rfl⟩ := HP.out.any k (by rw [HL.out]; exact hkn)
      obtain ⟨ua, uc, c0, c1, _⟩ := (HP.out.same ho).at k (by rw [HL.out]; exact hkn)
      have hw := HO.out.work k (by rw [HL.out]; exact hkn)
      have hs := workK_bd HO.out k (by rw [HL.out]; exact hk)
      have hst : Hid (sumI (wkOf p) (k + 1) = sumI (wkOf p) k + wkOf p k) := rfl
      generalize sumI (wkOf p) k = s at *
      generalize wkOf p k = x at *
      generalize (ndOf p k).length = m at *
      have ho3 := ho.alloc (.cells #[.int .i64 x, .slice ua m uc] 24)
      go_wp2
      go_roundw
      case rel => exact ⟨k + 1, by omega, by go_num, by rw [hst.out], ho3⟩
      case measure => (simp [intOf]; try omega)
    · obtain rfl : k = n := by omega
      go_wp2
      go_ret
      exact ⟨rfl, ho⟩

theorem depth_Work (v : Value) (p : PlanL) (w : World) (h : InPlan w v p) (hok : PlanOk p) :
    Calls Try.prog 12 #[v] w fun e w' => e = .returned (.tuple #[.int .i64 (workF p), .nilIface]) ∧ Only [] w w' := by
  have hr := plan_Right v p w h
  rw [(planOk_iff p).1 hok, errV_zero] at hr
  have hg := fun w' (ho : Only [] w w') => depth_WorkOf v p w' (h.same ho) hok
  generalize workF p = x at *
  have HG := Lib.hid hg
  clear h hok hg
  go_enter Try.func12, Try.ntmps12
  go_wp2_with fail
  refine hr.mono ?_
  rintro e w1 ⟨rfl, ho⟩
  clear hr
  go_wp2_with fail
  refine (HG.out w1 ho).mono ?_
  rintro e w2 ⟨rfl, ho2⟩
  have hoo := ho.trans ho2 (by simp)
  go_wp2
  go_ret2
  exact ⟨rfl, hoo⟩

end Go.Proofs.Ytocpmncedlenbaa
