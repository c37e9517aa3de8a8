/-
  Contract of yardref1.Cut.
-/
import Derived.Test.YtoofalchkedciaaGreatDoorP28PlanTells
namespace Go.Proofs.YtoofalchkedciaaGreatDoor
open Go.RowKit Go.Deep

theorem ba_ext (s : ByteArray) (i j : Nat) (hij : i ≤ j) (hj : j ≤ s.size) : (s.extract i j).data.toList = (s.data.toList.drop i).take (j - i) := by
  rw [ByteArray.data_extract]
  simp

set_option maxRecDepth 100000 in
theorem ref_Cut (s : ByteArray) (c : UInt8) (w : World) (hs : s.size ≤ 2000000) :
    Calls Tryz.prog 33 #[.string s, .int .u8 c.toNat] w fun e w' => ∃ v, e = .returned v ∧ OwnStrs w' w.heap.size v (cutS c s) ∧ Only [] w w' := by
  obtain ⟨n, hn⟩ : ∃ n, s.size = n := ⟨_, rfl⟩
  have hbl : s.data.toList.length = n := by rw [← hn]; exact Array.length_toList
  have HN := Lib.hid hn
  have HBL := Lib.hid hbl
  rw [hn] at hs
  go_enter Tryz.func33, Tryz.ntmps33
  go_wp2_with fail
  go_loopw [5, 6, 7] (fun vo vf vi wr => ∃ (from' i : Nat) (out : List (List UInt8)), from' ≤ i ∧ i ≤ n ∧ vf = .int .i64 (from' : Int) ∧ vi = .int .i64 (i : Int) ∧ OwnStrs wr w.heap.size vo (out.map fun p => ⟨p.toArray⟩) ∧
    out ++ cutL c (s.data.toList.drop from') = cutL c s.data.toList ∧ c ∉ (s.data.toList.drop from').take (i - from') ∧ out.length ≤ i ∧ Only [] w wr) (fun _ _ vi _ => n - (intOf vi).toNat)
  case atStart => exact ⟨0, 0, [], by omega, by omega, rfl, rfl, OwnStrs.nil _ _, rfl, by simp, by simp, Only.refl _ _⟩
  case round =>
    obtain ⟨wo, rfl⟩ : ∃ wo : World, wo = wr := ⟨_, rfl⟩
    obtain ⟨fr, i, out, hfi, hin, rfl, rfl, hO, hcut, hno, hol, ho⟩ := hrel
    obtain ⟨oa, oc, rfl, _, _, _⟩ := Row.form hO
    obtain ⟨m, hm⟩ : ∃ m, (out.map fun p => (⟨p.toArray⟩ : ByteArray)).length = m := ⟨_, rfl⟩
    have hml : m = out.length := by rw [← hm, List.length_map]
    have HO : Hid (wo.ownsRow w.heap.size 9 1 (.slice oa m oc) m ((out.map fun p => (⟨p.toArray⟩ : ByteArray)).map .string)) := by
      have h := hO
      unfold OwnStrs at h
      rw [hm] at h
      exact h
    rw [hm]
    have HM := Lib.hid hml
    have HCUT := Lib.hid hcut
    have HW := Lib.hid ho
    have hsz := ho.size
    have hm6 : m ≤ 2000000 := by omega
    clear hO hcut ho hm hml
    by_cases hlt : i < n
    · have his : i < s.size := by rw [HN.out]; exact hlt
      have hgl : s.data.toList[i]? = some s[i] := by rw [Array.getElem?_toList]; exact Array.getElem?_eq_getElem his
      have htk : (s.data.toList.drop fr).take (i + 1 - fr) = (s.data.toList.drop fr).take (i - fr) ++ [s[i]] := by
        rw [show i + 1 - fr = (i - fr) + 1 by omega, List.take_add_one, List.getElem?_drop, show fr + (i - fr) = i by omega, hgl]
        rfl
      have hdr : s.data.toList.drop fr = (s.data.toList.drop fr).take (i - fr) ++ s[i] :: s.data.toList.drop (i + 1) := by
        have h1 := (List.take_append_drop (i - fr) (s.data.toList.drop fr)).symm
        rw [List.drop_drop, show fr + (i - fr) = i by omega] at h1
        have h2 : s.data.toList.drop i = s[i] :: s.data.toList.drop (i + 1) := by
          have h3 : i < s.data.toList.length := by rw [HBL.out]; exact hlt
          rw [List.drop_eq_getElem_cons h3]
          rw [List.getElem?_eq_getElem h3] at hgl
          rw [Option.some.inj hgl]
        rw [h2] at h1
        exact h1
      have HTK := Lib.hid htk
      have HDR := Lib.hid hdr
      have HNO := Lib.hid hno
      clear htk hgl hno hdr hsz
      by_cases hc : s[i] = c
      · have hbq : ((s[i].toNat : Int) == (c.toNat : Int)) = true := by rw [hc]; simp
        have HC := Lib.hid hc
        clear hc
        go_wp2_with (at_builtin; go_loud (refine wpList_row1 sliceOf_strs rfl (.tmp 19) (.tmp 24) rfl wo w.heap.size _ m _ wo.heap.size (.string (s.extract fr i)) HO.out (by omega) HW.out.size rfl rfl ((Only.refl [] wo).alloc _) (World.cell?_alloc_at _ _ _ _ rfl) rfl ?_; intro g5 cap5 w5 hI5 hO5 hg5))
        have hI6 : OwnStrs w5 w.heap.size (.slice (some ⟨g5, 0, none⟩) (m + 1) cap5) ((out ++ [(s.data.toList.drop fr).take (i - fr)]).map fun p => (⟨p.toArray⟩ : ByteArray)) := by
          unfold OwnStrs
          have e : (⟨((s.data.toList.drop fr).take (i - fr)).toArray⟩ : ByteArray) = s.extract fr i := by
            apply ByteArray.ext
            rw [← ba_ext s fr i hfi (by omega)]
          simp only [List.map_append, List.map_cons, List.map_nil, e, List.length_append, List.length_map, List.length_singleton]
          rw [HM.out] at hI5 ⊢
          simpa using hI5
        have hcut6 : (out ++ [(s.data.toList.drop fr).take (i - fr)]) ++ cutL c (s.data.toList.drop (i + 1)) = cutL c s.data.toList := by
          have h1 := HCUT.out
          have h2 := HDR.out
          rw [HC.out] at h2
          have h3 := cutL_at c ((s.data.toList.drop fr).take (i - fr)) (s.data.toList.drop (i + 1)) HNO.out
          rw [← h2] at h3
          rw [← h1, h3, List.append_assoc]
          rfl
        have HF := Lib.hid (And.intro hI6 (And.intro hcut6 (HW.out.trans hO5 (fun x hx hl => by have := Row.far HO.out x hx; omega))))
        clear hI5 hO5 hg5 hI6 hcut6
        go_wp2
        go_roundw
        case rel => exact ⟨i + 1, i + 1, out ++ [(s.data.toList.drop fr).take (i - fr)], by omega, by omega, by go_num, by go_num, HF.out.1, HF.out.2.1, by simp, by rw [List.length_append, List.length_singleton]; omega, HF.out.2.2⟩
        case measure => (simp [intOf]; try omega)
      · have hbq : ((s[i].toNat : Int) == (c.toNat : Int)) = false := by
          simp only [beq_eq_false_iff_ne, ne_eq]
          intro h
          exact hc (UInt8.toNat_inj.1 (by omega))
        have hno' := Lib.hid (show c ∉ (s.data.toList.drop fr).take (i + 1 - fr) by
          rw [HTK.out]
          simp only [List.mem_append, List.mem_singleton, not_or]
          exact ⟨HNO.out, fun h => hc h.symm⟩)
        clear hc
        go_wp2
        go_roundw
        case rel => exact ⟨fr, i + 1, out, by omega, by omega, rfl, by go_num, by have h := HO.out; unfold OwnStrs; rw [List.length_map, ← HM.out]; exact h, HCUT.out, hno'.out, by omega, HW.out⟩
        case measure => (simp [intOf]; try omega)
    · obtain rfl : i = n := by omega
      have hlast : cutL c (s.data.toList.drop fr) = [s.data.toList.drop fr] := by
        rw [List.take_of_length_le (by rw [List.length_drop, HBL.out]; omega)] at hno
        exact cutL_no _ _ hno
      have HL := Lib.hid hlast
      clear hlast hno hsz
      go_wp2_with (at_builtin; go_loud (refine wpList_row1 sliceOf_strs rfl (.tmp 28) (.tmp 32) rfl wo w.heap.size _ m _ wo.heap.size (.string (s.extract fr i)) HO.out (by omega) HW.out.size rfl rfl ((Only.refl [] wo).alloc _) (World.cell?_alloc_at _ _ _ _ rfl) rfl ?_; intro g5 cap5 w5 hI5 hO5 hg5))
      go_ret
      refine ⟨_, rfl, ?_, HW.out.trans hO5 (fun x hx hl => by have := Row.far HO.out x hx; omega)⟩
      unfold OwnStrs cutS
      have e : (⟨(s.data.toList.drop fr).toArray⟩ : ByteArray) = s.extract fr i := by
        apply ByteArray.ext
        have h1 := ba_ext s fr i hfi (by omega)
        rw [List.take_of_length_le (by rw [List.length_drop, HBL.out]; omega)] at h1
        rw [← h1]
      have h1 := HCUT.out
      rw [HL.out] at h1
      rw [← h1]
      simp only [List.map_append, List.map_cons, List.map_nil, e, List.length_append, List.length_map, List.length_singleton]
      rw [HM.out] at hI5 ⊢
      simpa using hI5

end Go.Proofs.YtoofalchkedciaaGreatDoor
