/-
  Contract of trace.Print.
-/
import Derived.Test.YtoofalchkedciaaDoorP24TraceBack
import Derived.Test.YtoofalchkedciaaDoorP41TraceBack
namespace Go.Proofs.YtoofalchkedciaaDoor
open Go.RowKit Go.Deep

/-- The j-th field that stands in a deed's line: its place, its number. -/
theorem dd_place {d : Dd} (h : ddFault d = 0) (j : Nat) (hj : j < (ddPlaces d.what).length) :
    ∃ pl q : Nat, q < 30 ∧ (ddPlaces d.what)[j]? = some pl ∧ (ddCells d)[pl]? = some (.int .i64 (q : Int)) ∧ (ddNums d).take (j + 1) = (ddNums d).take j ++ [q] := by
  have hr := dd_right h
  have hp : (ddPlaces d.what)[j] ∈ ddPlaces d.what := List.getElem_mem _
  have hn : (ddNums d).length = (ddPlaces d.what).length := by simp [ddNums]
  have hq : (ddNums d)[j]'(by omega) = ddField d (ddPlaces d.what)[j] := by simp [ddNums]
  have hlt := ddNums_lt h _ (List.getElem_mem (show j < (ddNums d).length by omega))
  refine ⟨(ddPlaces d.what)[j], (ddNums d)[j]'(by omega), hlt, List.getElem?_eq_getElem _, ?_, List.take_succ_eq_append_getElem _⟩
  rw [hq]
  have h3 : (ddPlaces d.what)[j] = 1 ∨ (ddPlaces d.what)[j] = 2 ∨ ((ddPlaces d.what)[j] = 3 ∧ d.what = 2) := by
    revert hp
    generalize (ddPlaces d.what)[j] = x
    unfold ddPlaces
    intro hp
    split at hp
    · simp at hp; exact .inl hp
    · split at hp
      · rename_i h2
        simp at hp
        rcases hp with hp | hp | hp
        · exact .inl hp
        · exact .inr (.inl hp)
        · exact .inr (.inr ⟨hp, h2⟩)
      · simp at hp
        rcases hp with hp | hp
        · exact .inl hp
        · exact .inr (.inl hp)
  rcases h3 with h3 | h3 | ⟨h3, h2⟩
  · rw [h3]; show some (Value.int .i64 d.hand) = _; unfold ddField; rw [if_pos rfl, Int.toNat_of_nonneg (by omega)]
  · rw [h3]; show some (Value.int .i64 d.task) = _; unfold ddField; rw [if_neg (by omega), if_pos rfl, Int.toNat_of_nonneg (by omega)]
  · rw [h3]; show some (Value.int .i64 d.other) = _; unfold ddField; rw [if_neg (by omega), if_neg (by omega), Int.toNat_of_nonneg (by omega)]

set_option maxRecDepth 100000 in
theorem trace_Print_no (v : Value) (l : List Dd) (w : World) (hv : DeedsAt w v l) (hl : l.length ≤ 9223372036854775807) (hf : ddsFault l ≠ 0) :
    Calls Tryd.prog 13 #[v] w fun e w' => e = .returned (.tuple #[.string ⟨#[]⟩, errV (ddsFault l)]) ∧ Only [] w w' := by
  have hw := trace_whole v l w hv hl
  rw [errV_ne hf] at hw ⊢
  generalize ddsFault l = f at *
  clear hv
  go_enter Tryd.func13, Tryd.ntmps13
  go_wp2_with fail
  refine hw.mono ?_
  rintro e w1 ⟨rfl, ho⟩
  clear hw
  go_wp2
  go_ret2
  exact ⟨rfl, ho⟩

set_option maxRecDepth 100000 in
set_option maxHeartbeats 4000000 in
theorem trace_Print (v : Value) (l : List Dd) (w : World) (hv : DeedsAt w v l) (hwd : WordsIn w) (hf : ddsFault l = 0) :
    Calls Tryd.prog 13 #[v] w fun e w' => e = .returned (.tuple #[.string ⟨(ddsText l).toArray⟩, .nilIface]) ∧ Only [] w w' := by
  have hl : l.length ≤ 1000 := by
    unfold ddsFault at hf
    split at hf
    · simp at hf
    · omega
  have hall : ∀ d ∈ l, ddFault d = 0 := by
    unfold ddsFault at hf
    rw [if_neg (by omega)] at hf
    exact (firstDd_zero l).1 hf
  have hw := trace_whole v l w hv (by omega)
  rw [hf, errV_zero] at hw
  have HV := Lib.hid hv
  have HALL := Lib.hid hall
  have HWD := Lib.hid hwd
  obtain ⟨a, cap, rfl, hc⟩ := hv.opt
  obtain ⟨n, hn⟩ : ∃ n, l.length = n := ⟨_, rfl⟩
  have HN := Lib.hid hn
  have HC := Lib.hid hc
  rw [hn] at HC hl hw HV ⊢
  clear hc hv hn hall hwd hf
  go_enter Tryd.func13, Tryd.ntmps13
  go_wp2_with fail
  refine hw.mono ?_
  rintro e w1 ⟨rfl, ho1⟩
  clear hw
  obtain ⟨B, hB⟩ : ∃ B, w1.heap.size = B := ⟨_, rfl⟩
  have hBw : w.heap.size ≤ B := by have := ho1.size; omega
  have hb0 := Lib.hid (build_new w1)
  rw [hB] at hb0
  have ho2 := Lib.hid (ho1.alloc (.cells #[.pointer none, .slice none 0 0] 76))
  go_wp2_with fail
  clear hB
  go_loopw [17] (fun vi wr => ∃ i : Nat, i ≤ n ∧ vi = .int .i64 i ∧ BuildAt wr B B (ddsText (l.take i)) ∧ Only [] w wr) (fun vi _ => n - (intOf vi).toNat)
  case atStart => exact ⟨0, Nat.zero_le _, rfl, hb0.out, ho2.out⟩
  case round =>
    obtain ⟨wo, rfl⟩ : ∃ wo : World, wo = wr := ⟨_, rfl⟩
    obtain ⟨i, hi, rfl, hbd, ho⟩ := hrel
    by_cases him : i < n
    · obtain ⟨b, off, rfl, k0, k1, k2, k3⟩ := HC.out i him
      have c0 := (ho.cell (p := ⟨b, _, none⟩) (cell_lt k0) (by simp)).trans k0
      have c1 := (ho.cell (p := ⟨b, _, none⟩) (cell_lt k1) (by simp)).trans k1
      have c2 := (ho.cell (p := ⟨b, _, none⟩) (cell_lt k2) (by simp)).trans k2
      have c3 := (ho.cell (p := ⟨b, _, none⟩) (cell_lt k3) (by simp)).trans k3
      have htk := Lib.hid (take_dd l i (by rw [HN.out]; exact him))
      have hfd := HALL.out _ (ddAt_mem (bs := l) (k := i) (by rw [HN.out]; exact him))
      have htl := ddsText_len (l.take i) (fun d hd => HALL.out d (List.mem_of_mem_take hd))
      have hli : (l.take i).length ≤ 1000 := by rw [List.length_take]; omega
      clear k0 k1 k2 k3
      generalize ddAt l i = d at *
      generalize l.take i = li at *
      have HPL := Lib.hid (fun j hj => dd_place hfd j hj)
      have hr := dd_right hfd
      have hw0 : 0 ≤ d.what := by omega
      have hw7 : d.what < 7 := by omega
      have HFD := Lib.hid hfd
      have hwl := Lib.hid (wordB_len d.what.toNat)
      obtain ⟨T0, hT0⟩ : ∃ T0, ddsText li = T0 := ⟨_, rfl⟩
      rw [hT0] at hbd htl
      have htz : T0.length ≤ 18000 := by omega
      have HT0 := Lib.hid hT0
      have HO := Lib.hid ho
      have HBD := Lib.hid hbd
      have hDB := Lib.hid (show wo.heap.size ≠ B by have := hbd.obj; omega)
      clear hr hfd hT0 ho hbd htl hli
      have hob := Lib.hid (heap_alloc_new wo (.cells #[.int .i64 d.what, .int .i64 d.hand, .int .i64 d.task, .int .i64 d.other] 46))
      have hoa := Lib.hid (HO.out.alloc (.cells #[.int .i64 d.what, .int .i64 d.hand, .int .i64 d.task, .int .i64 d.other] 46))
      have hba := Lib.hid (HBD.out.alloc (.cells #[.int .i64 d.what, .int .i64 d.hand, .int .i64 d.task, .int .i64 d.other] 46))
      obtain ⟨sw, hsw, hswl⟩ := (HWD.out.only hoa.out) d.what.toNat (by omega)
      have hswz : sw.size ≤ 8 := by
        have e : sw.data.toList.length = sw.size := Array.length_toList
        rw [← e, hswl]; exact hwl.out
      have hw1 := build_write B B T0 sw _ hba.out (by omega)
      rw [hswl] at hw1
      go_wp2_with fail
      refine hw1.mono ?_
      rintro e w2 ⟨rfl, hb2, ha2⟩
      have hob2 := Lib.hid (ha2.obj hob.out hDB.out (by decide))
      have hoa2 := Lib.hid (hoa.out.around ha2 hBw)
      have HB2 := Lib.hid hb2
      have hf := trace_fields wo.heap.size d.what w2 (obj_cell hob2.out 0 _ rfl)
      clear hw1 hb2 ha2 hob hoa hba hsw hswl hswz c0 c1 c2 c3
      go_wp2_with fail
      refine hf.mono ?_
      rintro e w3 ⟨F, kk, rfl, hkk, hF, hFl, ho3⟩
      have hkk3 : kk ≤ 3 := by rw [hkk]; exact ddPlaces_len _
      have HKK := Lib.hid hkk
      have hFB := Lib.hid (show F ≠ B by have := HB2.out.obj; omega)
      have hF0 := Lib.hid hF
      have hb3 := Lib.hid (HB2.out.same ho3)
      have hoa3 := Lib.hid (hoa2.out.trans ho3 (by simp))
      have hob3 := Lib.hid (obj_only hob2.out ho3)
      clear hf hkk hF hFl HB2 hoa2 hob2 ho3
      go_wp2_with fail
      go_loopw [28] (fun vj wr => ∃ j : Nat, j ≤ kk ∧ vj = .int .i64 (j : Int) ∧ BuildAt wr B B ((T0 ++ wordB d.what.toNat) ++ ((ddNums d).take j).flatMap numB) ∧
        wr.heap[wo.heap.size]? = some (.cells #[.int .i64 d.what, .int .i64 d.hand, .int .i64 d.task, .int .i64 d.other] 46 (0, 0)) ∧ wr.heap[F]? = some (.cells ((ddPlaces d.what).map fun j => .pointer (some ⟨wo.heap.size, j, none⟩)).toArray 82 (0, 0)) ∧ Only [] w wr) (fun vj _ => kk - (intOf vj).toNat)
      case atStart => exact ⟨0, Nat.zero_le _, rfl, by simpa using hb3.out, hob3.out, hF0.out, hoa3.out⟩
      case round =>
        clear hb3 hoa3 hob3 hF0
        obtain ⟨wq, rfl⟩ : ∃ wq : World, wq = wr := ⟨_, rfl⟩
        obtain ⟨j, hj, rfl, hb, hD, hF, ho⟩ := hrel
        by_cases hjk : j < kk
        · obtain ⟨pl, q, hq, hpl, hcl, htq⟩ := HPL.out j (by rw [← HKK.out]; exact hjk)
          have cF : wq.cell? ⟨F, j, none⟩ = some (.pointer (some ⟨wo.heap.size, pl, none⟩)) := obj_cell hF j _ (by simp [hpl])
          have cD : wq.cell? ⟨wo.heap.size, pl, none⟩ = some (.int .i64 (q : Int)) := obj_cell hD pl _ (by simpa [ddCells] using hcl)
          have hnj : ((ddNums d).take j).length ≤ 3 := by rw [List.length_take]; omega
          have hnl2 : (((ddNums d).take j).flatMap numB).length ≤ 9 := by
            have := nums_len ((ddNums d).take j) (fun x hx => by have := ddNums_lt HFD.out x (List.mem_of_mem_take hx); omega)
            omega
          have HB := Lib.hid hb
          have HD := Lib.hid hD
          have HF := Lib.hid hF
          have HO2 := Lib.hid ho
          have HTQ := Lib.hid htq
          clear hb hD hF ho htq hpl hcl hnj
          go_wp2_with fail
          refine (Tryd.strconv_Itoa_small q (by omega) _).mono ?_
          rintro e w4 ⟨rfl, rfl⟩
          obtain ⟨sb, hsb, hz⟩ : ∃ sb : ByteArray, (⟨(Lib.decDigits q).toArray⟩ : ByteArray) = sb ∧ sb.size ≤ 2 := ⟨_, rfl, by show ((Lib.decDigits q).toArray).size ≤ 2; rw [List.size_toArray]; exact digits_le (by omega)⟩
          have HSB := Lib.hid hsb
          rw [hsb]
          clear hsb
          have hz1 : ¬ 9223372036854775806 < sb.size := by omega
          have hz2 : ¬ 9223372036854775807 < (⟨#[32]⟩ : ByteArray).size + sb.size := by show ¬ 9223372036854775807 < 1 + sb.size; omega
          obtain ⟨sl, hsl, hslz, hsll⟩ : ∃ sl : ByteArray, (⟨#[32]⟩ : ByteArray) ++ sb = sl ∧ sl.size ≤ 3 ∧ sl.data.toList = numB q := ⟨_, rfl, by rw [ByteArray.size_append]; show 1 + sb.size ≤ 3; omega, by rw [← HSB.out, ByteArray.data_append]; simp [numB]⟩
          have hwr := build_write B B _ sl _ HB.out (by rw [List.length_append, List.length_append]; have := hwl.out; omega)
          rw [hsll] at hwr
          go_wp2_with fail
          refine hwr.mono ?_
          rintro e w5 ⟨rfl, hb5, ha5⟩
          have hfin := Lib.hid (show BuildAt w5 B B ((T0 ++ wordB d.what.toNat) ++ ((ddNums d).take (j + 1)).flatMap numB) by rw [HTQ.out, List.flatMap_append, ← List.append_assoc]; simpa using hb5)
          have hD5 := Lib.hid (ha5.obj HD.out hDB.out (by decide))
          have hF5 := Lib.hid (ha5.obj HF.out hFB.out (by decide))
          have ho5 := Lib.hid (HO2.out.around ha5 hBw)
          clear hwr hb5 ha5
          go_wp2
          go_roundw
          case rel => exact ⟨j + 1, by omega, by go_num, hfin.out, hD5.out, hF5.out, ho5.out⟩
          case measure => (simp [intOf]; try omega)
        · obtain rfl : j = kk := by omega
          have hnl2 : ((ddNums d).flatMap numB).length ≤ 9 := by
            have h1 := nums_len (ddNums d) (fun x hx => by have := ddNums_lt HFD.out x hx; omega)
            have h2 : (ddNums d).length = j := by rw [HKK.out]; simp [ddNums]
            omega
          have hb' : BuildAt wq B B ((T0 ++ wordB d.what.toNat) ++ (ddNums d).flatMap numB) := by
            have e : (ddNums d).take j = ddNums d := List.take_of_length_le (by rw [HKK.out]; simp [ddNums])
            rw [e] at hb
            exact hb
          have hwr := build_write B B _ ⟨#[10]⟩ _ hb' (by rw [List.length_append, List.length_append]; have := hwl.out; show _ + 1 ≤ 1000000; omega)
          have HO2 := Lib.hid ho
          clear hb hb' hD hF ho
          go_wp2_with fail
          refine hwr.mono ?_
          rintro e w5 ⟨rfl, hb5, ha5⟩
          have hfin := Lib.hid (show BuildAt w5 B B (ddsText (l.take (i + 1))) by rw [htk.out, ddsText_push, HT0.out]; unfold ddText; rw [← List.append_assoc, ← List.append_assoc]; exact hb5)
          have ho5 := Lib.hid (HO2.out.around ha5 hBw)
          clear hwr hb5 ha5
          go_wp2
          go_roundw
          case rel => exact ⟨i + 1, by omega, by go_num, hfin.out, ho5.out⟩
          case measure => (simp [intOf]; try omega)
    · obtain rfl : i = n := by omega
      rw [List.take_of_length_le (by rw [HN.out]; exact Nat.le_refl _)] at hbd
      have hs := build_string B B _ _ hbd
      clear hbd
      go_wp2_with fail
      refine hs.mono ?_
      rintro e w2 ⟨rfl, _, ha2⟩
      have ho5 := Lib.hid (ho.around ha2 hBw)
      clear hs ha2
      go_wp2
      go_ret2
      exact ⟨rfl, ho5.out⟩

end Go.Proofs.YtoofalchkedciaaDoor
