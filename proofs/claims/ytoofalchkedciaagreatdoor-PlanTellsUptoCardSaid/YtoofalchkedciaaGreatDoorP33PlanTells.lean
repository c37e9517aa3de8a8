/-
  Contract of plan.Print.
-/
import Derived.Test.YtoofalchkedciaaGreatDoorP30PlanTells
import Derived.Test.YtoofalchkedciaaGreatDoorP32PlanTells
import Derived.Test.YtoofalchkedciaaGreatDoorP15PlanTells
import Derived.Test.YtoofalchkedciaaGreatDoorP28PlanTells
namespace Go.Proofs.YtoofalchkedciaaGreatDoor
open Go.RowKit Go.Deep

theorem textP_join (p : PlanL) : Lib.join (p.map textT) [32] = textP p := by
  cases p with
  | nil => rfl
  | cons t p =>
    rw [List.map_cons, Lib.join_cons]
    show textT t ++ Lib.joinTail [32] (p.map textT) = textT t ++ p.flatMap fun x => 32 :: textT x
    unfold Lib.joinTail
    rw [List.map_map, List.flatMap_def]
    rfl
theorem textN_snoc (l : List Int) (n : Int) : textN (l ++ [n]) = textN l ++ ((if l = [] then 60 else 44) :: decI n) := by
  cases l with
  | nil => simp [textN]
  | cons k r => simp [textN, List.append_assoc]
theorem decI_len {n : Int} (h0 : 0 ≤ n) (h : n < 100) : (decI n).length ≤ 2 := dec_len 1 n.toNat (by omega)
theorem textN_len : ∀ (l : List Int), (∀ k ∈ l, 0 ≤ k ∧ k < 100) → (textN l).length ≤ 3 * l.length
  | [], _ => by simp [textN]
  | k :: r, h => by
    have h1 := decI_len (h k (by simp)).1 (h k (by simp)).2
    have h2 : (r.flatMap fun n => (44 : UInt8) :: decI n).length ≤ 3 * r.length := by
      have hr : ∀ x ∈ r, 0 ≤ x ∧ x < 100 := fun x hx => h x (by simp [hx])
      clear h h1
      induction r with
      | nil => simp
      | cons a r ih =>
        have h3 := decI_len (hr a (by simp)).1 (hr a (by simp)).2
        have := ih (fun x hx => hr x (by simp [hx]))
        rw [List.flatMap_cons, List.length_append, List.length_cons, List.length_cons]
        omega
    unfold textN
    rw [List.length_append, List.length_cons, List.length_cons]
    omega

theorem textP_len (p : PlanL) (h : PlanOk p) : (textP p).length ≤ 3000 := by
  have h30 := h.len
  have hone : ∀ t ∈ p, (textT t).length ≤ 92 := by
    intro t ht
    obtain ⟨i, hi, rfl⟩ := List.getElem_of_mem ht
    have h1 := h.work i hi
    have h2 := h.need i
    have h3 := h.needs i
    have e : p[i] = (wkOf p i, ndOf p i) := by simp [wkOf, ndOf, hi]
    rw [e]
    unfold textT
    rw [List.length_append]
    have h4 := decI_len (n := wkOf p i) (by omega) (by omega)
    have h5 := textN_len (ndOf p i) (fun k hk => by have := h2 k hk; omega)
    show (decI (wkOf p i)).length + (textN (ndOf p i)).length ≤ 92
    omega
  cases p with
  | nil => simp [textP]
  | cons t p =>
    have h1 := hone t (by simp)
    have h2 : (p.flatMap fun x => (32 : UInt8) :: textT x).length ≤ 93 * p.length := by
      have hr : ∀ x ∈ p, (textT x).length ≤ 92 := fun x hx => hone x (by simp [hx])
      clear h h30 hone h1
      induction p with
      | nil => simp
      | cons a r ih =>
        have := hr a (by simp)
        have := ih (fun x hx => hr x (by simp [hx]))
        rw [List.flatMap_cons, List.length_append, List.length_cons, List.length_cons]
        omega
    show (textT t ++ p.flatMap fun x => 32 :: textT x).length ≤ 3000
    rw [List.length_append]
    simp at h30
    omega

set_option maxRecDepth 100000 in
theorem plan_Print_no (v : Value) (p : PlanL) (w : World) (h : InPlan w v p) (hf : planFault p ≠ 0) :
    Calls Tryz.prog 16 #[v] w fun e w' => e = .returned (.tuple #[.string ⟨#[]⟩, errV (planFault p)]) ∧ Only [] w w' := by
  have hw := plan_Right v p w h
  rw [errV_ne hf] at hw ⊢
  generalize planFault p = f at *
  clear h
  go_enter Tryz.func16, Tryz.ntmps16
  go_wp2_with fail
  refine hw.mono ?_
  rintro e w1 ⟨rfl, ho⟩
  clear hw
  go_wp2
  go_ret2
  exact ⟨rfl, ho⟩

set_option maxRecDepth 100000 in
set_option maxHeartbeats 4000000 in
theorem plan_Print (v : Value) (p : PlanL) (w : World) (h : InPlan w v p) (hf : planFault p = 0) :
    Calls Tryz.prog 16 #[v] w fun e w' => e = .returned (.tuple #[.string ⟨(textP p).toArray⟩, .nilIface]) ∧ Only [] w w' := by
  have hok := (planOk_iff p).2 hf
  have hw := plan_Right v p w h
  rw [hf, errV_zero] at hw
  have hp30 := hok.len
  have HP := Lib.hid h
  have HOK := Lib.hid hok
  obtain ⟨a, cap, rfl, hc1, hc2, _⟩ := h.task
  obtain ⟨n, hn⟩ : ∃ n, p.length = n := ⟨_, rfl⟩
  have HN := Lib.hid hn
  rw [hn] at hw hp30 hc1 HP ⊢
  clear h hok hf hn
  go_enter Tryz.func16, Tryz.ntmps16
  go_wp2_with fail
  refine hw.mono ?_
  rintro e w1 ⟨rfl, ho1⟩
  have HO1 := Lib.hid ho1
  clear hw ho1
  go_wp2_with fail
  go_loopw [5, 18] (fun vo vi wr => ∃ i : Nat, i ≤ n ∧ vi = .int .i64 (i : Int) ∧ OwnStrs wr w.heap.size vo (((p.take i).map textT).map fun x => (⟨x.toArray⟩ : ByteArray)) ∧ Only [] w wr) (fun _ vi _ => n - (intOf vi).toNat)
  case atStart => exact ⟨0, Nat.zero_le _, rfl, OwnStrs.nil _ _, HO1.out⟩
  case round =>
    obtain ⟨wo, rfl⟩ : ∃ wo : World, wo = wr := ⟨_, rfl⟩
    obtain ⟨i, hi, rfl, hS, ho⟩ := hrel
    have hlen : Hid ((((p.take i).map textT).map fun x => (⟨x.toArray⟩ : ByteArray)).length = i) := by
      show _ = _
      rw [List.length_map, List.length_map, List.length_take, HN.out]; omega
    obtain ⟨sa, sc, rfl, _, _⟩ := hS.opt
    rw [hlen.out] at hS ⊢
    have HS := Lib.hid hS
    have HO := Lib.hid ho
    have hszo := ho.size
    clear hS
    by_cases hin : i < n
    · obtain ⟨b, off, rfl⟩ := HP.out.any i (by rw [HN.out]; exact hin)
      obtain ⟨ua, uc, c0, c1, hrd⟩ := (HP.out.same ho).at i (by rw [HN.out]; exact hin)
      have hwk := HOK.out.work i (by rw [HN.out]; exact hin)
      have hnd := HOK.out.needs i
      have hne := HOK.out.need i
      rw [HN.out] at hnd hne
      have htk : Hid ((p.take (i + 1)).map textT = (p.take i).map textT ++ [decI (wkOf p i) ++ textN (ndOf p i)]) := by
        have h1 : i < p.length := by rw [HN.out]; exact hin
        show _ = _
        rw [List.take_succ_eq_append_getElem h1, List.map_append]
        have h2 : p[i] = (wkOf p i, ndOf p i) := by simp [wkOf, ndOf, h1]
        rw [h2]
        rfl
      generalize wkOf p i = wk at *
      generalize ndOf p i = nd at *
      obtain ⟨m, hm⟩ : ∃ m, nd.length = m := ⟨_, rfl⟩
      have HM := Lib.hid hm
      rw [hm] at c1 hnd
      have hrd' : Reads wo (.slice ua m uc) nd := by rw [← hm]; exact hrd
      have HRD := Lib.hid hrd'
      have HNE := Lib.hid hne
      obtain ⟨wn, rfl⟩ : ∃ wn : Nat, wk = (wn : Int) := ⟨wk.toNat, by omega⟩
      have hal := (Only.refl [] wo).alloc (.cells #[.int .i64 (wn : Int), .slice ua m uc] 94)
      obtain ⟨wA, hwA⟩ : ∃ wA, wo.alloc (.cells #[.int .i64 (wn : Int), .slice ua m uc] 94) = wA := ⟨_, rfl⟩
      have HWA := Lib.hid hwA
      have hcA := Cells.new wo #[.int .i64 (wn : Int), .slice ua m uc] 94
      rw [hwA] at hal hcA
      have HCA := Lib.hid hcA
      have HOA := Lib.hid hal
      have hito := Tryz.strconv_Itoa_small wn (by omega) wA
      clear hrd hrd' hne hwA hal hcA ho hm
      go_wp2_with fail
      rw [HWA.out]
      refine hito.mono ?_
      rintro e w4 ⟨rfl, rfl⟩
      obtain ⟨S0, hS0⟩ : ∃ S0 : ByteArray, (⟨(Lib.decDigits wn).toArray⟩ : ByteArray) = S0 := ⟨_, rfl⟩
      have HS0 : Hid (S0.data.toList = decI (wn : Int)) := by show _ = _; rw [← hS0]; rfl
      rw [hS0]
      have hcA0 := HCA.out.cell 0 _ rfl
      have hcA1 := HCA.out.cell 1 _ rfl
      clear hito hS0
      go_wp2_with fail
      go_loopw [8, 28] (fun vs vj wr => ∃ (j : Nat) (sb : ByteArray), j ≤ m ∧ vj = .int .i64 (j : Int) ∧ vs = .string sb ∧ sb.data.toList = decI (wn : Int) ++ textN (nd.take j) ∧ Only [] w4 wr) (fun _ vj _ => m - (intOf vj).toNat)
      case atStart => exact ⟨0, S0, Nat.zero_le _, rfl, rfl, by rw [HS0.out]; simp [textN], Only.refl _ _⟩
      case round =>
        obtain ⟨wq, rfl⟩ : ∃ wq : World, wq = wr := ⟨_, rfl⟩
        obtain ⟨j, sb, hj, rfl, rfl, hsb, hoq⟩ := hrel
        by_cases hjm : j < m
        · obtain ⟨kb, koff, rfl, hk⟩ : ∃ kb koff, ua = some ⟨kb, koff, none⟩ ∧ wq.cell? ⟨kb, koff + j, none⟩ = some (.int .i64 (nth nd j)) := by
            obtain ⟨a', c', e, h⟩ := ((HRD.out.same HOA.out).same hoq).opt
            obtain ⟨b, o, h1, h2⟩ := h j (by rw [HM.out]; exact hjm)
            injection e with e
            exact ⟨b, o, by rw [e]; exact h1, h2⟩
          have hmem : nth nd j ∈ nd := by
            have h1 : j < nd.length := by rw [HM.out]; exact hjm
            unfold nth
            simp only [List.getElem?_eq_getElem h1, Option.getD_some]
            exact List.getElem_mem h1
          have hkb := HNE.out _ hmem
          have hts : Hid (decI (wn : Int) ++ textN (nd.take (j + 1)) = (decI (wn : Int) ++ textN (nd.take j)) ++ ((if j = 0 then 60 else 44) :: decI (nth nd j))) := by
            have h1 : j < nd.length := by rw [HM.out]; exact hjm
            have h2 : nd.take (j + 1) = nd.take j ++ [nth nd j] := by
              rw [List.take_succ_eq_append_getElem h1]
              simp [nth, h1]
            have h3 : (nd.take j = []) = (j = 0) := by
              rw [List.take_eq_nil_iff]
              apply propext
              constructor
              · rintro (h | h)
                · exact h
                · rw [h] at h1; simp at h1
              · intro h; exact .inl h
            show _ = _
            rw [h2, textN_snoc, List.append_assoc]
            simp only [h3]
          have hsz : sb.size ≤ 100 := by
            have h1 : sb.data.toList.length = sb.size := Array.length_toList
            have h2 := congrArg List.length hsb
            have h3 := textN_len (nd.take j) (fun x hx => by have := HNE.out x (List.mem_of_mem_take hx); omega)
            have h4 := decI_len (n := (wn : Int)) (by omega) (by omega)
            rw [List.length_append] at h2
            rw [List.length_take] at h3
            have := HM.out
            omega
          obtain ⟨kn, hkn⟩ : ∃ kn : Nat, nth nd j = (kn : Int) := ⟨(nth nd j).toNat, by omega⟩
          rw [hkn] at hk hkb
          have HTS := hts
          have HSB := Lib.hid hsb
          have HKN := Lib.hid hkn
          have HOQ := Lib.hid hoq
          clear hmem hts hsb hkn hoq
          obtain ⟨S1, hS1⟩ : ∃ S1 : ByteArray, (⟨(Lib.decDigits kn).toArray⟩ : ByteArray) = S1 := ⟨_, rfl⟩
          have HS1 : Hid (S1.data.toList = decI (kn : Int)) := by show _ = _; rw [← hS1]; rfl
          have HITO : Hid (∀ W, Calls Tryz.prog 54 #[.int .i64 (kn : Int)] W fun e w' => e = .returned (.string S1) ∧ w' = W) := by
            intro W
            rw [← hS1]
            exact Tryz.strconv_Itoa_small kn (by omega) W
          have hz1 : S1.size ≤ 2 := by
            have h1 : S1.data.toList.length = S1.size := Array.length_toList
            have h2 := decI_len (n := (kn : Int)) (by omega) (by omega)
            rw [← h1, HS1.out]; exact h2
          clear hS1
          rcases Nat.eq_zero_or_pos j with rfl | hj1
          · rw [show (((0 : Nat)) : Int) = 0 from rfl]
            rw [Nat.add_zero] at hk
            have hmin : min (0 : Int) 1 = 0 := by decide
            have hU : Utf8.encode (((⟨#[60, 44]⟩ : ByteArray)[0].toNat : Nat) : Int) = ⟨#[60]⟩ := by decide
            obtain ⟨S2, hS2⟩ : ∃ S2 : ByteArray, (⟨#[60]⟩ : ByteArray) = S2 := ⟨_, rfl⟩
            have hzz : S2.size = 1 := by rw [← hS2]; rfl
            have HS2 : Hid (S2.data.toList = [60]) := by show _ = _; rw [← hS2]
            rw [hS2] at hU
            clear hS2
            have hb1 : ¬ 9223372036854775807 < S2.size + S1.size := by omega
            have hb2 : ¬ 9223372036854775807 < sb.size + (S2 ++ S1).size := by rw [ByteArray.size_append]; omega
            go_wp2_with fail
            go_quiet ((go_at_call 54; exact Calls.quiet_of_same (HITO.out _)))
            have hfin : Hid ((sb ++ (S2 ++ S1)).data.toList = decI (wn : Int) ++ textN (nd.take (0 + 1))) := by
              show _ = _
              rw [HTS.out, HKN.out, ByteArray.data_append, ByteArray.data_append, Array.toList_append, Array.toList_append, HS2.out, HS1.out, HSB.out]
              simp
            go_wp2
            go_roundw
            case rel => exact ⟨0 + 1, _, by omega, by go_num, rfl, hfin.out, HOQ.out.drewN nq⟩
            case measure => (simp [intOf]; try omega)
          · have hmin : min ((j : Nat) : Int) 1 = 1 := by omega
            have hU : Utf8.encode (((⟨#[60, 44]⟩ : ByteArray)[1].toNat : Nat) : Int) = ⟨#[44]⟩ := by decide
            obtain ⟨S2, hS2⟩ : ∃ S2 : ByteArray, (⟨#[44]⟩ : ByteArray) = S2 := ⟨_, rfl⟩
            have hzz : S2.size = 1 := by rw [← hS2]; rfl
            have HS2 : Hid (S2.data.toList = [44]) := by show _ = _; rw [← hS2]
            rw [hS2] at hU
            clear hS2
            have hb1 : ¬ 9223372036854775807 < S2.size + S1.size := by omega
            have hb2 : ¬ 9223372036854775807 < sb.size + (S2 ++ S1).size := by rw [ByteArray.size_append]; omega
            go_wp2_with fail
            go_quiet ((go_at_call 54; exact Calls.quiet_of_same (HITO.out _)))
            have hfin : Hid ((sb ++ (S2 ++ S1)).data.toList = decI (wn : Int) ++ textN (nd.take (j + 1))) := by
              show _ = _
              rw [HTS.out, HKN.out, ByteArray.data_append, ByteArray.data_append, Array.toList_append, Array.toList_append, HS2.out, HS1.out, HSB.out]
              simp [show ¬ j = 0 by omega]
            go_wp2
            go_roundw
            case rel => exact ⟨j + 1, _, by omega, by go_num, rfl, hfin.out, HOQ.out.drewN nq⟩
            case measure => (simp [intOf]; try omega)
        · obtain rfl : j = m := by omega
          have hfull : nd.take j = nd := List.take_of_length_le (by rw [HM.out]; exact Nat.le_refl _)
          rw [hfull] at hsb
          have HOW := Lib.hid ((HO.out.trans HOA.out (by simp)).trans hoq (by simp))
          have HSQ : Hid (wq.ownsRow w.heap.size 9 1 (.slice sa i sc) i ((((p.take i).map textT).map fun x => (⟨x.toArray⟩ : ByteArray)).map .string)) := by
            have h := Row.same (Row.same HS.out HOA.out) hoq
            rw [hlen.out] at h
            exact h
          have hszq : w.heap.size ≤ wq.heap.size := HOW.out.size
          have HSB := Lib.hid hsb
          clear hsb hoq hfull
          go_wp2_with (at_builtin; go_loud (refine wpList_row1 sliceOf_strs rfl (.tmp 43) (.tmp 45) rfl wq w.heap.size _ i _ wq.heap.size (.string sb) HSQ.out (by omega) hszq rfl rfl ((Only.refl [] wq).alloc _) (World.cell?_alloc_at _ _ _ _ rfl) rfl ?_; intro g5 cap5 w5 hI5 hO5 hg5))
          have hI6 : OwnStrs w5 w.heap.size (.slice (some ⟨g5, 0, none⟩) (i + 1) cap5) (((p.take (i + 1)).map textT).map fun x => (⟨x.toArray⟩ : ByteArray)) := by
            have e : (⟨(decI (wn : Int) ++ textN nd).toArray⟩ : ByteArray) = sb := by
              rw [← HSB.out]
            unfold OwnStrs
            rw [htk.out, List.map_append, List.map_cons, List.map_nil, e, List.map_append, List.length_append, hlen.out]
            exact hI5
          have hF := Lib.hid (And.intro hI6 (HOW.out.trans hO5 (fun x hx hl => by have := Row.far HSQ.out x hx; omega)))
          clear hI5 hO5 hg5 hI6
          go_wp2
          go_roundw
          case rel => exact ⟨i + 1, by omega, by go_num, hF.out.1, hF.out.2⟩
          case measure => (simp [intOf]; try omega)
    · obtain rfl : i = n := by omega
      have hfull : p.take i = p := List.take_of_length_le (by rw [HN.out]; exact Nat.le_refl _)
      have hS := HS.out
      rw [hfull] at hS hlen
      have hJ : Hid (Lib.join (p.map textT) [32] = textP p) := textP_join p
      rcases Nat.eq_zero_or_pos i with rfl | hi1
      · have hto := Tryz.strings_Join_none sa sc ⟨#[32]⟩ wo
        have hp : Hid (p = []) := List.length_eq_zero_iff.1 HN.out
        clear hS hlen hfull HS
        rw [show (((0 : Nat)) : Int) = 0 from rfl]
        go_wp2_with fail
        refine hto.mono ?_
        rintro e w6 ⟨rfl, hw6⟩
        clear hto
        go_wp2
        go_ret2
        exact ⟨by rw [hp.out]; rfl, HO.out⟩
      · obtain ⟨a', c', e, hc', hcell⟩ := hS.opt
        obtain ⟨g, hg, _, _⟩ := hcell 0 (by rw [hlen.out]; exact hi1)
        have hsa : sa = some ⟨g, 0, none⟩ := by
          injection e with e
          rw [e]; exact hg
        have hsc : i ≤ sc := by
          injection e with _ e2 e3
          have := hlen.out
          omega
        subst hsa
        have hcs : ∀ (j : Nat) x, ((p.map textT).map fun x => (⟨x.toArray⟩ : ByteArray))[j]? = some x → wo.cell? ⟨g, 0 + j, none⟩ = some (.string x) := by
          intro j x hx
          have hj : j < ((p.map textT).map fun x => (⟨x.toArray⟩ : ByteArray)).length := (List.getElem?_eq_some_iff.1 hx).1
          obtain ⟨b', h1, _, h3⟩ := hcell j hj
          rw [Nat.zero_add]
          have h4 : b' = g := by
            rw [hg] at h1
            injection h1 with h1
            injection h1 with h1
            exact h1.symm
          rw [← h4, h3]
          unfold strAt
          rw [hx]
          rfl
        have hgl : g < wo.heap.size := by
          obtain ⟨x0, hx0⟩ : ∃ x0, ((p.map textT).map fun x => (⟨x.toArray⟩ : ByteArray))[0]? = some x0 := ⟨_, List.getElem?_eq_getElem (by rw [hlen.out]; exact hi1)⟩
          exact cell_lt (hcs 0 x0 hx0)
        have hdat : ((p.map textT).map fun x => (⟨x.toArray⟩ : ByteArray)).map (·.data.toList) = p.map textT := by
          rw [List.map_map]
          have : ∀ (q : List (List UInt8)), q.map ((fun x : ByteArray => x.data.toList) ∘ fun x => (⟨x.toArray⟩ : ByteArray)) = q := by
            intro q
            induction q with
            | nil => rfl
            | cons a q ih => rw [List.map_cons, ih]; rfl
          exact this _
        have hto := Tryz.strings_Join g 0 sc ((p.map textT).map fun x => (⟨x.toArray⟩ : ByteArray)) ⟨#[32]⟩ wo hcs hgl (by rw [hlen.out]; omega) (by rw [hlen.out]; exact hsc) (by
          rw [hdat]
          show (Lib.join (p.map textT) [32]).length ≤ _
          rw [hJ.out]
          have := textP_len p HOK.out
          omega)
        rw [hlen.out, hdat] at hto
        have hto' : Calls Tryz.prog 55 #[.slice (some ⟨g, 0, none⟩) i sc, .string ⟨#[32]⟩] wo fun e w' => e = .returned (.string ⟨(textP p).toArray⟩) ∧ Below wo.heap.size wo w' := by
          rw [← hJ.out]
          exact hto
        clear hS hlen hfull HS hto hdat hgl hcs hcell hg e hc'
        go_wp2_with fail
        refine hto'.mono ?_
        rintro e w6 ⟨rfl, hb6⟩
        have ho6 := Lib.hid (HO.out.trans (Only.ofBelow hb6) (by simp))
        clear hto' hb6
        go_wp2
        go_ret2
        exact ⟨rfl, ho6.out⟩

end Go.Proofs.YtoofalchkedciaaGreatDoor
