/-
  Contract of plan.Parse.
-/
import Derived.Test.YtoofalchkedciaaGreatDoorP37PlanTells
import Derived.Test.YtoofalchkedciaaGreatDoorP15PlanTells
namespace Go.Proofs.YtoofalchkedciaaGreatDoor
open Go.RowKit Go.Deep

theorem readTs_snoc : ∀ {l : List (List UInt8)} {q : PlanL} {x : List UInt8} {t : Int × List Int}, readTs l = some q → readT x = some t → readTs (l ++ [x]) = some (q ++ [t])
  | [], q, x, t, h, hx => by
    obtain rfl := Option.some.inj h
    show readTs [x] = _
    unfold readTs
    rw [hx]
    rfl
  | y :: l, q, x, t, h, hx => by
    unfold readTs at h
    split at h
    · rename_i a b h1 h2
      obtain rfl := Option.some.inj h
      rw [List.cons_append]
      unfold readTs
      rw [h1, readTs_snoc h2 hx]
      rfl
    · cases h
theorem readTs_none : ∀ {l : List (List UInt8)} {x : List UInt8}, x ∈ l → readT x = none → readTs l = none
  | y :: l, x, h, hx => by
    unfold readTs
    rcases List.mem_cons.1 h with rfl | h
    · rw [hx]
    · rw [readTs_none h hx]
      cases readT y <;> rfl
theorem readTs_len {l : List (List UInt8)} {q : PlanL} (h : readTs l = some q) : q.length = l.length := by
  have := congrArg List.length (text_readTs h).1
  simpa using this

/-- What Parse answers. -/
noncomputable def parseF (l : List UInt8) : Int := match readP l with
  | none => 2
  | some p => planFault p
theorem parseF_some {l : List UInt8} {p : PlanL} (h : readP l = some p) : parseF l = planFault p := by unfold parseF; rw [h]
theorem parseF_none {l : List UInt8} (h : readP l = none) : parseF l = 2 := by unfold parseF; rw [h]

def ParseOut (w : World) (l : List UInt8) (e : Ending) (w' : World) : Prop :=
  Only [] w w' ∧ ((parseF l ≠ 0 ∧ e = .returned (.tuple #[.slice none 0 0, errV (parseF l)])) ∨
    (∃ (a : Option Addr) (c : Nat) (p : PlanL), e = .returned (.tuple #[.slice a p.length c, .nilIface]) ∧ readP l = some p ∧ planFault p = 0 ∧ InPlan w' (.slice a p.length c) p))

set_option maxRecDepth 100000 in
set_option maxHeartbeats 4000000 in
theorem plan_Parse (s : ByteArray) (hs : s.size ≤ 1100000) (w : World) (hstd : Std w) :
    Calls Tryz.prog 20 #[.string s] w (ParseOut w s.data.toList) := by
  have HRD := Lib.hid (fun (x : ByteArray) (hx : x.size ≤ 1100000) (W : World) (hW : Only [] w W) => plan_read x hx W (hstd.only hW))
  have hsl : s.data.toList.length = s.size := Array.length_toList
  have HSL := Lib.hid hsl
  by_cases he : s.data.toList = []
  · have hz : ParseOut w s.data.toList (.returned (.tuple #[.slice none 0 0, .nilIface])) w :=
      ⟨Only.refl _ _, .inr ⟨none, 0, [], rfl, by rw [he]; rfl, rfl, (OwnPlan.nil w 0 (fun _ => False)).plan⟩⟩
    have HZ := Lib.hid hz
    have hq : (s.toList == ([] : List UInt8)) = true := by rw [Lib.toList_data, he]; rfl
    clear hz he hstd hsl
    go_enter Tryz.func20, Tryz.ntmps20
    go_wp2
    go_ret2
    exact HZ.out
  · have hq : (s.toList == ([] : List UInt8)) = false := by rw [Lib.toList_data]; exact beq_eq_false_iff_ne.2 he
    have hrp : readP s.data.toList = readTs (cutL 32 s.data.toList) := if_neg he
    obtain ⟨pc, hpc⟩ : ∃ pc, cutL 32 s.data.toList = pc := ⟨_, rfl⟩
    have hstrs : cutS 32 s = pc.map fun x => (⟨x.toArray⟩ : ByteArray) := by unfold cutS; rw [hpc]
    have hpl : pc.length ≤ 1100001 := by
      rw [← hpc]
      have e1 := cutL_len 32 s.data.toList
      omega
    have hpx : ∀ x ∈ pc, x.length ≤ 1100000 := by
      intro x hx
      have e1 := cutL_le 32 s.data.toList x (by rw [hpc]; exact hx)
      omega
    have hsp := str_Split s 32 (by omega) w hstd
    rw [hstrs] at hsp
    rw [hpc] at hrp
    have HRP := Lib.hid hrp
    have HPX := Lib.hid hpx
    obtain ⟨m, hm⟩ : ∃ m, (pc.map fun x => (⟨x.toArray⟩ : ByteArray)).length = m := ⟨_, rfl⟩
    have HM : Hid (pc.length = m) := by show _ = _; rw [← hm, List.length_map]
    have hm6 : m ≤ 1100001 := by rw [← HM.out]; exact hpl
    rw [hm] at hsp
    clear he hrp hpc hpx hpl hstrs hstd hsl
    go_enter Tryz.func20, Tryz.ntmps20
    go_wp2_with fail
    refine hsp.mono ?_
    rintro e w3 ⟨sa, sk, rfl, hstr, ho3⟩
    have hS : Hid (∀ i, i < m → ∃ b, sa = some ⟨b, 0, none⟩ ∧ w3.cell? ⟨b, i, none⟩ = some (.string ⟨(nthL pc i).toArray⟩)) := by
      intro i hi
      obtain ⟨a', cap', e, _, h⟩ := hstr.opt
      obtain ⟨b, e1, e2, e3⟩ := h i (by rw [hm]; exact hi)
      refine ⟨b, ?_, ?_⟩
      · injection e with e
        rw [e]; exact e1
      · rw [e3, strAt_map pc i (by rw [HM.out]; exact hi)]
    have HO3 := Lib.hid ho3
    have hcap := hstr.len hm
    clear hsp hstr ho3 hm
    go_wp2_with fail
    go_loopw [4, 6, 7, 8, 15] (fun vp _ _ _ vi wr => ∃ (i : Nat) (a : Option Addr) (c : Nat) (q : PlanL), i ≤ m ∧ vi = .int .i64 (i : Int) ∧ vp = .slice a i c ∧ readTs (pc.take i) = some q ∧
      OwnPlan wr w3.heap.size (fun x => w3.heap.size ≤ x) (.slice a i c) q ∧ Only [] w3 wr) (fun _ _ _ _ vi _ => m - (intOf vi).toNat)
    case atStart => exact ⟨0, none, 0, [], by omega, rfl, rfl, rfl, OwnPlan.nil _ _ _, Only.refl _ _⟩
    case round =>
      obtain ⟨wo, rfl⟩ : ∃ wo : World, wo = wr := ⟨_, rfl⟩
      obtain ⟨i, a, c, q, him, rfl, rfl, hrd, hP, ho⟩ := hrel
      have hql : Hid (q.length = i) := by
        have := readTs_len hrd
        rw [List.length_take, HM.out] at this
        show _ = _
        omega
      have HRD1 := Lib.hid hrd
      have HP := Lib.hid hP
      have HO := Lib.hid ho
      have hFW : Only [] w wo := HO3.out.trans ho (by simp)
      have HFW := Lib.hid hFW
      clear hrd hP ho
      by_cases hlt : i < m
      · obtain ⟨sb, rfl, hcs⟩ := hS.out i hlt
        have hcw : wo.cell? ⟨sb, i, none⟩ = some (.string ⟨(nthL pc i).toArray⟩) := (HO.out.cell (p := ⟨sb, i, none⟩) (cell_lt hcs) (by simp)).trans hcs
        have hxm : nthL pc i ∈ pc := nthL_mem (by rw [HM.out]; exact hlt)
        have hxl := HPX.out _ hxm
        have hget : ∃ h : i < pc.length, pc[i] = nthL pc i := nthL_get (by rw [HM.out]; exact hlt)
        have HGET := Lib.hid hget
        have HXM := Lib.hid hxm
        obtain ⟨x, hx⟩ : ∃ x, nthL pc i = x := ⟨_, rfl⟩
        rw [hx] at hcw hxl HXM
        have HX := Lib.hid hx
        have hrd := HRD.out ⟨x.toArray⟩ (by show x.toArray.size ≤ _; rw [List.size_toArray]; exact hxl) wo hFW
        obtain ⟨xb, hxb⟩ : ∃ xb : ByteArray, (⟨x.toArray⟩ : ByteArray) = xb := ⟨_, rfl⟩
        have HXB : Hid (xb.data.toList = x) := by show _ = _; rw [← hxb]
        rw [hxb] at hcw hrd
        clear hcs hxm hxl hx hget hFW hxb
        go_wp2_with fail
        refine hrd.mono ?_
        rintro e w4 ⟨n, ta, tk, tc, b, rfl, ho4, hout⟩
        rw [HXB.out] at hout
        have HOUT := Lib.hid hout
        have HF4 := Lib.hid (HFW.out.trans ho4 (by simp))
        have HO4 := Lib.hid (HO.out.trans ho4 (by simp))
        have HP4 := Lib.hid (HP.out.same ho4)
        have hsz4 := HO4.out.size
        clear hrd hout ho4
        cases b with
        | false =>
          have hno : readT x = none := by
            rcases HOUT.out with ⟨_, h⟩ | ⟨t, h, _⟩
            · exact h
            · cases h
          have hz : Hid (parseF s.data.toList = 2) := by
            show _ = _
            exact parseF_none (by rw [HRP.out]; exact readTs_none HXM.out hno)
          clear hno
          go_wp2
          go_ret2
          refine ⟨?_, .inl ⟨by rw [hz.out]; decide, by rw [hz.out]; rfl⟩⟩
          exact HF4.out.alloc _
        | true =>
          obtain ⟨t, ht, hn, hI⟩ : ∃ t, readT x = some t ∧ n = t.1 ∧ Ints w4 wo.heap.size (.slice ta tk tc) t.2 := by
            rcases HOUT.out with ⟨h, _⟩ | ⟨t, _, h⟩
            · cases h
            · exact ⟨t, h⟩
          have hsnoc : Hid (readTs (pc.take (i + 1)) = some (q ++ [t])) := by
            obtain ⟨h1, h2⟩ := HGET.out
            show _ = _
            rw [List.take_succ_eq_append_getElem h1, h2, HX.out]
            exact readTs_snoc HRD1.out ht
          have hal := (Only.refl [] w4).alloc (.cells #[.int .i64 n, .slice ta tk tc] 94)
          have hO1 := HP4.out.same hal
          have hfar := hO1.far
          have ho1 := HO4.out.trans hal (by simp)
          have hszo := HO.out.size
          have hsz1 := ho1.size
          have hszw := HO3.out.size
          have hI1 : Ints (w4.alloc (.cells #[.int .i64 n, .slice ta tk tc] 94)) wo.heap.size (.slice ta tk tc) t.2 := Ints.only hI hal (by simp)
          have hif := Row.far hI1
          have hpo := HP.out.far
          obtain ⟨N, k1, k2, k3, k4⟩ := hO1
          rw [hql.out] at k1
          have hone : Hid (RowAt (World.alloc (w4.alloc (.cells #[.int .i64 n, .slice ta tk tc] 94)) (.cells #[.int .i64 n, .slice ta tk tc] 94)) (.slice (some ⟨w4.heap.size + 1, 0, none⟩) 1 1) 1 2 [.int .i64 n, .slice ta tk tc]) :=
            RowAt.one (cs := #[.int .i64 n, .slice ta tk tc]) (by have h := heap_alloc_new (w4.alloc (.cells #[.int .i64 n, .slice ta tk tc] 94)) (.cells #[.int .i64 n, .slice ta tk tc] 94); simpa using h) rfl (by intro y hy; simp at hy; rcases hy with rfl | rfl <;> rfl)
          have K1 := Lib.hid k1
          have KP : Hid (∀ v' w', w'.ownsRow w3.heap.size 94 2 v' (i + 1) (flatP q N i ++ [.int .i64 n, .slice ta tk tc]) → Only (own (.slice a i c)) (w4.alloc (.cells #[.int .i64 n, .slice ta tk tc] 94)) w' → Kin (w4.alloc (.cells #[.int .i64 n, .slice ta tk tc] 94)) (own (.slice a i c)) (own v') → OwnPlan w' w3.heap.size (fun x => w3.heap.size ≤ x) v' (q ++ [t])) := by
            intro v' w' h1 h2 h3
            refine OwnPlan.push (W := (w4.alloc (.cells #[.int .i64 n, .slice ta tk tc] 94))) (N := N) t (.slice ta tk tc) k2 k3 k4 hI1.reads (fun h0 y hy => ?_) (by rw [hql.out, ← hn]; exact h1) h2 h3
            have h5 := hif y hy
            exact ⟨by omega, fun hy2 => by have := hpo y hy2; omega⟩
          have HOB := Lib.hid ho1
          have HFAR := Lib.hid hfar
          clear k1 k2 k3 k4 hal hI hn ht hI1 hif hpo ho1 hfar
          go_wp2_with (at_builtin; refine wpList_append_rows sliceOf_plan rfl (.tmp 27) (.tmp 29) rfl (w4.alloc (.cells #[.int .i64 n, .slice ta tk tc] 94)) w3.heap.size _ _ _ _ 1 _ K1.out hone.out (by omega) hsz1 rfl rfl ((Only.refl [] _).alloc _) ?_; intro v5 w5 hI5 hO5 hK5)
          obtain ⟨a5, c5, hv5⟩ : ∃ a5 c5, v5 = .slice a5 (i + 1) c5 := by
            obtain ⟨a5, c5, h5, _⟩ := Row.form hI5
            exact ⟨a5, c5, h5⟩
          subst hv5
          have hP5 := Lib.hid (KP.out _ w5 hI5 hO5 hK5)
          have ho5 : Hid (Only [] w3 w5) := HOB.out.trans hO5 (fun y hy hl => by have := (HFAR.out y hy).1; omega)
          clear hI5 hO5 hK5
          go_wp2
          go_roundw
          case rel => exact ⟨i + 1, _, _, _, by omega, by go_num, rfl, hsnoc.out, hP5.out, ho5.out⟩
          case measure => (simp [intOf]; try omega)
      · obtain rfl : i = m := by omega
        have hall : Hid (pc.take i = pc) := List.take_of_length_le (by rw [HM.out]; exact Nat.le_refl _)
        have hrp : Hid (readP s.data.toList = some q) := by
          show _ = _
          rw [HRP.out, ← HRD1.out, hall.out]
        have hR := plan_Right (.slice a i c) q wo HP.out.plan
        by_cases hf : planFault q = 0
        · rw [hf, errV_zero] at hR
          have HF := Lib.hid hf
          clear hf
          go_wp2_with fail
          refine hR.mono ?_
          rintro e w5 ⟨rfl, ho5⟩
          have hfin : Hid (InPlan w5 (.slice a i c) q) := (HP.out.same ho5).plan
          have HF5 := Lib.hid (HFW.out.trans ho5 (by simp))
          clear hR ho5
          go_wp2
          go_ret2
          refine ⟨HF5.out, .inr ⟨a, c, q, by rw [hql.out]; rfl, hrp.out, HF.out, by rw [hql.out]; exact hfin.out⟩⟩
        · have HF := Lib.hid hf
          rw [errV_ne hf] at hR
          obtain ⟨f, hff⟩ : ∃ f, planFault q = f := ⟨_, rfl⟩
          have HFF : Hid (parseF s.data.toList = f) := by show _ = _; rw [parseF_some hrp.out, hff]
          rw [hff] at hR HF
          clear hf hff
          go_wp2_with fail
          refine hR.mono ?_
          rintro e w5 ⟨rfl, ho5⟩
          have HF5 := Lib.hid (HFW.out.trans ho5 (by simp))
          clear hR ho5
          go_wp2
          go_ret2
          refine ⟨HF5.out, .inl ⟨by rw [HFF.out]; exact HF.out, by rw [HFF.out, errV_ne HF.out]; rfl⟩⟩

end Go.Proofs.YtoofalchkedciaaGreatDoor
