/-
  Contract of yardref1.Read.
-/
import Derived.Test.YtoofalchkedciaaGreatDoorP29PlanTells
import Derived.Test.YtoofalchkedciaaGreatDoorP35PlanTells
import Derived.Test.YtoofalchkedciaaGreatDoorP38PlanTells
import Derived.Test.YtoofalchkedciaaGreatDoorP42PlanTells
namespace Go.Proofs.YtoofalchkedciaaGreatDoor
open Go.RowKit Go.Deep

def RReadOut (w : World) (l : List UInt8) (e : Ending) (w' : World) : Prop :=
  Only [] w w' ∧ ((parseF l ≠ 0 ∧ e = .returned (.tuple #[.slice none 0 0, .int .i64 (parseF l)])) ∨
    (∃ (a : Option Addr) (c : Nat) (p : PlanL), e = .returned (.tuple #[.slice a p.length c, .int .i64 0]) ∧ readP l = some p ∧ planFault p = 0 ∧ InPlan w' (.slice a p.length c) p))

theorem strs_cell {W : World} {base : Nat} {xs : List ByteArray} {a : Option Addr} {n c : Nat} (h : OwnStrs W base (.slice a n c) xs) (i : Nat) (hi : i < xs.length) : ∃ b, a = some ⟨b, 0, none⟩ ∧ base ≤ b ∧ W.cell? ⟨b, i, none⟩ = some (.string (strAt xs i)) := by
  obtain ⟨a', cap', e, _, h⟩ := h.opt
  obtain ⟨b, e1, e2, e3⟩ := h i hi
  injection e with e
  exact ⟨b, by rw [e]; exact e1, e2, e3⟩
theorem cut_at_str (c : UInt8) (s : ByteArray) (i : Nat) (h : i < (cutL c s.data.toList).length) : strAt (cutS c s) i = ⟨(nthL (cutL c s.data.toList) i).toArray⟩ := strAt_map _ i h
theorem take_nthL {l : List (List UInt8)} {i : Nat} (h : i < l.length) : l.take (i + 1) = l.take i ++ [nthL l i] := by
  obtain ⟨h1, h2⟩ := nthL_get h
  rw [List.take_succ_eq_append_getElem h1, h2]
theorem drop_nthL {l : List (List UInt8)} {i : Nat} (h : i < l.length) : l.drop i = nthL l i :: l.drop (i + 1) := by
  obtain ⟨h1, h2⟩ := nthL_get h
  rw [List.drop_eq_getElem_cons h1, h2]
theorem cut_bound (c : UInt8) (s : ByteArray) (i : Nat) (h : i < (cutL c s.data.toList).length) : (nthL (cutL c s.data.toList) i).length ≤ s.size := by
  have h1 := cutL_le c s.data.toList _ (nthL_mem h)
  have h2 : s.data.toList.length = s.size := Array.length_toList
  omega

/-- A text cut at a byte: its pieces, one by one. -/
theorem ref_Cut_at (s : ByteArray) (c : UInt8) (w : World) (hs : s.size ≤ 2000000) :
    Calls Tryz.prog 33 #[.string s, .int .u8 c.toNat] w fun e w' => ∃ (a : Option Addr) (k : Nat), e = .returned (.slice a (cutL c s.data.toList).length k) ∧ (cutL c s.data.toList).length ≤ k ∧
      (∀ i (_ : i < (cutL c s.data.toList).length), ∃ b, a = some ⟨b, 0, none⟩ ∧ w.heap.size ≤ b ∧ w'.cell? ⟨b, i, none⟩ = some (.string ⟨(nthL (cutL c s.data.toList) i).toArray⟩)) ∧ Only [] w w' := by
  refine (ref_Cut s c w hs).mono ?_
  rintro e w' ⟨v, rfl, hv, ho⟩
  obtain ⟨a, k, rfl, hk, h⟩ := hv.opt
  rw [cutS_len] at hk ⊢
  refine ⟨a, k, rfl, hk, fun i hi => ?_, ho⟩
  obtain ⟨b, e1, e2, e3⟩ := h i (by rw [cutS_len]; exact hi)
  exact ⟨b, e1, e2, by rw [e3, cut_at_str c s i hi]⟩

theorem readT_three {l a b c : List UInt8} {r : List (List UInt8)} (h : cutL 60 l = a :: b :: c :: r) : readT l = none := by
  unfold readT
  rw [h]
theorem readT_nonum {l a : List UInt8} {r : List (List UInt8)} (h : cutL 60 l = a :: r) (hn : numOk 4 a = false) : readT l = none := by
  unfold readT
  rw [h]
  match r with
  | [] => simp [hn]
  | [b] => simp [hn]
  | b :: c :: r => rfl
theorem readT_single {l a : List UInt8} (h : cutL 60 l = [a]) (hn : numOk 4 a = true) : readT l = some ((digV a : Int), []) := by
  unfold readT
  rw [h]
  simp [hn]
theorem readT_pair {l a b : List UInt8} (h : cutL 60 l = [a, b]) (hn : numOk 4 a = true) (hb : (cutL 44 b).all (numOk 4) = true) : readT l = some ((digV a : Int), (cutL 44 b).map fun x => (digV x : Int)) := by
  unfold readT
  rw [h]
  simp only [hn, hb, true_and, if_true]
theorem readT_pair_no {l a b : List UInt8} (h : cutL 60 l = [a, b]) (hb : (cutL 44 b).all (numOk 4) = false) : readT l = none := by
  unfold readT
  rw [h]
  simp [hb]

set_option maxRecDepth 100000 in
set_option maxHeartbeats 8000000 in
theorem ref_Read (s : ByteArray) (hs : s.size ≤ 1100000) (w : World) :
    Calls Tryz.prog 19 #[.string s] w (RReadOut w s.data.toList) := by
  have hsl : s.data.toList.length = s.size := Array.length_toList
  have HSL := Lib.hid hsl
  by_cases he : s.data.toList = []
  · have hz : RReadOut w s.data.toList (.returned (.tuple #[.slice none 0 0, .int .i64 0])) w :=
      ⟨Only.refl _ _, .inr ⟨none, 0, [], rfl, by rw [he]; rfl, rfl, (OwnPlan.nil w 0 (fun _ => False)).plan⟩⟩
    have HZ := Lib.hid hz
    have hq : (s.toList == ([] : List UInt8)) = true := by rw [Lib.toList_data, he]; rfl
    clear hz he hsl
    go_enter Tryz.func19, Tryz.ntmps19
    go_wp2
    go_ret2
    exact HZ.out
  · have hq : (s.toList == ([] : List UInt8)) = false := by rw [Lib.toList_data]; exact beq_eq_false_iff_ne.2 he
    have hrp : readP s.data.toList = readTs (cutL 32 s.data.toList) := if_neg he
    have HCUT := Lib.hid (fun (x : ByteArray) (c : UInt8) (hx : x.size ≤ 1100000) (W : World) => ref_Cut_at x c W (by omega))
    have HNUM := Lib.hid (fun (x : ByteArray) (hx : x.size ≤ 1100000) (W : World) => ref_Number x 4 (by omega) W (by omega))
    have hsp := HCUT.out s 32 hs w
    have hxl : ∀ i (h : i < (cutL 32 s.data.toList).length), (nthL (cutL 32 s.data.toList) i).length ≤ 1100000 := fun i h => by have := cut_bound 32 s i h; omega
    have hpl : (cutL 32 s.data.toList).length ≤ 1100001 := by have := cutL_len 32 s.data.toList; omega
    obtain ⟨pc, hpc⟩ : ∃ pc, cutL 32 s.data.toList = pc := ⟨_, rfl⟩
    simp only [hpc] at hsp hxl hpl hrp
    have HRP := Lib.hid hrp
    have HXL := Lib.hid hxl
    obtain ⟨m, hm⟩ : ∃ m, pc.length = m := ⟨_, rfl⟩
    have HM := Lib.hid hm
    rw [hm] at hpl
    clear he hrp hpc hxl hsl
    rw [show (((32 : UInt8).toNat : Nat) : Int) = 32 from rfl] at hsp
    go_enter Tryz.func19, Tryz.ntmps19
    go_wp2_with fail
    refine hsp.mono ?_
    rintro e w3 ⟨sa, sk, rfl, hcap, hstr, ho3⟩
    have hS : Hid (∀ i (h : i < pc.length), ∃ b, sa = some ⟨b, 0, none⟩ ∧ w3.cell? ⟨b, i, none⟩ = some (.string ⟨(nthL pc i).toArray⟩)) := fun i h => by
      obtain ⟨b, e1, _, e3⟩ := hstr i h
      exact ⟨b, e1, e3⟩
    have HO3 := Lib.hid ho3
    rw [hm] at hcap ⊢
    clear hsp hstr ho3 hm
    go_wp2_with fail
    go_loopw [4, 6, 7, 8, 9, 10, 11, 12] (fun vp vi _ _ _ _ _ _ wr => ∃ (i : Nat) (a : Option Addr) (c : Nat) (q : PlanL), i ≤ m ∧ vi = .int .i64 (i : Int) ∧ vp = .slice a i c ∧ readTs (pc.take i) = some q ∧
      OwnPlan wr w3.heap.size (fun x => w3.heap.size ≤ x) (.slice a i c) q ∧ Only [] w3 wr) (fun _ vi _ _ _ _ _ _ _ => m - (intOf vi).toNat)
    case atStart => exact ⟨0, none, 0, [], by omega, rfl, rfl, rfl, OwnPlan.nil _ _ _, Only.refl _ _⟩
    case round =>
      obtain ⟨wo, rfl⟩ : ∃ wo : World, wo = wr := ⟨_, rfl⟩
      obtain ⟨i, a, c, q, him, rfl, rfl, hrd, hP, ho⟩ := hrel
      have hql : Hid (q.length = i) := by
        have := readTs_len hrd
        rw [List.length_take, HM.out] at this
        show _ = _
        omega
      have HRD1 := Lib.hid hrd
      have HP := Lib.hid hP
      have HO := Lib.hid ho
      have hFW : Only [] w wo := HO3.out.trans ho (by simp)
      have HFW := Lib.hid hFW
      clear hrd hP ho
      by_cases hlt : i < m
      · have hip : i < pc.length := by rw [HM.out]; exact hlt
        obtain ⟨sb, rfl, hcs⟩ := hS.out i hip
        have hcw : wo.cell? ⟨sb, i, none⟩ = some (.string ⟨(nthL pc i).toArray⟩) := (HO.out.cell (p := ⟨sb, i, none⟩) (cell_lt hcs) (by simp)).trans hcs
        have hxl := HXL.out i hip
        have HXM := Lib.hid (nthL_mem hip)
        have HTK := Lib.hid (take_nthL hip)
        obtain ⟨x, hx⟩ : ∃ x, nthL pc i = x := ⟨_, rfl⟩
        simp only [hx] at hcw hxl HXM HTK
        have hcx := HCUT.out ⟨x.toArray⟩ 60 (by show x.toArray.size ≤ _; rw [List.size_toArray]; exact hxl) wo
        have hbx : ∀ j (h : j < (cutL 60 x).length), (nthL (cutL 60 x) j).length ≤ 1100000 := fun j h => by have := cutL_le 60 x _ (nthL_mem h); omega
        obtain ⟨xb, hxb⟩ : ∃ xb : ByteArray, (⟨x.toArray⟩ : ByteArray) = xb := ⟨_, rfl⟩
        have hxd : xb.data.toList = x := by rw [← hxb]
        rw [hxb] at hcw hcx
        rw [show (((60 : UInt8).toNat : Nat) : Int) = 60 from rfl] at hcx
        obtain ⟨px, hpx⟩ : ∃ px, cutL 60 x = px := ⟨_, rfl⟩
        simp only [hxd, hpx] at hcx hbx
        have HPX := Lib.hid hpx
        obtain ⟨k, hk⟩ : ∃ k, px.length = k := ⟨_, rfl⟩
        have HK := Lib.hid hk
        have hk0 : 0 < k := by
          rw [← hk, ← hpx]; exact List.length_pos_iff.2 (cutL_ne 60 x)
        have hkb : k ≤ 1100001 := by
          rw [← hk, ← hpx]; have := cutL_len 60 x; omega
        have HBX := Lib.hid hbx
        clear hcs hx hxb hxd hpx hbx
        go_wp2_with fail
        refine hcx.mono ?_
        rintro e w4 ⟨xa, xk, rfl, hxk, hxs, ho4⟩
        have hXS := Lib.hid hxs
        obtain ⟨b0, rfl, _, hc0⟩ := hxs 0 (by rw [hk]; exact hk0)
        rw [hk] at hxk ⊢
        have HF4 := Lib.hid (HFW.out.trans ho4 (by simp))
        have HO4 := Lib.hid (HO.out.trans ho4 (by simp))
        have HP4 := Lib.hid (HP.out.same ho4)
        have HQ4 := Lib.hid ho4
        have hsz4 := HO4.out.size
        have h0p : 0 < px.length := by rw [HK.out]; exact hk0
        have hp0 : px = nthL px 0 :: px.drop 1 := by
          have := drop_nthL h0p
          rw [List.drop_zero] at this
          exact this
        have hal0 := HBX.out 0 h0p
        obtain ⟨a0, ha0⟩ : ∃ a0, nthL px 0 = a0 := ⟨_, rfl⟩
        rw [ha0] at hc0 hp0 hal0
        have HP0 := Lib.hid hp0
        have hnum := HNUM.out ⟨a0.toArray⟩ (by show a0.toArray.size ≤ _; rw [List.size_toArray]; exact hal0) w4
        obtain ⟨ab, hab⟩ : ∃ ab : ByteArray, (⟨a0.toArray⟩ : ByteArray) = ab := ⟨_, rfl⟩
        have had : ab.data.toList = a0 := by rw [← hab]
        rw [hab] at hc0 hnum
        rw [show (((4 : Nat)) : Int) = 4 from rfl] at hnum
        simp only [had] at hnum
        obtain ⟨ok, hok⟩ : ∃ ok, numOk 4 a0 = ok := ⟨_, rfl⟩
        rw [hok] at hnum
        have HOK := Lib.hid hok
        clear hcx hxs ho4 hp0 hal0 hab had hok ha0 hcw
        go_wp2_with fail
        refine hnum.mono ?_
        rintro e w5 ⟨n, rfl, hn1, hn2, ho5⟩
        have HN1 := Lib.hid hn1
        have HF5 := Lib.hid (HF4.out.trans ho5 (by simp))
        have HO5 := Lib.hid (HO4.out.trans ho5 (by simp))
        have HP5 := Lib.hid (HP4.out.same ho5)
        have HQ5 := Lib.hid (HQ4.out.trans ho5 (by simp))
        have hszQ := HQ5.out.size
        have hXS5 : Hid (∀ j (h : j < px.length), w5.cell? ⟨b0, j, none⟩ = some (.string ⟨(nthL px j).toArray⟩)) := fun j h => by
          obtain ⟨b', e1, _, e3⟩ := hXS.out j h
          injection e1 with e1
          injection e1 with e1
          subst e1
          exact (ho5.cell (cell_lt e3) (by simp)).trans e3
        have hsz5 := HO5.out.size
        clear hnum hn1 hn2 ho5 hc0 hXS
        have HBAD : Hid (readT x = none → parseF s.data.toList = 2) := fun h => parseF_none (by rw [HRP.out]; exact readTs_none HXM.out h)
        cases ok with
        | false =>
          have hz : Hid (parseF s.data.toList = 2) := HBAD.out (readT_nonum (HPX.out.trans HP0.out) HOK.out)
          go_wp2
          go_ret2
          exact ⟨HF5.out, .inl ⟨by rw [hz.out]; decide, by rw [hz.out]; rfl⟩⟩
        | true =>
        by_cases hk2 : 2 < k
        · have hz : Hid (parseF s.data.toList = 2) := HBAD.out (by
            have h1 : px.length = k := HK.out
            match px, h1 with
            | a :: b :: c :: r, _ => exact readT_three HPX.out
            | [a], h => simp at h; omega
            | [a, b], h => simp at h; omega
            | [], h => simp at h; omega)
          go_wp2
          go_ret2
          exact ⟨HF5.out, .inl ⟨by rw [hz.out]; decide, by rw [hz.out]; rfl⟩⟩
        · have hnv : n = (digV a0 : Int) := HN1.out rfl
          have HNV := Lib.hid hnv
          have hnb : 0 ≤ n ∧ n < 10000 := by
            have := (num4_of HOK.out).1
            rw [hnv]; exact this
          have hcT := Cells.new w5 #[.int .i64 n, .slice none 0 0] 94
          have hoT := (Only.refl [] w5).alloc (.cells #[.int .i64 n, .slice none 0 0] 94)
          obtain ⟨wT, hwT⟩ : ∃ wT, w5.alloc (.cells #[.int .i64 n, .slice none 0 0] 94) = wT := ⟨_, rfl⟩
          obtain ⟨T, hT⟩ : ∃ T, w5.heap.size = T := ⟨_, rfl⟩
          rw [hwT] at hcT hoT
          rw [hT] at hcT
          have HWT := Lib.hid hwT
          have HTE := Lib.hid hT
          have HCT := Lib.hid hcT
          have HFT := Lib.hid (HF5.out.trans hoT (by simp))
          have HOT := Lib.hid (HO5.out.trans hoT (by simp))
          have HPT := Lib.hid (HP5.out.same hoT)
          have HQT := Lib.hid (HQ5.out.trans hoT (by simp))
          have hwoT : wo.heap.size ≤ T := by omega
          have hXST : Hid (∀ j (h : j < px.length), wT.cell? ⟨b0, j, none⟩ = some (.string ⟨(nthL px j).toArray⟩)) := fun j h => (hoT.cell (cell_lt (hXS5.out j h)) (by simp)).trans (hXS5.out j h)
          have hTw : w3.heap.size ≤ T := by omega
          have hTlt : T < wT.heap.size := HCT.out.lt
          clear hnv hcT hoT hwT hT hXS5 HP5 HO5 HF5 hsz5
          have hk12 : k = 1 ∨ k = 2 := by omega
          rcases hk12 with rfl | rfl
          · have hread : readT x = some (n, []) := by
              have h1 : px.drop 1 = [] := List.drop_eq_nil_of_le (by rw [HK.out]; exact Nat.le_refl _)
              rw [HNV.out]
              exact readT_single (HPX.out.trans (HP0.out.trans (by rw [h1]))) HOK.out
            have HREAD := Lib.hid hread
            have hcq := HCT.out
            have hoq : Only [T] wT wT := Only.refl _ _
            have hIq : Ints wT wT.heap.size (.slice none 0 0) [] := Ints.nil _ _
            have HCQ := Lib.hid hcq
            have HOQ := Lib.hid hoq
            have HIQ := Lib.hid hIq
            clear hread hcq hoq hIq hk2
            go_upto_region 12 with (fail)
            go_upto_region 13 with (fail)
            rw [HTE.out, HWT.out]
            have hPW : OwnPlan wT w3.heap.size (fun x => w3.heap.size ≤ x) (.slice a i c) q := by
              exact HPT.out
            have hOW : Only [] w3 wT := by
              exact HOT.out
            have hOWw : Only [] w wT := HO3.out.trans hOW (by simp)
            have hszW := hOW.size
            have hTW : T < wT.heap.size := HCQ.out.lt
            have hcA := HCQ.out.cell 0 _ rfl
            have hcA1 := HCQ.out.cell 1 _ rfl
            have hif := Row.far HIQ.out
            have hpo := HP.out.far
            have hszo := HO.out.size
            have hsnoc : Hid (readTs (pc.take (i + 1)) = some (q ++ [(n, [])])) := by
              show _ = _
              rw [HTK.out]
              exact readTs_snoc HRD1.out HREAD.out
            have hfarW := hPW.far
            have hal := (Only.refl [] wT).alloc (.cells #[.int .i64 n, .slice none 0 0] 94)
            obtain ⟨N, k1, k2, k3, k4⟩ := hPW
            rw [hql.out] at k1
            have hone : Hid (RowAt (World.alloc wT (.cells #[.int .i64 n, .slice none 0 0] 94)) (.slice (some ⟨wT.heap.size, 0, none⟩) 1 1) 1 2 [.int .i64 n, .slice none 0 0]) :=
              RowAt.one (cs := #[.int .i64 n, .slice none 0 0]) (by have h := heap_alloc_new wT (.cells #[.int .i64 n, .slice none 0 0] 94); simpa using h) rfl (by intro y hy; simp at hy; rcases hy with rfl | rfl <;> rfl)
            have K1 := Lib.hid k1
            have KP : Hid (∀ v' w', w'.ownsRow w3.heap.size 94 2 v' (i + 1) (flatP q N i ++ [.int .i64 n, .slice none 0 0]) → Only (own (.slice a i c)) wT w' → Kin wT (own (.slice a i c)) (own v') → OwnPlan w' w3.heap.size (fun x => w3.heap.size ≤ x) v' (q ++ [(n, [])])) := by
              intro v' w' h1 h2 h3
              refine OwnPlan.push (W := wT) (N := N) (n, []) (.slice none 0 0) k2 k3 k4 HIQ.out.reads (fun h0 y hy => ?_) (by rw [hql.out]; exact h1) h2 h3
              have h5 := hif y hy
              exact ⟨by omega, fun hy2 => by have := hpo y hy2; omega⟩
            have HOB := Lib.hid hOW
            have HFAR := Lib.hid hfarW
            clear k1 k2 k3 k4 hal hOW hOWw hif hpo hfarW
            go_wp2_with (at_builtin; refine wpList_append_rows sliceOf_plan rfl (.tmp 74) (.tmp 76) rfl wT w3.heap.size _ _ _ _ 1 _ K1.out hone.out (by omega) hszW rfl rfl ((Only.refl [] _).alloc _) ?_; intro v9 w9 hI9 hO9 hK9)
            obtain ⟨a9, c9, hv9⟩ : ∃ a9 c9, v9 = .slice a9 (i + 1) c9 := by
              obtain ⟨a9, c9, h9, _⟩ := Row.form hI9
              exact ⟨a9, c9, h9⟩
            subst hv9
            have hP9 := Lib.hid (KP.out _ w9 hI9 hO9 hK9)
            have ho9 : Hid (Only [] w3 w9) := HOB.out.trans hO9 (fun y hy hl => by have := (HFAR.out y hy).1; omega)
            clear hI9 hO9 hK9
            go_wp2
            go_roundw
            case rel => exact ⟨i + 1, _, _, _, by omega, by go_num, rfl, hsnoc.out, hP9.out, ho9.out⟩
            case measure => (simp [intOf]; try omega)
          · have h1p : 1 < px.length := by rw [HK.out]; omega
            have hpb : px = [a0, nthL px 1] := by
              have h1 : px.drop 1 = [nthL px 1] := by
                rw [drop_nthL h1p, List.drop_eq_nil_of_le (by rw [HK.out]; exact Nat.le_refl _)]
              exact HP0.out.trans (by rw [h1])
            have hc1 := hXST.out 1 h1p
            have hbl := HBX.out 1 h1p
            obtain ⟨b1, hb1⟩ : ∃ b1, nthL px 1 = b1 := ⟨_, rfl⟩
            rw [hb1] at hpb hc1 hbl
            have HPB := Lib.hid (HPX.out.trans hpb)
            have hcy := HCUT.out ⟨b1.toArray⟩ 44 (by show b1.toArray.size ≤ _; rw [List.size_toArray]; exact hbl) wT
            have hby : ∀ j (h : j < (cutL 44 b1).length), (nthL (cutL 44 b1) j).length ≤ 1100000 := fun j h => by have := cutL_le 44 b1 _ (nthL_mem h); omega
            have hyl : (cutL 44 b1).length ≤ 1100001 := by have := cutL_len 44 b1; omega
            obtain ⟨bb, hbb⟩ : ∃ bb : ByteArray, (⟨b1.toArray⟩ : ByteArray) = bb := ⟨_, rfl⟩
            have hbd : bb.data.toList = b1 := by rw [← hbb]
            rw [hbb] at hc1 hcy
            rw [show (((44 : UInt8).toNat : Nat) : Int) = 44 from rfl] at hcy
            obtain ⟨py, hpy⟩ : ∃ py, cutL 44 b1 = py := ⟨_, rfl⟩
            simp only [hbd, hpy] at hcy hby hyl
            have HPY := Lib.hid hpy
            have HBY := Lib.hid hby
            obtain ⟨z, hz⟩ : ∃ z, py.length = z := ⟨_, rfl⟩
            have HZ := Lib.hid hz
            rw [hz] at hyl
            clear hpb hb1 hbl hbb hbd hpy hby hk2
            go_upto_region 12 with (fail)
            go_upto_region 13 with (fail)
            rw [HTE.out, HWT.out]
            go_wp2_with fail
            refine hcy.mono ?_
            rintro e w6 ⟨ya, yk, rfl, hyk, hys, ho6⟩
            have hYS : Hid (∀ j (h : j < py.length), ∃ b, ya = some ⟨b, 0, none⟩ ∧ wT.heap.size ≤ b ∧ w6.cell? ⟨b, j, none⟩ = some (.string ⟨(nthL py j).toArray⟩)) := hys
            have HC6 := Lib.hid (HCT.out.only ho6 (by simp))
            have HF6 := Lib.hid (HFT.out.trans ho6 (by simp))
            have HO6 := Lib.hid (HOT.out.trans ho6 (by simp))
            have HP6 := Lib.hid (HPT.out.same ho6)
            have HQ6 := Lib.hid (HQT.out.trans ho6 (by simp))
            have hb6 : T < w6.heap.size := HC6.out.lt
            have hsz6 : wT.heap.size ≤ w6.heap.size := ho6.size
            rw [hz] at hyk ⊢
            clear hcy hys ho6 hz hc1
            go_wp2_with fail
            go_loopw [8, 9, 12] (fun _ _ vk wr => ∃ (j : Nat) (ta : Option Addr) (tk tc : Nat), j ≤ z ∧ vk = .int .i64 (j : Int) ∧ (py.take j).all (numOk 4) = true ∧ tk = j ∧
              Ints wr w6.heap.size (.slice ta tk tc) ((py.take j).map fun x => (digV x : Int)) ∧ Cells wr T [.int .i64 n, .slice ta tk tc] ∧ Only [T] w6 wr) (fun _ _ vk _ => z - (intOf vk).toNat)
            case atStart => exact ⟨0, none, 0, 0, by omega, rfl, rfl, rfl, Ints.nil _ _, HC6.out, Only.refl _ _⟩
            case round =>
              obtain ⟨wq, rfl⟩ : ∃ wq : World, wq = wr := ⟨_, rfl⟩
              obtain ⟨j, ta, tk, tc, hjz, rfl, hall, rfl, hI, hC, hoq⟩ := hrel
              have HALL := Lib.hid hall
              have HI := Lib.hid hI
              have HC := Lib.hid hC
              have HOQ := Lib.hid hoq
              have hFQ : Only [] w wq := HF6.out.trans hoq (fun x hx hl => by simp at hx; subst hx; have := HO3.out.size; omega)
              have HFQ := Lib.hid hFQ
              clear hall hI hC hoq hFQ
              by_cases hlt2 : tk < z
              · have hjp : tk < py.length := by rw [HZ.out]; exact hlt2
                obtain ⟨yb, rfl, hyb, hcs⟩ := hYS.out tk hjp
                have hcw : wq.cell? ⟨yb, tk, none⟩ = some (.string ⟨(nthL py tk).toArray⟩) := (HOQ.out.cell (p := ⟨yb, tk, none⟩) (cell_lt hcs) (by simp; omega)).trans hcs
                have hyl2 := HBY.out tk hjp
                have HTK2 := Lib.hid (take_nthL hjp)
                have HMEM := Lib.hid (nthL_mem hjp)
                obtain ⟨y, hy⟩ : ∃ y, nthL py tk = y := ⟨_, rfl⟩
                simp only [hy] at hcw hyl2 HTK2 HMEM
                have hnum := HNUM.out ⟨y.toArray⟩ (by show y.toArray.size ≤ _; rw [List.size_toArray]; exact hyl2) wq
                obtain ⟨yy, hyy⟩ : ∃ yy : ByteArray, (⟨y.toArray⟩ : ByteArray) = yy := ⟨_, rfl⟩
                have hyd : yy.data.toList = y := by rw [← hyy]
                rw [hyy] at hcw hnum
                rw [show (((4 : Nat)) : Int) = 4 from rfl] at hnum
                simp only [hyd] at hnum
                clear hcs hy hyy hyd hyl2
                go_wp2_with fail
                refine hnum.mono ?_
                rintro e w7 ⟨v, rfl, hv1, hv2, ho7⟩
                have HV1 := Lib.hid hv1
                have HO7 := Lib.hid ho7
                have HC7 := Lib.hid (HC.out.only ho7 (by simp))
                have HI7 := Lib.hid (Ints.only HI.out ho7 (by simp))
                have HF7 := Lib.hid (HFQ.out.trans ho7 (by simp))
                have hsz7 := ho7.size
                have hszq := HOQ.out.size
                clear hnum hv1 hv2 ho7
                cases hnk : numOk 4 y with
                | false =>
                  have hz : Hid (parseF s.data.toList = 2) := HBAD.out (readT_pair_no HPB.out (by
                    rw [HPY.out]
                    cases h : py.all (numOk 4) with
                    | false => rfl
                    | true => have := List.all_eq_true.1 h y HMEM.out; rw [hnk] at this; cases this))
                  clear hnk
                  go_wp2
                  go_ret2
                  exact ⟨HF7.out, .inl ⟨by rw [hz.out]; decide, by rw [hz.out]; rfl⟩⟩
                | true =>
                  have hcA := HC7.out.cell 0 _ rfl
                  have hcA1 := HC7.out.cell 1 _ rfl
                  have hfA1 := HC7.out.free 1 _ rfl
                  have hqv := HV1.out hnk
                  have hok : Hid ((py.take (tk + 1)).all (numOk 4) = true) := by
                    show _ = _
                    rw [HTK2.out, List.all_append, HALL.out]
                    simpa using hnk
                  have htk : Hid ((py.take (tk + 1)).map (fun x => (digV x : Int)) = (py.take tk).map (fun x => (digV x : Int)) ++ [v]) := by
                    show _ = _
                    rw [HTK2.out, List.map_append]
                    simp [hqv]
                  have hlq : Hid (((py.take tk).map (fun x => (digV x : Int))).length = tk) := by
                    show _ = _
                    rw [List.length_map, List.length_take, HZ.out]; omega
                  have hlt4 : T < w7.heap.size := HC7.out.lt
                  have hfar : Hid (∀ y ∈ own (.slice ta tk tc), w6.heap.size ≤ y ∧ y < w7.heap.size) := fun y hy => Row.far HI7.out y hy
                  have hvb : -9223372036854775808 ≤ v ∧ v ≤ 9223372036854775807 := by
                    have := (num4_of hnk).1
                    unfold Num4 at this
                    omega
                  clear hnk hqv
                  go_wp2_with (at_builtin; refine wpList_push rfl (.tmp 69) (.tmp 71) rfl w7 w6.heap.size _ _ w7.heap.size v tk HI7.out hlq.out (by omega) (by omega) rfl rfl ((Only.refl [] w7).alloc _) (World.cell?_alloc_at _ _ _ _ rfl) ?_; intro g cap w8 hI8 hO8 hK8; have hC8 := HC7.out.only hO8 (fun h => by have := hfar.out _ h; omega); have e1 := hC8.cell 1 _ rfl; have f1 := hC8.free 1 _ rfl)
                  have hsz8 := hO8.size
                  have hset := hC8.set 1 (.slice (some ⟨g, 0, none⟩) (tk + 1) cap)
                  have hO9 : Only [T] w6 (w8.setCell ⟨T, 1, none⟩ (.slice (some ⟨g, 0, none⟩) (tk + 1) cap)) :=
                    ((HOQ.out.trans HO7.out (by simp)).trans hO8 (fun y hy hl => by have := hfar.out y hy; omega)).setCell (fun _ => by simp) _
                  have hI9 : Ints (w8.setCell ⟨T, 1, none⟩ (.slice (some ⟨g, 0, none⟩) (tk + 1) cap)) w6.heap.size (.slice (some ⟨g, 0, none⟩) (tk + 1) cap) ((py.take (tk + 1)).map fun x => (digV x : Int)) := by
                    rw [htk.out]
                    have hf := Row.far hI8
                    exact Ints.only hI8 ((Only.refl [T] w8).setCell (fun _ => by simp) _) (fun y hy hb => by have := hf y (by simpa [own] using hy); simp at hb; omega)
                  have HR := Lib.hid (And.intro hset (And.intro hO9 hI9))
                  clear hI8 hO8 hK8 hC8 hset hO9 hI9
                  go_wp2
                  go_roundw
                  case rel => exact ⟨tk + 1, _, _, _, by omega, by go_num, hok.out, rfl, HR.out.2.2, HR.out.1, HR.out.2.1⟩
                  case measure => (simp [intOf]; try omega)
              · obtain rfl : tk = z := by omega
                have hfull : py.take tk = py := List.take_of_length_le (by rw [HZ.out]; exact Nat.le_refl _)
                have hread : readT x = some (n, py.map fun x => (digV x : Int)) := by
                  rw [HNV.out]
                  have h1 := HALL.out
                  rw [hfull, ← HPY.out] at h1
                  have h2 := readT_pair HPB.out HOK.out h1
                  rw [HPY.out] at h2
                  exact h2
                have HREAD := Lib.hid hread
                have HCQ := HC
                have HIQ : Hid (Ints wq w6.heap.size (.slice ta tk tc) (py.map fun x => (digV x : Int))) := by
                  have h := HI.out
                  rw [hfull] at h
                  exact h
                have HOWQ := HOQ
                clear hread hfull
                have hPW : OwnPlan wq w3.heap.size (fun x => w3.heap.size ≤ x) (.slice a i c) q := by
                  exact HP.out.same (HQ6.out.trans HOQ.out (fun x hx hl => by simp at hx; subst hx; omega))
                have hOW : Only [] w3 wq := by
                  exact HO6.out.trans HOQ.out (fun x hx hl => by simp at hx; subst hx; omega)
                have hOWw : Only [] w wq := HO3.out.trans hOW (by simp)
                have hszW := hOW.size
                have hTW : T < wq.heap.size := HCQ.out.lt
                have hcA := HCQ.out.cell 0 _ rfl
                have hcA1 := HCQ.out.cell 1 _ rfl
                have hif := Row.far HIQ.out
                have hpo := HP.out.far
                have hszo := HO.out.size
                have hsnoc : Hid (readTs (pc.take (i + 1)) = some (q ++ [(n, py.map fun x => (digV x : Int))])) := by
                  show _ = _
                  rw [HTK.out]
                  exact readTs_snoc HRD1.out HREAD.out
                have hfarW := hPW.far
                have hal := (Only.refl [] wq).alloc (.cells #[.int .i64 n, .slice ta tk tc] 94)
                obtain ⟨N, k1, k2, k3, k4⟩ := hPW
                rw [hql.out] at k1
                have hone : Hid (RowAt (World.alloc wq (.cells #[.int .i64 n, .slice ta tk tc] 94)) (.slice (some ⟨wq.heap.size, 0, none⟩) 1 1) 1 2 [.int .i64 n, .slice ta tk tc]) :=
                  RowAt.one (cs := #[.int .i64 n, .slice ta tk tc]) (by have h := heap_alloc_new wq (.cells #[.int .i64 n, .slice ta tk tc] 94); simpa using h) rfl (by intro y hy; simp at hy; rcases hy with rfl | rfl <;> rfl)
                have K1 := Lib.hid k1
                have KP : Hid (∀ v' w', w'.ownsRow w3.heap.size 94 2 v' (i + 1) (flatP q N i ++ [.int .i64 n, .slice ta tk tc]) → Only (own (.slice a i c)) wq w' → Kin wq (own (.slice a i c)) (own v') → OwnPlan w' w3.heap.size (fun x => w3.heap.size ≤ x) v' (q ++ [(n, py.map fun x => (digV x : Int))])) := by
                  intro v' w' h1 h2 h3
                  refine OwnPlan.push (W := wq) (N := N) (n, py.map fun x => (digV x : Int)) (.slice ta tk tc) k2 k3 k4 HIQ.out.reads (fun h0 y hy => ?_) (by rw [hql.out]; exact h1) h2 h3
                  have h5 := hif y hy
                  exact ⟨by omega, fun hy2 => by have := hpo y hy2; omega⟩
                have HOB := Lib.hid hOW
                have HFAR := Lib.hid hfarW
                clear k1 k2 k3 k4 hal hOW hOWw hif hpo hfarW
                go_wp2_with (at_builtin; refine wpList_append_rows sliceOf_plan rfl (.tmp 74) (.tmp 76) rfl wq w3.heap.size _ _ _ _ 1 _ K1.out hone.out (by omega) hszW rfl rfl ((Only.refl [] _).alloc _) ?_; intro v9 w9 hI9 hO9 hK9)
                obtain ⟨a9, c9, hv9⟩ : ∃ a9 c9, v9 = .slice a9 (i + 1) c9 := by
                  obtain ⟨a9, c9, h9, _⟩ := Row.form hI9
                  exact ⟨a9, c9, h9⟩
                subst hv9
                have hP9 := Lib.hid (KP.out _ w9 hI9 hO9 hK9)
                have ho9 : Hid (Only [] w3 w9) := HOB.out.trans hO9 (fun y hy hl => by have := (HFAR.out y hy).1; omega)
                clear hI9 hO9 hK9
                go_wp2
                go_roundw
                case rel => exact ⟨i + 1, _, _, _, by omega, by go_num, rfl, hsnoc.out, hP9.out, ho9.out⟩
                case measure => (simp [intOf]; try omega)
      · obtain rfl : i = m := by omega
        have hall : Hid (pc.take i = pc) := List.take_of_length_le (by rw [HM.out]; exact Nat.le_refl _)
        have hrp : Hid (readP s.data.toList = some q) := by
          show _ = _
          rw [HRP.out, ← HRD1.out, hall.out]
        have hR := ref_Right (.slice a i c) q wo HP.out.plan
        obtain ⟨f, hff⟩ : ∃ f, planFault q = f := ⟨_, rfl⟩
        have HFF := Lib.hid hff
        rw [hff] at hR
        clear hff
        by_cases hf : f = 0
        · subst hf
          go_wp2_with fail
          refine hR.mono ?_
          rintro e w5 ⟨rfl, ho5⟩
          have hfin : Hid (InPlan w5 (.slice a i c) q) := (HP.out.same ho5).plan
          have HF5 := Lib.hid (HFW.out.trans ho5 (by simp))
          clear hR ho5
          go_wp2
          go_ret2
          refine ⟨HF5.out, .inr ⟨a, c, q, by rw [hql.out]; rfl, hrp.out, HFF.out, by rw [hql.out]; exact hfin.out⟩⟩
        · have HF : Hid (f ≠ 0) := hf
          have hf' : (f != 0) = true := by simpa using hf
          have HPF : Hid (parseF s.data.toList = f) := by show _ = _; rw [parseF_some hrp.out, HFF.out]
          clear hf
          go_wp2_with fail
          refine hR.mono ?_
          rintro e w5 ⟨rfl, ho5⟩
          have HF5 := Lib.hid (HFW.out.trans ho5 (by simp))
          clear hR ho5
          go_wp2
          go_ret2
          refine ⟨HF5.out, .inl ⟨by rw [HPF.out]; exact HF.out, by rw [HPF.out]; rfl⟩⟩

end Go.Proofs.YtoofalchkedciaaGreatDoor
