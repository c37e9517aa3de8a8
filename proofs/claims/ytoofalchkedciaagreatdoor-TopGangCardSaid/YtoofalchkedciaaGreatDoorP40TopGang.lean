/-
  Contract of plan.read.
-/
import Derived.Test.YtoofalchkedciaaGreatDoorP39TopGang
import Derived.Test.YtoofalchkedciaaGreatDoorP37TopGang
import Derived.Test.YtoofalchkedciaaGreatDoorP7TopGang
namespace Go.Proofs.YtoofalchkedciaaGreatDoor
open Go.RowKit Go.Deep

theorem results_cellT' {P : Program} {fn : Func} {p u : Tmp} {ty : TypeId} (h : fn.results = #[.cell p ty, .tmp u]) (tmps : Array Value) (w : World) (a : Addr) (v : Value)
    (hp : tmps.getD p undef = .pointer (some a)) (hl : (loadVar ty a).run P w = .ok v w) : (results fn tmps).run P w = .ok (.tuple #[v, tmps.getD u undef]) w := by
  rw [results_cell_tmp h, hp]
  simp [asAddr, hl, Result.andThen]
theorem load_task (W : World) (B : Nat) (x : Int) {a : Option Addr} {k c : Nat} (h : Cells W B [.int .i64 x, .slice a k c]) : (loadVar 94 ⟨B, 0, none⟩).run Tryz.prog W = .ok (.agg #[.int .i64 x, .slice a k c]) W := by
  have c0 := h.cell 0 _ rfl
  have c1 := h.cell 1 _ rfl
  go_simp
theorem end_task {w wr : World} {B : Nat} {x y : Value} (hB : Cells wr B [x, y]) (hw : w.heap.size ≤ B) (ho : Only [] w wr) (u v : Value) :
    Cells ((wr.setCell ⟨B, 0, none⟩ u).setCell ⟨B, 1, none⟩ v) B [u, v] ∧ Only [] w ((wr.setCell ⟨B, 0, none⟩ u).setCell ⟨B, 1, none⟩ v) ∧ Only [B] wr ((wr.setCell ⟨B, 0, none⟩ u).setCell ⟨B, 1, none⟩ v) := by
  refine ⟨?_, (ho.setCell (p := ⟨B, 0, none⟩) (fun h => by simp at h; omega) u).setCell (p := ⟨B, 1, none⟩) (fun h => by simp at h; omega) v,
    ((Only.refl [B] wr).setCell (p := ⟨B, 0, none⟩) (fun h => by simp) u).setCell (p := ⟨B, 1, none⟩) (fun h => by simp) v⟩
  have h1 := (hB.set 0 u).set 1 v
  exact h1

theorem readT_bad {l p : List UInt8} (hn : numOk 4 p = false) (h : (l = p ∧ (60 : UInt8) ∉ p) ∨ (∃ r, l = p ++ 60 :: r) ∧ (60 : UInt8) ∉ p) : readT l = none := by
  unfold readT
  rcases h with ⟨rfl, h⟩ | ⟨⟨r, rfl⟩, h⟩
  · rw [cutL_no 60 _ h]
    simp [hn]
  · rw [cutL_at 60 p r h]
    cases hc : cutL 60 r with
    | nil => exact absurd hc (cutL_ne _ _)
    | cons a q =>
      cases q with
      | nil => simp [hn]
      | cons b q => rfl
theorem readT_one {l : List UInt8} (h : (60 : UInt8) ∉ l) (hn : numOk 4 l = true) : readT l = some ((digV l : Int), []) := by
  unfold readT
  rw [cutL_no 60 _ h]
  simp [hn]
theorem readT_no {p r : List UInt8} (h : (60 : UInt8) ∉ p) (ha : (cutL 44 r).all (numOk 4) = false) : readT (p ++ 60 :: r) = none := by
  unfold readT
  rw [cutL_at 60 p r h]
  cases hc : cutL 60 r with
  | nil => exact absurd hc (cutL_ne _ _)
  | cons a q =>
    cases q with
    | nil =>
      have := join_cutL 60 r a [] hc
      rw [List.flatMap_nil, List.append_nil] at this
      subst this
      simp [ha]
    | cons b q => rfl
theorem readT_two {p r : List UInt8} (h : (60 : UInt8) ∉ p) (hn : numOk 4 p = true) (ha : (cutL 44 r).all (numOk 4) = true) : readT (p ++ 60 :: r) = some ((digV p : Int), (cutL 44 r).map fun x => (digV x : Int)) := by
  have hr : (60 : UInt8) ∉ r := by
    intro hm
    cases hc : cutL 44 r with
    | nil => exact absurd hc (cutL_ne _ _)
    | cons x q =>
      rw [hc] at ha
      have hall : ∀ y ∈ x :: q, (60 : UInt8) ∉ y := fun y hy => dig_not (numOk_iff.1 (List.all_eq_true.1 ha y hy)).2.2.1 (by decide)
      rw [join_cutL 44 r x q hc] at hm
      rcases List.mem_append.1 hm with hm | hm
      · exact hall x (by simp) hm
      · obtain ⟨y, hy, hm⟩ := List.mem_flatMap.1 hm
        rcases List.mem_cons.1 hm with hm | hm
        · revert hm; decide
        · exact hall y (by simp [hy]) hm
  unfold readT
  rw [cutL_at 60 p r h, cutL_no 60 r hr]
  simp [hn, ha]

/-- The first j pieces are numbers. -/
theorem take_all {l : List (List UInt8)} {j : Nat} {f : List UInt8 → Bool} (h : (l.take j).all f = true) (hj : j < l.length) (hf : f (l[j]) = true) : (l.take (j + 1)).all f = true := by
  rw [List.take_succ_eq_append_getElem hj, List.all_append, h]
  simp [hf]
theorem all_not {l : List (List UInt8)} {j : Nat} {f : List UInt8 → Bool} (hj : j < l.length) (hf : f (l[j]) = false) : l.all f = false := by
  rw [Bool.eq_false_iff]
  intro h
  have := List.all_eq_true.1 h _ (List.getElem_mem hj)
  rw [hf] at this
  cases this

def nthL (l : List (List UInt8)) (i : Nat) : List UInt8 := l[i]?.getD []
theorem nthL_get {l : List (List UInt8)} {i : Nat} (h : i < l.length) : ∃ h : i < l.length, l[i] = nthL l i := ⟨h, by simp [nthL, h]⟩
theorem nthL_mem {l : List (List UInt8)} {i : Nat} (h : i < l.length) : nthL l i ∈ l := by
  obtain ⟨h1, h2⟩ := nthL_get h
  rw [← h2]
  exact List.getElem_mem h1
theorem strAt_map (l : List (List UInt8)) (i : Nat) (h : i < l.length) : strAt (l.map fun x => (⟨x.toArray⟩ : ByteArray)) i = ⟨(nthL l i).toArray⟩ := by
  simp [strAt, nthL, h]
theorem cutL_le (c : UInt8) (l : List UInt8) (x : List UInt8) (h : x ∈ cutL c l) : x.length ≤ l.length := by
  induction l generalizing x with
  | nil =>
    simp only [cutL, List.mem_singleton] at h
    subst h
    simp
  | cons b l ih =>
    unfold cutL at h
    split at h
    · rcases List.mem_cons.1 h with rfl | h
      · simp
      · have := ih x h
        simp; omega
    · cases hc : cutL c l with
      | nil => exact absurd hc (cutL_ne c l)
      | cons p q =>
        rw [hc] at h ih
        rcases List.mem_cons.1 h with rfl | h
        · have := ih p (by simp)
          simp; omega
        · have := ih x (by simp [h])
          simp; omega
theorem OwnStrs.len {w : World} {base : Nat} {a : Option Addr} {n c : Nat} {xs : List ByteArray} (h : OwnStrs w base (.slice a n c) xs) {m : Nat} (hm : xs.length = m) : m ≤ c := by
  obtain ⟨a', cap', e, h1, _⟩ := h.opt
  injection e with _ e2 e3
  omega

def TaskOut (w : World) (s : ByteArray) (e : Ending) (w' : World) : Prop :=
  ∃ (n : Int) (a : Option Addr) (k c : Nat) (b : Bool), e = .returned (.tuple #[.agg #[.int .i64 n, .slice a k c], .bool b]) ∧ Only [] w w' ∧
    ((b = false ∧ readT s.data.toList = none) ∨ (∃ t, b = true ∧ readT s.data.toList = some t ∧ n = t.1 ∧ Ints w' w.heap.size (.slice a k c) t.2))

set_option maxRecDepth 100000 in
set_option maxHeartbeats 4000000 in
theorem plan_read (s : ByteArray) (hs : s.size ≤ 1100000) (w : World) (hstd : Std w) :
    Calls Tryz.prog 60 #[.string s] w (TaskOut w s) := by
  have HN := Lib.hid (fun (x : ByteArray) (hx : x.size ≤ 1200000) (W : World) (hW : Only [] w W) => plan_Number x 4 (by omega) (by omega) W (hstd.only hW))
  have HSP := Lib.hid (fun (x : ByteArray) (hx : x.size ≤ 1200000) (W : World) (hW : Only [] w W) => str_Split x 44 (by omega) W (hstd.only hW))
  have HLD := Lib.hid load_task
  have hsl : s.data.toList.length = s.size := Array.length_toList
  have HSL := Lib.hid hsl
  have hB0 := Cells.new w #[.int .i64 0, .slice none 0 0] 94
  have ho0 := (Only.refl [] w).alloc (.cells #[.int .i64 0, .slice none 0 0] 94)
  obtain ⟨w0, hw0⟩ : ∃ w0, w.alloc (.cells #[.int .i64 0, .slice none 0 0] 94) = w0 := ⟨_, rfl⟩
  obtain ⟨B0, hb0⟩ : ∃ B0, w.heap.size = B0 := ⟨_, rfl⟩
  have HB0 := Lib.hid hb0
  rw [hw0] at hB0 ho0
  rw [hb0] at hB0
  have HW0 := Lib.hid hw0
  have hcut := str_Cut s 60 (by omega) w0 (hstd.only ho0)
  have HBC := Lib.hid hB0
  have HO0 := Lib.hid ho0
  clear hw0 hB0 ho0 hstd hsl hb0
  go_enter Tryz.func60, Tryz.ntmps60
  go_wp2_with fail
  rw [HW0.out, HB0.out]
  refine hcut.mono ?_
  rintro e w1 ⟨p, r, has, rfl, hpr, ho1⟩
  have hpz : p.size ≤ 1200000 ∧ r.size ≤ 1200000 := by
    have e1 : p.data.toList.length = p.size := Array.length_toList
    have e2 : r.data.toList.length = r.size := Array.length_toList
    rcases hpr with ⟨_, rfl, rfl, _⟩ | ⟨_, h, _⟩
    · exact ⟨by omega, by show 0 ≤ _; omega⟩
    · have e3 := congrArg List.length h
      rw [List.length_append, List.length_cons, HSL.out] at e3
      exact ⟨by omega, by omega⟩
  have hnum := HN.out p hpz.1 w1 (HO0.out.trans ho1 (by simp))
  have HPR := Lib.hid hpr
  have HO1 := Lib.hid (HO0.out.trans ho1 (by simp))
  have HBC1 := Lib.hid (HBC.out.only ho1 (by simp))
  have HPZ := Lib.hid hpz
  clear hcut hpr ho1 HBC hpz
  go_wp2_with fail
  refine hnum.mono ?_
  rintro e w2 ⟨n, rfl, hnb, hnv, ho2⟩
  have HNV := Lib.hid hnv
  have HO2 := Lib.hid (HO1.out.trans ho2 (by simp))
  have HBC2 := Lib.hid (HBC1.out.only ho2 (by simp))
  have hlt0 := HBC2.out.lt
  obtain ⟨is, his⟩ : ∃ is, numOk 4 p.data.toList = is := ⟨_, rfl⟩
  have HIS := Lib.hid his
  rw [his]
  have hB1 := Cells.new w2 #[.int .i64 n, .slice none 0 0] 94
  have hoA := HO2.out.alloc (.cells #[.int .i64 n, .slice none 0 0] 94)
  have hBA := HBC2.out.only ((Only.refl [] w2).alloc (.cells #[.int .i64 n, .slice none 0 0] 94)) (by simp)
  have hA0 := (Only.refl [] w2).alloc (.cells #[.int .i64 n, .slice none 0 0] 94)
  obtain ⟨wA, hwA⟩ : ∃ wA, w2.alloc (.cells #[.int .i64 n, .slice none 0 0] 94) = wA := ⟨_, rfl⟩
  have hszA : wA.heap.size = w2.heap.size + 1 := by rw [← hwA, World.size_alloc]
  obtain ⟨B1, hb1⟩ : ∃ B1, w2.heap.size = B1 := ⟨_, rfl⟩
  have HB1 := Lib.hid hb1
  rw [hwA] at hB1 hoA hBA hA0
  rw [hb1] at hB1 hlt0 hszA
  have HWA := Lib.hid hwA
  have HCA := Lib.hid hB1
  have HCB := Lib.hid hBA
  have HOA := Lib.hid hoA
  have h01 : ¬ B0 = B1 := by omega
  have hbb : w.heap.size ≤ B0 := Nat.le_of_eq HB0.out
  clear hnum hnv ho2 HO1 HBC1 his hB1 hoA hBA hA0 hwA hb1
  go_upto_region 4 with (fail)
  rw [HB1.out, HWA.out]
  cases is
  · -- no number
    have hcA := HCA.out.cell 0 _ rfl
    have hcA1 := HCA.out.cell 1 _ rfl
    have hcB := HCB.out.cell 0 _ rfl
    have hcB1 := HCB.out.cell 1 _ rfl
    have hfB := HCB.out.free 0 _ rfl
    have hfB1 := HCB.out.free 1 _ rfl
    obtain ⟨e1, e2, _⟩ := end_task HCB.out hbb HOA.out (.int .i64 n) (.slice none 0 0)
    have E1 := Lib.hid e1
    have E2 := Lib.hid e2
    clear e1 e2
    go_wp2
    refine bodyPost_ret (results_cellT' rfl _ _ _ _ rfl (HLD.out _ _ _ E1.out)) rfl ?_
    unfold TaskOut
    refine ⟨_, _, _, _, false, rfl, E2.out, .inl ⟨rfl, ?_⟩⟩
    rcases HPR.out with ⟨_, rfl, _, h⟩ | ⟨_, h1, h2⟩
    · exact readT_bad HIS.out (.inl ⟨rfl, h⟩)
    · exact readT_bad HIS.out (.inr ⟨⟨_, h1⟩, h2⟩)
  · cases has
    · -- nothing behind
      have hcA := HCA.out.cell 0 _ rfl
      have hcA1 := HCA.out.cell 1 _ rfl
      have hcB := HCB.out.cell 0 _ rfl
      have hcB1 := HCB.out.cell 1 _ rfl
      have hfB := HCB.out.free 0 _ rfl
      have hfB1 := HCB.out.free 1 _ rfl
      obtain ⟨e1, e2, _⟩ := end_task HCB.out hbb HOA.out (.int .i64 n) (.slice none 0 0)
      have E1 := Lib.hid e1
      have E2 := Lib.hid e2
      clear e1 e2
      go_wp2
      refine bodyPost_ret (results_cellT' rfl _ _ _ _ rfl (HLD.out _ _ _ E1.out)) rfl ?_
      unfold TaskOut
      refine ⟨_, _, _, _, true, rfl, E2.out, .inr ⟨((digV p.data.toList : Int), []), rfl, ?_, HNV.out HIS.out, Ints.nil _ _⟩⟩
      rcases HPR.out with ⟨_, rfl, _, h⟩ | ⟨h, _⟩
      · exact readT_one h HIS.out
      · cases h
    · -- a list behind
      obtain ⟨hdat, hp60⟩ : s.data.toList = p.data.toList ++ 60 :: r.data.toList ∧ (60 : UInt8) ∉ p.data.toList := by
        rcases HPR.out with ⟨h, _⟩ | ⟨_, h1, h2⟩
        · cases h
        · exact ⟨h1, h2⟩
      have HDAT := Lib.hid hdat
      have HP60 := Lib.hid hp60
      have hsp := HSP.out r HPZ.out.2 wA HOA.out
      obtain ⟨pc, hpc⟩ : ∃ pc, cutL 44 r.data.toList = pc := ⟨_, rfl⟩
      have hstrs : cutS 44 r = pc.map fun x => (⟨x.toArray⟩ : ByteArray) := by unfold cutS; rw [hpc]
      have hpl : pc.length ≤ 1200001 := by
        rw [← hpc]
        have e1 := cutL_len 44 r.data.toList
        have e2 : r.data.toList.length = r.size := Array.length_toList
        have := HPZ.out.2
        omega
      have hpx : ∀ x ∈ pc, x.length ≤ 1200000 := by
        intro x hx
        have e1 := cutL_le 44 r.data.toList x (by rw [hpc]; exact hx)
        have e2 : r.data.toList.length = r.size := Array.length_toList
        have := HPZ.out.2
        omega
      rw [hstrs] at hsp
      have HPC := Lib.hid hpc
      have HPX := Lib.hid hpx
      obtain ⟨m, hm⟩ : ∃ m, (pc.map fun x => (⟨x.toArray⟩ : ByteArray)).length = m := ⟨_, rfl⟩
      have HM : Hid (pc.length = m) := by show _ = _; rw [← hm, List.length_map]
      have hm6 : m ≤ 1200001 := by rw [← HM.out]; exact hpl
      rw [hm] at hsp
      clear hdat hp60 hpc hpx hstrs hpl
      go_wp2_with fail
      refine hsp.mono ?_
      rintro e w3 ⟨sa, sk, rfl, hstr, ho3⟩
      have hS : Hid (∀ i, i < m → ∃ b, sa = some ⟨b, 0, none⟩ ∧ wA.heap.size ≤ b ∧ w3.cell? ⟨b, i, none⟩ = some (.string ⟨(nthL pc i).toArray⟩)) := by
        intro i hi
        obtain ⟨a', cap', e, _, h⟩ := hstr.opt
        obtain ⟨b, e1, e2, e3⟩ := h i (by rw [hm]; exact hi)
        refine ⟨b, ?_, e2, ?_⟩
        · injection e with e
          rw [e]; exact e1
        · rw [e3, strAt_map pc i (by rw [HM.out]; exact hi)]
      have hm' := Lib.hid (And.intro hm trivial)
      have HO3 := Lib.hid (HOA.out.trans ho3 (by simp))
      have HCA3 := Lib.hid (HCA.out.only ho3 (by simp))
      have HCB3 := Lib.hid (HCB.out.only ho3 (by simp))
      have hb3 : B1 < w3.heap.size := HCA3.out.lt
      have hcap := hstr.len hm
      clear hsp hstr ho3 hm
      go_wp2_with fail
      go_loopw [11, 12, 13, 38] (fun _ _ _ vi wr => ∃ (i : Nat) (a : Option Addr) (k c : Nat), i ≤ m ∧ vi = .int .i64 (i : Int) ∧ (pc.take i).all (numOk 4) = true ∧ k = i ∧
        Ints wr w3.heap.size (.slice a k c) ((pc.take i).map fun x => (digV x : Int)) ∧ Cells wr B1 [.int .i64 n, .slice a k c] ∧ Only [B1] w3 wr) (fun _ _ _ vi _ => m - (intOf vi).toNat)
      case atStart => exact ⟨0, none, 0, 0, by omega, rfl, rfl, rfl, Ints.nil _ _, HCA3.out, Only.refl _ _⟩
      case round =>
        obtain ⟨wo, rfl⟩ : ∃ wo : World, wo = wr := ⟨_, rfl⟩
        obtain ⟨i, a, k, c, him, rfl, hall, rfl, hI, hC, ho⟩ := hrel
        have HALL := Lib.hid hall
        have HI := Lib.hid hI
        have HC := Lib.hid hC
        have HO := Lib.hid ho
        have hFW : Only [] w wo := HO3.out.trans ho (fun x hx hl => by simp at hx; subst hx; omega)
        have HFW := Lib.hid hFW
        have HCBo := Lib.hid (HCB3.out.only ho (by simp; omega))
        clear hall hI hC ho
        by_cases hlt : k < m
        · obtain ⟨sb, rfl, hsb, hcs⟩ := hS.out k hlt
          have hcw : wo.cell? ⟨sb, k, none⟩ = some (.string ⟨(nthL pc k).toArray⟩) := (HO.out.cell (p := ⟨sb, k, none⟩) (cell_lt hcs) (by simp; omega)).trans hcs
          have hxm : nthL pc k ∈ pc := nthL_mem (by rw [HM.out]; exact hlt)
          have hxl := HPX.out _ hxm
          have hget : ∃ h : k < pc.length, pc[k] = nthL pc k := nthL_get (by rw [HM.out]; exact hlt)
          have HGET := Lib.hid hget
          obtain ⟨x, hx⟩ : ∃ x, nthL pc k = x := ⟨_, rfl⟩
          rw [hx] at hcw hxl
          have HX := Lib.hid hx
          have hnum := HN.out ⟨x.toArray⟩ (by show x.toArray.size ≤ _; rw [List.size_toArray]; exact hxl) wo hFW
          obtain ⟨xb, hxb⟩ : ∃ xb : ByteArray, (⟨x.toArray⟩ : ByteArray) = xb := ⟨_, rfl⟩
          have HXB : Hid (xb.data.toList = x) := by show _ = _; rw [← hxb]
          rw [hxb] at hcw hnum
          clear hcs hxm hxl hx hget hFW hxb
          go_wp2_with fail
          refine hnum.mono ?_
          rintro e w4 ⟨q, rfl, hqb, hqv, ho4⟩
          rw [HXB.out] at hqv ⊢
          have HQV := Lib.hid hqv
          have HO4 := Lib.hid ho4
          have HC4 := Lib.hid (HC.out.only ho4 (by simp))
          have HI4 := Lib.hid (Ints.only HI.out ho4 (by simp))
          have HCB4 := Lib.hid (HCBo.out.only ho4 (by simp))
          have HF4 := Lib.hid (HFW.out.trans ho4 (by simp))
          have hsz4 := ho4.size
          have hszo := HO.out.size
          clear hnum hqv ho4
          cases hnk : numOk 4 x with
          | false =>
            have hcA := HC4.out.cell 0 _ rfl
            have hcA1 := HC4.out.cell 1 _ rfl
            have hcB := HCB4.out.cell 0 _ rfl
            have hcB1 := HCB4.out.cell 1 _ rfl
            have hfB := HCB4.out.free 0 _ rfl
            have hfB1 := HCB4.out.free 1 _ rfl
            obtain ⟨e1, e2, _⟩ := end_task HCB4.out hbb HF4.out (.int .i64 n) (.slice a k c)
            have E1 := Lib.hid e1
            have E2 := Lib.hid e2
            have hbad : Hid ((cutL 44 r.data.toList).all (numOk 4) = false) := by
              obtain ⟨h1, h2⟩ := HGET.out
              show _ = _
              rw [HPC.out]
              exact all_not h1 (by rw [h2, HX.out]; exact hnk)
            clear e1 e2 hnk
            go_wp2
            refine bodyPost_ret (results_cellT' rfl _ _ _ _ rfl (HLD.out _ _ _ E1.out)) rfl ?_
            unfold TaskOut
            exact ⟨_, _, _, _, false, rfl, E2.out, .inl ⟨rfl, by rw [HDAT.out]; exact readT_no HP60.out hbad.out⟩⟩
          | true =>
            have hcA := HC4.out.cell 0 _ rfl
            have hcA1 := HC4.out.cell 1 _ rfl
            have hfA1 := HC4.out.free 1 _ rfl
            have hqv := HQV.out hnk
            have hok : Hid ((pc.take (k + 1)).all (numOk 4) = true) := by
              obtain ⟨h1, h2⟩ := HGET.out
              exact take_all HALL.out h1 (by rw [h2, HX.out]; exact hnk)
            have htk : Hid ((pc.take (k + 1)).map (fun x => (digV x : Int)) = (pc.take k).map (fun x => (digV x : Int)) ++ [q]) := by
              obtain ⟨h1, h2⟩ := HGET.out
              show _ = _
              rw [List.take_succ_eq_append_getElem h1, List.map_append, h2, HX.out]
              simp [hqv]
            have hlq : Hid (((pc.take k).map (fun x => (digV x : Int))).length = k) := by
              show _ = _
              rw [List.length_map, List.length_take, HM.out]; omega
            have hlt4 : B1 < w4.heap.size := HC4.out.lt
            have hfar : Hid (∀ y ∈ own (.slice a k c), w3.heap.size ≤ y ∧ y < w4.heap.size) := fun y hy => Row.far HI4.out y hy
            clear hnk hqv
            go_wp2_with (at_builtin; refine wpList_push rfl (.tmp 51) (.tmp 53) rfl w4 w3.heap.size _ _ w4.heap.size q k HI4.out hlq.out (by omega) (by omega) rfl rfl ((Only.refl [] w4).alloc _) (World.cell?_alloc_at _ _ _ _ rfl) ?_; intro g cap w5 hI5 hO5 hK5; have hC5 := HC4.out.only hO5 (fun h => by have := hfar.out _ h; omega); have e1 := hC5.cell 1 _ rfl; have f1 := hC5.free 1 _ rfl)
            have hsz5 := hO5.size
            have hset := hC5.set 1 (.slice (some ⟨g, 0, none⟩) (k + 1) cap)
            have hO6 : Only [B1] w3 (w5.setCell ⟨B1, 1, none⟩ (.slice (some ⟨g, 0, none⟩) (k + 1) cap)) :=
              ((HO.out.trans HO4.out (by simp)).trans hO5 (fun y hy hl => by have := hfar.out y hy; omega)).setCell (fun _ => by simp) _
            have hI6 : Ints (w5.setCell ⟨B1, 1, none⟩ (.slice (some ⟨g, 0, none⟩) (k + 1) cap)) w3.heap.size (.slice (some ⟨g, 0, none⟩) (k + 1) cap) ((pc.take (k + 1)).map fun x => (digV x : Int)) := by
              rw [htk.out]
              have hf := Row.far hI5
              exact Ints.only hI5 ((Only.refl [B1] w5).setCell (fun _ => by simp) _) (fun y hy hb => by have := hf y (by simpa [own] using hy); simp at hb; omega)
            have HR := Lib.hid (And.intro hset (And.intro hO6 hI6))
            clear hI5 hO5 hK5 hC5 hset hO6 hI6
            go_wp2
            go_roundw
            case rel => exact ⟨k + 1, _, _, _, by omega, by go_num, hok.out, rfl, HR.out.2.2, HR.out.1, HR.out.2.1⟩
            case measure => (simp [intOf]; try omega)
        · obtain rfl : k = m := by omega
          have hcA := HC.out.cell 0 _ rfl
          have hcA1 := HC.out.cell 1 _ rfl
          have hcB := HCBo.out.cell 0 _ rfl
          have hcB1 := HCBo.out.cell 1 _ rfl
          have hfB := HCBo.out.free 0 _ rfl
          have hfB1 := HCBo.out.free 1 _ rfl
          obtain ⟨e1, e2, e3⟩ := end_task HCBo.out hbb HFW.out (.int .i64 n) (.slice a k c)
          have E1 := Lib.hid e1
          have E2 := Lib.hid e2
          have hall : Hid (pc.take k = pc) := List.take_of_length_le (by rw [HM.out]; exact Nat.le_refl _)
          have hI' : Hid (Ints ((wo.setCell ⟨B0, 0, none⟩ (.int .i64 n)).setCell ⟨B0, 1, none⟩ (.slice a k c)) w.heap.size (.slice a k c) (pc.map fun x => (digV x : Int))) := by
            have h := HI.out
            rw [hall.out] at h
            have hf := Row.far h
            exact Row.mono (Ints.only h e3 (fun y hy hb => by have := hf y (by simpa [own] using hy); simp at hb; have := HCB3.out.lt; omega)) (by have := HO3.out.size; exact this)
          clear e1 e2 e3
          go_wp2
          refine bodyPost_ret (results_cellT' rfl _ _ _ _ rfl (HLD.out _ _ _ E1.out)) rfl ?_
          unfold TaskOut
          refine ⟨_, _, _, _, true, rfl, E2.out, .inr ⟨((digV p.data.toList : Int), pc.map fun x => (digV x : Int)), rfl, ?_, HNV.out HIS.out, hI'.out⟩⟩
          rw [HDAT.out, ← HPC.out]
          refine readT_two HP60.out HIS.out ?_
          rw [HPC.out, ← hall.out]
          exact HALL.out

end Go.Proofs.YtoofalchkedciaaGreatDoor
