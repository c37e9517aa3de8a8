/-
  Contracts of package cells: within, Check, op, fold, do.
-/
import Derived.Test.YtoofalchkedciaaGreatDoorP28TopGang
import Derived.Test.YtoofalchkedciaaGreatDoorP7TopGang
import Derived.Laws.ResultCell
import Derived.Shelf.Abstract
namespace Go.Proofs.YtoofalchkedciaaGreatDoor
open Go.RowKit Go.Deep

theorem results_cell1 {P : Program} {fn : Func} {p : Tmp} {ty : TypeId} (h : fn.results = #[.cell p ty]) (tmps : Array Value) (w : World) (a : Addr) (v : Value)
    (hp : tmps.getD p undef = .pointer (some a)) (hl : (loadVar ty a).run P w = .ok v w) : (results fn tmps).run P w = .ok v w := by
  have hp' : tmps[p]?.getD undef = .pointer (some a) := by simpa using hp
  simp [results, h, hp', asAddr, hl]

theorem cells_within (n : Int) (w : World) : Calls Tryz.prog 175 #[.int .i64 n] w fun e w' => e = .returned (.bool (decide (inV n))) ∧ w' = w := by
  obtain ⟨r, hr⟩ : ∃ r, decide (inV n) = r := ⟨_, rfl⟩
  have HR := Lib.hid hr
  rw [hr]
  clear hr
  by_cases h1 : -1000000000 ≤ n
  · by_cases h2 : n ≤ 1000000000
    · have e : Hid (r = true) := by show _ = _; rw [← HR.out]; exact decide_eq_true ⟨h1, h2⟩
      go_enter Tryz.func175, Tryz.ntmps175
      go_wp2
      go_ret
      exact ⟨by rw [e.out]; simp, rfl⟩
    · have e : Hid (r = false) := by show _ = _; rw [← HR.out]; exact decide_eq_false (fun h => h2 h.2)
      go_enter Tryz.func175, Tryz.ntmps175
      go_wp2
      go_ret
      exact ⟨by rw [e.out]; simp, rfl⟩
  · have e : Hid (r = false) := by show _ = _; rw [← HR.out]; exact decide_eq_false (fun h => h1 h.1)
    go_enter Tryz.func175, Tryz.ntmps175
    go_wp2
    go_ret
    exact ⟨by rw [e.out]; rfl, rfl⟩

/-- A function literal of two numbers that keeps the world. -/
def ByF (g : FuncId) (F : Int → Int → Int) : Prop := Entered g ∧ ∀ a b w, inV a → inV b → Calls Tryz.prog g #[.int .i64 a, .int .i64 b] w fun e w' => e = .returned (.int .i64 (F a b)) ∧ w' = w

theorem by_add : ByF 176 (fun a b => a + b) := by
  refine ⟨enters_of Tryz.func176 (by kernel_rfl) rfl, fun a b w ha hb => ?_⟩
  unfold inV at ha hb
  obtain ⟨a1, a2⟩ := ha
  obtain ⟨b1, b2⟩ := hb
  go_enter Tryz.func176, Tryz.ntmps176
  go_wp2
  go_ret
  exact ⟨rfl, rfl⟩
theorem by_max : ByF 178 (fun a b => max a b) := by
  refine ⟨enters_of Tryz.func178 (by kernel_rfl) rfl, fun a b w ha hb => ?_⟩
  unfold inV at ha hb
  obtain ⟨a1, a2⟩ := ha
  obtain ⟨b1, b2⟩ := hb
  go_enter Tryz.func178, Tryz.ntmps178
  go_wp2
  all_goals
    go_ret
    exact ⟨by show Ending.returned (.int .i64 _) = _; congr 2 <;> omega, rfl⟩
theorem mul_bd (a b : Int) (ha : inV a) (hb : inV b) : -1000000000000000000 ≤ a * b ∧ a * b ≤ 1000000000000000000 := by
  unfold inV at ha hb
  have h : (a * b).natAbs ≤ 1000000000 * 1000000000 := by
    rw [Int.natAbs_mul]
    exact Nat.mul_le_mul (by omega) (by omega)
  omega
theorem by_mul : ByF 179 (fun a b => a * b) := by
  refine ⟨enters_of Tryz.func179 (by kernel_rfl) rfl, fun a b w ha hb => ?_⟩
  have hm := mul_bd a b ha hb
  have hw : IntKind.i64.wrap (a * b) = a * b := IntWalk.i64_in _ (by omega)
  clear ha hb
  go_enter Tryz.func179, Tryz.ntmps179
  go_wp2
  go_ret
  exact ⟨rfl, rfl⟩

theorem foldC_drop (F : Int → Int → Int) (n : Int) (l : List Ce) (i : Nat) (hi : i < l.length) :
    foldC F n (l.drop i) = if (clAt l i).bad = true then ceBad else if inV (F n (clAt l i).n) then foldC F (F n (clAt l i).n) (l.drop (i + 1)) else ceBad := by
  rw [List.drop_eq_getElem_cons hi]
  have : clAt l i = l[i] := by simp [clAt, hi]
  rw [this]; rfl
theorem firstC_drop (n : Int) (l : List Ce) (i : Nat) (hi : i < l.length) : firstC n (l.drop i) = if (clAt l i).bad = true then firstC n (l.drop (i + 1)) else clAt l i := by
  rw [List.drop_eq_getElem_cons hi]
  have : clAt l i = l[i] := by simp [clAt, hi]
  rw [this]; rfl

def ceV (c : Ce) : Value := .agg #[.int .i64 c.n, .bool c.bad]

theorem load_ce (W : World) (B : Nat) (x : Int) (b : Bool) (h : Cells W B [.int .i64 x, .bool b]) : (loadVar 191 ⟨B, 0, none⟩).run Tryz.prog W = .ok (.agg #[.int .i64 x, .bool b]) W := by
  have c0 := h.cell 0 _ rfl
  have c1 := h.cell 1 _ rfl
  go_simp

theorem Cells.set2 {W : World} {B : Nat} {x y u v : Value} (h : Cells W B [x, y]) : Cells ((W.setCell ⟨B, 0, none⟩ u).setCell ⟨B, 1, none⟩ v) B [u, v] := by
  have h1 := (h.set 0 u).set 1 v
  exact h1

theorem endC {w wr : World} {x y : Value} (hB : Cells wr w.heap.size [x, y]) (ho : Only [] w wr) (u v : Value) :
    Cells ((wr.setCell ⟨w.heap.size, 0, none⟩ u).setCell ⟨w.heap.size, 1, none⟩ v) w.heap.size [u, v] ∧ Only [] w ((wr.setCell ⟨w.heap.size, 0, none⟩ u).setCell ⟨w.heap.size, 1, none⟩ v) :=
  ⟨hB.set2, (ho.setCell (p := ⟨w.heap.size, 0, none⟩) (fun h => by simp at h) u).setCell (p := ⟨w.heap.size, 1, none⟩) (fun h => by simp at h) v⟩

set_option maxRecDepth 100000 in
set_option maxHeartbeats 2000000 in
theorem cells_fold (g : FuncId) (F : Int → Int → Int) (hg : ByF g F) (n : Int) (v : Value) (l : List Ce) (w : World) (hn : inV n) (hv : KellsAt w v l) (hl : ∀ c ∈ l, ceOk c) (hlen : l.length ≤ 1000000000) :
    Calls Tryz.prog 177 #[.int .i64 n, v, .func (.func g) #[] #[]] w fun e w' => e = .returned (ceV (foldC F n l)) ∧ Only [] w w' := by
  obtain ⟨a, cap, rfl, ha⟩ := hv.opt
  obtain ⟨m, hm⟩ : ∃ m, l.length = m := ⟨_, rfl⟩
  have HM := Lib.hid hm
  have HA := Lib.hid ha
  have HL := Lib.hid hl
  obtain ⟨hen, hby⟩ := hg
  have HB := Lib.hid hby
  have HN := Lib.hid hn
  have HD := Lib.hid (fun (x : Int) i hi => foldC_drop F x l i hi)
  have HW := Lib.hid cells_within
  have HLD := Lib.hid load_ce
  obtain ⟨R, hR⟩ : ∃ R, foldC F n l = R := ⟨_, rfl⟩
  have HR := Lib.hid hR
  rw [hm] at HA hlen ⊢
  rw [hR]
  clear hv ha hl hm hby hn hR
  go_enter Tryz.func177, Tryz.ntmps177
  have hB := Cells.new w #[.int .i64 0, .bool false] 191
  have hal := (Only.refl [] w).alloc (.cells #[.int .i64 0, .bool false] 191)
  go_wp2_with fail
  go_loopw [0, 8, 11] (fun v0 v8 v11 wr => ∃ (i : Nat) (x : Int), i ≤ m ∧ v0 = .int .i64 x ∧ v11 = .int .i64 i ∧ inV x ∧ R = foldC F x (l.drop i) ∧ Cells wr w.heap.size [.int .i64 0, .bool false] ∧ Only [] w wr) (fun _ _ v11 _ => m - (intOf v11).toNat)
  case atStart => exact ⟨0, n, Nat.zero_le _, rfl, rfl, HN.out, HR.out.symm, hB, hal⟩
  case round =>
    clear hB hal
    obtain ⟨i, x, hi, rfl, rfl, hx, hRi, hB, ho⟩ := hrel
    have HX := Lib.hid hx
    have HRI := Lib.hid hRi
    clear hx hRi
    by_cases him : i < m
    · have hil : i < l.length := by rw [HM.out]; exact him
      have hd := HD.out x i hil
      have hok := HL.out _ (clAt_mem hil)
      obtain ⟨b, off, rfl, k0, k1⟩ := HA.out i him
      have c0 := (ho.cell (p := ⟨b, _, none⟩) (cell_lt k0) (by simp)).trans k0
      have c1 := (ho.cell (p := ⟨b, _, none⟩) (cell_lt k1) (by simp)).trans k1
      obtain ⟨c, hc⟩ : ∃ c, clAt l i = c := ⟨_, rfl⟩
      rw [hc] at hd hok c0 c1
      obtain ⟨cn, cb⟩ := c
      simp only at c0 c1 hd
      have HOK := Lib.hid hok
      have HDD := Lib.hid hd
      have hl2 := hB.lt
      have hne : ¬ wr.heap.size = w.heap.size := by omega
      clear hd hok hc k0 k1
      cases cb with
      | true =>
        have hRB : Hid (R = ceBad) := by show _ = _; rw [HRI.out, HDD.out, if_pos rfl]
        have b0 := hB.cell 0 _ rfl
        have b1 := hB.cell 1 _ rfl
        have f0 := (hB 0 _ rfl).2
        have f1 := (hB 1 _ rfl).2
        obtain ⟨e1, e2⟩ := endC hB ho (.int .i64 0) (.bool true)
        have HE1 := Lib.hid (e1.only ((Only.refl [] _).alloc (.cells #[.int .i64 cn, .bool true] 191)) (by simp))
        have HE2 := Lib.hid (e2.alloc (.cells #[.int .i64 cn, .bool true] 191))
        clear hB e1 e2 ho
        go_wp2
        refine bodyPost_ret (results_cell1 rfl _ _ _ _ rfl (HLD.out _ _ _ _ HE1.out)) rfl ?_
        exact ⟨by rw [hRB.out]; rfl, HE2.out⟩
      | false =>
        have hcl := fun W => HB.out x cn W HX.out HOK.out.1
        obtain ⟨y, hy⟩ : ∃ y, F x cn = y := ⟨_, rfl⟩
        rw [hy] at hcl
        have HY := Lib.hid hy
        clear hy
        have hB2 := hB.only ((Only.refl [] wr).alloc (.cells #[.int .i64 cn, .bool false] 191)) (by simp)
        have ho2 := ho.alloc (.cells #[.int .i64 cn, .bool false] 191)
        go_wp2_with fail
        rw [hen, Oper.upon_enter]
        refine (hcl _).mono ?_
        rintro e w9 ⟨rfl, rfl⟩
        clear hcl
        go_wp2_with fail
        refine (HW.out y _).mono ?_
        rintro e w8 ⟨rfl, hw8⟩
        by_cases hin : inV y
        · have hd1 : decide (inV y) = true := decide_eq_true hin
          have hRB : Hid (R = foldC F y (l.drop (i + 1))) := by show _ = _; rw [HRI.out, HDD.out, HY.out, if_neg (by simp), if_pos hin]
          rw [hd1]
          subst hw8
          have HB2 := Lib.hid hB2
          have HO2 := Lib.hid ho2
          have HIN := Lib.hid hin
          clear hB hB2 ho ho2 hin hd1
          go_wp2
          go_roundw
          case rel => exact ⟨i + 1, y, by omega, rfl, by go_num, HIN.out, hRB.out, HB2.out, HO2.out⟩
          case measure => (simp [intOf]; try omega)
        · have hd1 : decide (inV y) = false := decide_eq_false hin
          have hRB : Hid (R = ceBad) := by show _ = _; rw [HRI.out, HDD.out, HY.out, if_neg (by simp), if_neg hin]
          rw [hd1]
          subst hw8
          have b0 := hB.cell 0 _ rfl
          have b1 := hB.cell 1 _ rfl
          have f0 := (hB 0 _ rfl).2
          have f1 := (hB 1 _ rfl).2
          obtain ⟨e1, e2⟩ := endC hB ho (.int .i64 0) (.bool true)
          have HE1 := Lib.hid (e1.only ((Only.refl [] _).alloc (.cells #[.int .i64 cn, .bool false] 191)) (by simp))
          have HE2 := Lib.hid (e2.alloc (.cells #[.int .i64 cn, .bool false] 191))
          clear hB hB2 e1 e2 ho ho2 hin hd1
          go_wp2
          refine bodyPost_ret (results_cell1 rfl _ _ _ _ rfl (HLD.out _ _ _ _ HE1.out)) rfl ?_
          exact ⟨by rw [hRB.out]; rfl, HE2.out⟩
    · obtain rfl : i = m := by omega
      have hRB : Hid (R = ⟨x, false⟩) := by show _ = _; rw [HRI.out, List.drop_of_length_le (by rw [HM.out]; exact Nat.le_refl _)]; rfl
      have b0 := hB.cell 0 _ rfl
      have b1 := hB.cell 1 _ rfl
      have f0 := (hB 0 _ rfl).2
      have f1 := (hB 1 _ rfl).2
      obtain ⟨e1, e2⟩ := endC hB ho (.int .i64 x) (.bool false)
      have HE1 := Lib.hid e1
      have HE2 := Lib.hid e2
      clear hB e1 e2 ho
      go_wp2
      refine bodyPost_ret (results_cell1 rfl _ _ _ _ rfl (HLD.out _ _ _ _ HE1.out)) rfl ?_
      exact ⟨by rw [hRB.out]; rfl, HE2.out⟩

def opV (o : Opn) : Value := .agg #[.int .i64 o.what, .int .i64 o.n]
theorem endB {w wr : World} {B : Nat} {x y : Value} (hB : Cells wr B [x, y]) (hw : w.heap.size ≤ B) (ho : Only [] w wr) (u v : Value) :
    Cells ((wr.setCell ⟨B, 0, none⟩ u).setCell ⟨B, 1, none⟩ v) B [u, v] ∧ Only [] w ((wr.setCell ⟨B, 0, none⟩ u).setCell ⟨B, 1, none⟩ v) :=
  ⟨hB.set2, (ho.setCell (p := ⟨B, 0, none⟩) (fun h => by simp at h; omega) u).setCell (p := ⟨B, 1, none⟩) (fun h => by simp at h; omega) v⟩

set_option maxRecDepth 100000 in
set_option maxHeartbeats 4000000 in
theorem cells_do (o : Opn) (v : Value) (l : List Ce) (w : World) (hop : opOk o) (hv : KellsAt w v l) (hl : ∀ c ∈ l, ceOk c) (hlen : l.length ≤ 1000000000) :
    Calls Tryz.prog 136 #[opV o, v] w fun e w' => e = .returned (ceV (doC o l)) ∧ Only [] w w' := by
  obtain ⟨R, hR⟩ : ∃ R, doC o l = R := ⟨_, rfl⟩
  have HR := Lib.hid hR
  rw [hR]
  clear hR
  obtain ⟨wh, n⟩ := o
  obtain ⟨h1, h5, hin⟩ := hop
  simp only at h1 h5 hin
  have hA : Hid (∀ w', Only [] w w' → ∀ n, inV n → Calls Tryz.prog 177 #[.int .i64 n, v, .func (.func 176) #[] #[]] w' fun e w9 => e = .returned (ceV (foldC (fun a b => a + b) n l)) ∧ Only [] w' w9) :=
    fun w' ho n hn => cells_fold _ _ by_add n v l w' hn (hv.same ho) hl hlen
  have hM : Hid (∀ w', Only [] w w' → ∀ n, inV n → Calls Tryz.prog 177 #[.int .i64 n, v, .func (.func 178) #[] #[]] w' fun e w9 => e = .returned (ceV (foldC (fun a b => max a b) n l)) ∧ Only [] w' w9) :=
    fun w' ho n hn => cells_fold _ _ by_max n v l w' hn (hv.same ho) hl hlen
  have hP : Hid (∀ w', Only [] w w' → ∀ n, inV n → Calls Tryz.prog 177 #[.int .i64 n, v, .func (.func 179) #[] #[]] w' fun e w9 => e = .returned (ceV (foldC (fun a b => a * b) n l)) ∧ Only [] w' w9) :=
    fun w' ho n hn => cells_fold _ _ by_mul n v l w' hn (hv.same ho) hl hlen
  have HV := Lib.hid hv
  obtain ⟨a, cap, rfl, ha⟩ := hv.opt
  have HA := Lib.hid ha
  have HLD := Lib.hid load_ce
  have HIN := Lib.hid hin
  have HFD := Lib.hid (fun i hi => firstC_drop n l i hi)
  obtain ⟨m, hm⟩ : ∃ m, l.length = m := ⟨_, rfl⟩
  have HM := Lib.hid hm
  rw [hm] at HA hlen hA hM hP ⊢
  clear hv ha hl hm hin
  have hb := Cells.new w #[.int .i64 wh, .int .i64 n] 232
  have hal1 := (Only.refl [] w).alloc (.cells #[.int .i64 wh, .int .i64 n] 232)
  have hB := Cells.new (w.alloc (.cells #[.int .i64 wh, .int .i64 n] 232)) #[.int .i64 0, .bool false] 191
  have hb := hb.only ((Only.refl [] _).alloc (.cells #[.int .i64 0, .bool false] 191)) (by simp)
  have hal := hal1.alloc (.cells #[.int .i64 0, .bool false] 191)
  rw [World.size_alloc] at hB
  obtain ⟨w2, hw2⟩ : ∃ w2, (w.alloc (.cells #[.int .i64 wh, .int .i64 n] 232)).alloc (.cells #[.int .i64 0, .bool false] 191) = w2 := ⟨_, rfl⟩
  rw [hw2] at hb hB hal
  have cb := hb.cell 1 _ rfl
  have cb0 := hb.cell 0 _ rfl
  simp only [opV]
  go_enter Tryz.func136, Tryz.ntmps136
  clear hal1
  have hcase : wh = 1 ∨ wh = 2 ∨ wh = 3 ∨ wh = 4 ∨ wh = 5 := by omega
  rcases hcase with rfl | rfl | rfl | rfl | rfl
  · have hca := hA.out w2 hal n HIN.out
    have hRB : Hid (R = foldC (fun a b => a + b) n l) := by show _ = _; rw [← HR.out]; rfl
    go_wp2_with fail
    refine hca.mono ?_
    rintro e w3 ⟨rfl, ho3⟩
    rw [← hRB.out]
    have hB3 := hB.only ho3 (by simp)
    have ho := hal.trans ho3 (by simp)
    have b0 := hB3.cell 0 _ rfl
    have b1 := hB3.cell 1 _ rfl
    have f0 := (hB3 0 _ rfl).2
    have f1 := (hB3 1 _ rfl).2
    obtain ⟨e1, e2⟩ := endB hB3 (Nat.le_succ _) ho (.int .i64 R.n) (.bool R.bad)
    have HE1 := Lib.hid e1
    have HE2 := Lib.hid e2
    simp only [ceV]
    clear hca hB hB3 e1 e2 ho ho3 hal
    go_wp2
    refine bodyPost_ret (results_cell1 rfl _ _ _ _ rfl (HLD.out _ _ _ _ HE1.out)) rfl ?_
    exact ⟨rfl, HE2.out⟩
  · have hca := hM.out w2 hal n HIN.out
    have hRB : Hid (R = foldC (fun a b => max a b) n l) := by show _ = _; rw [← HR.out]; rfl
    go_wp2_with fail
    refine hca.mono ?_
    rintro e w3 ⟨rfl, ho3⟩
    rw [← hRB.out]
    have hB3 := hB.only ho3 (by simp)
    have ho := hal.trans ho3 (by simp)
    have b0 := hB3.cell 0 _ rfl
    have b1 := hB3.cell 1 _ rfl
    have f0 := (hB3 0 _ rfl).2
    have f1 := (hB3 1 _ rfl).2
    obtain ⟨e1, e2⟩ := endB hB3 (Nat.le_succ _) ho (.int .i64 R.n) (.bool R.bad)
    have HE1 := Lib.hid e1
    have HE2 := Lib.hid e2
    simp only [ceV]
    clear hca hB hB3 e1 e2 ho ho3 hal
    go_wp2
    refine bodyPost_ret (results_cell1 rfl _ _ _ _ rfl (HLD.out _ _ _ _ HE1.out)) rfl ?_
    exact ⟨rfl, HE2.out⟩
  · have hca := hP.out w2 hal n HIN.out
    have hRB : Hid (R = foldC (fun a b => a * b) n l) := by show _ = _; rw [← HR.out]; rfl
    go_wp2_with fail
    refine hca.mono ?_
    rintro e w3 ⟨rfl, ho3⟩
    rw [← hRB.out]
    have hB3 := hB.only ho3 (by simp)
    have ho := hal.trans ho3 (by simp)
    have b0 := hB3.cell 0 _ rfl
    have b1 := hB3.cell 1 _ rfl
    have f0 := (hB3 0 _ rfl).2
    have f1 := (hB3 1 _ rfl).2
    obtain ⟨e1, e2⟩ := endB hB3 (Nat.le_succ _) ho (.int .i64 R.n) (.bool R.bad)
    have HE1 := Lib.hid e1
    have HE2 := Lib.hid e2
    simp only [ceV]
    clear hca hB hB3 e1 e2 ho ho3 hal
    go_wp2
    refine bodyPost_ret (results_cell1 rfl _ _ _ _ rfl (HLD.out _ _ _ _ HE1.out)) rfl ?_
    exact ⟨rfl, HE2.out⟩
  · have hca := hA.out w2 hal 0 (by unfold inV; omega)
    have hRB : Hid (R = splitC n (foldC (fun a b => a + b) 0 l)) := by show _ = _; rw [← HR.out]; rfl
    have hok := foldC_ok (fun a b => a + b) 0 l (by unfold inV; omega)
    obtain ⟨s, hs⟩ : ∃ s, foldC (fun a b => a + b) 0 l = s := ⟨_, rfl⟩
    rw [hs] at hca hRB hok
    obtain ⟨sn, sb⟩ := s
    have hsv := hok.1
    simp only [ceV] at hca hsv
    unfold inV at hsv
    obtain ⟨s1, s2⟩ := hsv
    have hn := HIN.out
    unfold inV at hn
    obtain ⟨n1, n2⟩ := hn
    clear hs hok
    go_wp2_with fail
    refine hca.mono ?_
    rintro e w3 ⟨rfl, ho3⟩
    have hB3 := hB.only ho3 (by simp)
    have hb3 := hb.only ho3 (by simp)
    have ho := hal.trans ho3 (by simp)
    have hoc := ho.alloc (.cells #[.int .i64 sn, .bool sb] 191)
    have hlt := hB3.lt
    have hlt2 := hb3.lt
    have hB4 := hB3.only ((Only.refl [] _).alloc (.cells #[.int .i64 sn, .bool sb] 191)) (by simp)
    have b0 := hB3.cell 0 _ rfl
    have b1 := hB3.cell 1 _ rfl
    have f0 := (hB3 0 _ rfl).2
    have f1 := (hB3 1 _ rfl).2
    have c1 := hb3.cell 1 _ rfl
    have hne : ¬ w3.heap.size = w.heap.size + 1 := by omega
    have hne2 : ¬ w3.heap.size = w.heap.size := by omega
    clear hca hB hb hal ho3 hb3
    by_cases hbad : sb = true ∨ sn = 0
    · have hRC : Hid (R = ceBad) := by show _ = _; rw [hRB.out]; unfold splitC; rw [if_pos hbad]
      obtain ⟨e1, e2⟩ := endB hB3 (Nat.le_succ _) ho (.int .i64 0) (.bool true)
      have HE1 := Lib.hid (e1.only ((Only.refl [] _).alloc (.cells #[.int .i64 sn, .bool sb] 191)) (by simp))
      have HE2 := Lib.hid (e2.alloc (.cells #[.int .i64 sn, .bool sb] 191))
      clear hB3 hB4 e1 e2 ho hoc
      cases sb with
      | true =>
        go_wp2
        refine bodyPost_ret (results_cell1 rfl _ _ _ _ rfl (HLD.out _ _ _ _ HE1.out)) rfl ?_
        exact ⟨by rw [hRC.out]; rfl, HE2.out⟩
      | false =>
        have hz : sn = 0 := by simpa using hbad
        subst hz
        go_wp2
        refine bodyPost_ret (results_cell1 rfl _ _ _ _ rfl (HLD.out _ _ _ _ HE1.out)) rfl ?_
        exact ⟨by rw [hRC.out]; rfl, HE2.out⟩
    · have hsb : sb = false := by cases sb <;> simp at hbad ⊢
      subst hsb
      have hz : sn ≠ 0 := fun e => hbad (.inr e)
      have hRC : Hid (R = ⟨n.tdiv sn, false⟩) := by show _ = _; rw [hRB.out]; unfold splitC; rw [if_neg hbad]
      have hz2 : (sn == 0) = false := by simpa using hz
      have htd := tdiv_in n sn HIN.out
      unfold inV at htd
      have hwr : IntKind.i64.wrap (n.tdiv sn) = n.tdiv sn := IntWalk.i64_in _ (by omega)
      obtain ⟨e1, e2⟩ := endB hB3 (Nat.le_succ _) ho (.int .i64 (n.tdiv sn)) (.bool false)
      have HE1 := Lib.hid (e1.only ((Only.refl [] _).alloc (.cells #[.int .i64 sn, .bool false] 191)) (by simp))
      have HE2 := Lib.hid (e2.alloc (.cells #[.int .i64 sn, .bool false] 191))
      clear hB3 hB4 e1 e2 ho hoc hbad
      go_wp2
      refine bodyPost_ret (results_cell1 rfl _ _ _ _ rfl (HLD.out _ _ _ _ HE1.out)) rfl ?_
      exact ⟨by rw [hRC.out]; rfl, HE2.out⟩
  · have hRB : Hid (R = firstC n l) := by show _ = _; rw [← HR.out]; rfl
    clear hA hM hP
    go_wp2_with fail
    go_loopw [8, 51] (fun v8 vi wr => ∃ i : Nat, i ≤ m ∧ vi = .int .i64 i ∧ R = firstC n (l.drop i) ∧ Only [] w2 wr) (fun _ vi _ => m - (intOf vi).toNat)
    case atStart => exact ⟨0, Nat.zero_le _, rfl, hRB.out, Only.refl _ _⟩
    case round =>
      obtain ⟨i, hi, rfl, hRi, ho⟩ := hrel
      have HRI := Lib.hid hRi
      have hB3 := hB.only ho (by simp)
      have hb3 := hb.only ho (by simp)
      have hoo := hal.trans ho (by simp)
      have hlt := hB3.lt
      have hne : ¬ wr.heap.size = w.heap.size + 1 := by omega
      have b0 := hB3.cell 0 _ rfl
      have b1 := hB3.cell 1 _ rfl
      have f0 := (hB3 0 _ rfl).2
      have f1 := (hB3 1 _ rfl).2
      have c1 := hb3.cell 1 _ rfl
      clear hRi
      by_cases him : i < m
      · have hil : i < l.length := by rw [HM.out]; exact him
        have hd := HFD.out i hil
        obtain ⟨b, off, rfl, k0, k1⟩ := HA.out i him
        have c0 := (hoo.cell (p := ⟨b, _, none⟩) (cell_lt k0) (by simp)).trans k0
        have c1 := (hoo.cell (p := ⟨b, _, none⟩) (cell_lt k1) (by simp)).trans k1
        obtain ⟨c, hc⟩ : ∃ c, clAt l i = c := ⟨_, rfl⟩
        rw [hc] at hd c0 c1
        obtain ⟨cn, cb⟩ := c
        simp only at c0 c1 hd
        have HDD := Lib.hid hd
        clear hd hc k0 k1
        cases cb with
        | true =>
          have hR2 : Hid (R = firstC n (l.drop (i + 1))) := by show _ = _; rw [HRI.out, HDD.out, if_pos rfl]
          have HO := Lib.hid (ho.alloc (.cells #[.int .i64 cn, .bool true] 191))
          clear ho hoo hB3 hb3
          go_wp2
          go_roundw
          case rel => exact ⟨i + 1, by omega, by go_num, hR2.out, HO.out⟩
          case measure => (simp [intOf]; try omega)
        | false =>
          have hR2 : Hid (R = ⟨cn, false⟩) := by show _ = _; rw [HRI.out, HDD.out, if_neg (by simp)]
          obtain ⟨e1, e2⟩ := endB hB3 (Nat.le_succ _) hoo (.int .i64 cn) (.bool false)
          have HE1 := Lib.hid (e1.only ((Only.refl [] _).alloc (.cells #[.int .i64 cn, .bool false] 191)) (by simp))
          have HE2 := Lib.hid (e2.alloc (.cells #[.int .i64 cn, .bool false] 191))
          clear e1 e2 ho hoo hB3 hb3
          go_wp2
          refine bodyPost_ret (results_cell1 rfl _ _ _ _ rfl (HLD.out _ _ _ _ HE1.out)) rfl ?_
          exact ⟨by rw [hR2.out]; rfl, HE2.out⟩
      · obtain rfl : i = m := by omega
        have hR2 : Hid (R = ⟨n, false⟩) := by show _ = _; rw [HRI.out, List.drop_of_length_le (by rw [HM.out]; exact Nat.le_refl _)]; rfl
        obtain ⟨e1, e2⟩ := endB hB3 (Nat.le_succ _) hoo (.int .i64 n) (.bool false)
        have HE1 := Lib.hid e1
        have HE2 := Lib.hid e2
        clear e1 e2 ho hoo hB3 hb3
        go_wp2
        refine bodyPost_ret (results_cell1 rfl _ _ _ _ rfl (HLD.out _ _ _ _ HE1.out)) rfl ?_
        exact ⟨by rw [hR2.out]; rfl, HE2.out⟩

end Go.Proofs.YtoofalchkedciaaGreatDoor
