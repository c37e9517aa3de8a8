/-
  Contract of list.Each.
  Contract of greedy.Hands.
  What is wrong with a plan, and hands.
  Contracts of list.Run and list.Long.
-/
import Derived.Test.YtocpmncedlenbaaGreatDoorP37TopWeave
import Derived.Test.YtocpmncedlenbaaGreatDoorP10TopWeave
import Derived.Test.YtocpmncedlenbaaGreatDoorP1TopWeave
import Derived.Test.YtocpmncedlenbaaGreatDoorRows
import Derived.Test.YtocpmncedlenbaaGreatDoorP36TopWeave
namespace Go.Proofs.YtocpmncedlenbaaGreatDoor
open Go.RowKit Go.Sort

/-- The order l names each of n once. -/
def EachOf (n : Nat) (l : List Int) : Prop := l.Perm (natL (List.range n))
noncomputable instance (n : Nat) (l : List Int) : Decidable (EachOf n l) := Classical.propDecidable _

def leZ (x y : Int) : Bool := decide (x ≤ y)
theorem leZ_trans : ∀ a b c : Int, leZ a b = true → leZ b c = true → leZ a c = true := fun a b c h1 h2 => by simp only [leZ, decide_eq_true_eq] at *; omega
theorem leZ_total : ∀ a b : Int, (leZ a b || leZ b a) = true := fun a b => by simp only [leZ, Bool.or_eq_true, decide_eq_true_eq]; omega

theorem range_sorted (n : Nat) : (natL (List.range n)).Pairwise (fun a b => leZ a b = true) := by
  unfold natL
  rw [List.pairwise_map]
  refine List.Pairwise.imp ?_ (List.pairwise_lt_range (n := n))
  intro a b h; simp only [leZ, decide_eq_true_eq]; omega

theorem each_sorted {n : Nat} {l : List Int} : EachOf n l ↔ l.mergeSort leZ = natL (List.range n) := by
  constructor
  · intro h
    refine List.Perm.eq_of_pairwise (le := fun a b => leZ a b = true) (fun a b _ _ h1 h2 => ?_) (List.pairwise_mergeSort leZ_trans leZ_total l) (range_sorted n) ((List.mergeSort_perm l leZ).trans h)
    simp only [leZ, decide_eq_true_eq] at h1 h2; omega
  · intro h
    unfold EachOf
    rw [← h]
    exact (List.mergeSort_perm l leZ).symm

theorem each_iff {n : Nat} {l L : List Int} (hL : l.mergeSort leZ = L) : EachOf n l ↔ L.length = n ∧ ∀ j, j < L.length → nth L j = (j : Int) := by
  rw [each_sorted, hL]
  constructor
  · rintro rfl
    refine ⟨by simp [natL], fun j hj => ?_⟩
    have hj : j < n := by simpa [natL] using hj
    rw [natL_nth _ _ (by simpa using hj)]
    simp
  · rintro ⟨h1, h2⟩
    apply List.ext_getElem
    · simp [natL, h1]
    · intro i a b
      have := h2 i a
      simp [nth, a] at this
      rw [this]
      simp [natL]

theorem EachOf.mem {n : Nat} {l : List Int} (h : EachOf n l) : ∃ o : List Nat, l = natL o ∧ o.Perm (List.range n) := by
  refine ⟨l.map Int.toNat, ?_, ?_⟩
  · have hm : ∀ x ∈ l, 0 ≤ x := fun x hx => by
      have := (h.mem_iff (a := x)).1 hx
      unfold natL at this
      obtain ⟨j, _, rfl⟩ := List.mem_map.1 this
      omega
    unfold natL
    rw [List.map_map]
    have : ∀ x ∈ l, ((fun (i : Nat) => (i : Int)) ∘ Int.toNat) x = x := fun x hx => by
      have := hm x hx
      simp; omega
    rw [List.map_congr_left this]; simp
  · have := h.map Int.toNat
    have e : (natL (List.range n)).map Int.toNat = List.range n := by
      unfold natL; rw [List.map_map]
      have : ∀ x ∈ List.range n, (Int.toNat ∘ fun (i : Nat) => (i : Int)) x = x := fun x _ => by simp
      rw [List.map_congr_left this]; simp
    rwa [e] at this

set_option maxRecDepth 100000 in
set_option maxHeartbeats 2000000 in
theorem list_Each (n : Nat) (v : Value) (l : List Int) (w : World) (h : Reads w v l) (hl : l.length ≤ 17592186044416) (hn : n ≤ 1000000000) :
    Calls Tryz.prog 59 #[.int .i64 (n : Int), v] w fun e w' => e = .returned (.bool (decide (EachOf n l))) ∧ Only [] w w' := by
  obtain ⟨R, hR⟩ : ∃ R, decide (EachOf n l) = R := ⟨_, rfl⟩
  have HR := Lib.hid hR
  rw [hR]
  clear hR
  obtain ⟨a, cap, rfl, hcell⟩ := h.opt
  have hown : 0 < l.length → ∀ x ∈ own (.slice a l.length cap), x < w.heap.size + 1 ∧ x ∉ ([] : List Nat) := fun h0 x hx => by
    obtain ⟨b, off, rfl, hc⟩ := hcell 0 h0
    obtain rfl : x = b := by simpa [own, Value.ownBlock] using hx
    have := cell_lt hc
    simp only at this
    exact ⟨by omega, by simp⟩
  have hr1 := h.same ((Only.refl [] w).alloc (.cells #[.slice a l.length cap] 32))
  have hB1 := (Cells.new w #[.slice a l.length cap] 32).cell 0 _ rfl
  have hs := sorted_seq 164 #[.pointer (some ⟨w.heap.size, 0, none⟩)] (fun ys => ys = l) (fun pre => ∃ k, k ≤ l.length ∧ pre = l.take k) l.length hl (w.alloc (.cells #[.slice a l.length cap] 32)) (enters_of Tryz.func164 (by kernel_rfl) rfl)
    (fun n => values_stops n w.heap.size _ [] (.slice a l.length cap) l _ (by omega) (by rw [World.size_alloc]; exact hown) hB1 hr1) (fun xs hx => by rw [hx]; exact Nat.le_refl _)
  have hv := fun W => (callsIn_wide (n := 3)).1 (values_mk 3 a l.length cap W)
  have ho1 := (Only.refl [] w).alloc (.cells #[.slice a l.length cap] 32)
  obtain ⟨m, hm⟩ : ∃ m, l.length = m := ⟨_, rfl⟩
  rw [hm] at hs hv hl ho1 ⊢
  have HM := Lib.hid hm
  clear h hcell hown hr1 hB1 hm
  go_enter Tryz.func59, Tryz.ntmps59
  go_wp2_with fail
  refine (hv w).mono ?_
  rintro e w1 ⟨rfl, hw1⟩
  rw [← hw1] at hs ho1
  clear hv hw1
  go_wp2_with fail
  refine hs.mono ?_
  rintro e w2 ⟨v2, xs, rfl, rfl, hI, ho2⟩
  have ho2 := ho1.trans ho2 (by simp)
  obtain ⟨L, hL⟩ : ∃ L, xs.mergeSort (fun x y => decide (x ≤ y)) = L := ⟨_, rfl⟩
  have HE := Lib.hid (each_iff (n := n) (l := xs) (L := L) hL)
  have hlen : L.length = m := by rw [← hL, List.length_mergeSort]; exact HM.out
  rw [hL] at hI
  obtain ⟨b, c, rfl, hc⟩ := hI.reads.opt
  rw [hlen] at hc ⊢
  have HC := Lib.hid hc
  have HLN := Lib.hid hlen
  have HO := Lib.hid ho2
  clear hs ho1 ho2 hI hL hc hlen
  go_wp2_with fail
  go_loopw [6, 7, 13] (fun _ _ vi wr => ∃ i : Nat, i ≤ m ∧ vi = .int .i64 i ∧ (∀ j, j < i → nth L j = (j : Int)) ∧ Only [] w2 wr) (fun _ _ vi _ => m - (intOf vi).toNat)
  case atStart => exact ⟨0, Nat.zero_le _, rfl, fun j hj => by omega, Only.refl _ _⟩
  case round =>
    obtain ⟨i, hi, rfl, hgood, ho⟩ := hrel
    have HG := Lib.hid hgood
    clear hgood
    by_cases him : i < m
    · obtain ⟨g, off, rfl, k0⟩ := HC.out i him
      have c0 := (ho.cell (p := ⟨g, _, none⟩) (cell_lt k0) (by simp)).trans k0
      obtain ⟨x, hx⟩ : ∃ x, nth L i = x := ⟨_, rfl⟩
      have HX := Lib.hid hx
      rw [hx] at c0
      clear k0 hx
      by_cases hxi : (i : Int) = x
      · subst hxi
        have HO2 := Lib.hid ho
        clear ho
        go_wp2
        go_roundw
        case rel =>
          refine ⟨i + 1, by omega, by go_num, fun j hj => ?_, HO2.out⟩
          by_cases e : j = i
          · subst e; exact HX.out
          · exact HG.out j (by omega)
        case measure => (simp [intOf]; try omega)
      · have e : Hid (R = false) := by
          show _ = _
          rw [← HR.out]
          refine decide_eq_false fun hh => hxi ?_
          have := (HE.out.1 hh).2 i (by rw [HLN.out]; exact him)
          rw [HX.out] at this
          exact this.symm
        have HO2 := Lib.hid (HO.out.trans ho (by simp))
        clear ho
        go_wp2
        go_ret
        exact ⟨by rw [e.out]; rfl, HO2.out⟩
    · obtain rfl : i = m := by omega
      have e : Hid (R = decide (i = n)) := by
        show _ = _
        rw [← HR.out]
        by_cases hin : i = n
        · rw [decide_eq_true hin]
          exact decide_eq_true (HE.out.2 ⟨by rw [HLN.out]; exact hin, fun j hj => HG.out j (by rw [HLN.out] at hj; exact hj)⟩)
        · rw [decide_eq_false hin]
          exact decide_eq_false (fun hh => hin (by rw [← HLN.out]; exact (HE.out.1 hh).1))
      have HO2 := Lib.hid (HO.out.trans ho (by simp))
      clear ho
      by_cases hin : i = n
      · subst hin
        go_wp2
        go_ret
        exact ⟨by rw [e.out]; simp, HO2.out⟩
      · have hd : Hid (decide (i = n) = false) := decide_eq_false hin
        have hd2 : ((i : Int) == (n : Int)) = false := beq_false_of_ne (by omega)
        go_wp2
        go_ret
        exact ⟨by rw [e.out, hd.out]; rfl, HO2.out⟩

end Go.Proofs.YtocpmncedlenbaaGreatDoor

namespace Go.Proofs.YtocpmncedlenbaaGreatDoor
open Go.RowKit

theorem hands_yes (n : Int) (w : World) (h1 : 1 ≤ n) (h2 : n ≤ 6) :
    Calls Tryz.prog 58 #[.int .i64 n] w fun e w' => e = .returned (.bool true) ∧ w = w' := by
  go_enter Tryz.func58, Tryz.ntmps58
  go_wp2
  go_ret
  exact ⟨by simp, rfl⟩

theorem hands_no (n : Int) (w : World) (h : n < 1 ∨ 6 < n) :
    Calls Tryz.prog 58 #[.int .i64 n] w fun e w' => e = .returned (.bool false) ∧ w = w' := by
  rcases h with h | h
  · go_enter Tryz.func58, Tryz.ntmps58
    go_wp2
    go_ret
    exact ⟨rfl, rfl⟩
  · have h1 : 1 ≤ n := by omega
    go_enter Tryz.func58, Tryz.ntmps58
    go_wp2
    go_ret
    exact ⟨by simp; omega, rfl⟩
end Go.Proofs.YtocpmncedlenbaaGreatDoor

namespace Go.Proofs.YtocpmncedlenbaaGreatDoor
open Go.RowKit Go.Deep

/-- What is wrong with a plan, and hands. -/
noncomputable def hErr (p : PlanL) (hands : Int) : Int := if planFault p = 0 then (if 1 ≤ hands ∧ hands ≤ 6 then 0 else 1) else planFault p

theorem hErr_ok {p : PlanL} {hands : Int} (h : PlanOk p) (h1 : 1 ≤ hands) (h6 : hands ≤ 6) : hErr p hands = 0 := by
  unfold hErr; rw [if_pos ((planOk_iff p).1 h), if_pos ⟨h1, h6⟩]
theorem hErr_zero {p : PlanL} {hands : Int} (h : hErr p hands = 0) : PlanOk p ∧ 1 ≤ hands ∧ hands ≤ 6 := by
  unfold hErr at h
  by_cases hp : planFault p = 0
  · rw [if_pos hp] at h
    by_cases hh : 1 ≤ hands ∧ hands ≤ 6
    · exact ⟨(planOk_iff p).2 hp, hh⟩
    · rw [if_neg hh] at h; cases h
  · rw [if_neg hp] at h; exact absurd h hp

end Go.Proofs.YtocpmncedlenbaaGreatDoor

namespace Go.Proofs.YtocpmncedlenbaaGreatDoor
open Go.RowKit Go.Deep

/-- What is wrong with a plan, hands and an order. -/
noncomputable def lErr (p : PlanL) (hands : Int) (order : List Int) : Int := if hErr p hands ≠ 0 then hErr p hands else if EachOf p.length order then 0 else 3

theorem EachOf.ok {n : Nat} {l : List Int} (h : EachOf n l) : OrdOk n l ∧ l.length = n := by
  unfold EachOf at h
  refine ⟨⟨fun x hx => ?_, fun i hi => ?_⟩, ?_⟩
  · have := (h.mem_iff (a := x)).1 hx
    unfold natL at this
    obtain ⟨j, hj, rfl⟩ := List.mem_map.1 this
    exact ⟨j, by simpa using hj, rfl⟩
  · refine (h.mem_iff (a := (i : Int))).2 ?_
    unfold natL
    exact List.mem_map.2 ⟨i, by simpa using hi, rfl⟩
  · have := h.length_eq
    simpa [natL] using this

theorem lErr_h {p : PlanL} {hands : Int} {order : List Int} (h : hErr p hands ≠ 0) : lErr p hands order = hErr p hands := by unfold lErr; rw [if_pos h]
theorem lErr_each {p : PlanL} {hands : Int} {order : List Int} (h : hErr p hands = 0) : lErr p hands order = if EachOf p.length order then 0 else 3 := by unfold lErr; rw [if_neg (by simp [h])]

set_option maxRecDepth 100000 in
set_option maxHeartbeats 2000000 in
theorem list_Run_no (v u : Value) (p : PlanL) (hands : Int) (order : List Int) (w : World) (h : InPlan w v p) (hv : Reads w u order) (hl : order.length ≤ 17592186044416) (he : lErr p hands order ≠ 0) :
    Calls Tryz.prog 11 #[v, .int .i64 hands, u] w fun e w' => e = .returned (.tuple #[.slice none 0 0, .iface 99 (.int .i64 (lErr p hands order))]) ∧ Only [] w w' := by
  have hr := plan_Right v p w h
  by_cases hp : planFault p = 0
  · rw [hp, errV_zero] at hr
    by_cases hh : 1 ≤ hands ∧ hands ≤ 6
    · have h0 : hErr p hands = 0 := by unfold hErr; rw [if_pos hp, if_pos hh]
      rw [lErr_each h0] at he ⊢
      have hok := (planOk_iff p).2 hp
      have h30 := hok.len
      obtain ⟨pa, cap, rfl, hc1, hc2, _⟩ := h.task
      by_cases hE : EachOf p.length order
      · rw [if_pos hE] at he; exact absurd rfl he
      · rw [if_neg hE] at he ⊢
        have hE1 := fun w' (ho : Only [] w w') => list_Each p.length u order w' (hv.same ho) hl (by omega)
        rw [decide_eq_false hE] at hE1
        have HE1 := Lib.hid hE1
        have hy := fun w' => hands_yes hands w' hh.1 hh.2
        generalize p.length = n at *
        have HY := Lib.hid hy
        clear h hv hl he h0 hE hE1 hp hok hy
        go_enter Tryz.func11, Tryz.ntmps11
        go_wp2_with fail
        refine hr.mono ?_
        rintro e w1 ⟨rfl, ho1⟩
        clear hr
        go_wp2_with fail
        refine (HY.out w1).mono ?_
        rintro e w2 ⟨rfl, rfl⟩
        go_wp2_with fail
        refine (HE1.out _ ho1).mono ?_
        rintro e w2 ⟨rfl, ho2⟩
        have ho2 := ho1.trans ho2 (by simp)
        go_wp2
        go_ret2
        exact ⟨rfl, ho2⟩
    · have h1 : hErr p hands = 1 := by unfold hErr; rw [if_pos hp, if_neg hh]
      have h2 : lErr p hands order = 1 := by rw [lErr_h (by rw [h1]; decide), h1]
      rw [h2]
      have HN := Lib.hid (fun w' => hands_no hands w' (by omega))
      clear h hv hl he hp hh h1 h2
      go_enter Tryz.func11, Tryz.ntmps11
      go_wp2_with fail
      refine hr.mono ?_
      rintro e w1 ⟨rfl, ho1⟩
      clear hr
      go_wp2_with fail
      refine (HN.out w1).mono ?_
      rintro e w2 ⟨rfl, rfl⟩
      go_wp2
      go_ret2
      exact ⟨rfl, ho1⟩
  · have h1 : hErr p hands = planFault p := by unfold hErr; rw [if_neg hp]
    have h2 : lErr p hands order = planFault p := by rw [lErr_h (by rw [h1]; exact hp), h1]
    rw [h2]
    rw [errV_ne hp] at hr
    generalize planFault p = f at *
    clear h hv hl he hp h1 h2
    go_enter Tryz.func11, Tryz.ntmps11
    go_wp2_with fail
    refine hr.mono ?_
    rintro e w1 ⟨rfl, ho1⟩
    clear hr
    go_wp2
    go_ret2
    exact ⟨rfl, ho1⟩

theorem made_y (w : World) (a b : Nat) (X : Array Value) :
    Nums (((w.alloc (.cells (madeCells #[.int .i64 0] a) 3)).alloc (.cells (madeCells #[.int .i64 0] b) 3)).alloc (.cells X 117)).drew w.heap.size a (fun _ => 0) ∧
    Nums (((w.alloc (.cells (madeCells #[.int .i64 0] a) 3)).alloc (.cells (madeCells #[.int .i64 0] b) 3)).alloc (.cells X 117)).drew (w.heap.size + 1) b (fun _ => 0) ∧
    Cells (((w.alloc (.cells (madeCells #[.int .i64 0] a) 3)).alloc (.cells (madeCells #[.int .i64 0] b) 3)).alloc (.cells X 117)).drew (w.heap.size + 1 + 1) X.toList ∧
    Only [] w (((w.alloc (.cells (madeCells #[.int .i64 0] a) 3)).alloc (.cells (madeCells #[.int .i64 0] b) 3)).alloc (.cells X 117)).drew ∧
    w.heap.size + 3 ≤ (((w.alloc (.cells (madeCells #[.int .i64 0] a) 3)).alloc (.cells (madeCells #[.int .i64 0] b) 3)).alloc (.cells X 117)).drew.heap.size := by
  have h1 := made_nums w a
  have h2 := made_nums (w.alloc (.cells (madeCells #[.int .i64 0] a) 3)) b
  have h3 := Cells.new ((w.alloc (.cells (madeCells #[.int .i64 0] a) 3)).alloc (.cells (madeCells #[.int .i64 0] b) 3)) X 117
  rw [World.size_alloc] at h2
  rw [World.size_alloc, World.size_alloc] at h3
  exact ⟨h1.only ((((Only.refl [] _).alloc _).alloc _).drew) (by simp), h2.only (((Only.refl [] _).alloc _).drew) (by simp), h3, (((Only.refl [] w).alloc _).alloc _).alloc _ |>.drew, by show _ ≤ (((w.alloc _).alloc _).alloc _).heap.size; simp [World.size_alloc]⟩

set_option maxRecDepth 100000 in
set_option maxHeartbeats 8000000 in
theorem list_Run (v u : Value) (p : PlanL) (k : Nat) (order : List Int) (w : World) (h : InPlan w v p) (hv : Reads w u order) (hok : PlanOk p) (h1 : 1 ≤ k) (h6 : k ≤ 6) (hE : EachOf p.length order) :
    Calls Tryz.prog 11 #[v, .int .i64 (k : Int), u] w fun e w' => ∃ v' ss, e = .returned (.tuple #[v', .nilIface]) ∧ LEnd p k order ss ∧ OwnStays w' w.heap.size v' ss ∧ Only [] w w' := by
  have hr := plan_Right v p w h
  rw [(planOk_iff p).1 hok, errV_zero] at hr
  obtain ⟨hOrd, hol⟩ := hE.ok
  have h30 := hok.len
  have HP := Lib.hid h
  have HV := Lib.hid hv
  have HO := Lib.hid hok
  have HOrd := Lib.hid hOrd
  have hE1 := fun w' (ho : Only [] w w') => list_Each p.length u order w' (hv.same ho) (by omega) (by omega)
  rw [decide_eq_true hE] at hE1
  have HE1 := Lib.hid hE1
  have HY := Lib.hid (fun w' => hands_yes (k : Int) w' (by omega) (by omega))
  obtain ⟨pa, cap, rfl, hc1, hc2, _⟩ := h.task
  obtain ⟨n, hn⟩ : ∃ n, p.length = n := ⟨_, rfl⟩
  have HL := Lib.hid hn
  rw [hn] at hc1 HP HE1 h30 HOrd hol
  have hmk := make_ints k (by omega)
  have hmn := make_ints n (by omega)
  clear h hv hok hE hE1 hOrd hn hc2
  go_enter Tryz.func11, Tryz.ntmps11
  go_wp2_with fail
  refine hr.mono ?_
  rintro e w1 ⟨rfl, ho1⟩
  clear hr
  go_wp2_with fail
  refine (HY.out w1).mono ?_
  rintro e w2 ⟨rfl, rfl⟩
  rw [HL.out]
  go_wp2_with fail
  refine (HE1.out _ ho1).mono ?_
  rintro e w2 ⟨rfl, ho2⟩
  have ho2 := ho1.trans ho2 (by simp)
  clear HE1 HY ho1
  go_upto_region 8 with (fail)
  go_cut [9] (fun vy wx => ∃ Y F E, vy = .pointer (some ⟨Y, 0, none⟩) ∧ Cells wx Y [.slice pa n cap, .slice (some ⟨F, 0, none⟩) k k, .slice (some ⟨E, 0, none⟩) n n, .slice none 0 0] ∧ Nums wx F k (fun _ => 0) ∧ Nums wx E n (fun _ => 0) ∧
    (w.heap.size ≤ Y ∧ w.heap.size ≤ F ∧ w.heap.size ≤ E) ∧ (Y < wx.heap.size ∧ F < wx.heap.size ∧ E < wx.heap.size) ∧ (Y ≠ F ∧ Y ≠ E ∧ F ≠ E) ∧ Only [] w wx)
  case first =>
    -- <<
    as_aux_lemma =>
      have hs2 := ho2.size
      go_region
      · obtain ⟨m1, m2, m3, m4, m5⟩ := made_y w2 k n #[.slice pa n cap, .slice (some ⟨w2.heap.size, 0, none⟩) k k, .slice (some ⟨w2.heap.size + 1, 0, none⟩) n n, .slice none 0 0]
        go_wp2
        go_meet
        exact ⟨_, _, _, rfl, m3, m1, m2, by omega, by omega, by omega, ho2.trans m4 (by simp)⟩
      · obtain ⟨m1, m2, m3, m4, m5⟩ := made_y w2 n k #[.slice pa n cap, .slice (some ⟨w2.heap.size + 1, 0, none⟩) k k, .slice (some ⟨w2.heap.size, 0, none⟩) n n, .slice none 0 0]
        go_wp2
        go_meet
        exact ⟨_, _, _, rfl, m3, m2, m1, by omega, by omega, by omega, ho2.trans m4 (by simp)⟩
    -- >>
  case rest =>
  obtain ⟨Y, F, E, rfl, hC, hF, hN, hlo, hlt, hne, ho3⟩ := hcut
  obtain ⟨w3, rfl⟩ : ∃ w3, w3 = wc := ⟨_, rfl⟩
  have y2 := hC.cell 2 _ rfl
  clear ho2 hmk hmn
  go_wp2_with fail
  go_loopw [10, 42] (fun _ vi wr => ∃ i : Nat, i ≤ n ∧ vi = .int .i64 i ∧ Nums wr E n (fun j => if j < i then -1 else 0) ∧ Only [E] w3 wr) (fun _ vi _ => n - (intOf vi).toNat)
  case atStart => exact ⟨0, Nat.zero_le _, rfl, hN.congr (fun j _ => by simp), Only.refl _ _⟩
  case round =>
    obtain ⟨wo, rfl⟩ : ∃ wo : World, wo = wr := ⟨_, rfl⟩
    obtain ⟨i, hi, rfl, hB, ho⟩ := hrel
    have hCo := hC.only ho (by simp; omega)
    have x0 := hCo.cell 0 _ rfl
    have x2 := hCo.cell 2 _ rfl
    have x3 := hCo.cell 3 _ rfl
    by_cases hin : i < n
    · have cE := (hB i hin).1
      have fE := (hB i hin).2
      have hset : Only [E] wo (wo.setCell ⟨E, i, none⟩ (.int .i64 (-1))) := (Only.refl _ _).setCell (by simp) _
      have hB2 := Lib.hid ((hB.set i (-1)).congr (g := fun j => if j < i + 1 then -1 else 0) (fun j hj => by
        unfold updI
        by_cases e : j = i
        · subst e; simp
        · rw [if_neg e]
          show (if j < i then (-1 : Int) else 0) = _
          by_cases e2 : j < i
          · rw [if_pos e2, if_pos (by omega)]
          · rw [if_neg e2, if_neg (by omega)]))
      have ho4 := Lib.hid (ho.trans hset (by simp))
      clear hB hset ho hC hF hN y2 hCo
      go_wp2
      go_roundw
      case rel => exact ⟨i + 1, by omega, by go_num, hB2.out, ho4.out⟩
      case measure => (simp [intOf]; try omega)
    · obtain rfl : n = i := by omega
      have hE0 := hB.congr (g := lStart.ends) (fun j hj => by rw [if_pos hj]; rfl)
      have hF0 := hF.only ho (by simp; omega)
      have ho4 : Only [] w wo := ho3.trans ho (fun x hx hl => by simp at hx; omega)
      have hs4 := ho.size
      have hY0 : YdIs w wo wo.heap.size Y F E (.slice pa n cap) (.slice none 0 0) k n lStart :=
        ⟨hCo, hF0, hE0, OwnStays.nil _ _, hlo, ⟨by omega, by omega, by omega⟩, hne, Nat.le_refl _, ho4⟩
      obtain ⟨base, hbase⟩ : ∃ b, wo.heap.size = b := ⟨_, rfl⟩
      rw [hbase] at hY0
      have hbl : w.heap.size ≤ base := by have := ho4.size; omega
      have HA0 := Lib.hid (LAt.start (p := p) (hands := k) (order := order))
      clear hB hCo x0 x2 x3 hE0 hF0 ho4 hC hF hN y2 ho3 ho hin hi hlt hs4 hbase
      go_wp2_with fail
      go_loopw [11] (fun vt wr => ∃ (T : Nat) (s : LS) (vo : Value), vt = .int .i64 (T : Int) ∧ T ≤ 601 ∧ YdIs w wr base Y F E (.slice pa n cap) vo k n s ∧ (LAt p k order T s ∨ (LEnd p k order s.out ∧ s.out.length = n))) (fun vt _ => 602 - (intOf vt).toNat)
      case atStart => exact ⟨0, lStart, _, rfl, by omega, hY0, .inl HA0.out⟩
      case round =>
        clear hY0 HA0
        obtain ⟨wx, rfl⟩ : ∃ wx : World, wx = wr := ⟨_, rfl⟩
        obtain ⟨T, s, vo, rfl, hT, hY, hst⟩ := hrel
        have z3 := hY.cells.cell 3 _ rfl
        obtain ⟨va, vc, rfl, hvc1, hvc2, _⟩ := Row.form hY.out
        have hln : s.out.length ≤ n := by
          rcases hst with hst | ⟨_, hst⟩
          · have := (hst.inv HO.out (by rw [HL.out]; exact HOrd.out)).len
            rw [HL.out] at this; exact this
          · omega
        have HST := Lib.hid hst
        have HYY := Lib.hid hY
        obtain ⟨m, hm⟩ : ∃ m, s.out.length = m := ⟨_, rfl⟩
        have HM := Lib.hid hm
        rw [hm] at z3 hvc1 hln
        clear hst hY hm
        by_cases hmn : m < n
        · have hat : Hid (LAt p k order T s) := by
            rcases HST.out with h | ⟨_, h⟩
            · exact h
            · have := HM.out; omega
          have hT6 : T ≤ 600 := (hat.out.inv HO.out (by rw [HL.out]; exact HOrd.out)).time HO.out h1
          go_wp2_with fail
          go_loopg [] (n - m) (fun g wr => ∃ (s' : LS) (vo' : Value), g = n - s'.out.length ∧ LAt p k order T s' ∧ YdIs w wr base Y F E (.slice pa n cap) vo' k n s')
          case atStart => exact ⟨s, _, by rw [HM.out], hat.out, HYY.out⟩
          case round =>
            clear z3 HST HYY hat HM hvc1 hvc2 hln hmn
            obtain ⟨wz, rfl⟩ : ∃ wz : World, wz = wr := ⟨_, rfl⟩
            obtain ⟨s', vo', rfl, hat, hY⟩ := hrel
            have hin := hat.inv HO.out (by rw [HL.out]; exact HOrd.out)
            have hlen := hin.len
            rw [HL.out] at hlen
            have hg := list_give w wz base Y F E (.slice pa n cap) vo' u p k n T order s' hY HP.out HO.out HL.out hT6 h6 (by omega) HV.out HOrd.out (by omega)
            have HAT := Lib.hid hat
            have HYY := Lib.hid hY
            have HLEN := Lib.hid hlen
            clear hat hY hin
            obtain ⟨q, hq⟩ : ∃ q, n - s'.out.length = q := ⟨_, rfl⟩
            have HQ := Lib.hid hq
            clear hq hlen
            go_wp2_with fail
            refine hg.mono ?_
            rintro e w9 (⟨rfl, hno, ho9⟩ | ⟨hd, kk, i, vn, rfl, e1, e2, e3, hY9⟩)
            · have hY9 := Lib.hid (HYY.out.same ho9)
              have hnx : Hid (LAt p k order (T + 1) s' ∨ (LEnd p k order s'.out ∧ s'.out.length = n)) := by
                show _ ∨ _
                by_cases hlt : s'.out.length < n
                · exact .inl (.tick HAT.out hno (by rw [HL.out]; exact hlt))
                · have := HLEN.out
                  exact .inr ⟨⟨T, s', HAT.out, rfl, by rw [HL.out]; omega⟩, by omega⟩
              clear hg hno ho9
              go_wp2
              go_roundw
              case rel => exact ⟨T + 1, s', vo', by go_num, by omega, hY9.out, hnx.out⟩
              case measure => (simp [intOf]; try omega)
            · have hat9 : Hid (LAt p k order T (lPut p s' (T : Int) hd i)) := .give hd kk i HAT.out e1 e2 e3
              have hl9 : (lPut p s' (T : Int) hd i).out.length = s'.out.length + 1 := by simp [lPut]
              have hl8 := (hat9.out.inv HO.out (by rw [HL.out]; exact HOrd.out)).len
              rw [HL.out, hl9] at hl8
              have HY9 := Lib.hid hY9
              clear hg e1 e2 e3 hY9
              go_wp2
              go_roundg (n - (lPut p s' (T : Int) hd i).out.length)
              case rel => exact ⟨_, vn, rfl, hat9.out, HY9.out⟩
              case measure => (have := HQ.out; omega)
        · obtain rfl : m = n := by omega
          have hend : Hid (LEnd p k order s.out) := by
            rcases HST.out with h | ⟨h, _⟩
            · exact ⟨T, s, h, rfl, by rw [HM.out, HL.out]⟩
            · exact h
          have hO9 : Hid (OwnStays wx w.heap.size (.slice va m vc) s.out) := by
            have h9 := HYY.out.out
            rw [HM.out] at h9
            exact Row.mono h9 hbl
          have ho9 := Lib.hid HYY.out.only
          go_wp2
          go_ret2
          exact ⟨_, _, rfl, hend.out, hO9.out, ho9.out⟩

set_option maxRecDepth 100000 in
theorem list_Long_no (v u : Value) (p : PlanL) (hands : Int) (order : List Int) (w : World) (h : InPlan w v p) (hv : Reads w u order) (hl : order.length ≤ 17592186044416) (he : lErr p hands order ≠ 0) :
    Calls Tryz.prog 12 #[v, .int .i64 hands, u] w fun e w' => e = .returned (.tuple #[.int .i64 0, .iface 99 (.int .i64 (lErr p hands order))]) ∧ Only [] w w' := by
  have hr := list_Run_no v u p hands order w h hv hl he
  generalize lErr p hands order = f at *
  clear h hv hl he
  go_enter Tryz.func12, Tryz.ntmps12
  go_wp2_with fail
  refine hr.mono ?_
  rintro e w1 ⟨rfl, ho1⟩
  clear hr
  go_wp2_with fail
  go_loopw [10, 12, 22] (fun vn _ vi wr => vn = .int .i64 0 ∧ vi = .int .i64 0 ∧ Only [] w wr) (fun _ _ _ _ => 0)
  case atStart => exact ⟨rfl, rfl, ho1⟩
  case round =>
    obtain ⟨rfl, rfl, ho⟩ := hrel
    go_wp2
    go_ret2
    exact ⟨rfl, ho⟩

set_option maxRecDepth 100000 in
set_option maxHeartbeats 2000000 in
theorem list_Long (v u : Value) (p : PlanL) (k : Nat) (order : List Int) (w : World) (h : InPlan w v p) (hv : Reads w u order) (hok : PlanOk p) (h1 : 1 ≤ k) (h6 : k ≤ 6) (hE : EachOf p.length order) :
    Calls Tryz.prog 12 #[v, .int .i64 (k : Int), u] w fun e w' => ∃ ss, e = .returned (.tuple #[.int .i64 (lLong ss), .nilIface]) ∧ LEnd p k order ss ∧ Only [] w w' := by
  have hr := list_Run v u p k order w h hv hok h1 h6 hE
  have HB := Lib.hid (fun ss (he : LEnd p k order ss) => (lEnd_bounds hok hE.ok.1 h1 he).1)
  have HN := Lib.hid (fun ss (he : LEnd p k order ss) => (by obtain ⟨_, _, _, _, h⟩ := he; rw [h]; exact hok.len : ss.length ≤ 30))
  clear h hv hok h1 h6 hE
  go_enter Tryz.func12, Tryz.ntmps12
  go_wp2_with fail
  refine hr.mono ?_
  rintro e w1 ⟨v1, ss, rfl, hend, hO, ho1⟩
  have hb := HB.out ss hend
  have hn := HN.out ss hend
  have HEND := Lib.hid hend
  obtain ⟨a, c, rfl, ha⟩ := hO.at.opt
  obtain ⟨m, hm⟩ : ∃ m, ss.length = m := ⟨_, rfl⟩
  have HM := Lib.hid hm
  rw [hm] at ha hn ⊢
  have HA := Lib.hid ha
  have HLE := Lib.hid (fun k => (by
    have h := lLong_ge ss
    have h0 := lLong_ge0 ss
    refine ⟨lLong_ge0 _, ?_⟩
    rcases lLong_in (ss.take k) with e | ⟨c, hc, e⟩
    · omega
    · have := h c (List.mem_of_mem_take hc)
      omega : 0 ≤ lLong (ss.take k) ∧ lLong (ss.take k) ≤ lLong ss))
  clear hr hend hO ha hm
  go_wp2_with fail
  go_loopw [10, 12, 22] (fun vn _ vi wr => ∃ (i : Nat) (x : Int), i ≤ m ∧ vi = .int .i64 i ∧ vn = .int .i64 x ∧ x = lLong (ss.take i) ∧ Only [] w1 wr) (fun _ _ vi _ => m - (intOf vi).toNat)
  case atStart => exact ⟨0, 0, Nat.zero_le _, rfl, rfl, rfl, Only.refl _ _⟩
  case round =>
    obtain ⟨wo, rfl⟩ : ∃ wo : World, wo = wr := ⟨_, rfl⟩
    obtain ⟨i, x, hi, rfl, rfl, hx, ho⟩ := hrel
    have HX := Lib.hid hx
    have hbx := HLE.out i
    rw [← hx] at hbx
    clear hx
    by_cases him : i < m
    · obtain ⟨b, off, rfl, k0, k1, k2, k3⟩ := HA.out i him
      have c0 := (ho.cell (p := ⟨b, _, none⟩) (cell_lt k0) (by simp)).trans k0
      have c1 := (ho.cell (p := ⟨b, _, none⟩) (cell_lt k1) (by simp)).trans k1
      have c2 := (ho.cell (p := ⟨b, _, none⟩) (cell_lt k2) (by simp)).trans k2
      have c3 := (ho.cell (p := ⟨b, _, none⟩) (cell_lt k3) (by simp)).trans k3
      have hib : i < ss.length := by rw [HM.out]; exact him
      have hst : Hid (lLong (ss.take (i + 1)) = max x (stAt ss i).til) := by
        show _ = _
        rw [take_st ss i hib, lLong_push, ← HX.out]
      obtain ⟨s9, hs9⟩ : ∃ s9, stAt ss i = s9 := ⟨_, rfl⟩
      rw [hs9] at c0 c1 c2 c3 hst
      obtain ⟨q0, q1, q2, q3⟩ := s9
      simp only at c0 c1 c2 c3 hst
      have hoa := Lib.hid (ho.alloc (.cells #[.int .i64 q0, .int .i64 q1, .int .i64 q2, .int .i64 q3] 120))
      clear k0 k1 k2 k3 hs9
      go_wp2
      go_roundw
      case rel => exact ⟨i + 1, max x q3, by omega, by go_num, rfl, hst.out.symm, hoa.out⟩
      case measure => (simp [intOf]; try omega)
    · obtain rfl : i = m := by omega
      have hfin : Hid (x = lLong ss) := by
        show _ = _
        rw [HX.out, List.take_of_length_le (by rw [HM.out]; exact Nat.le_refl _)]
      have ho9 := Lib.hid (ho1.trans ho (by simp))
      go_wp2
      go_ret2
      exact ⟨ss, by rw [← hfin.out]; rfl, HEND.out, ho9.out⟩

end Go.Proofs.YtocpmncedlenbaaGreatDoor
