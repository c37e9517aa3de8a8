/-
  The first place of a list at which a test says yes.
  Contracts of slices.IndexFunc and slices.ContainsFunc at []int for whatever function literal, with whatever it captures.
  Contracts of plan.task and plan.Check, plan.Right.
  Contract of slices.Clone at []int.
  make([]int, n) and make([]bool, n): an equation for the walk, and what the new slice holds.
  Plain facts on numbers that are marked: which are not marked yet, in order; and an array of bools in memory.
  make([]bool, n).
-/
import Derived.Test.YtocpmncedlenbaaGreatDoorP2GangPlays
import Derived.Test.YtocpmncedlenbaaGreatDoorP3GangPlays
import Derived.Deep.OwnRows
import Derived.Test.YtocpmncedlenbaaGreatDoorP1GangPlays
namespace Go.Proofs.YtocpmncedlenbaaGreatDoor

/-- The first place; -1, if there is none. -/
def firstIdx (P : Int → Bool) : List Int → Int
  | [] => -1
  | x :: l => if P x then 0 else if firstIdx P l < 0 then -1 else firstIdx P l + 1

theorem firstIdx_ge (P : Int → Bool) (l : List Int) : -1 ≤ firstIdx P l := by
  induction l with
  | nil => exact Int.le_refl _
  | cons x l ih =>
    unfold firstIdx
    split
    · omega
    · split <;> omega

theorem firstIdx_any (P : Int → Bool) (l : List Int) : decide (0 ≤ firstIdx P l) = l.any P := by
  induction l with
  | nil => rfl
  | cons x l ih =>
    unfold firstIdx
    rw [List.any_cons]
    cases hx : P x
    · rw [if_neg (by simp), Bool.false_or, ← ih]
      have := firstIdx_ge P l
      split
      · simp; omega
      · simp; omega
    · simp

theorem firstIdx_none (P : Int → Bool) (l : List Int) (h : ∀ j, j < l.length → P (nth l j) = false) : firstIdx P l = -1 := by
  have ha := firstIdx_any P l
  have hf : l.any P = false := by
    rw [List.any_eq_false]
    intro x hx
    obtain ⟨j, hj, rfl⟩ := List.getElem_of_mem hx
    have := h j hj
    simpa [nth, hj] using this
  rw [hf] at ha
  have := firstIdx_ge P l
  simp at ha
  omega

theorem firstIdx_at (P : Int → Bool) (l : List Int) (i : Nat) (hi : i < l.length) (h : ∀ j, j < i → P (nth l j) = false) (hp : P (nth l i) = true) : firstIdx P l = i := by
  induction l generalizing i with
  | nil => simp at hi
  | cons x l ih =>
    unfold firstIdx
    rcases i with _ | i
    · have : P x = true := by simpa [nth] using hp
      simp [this]
    · have h0 : P x = false := by simpa [nth] using h 0 (by omega)
      have := ih i (by simpa using hi) (fun j hj => by simpa [nth] using h (j + 1) (by omega)) (by simpa [nth] using hp)
      rw [if_neg (by simp [h0]), this, if_neg (by omega)]
      rfl

end Go.Proofs.YtocpmncedlenbaaGreatDoor

namespace Go.Proofs.YtocpmncedlenbaaGreatDoor
open Go.RowKit

/-- A call of F enters it. -/
def Entered (F : FuncId) : Prop := ∀ args w, Sem.run Tryz.prog (callFunc F args) w = .ok (.enter F args) w

set_option maxHeartbeats 1000000 in
set_option maxRecDepth 100000 in
theorem fn_index (F : FuncId) (hcf : Entered F) (caps : Array Value) (v : Value) (l : List Int) (w : World) (P : Int → Bool) (h : Reads w v l) (hl : l.length ≤ 9223372036854775807)
    (hc : ∀ x, x ∈ l → ∀ n, Calls Tryz.prog F (#[.int .i64 x] ++ caps) (w.drewN n) fun e w' => e = .returned (.bool (P x)) ∧ ∃ m, w' = w.drewN m) :
    Calls Tryz.prog 122 #[v, .func (.func F) #[] caps] w fun e w' => e = .returned (.int .i64 (firstIdx P l)) ∧ ∃ m, w' = w.drewN m := by
  obtain ⟨a, c, rfl, ha⟩ := h.opt
  obtain ⟨n, hn⟩ : ∃ n, l.length = n := ⟨_, rfl⟩
  have HN := Lib.hid hn
  have HC := Lib.hid hc
  rw [hn] at ha hl ⊢
  clear h hn hc
  go_enter Tryz.func122, Tryz.ntmps122
  go_wp2_with fail
  go_loopw [8] (fun vi wr => ∃ i : Nat, i ≤ n ∧ vi = .int .i64 i ∧ (∀ j, j < i → P (nth l j) = false) ∧ ∃ m, wr = w.drewN m) (fun vi _ => n - (intOf vi).toNat)
  case atStart => exact ⟨0, Nat.zero_le _, rfl, fun j hj => by omega, 0, rfl⟩
  case round =>
    obtain ⟨i, hi, rfl, hno, m, rfl⟩ := hrel
    have HNO := Lib.hid hno
    clear hno
    by_cases hin : i < n
    · obtain ⟨ba, oa, rfl, k0⟩ := ha i hin
      have hcl := HC.out (nth l i) (by simp [nth, HN.out, hin]) m
      obtain ⟨z, hz⟩ : ∃ z, nth l i = z := ⟨_, rfl⟩
      have HZ := Lib.hid hz
      rw [hz] at k0 hcl
      obtain ⟨pz, hpz⟩ : ∃ p, P z = p := ⟨_, rfl⟩
      have HPZ := Lib.hid hpz
      rw [hpz] at hcl
      clear ha hz hpz
      go_wp2_with fail
      rw [hcf, Oper.upon_enter]
      refine hcl.mono ?_
      rintro e w9 ⟨rfl, m9, rfl⟩
      clear hcl
      cases pz
      · go_wp2
        go_roundw
        case rel =>
          refine ⟨i + 1, by omega, by go_num, fun j hj => ?_, _, rfl⟩
          by_cases e : j = i
          · subst e; rw [HZ.out]; exact HPZ.out
          · exact HNO.out j (by omega)
        case measure => (simp [intOf]; try omega)
      · have hf := Lib.hid (firstIdx_at P l i (by rw [HN.out]; exact hin) HNO.out (by rw [HZ.out]; exact HPZ.out))
        go_wp2
        go_ret
        exact ⟨by rw [hf.out]; rfl, _, rfl⟩
    · obtain rfl : i = n := by omega
      have hf := Lib.hid (firstIdx_none P l (fun j hj => HNO.out j (by rw [HN.out] at hj; exact hj)))
      clear ha
      go_wp2
      go_ret
      exact ⟨by rw [hf.out]; rfl, _, rfl⟩

set_option maxRecDepth 100000 in
theorem fn_contains (F : FuncId) (hcf : Entered F) (caps : Array Value) (v : Value) (l : List Int) (w : World) (P : Int → Bool) (h : Reads w v l) (hl : l.length ≤ 9223372036854775807)
    (hc : ∀ x, x ∈ l → ∀ n, Calls Tryz.prog F (#[.int .i64 x] ++ caps) (w.drewN n) fun e w' => e = .returned (.bool (P x)) ∧ ∃ m, w' = w.drewN m) (r : Bool) (hr : l.any P = r) :
    Calls Tryz.prog 115 #[v, .func (.func F) #[] caps] w fun e w' => e = .returned (.bool r) ∧ ∃ m, w' = w.drewN m := by
  have HR := Lib.hid hr
  have hi := fn_index F hcf caps v l w P h hl hc
  have hs := firstIdx_any P l
  rw [hr] at hs
  obtain ⟨z, hz⟩ : ∃ z, firstIdx P l = z := ⟨_, rfl⟩
  rw [hz] at hi hs
  clear hr hc hz
  go_enter Tryz.func115, Tryz.ntmps115
  go_wp2_with fail
  refine hi.mono ?_
  rintro e w1 ⟨rfl, m, rfl⟩
  clear hi
  go_wp2
  go_ret
  exact ⟨by simp, _, rfl⟩

end Go.Proofs.YtocpmncedlenbaaGreatDoor

namespace Go.Proofs.YtocpmncedlenbaaGreatDoor
open Go.RowKit

/-- An error of the program, by its number; 0: none. -/
def errV (e : Int) : Value := if e = 0 then .nilIface else .iface 99 (.int .i64 e)

theorem plan_task1 (k : Int) (bx : Nat) (a : Option Addr) (n cap : Nat) (w : World) (hb : w.cell? ⟨bx, 0, none⟩ = some (.slice a n cap)) (_hn : n ≤ 9223372036854775807) :
    Calls Tryz.prog 146 #[.int .i64 k, .pointer (some ⟨bx, 0, none⟩)] w fun e w' => e = .returned (.bool (outOf n k)) ∧ w = w' := by
  have hr : Hid (outOf n k = (decide (k < 0) || decide ((n : Int) ≤ k))) := rfl
  by_cases h0 : k < 0
  · have h1 : Hid (outOf n k = true) := by show _ = _; simp [outOf, h0]
    go_enter Tryz.func146, Tryz.ntmps146
    go_wp2
    go_ret
    exact ⟨by rw [h1.out]; rfl, rfl⟩
  · have h1 : 0 ≤ k := by omega
    clear h0
    go_enter Tryz.func146, Tryz.ntmps146
    go_wp2
    go_ret
    exact ⟨by rw [hr.out]; rfl, rfl⟩

set_option maxHeartbeats 1000000 in
theorem plan_task (v : Value) (p : PlanL) (i : Nat) (w : World) (h : InPlan w v p) (hi : i < p.length) :
    Calls Tryz.prog 92 #[v, .int .i64 i] w fun e w' => e = .returned (errV (taskFault p.length (p[i]?.getD (0, [])))) ∧ Only [] w w' := by
  obtain ⟨a, cap, rfl, hc1, hc2, ht⟩ := h.task
  obtain ⟨b, off, u, rfl, c0, c1, hr⟩ := ht i hi
  have hnl := h.needLen i
  have hF : taskFault p.length (p[i]?.getD (0, [])) = if wkOf p i < 1 ∨ 20 < wkOf p i ∨ (ndOf p i).any (outOf p.length) = true then 1 else if rising (ndOf p i) = true then 0 else 7 := rfl
  rw [hF]
  generalize wkOf p i = x at *
  generalize ndOf p i = l at *
  obtain ⟨n, hn⟩ : ∃ n, p.length = n := ⟨_, rfl⟩
  rw [hn] at hi hc1 ⊢
  have hc2' : n ≤ 9223372036854775807 := by unfold maxLen at hc2; omega
  clear ht hF hn h
  obtain ⟨ua, ucap, rfl, hul⟩ := hr.opt
  obtain ⟨m, hm⟩ : ∃ m, l.length = m := ⟨_, rfl⟩
  have HM := Lib.hid hm
  rw [hm] at c1 hr hul hnl
  clear hm
  have ho1 := (Only.refl [] w).alloc (.cells #[.slice (some ⟨b, off, none⟩) n cap] 24)
  have ho2 := ho1.alloc (.cells #[.int .i64 x, .slice ua m ucap] 97)
  have d0 := (ho1.cell (p := ⟨b, _, none⟩) (cell_lt c0) (by simp)).trans c0
  have d1 := (ho1.cell (p := ⟨b, _, none⟩) (cell_lt c1) (by simp)).trans c1
  clear c0 c1 ho1
  by_cases hx1 : x < 1
  · rw [if_pos (.inl hx1)]
    clear hr
    go_enter Tryz.func92, Tryz.ntmps92
    go_wp2
    go_ret
    exact ⟨rfl, ho2⟩
  · have hx1' : 1 ≤ x := by omega
    by_cases hx2 : 20 < x
    · rw [if_pos (.inr (.inl hx2))]
      clear hr hx1
      go_enter Tryz.func92, Tryz.ntmps92
      go_wp2
      go_ret
      exact ⟨rfl, ho2⟩
    · have hx2' : x ≤ 20 := by omega
      clear hx1 hx2
      have hrd := hr.same ho2
      clear hr
      have hbx : ((w.alloc (.cells #[.slice (some ⟨b, off, none⟩) n cap] 24)).alloc (.cells #[.int .i64 x, .slice ua m ucap] 97)).cell? ⟨w.heap.size, 0, none⟩ = some (.slice (some ⟨b, off, none⟩) n cap) := by
        rw [World.cell?_alloc_lt _ _ _ (by simp), World.cell?_alloc_at _ _ _ _ rfl]; rfl
      have hcl := fn_contains 146 (fun _ _ => by kernel_rfl) #[.pointer (some ⟨w.heap.size, 0, none⟩)] _ l _ (outOf n) hrd (by rw [HM.out]; exact hnl)
        (fun k hk dn => (plan_task1 k w.heap.size (some ⟨b, off, none⟩) n cap _ ((cell_drewN _ dn _).trans hbx) hc2').mono fun e w' ⟨h1, h2⟩ => ⟨h1, dn, h2.symm⟩)
      clear hbx
      by_cases hany : l.any (outOf n) = true
      · rw [if_pos (.inr (.inr hany))]
        have hcl := hcl true hany
        clear hany hrd
        go_enter Tryz.func92, Tryz.ntmps92
        go_wp2_with fail
        refine hcl.mono ?_
        rintro e w1 ⟨rfl, dn, rfl⟩
        clear hcl
        go_wp2
        go_ret
        exact ⟨rfl, ho2.drewN _⟩
      · have hany' : l.any (outOf n) = false := by simpa using hany
        rw [if_neg (by rintro (h | h | h) <;> first | omega | exact hany h)]
        have hcl := hcl false hany'
        clear hany hany'
        obtain ⟨r, hr⟩ : ∃ r, (if rising l = true then (0 : Int) else 7) = r := ⟨_, rfl⟩
        rw [hr]
        have HRES := Lib.hid hr
        clear hr
        go_enter Tryz.func92, Tryz.ntmps92
        go_wp2_with fail
        refine hcl.mono ?_
        rintro e w1 ⟨rfl, dn, rfl⟩
        clear hcl
        have hcells : ∀ i, i < m → ∃ ub uo, ua = some ⟨ub, uo, none⟩ ∧ ((w.alloc (.cells #[.slice (some ⟨b, off, none⟩) n cap] 24)).alloc (.cells #[.int .i64 x, .slice ua m ucap] 97)).cell? ⟨ub, uo + i, none⟩ = some (.int .i64 (nth l i)) := by
          intro i hi
          obtain ⟨ub, uo, rfl, hc⟩ := hul i hi
          exact ⟨ub, uo, rfl, (ho2.cell (p := ⟨ub, _, none⟩) (cell_lt hc) (by simp)).trans hc⟩
        have HC := Lib.hid hcells
        clear hcells hul hrd d0 d1
        go_wp2_with fail
        go_loopw [6] (fun vi wr => ∃ j : Nat, (j < m ∨ j = 0) ∧ vi = .int .i64 ((j : Int) + 1) ∧ (∀ i, i < j → nth l i < nth l (i + 1)) ∧ ∃ dn, wr = ((w.alloc (.cells #[.slice (some ⟨b, off, none⟩) n cap] 24)).alloc (.cells #[.int .i64 x, .slice ua m ucap] 97)).drewN dn)
          (fun vi _ => m + 1 - (intOf vi).toNat)
        case atStart => exact ⟨0, .inr rfl, rfl, fun i hi => by omega, dn, rfl⟩
        case round =>
          obtain ⟨j, hj, rfl, hris, dn2, rfl⟩ := hrel
          have HR := Lib.hid hris
          clear hris
          by_cases hlt : j + 1 < m
          · obtain ⟨ub, uo, rfl, k0⟩ := HC.out j (by omega)
            obtain ⟨ub2, uo2, e, k1⟩ := HC.out (j + 1) hlt
            injection e with e
            injection e with e1 e2
            subst e1 e2
            have hwr : IntKind.i64.wrap ((j : Int) + 1 - 1) = (j : Int) := by rw [IntWalk.i64_in _ (by omega)]; omega
            obtain ⟨y0, hy0⟩ : ∃ y, nth l j = y := ⟨_, rfl⟩
            obtain ⟨y1, hy1⟩ : ∃ y, nth l (j + 1) = y := ⟨_, rfl⟩
            rw [hy0] at k0
            rw [hy1] at k1
            have HY0 := Lib.hid hy0
            have HY1 := Lib.hid hy1
            clear hy0 hy1
            by_cases hcl : y1 ≤ y0
            · have hfa : Hid (rising l ≠ true) := by
                show _ ≠ _
                intro h
                have := (rising_nth l).1 h j (by rw [HM.out]; exact hlt)
                rw [HY0.out, HY1.out] at this
                omega
              go_wp2_with fail
              go_quiet (fail)
              go_wp2
              go_ret
              exact ⟨by rw [← HRES.out, if_neg hfa.out]; rfl, ho2.drewN _⟩
            · have hcl2 : y0 < y1 := by omega
              clear hcl
              go_wp2_with fail
              go_quiet (fail)
              go_wp2
              go_roundw
              case rel =>
                refine ⟨j + 1, by omega, by go_num, fun i hi => ?_, _, rfl⟩
                by_cases e : i = j
                · subst e; rw [HY0.out, HY1.out]; exact hcl2
                · exact HR.out i (by omega)
              case measure => (simp [intOf]; try omega)
          · have hfa : Hid (rising l = true) := by
              show _ = _
              refine (rising_nth l).2 fun k hk => ?_
              rw [HM.out] at hk
              exact HR.out k (by omega)
            clear hj
            go_wp2
            go_ret
            exact ⟨by rw [← HRES.out, if_pos hfa.out]; rfl, ho2.drewN _⟩

end Go.Proofs.YtocpmncedlenbaaGreatDoor

namespace Go.Proofs.YtocpmncedlenbaaGreatDoor
open Go.RowKit

set_option maxHeartbeats 400000 in
theorem clone_ints (v : Value) (l : List Int) (w : World) (h : Reads w v l) (hl : l.length ≤ 1000000000) :
    Calls Tryz.prog 130 #[v] w fun e w' => ∃ v', e = .returned v' ∧ Ints w' w.heap.size v' l ∧ Only [] w w' := by
  have hnil := fun (a : Option Addr) (n c : Nat) (w : World) => Lib.run_eql_slice_nil (P := Tryz.prog) w 32 3 a n c 0 0 Tryz.underlying32
  have hh := h
  rcases h with ⟨rfl, rfl | ⟨y, cap, rfl, hcap⟩⟩ | ⟨h0, b, off, cap, rfl, h1, h2, h3⟩
  · go_enter Tryz.func130, Tryz.ntmps130
    go_wp2
    go_ret
    exact ⟨_, rfl, Ints.nil _ _, Only.refl _ _⟩
  · have ho := (Only.refl [] w).alloc (.cells #[] 3)
    have hown : Ints (w.alloc (.cells #[] 3)) w.heap.size (.slice (some ⟨w.heap.size, 0, none⟩) 0 0) [] := ⟨by simp, .inr ⟨w.heap.size, 0, #[], rfl, Nat.le_refl _, heap_alloc_new _ _, Nat.le_refl _, by unfold maxLen; omega, rfl, rfl⟩⟩
    have hh' := hh.same ho
    go_enter Tryz.func130, Tryz.ntmps130
    go_wp2_with (at_builtin; refine wpList_append_reads rfl (.tmp 5) (.tmp 6) rfl _ w.heap.size _ [] _ _ hown hh' (by simp) (by simp) rfl rfl (Only.refl _ _) ?_; intro v' w' hI hO _)
    have ho2 := ho.pushed hown (Nat.le_refl _) hO
    clear hown hh' hO hnil
    go_wp2
    go_ret
    exact ⟨_, rfl, hI, ho2⟩
  · have ho := (Only.refl [] w).alloc (.cells #[] 3)
    have hown : Ints (w.alloc (.cells #[] 3)) w.heap.size (.slice (some ⟨w.heap.size, 0, none⟩) 0 0) [] := ⟨by simp, .inr ⟨w.heap.size, 0, #[], rfl, Nat.le_refl _, heap_alloc_new _ _, Nat.le_refl _, by unfold maxLen; omega, rfl, rfl⟩⟩
    have hh' := hh.same ho
    clear hh h3
    go_enter Tryz.func130, Tryz.ntmps130
    go_wp2_with (at_builtin; refine wpList_append_reads rfl (.tmp 5) (.tmp 6) rfl _ w.heap.size _ [] _ _ hown hh' (by simpa using hl) (by simp) rfl rfl (Only.refl _ _) ?_; intro v' w' hI hO _)
    have ho2 := ho.pushed hown (Nat.le_refl _) hO
    clear hown hh' hO hnil
    go_wp2
    go_ret
    exact ⟨_, rfl, hI, ho2⟩

end Go.Proofs.YtocpmncedlenbaaGreatDoor

namespace Go.Proofs.YtocpmncedlenbaaGreatDoor
open Go.RowKit Go.Deep

theorem make_ints (n : Nat) (hn : n ≤ 1000000) (w : World) :
    (Instr.makeSlice 32 (.int .i64 (n : Int)) (.int .i64 (n : Int))).run Tryz.prog w = .ok (.slice (some ⟨w.heap.size, 0, none⟩) n n) (w.alloc (.cells (madeCells #[.int .i64 0] n) 3)) :=
  run_make_row' (P := Tryz.prog) 32 3 (.int .i64 0) 8 Tryz.underlying32 (by kernel_rfl) rfl .i64 .i64 n (by omega) (by omega) w

theorem made_size (z : Value) (n : Nat) : (madeCells #[z] n).size = n := by
  simp [madeCells]

theorem made_list (z : Value) (n : Nat) : (madeCells #[z] n).toList = List.replicate n z := by
  simp [madeCells, Nat.mod_one, List.map_const']

theorem made_ints (w : World) (n : Nat) (hn : n ≤ 1000000) : Ints (w.alloc (.cells (madeCells #[.int .i64 0] n) 3)) w.heap.size (.slice (some ⟨w.heap.size, 0, none⟩) n n) (List.replicate n 0) := by
  refine ⟨by simp, .inr ⟨w.heap.size, n, madeCells #[.int .i64 0] n, by simp, Nat.le_refl _, heap_alloc_new _ _, by simp, by unfold maxLen; omega, by rw [made_size]; simp, ?_⟩⟩
  rw [made_list]
  simp

end Go.Proofs.YtocpmncedlenbaaGreatDoor

namespace Go.Proofs.YtocpmncedlenbaaGreatDoor
open Go.RowKit

/-- The numbers below n that are not marked, rising. -/
def U (n : Nat) (f : Nat → Bool) : List Int := ((List.range n).filter fun j => !f j).map fun (j : Nat) => (j : Int)
/-- Those of a list are marked, too. -/
def mark (f : Nat → Bool) (out : List Int) : Nat → Bool := fun j => f j || decide ((j : Int) ∈ out)

theorem U_zero (f : Nat → Bool) : U 0 f = [] := rfl
theorem mark_nil (f : Nat → Bool) : mark f [] = f := by funext j; simp [mark]

theorem mem_U {n : Nat} {f : Nat → Bool} {x : Int} : x ∈ U n f ↔ ∃ j, j < n ∧ f j = false ∧ x = j := by
  unfold U
  simp only [List.mem_map, List.mem_filter, List.mem_range, Bool.not_eq_true']
  constructor
  · rintro ⟨j, ⟨h1, h2⟩, rfl⟩; exact ⟨j, h1, h2, rfl⟩
  · rintro ⟨j, h1, h2, rfl⟩; exact ⟨j, ⟨h1, h2⟩, rfl⟩

theorem U_succ (n : Nat) (f : Nat → Bool) : U (n + 1) f = if f n then U n f else U n f ++ [(n : Int)] := by
  unfold U
  rw [List.range_succ, List.filter_append, List.map_append]
  cases h : f n <;> simp [h]

theorem U_lt (n : Nat) (f : Nat → Bool) : (U n f).Pairwise (· < ·) := by
  unfold U
  rw [List.pairwise_map]
  refine List.Pairwise.imp ?_ (List.Pairwise.filter _ (List.pairwise_lt_range (n := n)))
  intro a b h; omega

theorem U_mark (n : Nat) (f : Nat → Bool) (out : List Int) : U n (mark f out) = (U n f).filter fun x => decide (x ∉ out) := by
  unfold U mark
  rw [List.filter_map, List.filter_filter]
  congr 1
  refine List.filter_congr fun j _ => ?_
  simp [Function.comp, Bool.and_comm]

theorem filter_not_left (A B : List Int) (h : (A ++ B).Pairwise (· < ·)) : (A ++ B).filter (fun x => decide (x ∉ A)) = B := by
  rw [List.filter_append]
  have h1 : A.filter (fun x => decide (x ∉ A)) = [] := by simp [List.filter_eq_nil_iff]
  have h2 : B.filter (fun x => decide (x ∉ A)) = B := by
    rw [List.filter_eq_self]
    intro x hx
    simp only [decide_eq_true_eq]
    intro hA
    have := (List.pairwise_append.1 h).2.2 x hA x hx
    omega
  rw [h1, h2, List.nil_append]

theorem filter_not_right (A B : List Int) (h : (A ++ B).Pairwise (· < ·)) : (A ++ B).filter (fun x => decide (x ∉ B)) = A := by
  rw [List.filter_append]
  have h1 : B.filter (fun x => decide (x ∉ B)) = [] := by simp [List.filter_eq_nil_iff]
  have h2 : A.filter (fun x => decide (x ∉ B)) = A := by
    rw [List.filter_eq_self]
    intro x hx
    simp only [decide_eq_true_eq]
    intro hB
    have := (List.pairwise_append.1 h).2.2 x hx x hB
    omega
  rw [h1, h2, List.append_nil]

/-- What goes from the front. -/
theorem U_front {n : Nat} {f : Nat → Bool} {out R : List Int} (h : U n f = out ++ R) : U n (mark f out) = R := by
  rw [U_mark, h]
  exact filter_not_left out R (h ▸ U_lt n f)
/-- What goes from the end. -/
theorem U_back {n : Nat} {f : Nat → Bool} {out R : List Int} (h : U n f = R ++ out) : U n (mark f out) = R := by
  rw [U_mark, h]
  exact filter_not_right R out (h ▸ U_lt n f)

theorem nth_mem {l : List Int} {k : Nat} (h : k < l.length) : nth l k ∈ l := by
  simp [nth, h]

theorem pairwise_nth {l : List Int} (h : l.Pairwise (· < ·)) {i j : Nat} (hij : i < j) (hj : j < l.length) : nth l i < nth l j := by
  have := (List.pairwise_iff_getElem.1 h) i j (by omega) hj hij
  simpa [nth, hj, show i < l.length by omega] using this

/-- One more of a list marked. -/
theorem mark_step (f : Nat → Bool) (out : List Int) (k j : Nat) (hk : k < out.length) (hj : nth out k = j) :
    (fun i => if i = j then true else mark f (out.take k) i) = mark f (out.take (k + 1)) := by
  funext i
  have e : out.take (k + 1) = out.take k ++ [nth out k] := by
    rw [List.take_succ_eq_append_getElem hk]; simp [nth, hk]
  unfold mark
  rw [e, hj]
  by_cases h : i = j
  · subst h; simp
  · have : ¬ ((i : Int) = (j : Int)) := by omega
    simp [h, this]

/-- The k-th of a rising list is not marked yet when those ahead of it are. -/
theorem mark_fresh {n : Nat} {f : Nat → Bool} {out : List Int} (hsub : ∀ x ∈ out, x ∈ U n f) (hp : out.Pairwise (· < ·)) {k : Nat} (hk : k < out.length) :
    ∃ j : Nat, nth out k = j ∧ j < n ∧ mark f (out.take k) j = false := by
  obtain ⟨j, h1, h2, h3⟩ := mem_U.1 (hsub _ (nth_mem hk))
  refine ⟨j, h3, h1, ?_⟩
  unfold mark
  rw [h2, Bool.false_or, decide_eq_false_iff_not, ← h3]
  intro hm
  obtain ⟨i, hi, e⟩ := List.getElem_of_mem hm
  have hi' : i < k := by simp at hi; omega
  have := pairwise_nth hp hi' hk
  have e2 : nth out i = nth out k := by
    rw [List.getElem_take] at e
    rw [← e]
    simp [nth, show i < out.length by omega]
  omega

/-- An array of bools in memory. -/
def Bools (w : World) (A N : Nat) (f : Nat → Bool) : Prop := ∀ i, i < N → w.cell? ⟨A, i, none⟩ = some (.bool (f i)) ∧ w.frozen? ⟨A, i, none⟩ = false

theorem Bools.only {w w' : World} {A N : Nat} {f : Nat → Bool} {S : List Nat} (h : Bools w A N f) (ho : Only S w w') (hA : A ∉ S) : Bools w' A N f := fun i hi => by
  obtain ⟨h1, h2⟩ := h i hi
  have hl := cell_lt h1
  exact ⟨(ho.cell (p := ⟨A, i, none⟩) hl hA).trans h1, (ho.frozen (p := ⟨A, i, none⟩) hl hA).trans h2⟩

theorem Bools.set {w : World} {A N : Nat} {f : Nat → Bool} (h : Bools w A N f) (j : Nat) (x : Bool) :
    Bools (w.setCell ⟨A, j, none⟩ (.bool x)) A N (fun i => if i = j then x else f i) := fun i hi => by
  obtain ⟨h1, h2⟩ := h i hi
  refine ⟨?_, by rw [World.frozen?_setCell]; exact h2⟩
  by_cases e : i = j
  · subst e
    rw [World.cell?_setCell_same _ _ _ h1]
    simp
  · rw [World.cell?_setCell_other _ _ _ _ (fun he => e (congrArg Addr.off he).symm), h1]
    simp [e]

theorem Bools.new (w : World) (cs : Array Value) (t : TypeId) (N : Nat) (h : ∀ i, i < N → cs[i]? = some (.bool false)) : Bools (w.alloc (.cells cs t)) w.heap.size N (fun _ => false) := fun i hi => by
  exact ⟨by rw [World.cell?_alloc_new]; exact h i hi, World.frozen?_alloc_at _ _ _ _ rfl⟩

end Go.Proofs.YtocpmncedlenbaaGreatDoor

namespace Go.Proofs.YtocpmncedlenbaaGreatDoor
open Go.RowKit Go.Deep

theorem make_bools (n : Nat) (hn : n ≤ 1000000) (w : World) :
    (Instr.makeSlice 58 (.int .i64 (n : Int)) (.int .i64 (n : Int))).run Tryz.prog w = .ok (.slice (some ⟨w.heap.size, 0, none⟩) n n) (w.alloc (.cells (madeCells #[.bool false] n) 4)) :=
  run_make_row' (P := Tryz.prog) 58 4 (.bool false) 1 Tryz.underlying58 (by kernel_rfl) rfl .i64 .i64 n (by omega) (by omega) w

theorem made_bools (w : World) (n : Nat) : Bools (w.alloc (.cells (madeCells #[.bool false] n) 4)) w.heap.size n (fun _ => false) :=
  Bools.new _ _ _ _ fun i hi => by
    have e := made_list (.bool false) n
    rw [← Array.getElem?_toList, e]
    simp [hi]

end Go.Proofs.YtocpmncedlenbaaGreatDoor
