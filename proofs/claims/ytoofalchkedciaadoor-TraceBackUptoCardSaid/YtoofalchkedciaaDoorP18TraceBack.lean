/-
  The first place of a list at which a test says yes.
  Contracts of slices.IndexFunc and slices.ContainsFunc at []int for whatever function literal, with whatever it captures.
  Contracts of plan.task and plan.Check, plan.Right.
-/
import Derived.Test.YtoofalchkedciaaDoorP4TraceBack
import Derived.Test.YtoofalchkedciaaDoorP17TraceBack
namespace Go.Proofs.YtoofalchkedciaaDoor

/-- The first place; -1, if there is none. -/
def firstIdx (P : Int → Bool) : List Int → Int
  | [] => -1
  | x :: l => if P x then 0 else if firstIdx P l < 0 then -1 else firstIdx P l + 1

theorem firstIdx_ge (P : Int → Bool) (l : List Int) : -1 ≤ firstIdx P l := by
  induction l with
  | nil => exact Int.le_refl _
  | cons x l ih =>
    unfold firstIdx
    split
    · omega
    · split <;> omega

theorem firstIdx_any (P : Int → Bool) (l : List Int) : decide (0 ≤ firstIdx P l) = l.any P := by
  induction l with
  | nil => rfl
  | cons x l ih =>
    unfold firstIdx
    rw [List.any_cons]
    cases hx : P x
    · rw [if_neg (by simp), Bool.false_or, ← ih]
      have := firstIdx_ge P l
      split
      · simp; omega
      · simp; omega
    · simp

theorem firstIdx_none (P : Int → Bool) (l : List Int) (h : ∀ j, j < l.length → P (nth l j) = false) : firstIdx P l = -1 := by
  have ha := firstIdx_any P l
  have hf : l.any P = false := by
    rw [List.any_eq_false]
    intro x hx
    obtain ⟨j, hj, rfl⟩ := List.getElem_of_mem hx
    have := h j hj
    simpa [nth, hj] using this
  rw [hf] at ha
  have := firstIdx_ge P l
  simp at ha
  omega

theorem firstIdx_at (P : Int → Bool) (l : List Int) (i : Nat) (hi : i < l.length) (h : ∀ j, j < i → P (nth l j) = false) (hp : P (nth l i) = true) : firstIdx P l = i := by
  induction l generalizing i with
  | nil => simp at hi
  | cons x l ih =>
    unfold firstIdx
    rcases i with _ | i
    · have : P x = true := by simpa [nth] using hp
      simp [this]
    · have h0 : P x = false := by simpa [nth] using h 0 (by omega)
      have := ih i (by simpa using hi) (fun j hj => by simpa [nth] using h (j + 1) (by omega)) (by simpa [nth] using hp)
      rw [if_neg (by simp [h0]), this, if_neg (by omega)]
      rfl

end Go.Proofs.YtoofalchkedciaaDoor

namespace Go.Proofs.YtoofalchkedciaaDoor
open Go.RowKit

/-- A call of F enters it. -/
def Entered (F : FuncId) : Prop := ∀ args w, Sem.run Tryd.prog (callFunc F args) w = .ok (.enter F args) w

set_option maxHeartbeats 1000000 in
set_option maxRecDepth 100000 in
theorem fn_index (F : FuncId) (hcf : Entered F) (caps : Array Value) (v : Value) (l : List Int) (w : World) (P : Int → Bool) (h : Reads w v l) (hl : l.length ≤ 9223372036854775807)
    (hc : ∀ x, x ∈ l → ∀ n, Calls Tryd.prog F (#[.int .i64 x] ++ caps) (w.drewN n) fun e w' => e = .returned (.bool (P x)) ∧ ∃ m, w' = w.drewN m) :
    Calls Tryd.prog 60 #[v, .func (.func F) #[] caps] w fun e w' => e = .returned (.int .i64 (firstIdx P l)) ∧ ∃ m, w' = w.drewN m := by
  obtain ⟨a, c, rfl, ha⟩ := h.opt
  obtain ⟨n, hn⟩ : ∃ n, l.length = n := ⟨_, rfl⟩
  have HN := Lib.hid hn
  have HC := Lib.hid hc
  rw [hn] at ha hl ⊢
  clear h hn hc
  go_enter Tryd.func60, Tryd.ntmps60
  go_wp2_with fail
  go_loopw [8] (fun vi wr => ∃ i : Nat, i ≤ n ∧ vi = .int .i64 i ∧ (∀ j, j < i → P (nth l j) = false) ∧ ∃ m, wr = w.drewN m) (fun vi _ => n - (intOf vi).toNat)
  case atStart => exact ⟨0, Nat.zero_le _, rfl, fun j hj => by omega, 0, rfl⟩
  case round =>
    obtain ⟨i, hi, rfl, hno, m, rfl⟩ := hrel
    have HNO := Lib.hid hno
    clear hno
    by_cases hin : i < n
    · obtain ⟨ba, oa, rfl, k0⟩ := ha i hin
      have hcl := HC.out (nth l i) (by simp [nth, HN.out, hin]) m
      obtain ⟨z, hz⟩ : ∃ z, nth l i = z := ⟨_, rfl⟩
      have HZ := Lib.hid hz
      rw [hz] at k0 hcl
      obtain ⟨pz, hpz⟩ : ∃ p, P z = p := ⟨_, rfl⟩
      have HPZ := Lib.hid hpz
      rw [hpz] at hcl
      clear ha hz hpz
      go_wp2_with fail
      rw [hcf, Oper.upon_enter]
      refine hcl.mono ?_
      rintro e w9 ⟨rfl, m9, rfl⟩
      clear hcl
      cases pz
      · go_wp2
        go_roundw
        case rel =>
          refine ⟨i + 1, by omega, by go_num, fun j hj => ?_, _, rfl⟩
          by_cases e : j = i
          · subst e; rw [HZ.out]; exact HPZ.out
          · exact HNO.out j (by omega)
        case measure => (simp [intOf]; try omega)
      · have hf := Lib.hid (firstIdx_at P l i (by rw [HN.out]; exact hin) HNO.out (by rw [HZ.out]; exact HPZ.out))
        go_wp2
        go_ret
        exact ⟨by rw [hf.out]; rfl, _, rfl⟩
    · obtain rfl : i = n := by omega
      have hf := Lib.hid (firstIdx_none P l (fun j hj => HNO.out j (by rw [HN.out] at hj; exact hj)))
      clear ha
      go_wp2
      go_ret
      exact ⟨by rw [hf.out]; rfl, _, rfl⟩

set_option maxRecDepth 100000 in
theorem fn_contains (F : FuncId) (hcf : Entered F) (caps : Array Value) (v : Value) (l : List Int) (w : World) (P : Int → Bool) (h : Reads w v l) (hl : l.length ≤ 9223372036854775807)
    (hc : ∀ x, x ∈ l → ∀ n, Calls Tryd.prog F (#[.int .i64 x] ++ caps) (w.drewN n) fun e w' => e = .returned (.bool (P x)) ∧ ∃ m, w' = w.drewN m) (r : Bool) (hr : l.any P = r) :
    Calls Tryd.prog 42 #[v, .func (.func F) #[] caps] w fun e w' => e = .returned (.bool r) ∧ ∃ m, w' = w.drewN m := by
  have HR := Lib.hid hr
  have hi := fn_index F hcf caps v l w P h hl hc
  have hs := firstIdx_any P l
  rw [hr] at hs
  obtain ⟨z, hz⟩ : ∃ z, firstIdx P l = z := ⟨_, rfl⟩
  rw [hz] at hi hs
  clear hr hc hz
  go_enter Tryd.func42, Tryd.ntmps42
  go_wp2_with fail
  refine hi.mono ?_
  rintro e w1 ⟨rfl, m, rfl⟩
  clear hi
  go_wp2
  go_ret
  exact ⟨by simp, _, rfl⟩

end Go.Proofs.YtoofalchkedciaaDoor

namespace Go.Proofs.YtoofalchkedciaaDoor
open Go.RowKit

/-- An error of the program, by its number; 0: none. -/
def errV (e : Int) : Value := if e = 0 then .nilIface else .iface 56 (.int .i64 e)

theorem plan_task1 (k : Int) (bx : Nat) (a : Option Addr) (n cap : Nat) (w : World) (hb : w.cell? ⟨bx, 0, none⟩ = some (.slice a n cap)) (_hn : n ≤ 9223372036854775807) :
    Calls Tryd.prog 44 #[.int .i64 k, .pointer (some ⟨bx, 0, none⟩)] w fun e w' => e = .returned (.bool (outOf n k)) ∧ w = w' := by
  have hr : Hid (outOf n k = (decide (k < 0) || decide ((n : Int) ≤ k))) := rfl
  by_cases h0 : k < 0
  · have h1 : Hid (outOf n k = true) := by show _ = _; simp [outOf, h0]
    go_enter Tryd.func44, Tryd.ntmps44
    go_wp2
    go_ret
    exact ⟨by rw [h1.out]; rfl, rfl⟩
  · have h1 : 0 ≤ k := by omega
    clear h0
    go_enter Tryd.func44, Tryd.ntmps44
    go_wp2
    go_ret
    exact ⟨by rw [hr.out]; rfl, rfl⟩

set_option maxHeartbeats 1000000 in
theorem plan_task (v : Value) (p : PlanL) (i : Nat) (w : World) (h : InPlan w v p) (hi : i < p.length) :
    Calls Tryd.prog 23 #[v, .int .i64 i] w fun e w' => e = .returned (errV (taskFault p.length (p[i]?.getD (0, [])))) ∧ Only [] w w' := by
  obtain ⟨a, cap, rfl, hc1, hc2, ht⟩ := h.task
  obtain ⟨b, off, u, rfl, c0, c1, hr⟩ := ht i hi
  have hnl := h.needLen i
  have hF : taskFault p.length (p[i]?.getD (0, [])) = if wkOf p i < 1 ∨ 20 < wkOf p i ∨ (ndOf p i).any (outOf p.length) = true then 1 else if rising (ndOf p i) = true then 0 else 7 := rfl
  rw [hF]
  generalize wkOf p i = x at *
  generalize ndOf p i = l at *
  obtain ⟨n, hn⟩ : ∃ n, p.length = n := ⟨_, rfl⟩
  rw [hn] at hi hc1 ⊢
  have hc2' : n ≤ 9223372036854775807 := by unfold maxLen at hc2; omega
  clear ht hF hn h
  obtain ⟨ua, ucap, rfl, hul⟩ := hr.opt
  obtain ⟨m, hm⟩ : ∃ m, l.length = m := ⟨_, rfl⟩
  have HM := Lib.hid hm
  rw [hm] at c1 hr hul hnl
  clear hm
  have ho1 := (Only.refl [] w).alloc (.cells #[.slice (some ⟨b, off, none⟩) n cap] 23)
  have ho2 := ho1.alloc (.cells #[.int .i64 x, .slice ua m ucap] 30)
  have d0 := (ho1.cell (p := ⟨b, _, none⟩) (cell_lt c0) (by simp)).trans c0
  have d1 := (ho1.cell (p := ⟨b, _, none⟩) (cell_lt c1) (by simp)).trans c1
  clear c0 c1 ho1
  by_cases hx1 : x < 1
  · rw [if_pos (.inl hx1)]
    clear hr
    go_enter Tryd.func23, Tryd.ntmps23
    go_wp2
    go_ret
    exact ⟨rfl, ho2⟩
  · have hx1' : 1 ≤ x := by omega
    by_cases hx2 : 20 < x
    · rw [if_pos (.inr (.inl hx2))]
      clear hr hx1
      go_enter Tryd.func23, Tryd.ntmps23
      go_wp2
      go_ret
      exact ⟨rfl, ho2⟩
    · have hx2' : x ≤ 20 := by omega
      clear hx1 hx2
      have hrd := hr.same ho2
      clear hr
      have hbx : ((w.alloc (.cells #[.slice (some ⟨b, off, none⟩) n cap] 23)).alloc (.cells #[.int .i64 x, .slice ua m ucap] 30)).cell? ⟨w.heap.size, 0, none⟩ = some (.slice (some ⟨b, off, none⟩) n cap) := by
        rw [World.cell?_alloc_lt _ _ _ (by simp), World.cell?_alloc_at _ _ _ _ rfl]; rfl
      have hcl := fn_contains 44 (fun _ _ => by kernel_rfl) #[.pointer (some ⟨w.heap.size, 0, none⟩)] _ l _ (outOf n) hrd (by rw [HM.out]; exact hnl)
        (fun k hk dn => (plan_task1 k w.heap.size (some ⟨b, off, none⟩) n cap _ ((cell_drewN _ dn _).trans hbx) hc2').mono fun e w' ⟨h1, h2⟩ => ⟨h1, dn, h2.symm⟩)
      clear hbx
      by_cases hany : l.any (outOf n) = true
      · rw [if_pos (.inr (.inr hany))]
        have hcl := hcl true hany
        clear hany hrd
        go_enter Tryd.func23, Tryd.ntmps23
        go_wp2_with fail
        refine hcl.mono ?_
        rintro e w1 ⟨rfl, dn, rfl⟩
        clear hcl
        go_wp2
        go_ret
        exact ⟨rfl, ho2.drewN _⟩
      · have hany' : l.any (outOf n) = false := by simpa using hany
        rw [if_neg (by rintro (h | h | h) <;> first | omega | exact hany h)]
        have hcl := hcl false hany'
        clear hany hany'
        obtain ⟨r, hr⟩ : ∃ r, (if rising l = true then (0 : Int) else 7) = r := ⟨_, rfl⟩
        rw [hr]
        have HRES := Lib.hid hr
        clear hr
        go_enter Tryd.func23, Tryd.ntmps23
        go_wp2_with fail
        refine hcl.mono ?_
        rintro e w1 ⟨rfl, dn, rfl⟩
        clear hcl
        have hcells : ∀ i, i < m → ∃ ub uo, ua = some ⟨ub, uo, none⟩ ∧ ((w.alloc (.cells #[.slice (some ⟨b, off, none⟩) n cap] 23)).alloc (.cells #[.int .i64 x, .slice ua m ucap] 30)).cell? ⟨ub, uo + i, none⟩ = some (.int .i64 (nth l i)) := by
          intro i hi
          obtain ⟨ub, uo, rfl, hc⟩ := hul i hi
          exact ⟨ub, uo, rfl, (ho2.cell (p := ⟨ub, _, none⟩) (cell_lt hc) (by simp)).trans hc⟩
        have HC := Lib.hid hcells
        clear hcells hul hrd d0 d1
        go_wp2_with fail
        go_loopw [6] (fun vi wr => ∃ j : Nat, (j < m ∨ j = 0) ∧ vi = .int .i64 ((j : Int) + 1) ∧ (∀ i, i < j → nth l i < nth l (i + 1)) ∧ ∃ dn, wr = ((w.alloc (.cells #[.slice (some ⟨b, off, none⟩) n cap] 23)).alloc (.cells #[.int .i64 x, .slice ua m ucap] 30)).drewN dn)
          (fun vi _ => m + 1 - (intOf vi).toNat)
        case atStart => exact ⟨0, .inr rfl, rfl, fun i hi => by omega, dn, rfl⟩
        case round =>
          obtain ⟨j, hj, rfl, hris, dn2, rfl⟩ := hrel
          have HR := Lib.hid hris
          clear hris
          by_cases hlt : j + 1 < m
          · obtain ⟨ub, uo, rfl, k0⟩ := HC.out j (by omega)
            obtain ⟨ub2, uo2, e, k1⟩ := HC.out (j + 1) hlt
            injection e with e
            injection e with e1 e2
            subst e1 e2
            have hwr : IntKind.i64.wrap ((j : Int) + 1 - 1) = (j : Int) := by rw [IntWalk.i64_in _ (by omega)]; omega
            obtain ⟨y0, hy0⟩ : ∃ y, nth l j = y := ⟨_, rfl⟩
            obtain ⟨y1, hy1⟩ : ∃ y, nth l (j + 1) = y := ⟨_, rfl⟩
            rw [hy0] at k0
            rw [hy1] at k1
            have HY0 := Lib.hid hy0
            have HY1 := Lib.hid hy1
            clear hy0 hy1
            by_cases hcl : y1 ≤ y0
            · have hfa : Hid (rising l ≠ true) := by
                show _ ≠ _
                intro h
                have := (rising_nth l).1 h j (by rw [HM.out]; exact hlt)
                rw [HY0.out, HY1.out] at this
                omega
              go_wp2_with fail
              go_quiet (fail)
              go_wp2
              go_ret
              exact ⟨by rw [← HRES.out, if_neg hfa.out]; rfl, ho2.drewN _⟩
            · have hcl2 : y0 < y1 := by omega
              clear hcl
              go_wp2_with fail
              go_quiet (fail)
              go_wp2
              go_roundw
              case rel =>
                refine ⟨j + 1, by omega, by go_num, fun i hi => ?_, _, rfl⟩
                by_cases e : i = j
                · subst e; rw [HY0.out, HY1.out]; exact hcl2
                · exact HR.out i (by omega)
              case measure => (simp [intOf]; try omega)
          · have hfa : Hid (rising l = true) := by
              show _ = _
              refine (rising_nth l).2 fun k hk => ?_
              rw [HM.out] at hk
              exact HR.out k (by omega)
            clear hj
            go_wp2
            go_ret
            exact ⟨by rw [← HRES.out, if_pos hfa.out]; rfl, ho2.drewN _⟩

end Go.Proofs.YtoofalchkedciaaDoor
