/-
  Contracts of groups.Live.
-/
import Derived.Test.YtadjcooemeaaeaaDoorGroups2
import Derived.Test.YtadjcooemeaaeaaDoorJoinE
import Derived.Test.YtadjcooemeaaeaaDoorPlanA
import Derived.Test.YtadjcooemeaaeaaDoorFnStill
namespace Go.Proofs.YtadjcooemeaaeaaDoor
open Go.RowKit Go.Deep

theorem live_1 (k : Int) (bx : Nat) (a : Option Addr) (n cap : Nat) (w : World) (hb : w.cell? ⟨bx, 0, none⟩ = some (.slice a n cap)) :
    Calls Tryd.prog 87 #[.int .i64 k, .pointer (some ⟨bx, 0, none⟩)] w fun e w' => e = .returned (.bool (outOf n k)) ∧ w = w' := by
  have hr : Hid (outOf n k = (decide (k < 0) || decide ((n : Int) ≤ k))) := rfl
  by_cases h0 : k < 0
  · have h1 : Hid (outOf n k = true) := by show _ = _; simp [outOf, h0]
    go_enter Tryd.func87, Tryd.ntmps87
    go_wp2
    go_ret
    exact ⟨by rw [h1.out]; rfl, rfl⟩
  · have h1 : 0 ≤ k := by omega
    clear h0
    go_enter Tryd.func87, Tryd.ntmps87
    go_wp2
    go_ret
    exact ⟨by rw [hr.out]; rfl, rfl⟩

theorem live_2 (k : Nat) (dx A n : Nat) (f : Nat → Bool) (w : World) (hd : w.cell? ⟨dx, 0, none⟩ = some (.slice (some ⟨A, 0, none⟩) n n)) (hB : Bools w A n f) (hk : k < n) :
    Calls Tryd.prog 88 #[.int .i64 (k : Int), .pointer (some ⟨dx, 0, none⟩)] w fun e w' => e = .returned (.bool (!f k)) ∧ w = w' := by
  have c := (hB k hk).1
  generalize f k = fk at *
  clear hB
  go_enter Tryd.func88, Tryd.ntmps88
  go_wp2
  go_ret
  exact ⟨rfl, rfl⟩

/-- What is wrong with a plan, groups, and of which one each task is. -/
noncomputable def lErr (p : PlanL) (n : Nat) (P : Nat → Int) (of : List Int) : Int :=
  if planFault p = 0 then (if grpFault n P = 0 then (if of.length = p.length then (if of.any (outOf n) = true then 1 else 0) else 3) else grpFault n P) else planFault p

theorem lErr_zero {p : PlanL} {n : Nat} {P : Nat → Int} {of : List Int} (h : lErr p n P of = 0) : PlanOk p ∧ n ≤ 12 ∧ Tree n P ∧ of.length = p.length ∧ of.any (outOf n) = false := by
  unfold lErr at h
  by_cases h1 : planFault p = 0
  · rw [if_pos h1] at h
    by_cases h2 : grpFault n P = 0
    · rw [if_pos h2] at h
      by_cases h3 : of.length = p.length
      · rw [if_pos h3] at h
        by_cases h4 : of.any (outOf n) = true
        · rw [if_pos h4] at h; cases h
        · exact ⟨(planOk_iff p).2 h1, (grpFault_zero h2).1, (grpFault_zero h2).2, h3, by simpa using h4⟩
      · rw [if_neg h3] at h; cases h
    · rw [if_neg h2] at h; exact absurd h h2
  · rw [if_neg h1] at h; exact absurd h h1

set_option maxRecDepth 100000 in
set_option maxHeartbeats 4000000 in
theorem groups_Live_no (pv gv ov : Value) (p : PlanL) (n : Nat) (P : Nat → Int) (C : Nat → Bool) (of : List Int) (w : World) (hp : InPlan w pv p) (hg : InGroups w gv n P C) (ho : Reads w ov of) (he : lErr p n P of ≠ 0) :
    Calls Tryd.prog 33 #[pv, gv, ov] w fun e w' => e = .returned (.tuple #[.slice none 0 0, .iface 115 (.int .i64 (lErr p n P of))]) ∧ Only [] w w' := by
  have hal := (Only.refl [] w).alloc (.cells #[gv] 56)
  have hr := plan_Right pv p _ (hp.same hal)
  have hn9 := inGroups_len hg
  have hck := Lib.hid (fun w' (h : Only [] w w') => groups_Check gv n P C w' (Pairs.same hg h))
  obtain ⟨ga, gcap, rfl, _⟩ := hg
  have hbx : (w.alloc (.cells #[.slice ga n gcap] 56)).cell? ⟨w.heap.size, 0, none⟩ = some (.slice ga n gcap) := World.cell?_alloc_at _ _ _ _ rfl
  have hbl : w.heap.size < (w.alloc (.cells #[.slice ga n gcap] 56)).heap.size := by simp
  unfold lErr at he ⊢
  by_cases h1 : planFault p = 0
  · rw [if_pos h1] at he ⊢
    rw [h1, errV_zero] at hr
    by_cases h2 : grpFault n P = 0
    · rw [if_pos h2] at he ⊢
      rw [h2, errV_zero] at hck
      obtain ⟨pa, pcap, rfl, _, _, _⟩ := hp.task
      obtain ⟨oa, ocap, rfl, _⟩ := ho.opt
      by_cases h3 : of.length = p.length
      · rw [if_pos h3] at he ⊢
        have h4 : of.any (outOf n) = true := by
          by_cases h4 : of.any (outOf n) = true
          · exact h4
          · rw [if_neg h4] at he; exact absurd rfl he
        rw [if_pos h4]
        have hcl := Lib.hid (fun w' (h : Only [] (w.alloc (.cells #[.slice ga n gcap] 56)) w') => fn_contains 87 (fun _ _ => by kernel_rfl) #[.pointer (some ⟨w.heap.size, 0, none⟩)] _ of w' (outOf n) (ho.same (hal.trans h (by simp))) ho.len
          (fun k hk dn => (live_1 k w.heap.size ga n gcap _ ((cell_drewN _ dn _).trans ((h.cell (p := ⟨w.heap.size, 0, none⟩) hbl (by simp)).trans hbx))).mono fun e w' ⟨h1, h2⟩ => ⟨h1, dn, h2.symm⟩) true h4)
        have hoff := h3
        rw [hoff] at hcl
        clear he h1 h2 h3 h4 ho hp
        go_enter Tryd.func33, Tryd.ntmps33
        go_wp2_with fail
        refine hr.mono ?_
        rintro e w1 ⟨rfl, ho1⟩
        have cb1 := (ho1.cell (p := ⟨w.heap.size, 0, none⟩) hbl (by simp)).trans hbx
        have hoo := hal.trans ho1 (by simp)
        clear hr
        go_wp2_with fail
        refine (hck.out w1 hoo).mono ?_
        rintro e w2 ⟨rfl, ho2⟩
        have hoo2 := hoo.trans ho2 (by simp)
        have ho12 := ho1.trans ho2 (by simp)
        go_wp2_with fail
        refine (hcl.out w2 ho12).mono ?_
        rintro e w3 ⟨rfl, dn, rfl⟩
        clear hcl hck
        go_wp2
        go_ret2
        exact ⟨rfl, hoo2.drewN _⟩
      · rw [if_neg h3] at he ⊢
        have hne : ((of.length : Int) == (p.length : Int)) = false := by simp; omega
        have h3' : Hid (¬ of.length = p.length) := h3
        obtain ⟨lo, hlo⟩ : ∃ lo, of.length = lo := ⟨_, rfl⟩
        obtain ⟨lp, hlp⟩ : ∃ lp, p.length = lp := ⟨_, rfl⟩
        rw [hlo, hlp] at hne
        rw [hlp] at hr
        rw [hlo, hlp]
        clear he h1 h2 h3 ho hp hlo hlp
        go_enter Tryd.func33, Tryd.ntmps33
        go_wp2_with fail
        refine hr.mono ?_
        rintro e w1 ⟨rfl, ho1⟩
        have cb1 := (ho1.cell (p := ⟨w.heap.size, 0, none⟩) hbl (by simp)).trans hbx
        have hoo := hal.trans ho1 (by simp)
        clear hr
        go_wp2_with fail
        refine (hck.out w1 hoo).mono ?_
        rintro e w2 ⟨rfl, ho2⟩
        have hoo2 := hoo.trans ho2 (by simp)
        clear hck
        go_wp2
        go_ret2
        exact ⟨rfl, hoo2⟩
    · rw [if_neg h2] at he ⊢
      rw [errV_ne h2] at hck
      generalize grpFault n P = f at *
      clear he h1 h2 ho hp
      go_enter Tryd.func33, Tryd.ntmps33
      go_wp2_with fail
      refine hr.mono ?_
      rintro e w1 ⟨rfl, ho1⟩
      have cb1 := (ho1.cell (p := ⟨w.heap.size, 0, none⟩) hbl (by simp)).trans hbx
      have hoo := hal.trans ho1 (by simp)
      clear hr
      go_wp2_with fail
      refine (hck.out w1 hoo).mono ?_
      rintro e w2 ⟨rfl, ho2⟩
      have hoo2 := hoo.trans ho2 (by simp)
      clear hck
      go_wp2
      go_ret2
      exact ⟨rfl, hoo2⟩
  · rw [if_neg h1] at he ⊢
    rw [errV_ne h1] at hr
    generalize planFault p = f at *
    clear he h1 ho hp hck
    go_enter Tryd.func33, Tryd.ntmps33
    go_wp2_with fail
    refine hr.mono ?_
    rintro e w1 ⟨rfl, ho1⟩
    have hoo := hal.trans ho1 (by simp)
    clear hr
    go_wp2
    go_ret2
    exact ⟨rfl, hoo⟩

end Go.Proofs.YtadjcooemeaaeaaDoor
