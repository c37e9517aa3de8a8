/-
  Contract of plan.Own.
-/
import Derived.Test.YtoofalchkedciaaGreatDoorP17PlanTells
import Derived.Test.YtoofalchkedciaaGreatDoorP11PlanTells
namespace Go.Proofs.YtoofalchkedciaaGreatDoor
open Go.RowKit Go.Deep

theorem flatP_at (p : PlanL) (N : Nat → Value) (n j : Nat) (hj : j < n * 2) : (flatP p N n)[j]? = some (if j % 2 = 0 then .int .i64 (wkOf p (j / 2)) else N (j / 2)) := by
  unfold flatP
  rw [List.getElem?_map, List.getElem?_range hj]
  rfl
theorem flatP_one (p : PlanL) (N : Nat → Value) (n : Nat) (h : ∀ i, i < n → (N i).oneCell' = true) : ∀ y ∈ flatP p N n, y.oneCell' = true := by
  intro y hy
  unfold flatP at hy
  obtain ⟨j, hj, rfl⟩ := List.mem_map.1 hy
  have hj' : j < n * 2 := by simpa using hj
  split
  · rfl
  · exact h _ (by omega)
theorem flatP_set (p : PlanL) (N : Nat → Value) (n i : Nat) (u : Value) (h : i < n) : (flatP p N n).set (i * 2 + 1) u = flatP p (updV N i u) n := by
  apply List.ext_getElem?
  intro j
  by_cases hj : j < n * 2
  · by_cases e : j = i * 2 + 1
    · subst e
      rw [flatP_1 _ _ _ _ h, List.getElem?_set_self (by rw [flatP_len]; omega)]
      simp [updV]
    · rw [List.getElem?_set_ne (Ne.symm e), flatP_at _ _ _ _ hj, flatP_at _ _ _ _ hj]
      split
      · rfl
      · rw [updV, if_neg (by omega)]
  · rw [List.getElem?_eq_none (by rw [List.length_set, flatP_len]; omega), List.getElem?_eq_none (by rw [flatP_len]; omega)]

theorem pairs_at {w : World} {v : Value} {n : Nat} {p : PlanL} {N : Nat → Value} (h : Pairs w v n (fun i => .int .i64 (wkOf p i)) N) (h1 : ∀ i, i < n → (N i).oneCell' = true) : RowAt w v n 2 (flatP p N n) := by
  obtain ⟨a, cap, rfl, hl, hm, h0, h3⟩ := h
  refine ⟨flatP_len _ _ _, flatP_one _ _ _ h1, ?_⟩
  by_cases e : n = 0
  · subst e
    left
    refine ⟨rfl, ?_⟩
    cases a with
    | none => left; rw [h0 rfl]
    | some x => exact .inr ⟨x, cap, rfl⟩
  · obtain ⟨b, off, rfl, _, _⟩ := h3 0 (by omega)
    refine .inr ⟨by omega, b, off, cap, rfl, fun j y hy => ?_⟩
    have hj : j < n * 2 := by
      rcases Nat.lt_or_ge j (n * 2) with hl | hl
      · exact hl
      · rw [List.getElem?_eq_none (by rw [flatP_len]; exact hl)] at hy; cases hy
    obtain ⟨b', off', hb, k0, k1⟩ := h3 (j / 2) (by omega)
    injection hb with hb
    injection hb with e1 e2
    subst e1 e2
    rw [flatP_at _ _ _ _ hj] at hy
    injection hy with hy
    subst hy
    split
    · rw [show off + j / 2 * 2 = off + j by omega] at k0; exact k0
    · rw [show off + j / 2 * 2 + 1 = off + j by omega] at k1; exact k1

set_option maxHeartbeats 1000000 in
set_option maxRecDepth 100000 in
theorem clone_plan (v : Value) (n : Nat) (ys : List Value) (w : World) (h : RowAt w v n 2 ys) (hl : n ≤ 1000000) :
    Calls Tryz.prog 131 #[v] w fun e w' => ∃ v', e = .returned v' ∧ w'.ownsRow w.heap.size 94 2 v' n ys ∧ Only [] w w' := by
  have hnil := fun (a : Option Addr) (n c : Nat) (w : World) => Lib.run_eql_slice_nil (P := Tryz.prog) w 23 94 a n c 0 0 Tryz.underlying23
  by_cases hv : v = .slice none 0 0
  · subst hv
    obtain rfl : n = 0 := by
      rcases h.2.2 with ⟨h0, _⟩ | ⟨_, b, off, cap, hb, _⟩
      · exact h0
      · cases hb
    obtain rfl : ys = [] := List.eq_nil_of_length_eq_zero (by simpa using h.1)
    go_enter Tryz.func131, Tryz.ntmps131
    go_wp2
    go_ret
    exact ⟨_, rfl, World.ownsRow_nil _ _ _ _, Only.refl _ _⟩
  · obtain ⟨x, c, rfl⟩ : ∃ x c, v = .slice (some x) n c := by
      rcases h.2.2 with ⟨rfl, rfl | ⟨x, c, rfl⟩⟩ | ⟨_, b, off, cap, rfl, _⟩
      · exact absurd rfl hv
      · exact ⟨x, c, rfl⟩
      · exact ⟨_, _, rfl⟩
    have ho := (Only.refl [] w).alloc (.cells #[] 94)
    have hown : (w.alloc (.cells #[] 94)).ownsRow w.heap.size 94 2 (.slice (some ⟨w.heap.size, 0, none⟩) 0 0) 0 [] := ⟨by simp, .inr ⟨w.heap.size, 0, #[], rfl, Nat.le_refl _, heap_alloc_new _ _, Nat.le_refl _, by unfold maxLen; omega, rfl, rfl⟩⟩
    have hh' := h.same ho
    clear h hv
    go_enter Tryz.func131, Tryz.ntmps131
    go_wp2_with (at_builtin; refine wpList_append_rows sliceOf_plan rfl (.tmp 5) (.tmp 6) rfl _ w.heap.size _ 0 [] _ n _ hown hh' (by omega) (by simp) rfl rfl (Only.refl _ _) ?_; intro v' w' hI hO _)
    rw [Nat.zero_add, List.nil_append] at hI
    have ho2 : Only [] w w' := ho.fresh (B := w.heap.size) (hO.mono (by simp [own, Value.ownBlock])) (Nat.le_refl _)
    clear hown hh' hO hnil
    go_wp2
    go_ret
    exact ⟨_, rfl, hI, ho2⟩

set_option maxRecDepth 100000 in
set_option maxHeartbeats 4000000 in
theorem plan_Own (v : Value) (p : PlanL) (w : World) (h : InPlan w v p) (hok : PlanOk p) :
    Calls Tryz.prog 85 #[v] w fun e w' => ∃ v', e = .returned v' ∧ OwnPlan w' w.heap.size (fun x => w.heap.size ≤ x ∧ x < w'.heap.size) v' p ∧ Only [] w w' := by
  have HO := Lib.hid hok
  obtain ⟨n, hn⟩ : ∃ n, p.length = n := ⟨_, rfl⟩
  have HL := Lib.hid hn
  have h30 : n ≤ 30 := by rw [← hn]; exact hok.len
  obtain ⟨N, hp, hrd, _, _⟩ := h
  rw [hn] at hp hrd
  have hN1 : ∀ i, i < n → (N i).oneCell' = true := fun i hi => (hrd i hi).oneCell
  have hcl := clone_plan v n _ w (pairs_at hp hN1) (by omega)
  have HRD := Lib.hid hrd
  have HN1 := Lib.hid hN1
  clear hok hn hp hrd hN1
  go_enter Tryz.func85, Tryz.ntmps85
  go_wp2_with fail
  refine hcl.mono ?_
  rintro e w1 ⟨v1, rfl, hI1, ho1⟩
  clear hcl
  have hsz1 := ho1.size
  obtain ⟨a, cap, rfl, hf1, hf2, hf3⟩ := Row.form hI1
  go_wp2_with fail
  go_loopw [9] (fun vi wr => ∃ i : Nat, i ≤ n ∧ vi = .int .i64 i ∧ ∃ N : Nat → Value, wr.ownsRow w.heap.size 94 2 (.slice a n cap) n (flatP p N n) ∧ (∀ j, j < n → Reads wr (N j) (ndOf p j)) ∧ (∀ j, j < n → (N j).oneCell' = true) ∧
      (∀ j, j < n → ndOf p j ≠ [] → ∀ x ∈ own (N j), (j < i → w.heap.size ≤ x ∧ x < wr.heap.size) ∧ x ∉ own (.slice a n cap)) ∧ Only [] w wr) (fun vi _ => n - (intOf vi).toNat)
  case atStart =>
    refine ⟨0, Nat.zero_le _, rfl, N, hI1, fun j hj => (HRD.out j hj).same ho1, HN1.out, fun j hj h0 x hx => ⟨fun h => by omega, fun hx2 => ?_⟩, ho1⟩
    have h1 := (Row.far hI1 x hx2).1
    have h2 : x < w.heap.size := by
      rcases HRD.out j hj with ⟨h, _⟩ | ⟨_, b, off, c, hv, _, _, hc⟩
      · exact absurd h h0
      · rw [hv] at hx
        obtain rfl : x = b := by simpa [own, Value.ownBlock] using hx
        exact cell_lt (hc 0 (List.length_pos_iff.2 h0))
    omega
  case round =>
    obtain ⟨wo, rfl⟩ : ∃ wo : World, wo = wr := ⟨_, rfl⟩
    clear hI1 HRD HN1
    obtain ⟨i, hi, rfl, N1, hI, hrd, hN, hF, ho⟩ := hrel
    by_cases hin : i < n
    · obtain ⟨g, rfl, _, _⟩ := hf3 (by omega)
      have c0 : wo.cell? ⟨g, i * 2, none⟩ = some (.int .i64 (wkOf p i)) := by rw [World.ownsRow.cellAt hI _ (by omega), flatP_0 _ _ _ _ hin]
      have c1 : wo.cell? ⟨g, i * 2 + 1, none⟩ = some (N1 i) := by rw [World.ownsRow.cellAt hI _ (by omega), flatP_1 _ _ _ _ hin]
      obtain ⟨ua, uc, hu, _⟩ := (hrd i hin).opt
      have hnl : (ndOf p i).length ≤ 30 := by have := HO.out.needs i; rw [HL.out] at this; omega
      have hri := hrd i hin
      rw [hu] at c1 hri
      obtain ⟨x, hx⟩ : ∃ x, wkOf p i = x := ⟨_, rfl⟩
      have HX := Lib.hid hx
      rw [hx] at c0
      obtain ⟨m, hm⟩ : ∃ m, (ndOf p i).length = m := ⟨_, rfl⟩
      rw [hm] at c1 hri hnl
      have HM := Lib.hid hm
      have hal := (Only.refl [] wo).alloc (.cells #[.int .i64 x, .slice ua m uc] 94)
      have hcl := clone_ints _ _ _ (hri.same hal) (by rw [hm]; omega)
      have HH := Lib.hid (And.intro hI (And.intro hrd (And.intro hN (And.intro hF ho))))
      clear hI hrd hN hF hri hx hm hu
      go_wp2_with fail
      refine hcl.mono ?_
      rintro e w2 ⟨v2, rfl, hI2, ho2⟩
      clear hcl
      obtain ⟨hI, hrd, hN, hF, ho⟩ := HH.out
      have hoo2 := hal.trans ho2 (by simp)
      have hI3 := Row.same hI hoo2
      have f1 := World.ownsRow.frozenAt hI3 (i * 2 + 1)
      have c3 : w2.cell? ⟨g, i * 2 + 1, none⟩ = some (N1 i) := by rw [World.ownsRow.cellAt hI3 _ (by omega), flatP_1 _ _ _ _ hin]
      have hgl := Row.far hI g (by simp [own, Value.ownBlock])
      have hrd3 := fun j hj => (hrd j hj).same hoo2
      have hszo := ho.size
      have hsz2 := hoo2.size
      have hv2 : ∀ x ∈ own v2, wo.heap.size < x ∧ x < w2.heap.size := fun x hx => by
        have h1 := hI2.own_lt x hx
        rw [size_alloc] at h1
        omega
      have hrv := hI2.reads
      have h1v := hrv.oneCell
      have hset : Only [g] w2 (w2.setCell ⟨g, i * 2 + 1, none⟩ v2) := (Only.refl _ _).setCell (by simp) _
      have hI4 := (World.ownsRow.stored hI3 (i * 2 + 1) v2).1
      rw [flatP_set _ _ _ _ _ hin] at hI4
      have hss : (w2.setCell ⟨g, i * 2 + 1, none⟩ v2).heap.size = w2.heap.size := by simp [World.setCell]
      have hR4 : ∀ j, j < n → Reads (w2.setCell ⟨g, i * 2 + 1, none⟩ v2) (updV N1 i v2 j) (ndOf p j) := by
        intro j hj
        by_cases e : j = i
        · subst e
          rw [show updV N1 j v2 j = v2 by simp [updV]]
          exact hrv.only' hset (fun _ x hx hx2 => by have := (hv2 x hx).1; simp at hx2; omega)
        · rw [show updV N1 i v2 j = N1 j by simp [updV, e]]
          exact (hrd3 j hj).only' hset (fun h0 x hx hx2 => (hF j hj h0 x hx).2 (by simp at hx2; subst hx2; simp [own, Value.ownBlock]))
      have hN4 : ∀ j, j < n → (updV N1 i v2 j).oneCell' = true := by
        intro j hj
        by_cases e : j = i
        · subst e; rw [show updV N1 j v2 j = v2 by simp [updV]]; exact h1v
        · rw [show updV N1 i v2 j = N1 j by simp [updV, e]]; exact hN j hj
      have hF4 : ∀ j, j < n → ndOf p j ≠ [] → ∀ x ∈ own (updV N1 i v2 j), (j < i + 1 → w.heap.size ≤ x ∧ x < (w2.setCell ⟨g, i * 2 + 1, none⟩ v2).heap.size) ∧ x ∉ own (.slice (some ⟨g, 0, none⟩) n cap) := by
        intro j hj h0 x hx
        rw [hss]
        by_cases e : j = i
        · subst e
          rw [show updV N1 j v2 j = v2 by simp [updV]] at hx
          have := hv2 x hx
          refine ⟨fun _ => by omega, fun hx2 => ?_⟩
          have : x = g := by simpa [own, Value.ownBlock] using hx2
          omega
        · rw [show updV N1 i v2 j = N1 j by simp [updV, e]] at hx
          obtain ⟨h1, h2⟩ := hF j hj h0 x hx
          exact ⟨fun hlt => by have := h1 (by omega); omega, h2⟩
      have ho4 := (ho.trans hoo2 (by simp)).trans hset (fun x hx hl => by simp at hx; subst hx; omega)
      have HH4 := Lib.hid (And.intro hI4 (And.intro hR4 (And.intro hN4 (And.intro hF4 ho4))))
      obtain ⟨va, vc, rfl, _⟩ := hrv.opt
      clear hI hrd hN hF ho hoo2 hI3 hrd3 hv2 hrv h1v hset hI4 hR4 hN4 hF4 ho4 HH hal hI2 ho2
      go_wp2
      go_roundw
      case rel =>
        obtain ⟨hI4, hR4, hN4, hF4, ho4⟩ := HH4.out
        exact ⟨i + 1, by omega, by go_num, _, hI4, hR4, hN4, hF4, ho4⟩
      case measure => (simp [intOf]; try omega)
    · obtain rfl : n = i := by omega
      go_wp2
      go_ret
      refine ⟨_, rfl, ⟨N1, ?_, ?_, ?_, ?_⟩, ho⟩
      · rw [HL.out]; exact hI
      · rw [HL.out]; exact hrd
      · rw [HL.out]; exact hN
      · rw [HL.out]; exact fun j hj h0 x hx => ⟨(hF j hj h0 x hx).1 hj, (hF j hj h0 x hx).2⟩

end Go.Proofs.YtoofalchkedciaaGreatDoor
