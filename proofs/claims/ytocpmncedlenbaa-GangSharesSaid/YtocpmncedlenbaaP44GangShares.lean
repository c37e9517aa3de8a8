/-
  Contracts of a gang's Held and Left.
-/
import Derived.Test.YtocpmncedlenbaaP42GangShares
import Derived.Test.YtocpmncedlenbaaP43GangShares
import Derived.Sort.OwnSortedInts
namespace Go.Proofs.Ytocpmncedlenbaa
open Go.RowKit Go.Deep Go.Sort

theorem sort_own (base g cap : Nat) (l : List Int) (n : Nat) (hn : l.length = n) (w : World) (h : Ints w base (.slice (some ⟨g, 0, none⟩) n cap) l) (hl : n ≤ 1000000) :
    Calls Try.prog 27 #[.slice (some ⟨g, 0, none⟩) n cap] w fun e w' => e = .returned (.tuple #[]) ∧ Ints w' base (.slice (some ⟨g, 0, none⟩) n cap) (l.mergeSort fun x y => decide (x ≤ y)) ∧ Only [g] w w' := by
  subst hn
  have hlt := (Row.far h) g (by simp [own, Value.ownBlock])
  rcases h.2 with ⟨h0, _⟩ | ⟨g', cap', cur, hv, hg, hb, hn, hcap, hcur, ht⟩
  · cases h0
  cases hv
  refine (sort_ints g 0 cap l w (holds_of_blockI hb (by simpa using ht)) hlt.2 (by omega)).mono ?_
  rintro e w' ⟨rfl, k, os, rfl⟩
  refine ⟨rfl, ?_, (Only.refl [g] w).grown (grownBy_sortedI _) (fun k hk _ => by simp at hk; simp [hk])⟩
  have hlen : (l.mergeSort fun x y => decide (x ≤ y)).length = l.length := by simp
  have := ownsRow_sortedI (os := os) (n := k) hlen hg hb hn hcap hcur
  unfold Ints
  rw [hlen]
  exact this

theorem sorted_is {l r : List Int} (h : l.Perm r) (hr : r.Pairwise (· < ·)) : l.mergeSort (fun x y => decide (x ≤ y)) = r := by
  refine List.Perm.eq_of_pairwise (le := fun a b => decide (a ≤ b) = true) (fun a b _ _ h1 h2 => ?_) (List.pairwise_mergeSort (fun a b c h1 h2 => ?_) (fun a b => ?_) l) (hr.imp (fun {a b} h => by simp; omega)) ((List.mergeSort_perm l _).trans h)
  · simp at h1 h2; omega
  · simp at h1 h2 ⊢; omega
  · simp; omega

set_option maxRecDepth 100000 in
set_option maxHeartbeats 4000000 in
theorem gang_Held {w : World} {F : Nat → Prop} {q : GPar} {p : PlanL} {room m : Nat} {s : GSt} (h : GangIs w q p room m s F) (H : GInv p room m s) :
    Calls Try.prog 7 #[.pointer (some ⟨q.G, 0, none⟩)] w fun e w' => ∃ v, e = .returned v ∧ Ints w' w.heap.size v (natL (readyL p s.done)) ∧ Only [] w w' := by
  have R := GRel.start h
  obtain ⟨hC, _, hrow, hwk, _, m1, m6, mc, cm, _, _, hok⟩ := R.cells
  have hal := R.spill_all
  have c2 := hC.cell 2 _ rfl
  have HC := Lib.hid hC
  have HROW := Lib.hid hrow
  have HWK := Lib.hid hwk
  have HR := Lib.hid R
  have hlen := H.len
  have h30 := hok.len
  have HS := Lib.hid (fun L (hL : heldL m s = L) => (by rw [← hL]; exact sorted_is H.held (natL_pair (readyL_pair p s.done)) : L.mergeSort (fun x y => decide (x ≤ y)) = natL (readyL p s.done)))
  have HLEN := Lib.hid (fun i (hi : i ≤ m) => (by
    have h1 : ∀ k, (workL (i + k) s.ws).length = (workL i s.ws).length + ((workL (i + k) s.ws).length - (workL i s.ws).length) := fun k => by
      have : (workL i s.ws).length ≤ (workL (i + k) s.ws).length := by
        induction k with
        | zero => exact Nat.le_refl _
        | succ k ih =>
          have e : workL (i + (k + 1)) s.ws = workL (i + k) s.ws ++ ownW (s.ws (i + k)) := rfl
          rw [e, List.length_append]; omega
      omega
    have h2 := h1 (m - i)
    rw [show i + (m - i) = m by omega] at h2
    unfold heldL at hlen
    rw [List.length_append] at hlen ⊢
    omega : (s.spill ++ workL i s.ws).length ≤ 30))
  clear h R hC hrow hwk H hlen
  go_enter Try.func7, Try.ntmps7
  go_wp2_with fail
  refine hal.mono ?_
  rintro e w1 ⟨v, rfl, hI, ho⟩
  have c4 := (HC.out.only ho (by simp)).cell 4 _ rfl
  have HI := Lib.hid hI
  have HO := Lib.hid ho
  clear hal hI ho
  go_wp2_with fail
  go_loopw [3, 5, 16] (fun vo _ vi wr => ∃ i : Nat, i ≤ m ∧ vi = .int .i64 i ∧ Ints wr w.heap.size vo (s.spill ++ workL i s.ws) ∧ Only [] w wr) (fun _ _ vi _ => m - (intOf vi).toNat)
  case atStart => exact ⟨0, Nat.zero_le _, rfl, by simp only [workL, List.append_nil]; exact HI.out, HO.out⟩
  case round =>
    obtain ⟨wo, rfl⟩ : ∃ wo : World, wo = wr := ⟨_, rfl⟩
    obtain ⟨i, hi, rfl, hI, ho⟩ := hrel
    have hsz := ho.size
    by_cases him : i < m
    · have hr := (ho.cell (p := ⟨q.L, i, none⟩) (cell_lt (HROW.out i him)) (by simp)).trans (HROW.out i him)
      have hw := (HWK.out i him).only ho (by simp)
      have d0 := hw.cell 0 _ rfl
      have hha := (HR.out.same ho).hand_all him
      have hlen1 := HLEN.out (i + 1) (by omega)
      have hnx : s.spill ++ workL (i + 1) s.ws = (s.spill ++ workL i s.ws) ++ (((s.ws i).ring ++ nearL (s.ws i).near) ++ nearL (s.ws i).task) := by
        simp [workL, ownW]
      rw [hnx] at hlen1
      have HNX := Lib.hid hnx
      obtain ⟨A, hA⟩ : ∃ A, s.spill ++ workL i s.ws = A := ⟨_, rfl⟩
      obtain ⟨B, hB⟩ : ∃ B, (s.ws i).ring ++ nearL (s.ws i).near = B := ⟨_, rfl⟩
      obtain ⟨t, ht⟩ : ∃ t, (s.ws i).task = t := ⟨_, rfl⟩
      rw [hA, hB, ht] at HNX hlen1
      rw [hA] at hI
      rw [hB] at hha
      rw [ht] at hw
      have hAB : A.length + B.length ≤ 30 ∧ A.length + B.length + (nearL t).length ≤ 30 := by
        simp only [List.length_append] at hlen1; omega
      obtain ⟨hab1, hab2⟩ := hAB
      have HI2 := Lib.hid hI
      have HO2 := Lib.hid ho
      have HW2 := Lib.hid hw
      clear hI ho hw hnx hA hB ht hlen1
      go_wp2_with fail
      refine hha.mono ?_
      rintro e w2 ⟨v2, rfl, hI2, ho2⟩
      have HV2 := Lib.hid hI2.reads
      have HI3 := Lib.hid (HI2.out.only ho2 (by simp))
      have HO3 := Lib.hid (HO2.out.trans ho2 (by simp))
      have HW3 := Lib.hid (HW2.out.only ho2 (by simp))
      have hsz2 : w.heap.size ≤ w2.heap.size := by have := HO3.out.size; omega
      clear hha hI2 ho2
      have hWi : q.WB i < w.heap.size := (HWK.out i him).lt
      have hfar : ∀ y ∈ own u3, w.heap.size ≤ y := fun y hy => (HI3.out.own_lt y hy).1
      have HFAR := Lib.hid hfar
      clear hfar
      by_cases ht0 : 0 ≤ t
      · have hnt := nearL_pos ht0
        rw [hnt] at HNX hab2
        clear hnt
        go_wp2_with (first
          | (at_builtin; refine wpList_append_reads rfl (.tmp 20) (.tmp 25) rfl w2 w.heap.size _ _ _ _ HI3.out HV2.out (by omega) hsz2 rfl rfl (Only.refl _ _) ?_; intro v3 w3 hI3 hO3 hK3; obtain ⟨a3, c3, rfl, _⟩ := hI3.opt; have d1 := (HW3.out.only hO3 (fun hx => by have h1 := HFAR.out _ hx; omega)).cell 1 _ rfl; have HI4 := Lib.hid (by have h := hI3; rw [List.length_append] at h; exact h : Ints w3 w.heap.size (.slice a3 (A.length + B.length) c3) (A ++ B)); have HO4 := Lib.hid (HO3.out.trans hO3 (fun y hy hl => by have h1 := HFAR.out y hy; omega)); have hsz4 := HO4.out.size; clear hI3 hO3 hK3)
          | (at_builtin; refine wpList_append_reads rfl (.tmp 32) (.tmp 37) rfl (w3.alloc (.cells #[.int .i64 t] 3)) w.heap.size _ _ _ [t] (HI4.out.only ((Only.refl [] w3).alloc _) (by simp)) (lit_row [t] (heap_alloc_at _ _ _ rfl) (by simp)) (by simp at hab2 ⊢; omega) (by simp; omega) rfl rfl (Only.refl _ _) ?_; intro v5 w5 hI5 hO5 hK5))
        have hI6 : Hid (Ints w5 w.heap.size v5 (s.spill ++ workL (i + 1) s.ws)) := by show Ints _ _ _ _; rw [HNX.out, ← List.append_assoc]; exact hI5
        have hO6 : Hid (Only [] w w5) := (HO4.out.alloc _).trans hO5 (fun y hy hl => by have h1 := (HI4.out.own_lt y hy).1; omega)
        clear hI5 hO5 hK5
        go_roundw
        case rel => exact ⟨i + 1, by omega, by go_num, hI6.out, hO6.out⟩
        case measure => (simp [intOf]; try omega)
      · have ht1 : t < 0 := by omega
        have hnt := nearL_neg ht1
        rw [hnt, List.append_nil] at HNX
        clear hnt ht0
        go_wp2_with (at_builtin; refine wpList_append_reads rfl (.tmp 20) (.tmp 25) rfl w2 w.heap.size _ _ _ _ HI3.out HV2.out (by omega) hsz2 rfl rfl (Only.refl _ _) ?_; intro v3 w3 hI3 hO3 hK3; have d1 := (HW3.out.only hO3 (fun hx => by have h1 := HFAR.out _ hx; omega)).cell 1 _ rfl)
        have hI6 : Hid (Ints w3 w.heap.size v3 (s.spill ++ workL (i + 1) s.ws)) := by show Ints _ _ _ _; rw [HNX.out]; exact hI3
        have hO6 : Hid (Only [] w w3) := HO3.out.trans hO3 (fun y hy hl => by have h1 := HFAR.out y hy; omega)
        clear hI3 hO3 hK3
        go_roundw
        case rel => exact ⟨i + 1, by omega, by go_num, hI6.out, hO6.out⟩
        case measure => (simp [intOf]; try omega)
    · obtain rfl : i = m := by omega
      have hlen1 := HLEN.out i (Nat.le_refl _)
      obtain ⟨L, hL⟩ : ∃ L, s.spill ++ workL i s.ws = L := ⟨_, rfl⟩
      have hso := HS.out L hL
      rw [hL] at hI hlen1
      obtain ⟨n, hn⟩ : ∃ n, L.length = n := ⟨_, rfl⟩
      obtain ⟨ga, gc, rfl, _⟩ := hI.opt
      rw [hn] at hI hlen1 ⊢
      have HO2 := Lib.hid ho
      rcases hI.shape with e | ⟨g, k2, c2', e⟩
      · injection e with e1 e2 e3
        subst e1 e3
        have hn0 : n = 0 := e2
        subst hn0
        obtain rfl : L = [] := List.length_eq_zero_iff.1 hn
        have hsn := sort_none none 0 wo
        have HI2 := Lib.hid hI
        have hr0 : natL (readyL p s.done) = [] := by rw [← hso]; simp
        have HR0 := Lib.hid hr0
        clear hI ho hso hn hlen1 hL hr0 e2
        go_wp2_with fail
        refine hsn.mono ?_
        rintro e w9 ⟨rfl, rfl⟩
        clear hsn
        go_wp2
        go_ret
        rw [HR0.out]
        exact ⟨_, rfl, HI2.out, HO2.out⟩
      · injection e with e1 e2 e3
        subst e1 e3
        clear e2
        have hfar := (hI.own_lt g (by simp [own, Value.ownBlock])).1
        have hsn := sort_own w.heap.size g gc L n hn wo hI (by omega)
        rw [hso] at hsn
        clear hI ho hso hn hlen1 hL
        go_wp2_with fail
        refine hsn.mono ?_
        rintro e w9 ⟨rfl, hI9, ho9⟩
        have HI9 := Lib.hid hI9
        have HO9 := Lib.hid (HO2.out.trans ho9 (fun y hy hl => by
          obtain rfl : y = g := by simpa using hy
          omega))
        clear hsn hI9 ho9
        go_wp2
        go_ret
        exact ⟨_, rfl, HI9.out, HO9.out⟩

theorem gang_Left {w : World} {F : Nat → Prop} {q : GPar} {p : PlanL} {room m : Nat} {s : GSt} (h : GangIs w q p room m s F) :
    Calls Try.prog 8 #[.pointer (some ⟨q.G, 0, none⟩)] w fun e w' => e = .returned (.int .i64 (leftN p s.done : Int)) ∧ w = w' := by
  have R := GRel.start h
  have hl := R.left
  have c1 := R.cells.1.cell 1 _ rfl
  generalize leftN p s.done = n at *
  clear h R
  go_enter Try.func8, Try.ntmps8
  go_wp2_with fail
  refine hl.mono ?_
  rintro e w1 ⟨rfl, rfl⟩
  clear hl
  go_wp2
  go_ret
  exact ⟨rfl, rfl⟩

end Go.Proofs.Ytocpmncedlenbaa
