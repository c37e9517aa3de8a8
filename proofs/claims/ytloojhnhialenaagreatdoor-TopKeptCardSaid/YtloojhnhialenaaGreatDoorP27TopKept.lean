/-
  Contract of list.Each.
  Contracts of cells.Along, Check, Do.
-/
import Derived.Test.YtloojhnhialenaaGreatDoorP26TopKept
import Derived.Test.YtloojhnhialenaaGreatDoorP11TopKept
namespace Go.Proofs.YtloojhnhialenaaGreatDoor
open Go.RowKit Go.Sort

/-- The order l names each of n once. -/
def EachOf (n : Nat) (l : List Int) : Prop := l.Perm (natL (List.range n))
noncomputable instance (n : Nat) (l : List Int) : Decidable (EachOf n l) := Classical.propDecidable _

def leZ (x y : Int) : Bool := decide (x ≤ y)
theorem leZ_trans : ∀ a b c : Int, leZ a b = true → leZ b c = true → leZ a c = true := fun a b c h1 h2 => by simp only [leZ, decide_eq_true_eq] at *; omega
theorem leZ_total : ∀ a b : Int, (leZ a b || leZ b a) = true := fun a b => by simp only [leZ, Bool.or_eq_true, decide_eq_true_eq]; omega

theorem range_sorted (n : Nat) : (natL (List.range n)).Pairwise (fun a b => leZ a b = true) := by
  unfold natL
  rw [List.pairwise_map]
  refine List.Pairwise.imp ?_ (List.pairwise_lt_range (n := n))
  intro a b h; simp only [leZ, decide_eq_true_eq]; omega

theorem each_sorted {n : Nat} {l : List Int} : EachOf n l ↔ l.mergeSort leZ = natL (List.range n) := by
  constructor
  · intro h
    refine List.Perm.eq_of_pairwise (le := fun a b => leZ a b = true) (fun a b _ _ h1 h2 => ?_) (List.pairwise_mergeSort leZ_trans leZ_total l) (range_sorted n) ((List.mergeSort_perm l leZ).trans h)
    simp only [leZ, decide_eq_true_eq] at h1 h2; omega
  · intro h
    unfold EachOf
    rw [← h]
    exact (List.mergeSort_perm l leZ).symm

theorem each_iff {n : Nat} {l L : List Int} (hL : l.mergeSort leZ = L) : EachOf n l ↔ L.length = n ∧ ∀ j, j < L.length → nth L j = (j : Int) := by
  rw [each_sorted, hL]
  constructor
  · rintro rfl
    refine ⟨by simp [natL], fun j hj => ?_⟩
    have hj : j < n := by simpa [natL] using hj
    rw [natL_nth _ _ (by simpa using hj)]
    simp
  · rintro ⟨h1, h2⟩
    apply List.ext_getElem
    · simp [natL, h1]
    · intro i a b
      have := h2 i a
      simp [nth, a] at this
      rw [this]
      simp [natL]

theorem EachOf.mem {n : Nat} {l : List Int} (h : EachOf n l) : ∃ o : List Nat, l = natL o ∧ o.Perm (List.range n) := by
  refine ⟨l.map Int.toNat, ?_, ?_⟩
  · have hm : ∀ x ∈ l, 0 ≤ x := fun x hx => by
      have := (h.mem_iff (a := x)).1 hx
      unfold natL at this
      obtain ⟨j, _, rfl⟩ := List.mem_map.1 this
      omega
    unfold natL
    rw [List.map_map]
    have : ∀ x ∈ l, ((fun (i : Nat) => (i : Int)) ∘ Int.toNat) x = x := fun x hx => by
      have := hm x hx
      simp; omega
    rw [List.map_congr_left this]; simp
  · have := h.map Int.toNat
    have e : (natL (List.range n)).map Int.toNat = List.range n := by
      unfold natL; rw [List.map_map]
      have : ∀ x ∈ List.range n, (Int.toNat ∘ fun (i : Nat) => (i : Int)) x = x := fun x _ => by simp
      rw [List.map_congr_left this]; simp
    rwa [e] at this

set_option maxRecDepth 100000 in
set_option maxHeartbeats 2000000 in
theorem list_Each (n : Nat) (v : Value) (l : List Int) (w : World) (h : Reads w v l) (hl : l.length ≤ 17592186044416) (hn : n ≤ 1000000000) :
    Calls Tryz.prog 55 #[.int .i64 (n : Int), v] w fun e w' => e = .returned (.bool (decide (EachOf n l))) ∧ Only [] w w' := by
  obtain ⟨R, hR⟩ : ∃ R, decide (EachOf n l) = R := ⟨_, rfl⟩
  have HR := Lib.hid hR
  rw [hR]
  clear hR
  obtain ⟨a, cap, rfl, hcell⟩ := h.opt
  have hown : 0 < l.length → ∀ x ∈ own (.slice a l.length cap), x < w.heap.size + 1 ∧ x ∉ ([] : List Nat) := fun h0 x hx => by
    obtain ⟨b, off, rfl, hc⟩ := hcell 0 h0
    obtain rfl : x = b := by simpa [own, Value.ownBlock] using hx
    have := cell_lt hc
    simp only at this
    exact ⟨by omega, by simp⟩
  have hr1 := h.same ((Only.refl [] w).alloc (.cells #[.slice a l.length cap] 34))
  have hB1 := (Cells.new w #[.slice a l.length cap] 34).cell 0 _ rfl
  have hs := sorted_seq 131 #[.pointer (some ⟨w.heap.size, 0, none⟩)] (fun ys => ys = l) (fun pre => ∃ k, k ≤ l.length ∧ pre = l.take k) l.length hl (w.alloc (.cells #[.slice a l.length cap] 34)) (enters_of Tryz.func131 (by kernel_rfl) rfl)
    (fun n => values_stops n w.heap.size _ [] (.slice a l.length cap) l _ (by omega) (by rw [World.size_alloc]; exact hown) hB1 hr1) (fun xs hx => by rw [hx]; exact Nat.le_refl _)
  have hv := fun W => (callsIn_wide (n := 3)).1 (values_mk 3 a l.length cap W)
  have ho1 := (Only.refl [] w).alloc (.cells #[.slice a l.length cap] 34)
  obtain ⟨m, hm⟩ : ∃ m, l.length = m := ⟨_, rfl⟩
  rw [hm] at hs hv hl ho1 ⊢
  have HM := Lib.hid hm
  clear h hcell hown hr1 hB1 hm
  go_enter Tryz.func55, Tryz.ntmps55
  go_wp2_with fail
  refine (hv w).mono ?_
  rintro e w1 ⟨rfl, hw1⟩
  rw [← hw1] at hs ho1
  clear hv hw1
  go_wp2_with fail
  refine hs.mono ?_
  rintro e w2 ⟨v2, xs, rfl, rfl, hI, ho2⟩
  have ho2 := ho1.trans ho2 (by simp)
  obtain ⟨L, hL⟩ : ∃ L, xs.mergeSort (fun x y => decide (x ≤ y)) = L := ⟨_, rfl⟩
  have HE := Lib.hid (each_iff (n := n) (l := xs) (L := L) hL)
  have hlen : L.length = m := by rw [← hL, List.length_mergeSort]; exact HM.out
  rw [hL] at hI
  obtain ⟨b, c, rfl, hc⟩ := hI.reads.opt
  rw [hlen] at hc ⊢
  have HC := Lib.hid hc
  have HLN := Lib.hid hlen
  have HO := Lib.hid ho2
  clear hs ho1 ho2 hI hL hc hlen
  go_wp2_with fail
  go_loopw [6, 7, 13] (fun _ _ vi wr => ∃ i : Nat, i ≤ m ∧ vi = .int .i64 i ∧ (∀ j, j < i → nth L j = (j : Int)) ∧ Only [] w2 wr) (fun _ _ vi _ => m - (intOf vi).toNat)
  case atStart => exact ⟨0, Nat.zero_le _, rfl, fun j hj => by omega, Only.refl _ _⟩
  case round =>
    obtain ⟨i, hi, rfl, hgood, ho⟩ := hrel
    have HG := Lib.hid hgood
    clear hgood
    by_cases him : i < m
    · obtain ⟨g, off, rfl, k0⟩ := HC.out i him
      have c0 := (ho.cell (p := ⟨g, _, none⟩) (cell_lt k0) (by simp)).trans k0
      obtain ⟨x, hx⟩ : ∃ x, nth L i = x := ⟨_, rfl⟩
      have HX := Lib.hid hx
      rw [hx] at c0
      clear k0 hx
      by_cases hxi : (i : Int) = x
      · subst hxi
        have HO2 := Lib.hid ho
        clear ho
        go_wp2
        go_roundw
        case rel =>
          refine ⟨i + 1, by omega, by go_num, fun j hj => ?_, HO2.out⟩
          by_cases e : j = i
          · subst e; exact HX.out
          · exact HG.out j (by omega)
        case measure => (simp [intOf]; try omega)
      · have e : Hid (R = false) := by
          show _ = _
          rw [← HR.out]
          refine decide_eq_false fun hh => hxi ?_
          have := (HE.out.1 hh).2 i (by rw [HLN.out]; exact him)
          rw [HX.out] at this
          exact this.symm
        have HO2 := Lib.hid (HO.out.trans ho (by simp))
        clear ho
        go_wp2
        go_ret
        exact ⟨by rw [e.out]; rfl, HO2.out⟩
    · obtain rfl : i = m := by omega
      have e : Hid (R = decide (i = n)) := by
        show _ = _
        rw [← HR.out]
        by_cases hin : i = n
        · rw [decide_eq_true hin]
          exact decide_eq_true (HE.out.2 ⟨by rw [HLN.out]; exact hin, fun j hj => HG.out j (by rw [HLN.out] at hj; exact hj)⟩)
        · rw [decide_eq_false hin]
          exact decide_eq_false (fun hh => hin (by rw [← HLN.out]; exact (HE.out.1 hh).1))
      have HO2 := Lib.hid (HO.out.trans ho (by simp))
      clear ho
      by_cases hin : i = n
      · subst hin
        go_wp2
        go_ret
        exact ⟨by rw [e.out]; simp, HO2.out⟩
      · have hd : Hid (decide (i = n) = false) := decide_eq_false hin
        have hd2 : ((i : Int) == (n : Int)) = false := beq_false_of_ne (by omega)
        go_wp2
        go_ret
        exact ⟨by rw [e.out, hd.out]; rfl, HO2.out⟩

end Go.Proofs.YtloojhnhialenaaGreatDoor

namespace Go.Proofs.YtloojhnhialenaaGreatDoor
open Go.RowKit Go.Deep

noncomputable def alongFault (p : PlanL) (ops : List Opn) (l : List Int) : Int :=
  if allFault p ops ≠ 0 then allFault p ops else if ¬ EachOf p.length l then 3 else if ¬ aheadB p (l.map Int.toNat) then 6 else 0

theorem natL_toNat (o : List Nat) : (natL o).map Int.toNat = o := by
  unfold natL
  rw [List.map_map]
  have : ∀ x ∈ o, (Int.toNat ∘ fun (i : Nat) => (i : Int)) x = x := fun x _ => by simp
  rw [List.map_congr_left this]; simp

set_option maxRecDepth 100000 in
set_option maxHeartbeats 2000000 in
theorem cells_Along (v u ov : Value) (p : PlanL) (ops : List Opn) (l : List Int) (w : World) (h : InPlan w v p) (hu : OpsAt w u ops) (hlen : ops.length ≤ 9223372036854775807) (hord : Reads w ov l) (hl9 : l.length ≤ 17592186044416) :
    Calls Tryz.prog 14 #[v, u, ov] w fun e w' => ∃ v', e = .returned (.tuple #[v', errV (alongFault p ops l)]) ∧ Only [] w w' ∧
      ((alongFault p ops l ≠ 0 ∧ v' = .slice none 0 0) ∨ (alongFault p ops l = 0 ∧ ∃ A, v' = .slice (some ⟨A, 0, none⟩) p.length p.length ∧ w.heap.size ≤ A ∧ RowCl w' A p.length (foldA p ops (l.map Int.toNat)))) := by
  have hr := cells_ready v u p ops w h hu hlen
  have hnil : ∀ E, E ≠ 0 → errV E = .iface 86 (.int .i64 E) := fun E hE => errV_ne hE
  obtain ⟨E, hE⟩ : ∃ E, alongFault p ops l = E := ⟨_, rfl⟩
  have HE := Lib.hid hE
  rw [hE]
  clear hE
  by_cases h0 : allFault p ops = 0
  · obtain ⟨hok, hl, hops⟩ := allFault_zero h0
    have h30 := hok.len
    have HEA := Lib.hid (fun w1 (ho : Only [] w w1) => list_Each p.length ov l w1 (hord.same ho) hl9 (by omega))
    have HAL := Lib.hid (fun w1 (ho : Only [] w w1) (o : List Nat) (hlo : l = natL o) (hon : ∀ x ∈ o, x < p.length) (hol : o.length ≤ 1000) => cells_along v u ov p ops o w1 (h.same ho) hok (hu.same ho) hops hl (by rw [← hlo]; exact hord.same ho) hon hol)
    rw [h0, errV_zero] at hr
    obtain ⟨n, hn⟩ : ∃ n, p.length = n := ⟨_, rfl⟩
    have HL := Lib.hid hn
    have H0 := Lib.hid h0
    obtain ⟨pa, pc, rfl, _⟩ := h.task
    obtain ⟨ua, uc, rfl, _⟩ := hu.opt
    obtain ⟨oa, oc, rfl, _⟩ := hord.opt
    obtain ⟨m, hm⟩ : ∃ m, l.length = m := ⟨_, rfl⟩
    have HM := Lib.hid hm
    obtain ⟨q, hq⟩ : ∃ q, ops.length = q := ⟨_, rfl⟩
    rw [hn] at HEA HAL hr h30 ⊢
    rw [hm] at HEA HAL
    rw [hq] at HAL hr
    rw [hm, hq]
    clear h hu hord hlen hl9 h0 hok hl hops hn hm hq
    go_enter Tryz.func14, Tryz.ntmps14
    go_wp2_with fail
    refine hr.mono ?_
    rintro e w1 ⟨rfl, ho1⟩
    clear hr
    have hea := HEA.out w1 ho1
    by_cases hE3 : EachOf n l
    · rw [decide_eq_true hE3] at hea
      obtain ⟨o, hlo, hperm⟩ := hE3.mem
      have hon : ∀ x ∈ o, x < n := fun x hx => by simpa using (hperm.mem_iff).1 hx
      have hol : o.length ≤ 1000 := by have := hperm.length_eq; simp at this; omega
      have HMAP : Hid (l.map Int.toNat = o) := by show _ = _; rw [hlo]; exact natL_toNat o
      have HE3 := Lib.hid hE3
      have HLO := Lib.hid hlo
      clear hE3 hlo hperm
      go_wp2_with fail
      refine hea.mono ?_
      rintro e w2 ⟨rfl, ho2⟩
      have ho2 := ho1.trans ho2 (by simp)
      have hal := HAL.out w2 ho2 o HLO.out hon hol
      clear hea ho1
      go_wp2_with fail
      refine hal.mono ?_
      rintro e w3 ⟨v3, b, rfl, ho3, h3⟩
      have ho3 := ho2.trans ho3 (by simp)
      have hs := ho2.size
      clear hal ho2
      rcases h3 with ⟨rfl, hah, A, rfl, hA, hR⟩ | ⟨rfl, hno, rfl⟩
      · have he : Hid (E = 0) := by
          show _ = _
          rw [← HE.out]
          unfold alongFault
          rw [if_neg (by simp [H0.out]), if_neg (by rw [HL.out]; simpa using HE3.out), if_neg (by rw [HMAP.out]; simpa using hah)]
        have HR := Lib.hid hR
        clear hR
        go_wp2
        go_ret2
        exact ⟨_, by rw [he.out, errV_zero]; rfl, ho3, .inr ⟨he.out, A, rfl, by omega, by rw [HMAP.out]; exact HR.out⟩⟩
      · have he : Hid (E = 6) := by
          show _ = _
          rw [← HE.out]
          unfold alongFault
          rw [if_neg (by simp [H0.out]), if_neg (by rw [HL.out]; simpa using HE3.out), if_pos (by rw [HMAP.out]; exact hno)]
        go_wp2
        go_ret2
        exact ⟨_, by rw [he.out, errV_ne (by decide)]; rfl, ho3, .inl ⟨by rw [he.out]; decide, rfl⟩⟩
    · rw [decide_eq_false hE3] at hea
      have he : Hid (E = 3) := by
        show _ = _
        rw [← HE.out]
        unfold alongFault
        rw [if_neg (by simp [H0.out]), if_pos (by rw [HL.out]; exact hE3)]
      clear hE3
      go_wp2_with fail
      refine hea.mono ?_
      rintro e w2 ⟨rfl, ho2⟩
      have ho2 := ho1.trans ho2 (by simp)
      clear hea
      go_wp2
      go_ret2
      exact ⟨_, by rw [he.out, errV_ne (by decide)]; rfl, ho2, .inl ⟨by rw [he.out]; decide, rfl⟩⟩
  · have he : Hid (E = allFault p ops) := by
      show _ = _
      rw [← HE.out]
      unfold alongFault
      rw [if_pos h0]
    obtain ⟨F, hF⟩ : ∃ F, allFault p ops = F := ⟨_, rfl⟩
    rw [hF] at he h0 hr
    rw [errV_ne h0] at hr
    have H0 := Lib.hid h0
    obtain ⟨_, _, rfl, _⟩ := h.task
    obtain ⟨_, _, rfl, _⟩ := hu.opt
    obtain ⟨_, _, rfl, _⟩ := hord.opt
    clear h hu hord h0 hlen hl9 hF
    go_enter Tryz.func14, Tryz.ntmps14
    go_wp2_with fail
    refine hr.mono ?_
    rintro e w1 ⟨rfl, ho1⟩
    clear hr
    go_wp2
    go_ret2
    exact ⟨_, by rw [he.out, hnil F H0.out]; rfl, ho1, .inl ⟨by rw [he.out]; exact H0.out, rfl⟩⟩

end Go.Proofs.YtloojhnhialenaaGreatDoor
