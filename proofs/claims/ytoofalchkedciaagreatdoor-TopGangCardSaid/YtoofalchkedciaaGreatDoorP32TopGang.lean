/-
  Contract of list.Each.
  Contracts of cells.Along, Check, Do.
  The order in which tasks are finished, in plain words.
-/
import Derived.Test.YtoofalchkedciaaGreatDoorP31TopGang
import Derived.Test.YtoofalchkedciaaGreatDoorP9TopGang
import Derived.Test.YtoofalchkedciaaGreatDoorP10TopGang
namespace Go.Proofs.YtoofalchkedciaaGreatDoor
open Go.RowKit Go.Sort

/-- The order l names each of n once. -/
def EachOf (n : Nat) (l : List Int) : Prop := l.Perm (natL (List.range n))
noncomputable instance (n : Nat) (l : List Int) : Decidable (EachOf n l) := Classical.propDecidable _

def leZ (x y : Int) : Bool := decide (x ≤ y)
theorem leZ_trans : ∀ a b c : Int, leZ a b = true → leZ b c = true → leZ a c = true := fun a b c h1 h2 => by simp only [leZ, decide_eq_true_eq] at *; omega
theorem leZ_total : ∀ a b : Int, (leZ a b || leZ b a) = true := fun a b => by simp only [leZ, Bool.or_eq_true, decide_eq_true_eq]; omega

theorem range_sorted (n : Nat) : (natL (List.range n)).Pairwise (fun a b => leZ a b = true) := by
  unfold natL
  rw [List.pairwise_map]
  refine List.Pairwise.imp ?_ (List.pairwise_lt_range (n := n))
  intro a b h; simp only [leZ, decide_eq_true_eq]; omega

theorem each_sorted {n : Nat} {l : List Int} : EachOf n l ↔ l.mergeSort leZ = natL (List.range n) := by
  constructor
  · intro h
    refine List.Perm.eq_of_pairwise (le := fun a b => leZ a b = true) (fun a b _ _ h1 h2 => ?_) (List.pairwise_mergeSort leZ_trans leZ_total l) (range_sorted n) ((List.mergeSort_perm l leZ).trans h)
    simp only [leZ, decide_eq_true_eq] at h1 h2; omega
  · intro h
    unfold EachOf
    rw [← h]
    exact (List.mergeSort_perm l leZ).symm

theorem each_iff {n : Nat} {l L : List Int} (hL : l.mergeSort leZ = L) : EachOf n l ↔ L.length = n ∧ ∀ j, j < L.length → nth L j = (j : Int) := by
  rw [each_sorted, hL]
  constructor
  · rintro rfl
    refine ⟨by simp [natL], fun j hj => ?_⟩
    have hj : j < n := by simpa [natL] using hj
    rw [natL_nth _ _ (by simpa using hj)]
    simp
  · rintro ⟨h1, h2⟩
    apply List.ext_getElem
    · simp [natL, h1]
    · intro i a b
      have := h2 i a
      simp [nth, a] at this
      rw [this]
      simp [natL]

theorem EachOf.mem {n : Nat} {l : List Int} (h : EachOf n l) : ∃ o : List Nat, l = natL o ∧ o.Perm (List.range n) := by
  refine ⟨l.map Int.toNat, ?_, ?_⟩
  · have hm : ∀ x ∈ l, 0 ≤ x := fun x hx => by
      have := (h.mem_iff (a := x)).1 hx
      unfold natL at this
      obtain ⟨j, _, rfl⟩ := List.mem_map.1 this
      omega
    unfold natL
    rw [List.map_map]
    have : ∀ x ∈ l, ((fun (i : Nat) => (i : Int)) ∘ Int.toNat) x = x := fun x hx => by
      have := hm x hx
      simp; omega
    rw [List.map_congr_left this]; simp
  · have := h.map Int.toNat
    have e : (natL (List.range n)).map Int.toNat = List.range n := by
      unfold natL; rw [List.map_map]
      have : ∀ x ∈ List.range n, (Int.toNat ∘ fun (i : Nat) => (i : Int)) x = x := fun x _ => by simp
      rw [List.map_congr_left this]; simp
    rwa [e] at this

set_option maxRecDepth 100000 in
set_option maxHeartbeats 2000000 in
theorem list_Each (n : Nat) (v : Value) (l : List Int) (w : World) (h : Reads w v l) (hl : l.length ≤ 17592186044416) (hn : n ≤ 1000000000) :
    Calls Tryz.prog 98 #[.int .i64 (n : Int), v] w fun e w' => e = .returned (.bool (decide (EachOf n l))) ∧ Only [] w w' := by
  obtain ⟨R, hR⟩ : ∃ R, decide (EachOf n l) = R := ⟨_, rfl⟩
  have HR := Lib.hid hR
  rw [hR]
  clear hR
  obtain ⟨a, cap, rfl, hcell⟩ := h.opt
  have hown : 0 < l.length → ∀ x ∈ own (.slice a l.length cap), x < w.heap.size + 1 ∧ x ∉ ([] : List Nat) := fun h0 x hx => by
    obtain ⟨b, off, rfl, hc⟩ := hcell 0 h0
    obtain rfl : x = b := by simpa [own, Value.ownBlock] using hx
    have := cell_lt hc
    simp only at this
    exact ⟨by omega, by simp⟩
  have hr1 := h.same ((Only.refl [] w).alloc (.cells #[.slice a l.length cap] 31))
  have hB1 := (Cells.new w #[.slice a l.length cap] 31).cell 0 _ rfl
  have hs := sorted_seq 187 #[.pointer (some ⟨w.heap.size, 0, none⟩)] (fun ys => ys = l) (fun pre => ∃ k, k ≤ l.length ∧ pre = l.take k) l.length hl (w.alloc (.cells #[.slice a l.length cap] 31)) (enters_of Tryz.func187 (by kernel_rfl) rfl)
    (fun n => values_stops n w.heap.size _ [] (.slice a l.length cap) l _ (by omega) (by rw [World.size_alloc]; exact hown) hB1 hr1) (fun xs hx => by rw [hx]; exact Nat.le_refl _)
  have hv := fun W => (callsIn_wide (n := 3)).1 (values_mk 3 a l.length cap W)
  have ho1 := (Only.refl [] w).alloc (.cells #[.slice a l.length cap] 31)
  obtain ⟨m, hm⟩ : ∃ m, l.length = m := ⟨_, rfl⟩
  rw [hm] at hs hv hl ho1 ⊢
  have HM := Lib.hid hm
  clear h hcell hown hr1 hB1 hm
  go_enter Tryz.func98, Tryz.ntmps98
  go_wp2_with fail
  refine (hv w).mono ?_
  rintro e w1 ⟨rfl, hw1⟩
  rw [← hw1] at hs ho1
  clear hv hw1
  go_wp2_with fail
  refine hs.mono ?_
  rintro e w2 ⟨v2, xs, rfl, rfl, hI, ho2⟩
  have ho2 := ho1.trans ho2 (by simp)
  obtain ⟨L, hL⟩ : ∃ L, xs.mergeSort (fun x y => decide (x ≤ y)) = L := ⟨_, rfl⟩
  have HE := Lib.hid (each_iff (n := n) (l := xs) (L := L) hL)
  have hlen : L.length = m := by rw [← hL, List.length_mergeSort]; exact HM.out
  rw [hL] at hI
  obtain ⟨b, c, rfl, hc⟩ := hI.reads.opt
  rw [hlen] at hc ⊢
  have HC := Lib.hid hc
  have HLN := Lib.hid hlen
  have HO := Lib.hid ho2
  clear hs ho1 ho2 hI hL hc hlen
  go_wp2_with fail
  go_loopw [6, 7, 13] (fun _ _ vi wr => ∃ i : Nat, i ≤ m ∧ vi = .int .i64 i ∧ (∀ j, j < i → nth L j = (j : Int)) ∧ Only [] w2 wr) (fun _ _ vi _ => m - (intOf vi).toNat)
  case atStart => exact ⟨0, Nat.zero_le _, rfl, fun j hj => by omega, Only.refl _ _⟩
  case round =>
    obtain ⟨i, hi, rfl, hgood, ho⟩ := hrel
    have HG := Lib.hid hgood
    clear hgood
    by_cases him : i < m
    · obtain ⟨g, off, rfl, k0⟩ := HC.out i him
      have c0 := (ho.cell (p := ⟨g, _, none⟩) (cell_lt k0) (by simp)).trans k0
      obtain ⟨x, hx⟩ : ∃ x, nth L i = x := ⟨_, rfl⟩
      have HX := Lib.hid hx
      rw [hx] at c0
      clear k0 hx
      by_cases hxi : (i : Int) = x
      · subst hxi
        have HO2 := Lib.hid ho
        clear ho
        go_wp2
        go_roundw
        case rel =>
          refine ⟨i + 1, by omega, by go_num, fun j hj => ?_, HO2.out⟩
          by_cases e : j = i
          · subst e; exact HX.out
          · exact HG.out j (by omega)
        case measure => (simp [intOf]; try omega)
      · have e : Hid (R = false) := by
          show _ = _
          rw [← HR.out]
          refine decide_eq_false fun hh => hxi ?_
          have := (HE.out.1 hh).2 i (by rw [HLN.out]; exact him)
          rw [HX.out] at this
          exact this.symm
        have HO2 := Lib.hid (HO.out.trans ho (by simp))
        clear ho
        go_wp2
        go_ret
        exact ⟨by rw [e.out]; rfl, HO2.out⟩
    · obtain rfl : i = m := by omega
      have e : Hid (R = decide (i = n)) := by
        show _ = _
        rw [← HR.out]
        by_cases hin : i = n
        · rw [decide_eq_true hin]
          exact decide_eq_true (HE.out.2 ⟨by rw [HLN.out]; exact hin, fun j hj => HG.out j (by rw [HLN.out] at hj; exact hj)⟩)
        · rw [decide_eq_false hin]
          exact decide_eq_false (fun hh => hin (by rw [← HLN.out]; exact (HE.out.1 hh).1))
      have HO2 := Lib.hid (HO.out.trans ho (by simp))
      clear ho
      by_cases hin : i = n
      · subst hin
        go_wp2
        go_ret
        exact ⟨by rw [e.out]; simp, HO2.out⟩
      · have hd : Hid (decide (i = n) = false) := decide_eq_false hin
        have hd2 : ((i : Int) == (n : Int)) = false := beq_false_of_ne (by omega)
        go_wp2
        go_ret
        exact ⟨by rw [e.out, hd.out]; rfl, HO2.out⟩

end Go.Proofs.YtoofalchkedciaaGreatDoor

namespace Go.Proofs.YtoofalchkedciaaGreatDoor
open Go.RowKit Go.Deep

noncomputable def alongFault (p : PlanL) (ops : List Opn) (l : List Int) : Int :=
  if allFault p ops ≠ 0 then allFault p ops else if ¬ EachOf p.length l then 3 else if ¬ aheadB p (l.map Int.toNat) then 6 else 0

theorem natL_toNat (o : List Nat) : (natL o).map Int.toNat = o := by
  unfold natL
  rw [List.map_map]
  have : ∀ x ∈ o, (Int.toNat ∘ fun (i : Nat) => (i : Int)) x = x := fun x _ => by simp
  rw [List.map_congr_left this]; simp

set_option maxRecDepth 100000 in
set_option maxHeartbeats 2000000 in
theorem cells_Along (v u ov : Value) (p : PlanL) (ops : List Opn) (l : List Int) (w : World) (h : InPlan w v p) (hu : OpsAt w u ops) (hlen : ops.length ≤ 9223372036854775807) (hord : Reads w ov l) (hl9 : l.length ≤ 17592186044416) :
    Calls Tryz.prog 45 #[v, u, ov] w fun e w' => ∃ v', e = .returned (.tuple #[v', errV (alongFault p ops l)]) ∧ Only [] w w' ∧
      ((alongFault p ops l ≠ 0 ∧ v' = .slice none 0 0) ∨ (alongFault p ops l = 0 ∧ ∃ A, v' = .slice (some ⟨A, 0, none⟩) p.length p.length ∧ w.heap.size ≤ A ∧ RowCl w' A p.length (foldA p ops (l.map Int.toNat)))) := by
  have hr := cells_ready v u p ops w h hu hlen
  have hnil : ∀ E, E ≠ 0 → errV E = .iface 98 (.int .i64 E) := fun E hE => errV_ne hE
  obtain ⟨E, hE⟩ : ∃ E, alongFault p ops l = E := ⟨_, rfl⟩
  have HE := Lib.hid hE
  rw [hE]
  clear hE
  by_cases h0 : allFault p ops = 0
  · obtain ⟨hok, hl, hops⟩ := allFault_zero h0
    have h30 := hok.len
    have HEA := Lib.hid (fun w1 (ho : Only [] w w1) => list_Each p.length ov l w1 (hord.same ho) hl9 (by omega))
    have HAL := Lib.hid (fun w1 (ho : Only [] w w1) (o : List Nat) (hlo : l = natL o) (hon : ∀ x ∈ o, x < p.length) (hol : o.length ≤ 1000) => cells_along v u ov p ops o w1 (h.same ho) hok (hu.same ho) hops hl (by rw [← hlo]; exact hord.same ho) hon hol)
    rw [h0, errV_zero] at hr
    obtain ⟨n, hn⟩ : ∃ n, p.length = n := ⟨_, rfl⟩
    have HL := Lib.hid hn
    have H0 := Lib.hid h0
    obtain ⟨pa, pc, rfl, _⟩ := h.task
    obtain ⟨ua, uc, rfl, _⟩ := hu.opt
    obtain ⟨oa, oc, rfl, _⟩ := hord.opt
    obtain ⟨m, hm⟩ : ∃ m, l.length = m := ⟨_, rfl⟩
    have HM := Lib.hid hm
    obtain ⟨q, hq⟩ : ∃ q, ops.length = q := ⟨_, rfl⟩
    rw [hn] at HEA HAL hr h30 ⊢
    rw [hm] at HEA HAL
    rw [hq] at HAL hr
    rw [hm, hq]
    clear h hu hord hlen hl9 h0 hok hl hops hn hm hq
    go_enter Tryz.func45, Tryz.ntmps45
    go_wp2_with fail
    refine hr.mono ?_
    rintro e w1 ⟨rfl, ho1⟩
    clear hr
    have hea := HEA.out w1 ho1
    by_cases hE3 : EachOf n l
    · rw [decide_eq_true hE3] at hea
      obtain ⟨o, hlo, hperm⟩ := hE3.mem
      have hon : ∀ x ∈ o, x < n := fun x hx => by simpa using (hperm.mem_iff).1 hx
      have hol : o.length ≤ 1000 := by have := hperm.length_eq; simp at this; omega
      have HMAP : Hid (l.map Int.toNat = o) := by show _ = _; rw [hlo]; exact natL_toNat o
      have HE3 := Lib.hid hE3
      have HLO := Lib.hid hlo
      clear hE3 hlo hperm
      go_wp2_with fail
      refine hea.mono ?_
      rintro e w2 ⟨rfl, ho2⟩
      have ho2 := ho1.trans ho2 (by simp)
      have hal := HAL.out w2 ho2 o HLO.out hon hol
      clear hea ho1
      go_wp2_with fail
      refine hal.mono ?_
      rintro e w3 ⟨v3, b, rfl, ho3, h3⟩
      have ho3 := ho2.trans ho3 (by simp)
      have hs := ho2.size
      clear hal ho2
      rcases h3 with ⟨rfl, hah, A, rfl, hA, hR⟩ | ⟨rfl, hno, rfl⟩
      · have he : Hid (E = 0) := by
          show _ = _
          rw [← HE.out]
          unfold alongFault
          rw [if_neg (by simp [H0.out]), if_neg (by rw [HL.out]; simpa using HE3.out), if_neg (by rw [HMAP.out]; simpa using hah)]
        have HR := Lib.hid hR
        clear hR
        go_wp2
        go_ret2
        exact ⟨_, by rw [he.out, errV_zero]; rfl, ho3, .inr ⟨he.out, A, rfl, by omega, by rw [HMAP.out]; exact HR.out⟩⟩
      · have he : Hid (E = 6) := by
          show _ = _
          rw [← HE.out]
          unfold alongFault
          rw [if_neg (by simp [H0.out]), if_neg (by rw [HL.out]; simpa using HE3.out), if_pos (by rw [HMAP.out]; exact hno)]
        go_wp2
        go_ret2
        exact ⟨_, by rw [he.out, errV_ne (by decide)]; rfl, ho3, .inl ⟨by rw [he.out]; decide, rfl⟩⟩
    · rw [decide_eq_false hE3] at hea
      have he : Hid (E = 3) := by
        show _ = _
        rw [← HE.out]
        unfold alongFault
        rw [if_neg (by simp [H0.out]), if_pos (by rw [HL.out]; exact hE3)]
      clear hE3
      go_wp2_with fail
      refine hea.mono ?_
      rintro e w2 ⟨rfl, ho2⟩
      have ho2 := ho1.trans ho2 (by simp)
      clear hea
      go_wp2
      go_ret2
      exact ⟨_, by rw [he.out, errV_ne (by decide)]; rfl, ho2, .inl ⟨by rw [he.out]; decide, rfl⟩⟩
  · have he : Hid (E = allFault p ops) := by
      show _ = _
      rw [← HE.out]
      unfold alongFault
      rw [if_pos h0]
    obtain ⟨F, hF⟩ : ∃ F, allFault p ops = F := ⟨_, rfl⟩
    rw [hF] at he h0 hr
    rw [errV_ne h0] at hr
    have H0 := Lib.hid h0
    obtain ⟨_, _, rfl, _⟩ := h.task
    obtain ⟨_, _, rfl, _⟩ := hu.opt
    obtain ⟨_, _, rfl, _⟩ := hord.opt
    clear h hu hord h0 hlen hl9 hF
    go_enter Tryz.func45, Tryz.ntmps45
    go_wp2_with fail
    refine hr.mono ?_
    rintro e w1 ⟨rfl, ho1⟩
    clear hr
    go_wp2
    go_ret2
    exact ⟨_, by rw [he.out, hnil F H0.out]; rfl, ho1, .inl ⟨by rw [he.out]; exact H0.out, rfl⟩⟩

end Go.Proofs.YtoofalchkedciaaGreatDoor

namespace Go.Proofs.YtoofalchkedciaaGreatDoor
open Go.RowKit Go.Deep

/-- What is done. -/
def finB (l : List Nat) : Nat → Bool := fun i => decide (i ∈ l)
theorem finB_nil : finB [] = fun _ => false := by funext i; simp [finB]
theorem finB_push (l : List Nat) (i : Nat) : finB (l ++ [i]) = upB (finB l) i := by
  funext j
  unfold finB upB
  by_cases e : j = i
  · simp [e]
  · simp [e]

/-- Tasks that can be done one behind the other. -/
def FinOk (p : PlanL) (l : List Nat) : Prop := ∀ k (h : k < l.length), l[k] < p.length ∧ readyB p (finB (l.take k)) l[k] = true

theorem FinOk.take {p : PlanL} {l : List Nat} (h : FinOk p l) (n : Nat) : FinOk p (l.take n) := fun k hk => by
  rw [List.length_take] at hk
  have := h k (by omega)
  rw [List.getElem_take, List.take_take, show min k n = k by omega]
  exact this
theorem FinOk.nil (p : PlanL) : FinOk p [] := fun k h => by simp at h
theorem FinOk.push {p : PlanL} {l : List Nat} {i : Nat} (h : FinOk p l) (hi : i < p.length) (hr : readyB p (finB l) i = true) : FinOk p (l ++ [i]) := fun k hk => by
  by_cases e : k < l.length
  · rw [List.getElem_append_left e, List.take_append_of_le_length (by omega)]
    exact h k e
  · obtain rfl : k = l.length := by simp at hk; omega
    rw [List.getElem_append_right (Nat.le_refl _), List.take_append_of_le_length (Nat.le_refl _), List.take_length]
    simpa using ⟨hi, hr⟩
theorem FinOk.nodup {p : PlanL} {l : List Nat} (h : FinOk p l) : l.Nodup := by
  rw [List.nodup_iff_pairwise_ne, List.pairwise_iff_getElem]
  intro i j hi hj hij e
  have := (h j hj).2
  rw [ready_lack] at this
  have hm : l[j] ∈ l.take j := by
    rw [← e]
    exact List.mem_take_iff_getElem.2 ⟨i, by omega, rfl⟩
  simp [finB, hm] at this
theorem FinOk.lt {p : PlanL} {l : List Nat} (h : FinOk p l) : ∀ i ∈ l, i < p.length := fun i hi => by
  obtain ⟨k, hk, rfl⟩ := List.getElem_of_mem hi
  exact (h k hk).1
theorem fin_le : ∀ (n : Nat) (l : List Nat), l.Nodup → (∀ i ∈ l, i < n) → l.length ≤ n := by
  intro n
  induction n with
  | zero =>
    intro l _ h
    cases l with
    | nil => simp
    | cons a l => have := h a (by simp); omega
  | succ n ih =>
    intro l hn h
    by_cases hm : n ∈ l
    · have h1 := ih (l.erase n) (hn.erase n) (fun i hi => by
        have h2 := (hn.mem_erase_iff).1 hi
        have h3 := h i h2.2
        omega)
      rw [List.length_erase_of_mem hm] at h1
      have := List.length_pos_of_mem hm
      omega
    · have := ih l hn (fun i hi => by
        have h3 := h i hi
        have : i ≠ n := fun e => hm (by rw [← e]; exact hi)
        omega)
      omega
theorem FinOk.len {p : PlanL} {l : List Nat} (h : FinOk p l) : l.length ≤ p.length := fin_le _ _ h.nodup h.lt

theorem fin_full {p : PlanL} (hok : PlanOk p) {l : List Nat} (h : FinOk p l) (hr : readyL p (finB l) = []) : l.Perm (List.range p.length) := by
  refine (List.perm_ext_iff_of_nodup h.nodup List.nodup_range).2 fun x => ⟨fun hx => List.mem_range.2 (h.lt x hx), fun hx => ?_⟩
  refine Decidable.byContradiction fun hn => ?_
  obtain ⟨i, hi, hri⟩ := exists_ready hok (finB l) ⟨x, List.mem_range.1 hx, by simp [finB, hn]⟩
  have : i ∈ readyL p (finB l) := by simp [readyL, hi, hri]
  rw [hr] at this
  cases this
theorem fin_perm {p : PlanL} {l : List Nat} (h : FinOk p l) (hl : l.length = p.length) : l.Perm (List.range p.length) := by
  refine (List.perm_ext_iff_of_nodup h.nodup List.nodup_range).2 fun x => ⟨fun hx => List.mem_range.2 (h.lt x hx), fun hx => ?_⟩
  refine Decidable.byContradiction fun hn => ?_
  have := fin_le p.length (x :: l) (List.nodup_cons.2 ⟨hn, h.nodup⟩) (fun y hy => by
    rcases List.mem_cons.1 hy with rfl | hy
    · exact List.mem_range.1 hx
    · exact h.lt y hy)
  simp at this
  omega
theorem fin_order {p : PlanL} {l : List Nat} (h : FinOk p l) (hp : l.Perm (List.range p.length)) : orderOk p l := by
  refine ⟨h.nodup, fun k hk x hx => ?_, fun i hi => hp.mem_iff.2 (List.mem_range.2 hi)⟩
  have := (h k hk).2
  have e : l[k]?.getD 0 = l[k] := by rw [List.getElem?_eq_getElem hk]; rfl
  rw [e] at hx
  unfold readyB at this
  simp only [Bool.and_eq_true, List.all_eq_true] at this
  have := this.2 x hx
  simpa [finB] using this
theorem fin_along {p : PlanL} {ops : List Opn} {l : List Nat} (h0 : allFault p ops = 0) (h : FinOk p l) (hp : l.Perm (List.range p.length)) : alongFault p ops (natL l) = 0 := by
  unfold alongFault
  have h1 : EachOf p.length (natL l) := by
    unfold EachOf natL
    exact List.Perm.map _ hp
  rw [if_neg (by simp [h0]), if_neg (by simpa using h1), if_neg (by rw [natL_toNat]; simpa using (fin_order h hp).2.1)]
theorem fin_none {p : PlanL} {l : List Nat} (hp : l.Perm (List.range p.length)) : readyL p (finB l) = [] := by
  unfold readyL
  rw [List.filter_eq_nil_iff]
  intro i hi
  have hm : i ∈ l := hp.mem_iff.2 hi
  simp [readyB, finB, hm]


end Go.Proofs.YtoofalchkedciaaGreatDoor
