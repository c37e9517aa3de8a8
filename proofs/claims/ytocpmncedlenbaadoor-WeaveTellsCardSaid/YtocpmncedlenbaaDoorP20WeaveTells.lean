/-
  Contract of strconv.Atoi at digits.
  A slice value's block hangs on its address alone.
  Contract of plan.AfterOf.
  Contract of plan.Own.
-/
import Derived.Test.YtocpmncedlenbaaDoorP14WeaveTells
import Derived.Test.YtocpmncedlenbaaDoorP3WeaveTells
import Derived.Test.YtocpmncedlenbaaDoorP19WeaveTells
import Derived.Lib.AtoiAll
import Derived.Test.YtocpmncedlenbaaDoorP5WeaveTells
import Derived.Test.YtocpmncedlenbaaDoorP16WeaveTells
import Derived.Test.YtocpmncedlenbaaDoorP9WeaveTells
namespace Go.Proofs.YtocpmncedlenbaaDoor
open Go.RowKit

theorem dig_grow : ∀ (l : List UInt8) (n : Nat), n ≤ l.foldl (fun n c => n * 10 + (c.toNat - 48)) n := by
  intro l
  induction l with
  | nil => intro n; exact Nat.le_refl _
  | cons a l ih =>
    intro n
    rw [List.foldl_cons]
    exact Nat.le_trans (by omega) (ih _)

theorem parse_digits : ∀ (l : List UInt8) (acc : Nat), l.all isDig = true →
    (Lib.parseUint10 acc l = .ok (l.foldl (fun n c => n * 10 + (c.toNat - 48)) acc) ∧ (acc < 18446744073709551616 → l.foldl (fun n c => n * 10 + (c.toNat - 48)) acc < 18446744073709551616)) ∨
    (Lib.parseUint10 acc l = .range ∧ 9223372036854775808 ≤ l.foldl (fun n c => n * 10 + (c.toNat - 48)) acc) := by
  intro l
  induction l with
  | nil => intro acc _; exact .inl ⟨rfl, fun h => h⟩
  | cons c r ih =>
    intro acc h
    rw [List.all_cons, Bool.and_eq_true] at h
    have hc : 48 ≤ c.toNat ∧ c.toNat ≤ 57 := by
      have := h.1
      simpa [isDig] using this
    rw [List.foldl_cons]
    have hg := dig_grow r (acc * 10 + (c.toNat - 48))
    simp only [Lib.parseUint10]
    rw [if_pos hc]
    by_cases h1 : 1844674407370955162 ≤ acc
    · rw [if_pos h1]
      exact .inr ⟨rfl, by omega⟩
    · rw [if_neg h1]
      by_cases h2 : 18446744073709551616 ≤ acc * 10 + (c.toNat - 48)
      · rw [if_pos h2]
        exact .inr ⟨rfl, by omega⟩
      · rw [if_neg h2]
        rcases ih (acc * 10 + (c.toNat - 48)) h.2 with ⟨a, b⟩ | hb
        · exact .inl ⟨a, fun _ => b (by omega)⟩
        · exact .inr hb

theorem atoi_digits (d : List UInt8) (h : d.all isDig = true) (h0 : d ≠ []) :
    (Lib.atoiAll d = .ok (digV d : Int)) ∨ (Lib.atoiAll d = .range ∧ 9223372036854775808 ≤ digV d) := by
  cases d with
  | nil => exact absurd rfl h0
  | cons c r =>
    have hc : 48 ≤ c.toNat ∧ c.toNat ≤ 57 := by
      rw [List.all_cons, Bool.and_eq_true] at h
      simpa [isDig] using h.1
    unfold Lib.atoiAll
    have n1 : ¬ c.toNat = 43 := by omega
    have n2 : ¬ c.toNat = 45 := by omega
    simp only [n1, n2, or_self, if_false, false_and]
    unfold Lib.parseMag
    rw [if_neg (by simp)]
    rcases parse_digits (c :: r) 0 h with ⟨a, b⟩ | ⟨a, b⟩
    · rw [a]
      unfold digV
      by_cases hz : 9223372036854775808 ≤ (c :: r).foldl (fun n c => n * 10 + (c.toNat - 48)) 0
      · right
        simp only [hz]
        simp
      · left
        simp only [hz]
        simp
    · rw [a]
      right
      exact ⟨rfl, b⟩

/-- What Atoi says of digits. -/
def AtoiD (d : List UInt8) (w : World) (e : Ending) (w' : World) : Prop :=
  ∃ (n : Int) (v : Value), e = .returned (.tuple #[.int .i64 n, v]) ∧ ((v = .nilIface ∧ n = (digV d : Int) ∧ d ≠ []) ∨ (∃ N, v = .iface 178 (.pointer (some ⟨N, 0, none⟩)) ∧ (d = [] ∨ 21 ≤ digV d))) ∧ (-9223372036854775808 ≤ n ∧ n ≤ 9223372036854775807) ∧ Only [] w w'

theorem atoi_at_digits (s : ByteArray) (d : List UInt8) (hd : s.data.toList = d) (h : d.all isDig = true) (hs : s.size ≤ 1000) (w : World) (base : Nat) (hv : ErrsAt w base) :
    Calls Tryd.prog 77 #[.string s] w (AtoiD d w) := by
  subst hd
  obtain ⟨hsyn, hrange, _⟩ := hv
  by_cases h0 : s.data.toList = []
  · obtain ⟨tp, p, hv⟩ := hsyn
    refine (Tryd.strconv_Atoi_empty_var s (by omega) h0 tp p w hv).mono ?_
    rintro e w' ⟨N, rfl, _, _, hb⟩
    exact ⟨_, _, rfl, .inr ⟨N, rfl, .inl h0⟩, by omega, Only.ofBelow hb⟩
  · rcases atoi_digits _ h h0 with hk | ⟨hk, hbig⟩
    · have hbd := Lib.atoiAll_bounds hk
      refine (Tryd.strconv_Atoi_ok s (by omega) _ hk w).mono ?_
      rintro e w' ⟨rfl, hw⟩
      refine ⟨_, _, rfl, .inl ⟨rfl, rfl, h0⟩, hbd, ?_⟩
      rcases hw with rfl | ⟨t, rfl⟩
      · exact Only.refl _ _
      · exact Only.ofBelow (Lib.below_freeze ((Below.drew (Below.refl _ w)).alloc (Nat.le_refl _) _) (p := ⟨w.heap.size, _, none⟩) (Nat.le_refl _) _)
    · obtain ⟨tp, p, hv⟩ := hrange
      refine (Tryd.strconv_Atoi_range_var s (by omega) hk tp p w hv).mono ?_
      rintro e w' ⟨N, rfl, _, _, hb⟩
      refine ⟨_, _, rfl, .inr ⟨N, rfl, .inr (by omega)⟩, ?_, Only.ofBelow hb⟩
      unfold Lib.atoiSat
      split <;> omega

end Go.Proofs.YtocpmncedlenbaaDoor

namespace Go.Proofs.YtocpmncedlenbaaDoor
theorem own_any (a : Option Addr) (n m c d : Nat) : own (.slice a n c) = own (.slice a m d) := by cases a <;> rfl
end Go.Proofs.YtocpmncedlenbaaDoor

namespace Go.Proofs.YtocpmncedlenbaaDoor
open Go.RowKit Go.Deep

/-- Who comes after a task, of the first k. -/
def afterK (p : PlanL) (i : Int) (k : Nat) : List Nat := (List.range k).filter (fun k => (ndOf p k).contains i)
theorem afterK_zero (p : PlanL) (i : Int) : afterK p i 0 = [] := rfl
theorem afterK_succ (p : PlanL) (i : Int) (k : Nat) : afterK p i (k + 1) = if (ndOf p k).contains i then afterK p i k ++ [k] else afterK p i k := by
  unfold afterK
  rw [List.range_succ, List.filter_append]
  cases h : (ndOf p k).contains i <;> simp only [List.filter, h] <;> simp
theorem afterK_all (p : PlanL) (i : Int) : afterK p i p.length = afterOf p i := rfl
theorem afterK_len (p : PlanL) (i : Int) (k : Nat) : (afterK p i k).length ≤ k := by
  have := List.length_filter_le (fun k => (ndOf p k).contains i) (List.range k)
  simpa [afterK] using this

set_option maxRecDepth 100000 in
set_option maxHeartbeats 2000000 in
theorem plan_AfterOf (v : Value) (p : PlanL) (i : Int) (w : World) (h : InPlan w v p) (hok : PlanOk p) :
    Calls Tryd.prog 35 #[v, .int .i64 i] w fun e w' => ∃ v', e = .returned v' ∧ Ints w' w.heap.size v' (natL (afterOf p i)) ∧ Only [] w w' := by
  have HP := Lib.hid h
  have HO := Lib.hid hok
  obtain ⟨a, cap, rfl, hc1, hc2, _⟩ := h.task
  obtain ⟨n, hn⟩ : ∃ n, p.length = n := ⟨_, rfl⟩
  have HL := Lib.hid hn
  rw [hn] at hc1 HP ⊢
  have h30 : n ≤ 30 := by rw [← hn]; exact hok.len
  clear h hn hok
  go_enter Tryd.func35, Tryd.ntmps35
  go_wp2_with fail
  go_loopw [4, 9] (fun vo vi wr => ∃ k : Nat, k ≤ n ∧ vi = .int .i64 k ∧ Ints wr w.heap.size vo (natL (afterK p i k)) ∧ Only [] w wr) (fun _ vi _ => n - (intOf vi).toNat)
  case atStart => exact ⟨0, Nat.zero_le _, rfl, Ints.nil _ _, Only.refl _ _⟩
  case round =>
    obtain ⟨wo, rfl⟩ : ∃ wo : World, wo = wr := ⟨_, rfl⟩
    obtain ⟨k, hk, rfl, hI, ho⟩ := hrel
    have hsz := ho.size
    by_cases hkn : k < n
    · obtain ⟨b, off, rfl⟩ := HP.out.any k (by rw [HL.out]; exact hkn)
      obtain ⟨ua, uc, c0, c1, hrd⟩ := (HP.out.same ho).at k (by rw [HL.out]; exact hkn)
      have hnl : (ndOf p k).length ≤ 30 := by have := HO.out.needs k; rw [HL.out] at this; omega
      have hal := (Only.refl [] wo).alloc (.cells #[.int .i64 (wkOf p k), .slice ua (ndOf p k).length uc] 39)
      have hrd3 := hrd.same hal
      have hI3 := hI.only hal (by simp)
      have ho3 := ho.trans hal (by simp)
      have hsu := afterK_succ p i k
      have hlen := afterK_len p i k
      obtain ⟨q, hq⟩ : ∃ q, (natL (afterK p i k)).length = q := ⟨_, rfl⟩
      have HQ := Lib.hid hq
      have hq2 : q ≤ k := by rw [← hq, natL_len]; exact hlen
      have hcl := contains_ints _ _ i _ hrd3 (by omega)
      obtain ⟨r, hr⟩ : ∃ r, decide (i ∈ ndOf p k) = r := ⟨_, rfl⟩
      have hr2 : (ndOf p k).contains i = r := by rw [← hr]; simp
      have hcl := hcl r hr
      rw [hr2] at hsu
      have HSU := Lib.hid hsu
      clear hr hr2 hsu hrd hrd3 hlen
      obtain ⟨x, hx⟩ : ∃ x, wkOf p k = x := ⟨_, rfl⟩
      obtain ⟨m, hm⟩ : ∃ m, (ndOf p k).length = m := ⟨_, rfl⟩
      rw [hx, hm] at hcl hal hI3 ho3
      rw [hx] at c0
      rw [hm] at c1
      clear hx hm hal
      have hsz3 := ho3.size
      cases r
      · go_wp2_with fail
        refine hcl.mono ?_
        rintro e w9 ⟨rfl, rfl⟩
        clear hcl
        go_wp2
        go_roundw
        case rel => exact ⟨k + 1, by omega, by go_num, by rw [HSU.out]; exact hI3, ho3⟩
        case measure => (simp [intOf]; try omega)
      · go_wp2_with fail
        refine hcl.mono ?_
        rintro e w9 ⟨rfl, rfl⟩
        clear hcl
        obtain ⟨W, hW⟩ : ∃ W, wo.alloc (.cells #[.int .i64 x, .slice ua m uc] 39) = W := ⟨_, rfl⟩
        rw [hW] at hI3 ho3 hsz3
        clear hI ho
        go_wp2_with (at_builtin; refine wpList_push rfl (.tmp 18) (.tmp 20) rfl W w.heap.size _ _ W.heap.size k q hI3 hq (by omega) hsz3 rfl rfl ((Only.refl [] W).alloc _) (World.cell?_alloc_at _ _ _ _ rfl) ?_; intro g cap3 w3 hI4 hO4 hK4)
        rw [← natL_push] at hI4
        have ho4 := Lib.hid (ho3.pushed hI3 (Nat.le_refl _) hO4)
        clear hI3 ho3 hO4 hW
        go_roundw
        case rel => exact ⟨k + 1, by omega, by go_num, by rw [HSU.out]; exact hI4, ho4.out⟩
        case measure => (simp [intOf]; try omega)
    · obtain rfl : k = n := by omega
      obtain ⟨va, vc, rfl, _⟩ := hI.opt
      go_wp2
      go_ret
      exact ⟨_, rfl, by rw [← afterK_all, HL.out]; exact hI, ho⟩

end Go.Proofs.YtocpmncedlenbaaDoor

namespace Go.Proofs.YtocpmncedlenbaaDoor
open Go.RowKit Go.Deep

theorem flatP_at (p : PlanL) (N : Nat → Value) (n j : Nat) (hj : j < n * 2) : (flatP p N n)[j]? = some (if j % 2 = 0 then .int .i64 (wkOf p (j / 2)) else N (j / 2)) := by
  unfold flatP
  rw [List.getElem?_map, List.getElem?_range hj]
  rfl
theorem flatP_one (p : PlanL) (N : Nat → Value) (n : Nat) (h : ∀ i, i < n → (N i).oneCell' = true) : ∀ y ∈ flatP p N n, y.oneCell' = true := by
  intro y hy
  unfold flatP at hy
  obtain ⟨j, hj, rfl⟩ := List.mem_map.1 hy
  have hj' : j < n * 2 := by simpa using hj
  split
  · rfl
  · exact h _ (by omega)
theorem flatP_set (p : PlanL) (N : Nat → Value) (n i : Nat) (u : Value) (h : i < n) : (flatP p N n).set (i * 2 + 1) u = flatP p (updV N i u) n := by
  apply List.ext_getElem?
  intro j
  by_cases hj : j < n * 2
  · by_cases e : j = i * 2 + 1
    · subst e
      rw [flatP_1 _ _ _ _ h, List.getElem?_set_self (by rw [flatP_len]; omega)]
      simp [updV]
    · rw [List.getElem?_set_ne (Ne.symm e), flatP_at _ _ _ _ hj, flatP_at _ _ _ _ hj]
      split
      · rfl
      · rw [updV, if_neg (by omega)]
  · rw [List.getElem?_eq_none (by rw [List.length_set, flatP_len]; omega), List.getElem?_eq_none (by rw [flatP_len]; omega)]

theorem pairs_at {w : World} {v : Value} {n : Nat} {p : PlanL} {N : Nat → Value} (h : Pairs w v n (fun i => .int .i64 (wkOf p i)) N) (h1 : ∀ i, i < n → (N i).oneCell' = true) : RowAt w v n 2 (flatP p N n) := by
  obtain ⟨a, cap, rfl, hl, hm, h0, h3⟩ := h
  refine ⟨flatP_len _ _ _, flatP_one _ _ _ h1, ?_⟩
  by_cases e : n = 0
  · subst e
    left
    refine ⟨rfl, ?_⟩
    cases a with
    | none => left; rw [h0 rfl]
    | some x => exact .inr ⟨x, cap, rfl⟩
  · obtain ⟨b, off, rfl, _, _⟩ := h3 0 (by omega)
    refine .inr ⟨by omega, b, off, cap, rfl, fun j y hy => ?_⟩
    have hj : j < n * 2 := by
      rcases Nat.lt_or_ge j (n * 2) with hl | hl
      · exact hl
      · rw [List.getElem?_eq_none (by rw [flatP_len]; exact hl)] at hy; cases hy
    obtain ⟨b', off', hb, k0, k1⟩ := h3 (j / 2) (by omega)
    injection hb with hb
    injection hb with e1 e2
    subst e1 e2
    rw [flatP_at _ _ _ _ hj] at hy
    injection hy with hy
    subst hy
    split
    · rw [show off + j / 2 * 2 = off + j by omega] at k0; exact k0
    · rw [show off + j / 2 * 2 + 1 = off + j by omega] at k1; exact k1



end Go.Proofs.YtocpmncedlenbaaDoor
