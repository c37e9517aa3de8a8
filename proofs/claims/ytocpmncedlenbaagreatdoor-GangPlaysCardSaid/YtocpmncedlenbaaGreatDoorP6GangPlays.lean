/-
  Contract of plan.reaches: does a task need itself?
  Contracts of plan.Check and plan.Right.
  yardsame.Error at an error and its own number.
-/
import Derived.Test.YtocpmncedlenbaaGreatDoorP4GangPlays
import Derived.Test.YtocpmncedlenbaaGreatDoorP5GangPlays
import Derived.Test.YtocpmncedlenbaaGreatDoorP1GangPlays
namespace Go.Proofs.YtocpmncedlenbaaGreatDoor
open Go.RowKit Go.Deep

/-- What holds while the needs of needs are gone through. -/
structure ReachInv (p : PlanL) (i : Nat) (seen : Nat → Bool) (row : List Int) : Prop where
  rows : ∀ x ∈ row, 0 ≤ x ∧ x < p.length ∧ Reach p i x.toNat
  self : seen i = false
  start : ∀ k : Nat, (k : Int) ∈ ndOf p i → seen k = true ∨ (k : Int) ∈ row
  close : ∀ k m : Nat, seen k = true → (m : Int) ∈ ndOf p k → seen m = true ∨ (m : Int) ∈ row

/-- Needs are tasks, each named once, rising. -/
def NeedsOk (p : PlanL) : Prop := p.length ≤ 30 ∧ (∀ i, ∀ x ∈ ndOf p i, 0 ≤ x ∧ x < p.length) ∧ ∀ i, (ndOf p i).length ≤ 30

theorem needsOk {p : PlanL} (h : p.length ≤ 30) (hf : ∀ i, i < p.length → taskFault p.length (p[i]?.getD (0, [])) = 0) : NeedsOk p := by
  have hn : ∀ i, ∀ x ∈ ndOf p i, 0 ≤ x ∧ x < (p.length : Int) := by
    intro i x hx
    by_cases hi : i < p.length
    · exact (taskFault_zero (hf i hi)).2.2.1 x hx
    · rw [ndOf_none p i (by omega)] at hx; cases hx
  refine ⟨h, hn, fun i => ?_⟩
  by_cases hi : i < p.length
  · have := need_len (taskFault_zero (hf i hi)).2.2.2 (hn i)
    exact Nat.le_trans this h
  · rw [ndOf_none p i (by omega)]; simp
theorem PlanOk.needsOk {p : PlanL} (h : PlanOk p) : NeedsOk p := Go.Proofs.YtocpmncedlenbaaGreatDoor.needsOk h.len h.fault

theorem ReachInv.init {p : PlanL} (h : NeedsOk p) (i : Nat) : ReachInv p i (fun _ => false) (ndOf p i) :=
  ⟨fun x hx => by
    have := h.2.1 i x hx
    exact ⟨this.1, this.2, .one (by rw [Int.toNat_of_nonneg this.1]; exact hx)⟩, rfl, fun _ hk => .inr hk, fun _ _ hk => by cases hk⟩

def upB (f : Nat → Bool) (j : Nat) : Nat → Bool := fun i => if i = j then true else f i

theorem ReachInv.old {p : PlanL} {i k : Nat} {seen : Nat → Bool} {row : List Int} (h : ReachInv p i seen ((k : Int) :: row)) (hs : seen k = true) : ReachInv p i seen row := by
  have drop : ∀ m : Nat, (seen m = true ∨ (m : Int) ∈ (k : Int) :: row) → seen m = true ∨ (m : Int) ∈ row := by
    intro m hm
    rcases hm with hm | hm
    · exact .inl hm
    · rcases List.mem_cons.1 hm with e | hm
      · have : m = k := by omega
        subst this; exact .inl hs
      · exact .inr hm
  exact ⟨fun x hx => h.rows x (by simp [hx]), h.self, fun m hm => drop m (h.start m hm), fun a m ha hm => drop m (h.close a m ha hm)⟩

theorem ReachInv.new {p : PlanL} {i k : Nat} {seen : Nat → Bool} {row : List Int} (hn : NeedsOk p) (h : ReachInv p i seen ((k : Int) :: row)) (hk : k ≠ i) : ReachInv p i (upB seen k) (row ++ ndOf p k) := by
  have hkr : Reach p i k := by simpa using (h.rows k (by simp)).2.2
  have drop : ∀ m : Nat, (seen m = true ∨ (m : Int) ∈ (k : Int) :: row) → upB seen k m = true ∨ (m : Int) ∈ row ++ ndOf p k := by
    intro m hm
    unfold upB
    by_cases e : m = k
    · subst e; exact .inl (by simp)
    · rw [if_neg e]
      rcases hm with hm | hm
      · exact .inl hm
      · rcases List.mem_cons.1 hm with e2 | hm
        · exact absurd (by omega) e
        · exact .inr (by simp [hm])
  refine ⟨fun x hx => ?_, ?_, fun m hm => drop m (h.start m hm), fun a m ha hm => ?_⟩
  · rcases List.mem_append.1 hx with hx | hx
    · exact h.rows x (by simp [hx])
    · have := hn.2.1 k x hx
      exact ⟨this.1, this.2, hkr.more (by rw [Int.toNat_of_nonneg this.1]; exact hx)⟩
  · unfold upB; rw [if_neg (Ne.symm hk)]; exact h.self
  · by_cases e : a = k
    · subst e; exact .inr (by simp [hm])
    · unfold upB at ha
      rw [if_neg e] at ha
      exact drop m (h.close a m ha hm)

theorem ReachInv.no {p : PlanL} {i : Nat} {seen : Nat → Bool} (h : ReachInv p i seen []) : ¬ Reach p i i := by
  have key : ∀ m, Reach p i m → seen m = true := by
    intro m hm
    induction hm with
    | one hk => simpa using h.start _ hk
    | more _ hk ih => simpa using h.close _ _ ih hk
  intro hr
  have := key i hr
  rw [h.self] at this
  cases this

theorem ReachInv.yes {p : PlanL} {i : Nat} {seen : Nat → Bool} {row : List Int} (h : ReachInv p i seen ((i : Int) :: row)) : Reach p i i := by
  simpa using (h.rows i (by simp)).2.2

/-- How many are not seen yet. -/
def unseen (n : Nat) (seen : Nat → Bool) : Nat := (List.range n).countP (fun k => !seen k)
theorem unseen_up {n k : Nat} {seen : Nat → Bool} (hk : k < n) (hs : seen k = false) : unseen n (upB seen k) < unseen n seen :=
  countP_lt _ _ _ (fun x _ hx => by
    unfold upB at hx
    by_cases e : x = k
    · simp [e] at hx
    · simpa [e] using hx) ⟨k, by simpa using hk, by simp [hs], by simp [upB]⟩
theorem unseen_le (n : Nat) (seen : Nat → Bool) : unseen n seen ≤ n := by
  unfold unseen
  have := List.countP_le_length (p := fun k => !seen k) (l := List.range n)
  simpa using this

open Classical in
set_option maxRecDepth 100000 in
set_option maxHeartbeats 2000000 in
theorem plan_reaches (v : Value) (p : PlanL) (i : Nat) (w : World) (h : InPlan w v p) (hi : i < p.length) (hn : NeedsOk p) :
    Calls Tryz.prog 93 #[v, .int .i64 i] w fun e w' => e = .returned (.bool (decide (Reach p i i))) ∧ Only [] w w' := by
  have HN := Lib.hid hn
  have HP := Lib.hid h
  obtain ⟨a, cap, rfl, hc1, hc2, ht⟩ := h.task
  obtain ⟨n, hnl⟩ : ∃ n, p.length = n := ⟨_, rfl⟩
  have HL := Lib.hid hnl
  have hn30 : n ≤ 30 := by rw [← hnl]; exact hn.1
  have hmk := make_bools n (by omega)
  have hMB := made_bools w n
  have ho1 := (Only.refl [] w).alloc (.cells (madeCells #[.bool false] n) 4)
  obtain ⟨b, off, u, rfl, c0, c1, hr⟩ := ht i hi
  have d1 := (ho1.cell (p := ⟨b, _, none⟩) (cell_lt c1) (by simp)).trans c1
  have hr1 := hr.same ho1
  rw [hnl] at hi hc1 HP ⊢
  clear h hn hnl ht c0 c1 hr
  obtain ⟨ua, ucap, rfl, _⟩ := hr1.opt
  have hcl := clone_ints _ _ _ hr1 (by have := HN.out.2.2 i; omega)
  go_enter Tryz.func93, Tryz.ntmps93
  go_wp2_with fail
  refine hcl.mono ?_
  rintro e w1 ⟨v1, rfl, hI1, ho2⟩
  clear hcl hr1 d1 hmk
  have hoo := ho1.trans ho2 (by simp)
  have hB1 := hMB.only ho2 (by simp)
  have hs1 := ho1.size
  clear hMB ho1
  have hA1 : ∀ x ∈ own v1, x ≠ w.heap.size := fun x hx e => by
    have := (hI1.own_lt x hx).1
    simp at this hs1; omega
  have hw1 : ∀ x ∈ own v1, w.heap.size ≤ x := fun x hx => by
    have := (hI1.own_lt x hx).1
    simp at this; omega
  have hinit := ReachInv.init HN.out i
  have hm0 : unseen n (fun _ => false) * 31 + (ndOf p i).length ≤ 1000 := by
    have := unseen_le n (fun _ => false)
    have := HN.out.2.2 i
    omega
  go_wp2_with fail
  go_loopg [6] (unseen n (fun _ => false) * 31 + (ndOf p i).length) (fun k vr wr => ∃ seen row, k = unseen n seen * 31 + row.length ∧ k ≤ 1000 ∧ ReachInv p i seen row ∧ Bools wr w.heap.size n seen ∧ Sl wr vr row ∧ (∀ x ∈ own vr, x ≠ w.heap.size) ∧ (∀ x ∈ own vr, w.heap.size ≤ x) ∧ Only [] w wr)
  case atStart => exact ⟨_, _, rfl, hm0, hinit, hB1, hI1.sl, hA1, hw1, hoo⟩
  case round =>
    obtain ⟨seen, row, rfl, hk, hinv, hB, hS, hA, hlo, ho⟩ := hrel
    clear hB1 hI1 hoo hinit hA1 hw1
    have HINV := Lib.hid hinv
    have hAl := cell_lt (hB i hi).1
    rcases row with _ | ⟨x, row⟩
    · have hno := Lib.hid (hinv.no)
      obtain ⟨va, vc, rfl, _⟩ := hS.opt
      clear hinv hB hS
      go_wp2
      go_ret
      exact ⟨by rw [decide_eq_false hno.out]; rfl, ho⟩
    · obtain ⟨hx0, hxn, _⟩ := hinv.rows x (by simp)
      obtain ⟨k, rfl⟩ := Int.eq_ofNat_of_zero_le hx0
      rw [HL.out] at hxn
      have hkn : k < n := by omega
      have hSS := hS
      rcases hS with ⟨_, hS⟩ | ⟨g, off, vcap, rfl, s1, s2, s3, s4, s5⟩
      · cases hS
      · have cx := s4 0 (by simp)
        replace cx : wr.cell? ⟨g, off, none⟩ = some (.int .i64 (k : Int)) := by simpa [nth] using cx
        obtain ⟨q, hq⟩ : ∃ q, row.length = q := ⟨_, rfl⟩
        have hq2 : (((k : Int)) :: row).length = q + 1 := by simp [hq]
        rw [hq2] at s1 hk
        have hoff : off + 0 = off := rfl
        clear hinv s4 s5 hx0 hxn
        by_cases hki : k = i
        · subst hki
          have hyes := Lib.hid (HINV.out.yes)
          clear hB hSS
          go_wp2
          go_ret
          exact ⟨by rw [decide_eq_true hyes.out]; rfl, ho⟩
        · have hne : (((k : Nat) : Int) == ((i : Nat) : Int)) = false := by simp; omega
          have HK := Lib.hid hki
          obtain ⟨sk, hsk⟩ : ∃ s, seen k = s := ⟨_, rfl⟩
          have cs := (hB k hkn).1
          have fs := (hB k hkn).2
          rw [hsk] at cs
          clear hki
          cases sk
          · have hinv2 := Lib.hid (HINV.out.new HN.out (by exact HK.out))
            have hcnt := unseen_up hkn hsk
            have ho' := ho.setCell (p := ⟨w.heap.size, k, none⟩) (fun hlt => by simp at hlt) (.bool true)
            have hset : Only [w.heap.size] wr (wr.setCell ⟨w.heap.size, k, none⟩ (.bool true)) := (Only.refl _ _).setCell (by simp) _
            obtain ⟨na, nc, _, cn, hrd⟩ := (HP.out.same ho').at k (by rw [HL.out]; exact hkn)
            have hlen3 := HN.out.2.2 k
            have hB2 := hB.set k true
            have hS2 := hSS.only hset (fun x hx hx2 => hA x hx (by simpa using hx2))
            clear hB hSS hset hsk
            obtain ⟨m, hm⟩ : ∃ m, (ndOf p k).length = m := ⟨_, rfl⟩
            have HM := Lib.hid hm
            rw [hm] at cn hrd hlen3
            clear hm
            have hgA : w.heap.size ∉ own (.slice (some ⟨g, off, none⟩) ((k : Int) :: row).length vcap) := fun hx => hA _ hx rfl
            have HQ := Lib.hid hq
            have HQ2 := Lib.hid hq2
            obtain ⟨z, hz⟩ : ∃ z, q + m = z := ⟨_, rfl⟩
            have HZ : Hid ((row ++ ndOf p k).length = z ∧ unseen n (upB seen k) * 31 + z < unseen n seen * 31 + (q + 1) ∧ m ≤ 30) := by
              show _ ∧ _
              refine ⟨by rw [List.length_append, HQ.out, HM.out, hz], by omega, hlen3⟩
            clear hq hq2 hcnt hlen3 hz
            go_wp2_with (at_builtin; refine wpList_append_sl_ne rfl (.tmp 36) (.tmp 41) rfl _ _ _ _ _ (z + 1) hS2 hrd (by rw [HQ2.out, HM.out]; have := HZ.out.2.2; omega) (by simp) (by rw [List.cons_append, List.length_cons, HZ.out.1]) rfl rfl (Only.refl _ _) ?_; intro g4 off4 cap4 w' hII s6 s7 hO hK; by_cases hcap : cap4 = 1)
            all_goals
              have hB3 := Lib.hid (hB2.only hO hgA)
              have hoo := ho'.trans hO (fun x hx hl => by have := hlo x hx; omega)
              have hA' : Hid (∀ x ∈ own (.slice (some ⟨g4, off4, none⟩) (z + 1) cap4), x ≠ w.heap.size ∧ w.heap.size ≤ x) := by
                show ∀ x ∈ _, _
                intro x hx
                rcases hK x hx with h | h
                · exact ⟨hA x h, hlo x h⟩
                · have h2 := ho'.size
                  have h3 : (wr.setCell ⟨w.heap.size, k, none⟩ (.bool true)).heap.size = wr.heap.size := by simp [World.setCell]
                  omega
              clear hB2 hS2 hrd cn hO hK ho'
            · subst hcap
              obtain ⟨he, ht1⟩ := hII.tail1
              replace he : row ++ ndOf p k = [] := he
              have HE := Lib.hid he
              have hz0 : z = 0 := by rw [← HZ.out.1, he]; rfl
              subst hz0
              go_roundg (unseen n (upB seen k) * 31 + 0)
              case rel => exact ⟨upB seen k, [], rfl, by have := HZ.out.2; omega, by rw [← HE.out]; exact hinv2.out, hB3.out, ht1, fun x hx => (hA'.out x hx).1, fun x hx => (hA'.out x hx).2, hoo⟩
              case measure => have := HZ.out.2; simp only [HQ.out]; omega
            · have ht1 := hII.tail z HZ.out.1.symm hcap
              go_roundg (unseen n (upB seen k) * 31 + z)
              case rel => exact ⟨upB seen k, row ++ ndOf p k, by rw [HZ.out.1], by have := HZ.out.2; omega, hinv2.out, hB3.out, ht1, fun x hx => (hA'.out x hx).1, fun x hx => (hA'.out x hx).2, hoo⟩
              case measure => have := HZ.out.2; simp only [HQ.out]; omega
          · have hinv2 := Lib.hid (HINV.out.old hsk)
            have hB' := Lib.hid hB
            clear hB hsk fs
            by_cases hcap : vcap = 1
            · subst hcap
              obtain ⟨rfl, ht1⟩ := hSS.tail1
              clear hSS
              go_wp2
              go_roundg (unseen n seen * 31)
              case rel => exact ⟨seen, [], by simp, by omega, hinv2.out, hB'.out, ht1, hA, hlo, ho⟩
              case measure => simp
            · have ht1 := hSS.tail q hq.symm hcap
              clear hSS
              go_wp2
              go_roundg (unseen n seen * 31 + q)
              case rel => exact ⟨seen, row, by rw [hq], by omega, hinv2.out, hB'.out, ht1, hA, hlo, ho⟩
              case measure => simp

end Go.Proofs.YtocpmncedlenbaaGreatDoor

namespace Go.Proofs.YtocpmncedlenbaaGreatDoor
open Go.RowKit

theorem errV_zero : errV 0 = .nilIface := rfl
theorem errV_ne {e : Int} (h : e ≠ 0) : errV e = .iface 99 (.int .i64 e) := by unfold errV; rw [if_neg h]

open Classical in
set_option maxRecDepth 100000 in
set_option maxHeartbeats 2000000 in
theorem plan_Check (v : Value) (p : PlanL) (w : World) (h : InPlan w v p) :
    Calls Tryz.prog 30 #[v] w fun e w' => e = .returned (.tuple #[.int .i64 (planCheck p).1, errV (planCheck p).2]) ∧ Only [] w w' := by
  have HP := Lib.hid h
  obtain ⟨a, cap, rfl, hc1, hc2, _⟩ := h.task
  obtain ⟨n, hn⟩ : ∃ n, p.length = n := ⟨_, rfl⟩
  obtain ⟨⟨pi, pe⟩, hpc⟩ : ∃ x, planCheck p = x := ⟨_, rfl⟩
  have HC := Lib.hid hpc
  have HL := Lib.hid hn
  rw [hpc]
  rw [hn] at hc1 HP ⊢
  have hc3 : n ≤ 9223372036854775807 := by unfold maxLen at hc2; omega
  clear h hn hpc hc2
  show Calls _ _ _ _ fun e w' => e = .returned (.tuple #[.int .i64 pi, errV pe]) ∧ Only [] w w'
  by_cases h30 : 30 < n
  · have hx := planCheck_full (p := p) (by rw [HL.out]; exact h30)
    rw [HC.out] at hx
    obtain ⟨rfl, rfl⟩ := Prod.mk.inj hx
    clear hx
    go_enter Tryz.func30, Tryz.ntmps30
    go_wp2
    go_ret2
    exact ⟨rfl, Only.refl _ _⟩
  · have h30' : n ≤ 30 := by omega
    clear h30
    go_enter Tryz.func30, Tryz.ntmps30
    go_wp2_with fail
    go_loopw [13] (fun vi wr => ∃ i : Nat, i ≤ n ∧ vi = .int .i64 i ∧ (∀ j, j < i → taskFault p.length (p[j]?.getD (0, [])) = 0) ∧ Only [] w wr) (fun vi _ => n - (intOf vi).toNat)
    case atStart => exact ⟨0, Nat.zero_le _, rfl, fun j hj => by omega, Only.refl _ _⟩
    case round =>
      obtain ⟨i, hi, rfl, hf, ho⟩ := hrel
      have HF := Lib.hid hf
      clear hf
      by_cases hlt : i < n
      · have ht := plan_task _ p i wr (HP.out.same ho) (by rw [HL.out]; exact hlt)
        by_cases h0 : taskFault p.length (p[i]?.getD (0, [])) = 0
        · rw [h0, errV_zero] at ht
          have H0 := Lib.hid h0
          clear h0
          go_wp2_with fail
          refine ht.mono ?_
          rintro e w1 ⟨rfl, ho1⟩
          have hoo := ho.trans ho1 (by simp)
          clear ht ho ho1
          go_wp2
          go_roundw
          case rel =>
            refine ⟨i + 1, by omega, by go_num, fun j hj => ?_, hoo⟩
            by_cases e : j = i
            · subst e; exact H0.out
            · exact HF.out j (by omega)
          case measure => (simp [intOf]; try omega)
        · have hx := planCheck_task (p := p) (by rw [HL.out]; exact h30') (by rw [HL.out]; exact hlt) HF.out rfl h0
          rw [HC.out] at hx
          obtain ⟨e1, e2⟩ := Prod.mk.inj hx
          rw [errV_ne h0, ← e2] at ht
          have H1 : Hid (pi = i ∧ pe ≠ 0) := ⟨e1, by rw [e2]; exact h0⟩
          clear h0 hx e1 e2
          go_wp2_with fail
          refine ht.mono ?_
          rintro e w1 ⟨rfl, ho1⟩
          have hoo := ho.trans ho1 (by simp)
          clear ht ho ho1
          go_wp2
          go_ret2
          exact ⟨by rw [errV_ne H1.out.2, H1.out.1]; rfl, hoo⟩
      · obtain rfl : i = n := by omega
        have hN := Lib.hid (needsOk (p := p) (by rw [HL.out]; exact h30') (fun j hj => HF.out j (by rw [HL.out] at hj; exact hj)))
        clear hlt hi
        go_wp2_with fail
        go_loopw [26] (fun vi wr2 => ∃ k : Nat, k ≤ i ∧ vi = .int .i64 k ∧ (∀ j, j < k → ¬ Reach p j j) ∧ Only [] w wr2) (fun vi _ => i - (intOf vi).toNat)
        case atStart => exact ⟨0, Nat.zero_le _, rfl, fun j hj => by omega, ho⟩
        case round =>
          obtain ⟨k, hk, rfl, hnr, ho⟩ := hrel
          have HNR := Lib.hid hnr
          clear hnr
          by_cases hlt : k < i
          · have ht := plan_reaches _ p k _ (HP.out.same ho) (by rw [HL.out]; exact hlt) hN.out
            by_cases h0 : Reach p k k
            · rw [decide_eq_true h0] at ht
              have hx := planCheck_cycle (p := p) (by rw [HL.out]; exact h30') (fun j hj => HF.out j (by rw [HL.out] at hj; exact hj)) (by rw [HL.out]; exact hlt) HNR.out h0
              rw [HC.out] at hx
              obtain ⟨rfl, rfl⟩ := Prod.mk.inj hx
              clear hx h0
              go_wp2_with fail
              refine ht.mono ?_
              rintro e w1 ⟨rfl, ho1⟩
              have hoo := ho.trans ho1 (by simp)
              clear ht ho ho1
              go_wp2
              go_ret2
              exact ⟨rfl, hoo⟩
            · rw [decide_eq_false h0] at ht
              have H0 := Lib.hid h0
              clear h0
              go_wp2_with fail
              refine ht.mono ?_
              rintro e w1 ⟨rfl, ho1⟩
              have hoo := ho.trans ho1 (by simp)
              clear ht ho ho1
              go_wp2
              go_roundw
              case rel =>
                refine ⟨k + 1, by omega, by go_num, fun j hj => ?_, hoo⟩
                by_cases e : j = k
                · subst e; exact H0.out
                · exact HNR.out j (by omega)
              case measure => (simp [intOf]; try omega)
          · obtain rfl : k = i := by omega
            have hx := planCheck_ok (p := p) ⟨by rw [HL.out]; exact h30', fun j hj => HF.out j (by rw [HL.out] at hj; exact hj), fun j hj => HNR.out j (by rw [HL.out] at hj; exact hj)⟩
            rw [HC.out] at hx
            obtain ⟨rfl, rfl⟩ := Prod.mk.inj hx
            clear hx hlt hk
            go_wp2
            go_ret2
            exact ⟨rfl, ho⟩

theorem plan_Right (v : Value) (p : PlanL) (w : World) (h : InPlan w v p) :
    Calls Tryz.prog 53 #[v] w fun e w' => e = .returned (errV (planFault p)) ∧ Only [] w w' := by
  have hc := plan_Check v p w h
  unfold planFault
  obtain ⟨⟨pi, pe⟩, hpc⟩ : ∃ x, planCheck p = x := ⟨_, rfl⟩
  rw [hpc] at hc ⊢
  replace hc : Calls _ _ _ _ fun e w' => e = .returned (.tuple #[.int .i64 pi, errV pe]) ∧ Only [] w w' := hc
  show Calls _ _ _ _ fun e w' => e = .returned (errV pe) ∧ Only [] w w'
  clear hpc h
  generalize errV pe = ev at *
  go_enter Tryz.func53, Tryz.ntmps53
  go_wp2_with fail
  refine hc.mono ?_
  rintro e w1 ⟨rfl, ho⟩
  clear hc
  go_wp2
  go_ret
  exact ⟨rfl, ho⟩

end Go.Proofs.YtocpmncedlenbaaGreatDoor

namespace Go.Proofs.YtocpmncedlenbaaGreatDoor
open Go.RowKit

theorem same_errV (n : Int) (w : World) (hg : Glob w) : Calls Tryz.prog 18 #[errV n, .int .i64 n] w fun e w' => e = .returned (.bool true) ∧ Only [] w w' := by
  by_cases h : n = 0
  · subst h
    rw [errV_zero]
    refine (same_nil 0 w true rfl).mono ?_
    rintro e w' ⟨he, rfl⟩
    exact ⟨he, Only.refl _ _⟩
  · rw [errV_ne h]
    exact same_err n n w hg true (by simp)

end Go.Proofs.YtocpmncedlenbaaGreatDoor
