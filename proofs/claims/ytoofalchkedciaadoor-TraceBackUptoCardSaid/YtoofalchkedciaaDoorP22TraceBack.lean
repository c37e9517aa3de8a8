/-
  Contract of plan.reaches: does a task need itself?
-/
import Derived.Test.YtoofalchkedciaaDoorP18TraceBack
import Derived.Test.YtoofalchkedciaaDoorP19TraceBack
import Derived.Test.YtoofalchkedciaaDoorP21TraceBack
namespace Go.Proofs.YtoofalchkedciaaDoor
open Go.RowKit Go.Deep

/-- What holds while the needs of needs are gone through. -/
structure ReachInv (p : PlanL) (i : Nat) (seen : Nat → Bool) (row : List Int) : Prop where
  rows : ∀ x ∈ row, 0 ≤ x ∧ x < p.length ∧ Reach p i x.toNat
  self : seen i = false
  start : ∀ k : Nat, (k : Int) ∈ ndOf p i → seen k = true ∨ (k : Int) ∈ row
  close : ∀ k m : Nat, seen k = true → (m : Int) ∈ ndOf p k → seen m = true ∨ (m : Int) ∈ row

/-- Needs are tasks, each named once, rising. -/
def NeedsOk (p : PlanL) : Prop := p.length ≤ 30 ∧ (∀ i, ∀ x ∈ ndOf p i, 0 ≤ x ∧ x < p.length) ∧ ∀ i, (ndOf p i).length ≤ 30

theorem needsOk {p : PlanL} (h : p.length ≤ 30) (hf : ∀ i, i < p.length → taskFault p.length (p[i]?.getD (0, [])) = 0) : NeedsOk p := by
  have hn : ∀ i, ∀ x ∈ ndOf p i, 0 ≤ x ∧ x < (p.length : Int) := by
    intro i x hx
    by_cases hi : i < p.length
    · exact (taskFault_zero (hf i hi)).2.2.1 x hx
    · rw [ndOf_none p i (by omega)] at hx; cases hx
  refine ⟨h, hn, fun i => ?_⟩
  by_cases hi : i < p.length
  · have := need_len (taskFault_zero (hf i hi)).2.2.2 (hn i)
    exact Nat.le_trans this h
  · rw [ndOf_none p i (by omega)]; simp
theorem PlanOk.needsOk {p : PlanL} (h : PlanOk p) : NeedsOk p := Go.Proofs.YtoofalchkedciaaDoor.needsOk h.len h.fault

theorem ReachInv.init {p : PlanL} (h : NeedsOk p) (i : Nat) : ReachInv p i (fun _ => false) (ndOf p i) :=
  ⟨fun x hx => by
    have := h.2.1 i x hx
    exact ⟨this.1, this.2, .one (by rw [Int.toNat_of_nonneg this.1]; exact hx)⟩, rfl, fun _ hk => .inr hk, fun _ _ hk => by cases hk⟩

def upB (f : Nat → Bool) (j : Nat) : Nat → Bool := fun i => if i = j then true else f i

theorem ReachInv.old {p : PlanL} {i k : Nat} {seen : Nat → Bool} {row : List Int} (h : ReachInv p i seen ((k : Int) :: row)) (hs : seen k = true) : ReachInv p i seen row := by
  have drop : ∀ m : Nat, (seen m = true ∨ (m : Int) ∈ (k : Int) :: row) → seen m = true ∨ (m : Int) ∈ row := by
    intro m hm
    rcases hm with hm | hm
    · exact .inl hm
    · rcases List.mem_cons.1 hm with e | hm
      · have : m = k := by omega
        subst this; exact .inl hs
      · exact .inr hm
  exact ⟨fun x hx => h.rows x (by simp [hx]), h.self, fun m hm => drop m (h.start m hm), fun a m ha hm => drop m (h.close a m ha hm)⟩

theorem ReachInv.new {p : PlanL} {i k : Nat} {seen : Nat → Bool} {row : List Int} (hn : NeedsOk p) (h : ReachInv p i seen ((k : Int) :: row)) (hk : k ≠ i) : ReachInv p i (upB seen k) (row ++ ndOf p k) := by
  have hkr : Reach p i k := by simpa using (h.rows k (by simp)).2.2
  have drop : ∀ m : Nat, (seen m = true ∨ (m : Int) ∈ (k : Int) :: row) → upB seen k m = true ∨ (m : Int) ∈ row ++ ndOf p k := by
    intro m hm
    unfold upB
    by_cases e : m = k
    · subst e; exact .inl (by simp)
    · rw [if_neg e]
      rcases hm with hm | hm
      · exact .inl hm
      · rcases List.mem_cons.1 hm with e2 | hm
        · exact absurd (by omega) e
        · exact .inr (by simp [hm])
  refine ⟨fun x hx => ?_, ?_, fun m hm => drop m (h.start m hm), fun a m ha hm => ?_⟩
  · rcases List.mem_append.1 hx with hx | hx
    · exact h.rows x (by simp [hx])
    · have := hn.2.1 k x hx
      exact ⟨this.1, this.2, hkr.more (by rw [Int.toNat_of_nonneg this.1]; exact hx)⟩
  · unfold upB; rw [if_neg (Ne.symm hk)]; exact h.self
  · by_cases e : a = k
    · subst e; exact .inr (by simp [hm])
    · unfold upB at ha
      rw [if_neg e] at ha
      exact drop m (h.close a m ha hm)

theorem ReachInv.no {p : PlanL} {i : Nat} {seen : Nat → Bool} (h : ReachInv p i seen []) : ¬ Reach p i i := by
  have key : ∀ m, Reach p i m → seen m = true := by
    intro m hm
    induction hm with
    | one hk => simpa using h.start _ hk
    | more _ hk ih => simpa using h.close _ _ ih hk
  intro hr
  have := key i hr
  rw [h.self] at this
  cases this

theorem ReachInv.yes {p : PlanL} {i : Nat} {seen : Nat → Bool} {row : List Int} (h : ReachInv p i seen ((i : Int) :: row)) : Reach p i i := by
  simpa using (h.rows i (by simp)).2.2

/-- How many are not seen yet. -/
def unseen (n : Nat) (seen : Nat → Bool) : Nat := (List.range n).countP (fun k => !seen k)
theorem unseen_up {n k : Nat} {seen : Nat → Bool} (hk : k < n) (hs : seen k = false) : unseen n (upB seen k) < unseen n seen :=
  countP_lt _ _ _ (fun x _ hx => by
    unfold upB at hx
    by_cases e : x = k
    · simp [e] at hx
    · simpa [e] using hx) ⟨k, by simpa using hk, by simp [hs], by simp [upB]⟩
theorem unseen_le (n : Nat) (seen : Nat → Bool) : unseen n seen ≤ n := by
  unfold unseen
  have := List.countP_le_length (p := fun k => !seen k) (l := List.range n)
  simpa using this

open Classical in
set_option maxRecDepth 100000 in
set_option maxHeartbeats 2000000 in
theorem plan_reaches (v : Value) (p : PlanL) (i : Nat) (w : World) (h : InPlan w v p) (hi : i < p.length) (hn : NeedsOk p) :
    Calls Tryd.prog 24 #[v, .int .i64 i] w fun e w' => e = .returned (.bool (decide (Reach p i i))) ∧ Only [] w w' := by
  have HN := Lib.hid hn
  have HP := Lib.hid h
  obtain ⟨a, cap, rfl, hc1, hc2, ht⟩ := h.task
  obtain ⟨n, hnl⟩ : ∃ n, p.length = n := ⟨_, rfl⟩
  have HL := Lib.hid hnl
  have hn30 : n ≤ 30 := by rw [← hnl]; exact hn.1
  have hmk := make_bools n (by omega)
  have hMB := made_bools w n
  have ho1 := (Only.refl [] w).alloc (.cells (madeCells #[.bool false] n) 4)
  obtain ⟨b, off, u, rfl, c0, c1, hr⟩ := ht i hi
  have d1 := (ho1.cell (p := ⟨b, _, none⟩) (cell_lt c1) (by simp)).trans c1
  have hr1 := hr.same ho1
  rw [hnl] at hi hc1 HP ⊢
  clear h hn hnl ht c0 c1 hr
  obtain ⟨ua, ucap, rfl, _⟩ := hr1.opt
  have hcl := clone_ints _ _ _ hr1 (by have := HN.out.2.2 i; omega)
  go_enter Tryd.func24, Tryd.ntmps24
  go_wp2_with fail
  refine hcl.mono ?_
  rintro e w1 ⟨v1, rfl, hI1, ho2⟩
  clear hcl hr1 d1 hmk
  have hoo := ho1.trans ho2 (by simp)
  have hB1 := hMB.only ho2 (by simp)
  have hs1 := ho1.size
  clear hMB ho1
  have hA1 : ∀ x ∈ own v1, x ≠ w.heap.size := fun x hx e => by
    have := (hI1.own_lt x hx).1
    simp at this hs1; omega
  have hw1 : ∀ x ∈ own v1, w.heap.size ≤ x := fun x hx => by
    have := (hI1.own_lt x hx).1
    simp at this; omega
  have hinit := ReachInv.init HN.out i
  have hm0 : unseen n (fun _ => false) * 31 + (ndOf p i).length ≤ 1000 := by
    have := unseen_le n (fun _ => false)
    have := HN.out.2.2 i
    omega
  go_wp2_with fail
  go_loopg [6] (unseen n (fun _ => false) * 31 + (ndOf p i).length) (fun k vr wr => ∃ seen row, k = unseen n seen * 31 + row.length ∧ k ≤ 1000 ∧ ReachInv p i seen row ∧ Bools wr w.heap.size n seen ∧ Sl wr vr row ∧ (∀ x ∈ own vr, x ≠ w.heap.size) ∧ (∀ x ∈ own vr, w.heap.size ≤ x) ∧ Only [] w wr)
  case atStart => exact ⟨_, _, rfl, hm0, hinit, hB1, hI1.sl, hA1, hw1, hoo⟩
  case round =>
    obtain ⟨seen, row, rfl, hk, hinv, hB, hS, hA, hlo, ho⟩ := hrel
    clear hB1 hI1 hoo hinit hA1 hw1
    have HINV := Lib.hid hinv
    have hAl := cell_lt (hB i hi).1
    rcases row with _ | ⟨x, row⟩
    · have hno := Lib.hid (hinv.no)
      obtain ⟨va, vc, rfl, _⟩ := hS.opt
      clear hinv hB hS
      go_wp2
      go_ret
      exact ⟨by rw [decide_eq_false hno.out]; rfl, ho⟩
    · obtain ⟨hx0, hxn, _⟩ := hinv.rows x (by simp)
      obtain ⟨k, rfl⟩ := Int.eq_ofNat_of_zero_le hx0
      rw [HL.out] at hxn
      have hkn : k < n := by omega
      have hSS := hS
      rcases hS with ⟨_, hS⟩ | ⟨g, off, vcap, rfl, s1, s2, s3, s4, s5⟩
      · cases hS
      · have cx := s4 0 (by simp)
        replace cx : wr.cell? ⟨g, off, none⟩ = some (.int .i64 (k : Int)) := by simpa [nth] using cx
        obtain ⟨q, hq⟩ : ∃ q, row.length = q := ⟨_, rfl⟩
        have hq2 : (((k : Int)) :: row).length = q + 1 := by simp [hq]
        rw [hq2] at s1 hk
        have hoff : off + 0 = off := rfl
        clear hinv s4 s5 hx0 hxn
        by_cases hki : k = i
        · subst hki
          have hyes := Lib.hid (HINV.out.yes)
          clear hB hSS
          go_wp2
          go_ret
          exact ⟨by rw [decide_eq_true hyes.out]; rfl, ho⟩
        · have hne : (((k : Nat) : Int) == ((i : Nat) : Int)) = false := by simp; omega
          have HK := Lib.hid hki
          obtain ⟨sk, hsk⟩ : ∃ s, seen k = s := ⟨_, rfl⟩
          have cs := (hB k hkn).1
          have fs := (hB k hkn).2
          rw [hsk] at cs
          clear hki
          cases sk
          · have hinv2 := Lib.hid (HINV.out.new HN.out (by exact HK.out))
            have hcnt := unseen_up hkn hsk
            have ho' := ho.setCell (p := ⟨w.heap.size, k, none⟩) (fun hlt => by simp at hlt) (.bool true)
            have hset : Only [w.heap.size] wr (wr.setCell ⟨w.heap.size, k, none⟩ (.bool true)) := (Only.refl _ _).setCell (by simp) _
            obtain ⟨na, nc, _, cn, hrd⟩ := (HP.out.same ho').at k (by rw [HL.out]; exact hkn)
            have hlen3 := HN.out.2.2 k
            have hB2 := hB.set k true
            have hS2 := hSS.only hset (fun x hx hx2 => hA x hx (by simpa using hx2))
            clear hB hSS hset hsk
            obtain ⟨m, hm⟩ : ∃ m, (ndOf p k).length = m := ⟨_, rfl⟩
            have HM := Lib.hid hm
            rw [hm] at cn hrd hlen3
            clear hm
            have hgA : w.heap.size ∉ own (.slice (some ⟨g, off, none⟩) ((k : Int) :: row).length vcap) := fun hx => hA _ hx rfl
            have HQ := Lib.hid hq
            have HQ2 := Lib.hid hq2
            obtain ⟨z, hz⟩ : ∃ z, q + m = z := ⟨_, rfl⟩
            have HZ : Hid ((row ++ ndOf p k).length = z ∧ unseen n (upB seen k) * 31 + z < unseen n seen * 31 + (q + 1) ∧ m ≤ 30) := by
              show _ ∧ _
              refine ⟨by rw [List.length_append, HQ.out, HM.out, hz], by omega, hlen3⟩
            clear hq hq2 hcnt hlen3 hz
            go_wp2_with (at_builtin; refine wpList_append_sl_ne rfl (.tmp 36) (.tmp 41) rfl _ _ _ _ _ (z + 1) hS2 hrd (by rw [HQ2.out, HM.out]; have := HZ.out.2.2; omega) (by simp) (by rw [List.cons_append, List.length_cons, HZ.out.1]) rfl rfl (Only.refl _ _) ?_; intro g4 off4 cap4 w' hII s6 s7 hO hK; by_cases hcap : cap4 = 1)
            all_goals
              have hB3 := Lib.hid (hB2.only hO hgA)
              have hoo := ho'.trans hO (fun x hx hl => by have := hlo x hx; omega)
              have hA' : Hid (∀ x ∈ own (.slice (some ⟨g4, off4, none⟩) (z + 1) cap4), x ≠ w.heap.size ∧ w.heap.size ≤ x) := by
                show ∀ x ∈ _, _
                intro x hx
                rcases hK x hx with h | h
                · exact ⟨hA x h, hlo x h⟩
                · have h2 := ho'.size
                  have h3 : (wr.setCell ⟨w.heap.size, k, none⟩ (.bool true)).heap.size = wr.heap.size := by simp [World.setCell]
                  omega
              clear hB2 hS2 hrd cn hO hK ho'
            · subst hcap
              obtain ⟨he, ht1⟩ := hII.tail1
              replace he : row ++ ndOf p k = [] := he
              have HE := Lib.hid he
              have hz0 : z = 0 := by rw [← HZ.out.1, he]; rfl
              subst hz0
              go_roundg (unseen n (upB seen k) * 31 + 0)
              case rel => exact ⟨upB seen k, [], rfl, by have := HZ.out.2; omega, by rw [← HE.out]; exact hinv2.out, hB3.out, ht1, fun x hx => (hA'.out x hx).1, fun x hx => (hA'.out x hx).2, hoo⟩
              case measure => have := HZ.out.2; simp only [HQ.out]; omega
            · have ht1 := hII.tail z HZ.out.1.symm hcap
              go_roundg (unseen n (upB seen k) * 31 + z)
              case rel => exact ⟨upB seen k, row ++ ndOf p k, by rw [HZ.out.1], by have := HZ.out.2; omega, hinv2.out, hB3.out, ht1, fun x hx => (hA'.out x hx).1, fun x hx => (hA'.out x hx).2, hoo⟩
              case measure => have := HZ.out.2; simp only [HQ.out]; omega
          · have hinv2 := Lib.hid (HINV.out.old hsk)
            have hB' := Lib.hid hB
            clear hB hsk fs
            by_cases hcap : vcap = 1
            · subst hcap
              obtain ⟨rfl, ht1⟩ := hSS.tail1
              clear hSS
              go_wp2
              go_roundg (unseen n seen * 31)
              case rel => exact ⟨seen, [], by simp, by omega, hinv2.out, hB'.out, ht1, hA, hlo, ho⟩
              case measure => simp
            · have ht1 := hSS.tail q hq.symm hcap
              clear hSS
              go_wp2
              go_roundg (unseen n seen * 31 + q)
              case rel => exact ⟨seen, row, by rw [hq], by omega, hinv2.out, hB'.out, ht1, hA, hlo, ho⟩
              case measure => simp

end Go.Proofs.YtoofalchkedciaaDoor
