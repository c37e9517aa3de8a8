/-
  Contract of yardref2.Ops.
  Contract of yardref1.In.
  The first fault of a row of tests. No program is named here.
  Contract of plan.AfterOf.
  An array of ints in memory, by its numbers; make([]int, n) as one.
-/
import Derived.Test.YtmopbimineoogaaDoorP27CellsTell
import Derived.Test.YtmopbimineoogaaDoorP16CellsTell
import Derived.Test.YtmopbimineoogaaDoorP4CellsTell
import Derived.Test.YtmopbimineoogaaDoorP1CellsTell
import Derived.Test.YtmopbimineoogaaDoorP17CellsTell
import Derived.Test.YtmopbimineoogaaDoorP14CellsTell
namespace Go.Proofs.YtmopbimineoogaaDoor
open Go.RowKit Go.Deep

set_option maxRecDepth 100000 in
set_option maxHeartbeats 4000000 in
theorem ref_Ops (v u : Value) (p : PlanL) (ops : List Opn) (w : World) (h : InPlan w v p) (hu : OpsAt w u ops) (hlen : ops.length ≤ 9223372036854775807) :
    Calls Tryd.prog 18 #[v, u] w fun e w' => e = .returned (.int .i64 (allFault p ops)) ∧ Only [] w w' := by
  have hr := ref_Right v p w h
  obtain ⟨pa, pc, rfl, _⟩ := h.task
  obtain ⟨ua, uc, rfl, hua⟩ := hu.opt
  obtain ⟨n, hn⟩ : ∃ n, p.length = n := ⟨_, rfl⟩
  obtain ⟨m, hm⟩ : ∃ m, ops.length = m := ⟨_, rfl⟩
  have HN := Lib.hid hn
  have HM := Lib.hid hm
  obtain ⟨F, hF⟩ : ∃ F, allFault p ops = F := ⟨_, rfl⟩
  have HF := Lib.hid hF
  rw [hF]
  by_cases hp : planFault p = 0
  · have hok := (planOk_iff p).2 hp
    have h30 := hok.len
    rw [hp] at hr
    by_cases hmn : m = n
    · have HUA := Lib.hid hua
      have hbad : Hid (∀ i, i < m → ¬ opOk (opAt ops i) → F = 1) := fun i hi hb => by
        rw [← HF.out]
        unfold allFault opsFault
        rw [if_neg (by simp [hp]), if_neg (by simp [hm, hn, hmn]), if_neg]
        exact fun h => hb (h _ (opAt_mem (by rw [hm]; exact hi)))
      have hgood : Hid ((∀ i, i < m → opOk (opAt ops i)) → F = 0) := fun hb => by
        rw [← HF.out]
        refine allFault_ok hok (by rw [hm, hn, hmn]) fun o ho => ?_
        obtain ⟨i, hi, rfl⟩ := List.getElem_of_mem ho
        have := hb i (by rw [← hm]; exact hi)
        rwa [show opAt ops i = ops[i] by simp [opAt, hi]] at this
      rw [hn] at hr h30 ⊢
      rw [hm] at HUA hlen ⊢
      clear h hu hua hn hm hF hp hok
      subst hmn
      go_enter Tryd.func18, Tryd.ntmps18
      go_wp2_with fail
      refine hr.mono ?_
      rintro e w1 ⟨rfl, ho1⟩
      clear hr
      go_wp2_with fail
      go_loopw [5, 6] (fun ve vi wr => ∃ (i : Nat) (x : Int), i ≤ m ∧ vi = .int .i64 i ∧ ve = .int .i64 x ∧ ((x = 0 ∧ ∀ j, j < i → opOk (opAt ops j)) ∨ (x = 1 ∧ F = 1)) ∧ Only [] w wr) (fun _ vi _ => m - (intOf vi).toNat)
      case atStart => exact ⟨0, 0, Nat.zero_le _, rfl, rfl, .inl ⟨rfl, fun j hj => by omega⟩, ho1⟩
      case round =>
        obtain ⟨wo, rfl⟩ : ∃ wo : World, wo = wr := ⟨_, rfl⟩
        obtain ⟨i, x, hi, rfl, rfl, hx, ho⟩ := hrel
        rcases hx with ⟨rfl, hg⟩ | ⟨rfl, hf⟩
        · have HG := Lib.hid hg
          clear hg
          by_cases him : i < m
          · obtain ⟨b, off, rfl, k0, k1⟩ := HUA.out i him
            have c0 := (ho.cell (p := ⟨b, _, none⟩) (cell_lt k0) (by simp)).trans k0
            have c1 := (ho.cell (p := ⟨b, _, none⟩) (cell_lt k1) (by simp)).trans k1
            have hop := ref_Op (opAt ops i) wo
            have hb1 := Lib.hid (hbad.out i him)
            have hg1 : Hid (opOk (opAt ops i) → ∀ j, j < i + 1 → opOk (opAt ops j)) := fun h j hj => by
              by_cases e : j = i
              · subst e; exact h
              · exact HG.out j (by omega)
            obtain ⟨op, hopx⟩ : ∃ op, opAt ops i = op := ⟨_, rfl⟩
            rw [hopx] at c0 c1 hop hb1 hg1
            clear hopx k0 k1
            have hcs : Hid ((opFault op = 0 ∧ ∀ j, j < i + 1 → opOk (opAt ops j)) ∨ (opFault op = 1 ∧ F = 1)) := by
              show _ ∨ _
              unfold opFault
              by_cases hk : opOk op
              · left; rw [if_pos hk]; exact ⟨rfl, hg1.out hk⟩
              · right; rw [if_neg hk]; exact ⟨rfl, hb1.out hk⟩
            obtain ⟨of, hof⟩ : ∃ of, opFault op = of := ⟨_, rfl⟩
            rw [hof] at hop hcs
            obtain ⟨wh, nn⟩ := op
            simp only [opV] at hop c0 c1
            clear hof hb1 hg1
            go_wp2_with fail
            refine hop.mono ?_
            rintro e w9 ⟨rfl, ho9⟩
            have ho9 := Lib.hid (ho.trans ho9 (by simp))
            clear hop
            go_wp2
            go_roundw
            case rel => exact ⟨i + 1, of, by omega, by go_num, rfl, hcs.out, ho9.out⟩
            case measure => (simp [intOf]; try omega)
          · obtain rfl : i = m := by omega
            have hz : Hid (F = 0) := hgood.out HG.out
            go_wp2
            go_ret
            exact ⟨by rw [hz.out]; rfl, ho⟩
        · have HFF := Lib.hid hf
          clear hf
          by_cases him : i < m
          · go_wp2
            go_ret
            exact ⟨by rw [HFF.out]; rfl, ho⟩
          · go_wp2
            go_ret
            exact ⟨by rw [HFF.out]; rfl, ho⟩
    · have h3 : Hid (F = 3) := by
        show _ = _
        rw [← HF.out]
        unfold allFault
        rw [if_neg (by simp [hp]), if_pos (by rw [hm, hn]; exact hmn)]
      rw [hn] at hr h30 ⊢
      rw [hm] at hlen ⊢
      have hne : ((m : Int) == (n : Int)) = false := beq_eq_false_iff_ne.2 (by omega)
      clear h hu hua hn hm hF hp hok hmn
      go_enter Tryd.func18, Tryd.ntmps18
      go_wp2_with fail
      refine hr.mono ?_
      rintro e w1 ⟨rfl, ho1⟩
      clear hr
      go_wp2_with fail
      go_loopw [5, 6] (fun ve vi wr => vi = .int .i64 0 ∧ ve = .int .i64 3 ∧ Only [] w wr) (fun _ _ _ => 0)
      case atStart => exact ⟨rfl, rfl, ho1⟩
      case round =>
        obtain ⟨rfl, rfl, ho⟩ := hrel
        go_wp2
        all_goals
          go_ret
          exact ⟨by rw [h3.out]; rfl, ho⟩
  · have h3 : Hid (F = planFault p) := by
      show _ = _
      rw [← HF.out]
      unfold allFault
      rw [if_pos hp]
    rw [hn] at hr ⊢
    rw [hm] at hlen ⊢
    obtain ⟨f, hf⟩ : ∃ f, planFault p = f := ⟨_, rfl⟩
    rw [hf] at hr h3 hp
    have hf0 : (f == 0) = false := by simpa using hp
    clear h hu hua hn hm hF hp hf
    go_enter Tryd.func18, Tryd.ntmps18
    go_wp2_with fail
    refine hr.mono ?_
    rintro e w1 ⟨rfl, ho1⟩
    clear hr
    go_wp2_with fail
    go_loopw [5, 6] (fun ve vi wr => vi = .int .i64 0 ∧ ve = .int .i64 f ∧ Only [] w wr) (fun _ _ _ => 0)
    case atStart => exact ⟨rfl, rfl, ho1⟩
    case round =>
      obtain ⟨rfl, rfl, ho⟩ := hrel
      go_wp2
      all_goals
        go_ret
        exact ⟨by rw [h3.out]; rfl, ho⟩

end Go.Proofs.YtmopbimineoogaaDoor

namespace Go.Proofs.YtmopbimineoogaaDoor
open Go.RowKit

set_option maxHeartbeats 400000 in
theorem ref_in (v : Value) (l : List Int) (x : Int) (w : World) (h : Reads w v l) (hl : l.length ≤ 1000000000) (r : Bool) (hr : decide (x ∈ l) = r) :
    Calls Tryd.prog 29 #[v, .int .i64 x] w fun e w' => e = .returned (.bool r) ∧ w = w' := by
  obtain ⟨a, c, rfl, ha⟩ := h.opt
  obtain ⟨n, hn⟩ : ∃ n, l.length = n := ⟨_, rfl⟩
  have HN := Lib.hid hn
  have HR := Lib.hid hr
  rw [hn] at ha hl ⊢
  clear h hn hr
  go_enter Tryd.func29, Tryd.ntmps29
  go_wp2_with fail
  go_loopw [5] (fun vi wr => ∃ i : Nat, i ≤ n ∧ vi = .int .i64 i ∧ (∀ j, j < i → nth l j ≠ x) ∧ w = wr) (fun vi _ => n - (intOf vi).toNat)
  case atStart => exact ⟨0, Nat.zero_le _, rfl, fun j hj => by omega, rfl⟩
  case round =>
    obtain ⟨i, hi, rfl, hno, rfl⟩ := hrel
    have HNO := Lib.hid hno
    clear hno
    by_cases hin : i < n
    · obtain ⟨b, off, rfl, k0⟩ := ha i hin
      obtain ⟨z, hz⟩ : ∃ z, nth l i = z := ⟨_, rfl⟩
      have HZ := Lib.hid hz
      rw [hz] at k0
      clear ha hz
      by_cases he : z = x
      · have hq : (z == x) = true := by simpa using he
        have hres : Hid (r = true) := by
          show _ = _
          rw [← HR.out, decide_eq_true_eq]
          exact mem_nth.2 ⟨i, by rw [HN.out]; exact hin, by rw [HZ.out]; exact he⟩
        clear he
        go_wp2
        go_ret
        exact ⟨by rw [hres.out]; rfl, rfl⟩
      · have hq : (z == x) = false := by simpa using he
        have HE := Lib.hid he
        clear he
        go_wp2
        go_roundw
        case rel =>
          refine ⟨i + 1, by omega, by go_num, fun j hj => ?_, by trivial⟩
          by_cases e : j = i
          · subst e; rw [HZ.out]; exact HE.out
          · exact HNO.out j (by omega)
        case measure => (simp [intOf]; try omega)
    · obtain rfl : n = i := by omega
      have hres : Hid (r = false) := by
        show _ = _
        rw [← HR.out, decide_eq_false_iff_not]
        intro hm
        obtain ⟨j, hj, e⟩ := mem_nth.1 hm
        exact HNO.out j (by rw [← HN.out]; exact hj) e
      clear ha
      go_wp2
      go_ret
      exact ⟨by rw [hres.out]; rfl, rfl⟩

end Go.Proofs.YtmopbimineoogaaDoor

namespace Go.Proofs.YtmopbimineoogaaDoor

/-- The first fault among the first k. -/
def firstE (F : Nat → Int) : Nat → Int
  | 0 => 0
  | k + 1 => if firstE F k = 0 then F k else firstE F k

theorem firstE_zero (F : Nat → Int) : firstE F 0 = 0 := rfl
theorem firstE_succ (F : Nat → Int) (k : Nat) : firstE F (k + 1) = if firstE F k = 0 then F k else firstE F k := rfl
theorem firstE_step {F : Nat → Int} {k : Nat} (h : firstE F k = 0) : firstE F (k + 1) = F k := by rw [firstE_succ, if_pos h]
theorem firstE_stop {F : Nat → Int} {k m : Nat} (h : firstE F k ≠ 0) (hm : k ≤ m) : firstE F m = firstE F k := by
  induction m with
  | zero => obtain rfl : k = 0 := by omega
            rfl
  | succ m ih =>
    by_cases e : k = m + 1
    · subst e; rfl
    · have := ih (by omega)
      rw [firstE_succ, this, if_neg h]
theorem firstE_hit {F : Nat → Int} {k m : Nat} (h : firstE F k = 0) (h2 : F k ≠ 0) (hm : k < m) : firstE F m = F k := by
  rw [firstE_stop (k := k + 1) (by rw [firstE_step h]; exact h2) hm, firstE_step h]
theorem firstE_all {F : Nat → Int} {m : Nat} : firstE F m = 0 ↔ ∀ k, k < m → F k = 0 := by
  induction m with
  | zero => exact ⟨fun _ k hk => by omega, fun _ => rfl⟩
  | succ m ih =>
    constructor
    · intro h
      rw [firstE_succ] at h
      by_cases e : firstE F m = 0
      · rw [if_pos e] at h
        intro k hk
        by_cases e2 : k = m
        · subst e2; exact h
        · exact ih.1 e k (by omega)
      · rw [if_neg e] at h; exact absurd h e
    · intro h
      rw [firstE_step (ih.2 (fun k hk => h k (by omega)))]
      exact h m (by omega)
theorem firstE_before {F : Nat → Int} {k m : Nat} (h : firstE F m = 0) (hk : k ≤ m) : firstE F k = 0 := firstE_all.2 (fun j hj => firstE_all.1 h j (by omega))
theorem firstE_congr {F G : Nat → Int} {m : Nat} (h : ∀ k, k < m → F k = G k) : firstE F m = firstE G m := by
  induction m with
  | zero => rfl
  | succ m ih => rw [firstE_succ, firstE_succ, ih (fun k hk => h k (by omega)), h m (by omega)]
theorem firstE_mem {F : Nat → Int} {m : Nat} (h : firstE F m ≠ 0) : ∃ k, k < m ∧ F k = firstE F m ∧ firstE F k = 0 := by
  induction m with
  | zero => exact absurd rfl h
  | succ m ih =>
    rw [firstE_succ] at h ⊢
    by_cases e : firstE F m = 0
    · rw [if_pos e] at h ⊢; exact ⟨m, by omega, rfl, e⟩
    · rw [if_neg e] at h ⊢
      obtain ⟨k, hk, h1, h2⟩ := ih e
      exact ⟨k, by omega, h1, h2⟩

end Go.Proofs.YtmopbimineoogaaDoor

namespace Go.Proofs.YtmopbimineoogaaDoor
open Go.RowKit Go.Deep

/-- Who comes after a task, of the first k. -/
def afterK (p : PlanL) (i : Int) (k : Nat) : List Nat := (List.range k).filter (fun k => (ndOf p k).contains i)
theorem afterK_zero (p : PlanL) (i : Int) : afterK p i 0 = [] := rfl
theorem afterK_succ (p : PlanL) (i : Int) (k : Nat) : afterK p i (k + 1) = if (ndOf p k).contains i then afterK p i k ++ [k] else afterK p i k := by
  unfold afterK
  rw [List.range_succ, List.filter_append]
  cases h : (ndOf p k).contains i <;> simp only [List.filter, h] <;> simp
theorem afterK_all (p : PlanL) (i : Int) : afterK p i p.length = afterOf p i := rfl
theorem afterK_len (p : PlanL) (i : Int) (k : Nat) : (afterK p i k).length ≤ k := by
  have := List.length_filter_le (fun k => (ndOf p k).contains i) (List.range k)
  simpa [afterK] using this


end Go.Proofs.YtmopbimineoogaaDoor

namespace Go.Proofs.YtmopbimineoogaaDoor
open Go.RowKit Go.Deep

def Nums (w : World) (A N : Nat) (f : Nat → Int) : Prop := ∀ i, i < N → w.cell? ⟨A, i, none⟩ = some (.int .i64 (f i)) ∧ w.frozen? ⟨A, i, none⟩ = false

theorem Nums.only {w w' : World} {A N : Nat} {f : Nat → Int} {S : List Nat} (h : Nums w A N f) (ho : Only S w w') (hA : A ∉ S) : Nums w' A N f := fun i hi => by
  obtain ⟨h1, h2⟩ := h i hi
  have hl := cell_lt h1
  exact ⟨(ho.cell (p := ⟨A, i, none⟩) hl hA).trans h1, (ho.frozen (p := ⟨A, i, none⟩) hl hA).trans h2⟩

def updI (f : Nat → Int) (j : Nat) (x : Int) : Nat → Int := fun i => if i = j then x else f i

theorem Nums.set {w : World} {A N : Nat} {f : Nat → Int} (h : Nums w A N f) (j : Nat) (x : Int) :
    Nums (w.setCell ⟨A, j, none⟩ (.int .i64 x)) A N (updI f j x) := fun i hi => by
  obtain ⟨h1, h2⟩ := h i hi
  refine ⟨?_, by rw [World.frozen?_setCell]; exact h2⟩
  unfold updI
  by_cases e : i = j
  · subst e
    rw [World.cell?_setCell_same _ _ _ h1]
    simp
  · rw [World.cell?_setCell_other _ _ _ _ (fun he => e (congrArg Addr.off he).symm), h1]
    simp [e]

theorem Nums.congr {w : World} {A N : Nat} {f g : Nat → Int} (h : Nums w A N f) (e : ∀ i, i < N → f i = g i) : Nums w A N g := fun i hi => by
  rw [← e i hi]; exact h i hi

theorem made_nums (w : World) (n : Nat) : Nums (w.alloc (.cells (madeCells #[.int .i64 0] n) 3)) w.heap.size n (fun _ => 0) := fun i hi => by
  refine ⟨?_, World.frozen?_alloc_at _ _ _ _ rfl⟩
  rw [World.cell?_alloc_new]
  have e := made_list (.int .i64 0) n
  rw [← Array.getElem?_toList, e]
  simp [hi]

/-- The numbers as a list. -/
def numL (n : Nat) (f : Nat → Int) : List Int := (List.range n).map f
theorem numL_len (n : Nat) (f : Nat → Int) : (numL n f).length = n := by simp [numL]
theorem numL_nth (n : Nat) (f : Nat → Int) (i : Nat) (h : i < n) : nth (numL n f) i = f i := by simp [nth, numL, h]

theorem Nums.reads {w : World} {A N : Nat} {f : Nat → Int} (h : Nums w A N f) (hN : N ≤ 1000000) : Reads w (.slice (some ⟨A, 0, none⟩) N N) (numL N f) := by
  by_cases h0 : N = 0
  · subst h0; exact .inl ⟨rfl, .inr ⟨_, 0, rfl, by unfold maxLen; omega⟩⟩
  · refine .inr ⟨by rw [numL_len]; omega, A, 0, N, by rw [numL_len], by rw [numL_len]; exact Nat.le_refl _, by unfold maxLen; omega, fun i hi => ?_⟩
    rw [numL_len] at hi
    rw [Nat.zero_add, (h i hi).1, numL_nth _ _ _ hi]

end Go.Proofs.YtmopbimineoogaaDoor
