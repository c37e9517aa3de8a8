/-
  Stays along a chain: they are right; one a step sooner is too early.
-/
import Derived.Test.YtadjcooemeaaeaaDoorP32JudgeChain
import Derived.Test.YtadjcooemeaaeaaDoorP33JudgeChain
namespace Go.Proofs.YtadjcooemeaaeaaDoor

/-- The stay of task i along a chain; that of e is d sooner. -/
def chS (work d : Int) (e i : Nat) : St := ⟨((i % 2 : Nat) : Int), (i : Int), (i : Int) * work - (if i = e then d else 0), ((i : Int) + 1) * work - (if i = e then d else 0)⟩
def chL (n : Nat) (work d : Int) (e : Nat) : List St := (List.range n).map (chS work d e)
theorem chL_len (n : Nat) (work d : Int) (e : Nat) : (chL n work d e).length = n := by simp [chL]
theorem chL_push (n : Nat) (work d : Int) (e : Nat) : chL n work d e ++ [chS work d e n] = chL (n + 1) work d e := by simp [chL, List.range_succ]
theorem stAt_ch {n : Nat} {work d : Int} {e i : Nat} (h : i < n) : stAt (chL n work d e) i = chS work d e i := by simp [stAt, chL, h]
theorem take_ch {n : Nat} {work d : Int} {e i : Nat} (h : i ≤ n) : (chL n work d e).take i = chL i work d e := by
  unfold chL
  rw [← List.map_take, List.take_range, Nat.min_eq_left h]

theorem ch_fault {n : Nat} {work d : Int} {e i : Nat} (hn : n ≤ 30) (h1 : 1 ≤ work) (h2 : work ≤ 20) (hd : d = 0 ∨ (d = 1 ∧ 1 ≤ e)) (hi : i < n) :
    stayFault (chainP n work) 2 ((chL n work d e).take i) (stAt (chL n work d e) i) = 0 := by
  have hx0 : 0 ≤ (i : Int) * work := Int.mul_nonneg (by omega) (by omega)
  have hx1 : (i : Int) * work ≤ 600 := by
    have := Int.mul_le_mul (show (i : Int) ≤ 30 by omega) h2 (by omega) (by omega)
    omega
  have hx2 : 1 ≤ i → work ≤ (i : Int) * work := fun h => by
    have := Int.mul_le_mul_of_nonneg_right (show (1 : Int) ≤ (i : Int) by omega) (show 0 ≤ work by omega)
    omega
  have hx3 : ((i : Int) + 1) * work = (i : Int) * work + work := by rw [Int.add_mul, Int.one_mul]
  have hdl : ∃ δ, (if i = e then d else 0) = δ ∧ (δ = 0 ∨ (δ = 1 ∧ 1 ≤ i)) := by
    refine ⟨_, rfl, ?_⟩
    split
    · omega
    · exact .inl rfl
  obtain ⟨δ, hδ, hδ2⟩ := hdl
  rw [stAt_ch hi, take_ch (by omega)]
  refine sfault_0 ?_ ?_ ?_
  · rw [chainP_len]
    unfold chS
    simp only
    rw [hδ, hx3]
    have := hx2
    omega
  · unfold chS
    simp only
    rw [hδ, hx3, Int.toNat_natCast, chain_wk n work i hi]
    omega
  · cases h9 : clashS (chL i work d e) (chS work d e i) with
    | false => rfl
    | true =>
      exfalso
      obtain ⟨k, hk, h⟩ := clashS_iff.1 h9
      rw [chL_len] at hk
      rw [stAt_ch hk] at h
      unfold clash1 overS chS at h
      simp only [Bool.or_eq_true, Bool.and_eq_true, decide_eq_true_eq] at h
      rw [hδ] at h
      have hk0 : 0 ≤ (if k = e then d else 0) := by split <;> omega
      rcases h with h | ⟨ha, _, hb⟩
      · omega
      · have hki : k + 2 ≤ i := by omega
        have h5 := Int.mul_le_mul_of_nonneg_right (show (k : Int) + 1 ≤ (i : Int) - 1 by omega) (show 0 ≤ work by omega)
        rw [Int.sub_mul, Int.one_mul] at h5
        omega

theorem ch_scan {n : Nat} {work d : Int} {e : Nat} (hn : n ≤ 30) (h1 : 1 ≤ work) (h2 : work ≤ 20) (hd : d = 0 ∨ (d = 1 ∧ 1 ≤ e)) :
    scanS (chainP n work) 2 (chL n work d e) (chL n work d e).length = 0 := by
  unfold scanS
  rw [firstE_all]
  intro i hi
  rw [chL_len] at hi
  exact ch_fault hn h1 h2 hd hi

theorem ch_stF {n : Nat} {work d : Int} {e : Nat} (hn : n ≤ 30) (h1 : 1 ≤ work) (h2 : work ≤ 20) (hd : d = 0 ∨ (d = 1 ∧ 1 ≤ e)) {i : Nat} (hi : i < n) :
    stF (chL n work d e) (i : Int) = chS work d e i := by
  have hp := scanS_pair (ch_scan hn h1 h2 hd) (Nat.le_refl _)
  rw [List.take_length] at hp
  have h := stayOf_mem hp (stAt_mem (k := i) (by rw [chL_len]; exact hi))
  rw [stAt_ch hi] at h
  replace h : stayOf (chL n work d e) (i : Int) = some (chS work d e i) := h
  unfold stF
  rw [h]
  rfl

theorem ch_zero {n : Nat} {work : Int} (hn : n ≤ 30) (h1 : 1 ≤ work) (h2 : work ≤ 20) : staysErrH (chainP n work) 2 (chL n work 0 0) = 0 := by
  have hok := chain_ok n work hn h1 h2
  have hs := ch_scan (e := 0) hn h1 h2 (.inl rfl)
  rw [staysH_early (hErr_ok hok (by omega) (by omega)) hs (by rw [chL_len, chainP_len]; omega), if_neg]
  intro he
  obtain ⟨i, hi, k, hk, hlt⟩ := (earlyS_iff hs (by rw [chL_len, chainP_len]; omega) (fun i k hk => hok.need i k hk)).1 he
  rw [chainP_len] at hi
  rw [chain_nd _ _ _ hi] at hk
  rcases i with _ | j
  · simp at hk
  · rw [if_neg (by omega)] at hk
    simp only [List.mem_singleton] at hk
    have hk2 : k = (j : Int) := by omega
    subst hk2
    rw [ch_stF hn h1 h2 (.inl rfl) hi, ch_stF hn h1 h2 (.inl rfl) (by omega)] at hlt
    unfold chS at hlt
    simp at hlt

theorem ch_six {n : Nat} {work : Int} {e : Nat} (hn : n ≤ 30) (h1 : 1 ≤ work) (h2 : work ≤ 20) (he : 1 ≤ e) (hen : e < n) : staysErrH (chainP n work) 2 (chL n work 1 e) = 6 := by
  have hok := chain_ok n work hn h1 h2
  have hd : (1 : Int) = 0 ∨ ((1 : Int) = 1 ∧ 1 ≤ e) := .inr ⟨rfl, he⟩
  have hs := ch_scan (e := e) hn h1 h2 hd
  rw [staysH_early (hErr_ok hok (by omega) (by omega)) hs (by rw [chL_len, chainP_len]; omega), if_pos]
  refine (earlyS_iff hs (by rw [chL_len, chainP_len]; omega) (fun i k hk => hok.need i k hk)).2 ⟨e, by rw [chainP_len]; exact hen, ?_⟩
  rw [chain_nd _ _ _ hen, if_neg (by omega)]
  obtain ⟨j, rfl⟩ : ∃ j, e = j + 1 := ⟨e - 1, by omega⟩
  refine ⟨(j : Int), by simp, ?_⟩
  rw [ch_stF hn h1 h2 hd hen, ch_stF hn h1 h2 hd (by omega)]
  unfold chS
  simp only
  rw [if_pos trivial, if_neg (by omega)]
  have : ((j + 1 : Nat) : Int) * work = ((j : Int) + 1) * work := by rw [Int.natCast_add]; rfl
  omega

theorem stAt_set (ss : List St) (e i : Nat) (s : St) (he : e < ss.length) : stAt (ss.set e s) i = if i = e then s else stAt ss i := by
  unfold stAt
  rw [List.getElem?_set]
  by_cases h : i = e
  · subst h; rw [if_pos rfl, if_pos he, if_pos rfl]; rfl
  · rw [if_neg (fun x => h x.symm), if_neg h]

/-- The list with e a step sooner. -/
theorem ch_set {n : Nat} {work : Int} {e : Nat} : (chL n work 0 0).set e ⟨(chS work 0 0 e).hand, (chS work 0 0 e).task, (e : Int) * work - 1, ((e : Int) + 1) * work - 1⟩ = chL n work 1 e := by
  apply List.ext_getElem
  · simp [chL_len]
  · intro i h1 h2
    rw [chL_len] at h2
    rw [List.getElem_set]
    by_cases h : e = i
    · subst h
      simp [chL, chS]
    · rw [if_neg h]
      have h' : ¬ i = e := fun x => h x.symm
      simp [chL, chS, h']

theorem StaysAt.set2 {w : World} {g n cap e : Nat} {ss : List St} (h : StaysAt w (.slice (some ⟨g, 0, none⟩) n cap) ss) (hn : ss.length = n) (he : e < n) (a b : Int) :
    StaysAt ((w.setCell ⟨g, e * 4 + 2, none⟩ (.int .i64 a)).setCell ⟨g, e * 4 + 3, none⟩ (.int .i64 b)) (.slice (some ⟨g, 0, none⟩) n cap) (ss.set e ⟨(stAt ss e).hand, (stAt ss e).task, a, b⟩) := by
  have hel : e < ss.length := by omega
  obtain ⟨_, _, h⟩ := h
  rcases h with ⟨h0, _⟩ | ⟨_, b', off', cap', hv, hc⟩
  · omega
  · injection hv with e1 _ _
    injection e1 with e1
    injection e1 with e1 e2 _
    subst e1 e2
    unfold StaysAt
    refine ⟨flatS_len _, flatS_one _, .inr ⟨by rw [List.length_set]; omega, g, 0, cap, by rw [List.length_set, hn], fun j y hy => ?_⟩⟩
    have hj : j < n * 4 := by
      rcases Nat.lt_or_ge j ((flatS (ss.set e ⟨(stAt ss e).hand, (stAt ss e).task, a, b⟩)).length) with hl2 | hl2
      · rw [flatS_len, List.length_set, hn] at hl2; exact hl2
      · rw [List.getElem?_eq_none hl2] at hy; cases hy
    have ej : j = j / 4 * 4 + j % 4 := by omega
    have hd : j / 4 < n := by omega
    have hm4 : j % 4 < 4 := by omega
    have hg := flatS_get (ss.set e ⟨(stAt ss e).hand, (stAt ss e).task, a, b⟩) (j / 4) (j % 4) (by rw [List.length_set]; omega) hm4
    have hg0 := flatS_get ss (j / 4) (j % 4) (by omega) hm4
    rw [← ej] at hg hg0
    rw [hg, stAt_set _ _ _ _ hel] at hy
    have hold : ∀ z, (stCells (stAt ss (j / 4)))[j % 4]? = some z → w.cell? ⟨g, 0 + j, none⟩ = some z := fun z hz => hc j z (by rw [hg0]; exact hz)
    rw [Nat.zero_add] at hold ⊢
    by_cases he4 : j / 4 = e
    · rw [if_pos he4] at hy
      have : j % 4 = 0 ∨ j % 4 = 1 ∨ j % 4 = 2 ∨ j % 4 = 3 := by omega
      rcases this with h4 | h4 | h4 | h4
      · rw [h4] at hy hold
        rw [World.cell?_setCell_other _ _ _ _ (fun x => by injection x with _ x _; omega), World.cell?_setCell_other _ _ _ _ (fun x => by injection x with _ x _; omega)]
        refine hold y ?_
        rw [he4]; exact hy
      · rw [h4] at hy hold
        rw [World.cell?_setCell_other _ _ _ _ (fun x => by injection x with _ x _; omega), World.cell?_setCell_other _ _ _ _ (fun x => by injection x with _ x _; omega)]
        refine hold y ?_
        rw [he4]; exact hy
      · rw [h4] at hy hold
        have ej2 : j = e * 4 + 2 := by omega
        rw [World.cell?_setCell_other _ _ _ _ (fun x => by injection x with _ x _; omega)]
        rw [← ej2, World.cell?_setCell_same _ _ _ (hold _ rfl)]
        exact hy
      · rw [h4] at hy hold
        have ej3 : j = e * 4 + 3 := by omega
        rw [← ej3]
        rw [World.cell?_setCell_same _ _ _ ((World.cell?_setCell_other _ _ _ _ (fun x => by injection x with _ x _; omega)).trans (hold _ rfl))]
        exact hy
    · rw [if_neg he4] at hy
      rw [World.cell?_setCell_other _ _ _ _ (fun x => by injection x with _ x _; omega), World.cell?_setCell_other _ _ _ _ (fun x => by injection x with _ x _; omega)]
      exact hold y hy

end Go.Proofs.YtadjcooemeaaeaaDoor
