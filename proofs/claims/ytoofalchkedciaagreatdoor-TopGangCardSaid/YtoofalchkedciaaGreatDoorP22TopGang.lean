/-
  Contracts of (*join.Join).State, Ready, Done.
  Contracts of (*join.Join).Done.
-/
import Derived.Test.YtoofalchkedciaaGreatDoorP21TopGang
namespace Go.Proofs.YtoofalchkedciaaGreatDoor
open Go.RowKit Go.Deep

/-- How a task stands. -/
def stateOf (p : PlanL) (D : Nat → Bool) (i : Nat) : Int := if D i then 2 else if lackN p D i = 0 then 1 else 0


theorem readyK_succ (p : PlanL) (D : Nat → Bool) (k : Nat) : (List.range (k + 1)).filter (readyB p D) = if readyB p D k then (List.range k).filter (readyB p D) ++ [k] else (List.range k).filter (readyB p D) := by
  rw [List.range_succ, List.filter_append]
  cases h : readyB p D k <;> simp only [List.filter, h] <;> simp

set_option maxRecDepth 100000 in
set_option maxHeartbeats 4000000 in
theorem Join.ready (S : List Nat) (FP : Nat → Prop) (J : Nat) (p : PlanL) (D : Nat → Bool) (w : World) (h : JoinIs w S FP J p D) :
    Calls Tryz.prog 90 #[.pointer (some ⟨J, 0, none⟩)] w fun e w' => ∃ v, e = .returned v ∧ Ints w' w.heap.size v (natL (readyL p D)) ∧ Only [] w w' := by
  obtain ⟨pv, lv, A, h, _⟩ := h
  have hc := h.cells
  obtain ⟨n, hn⟩ : ∃ n, p.length = n := ⟨_, rfl⟩
  have HL := Lib.hid hn
  have h30 := h.ok.len
  have HB := Lib.hid h.done
  have HI := Lib.hid h.lack
  obtain ⟨la, lc, rfl, hcell⟩ := h.lack.opt
  rw [numL_len, hn] at hc hcell
  rw [hn] at HB h30
  have c1 := hc.cell 1 _ rfl
  have HC := Lib.hid hc
  have HCELL := Lib.hid hcell
  clear h hc hn hcell
  go_enter Tryz.func90, Tryz.ntmps90
  go_wp2_with fail
  go_loopw [3, 11] (fun vo vi wr => ∃ k : Nat, k ≤ n ∧ vi = .int .i64 k ∧ Ints wr w.heap.size vo (natL ((List.range k).filter (readyB p D))) ∧ Only [] w wr) (fun _ vi _ => n - (intOf vi).toNat)
  case atStart => exact ⟨0, Nat.zero_le _, rfl, Ints.nil _ _, Only.refl _ _⟩
  case round =>
    obtain ⟨wo, rfl⟩ : ∃ wo : World, wo = wr := ⟨_, rfl⟩
    obtain ⟨k, hk, rfl, hI, ho⟩ := hrel
    have hsz := ho.size
    by_cases hkn : k < n
    · obtain ⟨g, rfl, cl⟩ := HCELL.out k hkn
      rw [numL_nth _ _ _ hkn] at cl
      have cl2 := (ho.cell (p := ⟨g, k, none⟩) (cell_lt cl) (by simp)).trans cl
      have cb := ((HB.out.only ho (by simp)) k hkn).1
      have c2 := ((HC.out.only ho (by simp)).cell 2 _ rfl)
      have hsu := readyK_succ p D k
      rw [ready_lack] at hsu
      have HSU := Lib.hid hsu
      unfold lackOf at cl2
      generalize lackN p D k = l at *
      generalize D k = d at *
      obtain ⟨q, hq⟩ : ∃ q, (natL ((List.range k).filter (readyB p D))).length = q := ⟨_, rfl⟩
      have hqk : q ≤ k := by rw [← hq, natL_len]; have := List.length_filter_le (readyB p D) (List.range k); simpa using this
      clear cl hsu
      by_cases hl : l = 0
      · subst hl
        cases d
        · have hst : Hid ((List.range (k + 1)).filter (readyB p D) = (List.range k).filter (readyB p D) ++ [k]) := by show _ = _; rw [HSU.out]; rfl
          go_wp2_with (at_builtin; refine wpList_push rfl (.tmp 28) (.tmp 30) rfl wo w.heap.size _ _ wo.heap.size k q hI hq (by omega) hsz rfl rfl ((Only.refl [] wo).alloc _) (World.cell?_alloc_at _ _ _ _ rfl) ?_; intro g2 cap3 w3 hI4 hO4 hK4)
          rw [← natL_push, ← hst.out] at hI4
          have ho4 := Lib.hid (ho.pushed hI (Nat.le_refl _) hO4)
          clear hI ho hO4
          go_roundw
          case rel => exact ⟨k + 1, by omega, by go_num, hI4, ho4.out⟩
          case measure => (simp [intOf]; try omega)
        · have hst : Hid ((List.range (k + 1)).filter (readyB p D) = (List.range k).filter (readyB p D)) := by show _ = _; rw [HSU.out]; rfl
          go_wp2
          go_roundw
          case rel => exact ⟨k + 1, by omega, by go_num, by rw [hst.out]; exact hI, ho⟩
          case measure => (simp [intOf]; try omega)
      · have hst : Hid ((List.range (k + 1)).filter (readyB p D) = (List.range k).filter (readyB p D)) := by show _ = _; rw [HSU.out, if_neg (by simp [hl])]
        have hz : ((l : Int) == 0) = false := by simp; omega
        clear hl
        go_wp2
        go_roundw
        case rel => exact ⟨k + 1, by omega, by go_num, by rw [hst.out]; exact hI, ho⟩
        case measure => (simp [intOf]; try omega)
    · obtain rfl : n = k := by omega
      obtain ⟨va, vc, rfl, _⟩ := hI.opt
      go_wp2
      go_ret
      exact ⟨_, rfl, by unfold readyL; rw [HL.out]; exact hI, ho⟩

end Go.Proofs.YtoofalchkedciaaGreatDoor

namespace Go.Proofs.YtoofalchkedciaaGreatDoor
open Go.RowKit Go.Deep

set_option maxRecDepth 100000 in
theorem Join.done_out (S : List Nat) (FP : Nat → Prop) (J : Nat) (p : PlanL) (D : Nat → Bool) (i : Int) (w : World) (h : JoinIs w S FP J p D) (hi : i < 0 ∨ (p.length : Int) ≤ i) :
    Calls Tryz.prog 138 #[.pointer (some ⟨J, 0, none⟩), .int .i64 i] w fun e w' => e = .returned (.tuple #[.slice none 0 0, .iface 98 (.int .i64 1)]) ∧ w = w' := by
  obtain ⟨pv, lv, A, h, _⟩ := h
  have hc := h.cells
  obtain ⟨a, cap, rfl, _, _, _⟩ := (h.plan.plan).task
  obtain ⟨n, hn⟩ : ∃ n, p.length = n := ⟨_, rfl⟩
  rw [hn] at hc hi
  have c0 := hc.cell 0 _ rfl
  clear h hc hn
  have hi2 : i < 0 ∨ (0 ≤ i ∧ (n : Int) ≤ i) := by omega
  clear hi
  rcases hi2 with hi | ⟨hi1, hi2⟩
  all_goals
    go_enter Tryz.func138, Tryz.ntmps138
    go_wp2
    go_ret2
    exact ⟨rfl, rfl⟩

set_option maxRecDepth 100000 in
theorem Join.done_no (S : List Nat) (FP : Nat → Prop) (J : Nat) (p : PlanL) (D : Nat → Bool) (i : Nat) (w : World) (h : JoinIs w S FP J p D) (hi : i < p.length) (hr : readyB p D i = false) :
    Calls Tryz.prog 138 #[.pointer (some ⟨J, 0, none⟩), .int .i64 i] w fun e w' => e = .returned (.tuple #[.slice none 0 0, .iface 98 (.int .i64 6)]) ∧ w = w' := by
  obtain ⟨pv, lv, A, h, _⟩ := h
  have hc := h.cells
  obtain ⟨a, cap, rfl, _, _, _⟩ := (h.plan.plan).task
  obtain ⟨n, hn⟩ : ∃ n, p.length = n := ⟨_, rfl⟩
  have hB := (h.done i hi).1
  have hL := h.lack
  obtain ⟨g, lc, rfl, _⟩ := hL.sized n (by rw [numL_len, hn]) (by omega)
  have cl := hL.cell i (by rw [numL_len]; exact hi)
  rw [numL_nth _ _ _ hi] at cl
  rw [hn] at hc hi
  have c0 := hc.cell 0 _ rfl
  have c1 := hc.cell 1 _ rfl
  have c2 := hc.cell 2 _ rfl
  rw [ready_lack] at hr
  unfold lackOf at cl
  generalize lackN p D i = l at *
  generalize D i = d at *
  clear h hc hL hn
  cases d
  · have hl : 0 < l := by simp at hr; omega
    clear hr
    go_enter Tryz.func138, Tryz.ntmps138
    go_wp2
    go_ret2
    exact ⟨rfl, rfl⟩
  · clear hr
    go_enter Tryz.func138, Tryz.ntmps138
    go_wp2
    go_ret2
    exact ⟨rfl, rfl⟩

theorem newK_succ (p : PlanL) (D : Nat → Bool) (i : Nat) (l : List Nat) (h : Nat) (hh : h < l.length) (k : Nat) (hk : l[h] = k) : (l.take (h + 1)).filter (fun k => lackN p (upB D i) k == 0) = if lackN p (upB D i) k = 0 then (l.take h).filter (fun k => lackN p (upB D i) k == 0) ++ [k] else (l.take h).filter (fun k => lackN p (upB D i) k == 0) := by
  rw [List.take_succ_eq_append_getElem hh, List.filter_append, hk]
  by_cases e : lackN p (upB D i) k = 0
  · rw [if_pos e]; simp [List.filter, e]
  · rw [if_neg e]
    have : (lackN p (upB D i) k == 0) = false := by simpa using e
    simp [List.filter, this]

set_option maxRecDepth 100000 in
set_option maxHeartbeats 8000000 in
theorem Join.done (S : List Nat) (FP : Nat → Prop) (J : Nat) (p : PlanL) (D : Nat → Bool) (i : Nat) (w : World) (h : JoinIs w S FP J p D) (hi : i < p.length) (hr : readyB p D i = true) :
    Calls Tryz.prog 138 #[.pointer (some ⟨J, 0, none⟩), .int .i64 i] w fun e w' => ∃ v, e = .returned (.tuple #[v, .nilIface]) ∧ Ints w' w.heap.size v (natL (newL p D i)) ∧ JoinIs w' S FP J p (upB D i) ∧ Only S w w' := by
  obtain ⟨pv, lv, A, h, rfl⟩ := h
  have HOK := Lib.hid h.ok
  have HR := Lib.hid h
  have hc := h.cells
  obtain ⟨a, cap, rfl, _, _, _⟩ := (h.plan.plan).task
  obtain ⟨n, hn⟩ : ∃ n, p.length = n := ⟨_, rfl⟩
  have HL := Lib.hid hn
  have h30 : n ≤ 30 := by rw [← hn]; exact h.ok.len
  have hB := (h.done i hi).1
  have fB := (h.done i hi).2
  have hL := h.lack
  obtain ⟨g, lc, rfl, _, hgl⟩ := hL.sized n (by rw [numL_len, hn]) (by omega)
  have cl := hL.cell i (by rw [numL_len]; exact hi)
  rw [numL_nth _ _ _ hi] at cl
  rw [ready_lack] at hr
  have hDi : D i = false := by simp at hr; exact hr.1
  have HDI := Lib.hid hDi
  have hli : lackN p D i = 0 := by simp at hr; exact hr.2
  have hle := left_up (p := p) D i hi hDi
  have hle2 := left_le p (upB D i)
  unfold lackOf at cl
  rw [hli] at cl
  rw [hDi] at hB
  rw [hn] at hc hi hle2
  have c0 := hc.cell 0 _ rfl
  have c1 := hc.cell 1 _ rfl
  have c2 := hc.cell 2 _ rfl
  have c3 := hc.cell 3 _ rfl
  have f3 := hc.free 3 _ rfl
  have hJA := h.n1
  have hJg : J ≠ g := fun e => h.n2 (by simp [own, Value.ownBlock, e])
  have hAg : A ≠ g := fun e => h.n3 (by simp [own, Value.ownBlock, e])
  obtain ⟨u, hu⟩ : ∃ u, leftN p (upB D i) = u := ⟨_, rfl⟩
  have HU := Lib.hid hu
  rw [hle, hu] at c3
  rw [hu] at hle2
  obtain ⟨W, hW⟩ : ∃ W, (w.setCell ⟨A, i, none⟩ (.bool true)).setCell ⟨J, 3, none⟩ (.int .i64 (u : Int)) = W := ⟨_, rfl⟩
  have HW := Lib.hid hW
  clear h hn hL hr hDi hli hle hu hW
  go_enter Tryz.func138, Tryz.ntmps138
  go_wp2_with fail
  rw [HW.out]
  have hWo1 : Only [A] w (w.setCell ⟨A, i, none⟩ (.bool true)) := (Only.refl _ _).setCell (by simp) _
  have hWo2 : Only [J] (w.setCell ⟨A, i, none⟩ (.bool true)) W := by rw [← HW.out]; exact (Only.refl _ _).setCell (by simp) _
  have hWo : Only [J, A] w W := (hWo1.mono (by simp)).trans hWo2 (by simp)
  have hCW : Cells W J [.slice a n cap, .slice (some ⟨g, 0, none⟩) n lc, .slice (some ⟨A, 0, none⟩) n n, .int .i64 (u : Int)] := by
    have := (hc.only hWo1 (by simpa using hJA)).set 3 (.int .i64 (u : Int))
    rw [HW.out] at this
    exact this
  have hBW : Bools W A p.length (upB D i) := (HR.out.done.set i true).only hWo2 (by simpa using Ne.symm hJA)
  have hPW : PlanAt W FP (.slice a n cap) p := by
    have := HR.out.plan.only hWo (fun x hF hx => by
      simp at hx
      rcases hx with rfl | rfl
      · exact HR.out.n4 hF
      · exact HR.out.n5 hF)
    rw [HL.out] at this
    exact this
  have hLW : Ints W 0 (.slice (some ⟨g, 0, none⟩) n lc) (numL n (lackMid p D i [])) := by
    have := HR.out.lack.only hWo (fun x hx hx2 => by
      have hx' : x = g := by simpa [Value.ownBlock] using hx.symm
      subst hx'
      simp at hx2
      rcases hx2 with h | h
      · exact hJg h.symm
      · exact hAg h.symm)
    rw [HL.out] at this
    rw [lackMid_nil]
    exact this
  have hgW := hWo.size
  clear hWo1 hWo2 c0 c1 c2 c3 f3 hB fB cl
  refine (plan_AfterOf _ p i W hPW.plan HOK.out).mono ?_
  rintro e w2 ⟨v2, rfl, hI2, ho2⟩
  have hal := afterOf_len p i
  have hand := afterOf_nodup p i
  have hmem : ∀ k ∈ afterOf p i, k < n ∧ (i : Int) ∈ ndOf p k := fun k hk => by have := afterOf_mem.1 hk; rw [HL.out] at this; exact this
  have HMEM := Lib.hid hmem
  have HND := Lib.hid hand
  obtain ⟨l, hl⟩ : ∃ l, afterOf p i = l := ⟨_, rfl⟩
  have HA := Lib.hid hl
  rw [hl] at hI2 hal HMEM HND
  obtain ⟨q, hq⟩ : ∃ q, l.length = q := ⟨_, rfl⟩
  have HQ := Lib.hid hq
  have hql : (natL l).length = q := by rw [natL_len, hq]
  rw [hq, HL.out] at hal
  have hCW2 := hCW.only ho2 (by simp)
  have hBW2 := hBW.only ho2 (by simp)
  have hPW2 := hPW.only ho2 (by simp)
  have hLW2 := hLW.only ho2 (by simp)
  have hsz2 := ho2.size
  have HB2 := Lib.hid (And.intro hBW2 hPW2)
  have HO2 : Hid (Only [J, A] w w2) := hWo.trans ho2 (by simp)
  obtain ⟨va, vc, rfl, hcell⟩ := hI2.opt
  rw [hql] at hcell
  have HCELL := Lib.hid hcell
  clear hl hq hmem hand hCW hBW hPW hLW hBW2 hPW2 ho2 hWo hcell
  go_wp2_with fail
  go_loopw [6, 59] (fun vo vi wr => ∃ h : Nat, h ≤ q ∧ vi = .int .i64 h ∧ Ints wr w2.heap.size vo (natL ((l.take h).filter (fun k => lackN p (upB D i) k == 0))) ∧ Ints wr 0 (.slice (some ⟨g, 0, none⟩) n lc) (numL n (lackMid p D i (l.take h))) ∧ Only [g] w2 wr) (fun _ vi _ => q - (intOf vi).toNat)
  case atStart => exact ⟨0, Nat.zero_le _, rfl, Ints.nil _ _, hLW2, Only.refl _ _⟩
  case round =>
    obtain ⟨wo, rfl⟩ : ∃ wo : World, wo = wr := ⟨_, rfl⟩
    obtain ⟨h, hh, rfl, hO, hLo, ho⟩ := hrel
    clear hLW2
    have hszo := ho.size
    by_cases hhq : h < q
    · have hhl : h < l.length := by rw [HQ.out]; exact hhq
      obtain ⟨g2, rfl, ck⟩ := HCELL.out h hhq
      rw [natL_nth l h hhl] at ck
      have hg2 := (hI2.own_lt g2 (by simp [own, Value.ownBlock])).1
      have ck2 := (ho.cell (p := ⟨g2, h, none⟩) (cell_lt ck) (by simp; omega)).trans ck
      obtain ⟨k, hk⟩ : ∃ k, l[h] = k := ⟨_, rfl⟩
      rw [hk] at ck2
      have hkm := HMEM.out k (by rw [← hk]; exact List.getElem_mem hhl)
      have hknot : k ∉ l.take h := fun hm => by
        obtain ⟨j, hj, e⟩ := List.getElem_of_mem hm
        rw [List.getElem_take] at e
        have hj' : j < h := by simp at hj; omega
        exact (List.pairwise_iff_getElem.1 HND.out) j h (by omega) hhl hj' (by rw [e, hk])
      obtain ⟨m1, m2, m3⟩ := lackMid_push p D i (l.take h) k hknot HDI.out HOK.out hkm.2
      have hns := newK_succ p D i l h hhl k hk
      have hts : l.take (h + 1) = l.take h ++ [k] := by rw [List.take_succ_eq_append_getElem hhl, hk]
      rw [← hts] at m3
      have hkn := hkm.1
      have cl := hLo.cell k (by rw [numL_len]; exact hkn)
      have fl := hLo.free k
      rw [numL_nth _ _ _ hkn, m1] at cl
      unfold lackOf at m2 m3 cl
      have hl30 := lack_le p HOK.out (upB D i) k
      obtain ⟨y, hy⟩ : ∃ y, lackN p (upB D i) k = y := ⟨_, rfl⟩
      rw [hy] at m2 m3 hns hl30
      have hy1 : ((lackN p D k : Nat) : Int) = (y : Int) + 1 := by omega
      rw [hy1] at cl
      have cJ := (hCW2.only ho (by simpa using hJg)).cell 1 _ rfl
      have HNS := Lib.hid hns
      have hset : Only [g] wo (wo.setCell ⟨g, k, none⟩ (.int .i64 (y : Int))) := (Only.refl _ _).setCell (by simp) _
      have hL3 := hLo.set k (y : Int)
      rw [numL_set _ _ _ _ hkn] at hL3
      rw [← m3] at hL3
      have cl3 := hL3.cell k (by rw [numL_len]; exact hkn)
      have hval3 : nth (numL n (lackMid p D i (l.take (h + 1)))) k = (y : Int) := by rw [numL_nth _ _ _ hkn, m3]; simp [updI]
      rw [hval3] at cl3
      have hO3 := hO.only hset (fun g9 h9 hx => by have := (hO.own_lt g9 (own_of h9)).1; simp at hx; omega)
      have ho3 : Only [g] w2 (wo.setCell ⟨g, k, none⟩ (.int .i64 (y : Int))) := ho.trans hset (by simp)
      have cJ3 := (hCW2.only ho3 (by simpa using hJg)).cell 1 _ rfl
      have hwr : IntKind.i64.wrap ((y : Int) + 1 - 1) = (y : Int) := by rw [IntWalk.i64_in _ (by omega)]; omega
      obtain ⟨z, hz⟩ : ∃ z, (natL ((l.take h).filter (fun k => lackN p (upB D i) k == 0))).length = z := ⟨_, rfl⟩
      have hzh : z ≤ h := by
        rw [← hz, natL_len]
        have := List.length_filter_le (fun k => lackN p (upB D i) k == 0) (l.take h)
        rw [List.length_take] at this
        omega
      have hsz3 := ho3.size
      clear m1 m2 m3 hns hts hy hy1 hval3 ck hk hkm hknot hLo hO ho hset
      by_cases hy0 : y = 0
      · subst hy0
        rw [if_pos rfl] at HNS
        have HL3 := Lib.hid hL3
        clear hL3
        go_wp2_with (at_builtin; refine wpList_push rfl (.tmp 80) (.tmp 82) rfl (wo.setCell ⟨g, k, none⟩ (.int .i64 ((0 : Nat) : Int))) w2.heap.size _ _ wo.heap.size k z hO3 hz (by omega) (by simpa [World.setCell] using hszo) rfl rfl ((Only.refl [] _).alloc _) (World.cell?_alloc_at _ _ _ _ (by simp [World.setCell])) ?_; intro g3 cap3 w3 hI4 hO4 hK4)
        rw [← natL_push, ← HNS.out] at hI4
        have hL4 := Lib.hid (HL3.out.only hO4 (fun g9 h9 hx => by
          have h1 := (hO3.own_lt _ hx).1
          have h2 : g9 = g := by simpa [Value.ownBlock] using h9.symm
          omega))
        have ho4 : Hid (Only [g] w2 w3) := ho3.trans hO4 (fun x hx hl => by have := (hO3.own_lt x hx).1; omega)
        clear hO3 ho3 hO4
        go_roundw
        case rel => exact ⟨h + 1, by omega, by go_num, hI4, hL4.out, ho4.out⟩
        case measure => (simp [intOf]; try omega)
      · rw [if_neg hy0] at HNS
        have hyz : ((y : Int) == 0) = false := by simp; omega
        clear hy0
        go_wp2
        go_roundw
        case rel => exact ⟨h + 1, by omega, by go_num, by rw [HNS.out]; exact hO3, hL3, ho3⟩
        case measure => (simp [intOf]; try omega)
    · obtain rfl : q = h := by omega
      have htk : l.take q = l := List.take_of_length_le (by rw [HQ.out]; exact Nat.le_refl _)
      rw [htk, ← HA.out] at hO hLo
      have hCw := hCW2.only ho (by simpa using hJg)
      have hfin : Hid (JoinRaw wo FP J (.slice a n cap) (.slice (some ⟨g, 0, none⟩) n lc) A p (upB D i)) := by
        obtain ⟨b2, p2⟩ := HB2.out
        have hR := HR.out
        refine ⟨?_, ?_, ?_, b2.only ho (by simpa using hAg), hJA, by simpa [own, Value.ownBlock] using hJg, by simpa [own, Value.ownBlock] using hAg, hR.n4, hR.n5, fun x hx => hR.n6 x (by simpa [own, Value.ownBlock] using hx), HOK.out⟩
        · rw [HU.out, HL.out]; exact hCw
        · exact p2.only ho (fun x hF hx => by simp at hx; subst hx; exact hR.n6 x (by simp [own, Value.ownBlock]) hF)
        · rw [HL.out, numL_congr n (lackOf p (upB D i)) (lackMid p D i (afterOf p i)) (fun j hj => (lackMid_all p D i HDI.out HOK.out j (by rw [HL.out]; exact hj)).symm)]
          exact hLo
      have hoo : Hid (Only [J, A, g] w wo) := (HO2.out.mono (by simp)).trans ho (by simp)
      have hsw := HO2.out.size
      obtain ⟨oa, oc, rfl, _⟩ := hO.opt
      have HOO := Lib.hid (hO.mono hsw)
      clear hCw hCW2 hO hLo ho
      go_wp2
      go_ret2
      refine ⟨_, rfl, HOO.out, ⟨_, _, _, hfin.out, ?_⟩, ?_⟩
      · simp [own, Value.ownBlock]
      · exact hoo.out.mono (by simp [own, Value.ownBlock])

end Go.Proofs.YtoofalchkedciaaGreatDoor
