/-
  Contracts of (*join.Join).State, Ready, Done.
  Contracts of (*join.Join).Done.
  Contract of (*join.Join).Left.
  What a gang's parts do, said of the gang.
-/
import Derived.Test.YtocpmncedlenbaaGreatDoorP26GangPlays
namespace Go.Proofs.YtocpmncedlenbaaGreatDoor
open Go.RowKit Go.Deep

/-- How a task stands. -/
def stateOf (p : PlanL) (D : Nat → Bool) (i : Nat) : Int := if D i then 2 else if lackN p D i = 0 then 1 else 0


theorem readyK_succ (p : PlanL) (D : Nat → Bool) (k : Nat) : (List.range (k + 1)).filter (readyB p D) = if readyB p D k then (List.range k).filter (readyB p D) ++ [k] else (List.range k).filter (readyB p D) := by
  rw [List.range_succ, List.filter_append]
  cases h : readyB p D k <;> simp only [List.filter, h] <;> simp

set_option maxRecDepth 100000 in
set_option maxHeartbeats 4000000 in
theorem Join.ready (S : List Nat) (FP : Nat → Prop) (J : Nat) (p : PlanL) (D : Nat → Bool) (w : World) (h : JoinIs w S FP J p D) :
    Calls Tryz.prog 72 #[.pointer (some ⟨J, 0, none⟩)] w fun e w' => ∃ v, e = .returned v ∧ Ints w' w.heap.size v (natL (readyL p D)) ∧ Only [] w w' := by
  obtain ⟨pv, lv, A, h, _⟩ := h
  have hc := h.cells
  obtain ⟨n, hn⟩ : ∃ n, p.length = n := ⟨_, rfl⟩
  have HL := Lib.hid hn
  have h30 := h.ok.len
  have HB := Lib.hid h.done
  have HI := Lib.hid h.lack
  obtain ⟨la, lc, rfl, hcell⟩ := h.lack.opt
  rw [numL_len, hn] at hc hcell
  rw [hn] at HB h30
  have c1 := hc.cell 1 _ rfl
  have HC := Lib.hid hc
  have HCELL := Lib.hid hcell
  clear h hc hn hcell
  go_enter Tryz.func72, Tryz.ntmps72
  go_wp2_with fail
  go_loopw [3, 11] (fun vo vi wr => ∃ k : Nat, k ≤ n ∧ vi = .int .i64 k ∧ Ints wr w.heap.size vo (natL ((List.range k).filter (readyB p D))) ∧ Only [] w wr) (fun _ vi _ => n - (intOf vi).toNat)
  case atStart => exact ⟨0, Nat.zero_le _, rfl, Ints.nil _ _, Only.refl _ _⟩
  case round =>
    obtain ⟨wo, rfl⟩ : ∃ wo : World, wo = wr := ⟨_, rfl⟩
    obtain ⟨k, hk, rfl, hI, ho⟩ := hrel
    have hsz := ho.size
    by_cases hkn : k < n
    · obtain ⟨g, rfl, cl⟩ := HCELL.out k hkn
      rw [numL_nth _ _ _ hkn] at cl
      have cl2 := (ho.cell (p := ⟨g, k, none⟩) (cell_lt cl) (by simp)).trans cl
      have cb := ((HB.out.only ho (by simp)) k hkn).1
      have c2 := ((HC.out.only ho (by simp)).cell 2 _ rfl)
      have hsu := readyK_succ p D k
      rw [ready_lack] at hsu
      have HSU := Lib.hid hsu
      unfold lackOf at cl2
      generalize lackN p D k = l at *
      generalize D k = d at *
      obtain ⟨q, hq⟩ : ∃ q, (natL ((List.range k).filter (readyB p D))).length = q := ⟨_, rfl⟩
      have hqk : q ≤ k := by rw [← hq, natL_len]; have := List.length_filter_le (readyB p D) (List.range k); simpa using this
      clear cl hsu
      by_cases hl : l = 0
      · subst hl
        cases d
        · have hst : Hid ((List.range (k + 1)).filter (readyB p D) = (List.range k).filter (readyB p D) ++ [k]) := by show _ = _; rw [HSU.out]; rfl
          go_wp2_with (at_builtin; refine wpList_push rfl (.tmp 28) (.tmp 30) rfl wo w.heap.size _ _ wo.heap.size k q hI hq (by omega) hsz rfl rfl ((Only.refl [] wo).alloc _) (World.cell?_alloc_at _ _ _ _ rfl) ?_; intro g2 cap3 w3 hI4 hO4 hK4)
          rw [← natL_push, ← hst.out] at hI4
          have ho4 := Lib.hid (ho.pushed hI (Nat.le_refl _) hO4)
          clear hI ho hO4
          go_roundw
          case rel => exact ⟨k + 1, by omega, by go_num, hI4, ho4.out⟩
          case measure => (simp [intOf]; try omega)
        · have hst : Hid ((List.range (k + 1)).filter (readyB p D) = (List.range k).filter (readyB p D)) := by show _ = _; rw [HSU.out]; rfl
          go_wp2
          go_roundw
          case rel => exact ⟨k + 1, by omega, by go_num, by rw [hst.out]; exact hI, ho⟩
          case measure => (simp [intOf]; try omega)
      · have hst : Hid ((List.range (k + 1)).filter (readyB p D) = (List.range k).filter (readyB p D)) := by show _ = _; rw [HSU.out, if_neg (by simp [hl])]
        have hz : ((l : Int) == 0) = false := by simp; omega
        clear hl
        go_wp2
        go_roundw
        case rel => exact ⟨k + 1, by omega, by go_num, by rw [hst.out]; exact hI, ho⟩
        case measure => (simp [intOf]; try omega)
    · obtain rfl : n = k := by omega
      obtain ⟨va, vc, rfl, _⟩ := hI.opt
      go_wp2
      go_ret
      exact ⟨_, rfl, by unfold readyL; rw [HL.out]; exact hI, ho⟩

end Go.Proofs.YtocpmncedlenbaaGreatDoor

namespace Go.Proofs.YtocpmncedlenbaaGreatDoor
open Go.RowKit Go.Deep

set_option maxRecDepth 100000 in
theorem Join.done_out (S : List Nat) (FP : Nat → Prop) (J : Nat) (p : PlanL) (D : Nat → Bool) (i : Int) (w : World) (h : JoinIs w S FP J p D) (hi : i < 0 ∨ (p.length : Int) ≤ i) :
    Calls Tryz.prog 136 #[.pointer (some ⟨J, 0, none⟩), .int .i64 i] w fun e w' => e = .returned (.tuple #[.slice none 0 0, .iface 99 (.int .i64 1)]) ∧ w = w' := by
  obtain ⟨pv, lv, A, h, _⟩ := h
  have hc := h.cells
  obtain ⟨a, cap, rfl, _, _, _⟩ := (h.plan.plan).task
  obtain ⟨n, hn⟩ : ∃ n, p.length = n := ⟨_, rfl⟩
  rw [hn] at hc hi
  have c0 := hc.cell 0 _ rfl
  clear h hc hn
  have hi2 : i < 0 ∨ (0 ≤ i ∧ (n : Int) ≤ i) := by omega
  clear hi
  rcases hi2 with hi | ⟨hi1, hi2⟩
  all_goals
    go_enter Tryz.func136, Tryz.ntmps136
    go_wp2
    go_ret2
    exact ⟨rfl, rfl⟩

set_option maxRecDepth 100000 in
theorem Join.done_no (S : List Nat) (FP : Nat → Prop) (J : Nat) (p : PlanL) (D : Nat → Bool) (i : Nat) (w : World) (h : JoinIs w S FP J p D) (hi : i < p.length) (hr : readyB p D i = false) :
    Calls Tryz.prog 136 #[.pointer (some ⟨J, 0, none⟩), .int .i64 i] w fun e w' => e = .returned (.tuple #[.slice none 0 0, .iface 99 (.int .i64 6)]) ∧ w = w' := by
  obtain ⟨pv, lv, A, h, _⟩ := h
  have hc := h.cells
  obtain ⟨a, cap, rfl, _, _, _⟩ := (h.plan.plan).task
  obtain ⟨n, hn⟩ : ∃ n, p.length = n := ⟨_, rfl⟩
  have hB := (h.done i hi).1
  have hL := h.lack
  obtain ⟨g, lc, rfl, _⟩ := hL.sized n (by rw [numL_len, hn]) (by omega)
  have cl := hL.cell i (by rw [numL_len]; exact hi)
  rw [numL_nth _ _ _ hi] at cl
  rw [hn] at hc hi
  have c0 := hc.cell 0 _ rfl
  have c1 := hc.cell 1 _ rfl
  have c2 := hc.cell 2 _ rfl
  rw [ready_lack] at hr
  unfold lackOf at cl
  generalize lackN p D i = l at *
  generalize D i = d at *
  clear h hc hL hn
  cases d
  · have hl : 0 < l := by simp at hr; omega
    clear hr
    go_enter Tryz.func136, Tryz.ntmps136
    go_wp2
    go_ret2
    exact ⟨rfl, rfl⟩
  · clear hr
    go_enter Tryz.func136, Tryz.ntmps136
    go_wp2
    go_ret2
    exact ⟨rfl, rfl⟩

theorem newK_succ (p : PlanL) (D : Nat → Bool) (i : Nat) (l : List Nat) (h : Nat) (hh : h < l.length) (k : Nat) (hk : l[h] = k) : (l.take (h + 1)).filter (fun k => lackN p (upB D i) k == 0) = if lackN p (upB D i) k = 0 then (l.take h).filter (fun k => lackN p (upB D i) k == 0) ++ [k] else (l.take h).filter (fun k => lackN p (upB D i) k == 0) := by
  rw [List.take_succ_eq_append_getElem hh, List.filter_append, hk]
  by_cases e : lackN p (upB D i) k = 0
  · rw [if_pos e]; simp [List.filter, e]
  · rw [if_neg e]
    have : (lackN p (upB D i) k == 0) = false := by simpa using e
    simp [List.filter, this]

set_option maxRecDepth 100000 in
set_option maxHeartbeats 8000000 in
theorem Join.done (S : List Nat) (FP : Nat → Prop) (J : Nat) (p : PlanL) (D : Nat → Bool) (i : Nat) (w : World) (h : JoinIs w S FP J p D) (hi : i < p.length) (hr : readyB p D i = true) :
    Calls Tryz.prog 136 #[.pointer (some ⟨J, 0, none⟩), .int .i64 i] w fun e w' => ∃ v, e = .returned (.tuple #[v, .nilIface]) ∧ Ints w' w.heap.size v (natL (newL p D i)) ∧ JoinIs w' S FP J p (upB D i) ∧ Only S w w' := by
  obtain ⟨pv, lv, A, h, rfl⟩ := h
  have HOK := Lib.hid h.ok
  have HR := Lib.hid h
  have hc := h.cells
  obtain ⟨a, cap, rfl, _, _, _⟩ := (h.plan.plan).task
  obtain ⟨n, hn⟩ : ∃ n, p.length = n := ⟨_, rfl⟩
  have HL := Lib.hid hn
  have h30 : n ≤ 30 := by rw [← hn]; exact h.ok.len
  have hB := (h.done i hi).1
  have fB := (h.done i hi).2
  have hL := h.lack
  obtain ⟨g, lc, rfl, _, hgl⟩ := hL.sized n (by rw [numL_len, hn]) (by omega)
  have cl := hL.cell i (by rw [numL_len]; exact hi)
  rw [numL_nth _ _ _ hi] at cl
  rw [ready_lack] at hr
  have hDi : D i = false := by simp at hr; exact hr.1
  have HDI := Lib.hid hDi
  have hli : lackN p D i = 0 := by simp at hr; exact hr.2
  have hle := left_up (p := p) D i hi hDi
  have hle2 := left_le p (upB D i)
  unfold lackOf at cl
  rw [hli] at cl
  rw [hDi] at hB
  rw [hn] at hc hi hle2
  have c0 := hc.cell 0 _ rfl
  have c1 := hc.cell 1 _ rfl
  have c2 := hc.cell 2 _ rfl
  have c3 := hc.cell 3 _ rfl
  have f3 := hc.free 3 _ rfl
  have hJA := h.n1
  have hJg : J ≠ g := fun e => h.n2 (by simp [own, Value.ownBlock, e])
  have hAg : A ≠ g := fun e => h.n3 (by simp [own, Value.ownBlock, e])
  obtain ⟨u, hu⟩ : ∃ u, leftN p (upB D i) = u := ⟨_, rfl⟩
  have HU := Lib.hid hu
  rw [hle, hu] at c3
  rw [hu] at hle2
  obtain ⟨W, hW⟩ : ∃ W, (w.setCell ⟨A, i, none⟩ (.bool true)).setCell ⟨J, 3, none⟩ (.int .i64 (u : Int)) = W := ⟨_, rfl⟩
  have HW := Lib.hid hW
  clear h hn hL hr hDi hli hle hu hW
  go_enter Tryz.func136, Tryz.ntmps136
  go_wp2_with fail
  rw [HW.out]
  have hWo1 : Only [A] w (w.setCell ⟨A, i, none⟩ (.bool true)) := (Only.refl _ _).setCell (by simp) _
  have hWo2 : Only [J] (w.setCell ⟨A, i, none⟩ (.bool true)) W := by rw [← HW.out]; exact (Only.refl _ _).setCell (by simp) _
  have hWo : Only [J, A] w W := (hWo1.mono (by simp)).trans hWo2 (by simp)
  have hCW : Cells W J [.slice a n cap, .slice (some ⟨g, 0, none⟩) n lc, .slice (some ⟨A, 0, none⟩) n n, .int .i64 (u : Int)] := by
    have := (hc.only hWo1 (by simpa using hJA)).set 3 (.int .i64 (u : Int))
    rw [HW.out] at this
    exact this
  have hBW : Bools W A p.length (upB D i) := (HR.out.done.set i true).only hWo2 (by simpa using Ne.symm hJA)
  have hPW : PlanAt W FP (.slice a n cap) p := by
    have := HR.out.plan.only hWo (fun x hF hx => by
      simp at hx
      rcases hx with rfl | rfl
      · exact HR.out.n4 hF
      · exact HR.out.n5 hF)
    rw [HL.out] at this
    exact this
  have hLW : Ints W 0 (.slice (some ⟨g, 0, none⟩) n lc) (numL n (lackMid p D i [])) := by
    have := HR.out.lack.only hWo (fun x hx hx2 => by
      have hx' : x = g := by simpa [Value.ownBlock] using hx.symm
      subst hx'
      simp at hx2
      rcases hx2 with h | h
      · exact hJg h.symm
      · exact hAg h.symm)
    rw [HL.out] at this
    rw [lackMid_nil]
    exact this
  have hgW := hWo.size
  clear hWo1 hWo2 c0 c1 c2 c3 f3 hB fB cl
  refine (plan_AfterOf _ p i W hPW.plan HOK.out).mono ?_
  rintro e w2 ⟨v2, rfl, hI2, ho2⟩
  have hal := afterOf_len p i
  have hand := afterOf_nodup p i
  have hmem : ∀ k ∈ afterOf p i, k < n ∧ (i : Int) ∈ ndOf p k := fun k hk => by have := afterOf_mem.1 hk; rw [HL.out] at this; exact this
  have HMEM := Lib.hid hmem
  have HND := Lib.hid hand
  obtain ⟨l, hl⟩ : ∃ l, afterOf p i = l := ⟨_, rfl⟩
  have HA := Lib.hid hl
  rw [hl] at hI2 hal HMEM HND
  obtain ⟨q, hq⟩ : ∃ q, l.length = q := ⟨_, rfl⟩
  have HQ := Lib.hid hq
  have hql : (natL l).length = q := by rw [natL_len, hq]
  rw [hq, HL.out] at hal
  have hCW2 := hCW.only ho2 (by simp)
  have hBW2 := hBW.only ho2 (by simp)
  have hPW2 := hPW.only ho2 (by simp)
  have hLW2 := hLW.only ho2 (by simp)
  have hsz2 := ho2.size
  have HB2 := Lib.hid (And.intro hBW2 hPW2)
  have HO2 : Hid (Only [J, A] w w2) := hWo.trans ho2 (by simp)
  obtain ⟨va, vc, rfl, hcell⟩ := hI2.opt
  rw [hql] at hcell
  have HCELL := Lib.hid hcell
  clear hl hq hmem hand hCW hBW hPW hLW hBW2 hPW2 ho2 hWo hcell
  go_wp2_with fail
  go_loopw [6, 59] (fun vo vi wr => ∃ h : Nat, h ≤ q ∧ vi = .int .i64 h ∧ Ints wr w2.heap.size vo (natL ((l.take h).filter (fun k => lackN p (upB D i) k == 0))) ∧ Ints wr 0 (.slice (some ⟨g, 0, none⟩) n lc) (numL n (lackMid p D i (l.take h))) ∧ Only [g] w2 wr) (fun _ vi _ => q - (intOf vi).toNat)
  case atStart => exact ⟨0, Nat.zero_le _, rfl, Ints.nil _ _, hLW2, Only.refl _ _⟩
  case round =>
    obtain ⟨wo, rfl⟩ : ∃ wo : World, wo = wr := ⟨_, rfl⟩
    obtain ⟨h, hh, rfl, hO, hLo, ho⟩ := hrel
    clear hLW2
    have hszo := ho.size
    by_cases hhq : h < q
    · have hhl : h < l.length := by rw [HQ.out]; exact hhq
      obtain ⟨g2, rfl, ck⟩ := HCELL.out h hhq
      rw [natL_nth l h hhl] at ck
      have hg2 := (hI2.own_lt g2 (by simp [own, Value.ownBlock])).1
      have ck2 := (ho.cell (p := ⟨g2, h, none⟩) (cell_lt ck) (by simp; omega)).trans ck
      obtain ⟨k, hk⟩ : ∃ k, l[h] = k := ⟨_, rfl⟩
      rw [hk] at ck2
      have hkm := HMEM.out k (by rw [← hk]; exact List.getElem_mem hhl)
      have hknot : k ∉ l.take h := fun hm => by
        obtain ⟨j, hj, e⟩ := List.getElem_of_mem hm
        rw [List.getElem_take] at e
        have hj' : j < h := by simp at hj; omega
        exact (List.pairwise_iff_getElem.1 HND.out) j h (by omega) hhl hj' (by rw [e, hk])
      obtain ⟨m1, m2, m3⟩ := lackMid_push p D i (l.take h) k hknot HDI.out HOK.out hkm.2
      have hns := newK_succ p D i l h hhl k hk
      have hts : l.take (h + 1) = l.take h ++ [k] := by rw [List.take_succ_eq_append_getElem hhl, hk]
      rw [← hts] at m3
      have hkn := hkm.1
      have cl := hLo.cell k (by rw [numL_len]; exact hkn)
      have fl := hLo.free k
      rw [numL_nth _ _ _ hkn, m1] at cl
      unfold lackOf at m2 m3 cl
      have hl30 := lack_le p HOK.out (upB D i) k
      obtain ⟨y, hy⟩ : ∃ y, lackN p (upB D i) k = y := ⟨_, rfl⟩
      rw [hy] at m2 m3 hns hl30
      have hy1 : ((lackN p D k : Nat) : Int) = (y : Int) + 1 := by omega
      rw [hy1] at cl
      have cJ := (hCW2.only ho (by simpa using hJg)).cell 1 _ rfl
      have HNS := Lib.hid hns
      have hset : Only [g] wo (wo.setCell ⟨g, k, none⟩ (.int .i64 (y : Int))) := (Only.refl _ _).setCell (by simp) _
      have hL3 := hLo.set k (y : Int)
      rw [numL_set _ _ _ _ hkn] at hL3
      rw [← m3] at hL3
      have cl3 := hL3.cell k (by rw [numL_len]; exact hkn)
      have hval3 : nth (numL n (lackMid p D i (l.take (h + 1)))) k = (y : Int) := by rw [numL_nth _ _ _ hkn, m3]; simp [updI]
      rw [hval3] at cl3
      have hO3 := hO.only hset (fun g9 h9 hx => by have := (hO.own_lt g9 (own_of h9)).1; simp at hx; omega)
      have ho3 : Only [g] w2 (wo.setCell ⟨g, k, none⟩ (.int .i64 (y : Int))) := ho.trans hset (by simp)
      have cJ3 := (hCW2.only ho3 (by simpa using hJg)).cell 1 _ rfl
      have hwr : IntKind.i64.wrap ((y : Int) + 1 - 1) = (y : Int) := by rw [IntWalk.i64_in _ (by omega)]; omega
      obtain ⟨z, hz⟩ : ∃ z, (natL ((l.take h).filter (fun k => lackN p (upB D i) k == 0))).length = z := ⟨_, rfl⟩
      have hzh : z ≤ h := by
        rw [← hz, natL_len]
        have := List.length_filter_le (fun k => lackN p (upB D i) k == 0) (l.take h)
        rw [List.length_take] at this
        omega
      have hsz3 := ho3.size
      clear m1 m2 m3 hns hts hy hy1 hval3 ck hk hkm hknot hLo hO ho hset
      by_cases hy0 : y = 0
      · subst hy0
        rw [if_pos rfl] at HNS
        have HL3 := Lib.hid hL3
        clear hL3
        go_wp2_with (at_builtin; refine wpList_push rfl (.tmp 80) (.tmp 82) rfl (wo.setCell ⟨g, k, none⟩ (.int .i64 ((0 : Nat) : Int))) w2.heap.size _ _ wo.heap.size k z hO3 hz (by omega) (by simpa [World.setCell] using hszo) rfl rfl ((Only.refl [] _).alloc _) (World.cell?_alloc_at _ _ _ _ (by simp [World.setCell])) ?_; intro g3 cap3 w3 hI4 hO4 hK4)
        rw [← natL_push, ← HNS.out] at hI4
        have hL4 := Lib.hid (HL3.out.only hO4 (fun g9 h9 hx => by
          have h1 := (hO3.own_lt _ hx).1
          have h2 : g9 = g := by simpa [Value.ownBlock] using h9.symm
          omega))
        have ho4 : Hid (Only [g] w2 w3) := ho3.trans hO4 (fun x hx hl => by have := (hO3.own_lt x hx).1; omega)
        clear hO3 ho3 hO4
        go_roundw
        case rel => exact ⟨h + 1, by omega, by go_num, hI4, hL4.out, ho4.out⟩
        case measure => (simp [intOf]; try omega)
      · rw [if_neg hy0] at HNS
        have hyz : ((y : Int) == 0) = false := by simp; omega
        clear hy0
        go_wp2
        go_roundw
        case rel => exact ⟨h + 1, by omega, by go_num, by rw [HNS.out]; exact hO3, hL3, ho3⟩
        case measure => (simp [intOf]; try omega)
    · obtain rfl : q = h := by omega
      have htk : l.take q = l := List.take_of_length_le (by rw [HQ.out]; exact Nat.le_refl _)
      rw [htk, ← HA.out] at hO hLo
      have hCw := hCW2.only ho (by simpa using hJg)
      have hfin : Hid (JoinRaw wo FP J (.slice a n cap) (.slice (some ⟨g, 0, none⟩) n lc) A p (upB D i)) := by
        obtain ⟨b2, p2⟩ := HB2.out
        have hR := HR.out
        refine ⟨?_, ?_, ?_, b2.only ho (by simpa using hAg), hJA, by simpa [own, Value.ownBlock] using hJg, by simpa [own, Value.ownBlock] using hAg, hR.n4, hR.n5, fun x hx => hR.n6 x (by simpa [own, Value.ownBlock] using hx), HOK.out⟩
        · rw [HU.out, HL.out]; exact hCw
        · exact p2.only ho (fun x hF hx => by simp at hx; subst hx; exact hR.n6 x (by simp [own, Value.ownBlock]) hF)
        · rw [HL.out, numL_congr n (lackOf p (upB D i)) (lackMid p D i (afterOf p i)) (fun j hj => (lackMid_all p D i HDI.out HOK.out j (by rw [HL.out]; exact hj)).symm)]
          exact hLo
      have hoo : Hid (Only [J, A, g] w wo) := (HO2.out.mono (by simp)).trans ho (by simp)
      have hsw := HO2.out.size
      obtain ⟨oa, oc, rfl, _⟩ := hO.opt
      have HOO := Lib.hid (hO.mono hsw)
      clear hCw hCW2 hO hLo ho
      go_wp2
      go_ret2
      refine ⟨_, rfl, HOO.out, ⟨_, _, _, hfin.out, ?_⟩, ?_⟩
      · simp [own, Value.ownBlock]
      · exact hoo.out.mono (by simp [own, Value.ownBlock])

end Go.Proofs.YtocpmncedlenbaaGreatDoor

namespace Go.Proofs.YtocpmncedlenbaaGreatDoor
open Go.RowKit Go.Deep

theorem Join.left (S : List Nat) (FP : Nat → Prop) (J : Nat) (p : PlanL) (D : Nat → Bool) (w : World) (h : JoinIs w S FP J p D) :
    Calls Tryz.prog 90 #[.pointer (some ⟨J, 0, none⟩)] w fun e w' => e = .returned (.int .i64 (leftN p D : Int)) ∧ w = w' := by
  obtain ⟨pv, lv, A, h, _⟩ := h
  have c3 := h.cells.cell 3 _ rfl
  generalize leftN p D = n at *
  clear h
  go_enter Tryz.func90, Tryz.ntmps90
  go_wp2
  go_ret
  exact ⟨rfl, rfl⟩


end Go.Proofs.YtocpmncedlenbaaGreatDoor

namespace Go.Proofs.YtocpmncedlenbaaGreatDoor
open Go.RowKit Go.Deep

theorem GangAt.own {w : World} {lab : Nat → Nat} {q : GPar} {SS SK : List Nat} {p : PlanL} {room m : Nat} {s : GSt} {F : Nat → Prop} (_h : GangAt w lab q SS SK p room m s) (hF : ∀ x, lab x ≠ 0 ↔ F x) {x c : Nat} (e : lab x = c) (hc : c ≠ 0) : F x := (hF x).1 (by omega)

theorem GRel.put {w0 w : World} {F0 F : Nat → Prop} {q : GPar} {p : PlanL} {room m : Nat} {s : GSt} (h : GRel w0 F0 w q p room m s F) {i : Nat} (hi : i < m) (x : Int) :
    Calls Tryz.prog 137 #[.pointer (some ⟨q.HB i, 0, none⟩), .int .i64 x] w fun e w' => ∃ v, e = .returned v ∧ Ints w' w.heap.size v (handOut (s.ws i).near room (s.ws i).ring) ∧
      GRel w0 F0 w' q p room m ⟨s.done, s.spill, s.row, upW s.ws i (wkPut room (s.ws i) x)⟩ F ∧ ∀ y ∈ own v, ¬ F y := by
  obtain ⟨lab, SS, SK, hg, hF⟩ := h.gang
  refine (Hand.put _ _ _ _ _ x w (hg.hands i hi)).mono ?_
  rintro e w' ⟨v, rfl, hI, hH, ho⟩
  refine ⟨v, rfl, hI, h.step ⟨lab, SS, SK, hg.setHand hi hH ho (by simp), hF⟩ (OnlyF.of ho fun y hy => ?_) (fun _ hx => .inl hx), fun y hy hx => ?_⟩
  · have hy : y = q.HB i ∨ y = q.RB i := by simpa using hy
    rcases hy with rfl | rfl
    · exact hg.own hF (hg.lh i hi).1 (by omega)
    · exact hg.own hF (hg.lh i hi).2 (by omega)
  · have h1 := (hI.own_lt y hy).1
    have h2 := h.gang.lt y hx
    omega

theorem GRel.rob {w0 w : World} {F0 F : Nat → Prop} {q : GPar} {p : PlanL} {room m : Nat} {s : GSt} (h : GRel w0 F0 w q p room m s F) {i : Nat} (hi : i < m) :
    Calls Tryz.prog 142 #[.pointer (some ⟨q.HB i, 0, none⟩)] w fun e w' => ∃ v, e = .returned v ∧ Ints w' w.heap.size v ((s.ws i).ring.take (halfOf (s.ws i).ring)) ∧
      GRel w0 F0 w' q p room m ⟨s.done, s.spill, s.row, upW s.ws i ⟨(s.ws i).near, (s.ws i).ring.drop (halfOf (s.ws i).ring), (s.ws i).task, (s.ws i).left⟩⟩ F ∧ ∀ y ∈ own v, ¬ F y := by
  obtain ⟨lab, SS, SK, hg, hF⟩ := h.gang
  refine (Hand.rob _ _ _ _ _ w (hg.hands i hi)).mono ?_
  rintro e w' ⟨v, rfl, hI, hH, ho⟩
  refine ⟨v, rfl, hI, h.step ⟨lab, SS, SK, hg.setHand hi hH ho (by simp), hF⟩ (OnlyF.of ho fun y hy => ?_) (fun _ hx => .inl hx), fun y hy hx => ?_⟩
  · obtain rfl : y = q.RB i := by simpa using hy
    exact hg.own hF (hg.lh i hi).2 (by omega)
  · have h1 := (hI.own_lt y hy).1
    have h2 := h.gang.lt y hx
    omega

theorem GRel.take_near {w0 w : World} {F0 F : Nat → Prop} {q : GPar} {p : PlanL} {room m : Nat} {s : GSt} (h : GRel w0 F0 w q p room m s F) {i : Nat} (hi : i < m) (hn : 0 ≤ (s.ws i).near) :
    Calls Tryz.prog 139 #[.pointer (some ⟨q.HB i, 0, none⟩)] w fun e w' => e = .returned (.tuple #[.int .i64 (s.ws i).near, .nilIface]) ∧
      GRel w0 F0 w' q p room m ⟨s.done, s.spill, s.row, upW s.ws i ⟨-1, (s.ws i).ring, (s.ws i).task, (s.ws i).left⟩⟩ F := by
  obtain ⟨lab, SS, SK, hg, hF⟩ := h.gang
  refine (Hand.take_near _ _ _ _ _ w (hg.hands i hi) hn).mono ?_
  rintro e w' ⟨rfl, hH, ho⟩
  refine ⟨rfl, h.step ⟨lab, SS, SK, hg.setHand hi hH ho (by simp), hF⟩ (OnlyF.of ho fun y hy => ?_) (fun _ hx => .inl hx)⟩
  obtain rfl : y = q.HB i := by simpa using hy
  exact hg.own hF (hg.lh i hi).1 (by omega)

theorem GRel.take_ring {w0 w : World} {F0 F : Nat → Prop} {q : GPar} {p : PlanL} {room m : Nat} {s : GSt} (h : GRel w0 F0 w q p room m s F) {i : Nat} (hi : i < m) (hn : (s.ws i).near < 0) (hr : (s.ws i).ring ≠ []) :
    Calls Tryz.prog 139 #[.pointer (some ⟨q.HB i, 0, none⟩)] w fun e w' => e = .returned (.tuple #[.int .i64 ((s.ws i).ring.getLastD 0), .nilIface]) ∧
      GRel w0 F0 w' q p room m ⟨s.done, s.spill, s.row, upW s.ws i ⟨(s.ws i).near, (s.ws i).ring.dropLast, (s.ws i).task, (s.ws i).left⟩⟩ F := by
  obtain ⟨lab, SS, SK, hg, hF⟩ := h.gang
  have hl : (s.ws i).ring.dropLast ++ [(s.ws i).ring.getLastD 0] = (s.ws i).ring := by
    have := List.dropLast_concat_getLast hr
    rw [List.getLastD_eq_getLast?, List.getLast?_eq_some_getLast hr]
    exact this
  refine (Hand.take_ring _ _ room _ (s.ws i).ring.dropLast ((s.ws i).ring.getLastD 0) w (by rw [hl]; exact hg.hands i hi) hn).mono ?_
  rintro e w' ⟨rfl, hH, ho⟩
  refine ⟨rfl, h.step ⟨lab, SS, SK, hg.setHand hi hH ho (by simp), hF⟩ (OnlyF.of ho fun y hy => ?_) (fun _ hx => .inl hx)⟩
  obtain rfl : y = q.RB i := by simpa using hy
  exact hg.own hF (hg.lh i hi).2 (by omega)

theorem GRel.take_none {w0 w : World} {F0 F : Nat → Prop} {q : GPar} {p : PlanL} {room m : Nat} {s : GSt} (h : GRel w0 F0 w q p room m s F) {i : Nat} (hi : i < m) (hn : (s.ws i).near < 0) (hr : (s.ws i).ring = []) :
    Calls Tryz.prog 139 #[.pointer (some ⟨q.HB i, 0, none⟩)] w fun e w' => e = .returned (.tuple #[.int .i64 0, .iface 99 (.int .i64 5)]) ∧ w = w' := by
  obtain ⟨lab, SS, SK, hg, hF⟩ := h.gang
  exact Hand.take_none _ _ room w _ (by rw [← hr]; exact hg.hands i hi) hn

theorem GRel.hand_all {w0 w : World} {F0 F : Nat → Prop} {q : GPar} {p : PlanL} {room m : Nat} {s : GSt} (h : GRel w0 F0 w q p room m s F) {i : Nat} (hi : i < m) :
    Calls Tryz.prog 88 #[.pointer (some ⟨q.HB i, 0, none⟩)] w fun e w' => ∃ v, e = .returned v ∧ Ints w' w.heap.size v ((s.ws i).ring ++ nearL (s.ws i).near) ∧ Only [] w w' := by
  obtain ⟨lab, SS, SK, hg, hF⟩ := h.gang
  exact Hand.all _ _ _ _ _ w (hg.hands i hi)

theorem GRel.spill_put {w0 w : World} {F0 F : Nat → Prop} {q : GPar} {p : PlanL} {room m : Nat} {s : GSt} (h : GRel w0 F0 w q p room m s F) (v : Value) (l : List Int) (hv : Reads w v l) (hd : ∀ y ∈ own v, ¬ F y) (hf : s.spill.length + l.length ≤ 60) :
    Calls Tryz.prog 71 #[.pointer (some ⟨q.S, 0, none⟩), v] w fun e w' => e = .returned .nilIface ∧ ∃ F', GRel w0 F0 w' q p room m ⟨s.done, s.spill ++ l, s.row, s.ws⟩ F' ∧ Kin' w F F' := by
  obtain ⟨lab, SS, SK, hg, hF⟩ := h.gang
  refine (Spill.put SS q.S room s.spill v l w hg.spill hv (fun x hx hy => hd x hx (hg.own hF (hg.l5 x hy) (by omega))) hf).mono ?_
  rintro e w' ⟨rfl, fp', hS, ho, hk⟩
  have hm := relab_more (w := w) (w' := w') (c := 5) (by omega) hF
  refine ⟨rfl, more F w w', h.step ⟨_, fp', SK, hg.setSpill hS ho hk, hm⟩ (OnlyF.of ho fun y hy => hg.own hF (hg.l5 y hy) (by omega)) (fun x hx => ?_), fun x hx => ?_⟩
  all_goals
    rcases hx with hx | hx
    · exact .inl hx
    · exact .inr hx.1

theorem GRel.spill_get {w0 w : World} {F0 F : Nat → Prop} {q : GPar} {p : PlanL} {room m : Nat} {s : GSt} (h : GRel w0 F0 w q p room m s F) :
    Calls Tryz.prog 140 #[.pointer (some ⟨q.S, 0, none⟩), .int .i64 1] w fun e w' => ∃ v, e = .returned (.tuple #[v, .nilIface]) ∧ Ints w' w.heap.size v (s.spill.take 1) ∧
      GRel w0 F0 w' q p room m ⟨s.done, s.spill.drop 1, s.row, s.ws⟩ F ∧ ∀ y ∈ own v, ¬ F y := by
  obtain ⟨lab, SS, SK, hg, hF⟩ := h.gang
  refine (Spill.get SS q.S room s.spill 1 w hg.spill (by omega) (by omega)).mono ?_
  rintro e w' ⟨v, rfl, hI, fp', hS, ho, hk⟩
  have hsame : GangAt w' lab q fp' SK p room m ⟨s.done, s.spill.drop 1, s.row, s.ws⟩ := by
    have hx := hg.setSpill hS ho (fun x hx => .inl (hk x hx))
    have hold : ∀ x, lab x ≠ 0 → relab lab w.heap.size w'.heap.size 5 x = lab x := fun x h0 => relab_old (hg.lt x h0)
    exact ⟨hx.cells, hx.plan, hx.join, hx.spill, hx.park, hx.row, hx.works, hx.hands, fun x h0 => by have := hg.lt x h0; have := ho.size; omega, hg.l1, hg.l2, hg.l3, hg.l4, hg.l4f, fun x hx => hg.l5 x (hk x hx), hg.l6, hg.lw, hg.lh, hg.m1, hg.m6, hg.mc, hg.cm⟩
  refine ⟨v, rfl, hI, h.step ⟨lab, fp', SK, hsame, hF⟩ (OnlyF.of ho fun y hy => hg.own hF (hg.l5 y hy) (by omega)) (fun _ hx => .inl hx), fun y hy hx => ?_⟩
  have h1 := (hI.own_lt y hy).1
  have h2 := h.gang.lt y hx
  omega

theorem GRel.spill_all {w0 w : World} {F0 F : Nat → Prop} {q : GPar} {p : PlanL} {room m : Nat} {s : GSt} (h : GRel w0 F0 w q p room m s F) :
    Calls Tryz.prog 87 #[.pointer (some ⟨q.S, 0, none⟩)] w fun e w' => ∃ v, e = .returned v ∧ Ints w' w.heap.size v s.spill ∧ Only [] w w' := by
  obtain ⟨lab, SS, SK, hg, hF⟩ := h.gang
  exact Spill.all _ _ _ _ w hg.spill

theorem GRel.done {w0 w : World} {F0 F : Nat → Prop} {q : GPar} {p : PlanL} {room m : Nat} {s : GSt} (h : GRel w0 F0 w q p room m s F) (i : Nat) (hi : i < p.length) (hr : readyB p s.done i = true) :
    Calls Tryz.prog 136 #[.pointer (some ⟨q.J, 0, none⟩), .int .i64 i] w fun e w' => ∃ v, e = .returned (.tuple #[v, .nilIface]) ∧ Ints w' w.heap.size v (natL (newL p s.done i)) ∧
      GRel w0 F0 w' q p room m ⟨upB s.done i, s.spill, s.row, s.ws⟩ F ∧ ∀ y ∈ own v, ¬ F y := by
  obtain ⟨lab, SS, SK, hg, hF⟩ := h.gang
  refine (Join.done q.SJ q.FJ q.J p s.done i w hg.join hi hr).mono ?_
  rintro e w' ⟨v, rfl, hI, hJ, ho⟩
  refine ⟨v, rfl, hI, h.step ⟨lab, SS, SK, hg.setJoin hJ ho, hF⟩ (OnlyF.of ho fun y hy => hg.own hF (hg.l4 y hy) (by omega)) (fun _ hx => .inl hx), fun y hy hx => ?_⟩
  have h1 := (hI.own_lt y hy).1
  have h2 := h.gang.lt y hx
  omega

theorem GRel.awake {w0 w : World} {F0 F : Nat → Prop} {q : GPar} {p : PlanL} {room m : Nat} {s : GSt} (h : GRel w0 F0 w q p room m s F) {i : Nat} (hi : i < m) (r : Bool) (hr : decide ((i : Int) ∈ s.row) = r) :
    Calls Tryz.prog 83 #[.pointer (some ⟨q.K, 0, none⟩), .int .i64 i] w fun e w' => e = .returned (.tuple #[.bool (!r), .nilIface]) ∧ w = w' := by
  obtain ⟨lab, SS, SK, hg, hF⟩ := h.gang
  exact Park.awake SK q.K m s.row i w hg.park (by omega) (by omega) r hr

theorem GRel.sleep {w0 w : World} {F0 F : Nat → Prop} {q : GPar} {p : PlanL} {room m : Nat} {s : GSt} (h : GRel w0 F0 w q p room m s F) {i : Nat} (hi : i < m) (hr : (i : Int) ∉ s.row) (hl : s.row.length ≤ 6) :
    Calls Tryz.prog 86 #[.pointer (some ⟨q.K, 0, none⟩), .int .i64 i] w fun e w' => e = .returned .nilIface ∧ ∃ F', GRel w0 F0 w' q p room m ⟨s.done, s.spill, s.row ++ [(i : Int)], s.ws⟩ F' ∧ Kin' w F F' ∧ OnlyF F w w' := by
  obtain ⟨lab, SS, SK, hg, hF⟩ := h.gang
  refine (Park.sleep SK q.K m s.row i w hg.park (by omega) (by omega) hr (by omega)).mono ?_
  rintro e w' ⟨rfl, fp', hS, ho, hk⟩
  have hm := relab_more (w := w) (w' := w') (c := 6) (by omega) hF
  have hoF : OnlyF F w w' := OnlyF.of ho fun y hy => hg.own hF (hg.l6 y hy) (by omega)
  refine ⟨rfl, more F w w', h.step ⟨_, SS, fp', hg.setPark hS ho (fun _ h => h) hk, hm⟩ hoF (fun x hx => ?_), fun x hx => ?_, hoF⟩
  all_goals
    rcases hx with hx | hx
    · exact .inl hx
    · exact .inr hx.1

theorem GRel.wake {w0 w : World} {F0 F : Nat → Prop} {q : GPar} {p : PlanL} {room m : Nat} {s : GSt} (h : GRel w0 F0 w q p room m s F) (n : Nat) (hn : n ≤ 30) :
    Calls Tryz.prog 138 #[.pointer (some ⟨q.K, 0, none⟩), .int .i64 n] w fun e w' => ∃ v, e = .returned (.tuple #[v, .nilIface]) ∧ Ints w' w.heap.size v (s.row.take n) ∧
      ∃ F', GRel w0 F0 w' q p room m ⟨s.done, s.spill, s.row.drop n, s.ws⟩ F' ∧ Kin' w F F' ∧ OnlyF F w w' := by
  obtain ⟨lab, SS, SK, hg, hF⟩ := h.gang
  refine (Park.wake SK q.K m s.row n w hg.park (by omega) (by omega)).mono ?_
  rintro e w' ⟨v, rfl, hI, fp', hS, ho, hk, hd⟩
  rw [Int.toNat_natCast] at hI hS
  have hm := relab_more (w := w) (w' := w') (c := 6) (by omega) hF
  have hb : q.K ∈ SK := by
    obtain ⟨⟨rv, _, _, rfl, _⟩, _⟩ := hg.park
    simp
  have hT : ∀ x ∈ [q.K], x ∈ SK := fun x hx => by
    obtain rfl : x = q.K := by simpa using hx
    exact hb
  have hoF : OnlyF F w w' := OnlyF.of ho fun y hy => hg.own hF (hg.l6 y (hT y hy)) (by omega)
  refine ⟨v, rfl, hI, more F w w', h.step ⟨_, SS, fp', hg.setPark hS ho hT hk, hm⟩ hoF (fun x hx => ?_), fun x hx => ?_, hoF⟩
  all_goals
    rcases hx with hx | hx
    · exact .inl hx
    · exact .inr hx.1

theorem GRel.left {w0 w : World} {F0 F : Nat → Prop} {q : GPar} {p : PlanL} {room m : Nat} {s : GSt} (h : GRel w0 F0 w q p room m s F) :
    Calls Tryz.prog 90 #[.pointer (some ⟨q.J, 0, none⟩)] w fun e w' => e = .returned (.int .i64 (leftN p s.done : Int)) ∧ w = w' := by
  obtain ⟨lab, SS, SK, hg, hF⟩ := h.gang
  exact Join.left _ _ _ _ _ w hg.join

/-- A worker's own cells are set. -/
theorem GRel.set {w0 w w' : World} {F0 F : Nat → Prop} {q : GPar} {p : PlanL} {room m : Nat} {s : GSt} (h : GRel w0 F0 w q p room m s F) {i : Nat} (hi : i < m) {task left : Int} (hc : Cells w' (q.WB i) [.pointer (some ⟨q.HB i, 0, none⟩), .int .i64 task, .int .i64 left]) (ho : Only [q.WB i] w w') :
    GRel w0 F0 w' q p room m ⟨s.done, s.spill, s.row, upW s.ws i ⟨(s.ws i).near, (s.ws i).ring, task, left⟩⟩ F := by
  obtain ⟨lab, SS, SK, hg, hF⟩ := h.gang
  refine h.step ⟨lab, SS, SK, hg.setWork hi hc ho, hF⟩ (OnlyF.of ho fun y hy => ?_) (fun _ hx => .inl hx)
  obtain rfl : y = q.WB i := by simpa using hy
  exact hg.own hF (hg.lw i hi) (by omega)

/-- What a walk reads. -/
theorem GRel.cells {w0 w : World} {F0 F : Nat → Prop} {q : GPar} {p : PlanL} {room m : Nat} {s : GSt} (h : GRel w0 F0 w q p room m s F) :
    Cells w q.G [q.pv, .pointer (some ⟨q.J, 0, none⟩), .pointer (some ⟨q.S, 0, none⟩), .pointer (some ⟨q.K, 0, none⟩), .slice (some ⟨q.L, 0, none⟩) m q.cap] ∧ InPlan w q.pv p ∧ (∀ i, i < m → w.cell? ⟨q.L, i, none⟩ = some (.pointer (some ⟨q.WB i, 0, none⟩))) ∧
    (∀ i, i < m → Cells w (q.WB i) [.pointer (some ⟨q.HB i, 0, none⟩), .int .i64 (s.ws i).task, .int .i64 (s.ws i).left]) ∧ (∀ i, i < m → F (q.WB i)) ∧ 1 ≤ m ∧ m ≤ 6 ∧ m ≤ q.cap ∧ q.cap ≤ maxLen ∧ 1 ≤ room ∧ room ≤ 16 ∧ PlanOk p := by
  obtain ⟨lab, SS, SK, hg, hF⟩ := h.gang
  exact ⟨hg.cells, hg.plan.plan, hg.row, hg.works, fun i hi => hg.own hF (hg.lw i hi) (by omega), hg.m1, hg.m6, hg.mc, hg.cm, hg.spill.room.1, hg.spill.room.2, hg.join.ok⟩

end Go.Proofs.YtocpmncedlenbaaGreatDoor
