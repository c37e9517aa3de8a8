/-
  Contracts of plan.OrderOf and plan.AfterOf.
  Contract of plan.AfterOf.
  Contract of plan.Own.
  An array of ints in memory, by its numbers; make([]int, n) as one.
  Who is ready, in plain words. No program is named here.
-/
import Derived.Test.YtoofalchkedciaaGreatDoorP8TopGang
namespace Go.Proofs.YtoofalchkedciaaGreatDoor
open Go.RowKit Go.Deep

def natL (l : List Nat) : List Int := l.map fun (i : Nat) => (i : Int)
theorem natL_len (l : List Nat) : (natL l).length = l.length := by simp [natL]
theorem natL_push (l : List Nat) (i : Nat) : natL (l ++ [i]) = natL l ++ [(i : Int)] := by simp [natL]
theorem natL_mem {l : List Nat} {i : Nat} : (i : Int) ∈ natL l ↔ i ∈ l := by
  unfold natL
  rw [List.mem_map]
  constructor
  · rintro ⟨a, ha, e⟩
    have : a = i := by omega
    exact this ▸ ha
  · intro h; exact ⟨i, h, rfl⟩
theorem natL_nth (l : List Nat) (k : Nat) (h : k < l.length) : nth (natL l) k = (l[k] : Nat) := by simp [nth, natL, h]

theorem plan_order1 (k : Nat) (dx A n : Nat) (f : Nat → Bool) (w : World) (hd : w.cell? ⟨dx, 0, none⟩ = some (.slice (some ⟨A, 0, none⟩) n n)) (hB : Bools w A n f) (hk : k < n) :
    Calls Tryz.prog 103 #[.int .i64 (k : Int), .pointer (some ⟨dx, 0, none⟩)] w fun e w' => e = .returned (.bool (!f k)) ∧ w = w' := by
  have c := (hB k hk).1
  generalize f k = fk at *
  clear hB
  go_enter Tryz.func103, Tryz.ntmps103
  go_wp2
  go_ret
  exact ⟨rfl, rfl⟩

/-- ready, by way of ContainsFunc. -/
theorem readyB_eq (p : PlanL) (D : Nat → Bool) (i : Nat) : readyB p D i = (!D i && !(ndOf p i).any (fun k => !D k.toNat)) := by
  unfold readyB
  congr 1
  rw [List.not_any_eq_all_not]
  simp

set_option maxRecDepth 100000 in
set_option maxHeartbeats 4000000 in
theorem plan_OrderOf (v : Value) (p : PlanL) (w : World) (h : InPlan w v p) (hok : PlanOk p) :
    Calls Tryz.prog 53 #[v] w fun e w' => ∃ v', e = .returned v' ∧ Ints w' w.heap.size v' (natL (orderOf p)) ∧ Only [] w w' := by
  have HP := Lib.hid h
  have HO := Lib.hid hok
  obtain ⟨a, cap, rfl, hc1, hc2, _⟩ := h.task
  obtain ⟨n, hn⟩ : ∃ n, p.length = n := ⟨_, rfl⟩
  have HL := Lib.hid hn
  rw [hn] at hc1 HP ⊢
  have h30 : n ≤ 30 := by rw [← hn]; exact hok.len
  have hmk := make_bools n (by omega)
  have hB0 := made_bools w n
  have ho1 := ((Only.refl [] w).alloc (.cells (madeCells #[.bool false] n) 4)).alloc (.cells #[.slice (some ⟨w.heap.size, 0, none⟩) n n] 97)
  have hB1 := hB0.only ((Only.refl [] _).alloc (.cells #[.slice (some ⟨w.heap.size, 0, none⟩) n n] 97)) (by simp)
  clear h hn hok hB0
  go_enter Tryz.func53, Tryz.ntmps53
  have hC1 : Cells ((w.alloc (.cells (madeCells #[.bool false] n) 4)).alloc (.cells #[.slice (some ⟨w.heap.size, 0, none⟩) n n] 97)) (w.heap.size + 1) [.slice (some ⟨w.heap.size, 0, none⟩) n n] := by
    have := Cells.new (w.alloc (.cells (madeCells #[.bool false] n) 4)) #[.slice (some ⟨w.heap.size, 0, none⟩) n n] 97
    simpa using this
  have hI1 : Ints ((w.alloc (.cells (madeCells #[.bool false] n) 4)).alloc (.cells #[.slice (some ⟨w.heap.size, 0, none⟩) n n] 97)) (w.heap.size + 2) (.slice none 0 0) (natL (topo p 0)) := Ints.nil _ _
  go_wp2_with fail
  go_loopw [2] (fun vo wo => ∃ k : Nat, k ≤ n ∧ Ints wo (w.heap.size + 2) vo (natL (topo p k)) ∧ Bools wo w.heap.size n (fun j => (topo p k).contains j) ∧ Cells wo (w.heap.size + 1) [.slice (some ⟨w.heap.size, 0, none⟩) n n] ∧ Only [] w wo) (fun vo _ => n - (lenOfV vo))
  case atStart => exact ⟨0, Nat.zero_le _, hI1, hB1, hC1, ho1⟩
  case round =>
    obtain ⟨wo, rfl⟩ : ∃ wo : World, wo = wr := ⟨_, rfl⟩
    clear hI1 hB1 hC1 ho1
    obtain ⟨k, hk, hI, hB, hC, ho⟩ := hrel
    have htl := topo_len HO.out k (by rw [HL.out]; exact hk)
    obtain ⟨va, vc, rfl, _⟩ := hI.opt
    rw [natL_len, htl] at hI ⊢
    have hsz := ho.size
    by_cases hkn : k < n
    · go_wp2_with fail
      go_loopw [2, 16] (fun vo vi wr => ∃ i : Nat, i ≤ n ∧ vo = .slice va k vc ∧ vi = .int .i64 i ∧ (∀ j, j < i → readyB p (fun j => (topo p k).contains j) j = false) ∧ Only [] wo wr) (fun _ vi _ => n - (intOf vi).toNat)
      case atStart => exact ⟨0, Nat.zero_le _, rfl, rfl, fun j hj => by omega, Only.refl _ _⟩
      case round =>
        obtain ⟨i, hi, rfl, rfl, hnr, hoi⟩ := hrel
        have HNR := Lib.hid hnr
        clear hnr
        have hoo := ho.trans hoi (by simp)
        by_cases hin : i < n
        · have hBr := hB.only hoi (by simp)
          have hCr := hC.only hoi (by simp)
          obtain ⟨b, off, rfl⟩ := HP.out.any i (by rw [HL.out]; exact hin)
          obtain ⟨ua, uc, c0, c1, hrd⟩ := (HP.out.same hoo).at i (by rw [HL.out]; exact hin)
          have hal := (Only.refl [] wr).alloc (.cells #[.int .i64 (wkOf p i), .slice ua (ndOf p i).length uc] 94)
          have hoa := hoo.trans hal (by simp)
          have hoia := hoi.trans hal (by simp)
          have hB3 := hBr.only hal (by simp)
          have hC3 := hCr.only hal (by simp)
          have hrd3 := hrd.same hal
          have cA : wr.cell? ⟨w.heap.size, i, none⟩ = some (.bool ((topo p k).contains i)) := (hBr i hin).1
          have cA3 : (wr.alloc (.cells #[.int .i64 (wkOf p i), .slice ua (ndOf p i).length uc] 94)).cell? ⟨w.heap.size, i, none⟩ = some (.bool ((topo p k).contains i)) := (hB3 i hin).1
          have fA3 := (hB3 i hin).2
          have cD := hCr.cell 0 _ rfl
          have cD3 := hC3.cell 0 _ rfl
          have hnl : (ndOf p i).length ≤ 30 := by have := HO.out.needs i; rw [HL.out] at this; omega
          obtain ⟨m, hm⟩ : ∃ m, (ndOf p i).length = m := ⟨_, rfl⟩
          have hcl := fn_contains 103 (fun _ _ => by kernel_rfl) #[.pointer (some ⟨w.heap.size + 1, 0, none⟩)] _ _ _ (fun x => !(topo p k).contains x.toNat) hrd3 (by omega)
            (fun x hx dn => by
              have hb := HO.out.need i x hx
              obtain ⟨xn, rfl⟩ := Int.eq_ofNat_of_zero_le hb.1
              rw [HL.out] at hb
              exact (plan_order1 xn (w.heap.size + 1) w.heap.size n (fun j => (topo p k).contains j) _ ((cell_drewN _ dn _).trans cD3) (hB3.only ((Only.refl [] _).drewN dn) (by simp)) (by omega)).mono fun e w' ⟨h1, h2⟩ => ⟨by rw [h1]; rfl, dn, h2.symm⟩)
          have hre := readyB_eq p (fun j => (topo p k).contains j) i
          obtain ⟨fi, hfi⟩ : ∃ b, (topo p k).contains i = b := ⟨_, rfl⟩
          rw [hfi] at cA cA3
          simp only [hfi] at hre
          have HFI := Lib.hid hfi
          have HRE := Lib.hid hre
          rw [hm] at c1 hcl hal hoa hoia hB3 hC3 cA3 fA3 cD3
          clear hrd hrd3 hnl hfi hre hoo
          obtain ⟨x, hx⟩ : ∃ x, wkOf p i = x := ⟨_, rfl⟩
          rw [hx] at c0 hcl hal hoa hoia hB3 hC3 cA3 fA3 cD3
          clear hx hm
          cases fi
          · obtain ⟨r, hr⟩ : ∃ r, (ndOf p i).any (fun x => !(topo p k).contains x.toNat) = r := ⟨_, rfl⟩
            have hcl := hcl r hr
            rw [hr] at HRE
            clear hr
            cases r
            · have hst : Hid (topo p (k + 1) = topo p k ++ [i]) := by
                show _ = _
                obtain ⟨i2, h1, h2, h3, h4⟩ := topo_step HO.out k (by rw [HL.out]; exact hkn) htl
                have : i2 = i := by
                  rcases Nat.lt_trichotomy i2 i with hl | hl | hl
                  · have := HNR.out i2 hl; rw [this] at h2; cases h2
                  · exact hl
                  · have := h3 i hl
                    rw [HRE.out] at this; cases this
                rw [h4, this]
              go_wp2_with fail
              refine hcl.mono ?_
              rintro e w9 ⟨rfl, dn, rfl⟩
              clear hcl
              obtain ⟨W, hW⟩ : ∃ W, ((wr.alloc (.cells #[.int .i64 x, .slice ua m uc] 94)).drewN dn).setCell ⟨w.heap.size, i, none⟩ (.bool true) = W := ⟨_, rfl⟩
              have hset : Only [w.heap.size] ((wr.alloc (.cells #[.int .i64 x, .slice ua m uc] 94)).drewN dn) W := by rw [← hW]; exact (Only.refl _ _).setCell (by simp) _
              have hwW : Only [] w W := (hoa.drewN dn).trans hset (by simp)
              have hIw := (hI.only (hoia.drewN dn) (by simp)).only hset (fun g hg hx => by
                have h1 := (hI.own_lt g (own_of hg)).1
                simp at hx; omega)
              have hBw : Bools W w.heap.size n (fun j => (topo p (k + 1)).contains j) := by
                have h1 := (hB3.only ((Only.refl [] _).drewN dn) (by simp)).set i true
                rw [hW] at h1
                have e : (fun j => if j = i then true else (topo p k).contains j) = fun j => (topo p (k + 1)).contains j := by
                  funext j
                  rw [hst.out]
                  by_cases e : j = i
                  · subst e; simp
                  · simp [e]
                rw [e] at h1
                exact h1
              have hCw : Cells W (w.heap.size + 1) [.slice (some ⟨w.heap.size, 0, none⟩) n n] := (hC3.only ((Only.refl [] _).drewN dn) (by simp)).only hset (by simp)
              have hszW := hCw.lt
              have hlk := natL_len (topo p k)
              clear hset hoa hoia hB3 hC3 hal cD hBr hCr hI hB hC ho hoi
              go_wp2_with (at_builtin; refine wpList_push rfl (.tmp 36) (.tmp 38) rfl W (w.heap.size + 2) _ _ W.heap.size i k hIw (by rw [hlk, htl]) (by omega) (by omega) rfl rfl ((Only.refl [] W).alloc _) (World.cell?_alloc_at _ _ _ _ rfl) ?_; intro g cap3 w3 hI3 hO3 hK3)
              rw [← natL_push, ← hst.out] at hI3
              have hB4 := Lib.hid (hBw.only hO3 (fun hx => by have := (hIw.own_lt _ hx).1; omega))
              have hC4 := Lib.hid (hCw.only hO3 (fun hx => by have := (hIw.own_lt _ hx).1; omega))
              have ho4 := Lib.hid (hwW.trans hO3 (fun x hx hl => by have := (hIw.own_lt _ hx).1; omega))
              clear hIw hBw hCw hO3 hW hwW
              go_roundw
              case rel => exact ⟨k + 1, by omega, hI3, hB4.out, hC4.out, ho4.out⟩
              case measure => (simp [lenOfV]; omega)
            · go_wp2_with fail
              refine hcl.mono ?_
              rintro e w9 ⟨rfl, dn, rfl⟩
              clear hcl
              go_wp2
              go_roundw
              case rel =>
                refine ⟨i + 1, by omega, rfl, by go_num, fun j hj => ?_, hoia.drewN _⟩
                by_cases e : j = i
                · subst e; rw [HRE.out]; rfl
                · exact HNR.out j (by omega)
              case measure => (simp [intOf]; try omega)
          · clear hcl
            go_wp2
            go_roundw
            case rel =>
              refine ⟨i + 1, by omega, rfl, by go_num, fun j hj => ?_, hoia⟩
              by_cases e : j = i
              · subst e; rw [HRE.out]; rfl
              · exact HNR.out j (by omega)
            case measure => (simp [intOf]; try omega)
        · obtain rfl : i = n := by omega
          exfalso
          obtain ⟨i0, h1, h2⟩ := exists_ready HO.out (fun j => (topo p k).contains j) (exists_notin (topo p k) p.length (by rw [htl, HL.out]; exact hkn))
          rw [HNR.out i0 (by rw [← HL.out]; exact h1)] at h2
          cases h2
    · obtain rfl : k = n := by omega
      clear hB hC
      go_wp2
      go_ret
      refine ⟨_, rfl, ?_, ho⟩
      have e : orderOf p = topo p k := by unfold orderOf; rw [HL.out]
      rw [e]
      exact hI.mono (by omega)

end Go.Proofs.YtoofalchkedciaaGreatDoor

namespace Go.Proofs.YtoofalchkedciaaGreatDoor
open Go.RowKit Go.Deep

/-- Who comes after a task, of the first k. -/
def afterK (p : PlanL) (i : Int) (k : Nat) : List Nat := (List.range k).filter (fun k => (ndOf p k).contains i)
theorem afterK_zero (p : PlanL) (i : Int) : afterK p i 0 = [] := rfl
theorem afterK_succ (p : PlanL) (i : Int) (k : Nat) : afterK p i (k + 1) = if (ndOf p k).contains i then afterK p i k ++ [k] else afterK p i k := by
  unfold afterK
  rw [List.range_succ, List.filter_append]
  cases h : (ndOf p k).contains i <;> simp only [List.filter, h] <;> simp
theorem afterK_all (p : PlanL) (i : Int) : afterK p i p.length = afterOf p i := rfl
theorem afterK_len (p : PlanL) (i : Int) (k : Nat) : (afterK p i k).length ≤ k := by
  have := List.length_filter_le (fun k => (ndOf p k).contains i) (List.range k)
  simpa [afterK] using this

set_option maxRecDepth 100000 in
set_option maxHeartbeats 2000000 in
theorem plan_AfterOf (v : Value) (p : PlanL) (i : Int) (w : World) (h : InPlan w v p) (hok : PlanOk p) :
    Calls Tryz.prog 57 #[v, .int .i64 i] w fun e w' => ∃ v', e = .returned v' ∧ Ints w' w.heap.size v' (natL (afterOf p i)) ∧ Only [] w w' := by
  have HP := Lib.hid h
  have HO := Lib.hid hok
  obtain ⟨a, cap, rfl, hc1, hc2, _⟩ := h.task
  obtain ⟨n, hn⟩ : ∃ n, p.length = n := ⟨_, rfl⟩
  have HL := Lib.hid hn
  rw [hn] at hc1 HP ⊢
  have h30 : n ≤ 30 := by rw [← hn]; exact hok.len
  clear h hn hok
  go_enter Tryz.func57, Tryz.ntmps57
  go_wp2_with fail
  go_loopw [4, 9] (fun vo vi wr => ∃ k : Nat, k ≤ n ∧ vi = .int .i64 k ∧ Ints wr w.heap.size vo (natL (afterK p i k)) ∧ Only [] w wr) (fun _ vi _ => n - (intOf vi).toNat)
  case atStart => exact ⟨0, Nat.zero_le _, rfl, Ints.nil _ _, Only.refl _ _⟩
  case round =>
    obtain ⟨wo, rfl⟩ : ∃ wo : World, wo = wr := ⟨_, rfl⟩
    obtain ⟨k, hk, rfl, hI, ho⟩ := hrel
    have hsz := ho.size
    by_cases hkn : k < n
    · obtain ⟨b, off, rfl⟩ := HP.out.any k (by rw [HL.out]; exact hkn)
      obtain ⟨ua, uc, c0, c1, hrd⟩ := (HP.out.same ho).at k (by rw [HL.out]; exact hkn)
      have hnl : (ndOf p k).length ≤ 30 := by have := HO.out.needs k; rw [HL.out] at this; omega
      have hal := (Only.refl [] wo).alloc (.cells #[.int .i64 (wkOf p k), .slice ua (ndOf p k).length uc] 94)
      have hrd3 := hrd.same hal
      have hI3 := hI.only hal (by simp)
      have ho3 := ho.trans hal (by simp)
      have hsu := afterK_succ p i k
      have hlen := afterK_len p i k
      obtain ⟨q, hq⟩ : ∃ q, (natL (afterK p i k)).length = q := ⟨_, rfl⟩
      have HQ := Lib.hid hq
      have hq2 : q ≤ k := by rw [← hq, natL_len]; exact hlen
      have hcl := contains_ints _ _ i _ hrd3 (by omega)
      obtain ⟨r, hr⟩ : ∃ r, decide (i ∈ ndOf p k) = r := ⟨_, rfl⟩
      have hr2 : (ndOf p k).contains i = r := by rw [← hr]; simp
      have hcl := hcl r hr
      rw [hr2] at hsu
      have HSU := Lib.hid hsu
      clear hr hr2 hsu hrd hrd3 hlen
      obtain ⟨x, hx⟩ : ∃ x, wkOf p k = x := ⟨_, rfl⟩
      obtain ⟨m, hm⟩ : ∃ m, (ndOf p k).length = m := ⟨_, rfl⟩
      rw [hx, hm] at hcl hal hI3 ho3
      rw [hx] at c0
      rw [hm] at c1
      clear hx hm hal
      have hsz3 := ho3.size
      cases r
      · go_wp2_with fail
        refine hcl.mono ?_
        rintro e w9 ⟨rfl, rfl⟩
        clear hcl
        go_wp2
        go_roundw
        case rel => exact ⟨k + 1, by omega, by go_num, by rw [HSU.out]; exact hI3, ho3⟩
        case measure => (simp [intOf]; try omega)
      · go_wp2_with fail
        refine hcl.mono ?_
        rintro e w9 ⟨rfl, rfl⟩
        clear hcl
        obtain ⟨W, hW⟩ : ∃ W, wo.alloc (.cells #[.int .i64 x, .slice ua m uc] 94) = W := ⟨_, rfl⟩
        rw [hW] at hI3 ho3 hsz3
        clear hI ho
        go_wp2_with (at_builtin; refine wpList_push rfl (.tmp 18) (.tmp 20) rfl W w.heap.size _ _ W.heap.size k q hI3 hq (by omega) hsz3 rfl rfl ((Only.refl [] W).alloc _) (World.cell?_alloc_at _ _ _ _ rfl) ?_; intro g cap3 w3 hI4 hO4 hK4)
        rw [← natL_push] at hI4
        have ho4 := Lib.hid (ho3.pushed hI3 (Nat.le_refl _) hO4)
        clear hI3 ho3 hO4 hW
        go_roundw
        case rel => exact ⟨k + 1, by omega, by go_num, by rw [HSU.out]; exact hI4, ho4.out⟩
        case measure => (simp [intOf]; try omega)
    · obtain rfl : k = n := by omega
      obtain ⟨va, vc, rfl, _⟩ := hI.opt
      go_wp2
      go_ret
      exact ⟨_, rfl, by rw [← afterK_all, HL.out]; exact hI, ho⟩

end Go.Proofs.YtoofalchkedciaaGreatDoor

namespace Go.Proofs.YtoofalchkedciaaGreatDoor
open Go.RowKit Go.Deep

theorem flatP_at (p : PlanL) (N : Nat → Value) (n j : Nat) (hj : j < n * 2) : (flatP p N n)[j]? = some (if j % 2 = 0 then .int .i64 (wkOf p (j / 2)) else N (j / 2)) := by
  unfold flatP
  rw [List.getElem?_map, List.getElem?_range hj]
  rfl
theorem flatP_one (p : PlanL) (N : Nat → Value) (n : Nat) (h : ∀ i, i < n → (N i).oneCell' = true) : ∀ y ∈ flatP p N n, y.oneCell' = true := by
  intro y hy
  unfold flatP at hy
  obtain ⟨j, hj, rfl⟩ := List.mem_map.1 hy
  have hj' : j < n * 2 := by simpa using hj
  split
  · rfl
  · exact h _ (by omega)
theorem flatP_set (p : PlanL) (N : Nat → Value) (n i : Nat) (u : Value) (h : i < n) : (flatP p N n).set (i * 2 + 1) u = flatP p (updV N i u) n := by
  apply List.ext_getElem?
  intro j
  by_cases hj : j < n * 2
  · by_cases e : j = i * 2 + 1
    · subst e
      rw [flatP_1 _ _ _ _ h, List.getElem?_set_self (by rw [flatP_len]; omega)]
      simp [updV]
    · rw [List.getElem?_set_ne (Ne.symm e), flatP_at _ _ _ _ hj, flatP_at _ _ _ _ hj]
      split
      · rfl
      · rw [updV, if_neg (by omega)]
  · rw [List.getElem?_eq_none (by rw [List.length_set, flatP_len]; omega), List.getElem?_eq_none (by rw [flatP_len]; omega)]

theorem pairs_at {w : World} {v : Value} {n : Nat} {p : PlanL} {N : Nat → Value} (h : Pairs w v n (fun i => .int .i64 (wkOf p i)) N) (h1 : ∀ i, i < n → (N i).oneCell' = true) : RowAt w v n 2 (flatP p N n) := by
  obtain ⟨a, cap, rfl, hl, hm, h0, h3⟩ := h
  refine ⟨flatP_len _ _ _, flatP_one _ _ _ h1, ?_⟩
  by_cases e : n = 0
  · subst e
    left
    refine ⟨rfl, ?_⟩
    cases a with
    | none => left; rw [h0 rfl]
    | some x => exact .inr ⟨x, cap, rfl⟩
  · obtain ⟨b, off, rfl, _, _⟩ := h3 0 (by omega)
    refine .inr ⟨by omega, b, off, cap, rfl, fun j y hy => ?_⟩
    have hj : j < n * 2 := by
      rcases Nat.lt_or_ge j (n * 2) with hl | hl
      · exact hl
      · rw [List.getElem?_eq_none (by rw [flatP_len]; exact hl)] at hy; cases hy
    obtain ⟨b', off', hb, k0, k1⟩ := h3 (j / 2) (by omega)
    injection hb with hb
    injection hb with e1 e2
    subst e1 e2
    rw [flatP_at _ _ _ _ hj] at hy
    injection hy with hy
    subst hy
    split
    · rw [show off + j / 2 * 2 = off + j by omega] at k0; exact k0
    · rw [show off + j / 2 * 2 + 1 = off + j by omega] at k1; exact k1

set_option maxHeartbeats 1000000 in
set_option maxRecDepth 100000 in
theorem clone_plan (v : Value) (n : Nat) (ys : List Value) (w : World) (h : RowAt w v n 2 ys) (hl : n ≤ 1000000) :
    Calls Tryz.prog 131 #[v] w fun e w' => ∃ v', e = .returned v' ∧ w'.ownsRow w.heap.size 94 2 v' n ys ∧ Only [] w w' := by
  have hnil := fun (a : Option Addr) (n c : Nat) (w : World) => Lib.run_eql_slice_nil (P := Tryz.prog) w 23 94 a n c 0 0 Tryz.underlying23
  by_cases hv : v = .slice none 0 0
  · subst hv
    obtain rfl : n = 0 := by
      rcases h.2.2 with ⟨h0, _⟩ | ⟨_, b, off, cap, hb, _⟩
      · exact h0
      · cases hb
    obtain rfl : ys = [] := List.eq_nil_of_length_eq_zero (by simpa using h.1)
    go_enter Tryz.func131, Tryz.ntmps131
    go_wp2
    go_ret
    exact ⟨_, rfl, World.ownsRow_nil _ _ _ _, Only.refl _ _⟩
  · obtain ⟨x, c, rfl⟩ : ∃ x c, v = .slice (some x) n c := by
      rcases h.2.2 with ⟨rfl, rfl | ⟨x, c, rfl⟩⟩ | ⟨_, b, off, cap, rfl, _⟩
      · exact absurd rfl hv
      · exact ⟨x, c, rfl⟩
      · exact ⟨_, _, rfl⟩
    have ho := (Only.refl [] w).alloc (.cells #[] 94)
    have hown : (w.alloc (.cells #[] 94)).ownsRow w.heap.size 94 2 (.slice (some ⟨w.heap.size, 0, none⟩) 0 0) 0 [] := ⟨by simp, .inr ⟨w.heap.size, 0, #[], rfl, Nat.le_refl _, heap_alloc_new _ _, Nat.le_refl _, by unfold maxLen; omega, rfl, rfl⟩⟩
    have hh' := h.same ho
    clear h hv
    go_enter Tryz.func131, Tryz.ntmps131
    go_wp2_with (at_builtin; refine wpList_append_rows sliceOf_plan rfl (.tmp 5) (.tmp 6) rfl _ w.heap.size _ 0 [] _ n _ hown hh' (by omega) (by simp) rfl rfl (Only.refl _ _) ?_; intro v' w' hI hO _)
    rw [Nat.zero_add, List.nil_append] at hI
    have ho2 : Only [] w w' := ho.fresh (B := w.heap.size) (hO.mono (by simp [own, Value.ownBlock])) (Nat.le_refl _)
    clear hown hh' hO hnil
    go_wp2
    go_ret
    exact ⟨_, rfl, hI, ho2⟩

set_option maxRecDepth 100000 in
set_option maxHeartbeats 4000000 in
theorem plan_Own (v : Value) (p : PlanL) (w : World) (h : InPlan w v p) (hok : PlanOk p) :
    Calls Tryz.prog 85 #[v] w fun e w' => ∃ v', e = .returned v' ∧ OwnPlan w' w.heap.size (fun x => w.heap.size ≤ x ∧ x < w'.heap.size) v' p ∧ Only [] w w' := by
  have HO := Lib.hid hok
  obtain ⟨n, hn⟩ : ∃ n, p.length = n := ⟨_, rfl⟩
  have HL := Lib.hid hn
  have h30 : n ≤ 30 := by rw [← hn]; exact hok.len
  obtain ⟨N, hp, hrd, _, _⟩ := h
  rw [hn] at hp hrd
  have hN1 : ∀ i, i < n → (N i).oneCell' = true := fun i hi => (hrd i hi).oneCell
  have hcl := clone_plan v n _ w (pairs_at hp hN1) (by omega)
  have HRD := Lib.hid hrd
  have HN1 := Lib.hid hN1
  clear hok hn hp hrd hN1
  go_enter Tryz.func85, Tryz.ntmps85
  go_wp2_with fail
  refine hcl.mono ?_
  rintro e w1 ⟨v1, rfl, hI1, ho1⟩
  clear hcl
  have hsz1 := ho1.size
  obtain ⟨a, cap, rfl, hf1, hf2, hf3⟩ := Row.form hI1
  go_wp2_with fail
  go_loopw [9] (fun vi wr => ∃ i : Nat, i ≤ n ∧ vi = .int .i64 i ∧ ∃ N : Nat → Value, wr.ownsRow w.heap.size 94 2 (.slice a n cap) n (flatP p N n) ∧ (∀ j, j < n → Reads wr (N j) (ndOf p j)) ∧ (∀ j, j < n → (N j).oneCell' = true) ∧
      (∀ j, j < n → ndOf p j ≠ [] → ∀ x ∈ own (N j), (j < i → w.heap.size ≤ x ∧ x < wr.heap.size) ∧ x ∉ own (.slice a n cap)) ∧ Only [] w wr) (fun vi _ => n - (intOf vi).toNat)
  case atStart =>
    refine ⟨0, Nat.zero_le _, rfl, N, hI1, fun j hj => (HRD.out j hj).same ho1, HN1.out, fun j hj h0 x hx => ⟨fun h => by omega, fun hx2 => ?_⟩, ho1⟩
    have h1 := (Row.far hI1 x hx2).1
    have h2 : x < w.heap.size := by
      rcases HRD.out j hj with ⟨h, _⟩ | ⟨_, b, off, c, hv, _, _, hc⟩
      · exact absurd h h0
      · rw [hv] at hx
        obtain rfl : x = b := by simpa [own, Value.ownBlock] using hx
        exact cell_lt (hc 0 (List.length_pos_iff.2 h0))
    omega
  case round =>
    obtain ⟨wo, rfl⟩ : ∃ wo : World, wo = wr := ⟨_, rfl⟩
    clear hI1 HRD HN1
    obtain ⟨i, hi, rfl, N1, hI, hrd, hN, hF, ho⟩ := hrel
    by_cases hin : i < n
    · obtain ⟨g, rfl, _, _⟩ := hf3 (by omega)
      have c0 : wo.cell? ⟨g, i * 2, none⟩ = some (.int .i64 (wkOf p i)) := by rw [World.ownsRow.cellAt hI _ (by omega), flatP_0 _ _ _ _ hin]
      have c1 : wo.cell? ⟨g, i * 2 + 1, none⟩ = some (N1 i) := by rw [World.ownsRow.cellAt hI _ (by omega), flatP_1 _ _ _ _ hin]
      obtain ⟨ua, uc, hu, _⟩ := (hrd i hin).opt
      have hnl : (ndOf p i).length ≤ 30 := by have := HO.out.needs i; rw [HL.out] at this; omega
      have hri := hrd i hin
      rw [hu] at c1 hri
      obtain ⟨x, hx⟩ : ∃ x, wkOf p i = x := ⟨_, rfl⟩
      have HX := Lib.hid hx
      rw [hx] at c0
      obtain ⟨m, hm⟩ : ∃ m, (ndOf p i).length = m := ⟨_, rfl⟩
      rw [hm] at c1 hri hnl
      have HM := Lib.hid hm
      have hal := (Only.refl [] wo).alloc (.cells #[.int .i64 x, .slice ua m uc] 94)
      have hcl := clone_ints _ _ _ (hri.same hal) (by rw [hm]; omega)
      have HH := Lib.hid (And.intro hI (And.intro hrd (And.intro hN (And.intro hF ho))))
      clear hI hrd hN hF hri hx hm hu
      go_wp2_with fail
      refine hcl.mono ?_
      rintro e w2 ⟨v2, rfl, hI2, ho2⟩
      clear hcl
      obtain ⟨hI, hrd, hN, hF, ho⟩ := HH.out
      have hoo2 := hal.trans ho2 (by simp)
      have hI3 := Row.same hI hoo2
      have f1 := World.ownsRow.frozenAt hI3 (i * 2 + 1)
      have c3 : w2.cell? ⟨g, i * 2 + 1, none⟩ = some (N1 i) := by rw [World.ownsRow.cellAt hI3 _ (by omega), flatP_1 _ _ _ _ hin]
      have hgl := Row.far hI g (by simp [own, Value.ownBlock])
      have hrd3 := fun j hj => (hrd j hj).same hoo2
      have hszo := ho.size
      have hsz2 := hoo2.size
      have hv2 : ∀ x ∈ own v2, wo.heap.size < x ∧ x < w2.heap.size := fun x hx => by
        have h1 := hI2.own_lt x hx
        rw [size_alloc] at h1
        omega
      have hrv := hI2.reads
      have h1v := hrv.oneCell
      have hset : Only [g] w2 (w2.setCell ⟨g, i * 2 + 1, none⟩ v2) := (Only.refl _ _).setCell (by simp) _
      have hI4 := (World.ownsRow.stored hI3 (i * 2 + 1) v2).1
      rw [flatP_set _ _ _ _ _ hin] at hI4
      have hss : (w2.setCell ⟨g, i * 2 + 1, none⟩ v2).heap.size = w2.heap.size := by simp [World.setCell]
      have hR4 : ∀ j, j < n → Reads (w2.setCell ⟨g, i * 2 + 1, none⟩ v2) (updV N1 i v2 j) (ndOf p j) := by
        intro j hj
        by_cases e : j = i
        · subst e
          rw [show updV N1 j v2 j = v2 by simp [updV]]
          exact hrv.only' hset (fun _ x hx hx2 => by have := (hv2 x hx).1; simp at hx2; omega)
        · rw [show updV N1 i v2 j = N1 j by simp [updV, e]]
          exact (hrd3 j hj).only' hset (fun h0 x hx hx2 => (hF j hj h0 x hx).2 (by simp at hx2; subst hx2; simp [own, Value.ownBlock]))
      have hN4 : ∀ j, j < n → (updV N1 i v2 j).oneCell' = true := by
        intro j hj
        by_cases e : j = i
        · subst e; rw [show updV N1 j v2 j = v2 by simp [updV]]; exact h1v
        · rw [show updV N1 i v2 j = N1 j by simp [updV, e]]; exact hN j hj
      have hF4 : ∀ j, j < n → ndOf p j ≠ [] → ∀ x ∈ own (updV N1 i v2 j), (j < i + 1 → w.heap.size ≤ x ∧ x < (w2.setCell ⟨g, i * 2 + 1, none⟩ v2).heap.size) ∧ x ∉ own (.slice (some ⟨g, 0, none⟩) n cap) := by
        intro j hj h0 x hx
        rw [hss]
        by_cases e : j = i
        · subst e
          rw [show updV N1 j v2 j = v2 by simp [updV]] at hx
          have := hv2 x hx
          refine ⟨fun _ => by omega, fun hx2 => ?_⟩
          have : x = g := by simpa [own, Value.ownBlock] using hx2
          omega
        · rw [show updV N1 i v2 j = N1 j by simp [updV, e]] at hx
          obtain ⟨h1, h2⟩ := hF j hj h0 x hx
          exact ⟨fun hlt => by have := h1 (by omega); omega, h2⟩
      have ho4 := (ho.trans hoo2 (by simp)).trans hset (fun x hx hl => by simp at hx; subst hx; omega)
      have HH4 := Lib.hid (And.intro hI4 (And.intro hR4 (And.intro hN4 (And.intro hF4 ho4))))
      obtain ⟨va, vc, rfl, _⟩ := hrv.opt
      clear hI hrd hN hF ho hoo2 hI3 hrd3 hv2 hrv h1v hset hI4 hR4 hN4 hF4 ho4 HH hal hI2 ho2
      go_wp2
      go_roundw
      case rel =>
        obtain ⟨hI4, hR4, hN4, hF4, ho4⟩ := HH4.out
        exact ⟨i + 1, by omega, by go_num, _, hI4, hR4, hN4, hF4, ho4⟩
      case measure => (simp [intOf]; try omega)
    · obtain rfl : n = i := by omega
      go_wp2
      go_ret
      refine ⟨_, rfl, ⟨N1, ?_, ?_, ?_, ?_⟩, ho⟩
      · rw [HL.out]; exact hI
      · rw [HL.out]; exact hrd
      · rw [HL.out]; exact hN
      · rw [HL.out]; exact fun j hj h0 x hx => ⟨(hF j hj h0 x hx).1 hj, (hF j hj h0 x hx).2⟩

end Go.Proofs.YtoofalchkedciaaGreatDoor

namespace Go.Proofs.YtoofalchkedciaaGreatDoor
open Go.RowKit Go.Deep

def Nums (w : World) (A N : Nat) (f : Nat → Int) : Prop := ∀ i, i < N → w.cell? ⟨A, i, none⟩ = some (.int .i64 (f i)) ∧ w.frozen? ⟨A, i, none⟩ = false

theorem Nums.only {w w' : World} {A N : Nat} {f : Nat → Int} {S : List Nat} (h : Nums w A N f) (ho : Only S w w') (hA : A ∉ S) : Nums w' A N f := fun i hi => by
  obtain ⟨h1, h2⟩ := h i hi
  have hl := cell_lt h1
  exact ⟨(ho.cell (p := ⟨A, i, none⟩) hl hA).trans h1, (ho.frozen (p := ⟨A, i, none⟩) hl hA).trans h2⟩

def updI (f : Nat → Int) (j : Nat) (x : Int) : Nat → Int := fun i => if i = j then x else f i

theorem Nums.set {w : World} {A N : Nat} {f : Nat → Int} (h : Nums w A N f) (j : Nat) (x : Int) :
    Nums (w.setCell ⟨A, j, none⟩ (.int .i64 x)) A N (updI f j x) := fun i hi => by
  obtain ⟨h1, h2⟩ := h i hi
  refine ⟨?_, by rw [World.frozen?_setCell]; exact h2⟩
  unfold updI
  by_cases e : i = j
  · subst e
    rw [World.cell?_setCell_same _ _ _ h1]
    simp
  · rw [World.cell?_setCell_other _ _ _ _ (fun he => e (congrArg Addr.off he).symm), h1]
    simp [e]

theorem Nums.congr {w : World} {A N : Nat} {f g : Nat → Int} (h : Nums w A N f) (e : ∀ i, i < N → f i = g i) : Nums w A N g := fun i hi => by
  rw [← e i hi]; exact h i hi

theorem made_nums (w : World) (n : Nat) : Nums (w.alloc (.cells (madeCells #[.int .i64 0] n) 3)) w.heap.size n (fun _ => 0) := fun i hi => by
  refine ⟨?_, World.frozen?_alloc_at _ _ _ _ rfl⟩
  rw [World.cell?_alloc_new]
  have e := made_list (.int .i64 0) n
  rw [← Array.getElem?_toList, e]
  simp [hi]

/-- The numbers as a list. -/
def numL (n : Nat) (f : Nat → Int) : List Int := (List.range n).map f
theorem numL_len (n : Nat) (f : Nat → Int) : (numL n f).length = n := by simp [numL]
theorem numL_nth (n : Nat) (f : Nat → Int) (i : Nat) (h : i < n) : nth (numL n f) i = f i := by simp [nth, numL, h]

theorem Nums.reads {w : World} {A N : Nat} {f : Nat → Int} (h : Nums w A N f) (hN : N ≤ 1000000) : Reads w (.slice (some ⟨A, 0, none⟩) N N) (numL N f) := by
  by_cases h0 : N = 0
  · subst h0; exact .inl ⟨rfl, .inr ⟨_, 0, rfl, by unfold maxLen; omega⟩⟩
  · refine .inr ⟨by rw [numL_len]; omega, A, 0, N, by rw [numL_len], by rw [numL_len]; exact Nat.le_refl _, by unfold maxLen; omega, fun i hi => ?_⟩
    rw [numL_len] at hi
    rw [Nat.zero_add, (h i hi).1, numL_nth _ _ _ hi]

end Go.Proofs.YtoofalchkedciaaGreatDoor

namespace Go.Proofs.YtoofalchkedciaaGreatDoor

/-- How many a task lacks. -/
def lackN (p : PlanL) (D : Nat → Bool) (i : Nat) : Nat := (ndOf p i).countP (fun k => !D k.toNat)
def lackOf (p : PlanL) (D : Nat → Bool) (i : Nat) : Int := (lackN p D i : Int)
/-- How many are not done. -/
def leftN (p : PlanL) (D : Nat → Bool) : Nat := (List.range p.length).countP (fun i => !D i)

theorem countP_up (l : List Int) (hn : l.Nodup) (h0 : ∀ x ∈ l, 0 ≤ x) (D : Nat → Bool) (i : Nat) (hi : D i = false) :
    l.countP (fun k => !D k.toNat) = l.countP (fun k => !upB D i k.toNat) + if (i : Int) ∈ l then 1 else 0 := by
  induction l with
  | nil => simp
  | cons a l ih =>
    have ha := (List.nodup_cons.1 hn).1
    have h1 := ih (List.nodup_cons.1 hn).2 (fun x hx => h0 x (by simp [hx]))
    have ha0 := h0 a (by simp)
    rw [List.countP_cons, List.countP_cons, h1]
    by_cases e : a = (i : Int)
    · subst e
      simp [upB, hi, ha]
    · have e2 : a.toNat ≠ i := by omega
      have e3 : (i : Int) ≠ a := fun h => e h.symm
      simp only [upB, e2, if_false, List.mem_cons, e3, false_or]
      omega

theorem rise_nodup {l : List Int} (h : rising l = true) : l.Nodup := (rising_pair l h).imp (fun h => Int.ne_of_lt h)

theorem lack_up {p : PlanL} (hok : PlanOk p) (D : Nat → Bool) (i : Nat) (hi : D i = false) (k : Nat) : lackN p D k = lackN p (upB D i) k + if (i : Int) ∈ ndOf p k then 1 else 0 :=
  countP_up _ (rise_nodup (hok.rise k)) (fun x hx => (hok.need k x hx).1) D i hi

theorem left_up {p : PlanL} (D : Nat → Bool) (i : Nat) (hi : i < p.length) (hD : D i = false) : leftN p D = leftN p (upB D i) + 1 := by
  unfold leftN
  have key : ∀ n, i < n → (List.range n).countP (fun j => !D j) = (List.range n).countP (fun j => !upB D i j) + 1 := by
    intro n
    induction n with
    | zero => intro h; omega
    | succ n ih =>
      intro h
      rw [List.range_succ, List.countP_append, List.countP_append]
      by_cases e : i = n
      · subst e
        have : (List.range i).countP (fun j => !D j) = (List.range i).countP (fun j => !upB D i j) := by
          refine List.countP_congr fun x hx => ?_
          have : x ≠ i := by have := List.mem_range.1 hx; omega
          simp [upB, this]
        rw [this]
        simp [upB, hD]
      · have h1 := ih (by omega)
        have e2 : n ≠ i := fun h => e h.symm
        rw [h1]
        simp [upB, e2]
        omega
  exact key _ hi

theorem lack_zero (p : PlanL) (D : Nat → Bool) (i : Nat) : lackN p D i = 0 ↔ (ndOf p i).all (fun k => D k.toNat) = true := by
  unfold lackN
  rw [List.countP_eq_zero, List.all_eq_true]
  constructor
  · intro h x hx; have := h x hx; simpa using this
  · intro h x hx; have := h x hx; simpa using this

theorem lack_none (p : PlanL) (i : Nat) : lackN p (fun _ => false) i = (ndOf p i).length := by
  unfold lackN
  simp

theorem lack_le (p : PlanL) (hok : PlanOk p) (D : Nat → Bool) (i : Nat) : lackN p D i ≤ 30 := by
  have h1 := List.countP_le_length (p := fun k => !D k.toNat) (l := ndOf p i)
  have h2 := hok.needs i
  have h3 := hok.len
  unfold lackN
  omega
theorem left_le (p : PlanL) (D : Nat → Bool) : leftN p D ≤ p.length := by
  have h1 := List.countP_le_length (p := fun i => !D i) (l := List.range p.length)
  simpa [leftN] using h1
theorem left_none (p : PlanL) : leftN p (fun _ => false) = p.length := by simp [leftN]

/-- Who is ready. -/
def readyL (p : PlanL) (D : Nat → Bool) : List Nat := (List.range p.length).filter (readyB p D)
/-- Who becomes ready when i is done. -/
def newL (p : PlanL) (D : Nat → Bool) (i : Nat) : List Nat := (afterOf p i).filter (fun k => lackN p (upB D i) k == 0)

theorem ready_lack (p : PlanL) (D : Nat → Bool) (i : Nat) : readyB p D i = (!D i && (lackN p D i == 0)) := by
  unfold readyB
  congr 1
  rw [Bool.eq_iff_iff, ← lack_zero]
  simp

theorem afterOf_mem {p : PlanL} {i : Int} {k : Nat} : k ∈ afterOf p i ↔ k < p.length ∧ i ∈ ndOf p k := by
  simp [afterOf]
theorem afterOf_pair (p : PlanL) (i : Int) : (afterOf p i).Pairwise (· < ·) := List.Pairwise.filter _ (List.pairwise_lt_range (n := p.length))
theorem afterOf_nodup (p : PlanL) (i : Int) : (afterOf p i).Nodup := (afterOf_pair p i).imp (fun h => Nat.ne_of_lt h)
theorem afterOf_len (p : PlanL) (i : Int) : (afterOf p i).length ≤ p.length := by
  have := List.length_filter_le (fun k => (ndOf p k).contains i) (List.range p.length)
  simpa [afterOf] using this

/-- What each lacks while those after i are gone through. -/
def lackMid (p : PlanL) (D : Nat → Bool) (i : Nat) (l : List Nat) (j : Nat) : Int := if j ∈ l then lackOf p (upB D i) j else lackOf p D j
theorem lackMid_nil (p : PlanL) (D : Nat → Bool) (i : Nat) : lackMid p D i [] = lackOf p D := by funext j; simp [lackMid]
theorem lackMid_push (p : PlanL) (D : Nat → Bool) (i : Nat) (l : List Nat) (k : Nat) (hk : k ∉ l) (hi : D i = false) (hok : PlanOk p) (hm : (i : Int) ∈ ndOf p k) :
    lackMid p D i l k = lackOf p D k ∧ lackOf p D k - 1 = lackOf p (upB D i) k ∧ lackMid p D i (l ++ [k]) = updI (lackMid p D i l) k (lackOf p (upB D i) k) := by
  have h1 := lack_up hok D i hi k
  rw [if_pos hm] at h1
  refine ⟨by simp [lackMid, hk], by unfold lackOf; omega, ?_⟩
  funext j
  unfold lackMid updI
  by_cases e : j = k
  · subst e; simp
  · simp [e]
theorem lackMid_all (p : PlanL) (D : Nat → Bool) (i : Nat) (hi : D i = false) (hok : PlanOk p) (j : Nat) (hj : j < p.length) : lackMid p D i (afterOf p i) j = lackOf p (upB D i) j := by
  unfold lackMid
  split
  · rfl
  · rename_i h
    have h1 := lack_up hok D i hi j
    rw [if_neg (fun hm => h (afterOf_mem.2 ⟨hj, hm⟩))] at h1
    unfold lackOf; omega

theorem numL_set (n : Nat) (f : Nat → Int) (k : Nat) (x : Int) (h : k < n) : (numL n f).set k x = numL n (updI f k x) := by
  apply List.ext_getElem?
  intro j
  by_cases e : j = k
  · subst e
    rw [List.getElem?_set_self (by rw [numL_len]; exact h)]
    simp [numL, h, updI]
  · rw [List.getElem?_set_ne (Ne.symm e)]
    unfold numL
    rw [List.getElem?_map, List.getElem?_map]
    by_cases hj : j < n
    · rw [List.getElem?_range hj]; simp [updI, e]
    · rw [List.getElem?_eq_none (by simpa using hj)]; rfl
theorem numL_push (n : Nat) (f : Nat → Int) : numL n f ++ [f n] = numL (n + 1) f := by simp [numL, List.range_succ]
theorem numL_congr (n : Nat) (f g : Nat → Int) (h : ∀ i, i < n → f i = g i) : numL n f = numL n g := by
  unfold numL
  exact List.map_congr_left fun i hi => h i (by simpa using hi)

end Go.Proofs.YtoofalchkedciaaGreatDoor
