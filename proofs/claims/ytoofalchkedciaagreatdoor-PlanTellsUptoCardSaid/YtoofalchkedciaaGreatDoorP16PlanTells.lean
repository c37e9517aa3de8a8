/-
  Contracts of plan.OrderOf and plan.AfterOf.
-/
import Derived.Test.YtoofalchkedciaaGreatDoorP15PlanTells
namespace Go.Proofs.YtoofalchkedciaaGreatDoor
open Go.RowKit Go.Deep

def natL (l : List Nat) : List Int := l.map fun (i : Nat) => (i : Int)
theorem natL_len (l : List Nat) : (natL l).length = l.length := by simp [natL]
theorem natL_push (l : List Nat) (i : Nat) : natL (l ++ [i]) = natL l ++ [(i : Int)] := by simp [natL]
theorem natL_mem {l : List Nat} {i : Nat} : (i : Int) ∈ natL l ↔ i ∈ l := by
  unfold natL
  rw [List.mem_map]
  constructor
  · rintro ⟨a, ha, e⟩
    have : a = i := by omega
    exact this ▸ ha
  · intro h; exact ⟨i, h, rfl⟩
theorem natL_nth (l : List Nat) (k : Nat) (h : k < l.length) : nth (natL l) k = (l[k] : Nat) := by simp [nth, natL, h]

theorem plan_order1 (k : Nat) (dx A n : Nat) (f : Nat → Bool) (w : World) (hd : w.cell? ⟨dx, 0, none⟩ = some (.slice (some ⟨A, 0, none⟩) n n)) (hB : Bools w A n f) (hk : k < n) :
    Calls Tryz.prog 103 #[.int .i64 (k : Int), .pointer (some ⟨dx, 0, none⟩)] w fun e w' => e = .returned (.bool (!f k)) ∧ w = w' := by
  have c := (hB k hk).1
  generalize f k = fk at *
  clear hB
  go_enter Tryz.func103, Tryz.ntmps103
  go_wp2
  go_ret
  exact ⟨rfl, rfl⟩

/-- ready, by way of ContainsFunc. -/
theorem readyB_eq (p : PlanL) (D : Nat → Bool) (i : Nat) : readyB p D i = (!D i && !(ndOf p i).any (fun k => !D k.toNat)) := by
  unfold readyB
  congr 1
  rw [List.not_any_eq_all_not]
  simp

set_option maxRecDepth 100000 in
set_option maxHeartbeats 4000000 in
theorem plan_OrderOf (v : Value) (p : PlanL) (w : World) (h : InPlan w v p) (hok : PlanOk p) :
    Calls Tryz.prog 53 #[v] w fun e w' => ∃ v', e = .returned v' ∧ Ints w' w.heap.size v' (natL (orderOf p)) ∧ Only [] w w' := by
  have HP := Lib.hid h
  have HO := Lib.hid hok
  obtain ⟨a, cap, rfl, hc1, hc2, _⟩ := h.task
  obtain ⟨n, hn⟩ : ∃ n, p.length = n := ⟨_, rfl⟩
  have HL := Lib.hid hn
  rw [hn] at hc1 HP ⊢
  have h30 : n ≤ 30 := by rw [← hn]; exact hok.len
  have hmk := make_bools n (by omega)
  have hB0 := made_bools w n
  have ho1 := ((Only.refl [] w).alloc (.cells (madeCells #[.bool false] n) 4)).alloc (.cells #[.slice (some ⟨w.heap.size, 0, none⟩) n n] 97)
  have hB1 := hB0.only ((Only.refl [] _).alloc (.cells #[.slice (some ⟨w.heap.size, 0, none⟩) n n] 97)) (by simp)
  clear h hn hok hB0
  go_enter Tryz.func53, Tryz.ntmps53
  have hC1 : Cells ((w.alloc (.cells (madeCells #[.bool false] n) 4)).alloc (.cells #[.slice (some ⟨w.heap.size, 0, none⟩) n n] 97)) (w.heap.size + 1) [.slice (some ⟨w.heap.size, 0, none⟩) n n] := by
    have := Cells.new (w.alloc (.cells (madeCells #[.bool false] n) 4)) #[.slice (some ⟨w.heap.size, 0, none⟩) n n] 97
    simpa using this
  have hI1 : Ints ((w.alloc (.cells (madeCells #[.bool false] n) 4)).alloc (.cells #[.slice (some ⟨w.heap.size, 0, none⟩) n n] 97)) (w.heap.size + 2) (.slice none 0 0) (natL (topo p 0)) := Ints.nil _ _
  go_wp2_with fail
  go_loopw [2] (fun vo wo => ∃ k : Nat, k ≤ n ∧ Ints wo (w.heap.size + 2) vo (natL (topo p k)) ∧ Bools wo w.heap.size n (fun j => (topo p k).contains j) ∧ Cells wo (w.heap.size + 1) [.slice (some ⟨w.heap.size, 0, none⟩) n n] ∧ Only [] w wo) (fun vo _ => n - (lenOfV vo))
  case atStart => exact ⟨0, Nat.zero_le _, hI1, hB1, hC1, ho1⟩
  case round =>
    obtain ⟨wo, rfl⟩ : ∃ wo : World, wo = wr := ⟨_, rfl⟩
    clear hI1 hB1 hC1 ho1
    obtain ⟨k, hk, hI, hB, hC, ho⟩ := hrel
    have htl := topo_len HO.out k (by rw [HL.out]; exact hk)
    obtain ⟨va, vc, rfl, _⟩ := hI.opt
    rw [natL_len, htl] at hI ⊢
    have hsz := ho.size
    by_cases hkn : k < n
    · go_wp2_with fail
      go_loopw [2, 16] (fun vo vi wr => ∃ i : Nat, i ≤ n ∧ vo = .slice va k vc ∧ vi = .int .i64 i ∧ (∀ j, j < i → readyB p (fun j => (topo p k).contains j) j = false) ∧ Only [] wo wr) (fun _ vi _ => n - (intOf vi).toNat)
      case atStart => exact ⟨0, Nat.zero_le _, rfl, rfl, fun j hj => by omega, Only.refl _ _⟩
      case round =>
        obtain ⟨i, hi, rfl, rfl, hnr, hoi⟩ := hrel
        have HNR := Lib.hid hnr
        clear hnr
        have hoo := ho.trans hoi (by simp)
        by_cases hin : i < n
        · have hBr := hB.only hoi (by simp)
          have hCr := hC.only hoi (by simp)
          obtain ⟨b, off, rfl⟩ := HP.out.any i (by rw [HL.out]; exact hin)
          obtain ⟨ua, uc, c0, c1, hrd⟩ := (HP.out.same hoo).at i (by rw [HL.out]; exact hin)
          have hal := (Only.refl [] wr).alloc (.cells #[.int .i64 (wkOf p i), .slice ua (ndOf p i).length uc] 94)
          have hoa := hoo.trans hal (by simp)
          have hoia := hoi.trans hal (by simp)
          have hB3 := hBr.only hal (by simp)
          have hC3 := hCr.only hal (by simp)
          have hrd3 := hrd.same hal
          have cA : wr.cell? ⟨w.heap.size, i, none⟩ = some (.bool ((topo p k).contains i)) := (hBr i hin).1
          have cA3 : (wr.alloc (.cells #[.int .i64 (wkOf p i), .slice ua (ndOf p i).length uc] 94)).cell? ⟨w.heap.size, i, none⟩ = some (.bool ((topo p k).contains i)) := (hB3 i hin).1
          have fA3 := (hB3 i hin).2
          have cD := hCr.cell 0 _ rfl
          have cD3 := hC3.cell 0 _ rfl
          have hnl : (ndOf p i).length ≤ 30 := by have := HO.out.needs i; rw [HL.out] at this; omega
          obtain ⟨m, hm⟩ : ∃ m, (ndOf p i).length = m := ⟨_, rfl⟩
          have hcl := fn_contains 103 (fun _ _ => by kernel_rfl) #[.pointer (some ⟨w.heap.size + 1, 0, none⟩)] _ _ _ (fun x => !(topo p k).contains x.toNat) hrd3 (by omega)
            (fun x hx dn => by
              have hb := HO.out.need i x hx
              obtain ⟨xn, rfl⟩ := Int.eq_ofNat_of_zero_le hb.1
              rw [HL.out] at hb
              exact (plan_order1 xn (w.heap.size + 1) w.heap.size n (fun j => (topo p k).contains j) _ ((cell_drewN _ dn _).trans cD3) (hB3.only ((Only.refl [] _).drewN dn) (by simp)) (by omega)).mono fun e w' ⟨h1, h2⟩ => ⟨by rw [h1]; rfl, dn, h2.symm⟩)
          have hre := readyB_eq p (fun j => (topo p k).contains j) i
          obtain ⟨fi, hfi⟩ : ∃ b, (topo p k).contains i = b := ⟨_, rfl⟩
          rw [hfi] at cA cA3
          simp only [hfi] at hre
          have HFI := Lib.hid hfi
          have HRE := Lib.hid hre
          rw [hm] at c1 hcl hal hoa hoia hB3 hC3 cA3 fA3 cD3
          clear hrd hrd3 hnl hfi hre hoo
          obtain ⟨x, hx⟩ : ∃ x, wkOf p i = x := ⟨_, rfl⟩
          rw [hx] at c0 hcl hal hoa hoia hB3 hC3 cA3 fA3 cD3
          clear hx hm
          cases fi
          · obtain ⟨r, hr⟩ : ∃ r, (ndOf p i).any (fun x => !(topo p k).contains x.toNat) = r := ⟨_, rfl⟩
            have hcl := hcl r hr
            rw [hr] at HRE
            clear hr
            cases r
            · have hst : Hid (topo p (k + 1) = topo p k ++ [i]) := by
                show _ = _
                obtain ⟨i2, h1, h2, h3, h4⟩ := topo_step HO.out k (by rw [HL.out]; exact hkn) htl
                have : i2 = i := by
                  rcases Nat.lt_trichotomy i2 i with hl | hl | hl
                  · have := HNR.out i2 hl; rw [this] at h2; cases h2
                  · exact hl
                  · have := h3 i hl
                    rw [HRE.out] at this; cases this
                rw [h4, this]
              go_wp2_with fail
              refine hcl.mono ?_
              rintro e w9 ⟨rfl, dn, rfl⟩
              clear hcl
              obtain ⟨W, hW⟩ : ∃ W, ((wr.alloc (.cells #[.int .i64 x, .slice ua m uc] 94)).drewN dn).setCell ⟨w.heap.size, i, none⟩ (.bool true) = W := ⟨_, rfl⟩
              have hset : Only [w.heap.size] ((wr.alloc (.cells #[.int .i64 x, .slice ua m uc] 94)).drewN dn) W := by rw [← hW]; exact (Only.refl _ _).setCell (by simp) _
              have hwW : Only [] w W := (hoa.drewN dn).trans hset (by simp)
              have hIw := (hI.only (hoia.drewN dn) (by simp)).only hset (fun g hg hx => by
                have h1 := (hI.own_lt g (own_of hg)).1
                simp at hx; omega)
              have hBw : Bools W w.heap.size n (fun j => (topo p (k + 1)).contains j) := by
                have h1 := (hB3.only ((Only.refl [] _).drewN dn) (by simp)).set i true
                rw [hW] at h1
                have e : (fun j => if j = i then true else (topo p k).contains j) = fun j => (topo p (k + 1)).contains j := by
                  funext j
                  rw [hst.out]
                  by_cases e : j = i
                  · subst e; simp
                  · simp [e]
                rw [e] at h1
                exact h1
              have hCw : Cells W (w.heap.size + 1) [.slice (some ⟨w.heap.size, 0, none⟩) n n] := (hC3.only ((Only.refl [] _).drewN dn) (by simp)).only hset (by simp)
              have hszW := hCw.lt
              have hlk := natL_len (topo p k)
              clear hset hoa hoia hB3 hC3 hal cD hBr hCr hI hB hC ho hoi
              go_wp2_with (at_builtin; refine wpList_push rfl (.tmp 36) (.tmp 38) rfl W (w.heap.size + 2) _ _ W.heap.size i k hIw (by rw [hlk, htl]) (by omega) (by omega) rfl rfl ((Only.refl [] W).alloc _) (World.cell?_alloc_at _ _ _ _ rfl) ?_; intro g cap3 w3 hI3 hO3 hK3)
              rw [← natL_push, ← hst.out] at hI3
              have hB4 := Lib.hid (hBw.only hO3 (fun hx => by have := (hIw.own_lt _ hx).1; omega))
              have hC4 := Lib.hid (hCw.only hO3 (fun hx => by have := (hIw.own_lt _ hx).1; omega))
              have ho4 := Lib.hid (hwW.trans hO3 (fun x hx hl => by have := (hIw.own_lt _ hx).1; omega))
              clear hIw hBw hCw hO3 hW hwW
              go_roundw
              case rel => exact ⟨k + 1, by omega, hI3, hB4.out, hC4.out, ho4.out⟩
              case measure => (simp [lenOfV]; omega)
            · go_wp2_with fail
              refine hcl.mono ?_
              rintro e w9 ⟨rfl, dn, rfl⟩
              clear hcl
              go_wp2
              go_roundw
              case rel =>
                refine ⟨i + 1, by omega, rfl, by go_num, fun j hj => ?_, hoia.drewN _⟩
                by_cases e : j = i
                · subst e; rw [HRE.out]; rfl
                · exact HNR.out j (by omega)
              case measure => (simp [intOf]; try omega)
          · clear hcl
            go_wp2
            go_roundw
            case rel =>
              refine ⟨i + 1, by omega, rfl, by go_num, fun j hj => ?_, hoia⟩
              by_cases e : j = i
              · subst e; rw [HRE.out]; rfl
              · exact HNR.out j (by omega)
            case measure => (simp [intOf]; try omega)
        · obtain rfl : i = n := by omega
          exfalso
          obtain ⟨i0, h1, h2⟩ := exists_ready HO.out (fun j => (topo p k).contains j) (exists_notin (topo p k) p.length (by rw [htl, HL.out]; exact hkn))
          rw [HNR.out i0 (by rw [← HL.out]; exact h1)] at h2
          cases h2
    · obtain rfl : k = n := by omega
      clear hB hC
      go_wp2
      go_ret
      refine ⟨_, rfl, ?_, ho⟩
      have e : orderOf p = topo p k := by unfold orderOf; rw [HL.out]
      rw [e]
      exact hI.mono (by omega)

end Go.Proofs.YtoofalchkedciaaGreatDoor
