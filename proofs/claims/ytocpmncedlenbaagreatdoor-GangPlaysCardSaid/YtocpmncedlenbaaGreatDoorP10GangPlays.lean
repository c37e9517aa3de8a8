/-
  Contracts of hand.All and spill.All.
  Contracts of slices.Index and slices.Contains at []int.
  Contracts of plan.OrderOf and plan.AfterOf.
  Contract of plan.AfterOf.
-/
import Derived.Test.YtocpmncedlenbaaGreatDoorP8GangPlays
import Derived.Test.YtocpmncedlenbaaGreatDoorP9GangPlays
import Derived.Test.YtocpmncedlenbaaGreatDoorP2GangPlays
import Derived.Test.YtocpmncedlenbaaGreatDoorP6GangPlays
namespace Go.Proofs.YtocpmncedlenbaaGreatDoor
open Go.RowKit Go.Deep

def nearL (near : Int) : List Int := if near < 0 then [] else [near]

set_option maxRecDepth 100000 in
theorem Hand.all (b rb room : Nat) (near : Int) (l : List Int) (w : World) (h : HandIs w b rb near room l) :
    Calls Tryz.prog 88 #[.pointer (some ⟨b, 0, none⟩)] w fun e w' => ∃ v, e = .returned v ∧ Ints w' w.heap.size v (l ++ nearL near) ∧ Only [] w w' := by
  have c0 := h.cells.cell 0 _ rfl
  have c1 := h.cells.cell 1 _ rfl
  have hle := h.ring.le
  have hrm := h.ring.room
  have HH := Lib.hid h
  by_cases hn : near < 0
  · have e : nearL near = [] := by unfold nearL; rw [if_pos hn]
    rw [e, List.append_nil]
    have ha := Ring.all rb room l w h.ring
    clear h e
    go_enter Tryz.func88, Tryz.ntmps88
    go_wp2_with fail
    refine ha.mono ?_
    rintro e w1 ⟨v, rfl, hI, ho⟩
    clear ha
    go_wp2
    go_ret
    exact ⟨_, rfl, hI, ho⟩
  · have e : nearL near = [near] := by unfold nearL; rw [if_neg hn]
    rw [e]
    have hd : decide (near < 0) = false := by simpa using hn
    have h' := h
    clear h e
    go_enter Tryz.func88, Tryz.ntmps88
    have HR := Lib.hid h'.ring
    have HC := Lib.hid h'.cells
    obtain ⟨n, hn'⟩ : ∃ n, l.length = n := ⟨_, rfl⟩
    have hl : n ≤ 16 := by omega
    have HN := Lib.hid hn'
    clear h' c0 c1 hle hrm HH hn' hn
    have c0 := HC.out.cell 0 _ rfl
    have c1 := HC.out.cell 1 _ rfl
    have c1a := (HC.out.only ((Only.refl [] w).alloc (.cells #[.int .i64 near] 3)) (by simp)).cell 1 _ rfl
    go_wp2_with fail
    go_region_law (first
      | (go_simp; go_at_call 143; refine (Ring.all rb room l _ (by first | exact HR.out | exact HR.out.drewN _ | exact (HR.out.only ((Only.refl [] w).alloc _) (by simp)) | exact (HR.out.only ((Only.refl [] w).alloc _) (by simp)).drewN _)).mono ?_; rintro e w1 ⟨v, rfl, hI, ho⟩; obtain ⟨va, vc, rfl, _⟩ := hI.opt; rw [HN.out] at hI ⊢; have q0 := ((show Cells _ b _ by first | exact HC.out | exact HC.out.drewN _ | exact (HC.out.only ((Only.refl [] w).alloc _) (by simp)) | exact (HC.out.only ((Only.refl [] w).alloc _) (by simp)).drewN _).only ho (by simp)).cell 0 _ rfl; have HI := Lib.hid (And.intro (show Ints w1 w.heap.size (.slice va n vc) l from hI.mono (by first | exact Nat.le_refl _ | (simp))) (show Only [] w w1 by first | exact ho | exact (((Only.refl [] w).alloc _).drew).trans ho (by simp) | exact ((Only.refl [] w).alloc _).trans ho (by simp) | exact ((Only.refl [] w).drew).trans ho (by simp))))
      | (refine step_push rfl (.tmp 17) (.tmp 22) rfl w1 w.heap.size _ l w1.heap.size near n HI.out.1 HN.out (by omega) HI.out.2.size rfl rfl (by first | exact (Only.refl [] w1).alloc _ | exact ((Only.refl [] w1).alloc _).drew | exact ((Only.refl [] w1).alloc _).drewN _) (World.cell?_alloc_at _ _ _ _ rfl) ?_; intro g cap2 w5 hI5 hO5 hg5)
      | (refine step_push rfl (.tmp 17) (.tmp 22) rfl w1 w.heap.size _ l w.heap.size near n HI.out.1 HN.out (by omega) HI.out.2.size rfl rfl (by first | exact Only.refl [] w1 | exact (Only.refl [] w1).drew | exact (Only.refl [] w1).drewN _) (by first | exact (ho.cell (p := ⟨w.heap.size, 0, none⟩) (by simp) (by simp)).trans (World.cell?_alloc_at _ _ _ _ rfl)) ?_; intro g cap2 w5 hI5 hO5 hg5))
    all_goals
      have hfar := fun x (hx : x ∈ own (.slice va n vc)) => HI.out.1.own_lt x hx
      have hfin := Lib.hid (And.intro hI5 (HI.out.2.trans hO5 (fun x hx hlt => by have := hfar x hx; omega)))
      clear hI5 hO5 hg5 hfar
      go_wp2
      go_ret
      exact ⟨_, rfl, hfin.out.1, hfin.out.2⟩

set_option maxRecDepth 100000 in
theorem Spill.all (fp : List Nat) (b room : Nat) (all : List Int) (w : World) (h : SpillIs w fp b room all) :
    Calls Tryz.prog 87 #[.pointer (some ⟨b, 0, none⟩)] w fun e w' => ∃ v, e = .returned v ∧ Ints w' w.heap.size v all ∧ Only [] w w' := by
  obtain ⟨rb, hv, r, rfl, hl⟩ := h
  obtain ⟨A, hA⟩ : ∃ A, all.take room = A := ⟨_, rfl⟩
  obtain ⟨H, hH⟩ : ∃ H, all.drop room = H := ⟨_, rfl⟩
  have hAH : A ++ H = all := by rw [← hA, ← hH]; exact List.take_append_drop _ _
  have hlen : A.length + H.length ≤ 60 := by rw [← List.length_append, hAH]; exact hl
  rw [hA, hH] at r
  rw [← hAH]
  have c0 := r.cells.cell 0 _ rfl
  have c2 := r.cells.cell 2 _ rfl
  have HR := Lib.hid r.ring
  have HS := Lib.hid r.heap.reads
  have HC := Lib.hid r.cells
  obtain ⟨n, hn'⟩ : ∃ n, A.length = n := ⟨_, rfl⟩
  have HN := Lib.hid hn'
  have HL := Lib.hid hlen
  obtain ⟨m, hm⟩ : ∃ m, (A ++ H).length = m := ⟨_, rfl⟩
  have HM := Lib.hid hm
  obtain ⟨ha, hc, hve, _⟩ := r.heap.reads.opt
  subst hve
  obtain ⟨k, hk⟩ : ∃ k, H.length = k := ⟨_, rfl⟩
  rw [hk] at c2 HS HC
  clear r hl hA hH hAH hlen hn' hk hm
  go_enter Tryz.func87, Tryz.ntmps87
  go_wp2_with fail
  go_region_law (first
    | (go_simp; go_at_call 143; refine (Ring.all rb room A _ (by first | exact HR.out | exact HR.out.drewN _)).mono ?_; rintro e w1 ⟨v, rfl, hI, ho⟩; obtain ⟨va, vc, rfl, _⟩ := hI.opt; rw [HN.out] at hI ⊢; have q2 := ((show Cells _ b _ by first | exact HC.out | exact HC.out.drewN _).only ho (by simp)).cell 2 _ rfl; have HI := Lib.hid (And.intro (show Ints w1 w.heap.size (.slice va n vc) A from hI.mono (by first | exact Nat.le_refl _ | (simp))) (show Only [] w w1 by first | exact ho | exact ((Only.refl [] w).drew).trans ho (by simp))))
    | (refine step_append_reads rfl (.tmp 7) (.tmp 11) rfl w1 w.heap.size _ A _ H HI.out.1 (HS.out.same HI.out.2) (by have := HL.out; omega) HI.out.2.size rfl rfl (by first | exact Only.refl [] w1 | exact (Only.refl [] w1).drew | exact (Only.refl [] w1).drewN _) ?_; intro v5 w5 hI5 hO5 hg5; obtain ⟨v5a, v5c, rfl, _⟩ := hI5.opt; rw [HM.out] at hI5 ⊢))
  all_goals
    have hfar := fun x (hx : x ∈ own (.slice va n vc)) => HI.out.1.own_lt x hx
    have hfin := Lib.hid (And.intro hI5 (HI.out.2.trans hO5 (fun x hx hlt => by have := hfar x hx; omega)))
    clear hI5 hO5 hg5 hfar
    go_wp2
    go_ret
    exact ⟨_, rfl, hfin.out.1, hfin.out.2⟩

end Go.Proofs.YtocpmncedlenbaaGreatDoor

namespace Go.Proofs.YtocpmncedlenbaaGreatDoor
open Go.RowKit

theorem mem_nth {l : List Int} {x : Int} : x ∈ l ↔ ∃ j, j < l.length ∧ nth l j = x := by
  constructor
  · intro h
    obtain ⟨j, hj, e⟩ := List.getElem_of_mem h
    exact ⟨j, hj, by simp [nth, hj, e]⟩
  · rintro ⟨j, hj, rfl⟩
    simp [nth, hj]

set_option maxHeartbeats 400000 in
theorem index_ints (v : Value) (l : List Int) (x : Int) (w : World) (h : Reads w v l) (hl : l.length ≤ 1000000000) (r : Bool) (hr : decide (x ∈ l) = r) :
    Calls Tryz.prog 171 #[v, .int .i64 x] w fun e w' => (∃ i : Int, e = .returned (.int .i64 i) ∧ decide (0 ≤ i) = r) ∧ w = w' := by
  rcases h with ⟨rfl, hv⟩ | ⟨h0, b, off, cap, rfl, h1, h2, h3⟩
  · obtain rfl : r = false := by simpa using hr.symm
    have hv' : ∃ a c, v = .slice a 0 c := by
      rcases hv with rfl | ⟨y, c, rfl, _⟩
      · exact ⟨_, _, rfl⟩
      · exact ⟨_, _, rfl⟩
    obtain ⟨a, c, rfl⟩ := hv'
    clear hv hr
    go_enter Tryz.func171, Tryz.ntmps171
    go_wp2_with fail
    refine wp_loop_rounds 1 ?_
    rw [rounds_succ]
    go_wp2
    go_ret
    exact ⟨⟨-1, rfl, by decide⟩, rfl⟩
  · have HR := Lib.hid hr
    clear hr
    generalize hn : l.length = n at *
    have Hn := Lib.hid hn
    clear hn
    go_enter Tryz.func171, Tryz.ntmps171
    go_wp2_with fail
    go_loop [8] (fun i => ∃ k : Nat, k ≤ n ∧ i = .int .i64 k ∧ ∀ j, j < k → nth l j ≠ x) (fun i => n - (intOf i).toNat)
    case atStart => exact ⟨0, Nat.zero_le _, rfl, fun j hj => by omega⟩
    case round =>
      obtain ⟨k, hk, rfl, hno⟩ := hrel
      by_cases hlt : k < n
      · have hc := h3 k hlt
        have HNO := Lib.hid hno
        clear h3 hno
        by_cases he : x = nth l k
        · have hq : (x == nth l k) = true := by simpa using he
          have HE := Lib.hid he
          clear he
          go_wp2
          go_ret
          exact ⟨⟨k, rfl, by rw [← HR.out]; simp; exact mem_nth.2 ⟨k, by rw [Hn.out]; exact hlt, HE.out.symm⟩⟩, rfl⟩
        · have hq : (x == nth l k) = false := by simpa using he
          have HE := Lib.hid he
          clear he
          go_wp2
          go_round
          case rel =>
            refine ⟨k + 1, by omega, by go_num, fun j hj => ?_⟩
            by_cases hjk : j = k
            · subst hjk; exact fun e => HE.out e.symm
            · exact HNO.out j (by omega)
          case measure => simp [intOf]; omega
      · obtain rfl : k = n := by omega
        have HNO := Lib.hid hno
        clear h3 hno
        go_wp2
        go_ret
        refine ⟨⟨-1, rfl, ?_⟩, rfl⟩
        rw [← HR.out]
        have : x ∉ l := fun hx => by
          obtain ⟨j, hj, e⟩ := mem_nth.1 hx
          exact HNO.out j (by rw [Hn.out] at hj; exact hj) e
        simp [this]

theorem contains_ints (v : Value) (l : List Int) (x : Int) (w : World) (h : Reads w v l) (hl : l.length ≤ 1000000000) (r : Bool) (hr : decide (x ∈ l) = r) :
    Calls Tryz.prog 135 #[v, .int .i64 x] w fun e w' => e = .returned (.bool r) ∧ w = w' := by
  have HR := Lib.hid hr
  clear hr
  go_enter Tryz.func135, Tryz.ntmps135
  go_wp2_with fail
  refine (index_ints v l x w h hl r HR.out).mono ?_
  rintro e w1 ⟨⟨i, rfl, hi⟩, rfl⟩
  go_wp2
  go_ret
  exact ⟨rfl, rfl⟩

end Go.Proofs.YtocpmncedlenbaaGreatDoor

namespace Go.Proofs.YtocpmncedlenbaaGreatDoor
open Go.RowKit Go.Deep

def natL (l : List Nat) : List Int := l.map fun (i : Nat) => (i : Int)
theorem natL_len (l : List Nat) : (natL l).length = l.length := by simp [natL]
theorem natL_push (l : List Nat) (i : Nat) : natL (l ++ [i]) = natL l ++ [(i : Int)] := by simp [natL]
theorem natL_mem {l : List Nat} {i : Nat} : (i : Int) ∈ natL l ↔ i ∈ l := by
  unfold natL
  rw [List.mem_map]
  constructor
  · rintro ⟨a, ha, e⟩
    have : a = i := by omega
    exact this ▸ ha
  · intro h; exact ⟨i, h, rfl⟩
theorem natL_nth (l : List Nat) (k : Nat) (h : k < l.length) : nth (natL l) k = (l[k] : Nat) := by simp [nth, natL, h]

theorem plan_order1 (k : Nat) (dx A n : Nat) (f : Nat → Bool) (w : World) (hd : w.cell? ⟨dx, 0, none⟩ = some (.slice (some ⟨A, 0, none⟩) n n)) (hB : Bools w A n f) (hk : k < n) :
    Calls Tryz.prog 147 #[.int .i64 (k : Int), .pointer (some ⟨dx, 0, none⟩)] w fun e w' => e = .returned (.bool (!f k)) ∧ w = w' := by
  have c := (hB k hk).1
  generalize f k = fk at *
  clear hB
  go_enter Tryz.func147, Tryz.ntmps147
  go_wp2
  go_ret
  exact ⟨rfl, rfl⟩

/-- ready, by way of ContainsFunc. -/
theorem readyB_eq (p : PlanL) (D : Nat → Bool) (i : Nat) : readyB p D i = (!D i && !(ndOf p i).any (fun k => !D k.toNat)) := by
  unfold readyB
  congr 1
  rw [List.not_any_eq_all_not]
  simp

set_option maxRecDepth 100000 in
set_option maxHeartbeats 4000000 in
theorem plan_OrderOf (v : Value) (p : PlanL) (w : World) (h : InPlan w v p) (hok : PlanOk p) :
    Calls Tryz.prog 96 #[v] w fun e w' => ∃ v', e = .returned v' ∧ Ints w' w.heap.size v' (natL (orderOf p)) ∧ Only [] w w' := by
  have HP := Lib.hid h
  have HO := Lib.hid hok
  obtain ⟨a, cap, rfl, hc1, hc2, _⟩ := h.task
  obtain ⟨n, hn⟩ : ∃ n, p.length = n := ⟨_, rfl⟩
  have HL := Lib.hid hn
  rw [hn] at hc1 HP ⊢
  have h30 : n ≤ 30 := by rw [← hn]; exact hok.len
  have hmk := make_bools n (by omega)
  have hB0 := made_bools w n
  have ho1 := ((Only.refl [] w).alloc (.cells (madeCells #[.bool false] n) 4)).alloc (.cells #[.slice (some ⟨w.heap.size, 0, none⟩) n n] 58)
  have hB1 := hB0.only ((Only.refl [] _).alloc (.cells #[.slice (some ⟨w.heap.size, 0, none⟩) n n] 58)) (by simp)
  clear h hn hok hB0
  go_enter Tryz.func96, Tryz.ntmps96
  have hC1 : Cells ((w.alloc (.cells (madeCells #[.bool false] n) 4)).alloc (.cells #[.slice (some ⟨w.heap.size, 0, none⟩) n n] 58)) (w.heap.size + 1) [.slice (some ⟨w.heap.size, 0, none⟩) n n] := by
    have := Cells.new (w.alloc (.cells (madeCells #[.bool false] n) 4)) #[.slice (some ⟨w.heap.size, 0, none⟩) n n] 58
    simpa using this
  have hI1 : Ints ((w.alloc (.cells (madeCells #[.bool false] n) 4)).alloc (.cells #[.slice (some ⟨w.heap.size, 0, none⟩) n n] 58)) (w.heap.size + 2) (.slice none 0 0) (natL (topo p 0)) := Ints.nil _ _
  go_wp2_with fail
  go_loopw [2] (fun vo wo => ∃ k : Nat, k ≤ n ∧ Ints wo (w.heap.size + 2) vo (natL (topo p k)) ∧ Bools wo w.heap.size n (fun j => (topo p k).contains j) ∧ Cells wo (w.heap.size + 1) [.slice (some ⟨w.heap.size, 0, none⟩) n n] ∧ Only [] w wo) (fun vo _ => n - (lenOfV vo))
  case atStart => exact ⟨0, Nat.zero_le _, hI1, hB1, hC1, ho1⟩
  case round =>
    obtain ⟨wo, rfl⟩ : ∃ wo : World, wo = wr := ⟨_, rfl⟩
    clear hI1 hB1 hC1 ho1
    obtain ⟨k, hk, hI, hB, hC, ho⟩ := hrel
    have htl := topo_len HO.out k (by rw [HL.out]; exact hk)
    obtain ⟨va, vc, rfl, _⟩ := hI.opt
    rw [natL_len, htl] at hI ⊢
    have hsz := ho.size
    by_cases hkn : k < n
    · go_wp2_with fail
      go_loopw [2, 16] (fun vo vi wr => ∃ i : Nat, i ≤ n ∧ vo = .slice va k vc ∧ vi = .int .i64 i ∧ (∀ j, j < i → readyB p (fun j => (topo p k).contains j) j = false) ∧ Only [] wo wr) (fun _ vi _ => n - (intOf vi).toNat)
      case atStart => exact ⟨0, Nat.zero_le _, rfl, rfl, fun j hj => by omega, Only.refl _ _⟩
      case round =>
        obtain ⟨i, hi, rfl, rfl, hnr, hoi⟩ := hrel
        have HNR := Lib.hid hnr
        clear hnr
        have hoo := ho.trans hoi (by simp)
        by_cases hin : i < n
        · have hBr := hB.only hoi (by simp)
          have hCr := hC.only hoi (by simp)
          obtain ⟨b, off, rfl⟩ := HP.out.any i (by rw [HL.out]; exact hin)
          obtain ⟨ua, uc, c0, c1, hrd⟩ := (HP.out.same hoo).at i (by rw [HL.out]; exact hin)
          have hal := (Only.refl [] wr).alloc (.cells #[.int .i64 (wkOf p i), .slice ua (ndOf p i).length uc] 97)
          have hoa := hoo.trans hal (by simp)
          have hoia := hoi.trans hal (by simp)
          have hB3 := hBr.only hal (by simp)
          have hC3 := hCr.only hal (by simp)
          have hrd3 := hrd.same hal
          have cA : wr.cell? ⟨w.heap.size, i, none⟩ = some (.bool ((topo p k).contains i)) := (hBr i hin).1
          have cA3 : (wr.alloc (.cells #[.int .i64 (wkOf p i), .slice ua (ndOf p i).length uc] 97)).cell? ⟨w.heap.size, i, none⟩ = some (.bool ((topo p k).contains i)) := (hB3 i hin).1
          have fA3 := (hB3 i hin).2
          have cD := hCr.cell 0 _ rfl
          have cD3 := hC3.cell 0 _ rfl
          have hnl : (ndOf p i).length ≤ 30 := by have := HO.out.needs i; rw [HL.out] at this; omega
          obtain ⟨m, hm⟩ : ∃ m, (ndOf p i).length = m := ⟨_, rfl⟩
          have hcl := fn_contains 147 (fun _ _ => by kernel_rfl) #[.pointer (some ⟨w.heap.size + 1, 0, none⟩)] _ _ _ (fun x => !(topo p k).contains x.toNat) hrd3 (by omega)
            (fun x hx dn => by
              have hb := HO.out.need i x hx
              obtain ⟨xn, rfl⟩ := Int.eq_ofNat_of_zero_le hb.1
              rw [HL.out] at hb
              exact (plan_order1 xn (w.heap.size + 1) w.heap.size n (fun j => (topo p k).contains j) _ ((cell_drewN _ dn _).trans cD3) (hB3.only ((Only.refl [] _).drewN dn) (by simp)) (by omega)).mono fun e w' ⟨h1, h2⟩ => ⟨by rw [h1]; rfl, dn, h2.symm⟩)
          have hre := readyB_eq p (fun j => (topo p k).contains j) i
          obtain ⟨fi, hfi⟩ : ∃ b, (topo p k).contains i = b := ⟨_, rfl⟩
          rw [hfi] at cA cA3
          simp only [hfi] at hre
          have HFI := Lib.hid hfi
          have HRE := Lib.hid hre
          rw [hm] at c1 hcl hal hoa hoia hB3 hC3 cA3 fA3 cD3
          clear hrd hrd3 hnl hfi hre hoo
          obtain ⟨x, hx⟩ : ∃ x, wkOf p i = x := ⟨_, rfl⟩
          rw [hx] at c0 hcl hal hoa hoia hB3 hC3 cA3 fA3 cD3
          clear hx hm
          cases fi
          · obtain ⟨r, hr⟩ : ∃ r, (ndOf p i).any (fun x => !(topo p k).contains x.toNat) = r := ⟨_, rfl⟩
            have hcl := hcl r hr
            rw [hr] at HRE
            clear hr
            cases r
            · have hst : Hid (topo p (k + 1) = topo p k ++ [i]) := by
                show _ = _
                obtain ⟨i2, h1, h2, h3, h4⟩ := topo_step HO.out k (by rw [HL.out]; exact hkn) htl
                have : i2 = i := by
                  rcases Nat.lt_trichotomy i2 i with hl | hl | hl
                  · have := HNR.out i2 hl; rw [this] at h2; cases h2
                  · exact hl
                  · have := h3 i hl
                    rw [HRE.out] at this; cases this
                rw [h4, this]
              go_wp2_with fail
              refine hcl.mono ?_
              rintro e w9 ⟨rfl, dn, rfl⟩
              clear hcl
              obtain ⟨W, hW⟩ : ∃ W, ((wr.alloc (.cells #[.int .i64 x, .slice ua m uc] 97)).drewN dn).setCell ⟨w.heap.size, i, none⟩ (.bool true) = W := ⟨_, rfl⟩
              have hset : Only [w.heap.size] ((wr.alloc (.cells #[.int .i64 x, .slice ua m uc] 97)).drewN dn) W := by rw [← hW]; exact (Only.refl _ _).setCell (by simp) _
              have hwW : Only [] w W := (hoa.drewN dn).trans hset (by simp)
              have hIw := (hI.only (hoia.drewN dn) (by simp)).only hset (fun g hg hx => by
                have h1 := (hI.own_lt g (own_of hg)).1
                simp at hx; omega)
              have hBw : Bools W w.heap.size n (fun j => (topo p (k + 1)).contains j) := by
                have h1 := (hB3.only ((Only.refl [] _).drewN dn) (by simp)).set i true
                rw [hW] at h1
                have e : (fun j => if j = i then true else (topo p k).contains j) = fun j => (topo p (k + 1)).contains j := by
                  funext j
                  rw [hst.out]
                  by_cases e : j = i
                  · subst e; simp
                  · simp [e]
                rw [e] at h1
                exact h1
              have hCw : Cells W (w.heap.size + 1) [.slice (some ⟨w.heap.size, 0, none⟩) n n] := (hC3.only ((Only.refl [] _).drewN dn) (by simp)).only hset (by simp)
              have hszW := hCw.lt
              have hlk := natL_len (topo p k)
              clear hset hoa hoia hB3 hC3 hal cD hBr hCr hI hB hC ho hoi
              go_wp2_with (at_builtin; refine wpList_push rfl (.tmp 36) (.tmp 38) rfl W (w.heap.size + 2) _ _ W.heap.size i k hIw (by rw [hlk, htl]) (by omega) (by omega) rfl rfl ((Only.refl [] W).alloc _) (World.cell?_alloc_at _ _ _ _ rfl) ?_; intro g cap3 w3 hI3 hO3 hK3)
              rw [← natL_push, ← hst.out] at hI3
              have hB4 := Lib.hid (hBw.only hO3 (fun hx => by have := (hIw.own_lt _ hx).1; omega))
              have hC4 := Lib.hid (hCw.only hO3 (fun hx => by have := (hIw.own_lt _ hx).1; omega))
              have ho4 := Lib.hid (hwW.trans hO3 (fun x hx hl => by have := (hIw.own_lt _ hx).1; omega))
              clear hIw hBw hCw hO3 hW hwW
              go_roundw
              case rel => exact ⟨k + 1, by omega, hI3, hB4.out, hC4.out, ho4.out⟩
              case measure => (simp [lenOfV]; omega)
            · go_wp2_with fail
              refine hcl.mono ?_
              rintro e w9 ⟨rfl, dn, rfl⟩
              clear hcl
              go_wp2
              go_roundw
              case rel =>
                refine ⟨i + 1, by omega, rfl, by go_num, fun j hj => ?_, hoia.drewN _⟩
                by_cases e : j = i
                · subst e; rw [HRE.out]; rfl
                · exact HNR.out j (by omega)
              case measure => (simp [intOf]; try omega)
          · clear hcl
            go_wp2
            go_roundw
            case rel =>
              refine ⟨i + 1, by omega, rfl, by go_num, fun j hj => ?_, hoia⟩
              by_cases e : j = i
              · subst e; rw [HRE.out]; rfl
              · exact HNR.out j (by omega)
            case measure => (simp [intOf]; try omega)
        · obtain rfl : i = n := by omega
          exfalso
          obtain ⟨i0, h1, h2⟩ := exists_ready HO.out (fun j => (topo p k).contains j) (exists_notin (topo p k) p.length (by rw [htl, HL.out]; exact hkn))
          rw [HNR.out i0 (by rw [← HL.out]; exact h1)] at h2
          cases h2
    · obtain rfl : k = n := by omega
      clear hB hC
      go_wp2
      go_ret
      refine ⟨_, rfl, ?_, ho⟩
      have e : orderOf p = topo p k := by unfold orderOf; rw [HL.out]
      rw [e]
      exact hI.mono (by omega)

end Go.Proofs.YtocpmncedlenbaaGreatDoor

namespace Go.Proofs.YtocpmncedlenbaaGreatDoor
open Go.RowKit Go.Deep

/-- Who comes after a task, of the first k. -/
def afterK (p : PlanL) (i : Int) (k : Nat) : List Nat := (List.range k).filter (fun k => (ndOf p k).contains i)
theorem afterK_zero (p : PlanL) (i : Int) : afterK p i 0 = [] := rfl
theorem afterK_succ (p : PlanL) (i : Int) (k : Nat) : afterK p i (k + 1) = if (ndOf p k).contains i then afterK p i k ++ [k] else afterK p i k := by
  unfold afterK
  rw [List.range_succ, List.filter_append]
  cases h : (ndOf p k).contains i <;> simp only [List.filter, h] <;> simp
theorem afterK_all (p : PlanL) (i : Int) : afterK p i p.length = afterOf p i := rfl
theorem afterK_len (p : PlanL) (i : Int) (k : Nat) : (afterK p i k).length ≤ k := by
  have := List.length_filter_le (fun k => (ndOf p k).contains i) (List.range k)
  simpa [afterK] using this

set_option maxRecDepth 100000 in
set_option maxHeartbeats 2000000 in
theorem plan_AfterOf (v : Value) (p : PlanL) (i : Int) (w : World) (h : InPlan w v p) (hok : PlanOk p) :
    Calls Tryz.prog 99 #[v, .int .i64 i] w fun e w' => ∃ v', e = .returned v' ∧ Ints w' w.heap.size v' (natL (afterOf p i)) ∧ Only [] w w' := by
  have HP := Lib.hid h
  have HO := Lib.hid hok
  obtain ⟨a, cap, rfl, hc1, hc2, _⟩ := h.task
  obtain ⟨n, hn⟩ : ∃ n, p.length = n := ⟨_, rfl⟩
  have HL := Lib.hid hn
  rw [hn] at hc1 HP ⊢
  have h30 : n ≤ 30 := by rw [← hn]; exact hok.len
  clear h hn hok
  go_enter Tryz.func99, Tryz.ntmps99
  go_wp2_with fail
  go_loopw [4, 9] (fun vo vi wr => ∃ k : Nat, k ≤ n ∧ vi = .int .i64 k ∧ Ints wr w.heap.size vo (natL (afterK p i k)) ∧ Only [] w wr) (fun _ vi _ => n - (intOf vi).toNat)
  case atStart => exact ⟨0, Nat.zero_le _, rfl, Ints.nil _ _, Only.refl _ _⟩
  case round =>
    obtain ⟨wo, rfl⟩ : ∃ wo : World, wo = wr := ⟨_, rfl⟩
    obtain ⟨k, hk, rfl, hI, ho⟩ := hrel
    have hsz := ho.size
    by_cases hkn : k < n
    · obtain ⟨b, off, rfl⟩ := HP.out.any k (by rw [HL.out]; exact hkn)
      obtain ⟨ua, uc, c0, c1, hrd⟩ := (HP.out.same ho).at k (by rw [HL.out]; exact hkn)
      have hnl : (ndOf p k).length ≤ 30 := by have := HO.out.needs k; rw [HL.out] at this; omega
      have hal := (Only.refl [] wo).alloc (.cells #[.int .i64 (wkOf p k), .slice ua (ndOf p k).length uc] 97)
      have hrd3 := hrd.same hal
      have hI3 := hI.only hal (by simp)
      have ho3 := ho.trans hal (by simp)
      have hsu := afterK_succ p i k
      have hlen := afterK_len p i k
      obtain ⟨q, hq⟩ : ∃ q, (natL (afterK p i k)).length = q := ⟨_, rfl⟩
      have HQ := Lib.hid hq
      have hq2 : q ≤ k := by rw [← hq, natL_len]; exact hlen
      have hcl := contains_ints _ _ i _ hrd3 (by omega)
      obtain ⟨r, hr⟩ : ∃ r, decide (i ∈ ndOf p k) = r := ⟨_, rfl⟩
      have hr2 : (ndOf p k).contains i = r := by rw [← hr]; simp
      have hcl := hcl r hr
      rw [hr2] at hsu
      have HSU := Lib.hid hsu
      clear hr hr2 hsu hrd hrd3 hlen
      obtain ⟨x, hx⟩ : ∃ x, wkOf p k = x := ⟨_, rfl⟩
      obtain ⟨m, hm⟩ : ∃ m, (ndOf p k).length = m := ⟨_, rfl⟩
      rw [hx, hm] at hcl hal hI3 ho3
      rw [hx] at c0
      rw [hm] at c1
      clear hx hm hal
      have hsz3 := ho3.size
      cases r
      · go_wp2_with fail
        refine hcl.mono ?_
        rintro e w9 ⟨rfl, rfl⟩
        clear hcl
        go_wp2
        go_roundw
        case rel => exact ⟨k + 1, by omega, by go_num, by rw [HSU.out]; exact hI3, ho3⟩
        case measure => (simp [intOf]; try omega)
      · go_wp2_with fail
        refine hcl.mono ?_
        rintro e w9 ⟨rfl, rfl⟩
        clear hcl
        obtain ⟨W, hW⟩ : ∃ W, wo.alloc (.cells #[.int .i64 x, .slice ua m uc] 97) = W := ⟨_, rfl⟩
        rw [hW] at hI3 ho3 hsz3
        clear hI ho
        go_wp2_with (at_builtin; refine wpList_push rfl (.tmp 18) (.tmp 20) rfl W w.heap.size _ _ W.heap.size k q hI3 hq (by omega) hsz3 rfl rfl ((Only.refl [] W).alloc _) (World.cell?_alloc_at _ _ _ _ rfl) ?_; intro g cap3 w3 hI4 hO4 hK4)
        rw [← natL_push] at hI4
        have ho4 := Lib.hid (ho3.pushed hI3 (Nat.le_refl _) hO4)
        clear hI3 ho3 hO4 hW
        go_roundw
        case rel => exact ⟨k + 1, by omega, by go_num, by rw [HSU.out]; exact hI4, ho4.out⟩
        case measure => (simp [intOf]; try omega)
    · obtain rfl : k = n := by omega
      obtain ⟨va, vc, rfl, _⟩ := hI.opt
      go_wp2
      go_ret
      exact ⟨_, rfl, by rw [← afterK_all, HL.out]; exact hI, ho⟩

end Go.Proofs.YtocpmncedlenbaaGreatDoor
