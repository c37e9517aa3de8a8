/-
  Contract of greedy.run.
-/
import Derived.Test.YtocpmncedlenbaaGreatDoorP31TopWeave
import Derived.Test.YtocpmncedlenbaaGreatDoorP38TopWeave
namespace Go.Proofs.YtocpmncedlenbaaGreatDoor
open Go.RowKit Go.Deep

theorem greedy_run1 (k : Nat) (dx A n : Nat) (f : Nat → Int) (w : World) (hd : w.cell? ⟨dx, 0, none⟩ = some (.slice (some ⟨A, 0, none⟩) n n)) (hB : Nums w A n f) (hk : k < n) :
    Calls Tryz.prog 116 #[.int .i64 (k : Int), .pointer (some ⟨dx, 0, none⟩)] w fun e w' => e = .returned (.bool (decide (0 < f k))) ∧ w = w' := by
  have c := (hB k hk).1
  generalize f k = fk at *
  clear hB
  go_enter Tryz.func116, Tryz.ntmps116
  go_wp2
  go_ret
  exact ⟨rfl, rfl⟩

theorem rowBits_take (s : Nat) (row : List Nat) (h : Nat) (hh : h < row.length) : rowBits s (row.take (h + 1)) = rowBits s (row.take h) ++ [⟨(s : Int), (h : Int), ((row[h] : Nat) : Int)⟩] := by
  rw [List.take_succ_eq_append_getElem hh, rowBits_push]
  congr 3
  simp; omega
theorem decL_take (left : Nat → Int) (row : List Nat) (h : Nat) (hh : h < row.length) : decL left (row.take (h + 1)) = updI (decL left (row.take h)) row[h] (decL left (row.take h) row[h] - 1) := by
  rw [List.take_succ_eq_append_getElem hh, decL_push]

set_option maxRecDepth 100000 in
set_option maxHeartbeats 8000000 in
theorem greedy_run (v : Value) (p : PlanL) (hands : Nat) (w : World) (h : InPlan w v p) (hok : PlanOk p) (h1 : 1 ≤ hands) (h6 : hands ≤ 6) :
    Calls Tryz.prog 52 #[v, .int .i64 hands] w fun e w' => ∃ v' s, e = .returned v' ∧ GEnd p hands s ∧ OwnBits w' w.heap.size v' (gBits p hands s) ∧ Only [] w w' := by
  have HP := Lib.hid h
  have HO := Lib.hid hok
  obtain ⟨a, cap, rfl, hc1, hc2, _⟩ := h.task
  obtain ⟨n, hn⟩ : ∃ n, p.length = n := ⟨_, rfl⟩
  have HL := Lib.hid hn
  rw [hn] at hc1 HP ⊢
  have h30 : n ≤ 30 := by rw [← hn]; exact hok.len
  have hmk := make_ints n (by omega)
  have hB0 := made_nums w n
  have ho1 := ((Only.refl [] w).alloc (.cells (madeCells #[.int .i64 0] n) 3)).alloc (.cells #[.slice (some ⟨w.heap.size, 0, none⟩) n n] 32)
  have hB1 := hB0.only ((Only.refl [] _).alloc (.cells #[.slice (some ⟨w.heap.size, 0, none⟩) n n] 32)) (by simp)
  have hC1 : Cells ((w.alloc (.cells (madeCells #[.int .i64 0] n) 3)).alloc (.cells #[.slice (some ⟨w.heap.size, 0, none⟩) n n] 32)) (w.heap.size + 1) [.slice (some ⟨w.heap.size, 0, none⟩) n n] := by
    have := Cells.new (w.alloc (.cells (madeCells #[.int .i64 0] n) 3)) #[.slice (some ⟨w.heap.size, 0, none⟩) n n] 32
    simpa using this
  clear h hn hok hB0
  go_enter Tryz.func52, Tryz.ntmps52
  go_wp2_with fail
  go_loopw [20] (fun vi wr => ∃ i : Nat, i ≤ n ∧ vi = .int .i64 i ∧ Nums wr w.heap.size n (fun j => if j < i then wkOf p j else 0) ∧ Cells wr (w.heap.size + 1) [.slice (some ⟨w.heap.size, 0, none⟩) n n] ∧ Only [] w wr) (fun vi _ => n - (intOf vi).toNat)
  case atStart => exact ⟨0, Nat.zero_le _, rfl, hB1.congr (fun i _ => by simp), hC1, ho1⟩
  case round =>
    clear hB1 hC1 ho1
    obtain ⟨i, hi, rfl, hB, hC, ho⟩ := hrel
    by_cases hin : i < n
    · obtain ⟨b, off, rfl⟩ := HP.out.any i (by rw [HL.out]; exact hin)
      obtain ⟨ua, uc, c0, c1, _⟩ := (HP.out.same ho).at i (by rw [HL.out]; exact hin)
      obtain ⟨x, hx⟩ : ∃ x, wkOf p i = x := ⟨_, rfl⟩
      obtain ⟨m, hm⟩ : ∃ m, (ndOf p i).length = m := ⟨_, rfl⟩
      have HX := Lib.hid hx
      rw [hx] at c0
      rw [hm] at c1
      have hal := (Only.refl [] wr).alloc (.cells #[.int .i64 x, .slice ua m uc] 97)
      have hB3 := hB.only hal (by simp)
      have hC3 := hC.only hal (by simp)
      have cD3 := hC3.cell 0 _ rfl
      have cA3 := (hB3 i hin).1
      have fA3 := (hB3 i hin).2
      have hset : Only [w.heap.size] (wr.alloc (.cells #[.int .i64 x, .slice ua m uc] 97)) ((wr.alloc (.cells #[.int .i64 x, .slice ua m uc] 97)).setCell ⟨w.heap.size, i, none⟩ (.int .i64 x)) := (Only.refl _ _).setCell (by simp) _
      have hB4 := Lib.hid (hB3.set i x)
      have hC4 := Lib.hid (hC3.only hset (by simp))
      have ho4 := Lib.hid ((ho.trans hal (by simp)).trans hset (by simp))
      clear hx hm hal hB hC hB3 hC3 hset ho
      go_wp2
      go_roundw
      case rel =>
        refine ⟨i + 1, by omega, by go_num, hB4.out.congr (fun j hj => ?_), hC4.out, ho4.out⟩
        unfold updI
        by_cases e : j = i
        · subst e; simp [HX.out]
        · simp only [e, if_false]
          by_cases e2 : j < i
          · rw [if_pos e2, if_pos (by omega)]
          · rw [if_neg e2, if_neg (by omega)]
      case measure => (simp [intOf]; try omega)
    · obtain rfl : n = i := by omega
      have hB2 := hB.congr (g := gLeft p hands 0) (fun j hj => by simp [hj, gLeft])
      obtain ⟨wa, rfl⟩ : ∃ wa : World, wa = wr := ⟨_, rfl⟩
      have hlD := hC.lt
      clear hB hin hi
      go_wp2_with fail
      go_loopg [5, 9] (gSum n (wkOf p)) (fun m vb vs wr => ∃ s : Nat, m = gSum n (gLeft p hands s) ∧ vs = .int .i64 s ∧ (∀ t, t < s → gAt p hands t ≠ []) ∧ OwnBits wr (w.heap.size + 2) vb (gBits p hands s) ∧ Nums wr w.heap.size n (gLeft p hands s) ∧ Cells wr (w.heap.size + 1) [.slice (some ⟨w.heap.size, 0, none⟩) n n] ∧ Only [] w wr)
      case atStart => exact ⟨0, rfl, rfl, fun t ht => by omega, World.ownsRow_nil _ _ _ _, hB2, hC, ho⟩
      case round =>
        clear hB2 hC ho hlD
        obtain ⟨wo, rfl⟩ : ∃ wo : World, wo = wr := ⟨_, rfl⟩
        obtain ⟨s, rfl, rfl, hne, hO, hB, hC, ho⟩ := hrel
        have hs600 : s ≤ 600 := Nat.le_trans (gBits_steps p hands s hne) (gBits_600 p hands s HO.out)
        have HNE := Lib.hid hne
        have hlD := hC.lt
        obtain ⟨left, hleft⟩ : ∃ l, gLeft p hands s = l := ⟨_, rfl⟩
        have HLEFT := Lib.hid hleft
        rw [hleft] at hB
        clear hne hleft
        go_wp2_with fail
        go_loopw [10, 35] (fun vrow vi wr => ∃ i : Nat, i ≤ n ∧ vi = .int .i64 i ∧ Ints wr wo.heap.size vrow (natL (gRow p hands left i)) ∧ Only [] wo wr) (fun _ vi _ => n - (intOf vi).toNat)
        case atStart => exact ⟨0, Nat.zero_le _, rfl, by rw [gRow_zero]; exact Ints.nil _ _, Only.refl _ _⟩
        case round =>
          obtain ⟨i, hi, rfl, hI, hoi⟩ := hrel
          have hoo := ho.trans hoi (by simp)
          have hBr := hB.only hoi (by simp)
          have hCr := hC.only hoi (by simp)
          by_cases hin : i < n
          · obtain ⟨b, off, rfl⟩ := HP.out.any i (by rw [HL.out]; exact hin)
            obtain ⟨ua, uc, c0, c1, hrd⟩ := (HP.out.same hoo).at i (by rw [HL.out]; exact hin)
            have hal := (Only.refl [] wr).alloc (.cells #[.int .i64 (wkOf p i), .slice ua (ndOf p i).length uc] 97)
            have hoa := hoo.trans hal (by simp)
            have hoia := hoi.trans hal (by simp)
            have hB3 := hBr.only hal (by simp)
            have hC3 := hCr.only hal (by simp)
            have hrd3 := hrd.same hal
            have hI3 := hI.only hal (by simp)
            have cA3 := (hB3 i hin).1
            have cD3 := hC3.cell 0 _ rfl
            have hnl : (ndOf p i).length ≤ 30 := by have := HO.out.needs i; rw [HL.out] at this; omega
            have hcl := fn_contains 116 (fun _ _ => by kernel_rfl) #[.pointer (some ⟨w.heap.size + 1, 0, none⟩)] _ _ _ (fun x => decide (0 < left x.toNat)) hrd3 (by omega)
              (fun x hx dn => by
                have hb := HO.out.need i x hx
                obtain ⟨xn, rfl⟩ := Int.eq_ofNat_of_zero_le hb.1
                rw [HL.out] at hb
                exact (greedy_run1 xn (w.heap.size + 1) w.heap.size n left _ ((cell_drewN _ dn _).trans cD3) (hB3.only ((Only.refl [] _).drewN dn) (by simp)) (by omega)).mono fun e w' ⟨h1, h2⟩ => ⟨by rw [h1]; rfl, dn, h2.symm⟩)
            have hsu := gRow_succ p hands left i
            have hlen := gRow_le p hands left i
            have hgo : gOk p left i = (decide (0 < left i) && !(ndOf p i).any (fun k => decide (0 < left k.toNat))) := rfl
            obtain ⟨q, hq⟩ : ∃ q, (gRow p hands left i).length = q := ⟨_, rfl⟩
            have hq2 : q ≤ i := by rw [← hq]; exact hlen
            rw [hq] at hsu
            have hql := natL_len (gRow p hands left i)
            rw [hq] at hql
            have HQL := Lib.hid hql
            obtain ⟨va, vc, rfl, _⟩ := hI.opt
            obtain ⟨y, hy⟩ : ∃ y, left i = y := ⟨_, rfl⟩
            rw [hy] at cA3 hgo
            have HSU := Lib.hid hsu
            have HGO := Lib.hid hgo
            obtain ⟨x, hx⟩ : ∃ x, wkOf p i = x := ⟨_, rfl⟩
            obtain ⟨m, hm⟩ : ∃ m, (ndOf p i).length = m := ⟨_, rfl⟩
            rw [hx, hm] at hcl hoa hoia hB3 hC3 hI3 cA3 cD3
            rw [hx] at c0
            rw [hm] at c1
            have HI3 := Lib.hid hI3
            rw [hql] at hI3
            clear hrd hrd3 hnl hsu hgo hoo hoi hBr hCr hx hm hy hq hal hlen
            by_cases hlt : q < hands
            · by_cases hpos : 0 < y
              · obtain ⟨r, hr⟩ : ∃ r, (ndOf p i).any (fun k => decide (0 < left k.toNat)) = r := ⟨_, rfl⟩
                have hcl := hcl r hr
                rw [hr] at HGO
                clear hr
                cases r
                · have hst : Hid (gRow p hands left (i + 1) = gRow p hands left i ++ [i]) := by
                    show _ = _
                    rw [HSU.out, HGO.out, if_pos (by simp [hlt, hpos])]
                  go_wp2_with fail
                  refine hcl.mono ?_
                  rintro e w9 ⟨rfl, dn, rfl⟩
                  clear hcl
                  obtain ⟨W, hW⟩ : ∃ W, (wr.alloc (.cells #[.int .i64 x, .slice ua m uc] 97)).drewN dn = W := ⟨_, rfl⟩
                  have hIw : Ints W wo.heap.size (.slice va q vc) (natL (gRow p hands left i)) := by rw [← hW]; exact hI3.drewN dn
                  have hoiW : Only [] wo W := by rw [← hW]; exact hoia.drewN dn
                  have hszW := hoiW.size
                  clear hoa hoia hB3 hC3 hI hI3 hB hC ho hO cA3 cD3
                  rw [hW]
                  go_wp2_with (at_builtin; refine wpList_push rfl (.tmp 58) (.tmp 60) rfl W wo.heap.size _ _ W.heap.size i q hIw HQL.out (by omega) hszW rfl rfl ((Only.refl [] W).alloc _) (World.cell?_alloc_at _ _ _ _ rfl) ?_; intro g cap3 w3 hI4 hO4 hK4)
                  rw [← natL_push, ← hst.out] at hI4
                  have ho4 := Lib.hid (hoiW.pushed hIw (Nat.le_refl _) hO4)
                  clear hIw hoiW hO4 hW
                  go_roundw
                  case rel => exact ⟨i + 1, by omega, by go_num, hI4, ho4.out⟩
                  case measure => (simp [intOf]; try omega)
                · have hst : Hid (gRow p hands left (i + 1) = gRow p hands left i) := by
                    show _ = _
                    rw [HSU.out, HGO.out, if_neg (by simp)]
                  go_wp2_with fail
                  refine hcl.mono ?_
                  rintro e w9 ⟨rfl, dn, rfl⟩
                  clear hcl
                  go_wp2
                  go_roundw
                  case rel => exact ⟨i + 1, by omega, by go_num, by rw [hst.out]; first | exact hI3.drewN dn | exact HI3.out.drewN dn, hoia.drewN dn⟩
                  case measure => (simp [intOf]; try omega)
              · have hst : Hid (gRow p hands left (i + 1) = gRow p hands left i) := by
                  show _ = _
                  rw [HSU.out, HGO.out, if_neg (by simp; omega)]
                have hpos2 : y ≤ 0 := by omega
                have hdp : decide (0 < y) = false := by simp; omega
                clear hcl hpos
                go_wp2
                go_roundw
                case rel => exact ⟨i + 1, by omega, by go_num, by rw [hst.out]; first | exact hI3 | exact HI3.out, hoia⟩
                case measure => (simp [intOf]; try omega)
            · have hst : Hid (gRow p hands left (i + 1) = gRow p hands left i) := by
                show _ = _
                rw [HSU.out, if_neg (by simp; omega)]
              have hge : hands ≤ q := by omega
              have hdq : decide ((q : Int) < (hands : Int)) = false := by simp; omega
              clear hcl hlt
              go_wp2
              go_roundw
              case rel => exact ⟨i + 1, by omega, by go_num, by rw [hst.out]; first | exact hI3 | exact HI3.out, hoia⟩
              case measure => (simp [intOf]; try omega)
          · obtain rfl : n = i := by omega
            obtain ⟨wb, rfl⟩ : ∃ wb : World, wb = wr := ⟨_, rfl⟩
            have hat : Hid (gAt p hands s = gRow p hands left n) := by show _ = _; unfold gAt; rw [HLEFT.out, HL.out]
            obtain ⟨row, hrow⟩ : ∃ row, gRow p hands left n = row := ⟨_, rfl⟩
            have hrm : ∀ x ∈ row, x < n ∧ 0 < left x := fun x hx => by
              rw [← hrow] at hx
              have := gRow_mem hx
              exact ⟨this.1, gOk_pos this.2⟩
            have hnd : row.Nodup := by rw [← hrow]; exact gRow_nodup _ _ _ _
            have hq6 : row.length ≤ 6 := by rw [← hrow]; have := gRow_len p hands left n; omega
            rw [hrow] at hI hat
            have hO2 := Row.only hO hoi (by simp)
            have hOlt := fun x (hx : x ∈ own u5) => (Row.far hO x hx).2
            clear hrow hin hi hB hC ho hO
            obtain ⟨q, hq⟩ : ∃ q, row.length = q := ⟨_, rfl⟩
            have HQ := Lib.hid hq
            have hql : (natL row).length = q := by rw [natL_len, hq]
            have hsub : ∀ x ∈ own u5, x < wo.heap.size := fun x hx => hOlt x hx
            obtain ⟨va, vc, rfl, hcell⟩ := hI.opt
            rw [hql] at hcell
            have HI := Lib.hid hI
            rw [hql] at hI
            clear hq
            by_cases hq0 : q = 0
            · subst hq0
              have hnil : Hid (gAt p hands s = []) := by show _ = _; rw [hat.out]; exact List.eq_nil_of_length_eq_zero HQ.out
              clear hcell
              go_wp2
              go_ret
              exact ⟨_, s, rfl, ⟨hnil.out, HNE.out⟩, Row.mono hO2 (by omega), hoo⟩
            · have hq1 : 0 < q := by omega
              obtain ⟨g, rfl, _⟩ := hcell 0 hq1
              have hbl := gBits_600 p hands s HO.out
              have hdis : ∀ x ∈ own u5, x ∉ own (.slice (some ⟨g, 0, none⟩) q vc) := fun x hx hx2 => by
                have h1 := hsub x hx
                have h2 := (hI.own_lt x hx2).1
                omega
              have hnum : Hid (∀ j, j < n → 0 ≤ left j ∧ left j ≤ 20) := by
                show ∀ j, _
                intro j hj
                have := gLeft_ge p hands s HO.out j (by rw [HL.out]; exact hj)
                rw [HLEFT.out] at this
                exact this
              have hsz0 := hoo.size
              clear hcell hq0 HI hsub hOlt
              go_wp2_with fail
              go_loopw [5, 69] (fun vb vh wr => ∃ h : Nat, h ≤ q ∧ vh = .int .i64 h ∧ OwnBits wr (w.heap.size + 2) vb (gBits p hands s ++ rowBits s (row.take h)) ∧ Nums wr w.heap.size n (decL left (row.take h)) ∧ Cells wr (w.heap.size + 1) [.slice (some ⟨w.heap.size, 0, none⟩) n n] ∧ Ints wr wo.heap.size (.slice (some ⟨g, 0, none⟩) q vc) (natL row) ∧ (∀ x ∈ own vb, x ∉ own (.slice (some ⟨g, 0, none⟩) q vc)) ∧ Only [] w wr) (fun _ vh _ => q - (intOf vh).toNat)
              case atStart => exact ⟨0, Nat.zero_le _, rfl, by simpa [rowBits, OwnBits] using hO2, by simpa [decL] using hBr, hCr, hI, hdis, hoo⟩
              case round =>
                clear hO2 hBr hCr hI hdis hoo
                obtain ⟨h, hh, rfl, hO4, hB4, hC4, hI4, hd4, ho4⟩ := hrel
                by_cases hhq : h < q
                · have hhl : h < row.length := by rw [HQ.out]; exact hhq
                  have ck := hI4.cell h (by rw [hql]; exact hhq)
                  rw [natL_nth row h hhl] at ck
                  have hT1 := Lib.hid (rowBits_take s row h hhl)
                  have hT2 := Lib.hid (decL_take left row h hhl)
                  have hmem := hrm row[h] (List.getElem_mem hhl)
                  have hnot : row[h] ∉ row.take h := fun hm => by
                    obtain ⟨i, hi, e⟩ := List.getElem_of_mem hm
                    rw [List.getElem_take] at e
                    have hi' : i < h := by simp at hi; omega
                    exact (List.pairwise_iff_getElem.1 hnd) i h (by omega) hhl hi' e
                  have hval : decL left (row.take h) row[h] = left row[h] := by
                    rw [decL_at _ _ (List.Nodup.sublist (List.take_sublist _ _) hnd), if_neg hnot]
                  obtain ⟨k, hk⟩ : ∃ k, row[h] = k := ⟨_, rfl⟩
                  rw [hk] at ck hT1 hT2 hmem hval
                  obtain ⟨hkn, hkp⟩ := hmem
                  have h20 := (hnum.out k hkn).2
                  obtain ⟨y, hy⟩ : ∃ y, left k = y := ⟨_, rfl⟩
                  rw [hy] at hkp h20 hval
                  rw [hval] at hT2
                  have hbl4 : Hid ((gBits p hands s ++ rowBits s (row.take h)).length + 1 ≤ 1000) := by
                    show _ ≤ _
                    rw [List.length_append, rowBits_len, List.length_take]; omega
                  have hp := Lib.hid (flatB_push (gBits p hands s ++ rowBits s (row.take h)) ⟨(s : Int), (h : Int), (k : Int)⟩)
                  have hone : Hid (RowAt (wr.alloc (.cells #[.int .i64 s, .int .i64 h, .int .i64 k] 203)) (.slice (some ⟨wr.heap.size, 0, none⟩) 1 1) 1 3 [.int .i64 s, .int .i64 h, .int .i64 k]) :=
                    RowAt.one (cs := #[.int .i64 s, .int .i64 h, .int .i64 k]) (heap_alloc_new _ _) rfl (by intro y hy; simp at hy; rcases hy with rfl | rfl | rfl <;> rfl)
                  have hlD := hC4.lt
                  have hgl := (hI4.own_lt g (by simp [own, Value.ownBlock])).2
                  have hfar := fun x (hx : x ∈ own u5) => (Row.far hO4 x hx).1
                  clear hy hk hnot hbl
                  go_wp2_with (at_builtin; refine wpList_append_rows sliceOf_bits rfl (.tmp 74) (.tmp 79) rfl wr (w.heap.size + 2) _ _ _ _ 1 _ hO4 hone.out (by have := hbl4.out; omega) (by omega) rfl rfl ((Only.refl [] wr).alloc _) ?_; intro v5 w5 hI5 hO5 hK5; have hB5 := hB4.only hO5 (fun hx => by have := (Row.far hO4 _ hx).1; omega); have hC5 := hC4.only hO5 (fun hx => by have := (Row.far hO4 _ hx).1; omega); have cD5 := hC5.cell 0 _ rfl; have cA5 := (hB5 k hkn).1; rw [hval] at cA5; have fA5 := (hB5 k hkn).2; clear hO4)
                  have ho5 := ho4.trans hO5 (fun x hx hl => by have := hfar x hx; omega)
                  have hI6 := hI4.only hO5 (fun g9 h9 hx => hd4 _ hx (own_of h9))
                  have hd6 : ∀ x ∈ own v5, x ∉ own (.slice (some ⟨g, 0, none⟩) q vc) := fun x hx hx2 => by
                    rcases hK5 x hx with h | h
                    · exact hd4 x h hx2
                    · have := (hI4.own_lt x hx2).2; omega
                  have hset : Only [w.heap.size] w5 (w5.setCell ⟨w.heap.size, k, none⟩ (.int .i64 (y - 1))) := (Only.refl _ _).setCell (by simp) _
                  have hv5 : ∀ x ∈ own v5, w.heap.size + 2 ≤ x := fun x hx => (Row.far hI5 x hx).1
                  have hO7 : Hid (OwnBits (w5.setCell ⟨w.heap.size, k, none⟩ (.int .i64 (y - 1))) (w.heap.size + 2) v5 (gBits p hands s ++ rowBits s (row.take (h + 1)))) := by
                    show OwnBits _ _ _ _
                    have h2 := Row.only hI5 hset (fun x hx hx2 => by have := hv5 x hx; simp at hx2; omega)
                    rw [hp.out, List.append_assoc, ← hT1.out] at h2
                    have h3 : (gBits p hands s ++ rowBits s (row.take h)).length + 1 = (gBits p hands s ++ rowBits s (row.take (h + 1))).length := by rw [hT1.out]; simp; omega
                    rw [h3] at h2
                    exact h2
                  have hB7 := Lib.hid (hB5.set k (y - 1))
                  rw [← hT2.out] at hB7
                  have hC7 := Lib.hid (hC5.only hset (by simp))
                  have hI7 := Lib.hid (hI6.only hset (fun g9 h9 hx => by have := (hI6.own_lt g9 (own_of h9)).1; simp at hx; omega))
                  have ho7 := Lib.hid (ho5.trans hset (by simp))
                  clear hI5 hO5 hB5 hC5 hI6 ho5 hset hB4 hC4 hI4 ho4
                  go_roundw
                  case rel => exact ⟨_, _, _, _, ⟨h + 1, by omega, rfl, hO7.out, hB7.out, hC7.out, hI7.out, hd6, ho7.out⟩, rfl, rfl, rfl, by go_num⟩
                  case measure => (simp [intOf]; try omega)
                · obtain rfl : q = h := by omega
                  have htk : row.take q = row := List.take_of_length_le (by rw [HQ.out]; exact Nat.le_refl _)
                  rw [htk] at hO4 hB4
                  have hne2 : Hid (∀ t, t < s + 1 → gAt p hands t ≠ []) := by
                    show ∀ t, _
                    intro t ht
                    by_cases e : t = s
                    · subst e; rw [hat.out]; intro e; have := HQ.out; rw [e] at this; simp at this; omega
                    · exact HNE.out t (by omega)
                  have hstep := gSum_step p hands s HO.out
                  rw [hat.out, HQ.out, HL.out, HLEFT.out] at hstep
                  have hbits : gBits p hands (s + 1) = gBits p hands s ++ rowBits s row := by rw [gBits, hat.out]
                  have hlft : gLeft p hands (s + 1) = decL left row := by
                    show decL (gLeft p hands s) (gRow p hands (gLeft p hands s) p.length) = _
                    rw [HLEFT.out, HL.out]
                    congr 1
                    have := hat.out
                    unfold gAt at this
                    rw [HLEFT.out, HL.out] at this
                    exact this
                  rw [← hbits] at hO4
                  rw [← hlft] at hB4
                  have HSTEP := Lib.hid hstep
                  clear hstep hbits hlft hd4 hI4 hnum htk
                  go_wp2
                  go_roundg (gSum n (gLeft p hands (s + 1)))
                  case rel => exact ⟨s + 1, rfl, by go_num, hne2.out, hO4, hB4, hC4, ho4⟩
                  case measure => rw [HLEFT.out]; have := HSTEP.out; omega

end Go.Proofs.YtocpmncedlenbaaGreatDoor
