/-
  Contract of yardref2.Greedy.
-/
import Derived.Test.YtadjcooemeaaeaaDoorP27BenchTells
import Derived.Test.YtadjcooemeaaeaaDoorP22BenchTells
import Derived.Test.YtadjcooemeaaeaaDoorP23BenchTells
namespace Go.Proofs.YtadjcooemeaaeaaDoor
open Go.RowKit Go.Deep

/-- Which tasks are done, by what is left. -/
def doneL (left : Nat → Int) : Nat → Bool := fun i => decide (left i = 0)

theorem all_same {α : Type} {l : List α} {f g : α → Bool} (h : ∀ x ∈ l, f x = g x) : l.all f = l.all g := by
  induction l with
  | nil => rfl
  | cons a l ih => rw [List.all_cons, List.all_cons, h a (by simp), ih (fun x hx => h x (by simp [hx]))]

theorem ready_gOk {p : PlanL} (hok : PlanOk p) {left : Nat → Int} (hl : ∀ i, i < p.length → 0 ≤ left i) : readyL p (doneL left) = (List.range p.length).filter (gOk p left) := by
  unfold readyL
  refine List.filter_congr fun i hi => ?_
  have hi : i < p.length := by simpa using hi
  unfold readyB gOk doneL
  have h0 := hl i hi
  have e1 : (!decide (left i = 0)) = decide (0 < left i) := by
    by_cases e : left i = 0
    · simp [e]
    · have : 0 < left i := by omega
      simp [e, this]
  rw [e1]
  congr 1
  rw [List.not_any_eq_all_not]
  refine all_same ?_
  intro k hk
  have hk2 := hok.need i k hk
  have h1 := hl k.toNat (by omega)
  by_cases e : left k.toNat = 0
  · simp [e]
  · have : 0 < left k.toNat := by omega
    simp [e, this]

theorem gAt_ready {p : PlanL} (hok : PlanOk p) (hands s : Nat) : gAt p hands s = (readyL p (doneL (gLeft p hands s))).take hands := by
  rw [ready_gOk hok (fun i hi => (gLeft_ge p hands s hok i hi).1)]
  rfl

theorem gLeft_end {p : PlanL} {hands s t : Nat} (h : GEnd p hands s) (ht : s ≤ t) : gLeft p hands t = gLeft p hands s ∧ gAt p hands t = [] ∧ gBits p hands t = gBits p hands s := by
  induction t with
  | zero =>
    obtain rfl : s = 0 := by omega
    exact ⟨rfl, h.1, rfl⟩
  | succ t ih =>
    by_cases e : s = t + 1
    · subst e; exact ⟨rfl, h.1, rfl⟩
    · obtain ⟨h1, h2, h3⟩ := ih (by omega)
      have e1 : gLeft p hands (t + 1) = gLeft p hands t := by
        show decL (gLeft p hands t) (gAt p hands t) = _
        rw [h2]; rfl
      refine ⟨e1.trans h1, ?_, ?_⟩
      · unfold gAt at h2 ⊢
        rw [e1]; exact h2
      · show gBits p hands t ++ rowBits t (gAt p hands t) = _
        rw [h2, rowBits_nil, List.append_nil, h3]

set_option maxRecDepth 100000 in
set_option maxHeartbeats 8000000 in
theorem ref_Greedy (v : Value) (p : PlanL) (hands : Nat) (w : World) (h : InPlan w v p) (hok : PlanOk p) (h1 : 1 ≤ hands) (h6 : hands ≤ 6) :
    Calls Tryd.prog 53 #[v, .int .i64 hands] w fun e w' => ∃ v', e = .returned v' ∧ OwnBits w' w.heap.size v' (gBits p hands 601) ∧ Only [] w w' := by
  have HP := Lib.hid h
  have HO := Lib.hid hok
  have HN := Lib.hid hok.needsOk
  obtain ⟨a, cap, rfl, hc1, hc2, _⟩ := h.task
  obtain ⟨n, hn⟩ : ∃ n, p.length = n := ⟨_, rfl⟩
  have HL := Lib.hid hn
  rw [hn] at hc1 HP ⊢
  have h30 : n ≤ 30 := by rw [← hn]; exact hok.len
  have hmk := make_ints n (by omega)
  have hmb := make_bools n (by omega)
  have hB0 := made_nums w n
  have ho1 := (Only.refl [] w).alloc (.cells (madeCells #[.int .i64 0] n) 3)
  clear h hn hok
  go_enter Tryd.func53, Tryd.ntmps53
  go_wp2_with fail
  go_loopw [7] (fun vi wr => ∃ i : Nat, i ≤ n ∧ vi = .int .i64 i ∧ Nums wr w.heap.size n (fun j => if j < i then wkOf p j else 0) ∧ Only [] w wr ∧ w.heap.size < wr.heap.size) (fun vi _ => n - (intOf vi).toNat)
  case atStart => exact ⟨0, Nat.zero_le _, rfl, hB0.congr (fun i _ => by simp), ho1, by simp⟩
  case round =>
    clear hB0 ho1
    obtain ⟨i, hi, rfl, hB, ho, hgt⟩ := hrel
    by_cases hin : i < n
    · obtain ⟨b, off, rfl⟩ := HP.out.any i (by rw [HL.out]; exact hin)
      obtain ⟨ua, uc, c0, c1, _⟩ := (HP.out.same ho).at i (by rw [HL.out]; exact hin)
      obtain ⟨x, hx⟩ : ∃ x, wkOf p i = x := ⟨_, rfl⟩
      have HX := Lib.hid hx
      rw [hx] at c0
      have cA := (hB i hin).1
      have fA := (hB i hin).2
      have hset : Only [w.heap.size] wr (wr.setCell ⟨w.heap.size, i, none⟩ (.int .i64 x)) := (Only.refl _ _).setCell (by simp) _
      have hB4 := Lib.hid (hB.set i x)
      have ho4 := Lib.hid (ho.trans hset (by simp))
      clear hx hB hset ho c1
      go_wp2
      go_roundw
      case rel =>
        refine ⟨i + 1, by omega, by go_num, hB4.out.congr (fun j hj => ?_), ho4.out, by simp; omega⟩
        unfold updI
        by_cases e : j = i
        · subst e; simp [HX.out]
        · simp only [e, if_false]
          by_cases e2 : j < i
          · rw [if_pos e2, if_pos (by omega)]
          · rw [if_neg e2, if_neg (by omega)]
      case measure => (simp [intOf]; try omega)
    · obtain rfl : n = i := by omega
      have hB2 := hB.congr (g := gLeft p hands 0) (fun j hj => by simp [hj, gLeft])
      obtain ⟨wa, rfl⟩ : ∃ wa : World, wa = wr := ⟨_, rfl⟩
      have hD0 := made_bools wa n
      have hal := (Only.refl [] wa).alloc (.cells (madeCells #[.bool false] n) 4)
      have hB3 := hB2.only hal (by simp)
      have hD3 := hD0.congr (g := doneL (gLeft p hands 0)) (fun j hj => by
        have := HO.out.work j (by rw [HL.out]; exact hj)
        symm
        show decide (wkOf p j = 0) = false
        exact decide_eq_false (by omega))
      have ho3 := ho.trans hal (by simp)
      have hszA : wa.heap.size + 1 ≤ (wa.alloc (.cells (madeCells #[.bool false] n) 4)).heap.size := by simp
      clear hB hB2 hD0 ho hal hin hi
      go_wp2_with fail
      go_loopw [5, 9, 10, 11, 12] (fun vo vs _ _ _ wr => ∃ s : Nat, s ≤ 601 ∧ vs = .int .i64 s ∧ OwnBits wr (wa.heap.size + 1) vo (gBits p hands s) ∧ Nums wr w.heap.size n (gLeft p hands s) ∧ Bools wr wa.heap.size n (doneL (gLeft p hands s)) ∧ wa.heap.size + 1 ≤ wr.heap.size ∧ Only [] w wr) (fun _ vs _ _ _ _ => 601 - (intOf vs).toNat)
      case atStart => exact ⟨0, Nat.zero_le _, rfl, World.ownsRow_nil _ _ _ _, hB3, hD3, hszA, ho3⟩
      case round =>
        clear hB3 hD3 hszA ho3
        obtain ⟨wo, rfl⟩ : ∃ wo : World, wo = wr := ⟨_, rfl⟩
        obtain ⟨s, hs, rfl, hO, hB, hD, hsz, ho⟩ := hrel
        by_cases hs1 : s < 601
        · have hR := ref_Ready _ p wa.heap.size n (doneL (gLeft p hands s)) wo (HP.out.same ho) HN.out hD HL.out
          have hat : Hid (gAt p hands s = (readyL p (doneL (gLeft p hands s))).take hands) := gAt_ready HO.out hands s
          have hrm : Hid (∀ x ∈ readyL p (doneL (gLeft p hands s)), x < n ∧ 0 < gLeft p hands s x) := by
            show ∀ x ∈ _, _
            intro x hx
            rw [ready_gOk HO.out (fun i hi => (gLeft_ge p hands s HO.out i hi).1), List.mem_filter] at hx
            exact ⟨by rw [← HL.out]; simpa using hx.1, gOk_pos hx.2⟩
          have hnd : Hid ((readyL p (doneL (gLeft p hands s))).Nodup) := by
            show List.Nodup _
            unfold readyL
            exact List.Nodup.sublist List.filter_sublist List.nodup_range
          have hnum : Hid (∀ j, j < n → 0 ≤ gLeft p hands s j ∧ gLeft p hands s j ≤ 20) := by
            show ∀ j, _
            intro j hj
            exact gLeft_ge p hands s HO.out j (by rw [HL.out]; exact hj)
          have hrl : (readyL p (doneL (gLeft p hands s))).length ≤ 30 := by
            unfold readyL
            have := List.length_filter_le (readyB p (doneL (gLeft p hands s))) (List.range p.length)
            rw [List.length_range] at this
            have := HL.out
            omega
          obtain ⟨left, hleft⟩ : ∃ l, gLeft p hands s = l := ⟨_, rfl⟩
          have HLEFT := Lib.hid hleft
          rw [hleft] at hB hD hR hat hrm hnd hnum hrl
          obtain ⟨R, hRR⟩ : ∃ R, readyL p (doneL left) = R := ⟨_, rfl⟩
          rw [hRR] at hR hat hrm hnd hrl
          obtain ⟨r, hr⟩ : ∃ r, R.length = r := ⟨_, rfl⟩
          have HRL := Lib.hid hr
          have hqr : ∃ q, q ≤ r ∧ q ≤ hands ∧ (q = r ∨ q = hands) ∧ (R.take hands).length = q ∧ R.take q = R.take hands := by
            by_cases hh : r ≤ hands
            · exact ⟨r, Nat.le_refl _, hh, .inl rfl, by rw [List.length_take, hr]; omega, by rw [List.take_of_length_le (by omega), List.take_of_length_le (by omega)]⟩
            · exact ⟨hands, by omega, Nat.le_refl _, .inr rfl, by rw [List.length_take, hr]; omega, rfl⟩
          obtain ⟨q, hq1, hq2, hq3, hq4, hq5⟩ := hqr
          have HQ4 := Lib.hid hq4
          have HQ5 := Lib.hid hq5
          rw [hr] at hrl
          have hbl := gBits_600 p hands s HO.out
          have hfo := fun x (hx : x ∈ own u5) => (Row.far hO x hx)
          clear hleft hRR hr hq4 hq5
          go_wp2_with fail
          refine hR.mono ?_
          rintro e w2 ⟨vr, rfl, hI, ho2⟩
          clear hR
          have hoo := ho.trans ho2 (by simp)
          have hO2 := Row.only hO ho2 (by simp)
          have hB2 := hB.only ho2 (by simp)
          have hD2 := hD.only ho2 (by simp)
          have hs2 := ho2.size
          have hrl2 : (natL R).length = r := by rw [natL_len]; exact HRL.out
          have hdis : ∀ x ∈ own u5, x ∉ own vr := fun x hx hx2 => by
            have h1 := (hfo x hx).2
            have h2 := (hI.own_lt x hx2).1
            omega
          obtain ⟨va, vc, rfl, hcell⟩ := hI.opt
          rw [hrl2] at hcell hI hdis ⊢
          have HCELL := Lib.hid hcell
          clear hO hB hD ho ho2 hcell hfo
          go_wp2_with fail
          go_loopw [5, 11] (fun vo vh wr => ∃ h : Nat, h ≤ q ∧ vh = .int .i64 h ∧ OwnBits wr (wa.heap.size + 1) vo (gBits p hands s ++ rowBits s (R.take h)) ∧ Nums wr w.heap.size n (decL left (R.take h)) ∧ Bools wr wa.heap.size n (doneL left) ∧ Ints wr wo.heap.size (.slice va r vc) (natL R) ∧ (∀ x ∈ own vo, x ∉ own (.slice va r vc)) ∧ wo.heap.size ≤ wr.heap.size ∧ Only [] w wr) (fun _ vh _ => q - (intOf vh).toNat)
          case atStart => exact ⟨0, Nat.zero_le _, rfl, by simpa [rowBits, OwnBits] using hO2, by simpa [decL] using hB2, hD2, hI, hdis, hs2, hoo⟩
          case round =>
            clear hO2 hB2 hD2 hI hdis hoo hs2
            obtain ⟨h, hh, rfl, hO4, hB4, hD4, hI4, hd4, hs4, ho4⟩ := hrel
            by_cases hhq : h < q
            · have hhl : h < R.length := by rw [HRL.out]; omega
              obtain ⟨g, rfl, _⟩ := HCELL.out h (by omega)
              have ck := hI4.cell h (by rw [hrl2]; omega)
              rw [natL_nth R h hhl] at ck
              have hT1 := Lib.hid (rowBits_take s R h hhl)
              have hT2 := Lib.hid (decL_take left R h hhl)
              have hmem := hrm.out R[h] (List.getElem_mem hhl)
              have hnot : R[h] ∉ R.take h := fun hm => by
                obtain ⟨i, hi, e⟩ := List.getElem_of_mem hm
                rw [List.getElem_take] at e
                have hi' : i < h := by simp at hi; omega
                exact (List.pairwise_iff_getElem.1 hnd.out) i h (by omega) hhl hi' e
              have hval : decL left (R.take h) R[h] = left R[h] := by
                rw [decL_at _ _ (List.Nodup.sublist (List.take_sublist _ _) hnd.out), if_neg hnot]
              obtain ⟨k, hk⟩ : ∃ k, R[h] = k := ⟨_, rfl⟩
              rw [hk] at ck hT1 hT2 hmem hval
              obtain ⟨hkn, hkp⟩ := hmem
              have h20 := (hnum.out k hkn).2
              obtain ⟨y, hy⟩ : ∃ y, left k = y := ⟨_, rfl⟩
              rw [hy] at hkp h20 hval
              rw [hval] at hT2
              have hbl4 : Hid ((gBits p hands s ++ rowBits s (R.take h)).length + 1 ≤ 1000) := by
                show _ ≤ _
                rw [List.length_append, rowBits_len, List.length_take]; omega
              have hp := Lib.hid (flatB_push (gBits p hands s ++ rowBits s (R.take h)) ⟨(s : Int), (h : Int), (k : Int)⟩)
              have hone : Hid (RowAt (wr.alloc (.cells #[.int .i64 s, .int .i64 h, .int .i64 k] 93)) (.slice (some ⟨wr.heap.size, 0, none⟩) 1 1) 1 3 [.int .i64 s, .int .i64 h, .int .i64 k]) :=
                RowAt.one (cs := #[.int .i64 s, .int .i64 h, .int .i64 k]) (heap_alloc_new _ _) rfl (by intro y hy; simp at hy; rcases hy with rfl | rfl | rfl <;> rfl)
              have hgl := (hI4.own_lt g (by simp [own, Value.ownBlock])).2
              have hfar := fun x (hx : x ∈ own u5) => (Row.far hO4 x hx).1
              have hhr : h < r := by omega
              have hhh : h < hands := by omega
              clear hy hk hnot hq3
              go_wp2_with (at_builtin; refine wpList_append_rows sliceOf_bits rfl (.tmp 51) (.tmp 59) rfl wr (wa.heap.size + 1) _ _ _ _ 1 _ hO4 hone.out (by have := hbl4.out; omega) (by omega) rfl rfl ((Only.refl [] wr).alloc _) ?_; intro v5 w5 hI5 hO5 hK5; have hB5 := hB4.only hO5 (fun hx => by have := (Row.far hO4 _ hx).1; omega); have hD5 := hD4.only hO5 (fun hx => by have := (Row.far hO4 _ hx).1; omega); have cA5 := (hB5 k hkn).1; rw [hval] at cA5; have fA5 := (hB5 k hkn).2; have ck5 := (hO5.cell (p := ⟨g, h, none⟩) hgl (fun hx => hd4 _ hx (by simp [own, Value.ownBlock]))).trans ck; clear hO4)
              have ho5 := ho4.trans hO5 (fun x hx hl => by have := hfar x hx; omega)
              have hI6 := hI4.only hO5 (fun g9 h9 hx => hd4 _ hx (own_of h9))
              have hd6 : ∀ x ∈ own v5, x ∉ own (.slice (some ⟨g, 0, none⟩) r vc) := fun x hx hx2 => by
                rcases hK5 x hx with h | h
                · exact hd4 x h hx2
                · have := (hI4.own_lt x hx2).2; omega
              have hs5 := hO5.size
              have hset : Only [w.heap.size] w5 (w5.setCell ⟨w.heap.size, k, none⟩ (.int .i64 (y - 1))) := (Only.refl _ _).setCell (by simp) _
              have hv5 : ∀ x ∈ own v5, wa.heap.size + 1 ≤ x := fun x hx => (Row.far hI5 x hx).1
              have hO7 : Hid (OwnBits (w5.setCell ⟨w.heap.size, k, none⟩ (.int .i64 (y - 1))) (wa.heap.size + 1) v5 (gBits p hands s ++ rowBits s (R.take (h + 1)))) := by
                show OwnBits _ _ _ _
                have h2 := Row.only hI5 hset (fun x hx hx2 => by have := hv5 x hx; simp at hx2; omega)
                rw [hp.out, List.append_assoc, ← hT1.out] at h2
                have h3 : (gBits p hands s ++ rowBits s (R.take h)).length + 1 = (gBits p hands s ++ rowBits s (R.take (h + 1))).length := by rw [hT1.out]; simp; omega
                rw [h3] at h2
                exact h2
              have hB7 := Lib.hid (hB5.set k (y - 1))
              rw [← hT2.out] at hB7
              have hD7 := Lib.hid (hD5.only hset (by simp; omega))
              have hI7 := Lib.hid (hI6.only hset (fun g9 h9 hx => by have := (hI6.own_lt g9 (own_of h9)).1; simp at hx; omega))
              have ho7 := Lib.hid (ho5.trans hset (by simp))
              have hs7 : Hid (wo.heap.size ≤ (w5.setCell ⟨w.heap.size, k, none⟩ (.int .i64 (y - 1))).heap.size) := by show _ ≤ _; have := hset.size; omega
              clear hI5 hO5 hB5 hD5 hI6 ho5 hset hB4 hD4 hI4 ho4
              go_wp2
              go_roundw
              case rel => exact ⟨h + 1, by omega, by go_num, hO7.out, hB7.out, hD7.out, hI7.out, hd6, hs7.out, ho7.out⟩
              case measure => (simp [intOf]; try omega)
            · obtain rfl : q = h := by omega
              have hlft : Hid (gLeft p hands (s + 1) = decL left (R.take q)) := by
                show decL (gLeft p hands s) (gAt p hands s) = _
                rw [HLEFT.out, hat.out, HQ5.out]
              have hbits : gBits p hands (s + 1) = gBits p hands s ++ rowBits s (R.take q) := by
                show gBits p hands s ++ rowBits s (gAt p hands s) = _
                rw [hat.out, HQ5.out]
              rw [← hbits] at hO4
              have hnl : ∀ j, j < n → 0 ≤ gLeft p hands (s + 1) j ∧ gLeft p hands (s + 1) j ≤ 20 := fun j hj => gLeft_ge p hands (s + 1) HO.out j (by rw [HL.out]; exact hj)
              rw [← hlft.out] at hB4
              obtain ⟨left', hleft'⟩ : ∃ l, gLeft p hands (s + 1) = l := ⟨_, rfl⟩
              have HL2 := Lib.hid hleft'
              rw [hleft'] at hB4 hnl
              have HNL := Lib.hid hnl
              have hfo := fun x (hx : x ∈ own u5) => (Row.far hO4 x hx).1
              have HI4 := Lib.hid hI4
              have hOO := Lib.hid hO4
              have hs5 : wa.heap.size + 1 ≤ wr.heap.size := by omega
              obtain ⟨w3, rfl⟩ : ∃ w3 : World, w3 = wr := ⟨_, rfl⟩
              clear hbits hleft' hnl hd4 hI4 hO4 hh hhq
              have hc3 : q < r ∧ q = hands ∨ q = r := by omega
              clear hq3
              rcases hc3 with ⟨h7, h8⟩ | h7
              all_goals
                go_wp2_with fail
                go_loopw [12] (fun vi wr => ∃ i : Nat, i ≤ n ∧ vi = .int .i64 i ∧ Bools wr wa.heap.size n (fun j => if j < i then doneL left' j else doneL left j) ∧ Only [wa.heap.size] w3 wr) (fun vi _ => n - (intOf vi).toNat)
                case atStart => exact ⟨0, Nat.zero_le _, rfl, hD4.congr (fun j _ => by simp), Only.refl _ _⟩
                case round =>
                  clear hD4
                  obtain ⟨i, hi, rfl, hDi, hoi⟩ := hrel
                  by_cases hin : i < n
                  · have hBi := hB4.only hoi (by simp; omega)
                    have cL := (hBi i hin).1
                    have cD := (hDi i hin).1
                    have fD := (hDi i hin).2
                    have hD7 := fun b => Lib.hid (hDi.set i b)
                    have ho7 := fun b => Lib.hid (hoi.setCell (p := ⟨wa.heap.size, i, none⟩) (by simp) (.bool b))
                    have hdl : Hid (doneL left' i = decide (left' i = 0)) := rfl
                    obtain ⟨y, hy⟩ : ∃ y, left' i = y := ⟨_, rfl⟩
                    rw [hy] at cL hdl
                    clear hy hBi hDi hoi hB4
                    have hsetc : ∀ b : Bool, b = decide (y = 0) → ∀ j, j < n → (if j = i then b else if j < i then doneL left' j else doneL left j) = if j < i + 1 then doneL left' j else doneL left j := by
                      intro b hb j hj
                      by_cases e : j = i
                      · subst e; simp [hdl.out, hb]
                      · rw [if_neg e]
                        by_cases e2 : j < i
                        · rw [if_pos e2, if_pos (by omega)]
                        · rw [if_neg e2, if_neg (by omega)]
                    have HSC := Lib.hid hsetc
                    clear hsetc
                    by_cases hy0 : y = 0
                    · have h1 := HSC.out true (by simp [hy0])
                      have HH := Lib.hid h1
                      subst hy0
                      clear h1
                      go_wp2
                      go_roundw
                      case rel => exact ⟨i + 1, by omega, by go_num, (hD7 true).out.congr HH.out, (ho7 true).out⟩
                      case measure => (simp [intOf]; try omega)
                    · have h1 := HSC.out false (by simp [hy0])
                      have HH := Lib.hid h1
                      have hb0 : (y == 0) = false := by simpa using hy0
                      clear h1 hy0
                      go_wp2
                      go_roundw
                      case rel => exact ⟨i + 1, by omega, by go_num, (hD7 false).out.congr HH.out, (ho7 false).out⟩
                      case measure => (simp [intOf]; try omega)
                  · obtain rfl : n = i := by omega
                    have e1 := Lib.hid (hDi.congr (g := doneL (gLeft p hands (s + 1))) (fun j hj => by rw [if_pos hj, HL2.out]))
                    have e2 := hB4.only hoi (by simp; omega)
                    rw [← HL2.out] at e2
                    have e2 := Lib.hid e2
                    have e3 := Lib.hid (Row.only hOO.out hoi (fun x hx hx2 => by have := hfo x hx; simp at hx2; omega))
                    have e4 := Lib.hid (ho4.trans hoi (fun x hx hl => by simp at hx; omega))
                    have e5 := hoi.size
                    clear hDi hoi hB4 ho4
                    go_wp2
                    go_roundw
                    case rel => exact ⟨s + 1, by omega, by go_num, e3.out, e2.out, e1.out, by omega, e4.out⟩
                    case measure => (simp [intOf]; try omega)
        · obtain rfl : s = 601 := by omega
          have hO9 : Hid (OwnBits wo w.heap.size u5 (gBits p hands 601)) := Row.mono hO (by omega)
          clear hO hB hD
          go_wp2
          go_ret
          exact ⟨_, rfl, hO9.out, ho⟩

end Go.Proofs.YtadjcooemeaaeaaDoor
