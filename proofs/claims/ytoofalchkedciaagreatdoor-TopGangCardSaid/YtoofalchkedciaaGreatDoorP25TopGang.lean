/-
  Contract of a gang's work.
  The library's slices.Grow and slices.Concat at []int.
  Contract of a gang's find.
-/
import Derived.Test.YtoofalchkedciaaGreatDoorP23TopGang
import Derived.Test.YtoofalchkedciaaGreatDoorP5TopGang
import Derived.Test.YtoofalchkedciaaGreatDoorP2TopGang
import Derived.Shelf.Spec.SlicesGrow
namespace Go.Proofs.YtoofalchkedciaaGreatDoor
open Go.RowKit Go.Deep

set_option maxRecDepth 100000 in
theorem gang_unit {w : World} {F : Nat → Prop} {q : GPar} {p : PlanL} {room m : Nat} {s : GSt} (h : GangIs w q p room m s F) (H : GInv p room m s) {i : Nat} (hi : i < m) (ht : 0 ≤ (s.ws i).task) (hl : 1 < (s.ws i).left) :
    Calls Tryz.prog 95 #[.pointer (some ⟨q.G, 0, none⟩), .int .i64 i] w fun e w' => e = .returned (.tuple #[.slice none 0 0, .nilIface]) ∧
      GRel w F w' q p room m ⟨s.done, s.spill, s.row, upW s.ws i ⟨(s.ws i).near, (s.ws i).ring, (s.ws i).task, (s.ws i).left - 1⟩⟩ F := by
  have R := GRel.start h
  obtain ⟨hC, _, hrow, hwk, _, m1, m6, mc, cm, _, _, hok⟩ := R.cells
  obtain ⟨t, htt, htr⟩ := H.task hi ht
  have hlb := (H.left i hi ht).2
  have hw20 := (hok.work t (readyL_mem.1 htr).1).2
  have h20 : (s.ws i).left ≤ 20 := by rw [htt, Int.toNat_natCast] at hlb; omega
  have c4 := hC.cell 4 _ rfl
  have cr := hrow i hi
  have cw := hwk i hi
  have d2 := cw.cell 2 _ rfl
  have f2 := cw.free 2 _ rfl
  have HS := Lib.hid (R.set hi (cw.set 2 (.int .i64 ((s.ws i).left - 1))) ((Only.refl [q.WB i] w).setCell (by simp) _))
  obtain ⟨l, hll⟩ : ∃ l, (s.ws i).left = l := ⟨_, rfl⟩
  rw [hll] at d2 HS hl h20 ⊢
  clear h R hC hrow hwk cw H hlb hll htt htr hok hw20 ht
  go_enter Tryz.func95, Tryz.ntmps95
  go_wp2
  go_ret2
  exact ⟨rfl, HS.out⟩

/-- One deed, in a block of its own. -/
theorem deed_one {w : World} {B base : Nat} (d : Dd) (h : w.heap[B]? = some (.cells #[.int .i64 d.what, .int .i64 d.hand, .int .i64 d.task, .int .i64 d.other] 53 (0, 0))) (hb : base ≤ B) : OwnDeeds w base (.slice (some ⟨B, 0, none⟩) 1 1) [d] :=
  ⟨by simp [flatE, ddCells], .inr ⟨B, 1, _, rfl, hb, h, Nat.le_refl _, by unfold maxLen; omega, rfl, rfl⟩⟩
theorem upW_up (f : Nat → Wk) (h : Nat) (a b : Wk) : upW (upW f h a) h b = upW f h b := by
  funext i; unfold upW; split <;> rfl

set_option maxRecDepth 100000 in
set_option maxHeartbeats 4000000 in
theorem gang_finish {w : World} {F : Nat → Prop} {q : GPar} {p : PlanL} {room m : Nat} {s : GSt} (h : GangIs w q p room m s F) (H : GInv p room m s) {i : Nat} (hi : i < m) (ht : 0 ≤ (s.ws i).task) (hl : ¬ 1 < (s.ws i).left) :
    Calls Tryz.prog 95 #[.pointer (some ⟨q.G, 0, none⟩), .int .i64 i] w fun e w' => ∃ v F', e = .returned (.tuple #[v, .nilIface]) ∧ OwnDeeds w' w.heap.size v (gWork p room s i).2 ∧
      GRel w F w' q p room m (gWork p room s i).1 F' ∧ ∀ x ∈ own v, ¬ F' x := by
  have R := GRel.start h
  obtain ⟨hC, _, hrow, hwk, hFW, m1, m6, mc, cm, r1, _, hok⟩ := R.cells
  obtain ⟨t, htt, htr⟩ := H.task hi ht
  obtain ⟨t1, t2, t3⟩ := readyL_mem.1 htr
  have hrb : readyB p s.done t = true := by rw [ready_lack]; simp [t2, t3]
  have hlb := (H.left i hi ht).1
  have hl1 : (s.ws i).left = 1 := by omega
  have hlt := h.lt
  have HL := Lib.hid hlt
  have c4 := hC.cell 4 _ rfl
  have cr := hrow i hi
  have cw := hwk i hi
  rw [htt, hl1] at cw
  have d1 := cw.cell 1 _ rfl
  have d2 := cw.cell 2 _ rfl
  have f2 := cw.free 2 _ rfl
  have HW := Lib.hid hwk
  have HH := Lib.hid H
  have HR := Lib.hid R
  have HTT := Lib.hid htt
  have hgw : gWork p room s i = (⟨upB s.done t, s.spill ++ (putAll room ⟨(s.ws i).near, (s.ws i).ring, -1, 0⟩ (natL (newL p s.done t))).2, s.row.drop (natL (newL p s.done t)).length, upW s.ws i (putAll room ⟨(s.ws i).near, (s.ws i).ring, -1, 0⟩ (natL (newL p s.done t))).1⟩,
      (⟨4, (i : Int), (t : Int), 0⟩ : Dd) :: (s.row.take (natL (newL p s.done t)).length).map fun k => (⟨6, k, 0, 0⟩ : Dd)) := by
    unfold gWork
    rw [if_neg hl, htt, hl1, Int.toNat_natCast]
    rfl
  obtain ⟨Z, hZ⟩ : ∃ Z, gWork p room s i = Z := ⟨_, rfl⟩
  rw [hZ] at hgw ⊢
  have HZ := Lib.hid hgw
  have hS1 := R.set hi (cw.set 2 (.int .i64 0)) ((Only.refl [q.WB i] w).setCell (by simp) _)
  obtain ⟨W1, hW1⟩ : ∃ W1, w.setCell ⟨q.WB i, 2, none⟩ (.int .i64 0) = W1 := ⟨_, rfl⟩
  rw [hW1] at hS1
  obtain ⟨W2, hW2⟩ : ∃ W2, W1.alloc (.cells #[.int .i64 4, .int .i64 (i : Int), .int .i64 (t : Int), .int .i64 0] 53) = W2 := ⟨_, rfl⟩
  have ho2 : Only [] W1 W2 := by rw [← hW2]; exact (Only.refl [] W1).alloc _
  have hS2 := hS1.same ho2
  have hsz1 : W1.heap.size = w.heap.size := by rw [← hW1]; simp [World.setCell]
  have hsz2 : W2.heap.size = w.heap.size + 1 := by rw [← hW2]; simp [hsz1]
  have hD2 : OwnDeeds W2 w.heap.size (.slice (some ⟨w.heap.size, 0, none⟩) 1 1) [⟨4, (i : Int), (t : Int), 0⟩] := deed_one _ (by rw [← hW2, ← hsz1]; exact heap_alloc_new _ _) (Nat.le_refl _)
  have hB2 := hS2.cells
  have k1 := hB2.1.cell 1 _ rfl
  have e1 := (hB2.2.2.2.1 i hi).cell 1 _ rfl
  simp only [upW_same] at e1
  have HW1 := Lib.hid hW1
  have HW2 := Lib.hid hW2
  have HS2 := Lib.hid hS2
  have HD2 := Lib.hid hD2
  have HSZ := Lib.hid (And.intro hsz1 hsz2)
  have HDN := Lib.hid (fun (W : World) (h : Only [] W2 W) => ((GRel.start hS2.gang).same h).done t t1 hrb)
  clear h R hC hrow hwk H htr hgw hZ hlt ht hl hlb hl1 hW1 hW2 hS1 ho2 hS2 hsz1 hsz2 hD2 hB2 htt
  go_enter Tryz.func95, Tryz.ntmps95
  go_wp2_with fail
  rw [HW1.out, HW2.out]
  go_region_law (first | (go_simp; go_at_call 138; refine (HDN.out _ (by first | exact Only.refl _ _ | exact (Only.refl _ _).drew | exact (Only.refl _ _).drewN _)).mono ?_; rintro e w5 ⟨v, rfl, hI, hS5, hd5⟩; obtain ⟨va, vc, rfl, _⟩ := hI.opt; have hI0 : Ints w5 W2.heap.size (.slice va (natL (newL p s.done t)).length vc) (natL (newL p s.done t)) := hI; clear hI; have hI := hI0; clear hI0))
  all_goals
    have hge : ∀ x ∈ natL (newL p s.done t), 0 ≤ x := natL_ge
    have hln : (natL (newL p s.done t)).length ≤ 30 := by
      rw [natL_len]
      have := List.length_filter_le (fun k => lackN p (upB s.done t) k == 0) (afterOf p t)
      have := afterOf_len p (t : Int)
      have := hok.len
      unfold newL
      omega
    obtain ⟨L, hL⟩ : ∃ L, natL (newL p s.done t) = L := ⟨_, rfl⟩
    obtain ⟨r, hr0⟩ : ∃ r, L.length = r := ⟨_, rfl⟩
    rw [hL] at HZ hI hd5 hge hln ⊢
    rw [hr0] at HZ hI hd5 hln ⊢
    obtain ⟨k0, hk0⟩ : ∃ k0 : Wk, k0 = ⟨(s.ws i).near, (s.ws i).ring, -1, 0⟩ := ⟨_, rfl⟩
    rw [← hk0] at HZ
    have cw5 := hS5.cells.2.2.2.1 i hi
    simp only [upW_same] at cw5
    have hS6 := hS5.set hi (cw5.set 1 (.int .i64 (-1))) ((Only.refl [q.WB i] w5).setCell (by simp) _)
    simp only [upW_same, upW_up] at hS6
    rw [← hk0] at hS6
    have f1 := cw5.free 1 _ rfl
    have g1 := cw5.cell 1 _ rfl
    obtain ⟨w6, hw6⟩ : ∃ w6, w5.setCell ⟨q.WB i, 1, none⟩ (.int .i64 (-1)) = w6 := ⟨_, rfl⟩
    rw [hw6] at hS6
    have hI6 : Ints w6 W2.heap.size (.slice va r vc) L := by
      rw [← hw6]
      exact Ints.only hI ((Only.refl [q.WB i] w5).setCell (by simp) _) (fun g hg hx => by simp at hx; exact hd5 g (own_of hg) (by rw [hx]; exact hFW i hi))
    have hD6 : OwnDeeds w6 w.heap.size (.slice (some ⟨w.heap.size, 0, none⟩) 1 1) [⟨4, (i : Int), (t : Int), 0⟩] := HD2.out.onlyF hS6.only (fun x hx hF => by
      obtain rfl : x = w.heap.size := by simpa [own, Value.ownBlock] using hx
      have := HL.out _ hF; omega)
    have HQ := Lib.hid (GRel.start hS6.gang)
    have HS6 := Lib.hid hS6
    have HI6 := Lib.hid hI6
    have HD6 := Lib.hid hD6
    have HD5 := Lib.hid hd5
    have HGE := Lib.hid hge
    have HR0 := Lib.hid hr0
    have HW6 := Lib.hid hw6
    have HK0 := Lib.hid hk0
    clear hS5 hI hd5 hL hr0 hk0 cw5 hS6 hw6 hI6 hD6 hge HDN HW1 HW2 c4 cr cw d1 d2 f2 k1 e1
    go_wp2_with fail
    rw [HW6.out]
    clear f1 g1
    go_loopw [11, 12, 62] (fun _ _ vi wr => ∃ (j : Nat) (Fj : Nat → Prop), j ≤ r ∧ vi = .int .i64 j ∧ GRel w6 F wr q p room m ⟨upB s.done t, s.spill ++ (putAll room k0 (L.take j)).2, s.row, upW s.ws i (putAll room k0 (L.take j)).1⟩ Fj) (fun _ _ vi _ => r - (intOf vi).toNat)
    case atStart => exact ⟨0, F, Nat.zero_le _, rfl, by rw [List.take_zero, putAll_nil, List.append_nil]; exact HQ.out⟩
    case round =>
      obtain ⟨j, Fj, hj, rfl, Q⟩ := hrel
      by_cases hjr : j < r
      · obtain ⟨wo, rfl⟩ : ∃ wo : World, wo = wr := ⟨_, rfl⟩
        have hx0 : 0 ≤ nth L j := HGE.out _ (by simp [nth, List.getElem?_eq_getElem (show j < L.length by rw [HR0.out]; exact hjr)])
        have hnx : putAll room k0 (L.take (j + 1)) = (wkPut room (putAll room k0 (L.take j)).1 (nth L j), (putAll room k0 (L.take j)).2 ++ handOut (putAll room k0 (L.take j)).1.near room (putAll room k0 (L.take j)).1.ring) := by
          rw [take_succ_nth L j (by rw [HR0.out]; exact hjr), putAll_snoc]; rfl
        have hIj := HI6.out.onlyF Q.only HD5.out
        obtain ⟨va', vc', hv', hcell⟩ := hIj.opt
        injection hv' with ea eb ec
        subst ea
        clear eb ec
        obtain ⟨g, rfl, hg⟩ := hcell j (by rw [HR0.out]; exact hjr)
        have hOl := putAll_len room k0 (L.take j) (fun x hx => HGE.out x (List.mem_of_mem_take hx))
        have hown := HH.out.own_len hi
        have hk0l : (ownW k0).length ≤ (ownW (s.ws i)).length := by
          rw [HK0.out]; unfold ownW; simp [nearL]
        have h30 := hok.len
        have htl : (L.take j).length ≤ r := by rw [List.length_take, HR0.out]; omega
        obtain ⟨x, hx⟩ : ∃ x, nth L j = x := ⟨_, rfl⟩
        obtain ⟨K, hK⟩ : ∃ K, (putAll room k0 (L.take j)).1 = K := ⟨_, rfl⟩
        obtain ⟨O, hO⟩ : ∃ O, (putAll room k0 (L.take j)).2 = O := ⟨_, rfl⟩
        rw [hK, hO] at Q hnx
        rw [hK, hO] at hOl
        rw [hx] at hg hx0 hnx
        have hol2 : (handOut K.near room K.ring).length ≤ K.ring.length := by
          unfold handOut; split
          · simp
          · split
            · simp
            · simp; omega
        have hfit : (s.spill ++ O).length + (handOut K.near room K.ring).length ≤ 60 := by
          have h1 : K.ring.length ≤ (ownW K).length := by unfold ownW; simp only [List.length_append]; omega
          rw [List.length_append]; omega
        clear hOl hown hk0l htl hol2
        have HNX := Lib.hid hnx
        have hC := Q.cells
        have c2 := hC.1.cell 2 _ rfl
        have d0 := (hC.2.2.2.1 i hi).cell 0 _ rfl
        have HPUT := Lib.hid (fun (W : World) (h : Only [] wo W) => (Q.same h).put hi x)
        simp only [upW_same, upW_up] at HPUT
        clear hC hnx Q hIj hcell hK hO hx
        go_wp2_with fail
        go_region_law (first | (go_simp; go_at_call 139; refine (HPUT.out _ (by first | exact Only.refl _ _ | exact (Only.refl _ _).drew | exact (Only.refl _ _).drewN _)).mono ?_; rintro e w7 ⟨v7, rfl, hI7, hS7, hd7⟩; have c7 := hS7.cells.1.cell 2 _ rfl) | (go_simp; go_at_call 89; refine (hS7.spill_put _ _ hI7.reads hd7 hfit).mono ?_; rintro e w8 ⟨rfl, F8, hS8, hk8⟩))
        all_goals
          have hS9 : Hid (GRel w6 F w8 q p room m ⟨upB s.done t, s.spill ++ (putAll room k0 (L.take (j + 1))).2, s.row, upW s.ws i (putAll room k0 (L.take (j + 1))).1⟩ F8) := by
            show GRel _ _ _ _ _ _ _ _ _
            rw [HNX.out, ← List.append_assoc]
            exact hS8
          clear hS8 hS7 hI7 hd7 hk8 c7
          go_wp2_with fail
          go_roundw
          case rel => exact ⟨j + 1, F8, by omega, by go_num, hS9.out⟩
          case measure => (simp [intOf]; try omega)
      · obtain rfl : j = r := by omega
        have htk : L.take j = L := List.take_of_length_le (by rw [HR0.out]; exact Nat.le_refl _)
        rw [htk] at Q
        have c3 := Q.cells.1.cell 3 _ rfl
        have HD9 := Lib.hid (HD6.out.onlyF Q.only (fun x hx hF => by
          obtain rfl : x = w.heap.size := by simpa [own, Value.ownBlock] using hx
          have := HL.out _ hF; omega))
        have hwk := Q.wake j hln
        have HQ9 := Lib.hid Q
        clear Q htk
        go_wp2_with fail
        refine hwk.mono ?_
        rintro e wa ⟨v9, rfl, hI9, F9, hS9, hk9, ho9⟩
        obtain ⟨vb, vd, rfl, hcell⟩ := hI9.opt
        obtain ⟨R, hR⟩ : ∃ R, s.row.take j = R := ⟨_, rfl⟩
        obtain ⟨c, hc0⟩ : ∃ c, R.length = c := ⟨_, rfl⟩
        rw [hR] at hI9 hcell HZ ⊢
        rw [hc0] at hI9 hcell ⊢
        have hrl := HH.out.row_len
        have hc6 : c ≤ 6 := by rw [← hc0, ← hR, List.length_take]; omega
        have hbF : ∀ x, F9 x → x ≠ w.heap.size := fun x hx e => by
          have h1 := HS6.out.only.size
          have h2 := HSZ.out
          rcases hS9.kin x hx with h | h
          · have := HL.out x h; omega
          · omega
        have hD9 : OwnDeeds wa w.heap.size (.slice (some ⟨w.heap.size, 0, none⟩) 1 1) [⟨4, (i : Int), (t : Int), 0⟩] := HD6.out.onlyF hS9.only (fun x hx hF => by
          obtain rfl : x = w.heap.size := by simpa [own, Value.ownBlock] using hx
          have := HL.out _ hF; omega)
        have hbl : w.heap.size < w6.heap.size := by have h1 := HS6.out.only.size; have h2 := HSZ.out; omega
        have hwr := HQ9.out.only.size
        have hw9 := hS9.only.size
        have HS := Lib.hid ((HS2.out.trans HS6.out).trans hS9)
        have HF9 := Lib.hid hS9.gang.lt
        have HBF := Lib.hid hbF
        have HI9 := Lib.hid hI9
        have HCE := Lib.hid hcell
        have HR := Lib.hid hR
        have HC0 := Lib.hid hc0
        have HD := Lib.hid hD9
        clear hI9 hcell hR hc0 hrl hbF hD9 hS9 hk9 ho9 HD9 HQ9 hwk HI6 HD5 HR0 HGE HQ HD6 HD2 HW6 hj hjr c3 HK0
        go_wp2_with fail
        go_loopw [7, 15, 93] (fun vo _ vi wr => ∃ k : Nat, k ≤ c ∧ vi = .int .i64 k ∧ OwnDeeds wr w.heap.size vo (⟨4, (i : Int), (t : Int), 0⟩ :: (R.take k).map fun x => (⟨6, x, 0, 0⟩ : Dd)) ∧ (∀ y ∈ own vo, y = w.heap.size ∨ wa.heap.size ≤ y) ∧ Only [w.heap.size] wa wr) (fun _ _ vi _ => c - (intOf vi).toNat)
        case atStart => exact ⟨0, Nat.zero_le _, rfl, by rw [List.take_zero]; exact HD.out, fun y hy => .inl (by simpa [own, Value.ownBlock] using hy), Only.refl _ _⟩
        case round =>
          obtain ⟨wo, rfl⟩ : ∃ wo : World, wo = wr := ⟨_, rfl⟩
          obtain ⟨k, hk, rfl, hD, hown, ho⟩ := hrel
          obtain ⟨la, lc, rfl, hlc⟩ := Row.form hD
          by_cases hkc : k < c
          · obtain ⟨g, rfl, hg⟩ := HCE.out k hkc
            have hgo := (HI9.out.own_lt g (by simp [own, Value.ownBlock])).1
            have hgl := cell_lt hg
            have hg2 : wo.cell? ⟨g, k, none⟩ = some (.int .i64 (nth R k)) := (ho.cell (p := ⟨g, k, none⟩) hgl (by simp; omega)).trans hg
            obtain ⟨X, hX⟩ : ∃ X, nth R k = X := ⟨_, rfl⟩
            rw [hX] at hg2
            have hone := Lib.hid (RowAt.one (w := wo.alloc (.cells #[.int .i64 6, .int .i64 X, .int .i64 0, .int .i64 0] 53)) (heap_alloc_new _ _) (k := 4) rfl (by simp [Value.oneCell']))
            have hnx := Lib.hid (show (⟨4, (i : Int), (t : Int), 0⟩ : Dd) :: ((R.take (k + 1)).map fun x => (⟨6, x, 0, 0⟩ : Dd)) = (⟨4, (i : Int), (t : Int), 0⟩ :: (R.take k).map fun x => (⟨6, x, 0, 0⟩ : Dd)) ++ [⟨6, X, 0, 0⟩] by
              rw [take_succ_nth R k (by rw [HC0.out]; exact hkc), hX]; simp)
            have hlen : ((⟨4, (i : Int), (t : Int), 0⟩ : Dd) :: ((R.take k).map fun x => (⟨6, x, 0, 0⟩ : Dd))).length = k + 1 := by simp [HC0.out]; omega
            obtain ⟨DS, hDS⟩ : ∃ DS : List Dd, (⟨4, (i : Int), (t : Int), 0⟩ :: (R.take k).map fun x => (⟨6, x, 0, 0⟩ : Dd)) = DS := ⟨_, rfl⟩
            rw [hDS] at hD hnx hlen hlc hown ⊢
            rw [hlen] at hlc hown ⊢
            unfold OwnDeeds at hD
            rw [hlen] at hD
            have hsz : w.heap.size ≤ wo.heap.size := by have := ho.size; omega
            have HLEN := Lib.hid hlen
            have HDo := Lib.hid hD
            have HO := Lib.hid ho
            have HOWN := Lib.hid hown
            clear hg hX hlen hDS hD ho hown
            go_wp2_with (at_builtin; refine wpList_append_rows sliceOf_deeds rfl (.tmp 97) (.tmp 100) rfl wo w.heap.size _ (k + 1) _ _ 1 _ HDo.out hone.out (by omega) hsz rfl rfl ((Only.refl [] wo).alloc _) ?_; intro v3 w3 hI3 hO3 hK3)
            have hD3 : Hid (OwnDeeds w3 w.heap.size v3 (⟨4, (i : Int), (t : Int), 0⟩ :: (R.take (k + 1)).map fun x => (⟨6, x, 0, 0⟩ : Dd))) := by
              show OwnDeeds _ _ _ _
              rw [hnx.out]
              unfold OwnDeeds
              rw [← flatE_push, List.length_append, HLEN.out]
              exact hI3
            have hw3 : Hid (∀ y ∈ own v3, y = w.heap.size ∨ wa.heap.size ≤ y) := fun y hy => by
              rcases hK3 y hy with h | h
              · exact HOWN.out y h
              · right; have := HO.out.size; omega
            have ho3 : Hid (Only [w.heap.size] wa w3) := HO.out.trans hO3 (fun x hx hl => by
              rcases HOWN.out x hx with h | h
              · simp [h]
              · omega)
            clear hI3 hO3 hK3
            go_wp2_with fail
            go_roundw
            case rel => exact ⟨k + 1, by omega, by go_num, hD3.out, hw3.out, ho3.out⟩
            case measure => (simp [intOf]; try omega)
          · obtain rfl : k = c := by omega
            have htk : R.take k = R := List.take_of_length_le (by rw [HC0.out]; exact Nat.le_refl _)
            rw [htk] at hD hown ⊢
            have HDo := Lib.hid hD
            have HNF := Lib.hid hown
            have HFR := Lib.hid (HS.out.fresh ho (fun x hx => by
              obtain rfl : x = w.heap.size := by simpa using hx
              exact ⟨fun h => HBF.out _ h rfl, Nat.le_refl _⟩))
            clear hD hown ho htk hlc
            go_wp2
            go_ret2
            rw [HZ.out]
            exact ⟨_, F9, rfl, HDo.out, HFR.out, fun y hy hF => by
              rcases HNF.out y hy with h | h
              · exact HBF.out y hF h
              · have := HF9.out y hF; omega⟩

end Go.Proofs.YtoofalchkedciaaGreatDoor

namespace Go.Proofs.YtoofalchkedciaaGreatDoor
open Go.RowKit Go.Deep Go.Shelf

def growRen : Go.Shelf.Ren := ⟨fun | 4 => 184 | n => n, fun | 0 => 0 | 3 => 3 | 4 => 4 | 9 => 9 | 20 => 20 | 22 => 31 | 25 => 3 | n => n, fun n => n⟩
theorem growLay : Lays8.n4 Tryz.prog growRen where
  mixed := by kernel_rfl
  f4 := ⟨"slices.Grow[[]int,int]", by decide, Tryz.func184.trans (congrArg some (by kernel_rfl))⟩
  t0 := Tryz.underlying0
  a0 := Tryz.isAgg0
  z0 := Tryz.sizeOf0
  v0 := Tryz.zeroValue0
  t3 := Tryz.underlying3
  a3 := Tryz.isAgg3
  z3 := Tryz.sizeOf3
  v3 := Tryz.zeroValue3
  t4 := Tryz.underlying4
  a4 := Tryz.isAgg4
  z4 := Tryz.sizeOf4
  v4 := Tryz.zeroValue4
  t9 := Tryz.underlying9
  a9 := Tryz.isAgg9
  z9 := Tryz.sizeOf9
  v9 := Tryz.zeroValue9
  t20 := Tryz.underlying20
  a20 := Tryz.isAgg20
  z20 := Tryz.sizeOf20
  v20 := Tryz.zeroValue20
  t22 := Tryz.underlying31
  a22 := Tryz.isAgg31
  z22 := Tryz.sizeOf31
  v22 := Tryz.zeroValue31

theorem grow_nil (n : Nat) (h0 : 0 < n) (hn : n ≤ 1000) (w : World) :
    Calls Tryz.prog 184 #[.slice none 0 0, .int .i64 n] w fun e w' => ∃ v, e = .returned v ∧ Ints w' w.heap.size v [] ∧ Only [] w w' := by
  obtain ⟨i0, hi, a, b, c⟩ := info_int
  refine (Any8.slices_Grow_grow growLay i0 (.int .i64 0) hi a (by omega) none 0 0 n [] w (by omega) (by omega) (by rw [c]; omega) (by omega) (by simp) (by simp) (by simp)).mono ?_
  rintro e w' ⟨rfl, rfl⟩
  have hg := grownCap_le_maxLen w (0 + n) 0 3 (by unfold maxLen; omega)
  have hge := grownCap_ge w (0 + n) 0 3
  refine ⟨_, rfl, ⟨by simp, .inr ⟨w.heap.size, _, _, rfl, Nat.le_refl _, heap_alloc_new _ _, Nat.zero_le _, hg, ?_, by simp⟩⟩, ((Only.refl [] w).drew).alloc _⟩
  simp only [Array.size_append, size_zeroCells]
  show 0 + (0 + n - 0) * 1 + (grownCap w (0 + n) 0 3 - (0 + n)) * 1 = grownCap w (0 + n) 0 3 * 1
  omega

set_option maxRecDepth 100000 in
/-- Two slices of one number each. -/
theorem concat_two (B : Nat) (a1 a2 : Option Addr) (c1 c2 : Nat) (x y : Int) (w : World) (hB : Cells w B [.slice a1 1 c1, .slice a2 1 c2]) (h1 : Reads w (.slice a1 1 c1) [x]) (h2 : Reads w (.slice a2 1 c2) [y]) :
    Calls Tryz.prog 143 #[.slice (some ⟨B, 0, none⟩) 2 2] w fun e w' => ∃ v, e = .returned v ∧ Ints w' w.heap.size v [x, y] ∧ Only [] w w' := by
  have H1 := Lib.hid h1
  have H2 := Lib.hid h2
  have HB := Lib.hid hB
  have b0 := hB.cell 0 _ rfl
  have b1 := hB.cell 1 _ rfl
  clear hB h1 h2
  go_enter Tryz.func143, Tryz.ntmps143
  go_wp2_with fail
  go_loopw [3, 5, 11] (fun vs _ vi wr => ∃ i : Nat, i ≤ 2 ∧ vi = .int .i64 i ∧ vs = .int .i64 i ∧ wr = w) (fun _ _ vi _ => 2 - (intOf vi).toNat)
  case atStart => exact ⟨0, by omega, rfl, rfl, rfl⟩
  case round =>
    obtain ⟨i, hi, rfl, rfl, rfl⟩ := hrel
    have h3 : i = 0 ∨ i = 1 ∨ i = 2 := by omega
    rcases h3 with rfl | rfl | rfl
    · go_wp2_with fail
      go_roundw
      case rel => exact ⟨1, by omega, rfl, by first | rfl | trivial, by first | rfl | trivial⟩
      case measure => (simp [intOf]; try omega)
    · go_wp2_with fail
      go_roundw
      case rel => exact ⟨2, by omega, rfl, by first | rfl | trivial, by first | rfl | trivial⟩
      case measure => (simp [intOf]; try omega)
    · obtain ⟨wz, rfl⟩ : ∃ wz : World, wz = wr := ⟨_, rfl⟩
      have hgr := grow_nil 2 (by omega) (by omega) wz
      go_wp2_with fail
      refine hgr.mono ?_
      rintro e wa ⟨v, rfl, hI, ho⟩
      have HI := Lib.hid hI
      have HO := Lib.hid ho
      clear hI ho hgr
      go_wp2_with fail
      go_loopw [6, 8, 27] (fun vs _ vi wr => ∃ i : Nat, i ≤ 2 ∧ vi = .int .i64 i ∧ Ints wr wz.heap.size vs ([x, y].take i) ∧ Only [] wz wr) (fun _ _ vi _ => 2 - (intOf vi).toNat)
      case atStart => exact ⟨0, by omega, rfl, HI.out, HO.out⟩
      case round =>
        obtain ⟨i, hi, rfl, hI, ho⟩ := hrel
        have h3 : i = 0 ∨ i = 1 ∨ i = 2 := by omega
        have HI := Lib.hid hI
        have HO := Lib.hid ho
        have hsz := ho.size
        clear hI ho
        rcases h3 with rfl | rfl | rfl
        · have c0 : wr.cell? ⟨B, 0, none⟩ = some (.slice a1 1 c1) := (HO.out.cell (p := ⟨B, 0, none⟩) HB.out.lt (by simp)).trans b0
          have HR := Lib.hid (H1.out.same HO.out)
          go_wp2_with (at_builtin; refine wpList_append_reads rfl (.tmp 31) (.tmp 32) rfl wr wz.heap.size _ _ _ _ HI.out HR.out (by simp) hsz rfl rfl (Only.refl _ _) ?_; intro v3 w3 hI3 hO3 hK3)
          have HI3 : Hid (Ints w3 wz.heap.size v3 ([x, y].take 1)) := hI3
          have HO3 : Hid (Only [] wz w3) := HO.out.trans hO3 (fun z hz hl => by have := (HI.out.own_lt z hz).1; omega)
          clear hI3 hO3 hK3
          go_roundw
          case rel => exact ⟨1, by omega, rfl, HI3.out, HO3.out⟩
          case measure => (simp [intOf]; try omega)
        · have c1 : wr.cell? ⟨B, 1, none⟩ = some (.slice a2 1 c2) := (HO.out.cell (p := ⟨B, 1, none⟩) HB.out.lt (by simp)).trans b1
          have HR := Lib.hid (H2.out.same HO.out)
          go_wp2_with (at_builtin; refine wpList_append_reads rfl (.tmp 31) (.tmp 32) rfl wr wz.heap.size _ _ _ _ HI.out HR.out (by simp) hsz rfl rfl (Only.refl _ _) ?_; intro v3 w3 hI3 hO3 hK3)
          have HI3 : Hid (Ints w3 wz.heap.size v3 ([x, y].take 2)) := hI3
          have HO3 : Hid (Only [] wz w3) := HO.out.trans hO3 (fun z hz hl => by have := (HI.out.own_lt z hz).1; omega)
          clear hI3 hO3 hK3
          go_roundw
          case rel => exact ⟨2, by omega, rfl, HI3.out, HO3.out⟩
          case measure => (simp [intOf]; try omega)
        · go_wp2
          go_ret
          exact ⟨_, rfl, HI.out, HO.out⟩

end Go.Proofs.YtoofalchkedciaaGreatDoor

namespace Go.Proofs.YtoofalchkedciaaGreatDoor
open Go.RowKit Go.Deep

/-- What a hand finds: a task (-1: none), how, of whom; and how all stands then. -/
structure Found where
  x : Int
  what : Int
  other : Int
  s : GSt

def gPick (room m : Nat) (s : GSt) (h pick : Nat) : Found :=
  if 0 ≤ (s.ws h).near then ⟨(s.ws h).near, 1, 0, ⟨s.done, s.spill, s.row, upW s.ws h ⟨-1, (s.ws h).ring, (s.ws h).task, (s.ws h).left⟩⟩⟩
  else if (s.ws h).ring ≠ [] then ⟨(s.ws h).ring.getLastD 0, 1, 0, ⟨s.done, s.spill, s.row, upW s.ws h ⟨(s.ws h).near, (s.ws h).ring.dropLast, (s.ws h).task, (s.ws h).left⟩⟩⟩
  else match s.spill with
    | x :: rest => ⟨x, 3, 0, ⟨s.done, rest, s.row, s.ws⟩⟩
    | [] => if pick % m = h then ⟨-1, 0, 0, s⟩ else
      match (s.ws (pick % m)).ring.take (halfOf (s.ws (pick % m)).ring) with
      | [] => ⟨-1, 0, 0, s⟩
      | x :: xs => ⟨x, 2, ((pick % m : Nat) : Int), ⟨s.done, s.spill ++ (putAll room (s.ws h) xs).2, s.row, upW (upW s.ws (pick % m) ⟨(s.ws (pick % m)).near, (s.ws (pick % m)).ring.drop (halfOf (s.ws (pick % m)).ring), (s.ws (pick % m)).task, (s.ws (pick % m)).left⟩) h (putAll room (s.ws h) xs).1⟩⟩

/-- .. and has it. -/
def gHave (p : PlanL) (s : GSt) (h : Nat) (r : Found) : GSt × List Dd :=
  if r.x < 0 then gSleep s h else (⟨r.s.done, r.s.spill, r.s.row, upW r.s.ws h (gTake p (r.s.ws h) r.x)⟩, [⟨r.what, h, r.x, r.other⟩])

section
variable {p : PlanL} {room m : Nat} {s : GSt} {h pick : Nat}

theorem gPick_near (hn : 0 ≤ (s.ws h).near) : gPick room m s h pick = ⟨(s.ws h).near, 1, 0, ⟨s.done, s.spill, s.row, upW s.ws h ⟨-1, (s.ws h).ring, (s.ws h).task, (s.ws h).left⟩⟩⟩ := by
  unfold gPick; rw [if_pos hn]
theorem gPick_ring (hn : (s.ws h).near < 0) (hg : (s.ws h).ring ≠ []) : gPick room m s h pick = ⟨(s.ws h).ring.getLastD 0, 1, 0, ⟨s.done, s.spill, s.row, upW s.ws h ⟨(s.ws h).near, (s.ws h).ring.dropLast, (s.ws h).task, (s.ws h).left⟩⟩⟩ := by
  unfold gPick; rw [if_neg (by omega), if_pos hg]
theorem gPick_spill (hn : (s.ws h).near < 0) (hg : (s.ws h).ring = []) {x : Int} {rest : List Int} (hs : s.spill = x :: rest) : gPick room m s h pick = ⟨x, 3, 0, ⟨s.done, rest, s.row, s.ws⟩⟩ := by
  unfold gPick; rw [if_neg (by omega), if_neg (by simp [hg]), hs]
theorem gPick_self (hn : (s.ws h).near < 0) (hg : (s.ws h).ring = []) (hs : s.spill = []) (hh : pick % m = h) : gPick room m s h pick = ⟨-1, 0, 0, s⟩ := by
  unfold gPick; rw [if_neg (by omega), if_neg (by simp [hg]), hs]; simp only; rw [if_pos hh]
theorem gPick_none (hn : (s.ws h).near < 0) (hg : (s.ws h).ring = []) (hs : s.spill = []) (hh : pick % m ≠ h) (hl : (s.ws (pick % m)).ring.take (halfOf (s.ws (pick % m)).ring) = []) : gPick room m s h pick = ⟨-1, 0, 0, s⟩ := by
  unfold gPick; rw [if_neg (by omega), if_neg (by simp [hg]), hs]; simp only; rw [if_neg hh, hl]
theorem gPick_rob (hn : (s.ws h).near < 0) (hg : (s.ws h).ring = []) (hs : s.spill = []) (hh : pick % m ≠ h) {x : Int} {xs : List Int} (hl : (s.ws (pick % m)).ring.take (halfOf (s.ws (pick % m)).ring) = x :: xs) :
    gPick room m s h pick = ⟨x, 2, ((pick % m : Nat) : Int), ⟨s.done, s.spill ++ (putAll room (s.ws h) xs).2, s.row, upW (upW s.ws (pick % m) ⟨(s.ws (pick % m)).near, (s.ws (pick % m)).ring.drop (halfOf (s.ws (pick % m)).ring), (s.ws (pick % m)).task, (s.ws (pick % m)).left⟩) h (putAll room (s.ws h) xs).1⟩⟩ := by
  unfold gPick; rw [if_neg (by omega), if_neg (by simp [hg]), hs]; simp only; rw [if_neg hh, hl]

theorem gFind_pick (H : GInv p room m s) (hm : h < m) : gFind p room m s h pick = gHave p s h (gPick room m s h pick) := by
  have ge : ∀ x ∈ heldL m s, ¬ x < 0 := fun x hx => by obtain ⟨i, e, _⟩ := H.mem hx; omega
  by_cases hn : 0 ≤ (s.ws h).near
  · rw [gPick_near hn]
    unfold gHave gFind
    rw [if_pos hn, if_neg (show ¬ (s.ws h).near < 0 by omega)]
    simp only [upW_same, upW_up]
  · have hn' : (s.ws h).near < 0 := by omega
    by_cases hg : (s.ws h).ring = []
    · cases hs : s.spill with
      | cons x rest =>
        rw [gPick_spill hn' hg hs]
        unfold gHave gFind
        rw [if_neg hn, if_neg (by simp [hg]), hs, if_neg (ge x (by unfold heldL; rw [hs]; simp))]
      | nil =>
        by_cases hh : pick % m = h
        · rw [gPick_self hn' hg hs hh]
          unfold gHave gFind
          rw [if_neg hn, if_neg (by simp [hg]), hs, if_pos (show (-1 : Int) < 0 by omega)]
          simp only
          rw [if_pos hh]
        · cases hl : (s.ws (pick % m)).ring.take (halfOf (s.ws (pick % m)).ring) with
          | nil =>
            rw [gPick_none hn' hg hs hh hl]
            unfold gHave gFind
            rw [if_neg hn, if_neg (by simp [hg]), hs, if_pos (show (-1 : Int) < 0 by omega)]
            simp only
            rw [if_neg hh]
            unfold gRob
            rw [hl]
          | cons x xs =>
            rw [gPick_rob hn' hg hs hh hl]
            unfold gHave gFind
            rw [if_neg hn, if_neg (by simp [hg]), hs, if_neg (ge x (held_own (Nat.mod_lt pick (by omega)) (show x ∈ ownW (s.ws (pick % m)) by
              have : x ∈ x :: xs := by simp
              rw [← hl] at this
              unfold ownW
              simp [List.mem_of_mem_take this])))]
            simp only
            rw [if_neg hh]
            unfold gRob
            rw [hl]
            simp only [upW_same, upW_up, hs]
    · rw [gPick_ring hn' hg]
      unfold gHave gFind
      rw [if_neg hn, if_pos hg, if_neg (ge _ (held_own hm (show (s.ws h).ring.getLastD 0 ∈ ownW (s.ws h) from List.mem_append.2 (.inl (List.mem_append.2 (.inl (getLastD_mem _ hg)))))))]
      simp only [upW_same, upW_up]
end

end Go.Proofs.YtoofalchkedciaaGreatDoor
