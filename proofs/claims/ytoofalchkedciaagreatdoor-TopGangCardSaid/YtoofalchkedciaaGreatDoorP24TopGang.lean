/-
  Contract of gang.New: the walk.
-/
import Derived.Test.YtoofalchkedciaaGreatDoorP23TopGang
namespace Go.Proofs.YtoofalchkedciaaGreatDoor
open Go.RowKit Go.Deep

/-- How it begins: no worker is there yet. -/
theorem new_zero {w w1 w2 w3 w4 : World} {J bS : Nat} {SJ SS : List Nat} {FJ : Nat → Prop} {p : PlanL} {pv : Value} {m r : Nat} (ho1 : Only [] w w1) (hJ : JoinIs w1 SJ FJ J p (fun _ => false)) (hSJ : ∀ x ∈ SJ, w.heap.size ≤ x ∧ x < w1.heap.size) (hFJ : ∀ x, FJ x → w.heap.size ≤ x ∧ x < w1.heap.size)
    (ho2 : Only [] w1 w2) (hS : SpillIs w2 SS bS r []) (hSS : ∀ x ∈ SS, w1.heap.size ≤ x) (ho3 : Only [] w2 w3) (hK : ParkIs w3 [w2.heap.size] w2.heap.size m []) (ho4 : Only [] w3 w4) (hP : OwnPlan w4 w3.heap.size (fun x => w3.heap.size ≤ x ∧ x < w4.heap.size) pv p) (w5 : World)
    (hw5 : w4.alloc (.cells #[pv, .pointer (some ⟨J, 0, none⟩), .pointer (some ⟨bS, 0, none⟩), .pointer (some ⟨w2.heap.size, 0, none⟩), .slice none 0 0] 171) = w5) :
    ∃ lab, NewAt w5 lab w4.heap.size J bS w2.heap.size pv (.slice none 0 0) SJ SS [w2.heap.size] FJ (fun x => w3.heap.size ≤ x ∧ x < w4.heap.size) (fun _ => 0) (fun _ => 0) (fun _ => 0) p r m 0 ∧ ∀ x, lab x ≠ 0 → w.heap.size ≤ x := by
  have hs1 := ho1.size
  have hs2 := ho2.size
  have hs3 := ho3.size
  have hs4 := ho4.size
  have ho5 : Only [] w4 w5 := by rw [← hw5]; exact (Only.refl [] w4).alloc _
  have hs5 : w5.heap.size = w4.heap.size + 1 := by rw [← hw5]; simp
  have hC : Cells w5 w4.heap.size [pv, .pointer (some ⟨J, 0, none⟩), .pointer (some ⟨bS, 0, none⟩), .pointer (some ⟨w2.heap.size, 0, none⟩), .slice none 0 0] := by rw [← hw5]; exact Cells.new w4 _ _
  have hSl := hS.lt
  have hKl := hK.lt w2.heap.size (by simp)
  obtain ⟨lab, hl⟩ : ∃ lab : Nat → Nat, lab = fun x => if x = w4.heap.size then 1 else if w3.heap.size ≤ x ∧ x < w4.heap.size then 3 else if w2.heap.size ≤ x ∧ x < w3.heap.size then 6 else if w1.heap.size ≤ x ∧ x < w2.heap.size then 5 else if w.heap.size ≤ x ∧ x < w1.heap.size then 4 else 0 := ⟨_, rfl⟩
  have hlv : ∀ x, lab x = if x = w4.heap.size then 1 else if w3.heap.size ≤ x ∧ x < w4.heap.size then 3 else if w2.heap.size ≤ x ∧ x < w3.heap.size then 6 else if w1.heap.size ≤ x ∧ x < w2.heap.size then 5 else if w.heap.size ≤ x ∧ x < w1.heap.size then 4 else 0 := fun x => by rw [hl]
  refine ⟨lab, ⟨hC, ?_, ((hJ.same ho2).same (ho3.trans ho4 (by simp))).same ho5, ((hS.only ho3 (by simp)).only ho4 (by simp)).only ho5 (by simp), (hK.only ho4 (by simp)).only ho5 (by simp), World.ownsRow_nil _ _ _ _, fun k hk => by omega, fun k hk => by omega, fun x hx => ?_, ?_, ?_, fun x hx => ?_, fun x hx => ?_, fun x hx => ?_, fun x hx => ?_, fun x hx => ?_, fun k hk => by omega, fun k hk => by omega⟩, fun x hx => ?_⟩
  · exact ((hP.row).mono (fun x hx => by rcases hx with h | h <;> exact h)).only ho5 (by simp)
  · rw [hlv] at hx
    split at hx
    · omega
    · split at hx
      · omega
      · split at hx
        · omega
        · split at hx
          · omega
          · split at hx <;> omega
  · rw [hlv, if_pos rfl]
  · intro x hx; simp [own, Value.ownBlock] at hx
  · rw [hlv, if_neg (by omega), if_pos hx]
  · have := hSJ x hx
    rw [hlv, if_neg (by omega), if_neg (by omega), if_neg (by omega), if_neg (by omega), if_pos this]
  · have := hFJ x hx
    rw [hlv, if_neg (by omega), if_neg (by omega), if_neg (by omega), if_neg (by omega), if_pos this]
  · have h1 := hSS x hx
    have h2 := hSl x hx
    rw [hlv, if_neg (by omega), if_neg (by omega), if_neg (by omega), if_pos ⟨h1, h2⟩]
  · obtain rfl : x = w2.heap.size := by simpa using hx
    rw [hlv, if_neg (by omega), if_neg (by omega), if_pos ⟨Nat.le_refl _, hKl⟩]
  · rw [hlv] at hx
    split at hx
    · omega
    · split at hx
      · omega
      · split at hx
        · omega
        · split at hx
          · omega
          · split at hx <;> omega

set_option maxRecDepth 100000 in
set_option maxHeartbeats 4000000 in
theorem gang_New (v : Value) (p : PlanL) (m r : Nat) (w : World) (h : InPlan w v p) (hok : PlanOk p) (m1 : 1 ≤ m) (m6 : m ≤ 6) (r1 : 1 ≤ r) (r16 : r ≤ 16) :
    Calls Tryz.prog 38 #[v, .int .i64 m, .int .i64 r] w fun e w' => ∃ q F, e = .returned (.tuple #[.pointer (some ⟨q.G, 0, none⟩), .nilIface]) ∧ GangIs w' q p r m (gNew p) F ∧ (∀ x, F x → w.heap.size ≤ x) ∧ Only [] w w' := by
  have HP := Lib.hid h
  have HOK := Lib.hid hok
  have hj := Join.new v p w h hok
  obtain ⟨va, vc, rfl, _⟩ := h.task
  clear h hok
  go_enter Tryz.func38, Tryz.ntmps38
  go_wp2_with fail
  refine hj.mono ?_
  rintro e w1 ⟨J, SJ, FJ, rfl, hJ, hSJ, hFJ, ho1⟩
  have hhy := hands_yes (m : Int) w1 (by omega) (by omega)
  have hsp := Spill.new (r : Int) w1 (by omega) (by omega)
  rw [Int.toNat_natCast] at hsp
  have H1 := Lib.hid (And.intro hJ (And.intro hSJ (And.intro hFJ ho1)))
  clear hj hJ hSJ hFJ ho1
  go_wp2_with fail
  refine hhy.mono ?_
  rintro e w1' ⟨rfl, rfl⟩
  clear hhy
  go_wp2_with fail
  refine hsp.mono ?_
  rintro e w2 ⟨bS, SS, rfl, hS, ho2, hSS⟩
  have hpk := Park.new (m : Int) w2 (by omega) (by omega)
  rw [Int.toNat_natCast] at hpk
  have H2 := Lib.hid (And.intro hS (And.intro ho2 hSS))
  clear hsp hS ho2 hSS
  go_wp2_with fail
  refine hpk.mono ?_
  rintro e w3 ⟨rfl, hK, ho3⟩
  have H3 := Lib.hid (And.intro hK ho3)
  have hown := plan_Own _ p w3 (HP.out.same ((H1.out.2.2.2.trans H2.out.2.1 (by simp)).trans ho3 (by simp))) HOK.out
  clear hpk hK ho3
  go_wp2_with fail
  refine hown.mono ?_
  rintro e w4 ⟨pv, rfl, hO, ho4⟩
  obtain ⟨w5, hw5⟩ : ∃ w5, w4.alloc (.cells #[pv, .pointer (some ⟨J, 0, none⟩), .pointer (some ⟨bS, 0, none⟩), .pointer (some ⟨w2.heap.size, 0, none⟩), .slice none 0 0] 171) = w5 := ⟨_, rfl⟩
  obtain ⟨lab0, hN0, hlab0⟩ := new_zero H1.out.2.2.2 H1.out.1 H1.out.2.1 H1.out.2.2.1 H2.out.2.1 H2.out.1 H2.out.2.2 H3.out.2 H3.out.1 ho4 hO w5 hw5
  have ho5 : Only [] w w5 := by
    rw [← hw5]
    exact ((((H1.out.2.2.2.trans H2.out.2.1 (by simp)).trans H3.out.2 (by simp)).trans ho4 (by simp))).alloc _
  obtain ⟨pa, pc, rfl, _⟩ := hO.form
  have HW5 := Lib.hid hw5
  have HN := Lib.hid (And.intro hN0 (And.intro hlab0 ho5))
  clear hown hO ho4 hw5 hN0 hlab0 ho5
  go_wp2_with fail
  rw [HW5.out]
  obtain ⟨PV, hPV⟩ : ∃ PV : Value, PV = .slice pa p.length pc := ⟨_, rfl⟩
  rw [← hPV] at HN
  have HPV := Lib.hid hPV
  clear hPV
  go_loopw [13, 14, 51] (fun _ _ vi wr => ∃ (i : Nat) (lab : Nat → Nat) (lv : Value) (WB HB RB : Nat → Nat), i ≤ m ∧ vi = .int .i64 i ∧ NewAt wr lab w4.heap.size J bS w2.heap.size PV lv SJ SS [w2.heap.size] FJ (fun x => w3.heap.size ≤ x ∧ x < w4.heap.size) WB HB RB p r m i ∧ (∀ x, lab x ≠ 0 → w.heap.size ≤ x) ∧ Only [] w wr) (fun _ _ vi _ => m - (intOf vi).toNat)
  case atStart => exact ⟨0, lab0, _, _, _, _, Nat.zero_le _, rfl, HN.out.1, HN.out.2.1, HN.out.2.2⟩
  case round =>
    obtain ⟨wo, rfl⟩ : ∃ wo : World, wo = wr := ⟨_, rfl⟩
    obtain ⟨i, lab, lv, WB, HB, RB, hi, rfl, hN, hlab, ho⟩ := hrel
    obtain ⟨la, lc, rfl, hlc, hlm, hlf⟩ := Row.form hN.row
    by_cases him : i < m
    · have hhn := Hand.new (r : Int) wo (by omega) (by omega)
      rw [Int.toNat_natCast] at hhn
      have hN1 := Lib.hid hN
      have HO := Lib.hid ho
      have HLAB := Lib.hid hlab
      clear hN ho hlab hlf
      go_wp2_with fail
      refine hhn.mono ?_
      rintro e w6 ⟨b, rb, rfl, hH, ho6, hb, hrb⟩
      have hC6 := hN1.out.cells.only ho6 (by simp)
      have hrow6 := Row.same hN1.out.row ho6
      have hGl : w4.heap.size < w6.heap.size := hC6.lt
      have hG2 : w4.heap.size ∉ own (.slice la i lc) := fun hx => by
        have h1 := hN1.out.l2 _ hx
        have h2 := hN1.out.l1
        omega
      have hal : Only [] w6 ((w6.alloc (.cells #[.pointer (some ⟨b, 0, none⟩), .int .i64 (-1), .int .i64 0] 177)).alloc (.cells #[.pointer (some ⟨w6.heap.size, 0, none⟩)] 175)) := ((Only.refl [] w6).alloc _).alloc _
      have e4 := (hC6.only hal (by simp)).cell 4 _ rfl
      have e4a := (hC6.only ((Only.refl [] w6).alloc (.cells #[.pointer (some ⟨b, 0, none⟩), .int .i64 (-1), .int .i64 0] 177)) (by simp)).cell 4 _ rfl
      have e4b := hC6.cell 4 _ rfl
      have HP1 := Lib.hid ((Cells.new (w6.alloc (.cells #[.pointer (some ⟨b, 0, none⟩), .int .i64 (-1), .int .i64 0] 177)) #[.pointer (some ⟨w6.heap.size, 0, none⟩)] 175).cell 0 _ rfl)
      have HROW := Lib.hid (Row.same hrow6 hal)
      have HC6 := Lib.hid hC6
      have HAL := Lib.hid hal
      have HWK := Lib.hid ((Cells.new w6 #[.pointer (some ⟨b, 0, none⟩), .int .i64 (-1), .int .i64 0] 177).only ((Only.refl [] (w6.alloc (.cells #[.pointer (some ⟨b, 0, none⟩), .int .i64 (-1), .int .i64 0] 177))).alloc (.cells #[.pointer (some ⟨w6.heap.size, 0, none⟩)] 175)) (by simp))
      obtain ⟨W8, hW8⟩ : ∃ W8, (w6.alloc (.cells #[.pointer (some ⟨b, 0, none⟩), .int .i64 (-1), .int .i64 0] 177)).alloc (.cells #[.pointer (some ⟨w6.heap.size, 0, none⟩)] 175) = W8 := ⟨_, rfl⟩
      rw [hW8] at HROW HAL HWK
      have HW8 := Lib.hid hW8
      have hz8 : W8.heap.size = w6.heap.size + 2 := by rw [← hW8]; simp
      have HZ8 := Lib.hid hz8
      have HH := Lib.hid (And.intro hH (And.intro ho6 (And.intro hb hrb)))
      clear hhn hH ho6 hb hrb hrow6 hC6 hal hW8 hz8
      go_wp2_with (at_builtin; refine wpList_row1 sliceOf_workers rfl (.tmp 65) (.tmp 69) rfl W8 0 _ i _ (w6.heap.size + 1) (.pointer (some ⟨w6.heap.size, 0, none⟩)) HROW.out (by omega) (Nat.zero_le _) rfl (by first | rfl | simp) (by rw [HW8.out]; exact Only.refl _ _) (by simp) rfl ?_; intro g cap w7 hI7 hO7 hg7; have hC7 := (HC6.out.only HAL.out (by simp)).only hO7 (by exact hG2); have e7 := hC7.cell 4 _ rfl; have f7 := hC7.free 4 _ rfl)
      have hz8 := HZ8.out
      have hlo : ∀ x ∈ own (Value.slice la i lc), x < wo.heap.size := fun x hx => hN1.out.lt x (by rw [hN1.out.l2 x hx]; omega)
      have hGo : w4.heap.size < wo.heap.size := hN1.out.cells.lt
      have hs6 := HH.out.2.1.size
      have hgG : g ≠ w4.heap.size := fun e => by
        rcases hg7 with h | h
        · exact hG2 (by rw [← e]; exact h)
        · omega
      have hset : Only [w4.heap.size] w7 (w7.setCell ⟨w4.heap.size, 4, none⟩ (.slice (some ⟨g, 0, none⟩) (i + 1) cap)) := (Only.refl [w4.heap.size] w7).setCell (by simp) _
      obtain ⟨lab', hN', hlab'⟩ := hN1.out.more (T := w4.heap.size :: own (Value.slice la i lc)) HH.out.2.1 HH.out.1 HH.out.2.2.1 HH.out.2.2.2
        ((HWK.out.only hO7 (fun hx => by have := hlo _ hx; omega)).only hset (by simp; omega))
        (((HAL.out.mono (by simp)).trans hO7 (fun x hx _ => List.mem_cons_of_mem _ hx)).trans hset (fun x hx _ => by simp at hx; simp [hx]))
        (fun x hx => by
          rcases List.mem_cons.1 hx with h | h
          · exact .inl h
          · exact .inr (.inl h))
        (hC7.set 4 (.slice (some ⟨g, 0, none⟩) (i + 1) cap)) (Row.only hI7 hset (fun x hx hy => by
          obtain rfl : x = g := by simpa [own, Value.ownBlock] using hx
          exact hgG (by simpa using hy)))
        (fun x hx => by
          obtain rfl : x = g := by simpa [own, Value.ownBlock] using hx
          rcases hg7 with h | h
          · exact .inl h
          · right; omega)
      have hfin := Lib.hid (And.intro hN' (And.intro (fun x hx => by
          rcases hlab' x hx with h | h
          · exact HLAB.out x h
          · have := HO.out.size; omega : ∀ x, lab' x ≠ 0 → w.heap.size ≤ x) ((((HO.out.trans HH.out.2.1 (by simp)).trans HAL.out (by simp)).trans hO7 (fun x hx hl => by have := HLAB.out x (by rw [hN1.out.l2 x hx]; omega); omega)).trans hset (fun x hx hl => by
          obtain rfl : x = w4.heap.size := by simpa using hx
          have := HLAB.out _ (by rw [hN1.out.l1]; omega); omega) : Only [] w (w7.setCell ⟨w4.heap.size, 4, none⟩ (.slice (some ⟨g, 0, none⟩) (i + 1) cap)))))
      clear hN' hlab' hset hI7 hO7 hg7 hC7
      go_roundw
      case rel => exact ⟨i + 1, lab', _, _, _, _, by omega, by go_num, hfin.out.1, hfin.out.2.1, hfin.out.2.2⟩
      case measure => (simp [intOf]; try omega)
    · obtain rfl : i = m := by omega
      obtain ⟨L, cap, hG⟩ := hN.gang m1 m6
      have hF : ∀ x, lab x ≠ 0 ↔ (fun x => lab x ≠ 0) x := fun _ => Iff.rfl
      have hGR := GRel.start (show GangIs wo _ p r i _ _ from ⟨lab, SS, _, hG, hF⟩)
      have hrd := Join.ready _ _ _ _ _ wo hG.join
      have HGR := Lib.hid hGR
      have HLAB := Lib.hid hlab
      have HO := Lib.hid ho
      have hlen : (natL (readyL p (fun _ => false))).length ≤ 30 := by
        rw [natL_len]
        have := List.length_filter_le (readyB p (fun _ => false)) (List.range p.length)
        have h30 := HOK.out.len
        unfold readyL
        simp at this
        omega
      have HLEN := Lib.hid hlen
      clear hG hN hlab ho hF hGR hlen hlf
      go_wp2_with fail
      refine hrd.mono ?_
      rintro e w9 ⟨v9, rfl, hI9, ho9⟩
      have hfar9 : ∀ y ∈ own v9, ¬ (lab y ≠ 0) := fun y hy h => by
        have h1 := (hI9.own_lt y hy).1
        have h2 := HGR.out.gang.lt y h
        omega
      have hput := (HGR.out.same ho9).spill_put v9 _ hI9.reads hfar9 (by have := HLEN.out; simp; omega)
      clear hrd hI9 hfar9
      go_wp2_with fail
      refine hput.mono ?_
      rintro e wa ⟨rfl, F9, hS9, hk9⟩
      have HS9 := Lib.hid hS9
      have HK9 := Lib.hid hk9
      clear hput hS9 hk9
      go_wp2
      go_ret2
      refine ⟨⟨w4.heap.size, J, bS, w2.heap.size, L, cap, PV, SJ, FJ, fun x => w3.heap.size ≤ x ∧ x < w4.heap.size, WB, HB, RB⟩, F9, rfl, HS9.out.gang, fun x hx => ?_, ?_⟩
      · rcases HS9.out.kin x hx with h | h
        · exact HLAB.out x h
        · have := HO.out.size; omega
      · obtain ⟨T, hT, hoT⟩ := HS9.out.only
        exact HO.out.trans hoT (fun x hx hl => by have := HLAB.out x (hT x hx); omega)

set_option maxRecDepth 100000 in
theorem gang_New_no (v : Value) (p : PlanL) (hands room : Int) (w : World) (h : InPlan w v p) (hg : gErr p hands room ≠ 0) :
    Calls Tryz.prog 38 #[v, .int .i64 hands, .int .i64 room] w fun e w' => e = .returned (.tuple #[.pointer none, .iface 98 (.int .i64 (gErr p hands room))]) ∧ Only [] w w' := by
  by_cases hp : planFault p = 0
  · have hok := (planOk_iff p).2 hp
    have hj := Join.new v p w h hok
    have hbad : ¬ (1 ≤ hands ∧ hands ≤ 6 ∧ 1 ≤ room ∧ room ≤ 16) := fun h => hg (by unfold gErr; rw [if_pos hp, if_pos h])
    have he : gErr p hands room = 1 := by unfold gErr; rw [if_pos hp, if_neg hbad]
    rw [he]
    obtain ⟨va, vc, rfl, _⟩ := h.task
    clear h hok hg he hp
    by_cases hh : hands < 1 ∨ 6 < hands
    · clear hbad
      go_enter Tryz.func38, Tryz.ntmps38
      go_wp2_with fail
      refine hj.mono ?_
      rintro e w1 ⟨J, SJ, FJ, rfl, _, _, _, ho1⟩
      have hhn := hands_no hands w1 hh
      clear hj
      go_wp2_with fail
      refine hhn.mono ?_
      rintro e w2 ⟨rfl, rfl⟩
      clear hhn
      go_wp2
      go_ret2
      exact ⟨rfl, ho1⟩
    · have hr : room < 1 ∨ 16 < room := by omega
      have h1 : 1 ≤ hands := by omega
      have h6 : hands ≤ 6 := by omega
      clear hbad hh
      go_enter Tryz.func38, Tryz.ntmps38
      go_wp2_with fail
      refine hj.mono ?_
      rintro e w1 ⟨J, SJ, FJ, rfl, _, _, _, ho1⟩
      have hhn := hands_yes hands w1 h1 h6
      have hsn := spill_new_no room w1 hr
      clear hj
      go_wp2_with fail
      refine hhn.mono ?_
      rintro e w2 ⟨rfl, rfl⟩
      clear hhn
      go_wp2_with fail
      refine hsn.mono ?_
      rintro e w3 ⟨rfl, ho3⟩
      have hoo := ho1.trans ho3 (by simp)
      clear hsn ho1 ho3
      go_wp2
      go_ret2
      exact ⟨rfl, hoo⟩
  · have hj := Join.new_no v p w h hp
    have he : gErr p hands room = planFault p := by unfold gErr; rw [if_neg hp]
    rw [he]
    obtain ⟨va, vc, rfl, _⟩ := h.task
    generalize planFault p = f at *
    clear h hg he hp
    go_enter Tryz.func38, Tryz.ntmps38
    go_wp2_with fail
    refine hj.mono ?_
    rintro e w1 ⟨rfl, ho1⟩
    clear hj
    go_wp2
    go_ret2
    exact ⟨rfl, ho1⟩

end Go.Proofs.YtoofalchkedciaaGreatDoor
