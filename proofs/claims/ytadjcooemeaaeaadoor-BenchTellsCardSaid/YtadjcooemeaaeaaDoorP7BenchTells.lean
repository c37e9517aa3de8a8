/-
  Contracts of package bench, of bits that may be.
-/
import Derived.Test.YtadjcooemeaaeaaDoorP6BenchTells
namespace Go.Proofs.YtadjcooemeaaeaaDoor
open Go.RowKit

set_option maxHeartbeats 2000000 in
theorem bench_check (v : Value) (bs : List Bt) (hands : Int) (w : World) (h : BitsAt w v bs) (hl : bs.length ≤ 600) (h1 : 1 ≤ hands) (h6 : hands ≤ 6) (hok : ∀ b ∈ bs, bitOk hands b) :
    Calls Tryd.prog 92 #[v, .int .i64 hands] w fun e w' => e = .returned .nilIface ∧ Only [] w w' := by
  obtain ⟨a, c, rfl, ha⟩ := h.opt
  obtain ⟨n, hn⟩ : ∃ n, bs.length = n := ⟨_, rfl⟩
  have HN := Lib.hid hn
  have HOK := Lib.hid hok
  rw [hn] at ha hl ⊢
  clear h hn hok
  go_enter Tryd.func92, Tryd.ntmps92
  go_wp2_with fail
  refine (hands_yes _ _ h1 h6).mono ?_
  rintro e w1 ⟨rfl, rfl⟩
  go_wp2_with fail
  go_loopw [19] (fun vi wr => ∃ i : Nat, i ≤ n ∧ vi = .int .i64 i ∧ Only [] w wr) (fun vi _ => n - (intOf vi).toNat)
  case atStart => exact ⟨0, Nat.zero_le _, rfl, Only.refl _ _⟩
  case round =>
    obtain ⟨i, hi, rfl, ho⟩ := hrel
    by_cases hin : i < n
    · obtain ⟨b, off, rfl, k0, k1, k2⟩ := ha i hin
      have c0 := (ho.cell (p := ⟨b, _, none⟩) (cell_lt k0) (by simp)).trans k0
      have c1 := (ho.cell (p := ⟨b, _, none⟩) (cell_lt k1) (by simp)).trans k1
      have c2 := (ho.cell (p := ⟨b, _, none⟩) (cell_lt k2) (by simp)).trans k2
      have hb := HOK.out (bitAt bs i) (bitAt_mem (by rw [HN.out]; exact hin))
      unfold bitOk at hb
      generalize bitAt bs i = b9 at *
      obtain ⟨x, y, z⟩ := b9
      obtain ⟨g1, g2, g3, g4, g5, g6⟩ := hb
      simp only at c0 c1 c2 g1 g2 g3 g4 g5 g6
      have ho2 := Lib.hid (ho.alloc (.cells #[.int .i64 x, .int .i64 y, .int .i64 z] 93))
      clear ha k0 k1 k2 ho
      go_wp2
      go_roundw
      case rel => exact ⟨i + 1, by omega, by go_num, ho2.out⟩
      case measure => (simp [intOf]; try omega)
    · obtain rfl : i = n := by omega
      clear ha
      go_wp2
      go_ret
      exact ⟨rfl, ho⟩

set_option maxHeartbeats 2000000 in
theorem bench_busy (v : Value) (bs : List Bt) (hands : Nat) (w : World) (h : BitsAt w v bs) (hl : bs.length ≤ 600) (h1 : 1 ≤ hands) (h6 : hands ≤ 6) (hok : ∀ b ∈ bs, bitOk hands b) :
    Calls Tryd.prog 48 #[v, .int .i64 hands] w fun e w' => ∃ vo, e = .returned (.tuple #[vo, .nilIface]) ∧ Ints w' w.heap.size vo (handL bs hands) ∧ Only [] w w' := by
  have hck := bench_check v bs hands w h hl (by omega) (by omega) hok
  obtain ⟨a, c, rfl, ha⟩ := h.opt
  obtain ⟨n, hn⟩ : ∃ n, bs.length = n := ⟨_, rfl⟩
  have HN := Lib.hid hn
  have HOK := Lib.hid hok
  rw [hn] at ha hl hck ⊢
  clear h hn hok
  go_enter Tryd.func48, Tryd.ntmps48
  go_wp2_with fail
  refine hck.mono ?_
  rintro e w1 ⟨rfl, ho1⟩
  clear hck
  have hmk := make_ints hands (by omega)
  have hI := made_ints w1 hands (by omega)
  rw [← handL_nil] at hI
  have hal := (Only.refl [] w1).alloc (.cells (madeCells #[.int .i64 0] hands) 3)
  have hoo := ho1.trans hal (by simp)
  have hs1 := ho1.size
  clear hal
  go_wp2_with fail
  go_loopw [20] (fun vi wr => ∃ i : Nat, i ≤ n ∧ vi = .int .i64 i ∧ Ints wr w1.heap.size (.slice (some ⟨w1.heap.size, 0, none⟩) hands hands) (handL (bs.take i) hands) ∧ Only [] w wr) (fun vi _ => n - (intOf vi).toNat)
  case atStart => exact ⟨0, Nat.zero_le _, rfl, hI, hoo⟩
  case round =>
    obtain ⟨i, hi, rfl, hI2, ho⟩ := hrel
    clear hI hoo hmk ho1
    by_cases hin : i < n
    · obtain ⟨b, off, rfl, k0, k1, k2⟩ := ha i hin
      have c0 := (ho.cell (p := ⟨b, _, none⟩) (cell_lt k0) (by simp)).trans k0
      have c1 := (ho.cell (p := ⟨b, _, none⟩) (cell_lt k1) (by simp)).trans k1
      have c2 := (ho.cell (p := ⟨b, _, none⟩) (cell_lt k2) (by simp)).trans k2
      have hb := HOK.out (bitAt bs i) (bitAt_mem (by rw [HN.out]; exact hin))
      have htk := take_bit bs i (by rw [HN.out]; exact hin)
      unfold bitOk at hb
      generalize bitAt bs i = b9 at *
      obtain ⟨x, y, z⟩ := b9
      obtain ⟨g1, g2, g3, g4, g5, g6⟩ := hb
      simp only at c0 c1 c2 g3 g4
      obtain ⟨y, rfl⟩ := Int.eq_ofNat_of_zero_le g3
      have hyh : y < hands := by omega
      have hcy := hI2.cell y (by rw [handL_len]; exact hyh)
      rw [handL_nth _ _ _ hyh] at hcy
      have hfy := hI2.free y
      have hle : ofHand (bs.take i) y ≤ i := Nat.le_trans List.countP_le_length (List.length_take_le _ _)
      have hset := Lib.hid ((hI2.set y ((ofHand (bs.take i) y : Int) + 1)).only ((Only.refl [] _).alloc (.cells #[.int .i64 x, .int .i64 y, .int .i64 z] 93)) (by simp))
      rw [handL_set (bs.take i) ⟨x, y, z⟩ hands y rfl hyh, ← htk] at hset
      have hos := Lib.hid ((ho.setCell (p := ⟨w1.heap.size, y, none⟩) (fun hlt => by simp at hlt; omega) (.int .i64 ((ofHand (bs.take i) y : Int) + 1))).alloc (.cells #[.int .i64 x, .int .i64 y, .int .i64 z] 93))
      have hltA : w1.heap.size < wr.heap.size := cell_lt hcy
      obtain ⟨q, hq⟩ : ∃ q, ofHand (bs.take i) y = q := ⟨_, rfl⟩
      rw [hq] at hcy hle hset hos
      clear ha k0 k1 k2 ho hI2 htk hq g1 g2 g5 g6
      go_wp2
      go_roundw
      case rel => exact ⟨i + 1, by omega, by go_num, hset.out, hos.out⟩
      case measure => (simp [intOf]; try omega)
    · obtain rfl : i = n := by omega
      rw [List.take_of_length_le (by rw [HN.out]; exact Nat.le_refl _)] at hI2
      clear ha
      go_wp2
      go_ret2
      exact ⟨_, rfl, hI2.mono hs1, ho⟩

set_option maxHeartbeats 4000000 in
theorem bench_row (v : Value) (bs : List Bt) (hands : Int) (w : World) (h : BitsAt w v bs) (hl : bs.length ≤ 600) (hok : ∀ b ∈ bs, bitOk hands b) :
    Calls Tryd.prog 93 #[v] w fun e w' => ∃ vo, e = .returned vo ∧ Ints w' w.heap.size vo (rowL bs (stepsOf bs)) ∧ Only [] w w' := by
  obtain ⟨a, c, rfl, ha⟩ := h.opt
  obtain ⟨n, hn⟩ : ∃ n, bs.length = n := ⟨_, rfl⟩
  have HN := Lib.hid hn
  have HOK := Lib.hid hok
  rw [hn] at ha hl ⊢
  clear h hn hok
  go_enter Tryd.func93, Tryd.ntmps93
  go_wp2_with fail
  go_loopw [3, 8] (fun vo vi wr => ∃ i : Nat, i ≤ n ∧ vi = .int .i64 i ∧ Ints wr w.heap.size vo (rowL (bs.take i) (stepsOf (bs.take i))) ∧ Only [] w wr) (fun _ vi _ => n - (intOf vi).toNat)
  case atStart => exact ⟨0, Nat.zero_le _, rfl, Ints.nil _ _, Only.refl _ _⟩
  case round =>
    obtain ⟨wo, rfl⟩ : ∃ wo : World, wo = wr := ⟨_, rfl⟩
    obtain ⟨i, hi, rfl, hI, ho⟩ := hrel
    by_cases hin : i < n
    · obtain ⟨b, off, rfl, k0, k1, k2⟩ := ha i hin
      have c0 := (ho.cell (p := ⟨b, _, none⟩) (cell_lt k0) (by simp)).trans k0
      have c1 := (ho.cell (p := ⟨b, _, none⟩) (cell_lt k1) (by simp)).trans k1
      have c2 := (ho.cell (p := ⟨b, _, none⟩) (cell_lt k2) (by simp)).trans k2
      have hb := HOK.out (bitAt bs i) (bitAt_mem (by rw [HN.out]; exact hin))
      have htk := take_bit bs i (by rw [HN.out]; exact hin)
      have hall : Hid (∀ x ∈ bs.take i, 0 ≤ x.step ∧ x.step.toNat < 10001) := by
        show ∀ x ∈ _, _
        intro x hx
        have := HOK.out x (List.mem_of_mem_take hx)
        unfold bitOk at this; omega
      unfold bitOk at hb
      generalize bitAt bs i = b9 at *
      obtain ⟨x, y, z⟩ := b9
      obtain ⟨g1, g2, g3, g4, g5, g6⟩ := hb
      simp only at c0 c1 c2 g1 g2
      obtain ⟨x, rfl⟩ := Int.eq_ofNat_of_zero_le g1
      have HTK := Lib.hid htk
      obtain ⟨bt, hbt⟩ : ∃ bt, bs.take i = bt := ⟨_, rfl⟩
      have hbl : bt.length ≤ i := by rw [← hbt]; exact List.length_take_le _ _
      rw [hbt] at hI hall HTK
      have hs10 : stepsOf bt ≤ 10001 := stepsOf_le (fun y hy => (hall.out y hy).2)
      obtain ⟨s, hs⟩ : ∃ s, stepsOf bt = s := ⟨_, rfl⟩
      have HS := Lib.hid hs
      rw [hs] at hI hs10
      obtain ⟨oa, oc, rfl, _⟩ := hI.opt
      rw [rowL_len] at hI ⊢
      have hal := (Only.refl [] wo).alloc (.cells #[.int .i64 x, .int .i64 y, .int .i64 z] 93)
      have hng0 : wo.heap.size ∉ own (Value.slice oa s oc) := fun hx => by have := (hI.own_lt _ hx).2; omega
      have hI2 := hI.only hal (by simp)
      have hoa := ho.trans hal (by simp)
      have hcx : (wo.alloc (.cells #[.int .i64 x, .int .i64 y, .int .i64 z] 93)).cell? ⟨wo.heap.size, 0, none⟩ = some (.int .i64 x) := by rw [World.cell?_alloc_new]; rfl
      clear ha k0 k1 k2 hI hal htk hbt hs
      go_wp2_with fail
      go_loopw [3] (fun vo wr => ∃ m : Nat, s ≤ m ∧ m ≤ max s (x + 1) ∧ Ints wr w.heap.size vo (rowL bt m) ∧ Only [] w wr ∧ wr.cell? ⟨wo.heap.size, 0, none⟩ = some (.int .i64 x) ∧ wo.heap.size < wr.heap.size ∧ wo.heap.size ∉ own vo) (fun vo _ => x + 1 - lenOf3 vo)
      case atStart => exact ⟨s, Nat.le_refl _, Nat.le_max_left _ _, hI2, hoa, hcx, by simp, hng0⟩
      case round =>
        obtain ⟨wi, rfl⟩ : ∃ wi : World, wi = wr := ⟨_, rfl⟩
        obtain ⟨m, hm1, hm2, hI3, ho3, hcx3, hA3, hng⟩ := hrel
        clear hI2 hoa hcx hng0
        obtain ⟨oa3, oc3, rfl, _⟩ := hI3.opt
        rw [rowL_len] at hI3 ⊢
        have hml : Hid ((rowL bt m).length = m) := rowL_len _ _
        have hsz3 := ho3.size
        by_cases hmx : m ≤ x
        · have hp := Lib.hid (rowL_push bt m (atStep_zero (fun y hy => (hall.out y hy).1) (by rw [HS.out]; exact hm1)))
          have hm1b : m ≤ 10001 := by omega
          go_wp2_with (at_builtin; refine wpList_push rfl (.tmp 17) (.tmp 18) rfl wi w.heap.size _ _ _ 0 m hI3 hml.out (by omega) hsz3 rfl rfl ((Only.refl [] wi).alloc _) (World.cell?_alloc_at _ _ _ _ rfl) ?_; intro g cap w4 hI4 hO4 hK4)
          rw [hp.out] at hI4
          have ho4 := Lib.hid (ho3.pushed hI3 (Nat.le_refl _) hO4)
          replace hng : wo.heap.size ∉ own (Value.slice oa3 m oc3) := by cases oa3 <;> exact hng
          have hcx4 := (hO4.cell (p := ⟨wo.heap.size, 0, none⟩) hA3 hng).trans hcx3
          have hA4 := hO4.size
          have hng4 : Hid (wo.heap.size ∉ own (Value.slice (some ⟨g, 0, none⟩) (m + 1) cap)) := fun hx => by
            obtain e : wo.heap.size = g := by simpa [own, Value.ownBlock] using hx
            rcases hK4 with h | h
            · rw [← e] at h; exact hng h
            · omega
          go_roundw
          case rel => exact ⟨m + 1, by omega, by omega, hI4, ho4.out, hcx4, by omega, hng4.out⟩
          case measure => (simp [lenOf3]; omega)
        · have hxm : x < m := by omega
          obtain ⟨g, cap9, hge, hgb, hgl⟩ := hI3.sized m hml.out (by omega)
          injection hge with hge1 hge2 hge3
          subst hge1
          subst hge3
          have hcy := hI3.cell x (by rw [hml.out]; exact hxm)
          rw [rowL_nth _ _ _ hxm] at hcy
          have hfy := hI3.free x
          have hle : atStep bt x ≤ 600 := by
            exact Nat.le_trans List.countP_le_length (by omega)
          have hst : Hid (stepsOf (bs.take (i + 1)) = m) := by
            show _ = _
            rw [HTK.out, stepsOf_append, HS.out]
            simp [stepsOf]; omega
          have hset := Lib.hid (hI3.set x ((atStep bt x : Int) + 1))
          rw [rowL_set bt ⟨x, y, z⟩ m x rfl hxm, ← HTK.out] at hset
          have hos := Lib.hid (ho3.setCell (p := ⟨g, x, none⟩) (fun hlt => by simp at hlt; omega) (.int .i64 ((atStep bt x : Int) + 1)))
          obtain ⟨q, hq⟩ : ∃ q, atStep bt x = q := ⟨_, rfl⟩
          rw [hq] at hcy hle hset hos
          clear hI3 ho3 hq
          go_wp2
          go_roundw
          case rel => exact ⟨i + 1, by omega, by go_num, by rw [hst.out]; exact hset.out, hos.out⟩
          case measure => (simp [intOf]; try omega)
    · obtain rfl : i = n := by omega
      rw [show bs.take i = bs from List.take_of_length_le (by rw [HN.out]; exact Nat.le_refl _)] at hI
      clear ha
      go_wp2
      go_ret
      exact ⟨_, rfl, hI, ho⟩

theorem bench_waste (v : Value) (bs : List Bt) (hands : Nat) (w : World) (h : BitsAt w v bs) (hl : bs.length ≤ 600) (h1 : 1 ≤ hands) (h6 : hands ≤ 6) (hok : ∀ b ∈ bs, bitOk hands b) :
    Calls Tryd.prog 51 #[v, .int .i64 hands] w fun e w' => e = .returned (.tuple #[.int .i64 ((hands : Int) * (stepsOf bs : Int) - (bs.length : Int)), .nilIface]) ∧ Only [] w w' := by
  have hck := bench_check v bs hands w h hl (by omega) (by omega) hok
  have hrow := fun w1 (ho : Only [] w w1) => bench_row v bs hands w1 (h.same ho) hl hok
  have HRow := Lib.hid hrow
  have hs10 : stepsOf bs ≤ 10001 := stepsOf_le (fun b hb => by have := hok b hb; unfold bitOk at this; omega)
  obtain ⟨a, c, rfl, _⟩ := h.opt
  obtain ⟨n, hn⟩ : ∃ n, bs.length = n := ⟨_, rfl⟩
  obtain ⟨s, hs⟩ : ∃ s, stepsOf bs = s := ⟨_, rfl⟩
  have HS := Lib.hid hs
  have hmul : (hands : Int) * (s : Int) ≤ 60006 ∧ 0 ≤ (hands : Int) * (s : Int) := by
    rw [← Int.natCast_mul]
    have : hands * s ≤ 6 * 10001 := Nat.mul_le_mul h6 (by omega)
    omega
  obtain ⟨hm1, hm2⟩ := hmul
  rw [hn] at hl hck HRow ⊢
  rw [hs] at hs10 ⊢
  clear h hrow hok hn hs
  go_enter Tryd.func51, Tryd.ntmps51
  go_wp2_with fail
  refine hck.mono ?_
  rintro e w1 ⟨rfl, ho1⟩
  clear hck
  go_wp2_with fail
  refine (HRow.out w1 ho1).mono ?_
  rintro e w2 ⟨vo, rfl, hI, ho2⟩
  have hoo := ho1.trans ho2 (by simp)
  obtain ⟨oa, oc, rfl, _⟩ := hI.opt
  rw [rowL_len, HS.out]
  clear HRow hI ho1 ho2
  go_wp2
  go_ret2
  exact ⟨rfl, hoo⟩

end Go.Proofs.YtadjcooemeaaeaaDoor
