/-
  Contracts of package ring, by lists: Pop, Half, All.
-/
import Derived.Test.YtocpmncedlenbaaP6GangShares
namespace Go.Proofs.Ytocpmncedlenbaa
open Go.RowKit

set_option maxHeartbeats 400000 in
theorem ring_pop_none (b room head : Nat) (cs : List Int) (w : World) (h : RawRing w b room head 0 cs) :
    Calls Try.prog 58 #[.pointer (some ⟨b, 0, none⟩)] w fun e w' => e = .returned (.tuple #[.int .i64 0, .iface 52 (.int .i64 5)]) ∧ w = w' := by
  obtain ⟨hl, r1, r2, hh, hm, hc, c16, c17, c18, hfz⟩ := h
  clear hc hfz c17
  go_enter Try.func58, Try.ntmps58
  go_wp2
  go_ret2
  exact ⟨rfl, rfl⟩

set_option maxHeartbeats 400000 in
theorem ring_pop (b room head many : Nat) (cs : List Int) (w : World) (h : RawRing w b room head (many + 1) cs) :
    Calls Try.prog 58 #[.pointer (some ⟨b, 0, none⟩)] w fun e w' => e = .returned (.tuple #[.int .i64 (nth cs (spot room head many)), .nilIface]) ∧ RawRing w' b room head many cs ∧ Only [b] w w' := by
  have hR := h
  have hR2 := hR.setMany many (by have := hR.hm; omega)
  obtain ⟨hl, r1, r2, hh, hm, hc, c16, c17, c18, hfz⟩ := h
  have hj : spot room head many < 16 := by have := spot_lt head many r1; omega
  have hj' : ((spot room head many : Nat) : Int) < 16 := by omega
  have hcj := hR2.cell _ hj
  have hf18 := hfz 18 (by omega)
  have c16' := hR2.c16
  have c17' := hR2.c17
  have c18' := hR2.c18
  have c18 : w.cell? ⟨b, 18, none⟩ = some (.int .i64 ((many : Int) + 1)) := by rw [c18]; rfl
  clear hc hfz
  go_enter Try.func58, Try.ntmps58
  go_wp2_with fail
  go_quiet ((go_at_call 54; refine Calls.quiet_of (ring_at b room head many cs many _ (hR2.drewN _) (by omega))))
  go_wp2
  go_ret2
  exact ⟨rfl, hR2.drewN _, ((Only.refl [b] w).setCell (by simp) _).drewN _⟩

theorem Ring.pop_none (b room : Nat) (w : World) (h : RingIs w b room []) :
    Calls Try.prog 58 #[.pointer (some ⟨b, 0, none⟩)] w fun e w' => e = .returned (.tuple #[.int .i64 0, .iface 52 (.int .i64 5)]) ∧ w = w' := by
  obtain ⟨head, many, cs, h, hv⟩ := h
  obtain rfl : many = 0 := by have := congrArg List.length hv; simpa [view_length] using this.symm
  exact ring_pop_none b room head cs w h

theorem Ring.pop (b room : Nat) (l : List Int) (x : Int) (w : World) (h : RingIs w b room (l ++ [x])) :
    Calls Try.prog 58 #[.pointer (some ⟨b, 0, none⟩)] w fun e w' => e = .returned (.tuple #[.int .i64 x, .nilIface]) ∧ RingIs w' b room l ∧ Only [b] w w' := by
  obtain ⟨head, many, cs, h, hv⟩ := h
  obtain ⟨m, rfl⟩ : ∃ m, many = m + 1 := ⟨l.length, by have := congrArg List.length hv; simpa [view_length] using this.symm⟩
  rw [view_pop] at hv
  obtain ⟨h1, h2⟩ := List.append_inj' hv rfl
  injection h2 with h2 _
  refine (ring_pop b room head m cs w h).mono ?_
  rintro e w' ⟨he, hr, ho⟩
  rw [← h2] at he
  exact ⟨he, ⟨head, m, cs, hr, h1⟩, ho⟩

set_option maxHeartbeats 400000 in
theorem ring_all (b room head many : Nat) (cs : List Int) (w : World) (h : RawRing w b room head many cs) :
    Calls Try.prog 49 #[.pointer (some ⟨b, 0, none⟩)] w fun e w' => ∃ v, e = .returned v ∧ Ints w' w.heap.size v (view cs room head many) ∧ Only [] w w' := by
  have hR := h
  obtain ⟨hl, r1, r2, hh, hm, hc, c16, c17, c18, hfz⟩ := h
  clear hc hfz c16 c17
  have hb := hR.lt
  go_enter Try.func49, Try.ntmps49
  go_wp2_with fail
  go_loopw [3, 9] (fun v i wr => ∃ k : Nat, k ≤ many ∧ i = .int .i64 k ∧ Ints wr w.heap.size v (view cs room head k) ∧ Only [] w wr)
    (fun _ i _ => many - (intOf i).toNat)
  case atStart => exact ⟨0, Nat.zero_le _, rfl, Ints.nil _ _, Only.refl _ _⟩
  case round =>
    obtain ⟨k, hk, rfl, hown, ho⟩ := hrel
    have hRr := hR.only ho (by simp)
    by_cases hlt : k < many
    · have hsz := ho.size
      have hj : spot room head k < 16 := by have := spot_lt head k r1; omega
      have hj' : ((spot room head k : Nat) : Int) < 16 := by omega
      have hcj := hRr.cell _ hj
      have hvl := view_length cs room head k
      have Hvl := Lib.hid hvl
      clear hvl
      go_wp2_with fail
      go_region_law (first | (go_simp; go_at_call 54; refine (ring_at b room head many cs k _ (hRr.drewN _) (by omega)).mono ?_; rintro e w1 ⟨rfl, nn, rfl⟩) | (refine step_push rfl (.tmp 12) (.tmp 21) rfl wr w.heap.size u3 (view cs room head k) wr.heap.size (nth cs (spot room head k)) k hown Hvl.out (by omega) hsz rfl rfl (((Only.refl [] wr).alloc _).drewN _) (World.cell?_alloc_at _ _ _ _ rfl) ?_; intro g cap w2 hown2 hgr _))
      rw [← view_pop] at hown2
      have ho2 := ho.pushed hown (Nat.le_refl _) hgr
      clear hown hgr ho hRr
      go_wp2
      go_roundw
      case rel => exact ⟨k + 1, by omega, by go_num, hown2, ho2⟩
      case measure => simp [intOf]; omega
    · obtain rfl : k = many := by omega
      go_wp2
      go_ret
      exact ⟨_, rfl, hown, ho⟩

theorem Ring.all (b room : Nat) (l : List Int) (w : World) (h : RingIs w b room l) :
    Calls Try.prog 49 #[.pointer (some ⟨b, 0, none⟩)] w fun e w' => ∃ v, e = .returned v ∧ Ints w' w.heap.size v l ∧ Only [] w w' := by
  obtain ⟨head, many, cs, h, rfl⟩ := h
  exact ring_all b room head many cs w h

/-- What a Half takes. -/
def halfOf (l : List Int) : Nat := (l.length + 1) / 2

set_option maxHeartbeats 400000 in
theorem Ring.half (b room : Nat) (l : List Int) (w : World) (h : RingIs w b room l) :
    Calls Try.prog 57 #[.pointer (some ⟨b, 0, none⟩)] w fun e w' => ∃ v, e = .returned v ∧ Ints w' w.heap.size v (l.take (halfOf l)) ∧ RingIs w' b room (l.drop (halfOf l)) ∧ Only [b] w w' := by
  have hR := h
  have hle := h.le
  have hrm := h.room
  have hb := h.lt
  obtain ⟨head, many, cs, h, hv⟩ := h
  have hm : l.length = many := by rw [hv, view_length]
  have Hm := Lib.hid hm
  clear hm
  have c18 := h.c18
  have hmr := h.hm
  clear h hv
  have hdiv : ((many : Int) + 1) / 2 = (halfOf l : Nat) := by unfold halfOf; rw [Hm.out]; omega
  have hh1 : halfOf l ≤ many := by unfold halfOf; rw [Hm.out]; omega
  generalize halfOf l = half at *
  have Hdiv := Lib.hid hdiv
  clear hdiv
  go_enter Try.func57, Try.ntmps57
  go_wp2_with fail
  rw [Hdiv.out]
  go_loopw [3, 12] (fun v i wr => ∃ k : Nat, k ≤ half ∧ i = .int .i64 k ∧ Ints wr w.heap.size v (l.take k) ∧ RingIs wr b room (l.drop k) ∧ Only [b] w wr)
    (fun _ i _ => half - (intOf i).toNat)
  case atStart => exact ⟨0, Nat.zero_le _, rfl, Ints.nil _ _, by simpa using hR, Only.refl _ _⟩
  case round =>
    obtain ⟨k, hk, rfl, hown, hr, ho⟩ := hrel
    by_cases hlt : k < half
    · have hsz := ho.size
      have hkl : k < l.length := by rw [Hm.out]; omega
      rw [drop_nth l k hkl] at hr
      go_wp2_with fail
      refine (Ring.steal b room _ _ _ hr).mono ?_
      rintro e w1 ⟨rfl, hr1, ho1⟩
      have hown1 := hown.only_low ho1 (by simpa using hb)
      have hoo := ho.trans ho1 (by simp)
      have hsz1 := hoo.size
      have hfar := hown.far hb
      clear hown ho ho1 hr hR c18
      go_wp2_with (at_builtin; refine wpList_push rfl (.tmp 21) (.tmp 23) rfl w1 w.heap.size u3 (l.take k) w1.heap.size (nth l k) k hown1 (by rw [List.length_take]; omega) (by omega) hsz1 rfl rfl ((Only.refl [] w1).alloc _) (World.cell?_alloc_at _ _ _ _ rfl) ?_; intro g cap w2 hown2 hgr _)
      rw [← take_succ_nth l k hkl] at hown2
      have ho2 := hoo.pushed hown1 (Nat.le_refl _) hgr
      have hr2 := hr1.only hgr hfar
      clear hown1 hgr hoo hr1
      go_roundw
      case rel => exact ⟨k + 1, by omega, by go_num, hown2, hr2, ho2⟩
      case measure => simp [intOf]; omega
    · obtain rfl : k = half := by omega
      go_wp2
      go_ret
      exact ⟨_, rfl, hown, hr, ho⟩

end Go.Proofs.Ytocpmncedlenbaa
