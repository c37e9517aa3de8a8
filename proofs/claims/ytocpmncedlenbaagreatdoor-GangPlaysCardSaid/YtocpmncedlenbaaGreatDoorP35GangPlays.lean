/-
  Contracts of the reference's hand, yardref1.Hand.
-/
import Derived.Test.YtocpmncedlenbaaGreatDoorP9GangPlays
import Derived.Test.YtocpmncedlenbaaGreatDoorP5GangPlays
import Derived.Test.YtocpmncedlenbaaGreatDoorP33GangPlays
namespace Go.Proofs.YtocpmncedlenbaaGreatDoor
open Go.RowKit

/-- The reference's hand in block d: its room, what is near, its ring. -/
structure RefHandIs (w : World) (fp : List Nat) (d room : Nat) (near : Int) (l : List Int) : Prop where
  ex : ∃ rv, Cells w d [.int .i64 room, .int .i64 near, rv] ∧ Sl w rv l ∧ d ∉ own rv ∧ fp = d :: own rv
  len : l.length ≤ 1000

theorem RefHandIs.lt {w : World} {fp : List Nat} {d room : Nat} {near : Int} {l : List Int} (h : RefHandIs w fp d room near l) : d ∈ fp ∧ ∀ x ∈ fp, x < w.heap.size := by
  obtain ⟨⟨rv, hc, hs, _, rfl⟩, _⟩ := h
  refine ⟨by simp, fun x hx => ?_⟩
  rcases List.mem_cons.1 hx with rfl | hx
  · exact hc.lt
  · exact hs.lt x hx

theorem RefHandIs.only {w w' : World} {fp : List Nat} {d room : Nat} {near : Int} {l : List Int} {S : List Nat} (h : RefHandIs w fp d room near l) (ho : Only S w w') (hS : ∀ x ∈ fp, x ∉ S) : RefHandIs w' fp d room near l := by
  obtain ⟨⟨rv, hc, hs, hd, rfl⟩, hl⟩ := h
  exact ⟨⟨rv, hc.only ho (hS d (by simp)), hs.only ho (fun x hx => hS x (by simp [hx])), hd, rfl⟩, hl⟩

theorem Sl.front {w : World} {a : Option Addr} {N cap : Nat} {l0 : List Int} {x : Int} (h : Sl w (.slice a N cap) (l0 ++ [x])) (m : Nat) (hm : m = l0.length) : Sl w (.slice a m cap) l0 := by
  rcases h with ⟨h, hl⟩ | ⟨g, off, cap', hv, h1, h2, h3, h4, h5⟩
  · simp at hl
  · injection hv with e1 e2 e3
    subst e1 e3 hm
    simp at h1 h4
    refine .inr ⟨g, off, cap, rfl, by omega, h2, h3, fun i hi => ?_, h5⟩
    rw [h4 i (by omega)]
    simp [nth, List.getElem?_append_left hi]

theorem RefHand.take_near (fp : List Nat) (d room : Nat) (near : Int) (l : List Int) (w : World) (h : RefHandIs w fp d room near l) (h0 : 0 ≤ near) :
    Calls Tryz.prog 79 #[.pointer (some ⟨d, 0, none⟩)] w fun e w' => e = .returned (.tuple #[.int .i64 near, .bool true]) ∧ RefHandIs w' fp d room (-1) l ∧ Only [d] w w' := by
  obtain ⟨⟨rv, hc, hs, hd, rfl⟩, hl⟩ := h
  have c1 := hc.cell 1 _ rfl
  have f1 := hc.free 1 _ rfl
  have hO := (Only.refl [d] w).setCell (p := ⟨d, 1, none⟩) (by simp) (.int .i64 (-1))
  have hP : RefHandIs (w.setCell ⟨d, 1, none⟩ (.int .i64 (-1))) (d :: own rv) d room (-1) l := ⟨⟨rv, hc.set 1 _, hs.only hO (fun x hx hx2 => by simp at hx2; exact hd (hx2 ▸ hx)), hd, rfl⟩, hl⟩
  clear hc hs
  go_enter Tryz.func79, Tryz.ntmps79
  go_wp2
  go_ret2
  exact ⟨rfl, hP, hO⟩

theorem RefHand.take_none (fp : List Nat) (d room : Nat) (near : Int) (w : World) (h : RefHandIs w fp d room near []) (h0 : near < 0) :
    Calls Tryz.prog 79 #[.pointer (some ⟨d, 0, none⟩)] w fun e w' => e = .returned (.tuple #[.int .i64 0, .bool false]) ∧ w = w' := by
  obtain ⟨⟨rv, hc, hs, hd, rfl⟩, hl⟩ := h
  have c1 := hc.cell 1 _ rfl
  have c2 := hc.cell 2 _ rfl
  obtain ⟨a, c, rfl, _⟩ := hs.opt
  have hge : decide (0 ≤ near) = false := by simp; omega
  clear hc hs
  go_enter Tryz.func79, Tryz.ntmps79
  go_wp2
  go_ret2
  exact ⟨rfl, rfl⟩

set_option maxHeartbeats 1000000 in
set_option maxRecDepth 100000 in
theorem RefHand.take_ring (fp : List Nat) (d room : Nat) (near : Int) (l0 : List Int) (x : Int) (w : World) (h : RefHandIs w fp d room near (l0 ++ [x])) (h0 : near < 0) :
    Calls Tryz.prog 79 #[.pointer (some ⟨d, 0, none⟩)] w fun e w' => e = .returned (.tuple #[.int .i64 x, .bool true]) ∧ RefHandIs w' fp d room near l0 ∧ Only [d] w w' := by
  obtain ⟨⟨rv, hc, hs, hd, rfl⟩, hl⟩ := h
  have c1 := hc.cell 1 _ rfl
  have c2 := hc.cell 2 _ rfl
  have f2 := hc.free 2 _ rfl
  rcases hs with ⟨_, hs⟩ | ⟨g, off, cap, rfl, h1, h2, h3, h4, h5⟩
  · simp at hs
  · have hs : Sl w (.slice (some ⟨g, off, none⟩) (l0 ++ [x]).length cap) (l0 ++ [x]) := .inr ⟨g, off, cap, rfl, h1, h2, h3, h4, h5⟩
    have hx : w.cell? ⟨g, off + l0.length, none⟩ = some (.int .i64 x) := by rw [h4 _ (by simp)]; simp [nth]
    have hll : (l0 ++ [x]).length = l0.length + 1 := by simp
    rw [hll] at c2 h1 hs hl
    have hO := fun m => ((Only.refl [d] w).drewN m).setCell (p := ⟨d, 2, none⟩) (by simp) (.slice (some ⟨g, off, none⟩) l0.length cap)
    have hP : Hid (∀ m, RefHandIs ((w.drewN m).setCell ⟨d, 2, none⟩ (.slice (some ⟨g, off, none⟩) l0.length cap)) (d :: own (.slice (some ⟨g, off, none⟩) (l0 ++ [x]).length cap)) d room near l0) := by
      show ∀ m, _
      intro m
      exact ⟨⟨_, (hc.drewN m).set 2 _, (hs.front l0.length rfl).only (hO m) (fun y hy hy2 => by simp at hy2; exact hd (hy2 ▸ hy)), hd, rfl⟩, by omega⟩
    have HO := Lib.hid hO
    obtain ⟨n0, hn0⟩ : ∃ n0, l0.length = n0 := ⟨_, rfl⟩
    rw [hn0] at c2 hx h1 HO hP hl
    have hge : decide (0 ≤ near) = false := by simp; omega
    have hwr : IntKind.i64.wrap ((n0 : Int) + 1 - 1) = (n0 : Int) := by rw [IntWalk.i64_in _ (by omega)]; omega
    have hnc1 : n0 ≤ cap := by omega
    have hnc2 : (n0 : Int) ≤ (cap : Int) := by omega
    have hnc3 : decide ((cap : Int) < (n0 : Int)) = false := by simp; omega
    have hnc4 : decide (cap < n0) = false := by simp; omega
    have hwr3 : IntKind.i64.wrap (n0 : Int) = (n0 : Int) := IntWalk.i64_in _ (by omega)
    unfold maxLen at h2
    clear hc hs hO h4 h5 hll hn0
    go_enter Tryz.func79, Tryz.ntmps79
    go_wp2_with fail
    go_quiet (fail)
    go_wp2_with fail
    obtain ⟨wq, hwq⟩ : ∃ wq, w.drewN nq = wq := ⟨_, rfl⟩
    have c2q : wq.cell? ⟨d, 2, none⟩ = some (.slice (some ⟨g, off, none⟩) (n0 + 1) cap) := by rw [← hwq]; exact c2
    have f2q : wq.frozen? ⟨d, 2, none⟩ = false := by rw [← hwq]; exact f2
    have hPq : Hid (RefHandIs (wq.drew.setCell ⟨d, 2, none⟩ (.slice (some ⟨g, off, none⟩) n0 cap)) (d :: own (.slice (some ⟨g, off, none⟩) (l0 ++ [x]).length cap)) d room near l0) := by rw [← hwq]; exact hP.out (nq + 1)
    have hOq : Hid (Only [d] w (wq.drew.setCell ⟨d, 2, none⟩ (.slice (some ⟨g, off, none⟩) n0 cap))) := by rw [← hwq]; exact HO.out (nq + 1)
    rw [hwq]
    clear hwq c2 f2 hP HO hx c1
    go_still_tail 14, (by kernel_rfl)
    change wpList _ _ _ _ _ wq.drew
    have c2d : wq.drew.cell? ⟨d, 2, none⟩ = some (.slice (some ⟨g, off, none⟩) (n0 + 1) cap) := c2q
    have f2d : wq.drew.frozen? ⟨d, 2, none⟩ = false := f2q
    clear hwr hwr3
    go_wp2
    go_ret2
    exact ⟨rfl, hPq.out, hOq.out⟩

set_option maxHeartbeats 1000000 in
theorem RefHand.put_first (fp : List Nat) (d room : Nat) (near : Int) (l : List Int) (n : Int) (w : World) (h : RefHandIs w fp d room near l) (h0 : near < 0) :
    Calls Tryz.prog 77 #[.pointer (some ⟨d, 0, none⟩), .int .i64 n] w fun e w' => e = .returned (.slice none 0 0) ∧ RefHandIs w' fp d room n l ∧ Only [d] w w' := by
  obtain ⟨⟨rv, hc, hs, hd, rfl⟩, hl⟩ := h
  have c1 := hc.cell 1 _ rfl
  have f1 := hc.free 1 _ rfl
  have hO := (Only.refl [d] w).setCell (p := ⟨d, 1, none⟩) (by simp) (.int .i64 n)
  have hP : RefHandIs (w.setCell ⟨d, 1, none⟩ (.int .i64 n)) (d :: own rv) d room n l := ⟨⟨rv, hc.set 1 _, hs.only hO (fun x hx hx2 => by simp at hx2; exact hd (hx2 ▸ hx)), hd, rfl⟩, hl⟩
  clear hc hs
  go_enter Tryz.func77, Tryz.ntmps77
  go_wp2
  go_ret
  exact ⟨rfl, hP, hO⟩

set_option maxHeartbeats 2000000 in
set_option maxRecDepth 100000 in
theorem RefHand.rob (fp : List Nat) (d room : Nat) (near : Int) (l : List Int) (w : World) (h : RefHandIs w fp d room near l) :
    Calls Tryz.prog 82 #[.pointer (some ⟨d, 0, none⟩)] w fun e w' => ∃ v fp', e = .returned v ∧ Ints w' w.heap.size v (l.take (halfOf l)) ∧ RefHandIs w' fp' d room near (l.drop (halfOf l)) ∧ Only [d] w w' ∧ Kin w fp fp' := by
  obtain ⟨⟨rv, hc, hs, hd, rfl⟩, hl⟩ := h
  have c2 := hc.cell 2 _ rfl
  have hdl := hc.lt
  have hcut := cutting rv l (halfOf l) w.drew hs.reads (by omega) (by unfold halfOf; omega)
  obtain ⟨a, c, rfl, _⟩ := hs.opt
  obtain ⟨n, hn⟩ : ∃ n, l.length = n := ⟨_, rfl⟩
  have hk : ((n : Int) + 1).tdiv 2 = (halfOf l : Nat) := by
    rw [Int.tdiv_eq_ediv_of_nonneg (by omega)]; unfold halfOf; rw [hn]; omega
  have hk2 : ((n : Int) + 1) / 2 = (halfOf l : Nat) := by unfold halfOf; rw [hn]; omega
  have hhb : halfOf l ≤ 1000 := by unfold halfOf; omega
  have hdrop : Hid ((l.drop (halfOf l)).length ≤ 1000) := by show _ ≤ _; simp; omega
  obtain ⟨hf, hhf⟩ : ∃ hf, halfOf l = hf := ⟨_, rfl⟩
  rw [hn] at c2 hl hcut
  rw [hhf] at hk hk2 hhb hcut hdrop ⊢
  have hwr : IntKind.i64.wrap ((n : Int) + 1) = (n : Int) + 1 := IntWalk.i64_in _ (by omega)
  have hwr2 : IntKind.i64.wrap (hf : Int) = (hf : Int) := IntWalk.i64_in _ (by omega)
  have hcd : Hid (Cells w.drew d [.int .i64 room, .int .i64 near, .slice a n c]) := by rw [hn] at hc; exact hc
  have HN := Lib.hid hn
  clear hs hn hhf hc
  go_enter Tryz.func82, Tryz.ntmps82
  go_wp2_with fail
  have HCut := Lib.hid hcut
  go_region_law (first | (go_simp; go_at_call 78; refine HCut.out.mono ?_; rintro e w1 ⟨va, vb, rfl, hIa, hIb, ho⟩; obtain ⟨ba, bc, rfl, _⟩ := hIb.opt; obtain ⟨aa, ac, rfl, _⟩ := hIa.opt; obtain ⟨q, hq⟩ : ∃ q, (l.drop hf).length = q := ⟨_, rfl⟩; obtain ⟨p, hp⟩ : ∃ p, (l.take hf).length = p := ⟨_, rfl⟩; rw [hq] at hIb hdrop ⊢; rw [hp] at hIa ⊢; have HQ := Lib.hid hq; clear hq hp; have hc1 := hcd.out.only ho (by simp); have c2' := hc1.cell 2 _ rfl; have f2 := hc1.free 2 _ rfl))
  all_goals
    clear HCut
    have hdb : d ∉ own (Value.slice ba q bc) := fun hx => by have := (hIb.own_lt _ hx).1; simp at this; omega
    have hda : d ∉ own (Value.slice aa p ac) := fun hx => by have := (hIa.own_lt _ hx).1; simp at this; omega
    have hset := (Only.refl [d] w1).setCell (p := ⟨d, 2, none⟩) (by simp) (Value.slice ba q bc)
    have hIa2 := hIa.only hset (fun g hg hx => by simp at hx; subst hx; exact hda (own_of hg))
    have hP : Hid (RefHandIs (w1.setCell ⟨d, 2, none⟩ (Value.slice ba q bc)) (d :: own (Value.slice ba q bc)) d room near (l.drop hf)) :=
      ⟨⟨_, hc1.set 2 _, hIb.sl.only hset (fun x hx hx2 => by simp at hx2; exact hdb (hx2 ▸ hx)), hdb, rfl⟩, by rw [HQ.out]; exact hdrop.out⟩
    have hO : Hid (Only [d] w (w1.setCell ⟨d, 2, none⟩ (Value.slice ba q bc))) := ((Only.refl [d] w).drew.trans ho (by simp)).setCell (by simp) _
    have hK : Hid (Kin w (d :: own (.slice a l.length c)) (d :: own (Value.slice ba q bc))) := by
      show ∀ x ∈ _, _
      intro x hx
      rcases List.mem_cons.1 hx with rfl | hx
      · exact .inl (by simp)
      · exact .inr (hIb.own_lt x hx).1
    clear hcut hIa hIb hc1 hset ho hk hwr2
    go_wp2
    go_ret
    exact ⟨_, _, rfl, hIa2, hP.out, hO.out, hK.out⟩

set_option maxHeartbeats 2000000 in
set_option maxRecDepth 100000 in
theorem RefHand.put_room (fp : List Nat) (d room : Nat) (near : Int) (l : List Int) (n : Int) (w : World) (h : RefHandIs w fp d room near l) (h0 : 0 ≤ near) (hr : l.length < room) (hr16 : room ≤ 16) :
    Calls Tryz.prog 77 #[.pointer (some ⟨d, 0, none⟩), .int .i64 n] w fun e w' => ∃ fp', e = .returned (.slice none 0 0) ∧ RefHandIs w' fp' d room n (l ++ [near]) ∧ Only fp w w' ∧ Kin w fp fp' := by
  obtain ⟨⟨rv, hc, hs, hd, rfl⟩, hl⟩ := h
  have c0 := hc.cell 0 _ rfl
  have c1 := hc.cell 1 _ rfl
  have c2 := hc.cell 2 _ rfl
  have f1 := hc.free 1 _ rfl
  have f2 := hc.free 2 _ rfl
  have hdl := hc.lt
  have hO := (Only.refl [d] w).setCell (p := ⟨d, 1, none⟩) (by simp) (.int .i64 n)
  have hc1 := hc.set 1 (.int .i64 n)
  have hs1 := hs.only hO (fun x hx hx2 => by simp at hx2; exact hd (hx2 ▸ hx))
  obtain ⟨a, c, rfl, _⟩ := hs.opt
  obtain ⟨k, hk⟩ : ∃ k, l.length = k := ⟨_, rfl⟩
  have HK := Lib.hid hk
  have hown : Hid (own (Value.slice a l.length c) = own (Value.slice a k c)) := own_slice _ _ _ _ _
  rw [hown.out] at hd ⊢
  rw [hk] at c2 hr hl hs1 hc1
  have hneq : ((k : Int) == (room : Int)) = false := by simp; omega
  have hlt : decide (near < 0) = false := by simp; omega
  clear hc hs hk
  go_enter Tryz.func77, Tryz.ntmps77
  go_wp2_with fail
  go_quiet (fail)
  obtain ⟨wq, hwq⟩ : ∃ wq, (w.setCell ⟨d, 1, none⟩ (.int .i64 n)).drewN nq = wq := ⟨_, rfl⟩
  have hcq : Cells wq d [.int .i64 room, .int .i64 n, .slice a k c] := by rw [← hwq]; exact hc1.drewN nq
  have hsq : Sl wq (.slice a k c) l := by rw [← hwq]; exact hs1.only ((Only.refl [] _).drewN nq) (by simp)
  have hoq : Only [d] w wq := by rw [← hwq]; exact hO.drewN nq
  have c2q := hcq.cell 2 _ rfl
  have f2q := hcq.free 2 _ rfl
  have hszq := hoq.size
  rw [hwq]
  clear hwq hc1 hs1 hO c0 c1 c2 f1 f2
  go_wp2_with (at_builtin; refine wpList_push_sl rfl (.tmp 53) (.tmp 55) rfl wq _ _ _ near k hsq HK.out (by omega) rfl rfl ((Only.refl [] wq).alloc _) (World.cell?_alloc_at _ _ _ _ rfl) ?_; intro g off cap w3 hI3 hO3 hK3; have hcd := hcq.only hO3 hd; have c2d := hcd.cell 2 _ rfl; have f2d := hcd.free 2 _ rfl; clear c2q f2q)
  have hdg : d ≠ g := fun e => by
    rcases hK3 with h | h
    · exact hd (e ▸ h)
    · omega
  have hset := (Only.refl [d] w3).setCell (p := ⟨d, 2, none⟩) (by simp) (.slice (some ⟨g, off, none⟩) (k + 1) cap)
  go_ret
  refine ⟨d :: own (.slice (some ⟨g, off, none⟩) (k + 1) cap), rfl, ⟨⟨_, hcd.set 2 _, hI3.only hset (fun x hx hx2 => by simp at hx2; simp [own, Value.ownBlock] at hx; omega), by simpa [own, Value.ownBlock] using hdg, rfl⟩, by simp [HK.out]; omega⟩, ?_, ?_⟩
  · exact ((hoq.mono (by simp)).trans hO3 (fun x hx _ => by simp [hx])).setCell (by simp) _
  · intro x hx
    rcases List.mem_cons.1 hx with rfl | hx
    · exact .inl (by simp)
    · obtain rfl : x = g := by simpa [own, Value.ownBlock] using hx
      rcases hK3 with h | h
      · exact .inl (by simp [h])
      · exact .inr (by omega)

set_option maxHeartbeats 4000000 in
set_option maxRecDepth 100000 in
theorem RefHand.put_full (fp : List Nat) (d room : Nat) (near : Int) (l : List Int) (n : Int) (w : World) (h : RefHandIs w fp d room near l) (h0 : 0 ≤ near) (hr : l.length = room) (hr16 : room ≤ 16) :
    Calls Tryz.prog 77 #[.pointer (some ⟨d, 0, none⟩), .int .i64 n] w fun e w' => ∃ v fp', e = .returned v ∧ Ints w' w.heap.size v (l.take (halfOf l)) ∧ RefHandIs w' fp' d room n (l.drop (halfOf l) ++ [near]) ∧ Only [d] w w' ∧ Kin w fp fp' := by
  obtain ⟨⟨rv, hc, hs, hd, rfl⟩, hl⟩ := h
  have c0 := hc.cell 0 _ rfl
  have c1 := hc.cell 1 _ rfl
  have c2 := hc.cell 2 _ rfl
  have f1 := hc.free 1 _ rfl
  have f2 := hc.free 2 _ rfl
  have hdl := hc.lt
  have hO := (Only.refl [d] w).setCell (p := ⟨d, 1, none⟩) (by simp) (.int .i64 n)
  have hc1 := hc.set 1 (.int .i64 n)
  have hs1 := hs.only hO (fun x hx hx2 => by simp at hx2; exact hd (hx2 ▸ hx))
  obtain ⟨a, c, rfl, _⟩ := hs.opt
  obtain ⟨k, hk⟩ : ∃ k, l.length = k := ⟨_, rfl⟩
  have HK := Lib.hid hk
  have hown : Hid (own (Value.slice a l.length c) = own (Value.slice a k c)) := own_slice _ _ _ _ _
  rw [hown.out] at hd ⊢
  rw [hk] at c2 hr hl hs1 hc1
  have hneq : ((k : Int) == (room : Int)) = true := by rw [hr]; simp
  have hk16 : k ≤ 16 := by omega
  have hlt : decide (near < 0) = false := by simp; omega
  have hkd : ((k : Int) + 1).tdiv 2 = (halfOf l : Nat) := by
    rw [Int.tdiv_eq_ediv_of_nonneg (by omega)]; unfold halfOf; rw [hk]; omega
  have hkd2 : ((k : Int) + 1) / 2 = (halfOf l : Nat) := by unfold halfOf; rw [hk]; omega
  have hhb : halfOf l ≤ 16 := by unfold halfOf; omega
  have hhk : halfOf l ≤ k + 1 := by unfold halfOf; omega
  obtain ⟨hf, hhf⟩ : ∃ hf, halfOf l = hf := ⟨_, rfl⟩
  rw [hhf] at hkd hkd2 hhb hhk ⊢
  have hwr : IntKind.i64.wrap ((k : Int) + 1) = (k : Int) + 1 := IntWalk.i64_in _ (by omega)
  have hwr2 : IntKind.i64.wrap (hf : Int) = (hf : Int) := IntWalk.i64_in _ (by omega)
  clear hc hs hk hr hhf
  go_enter Tryz.func77, Tryz.ntmps77
  go_wp2_with fail
  go_quiet (fail)
  obtain ⟨wq, hwq⟩ : ∃ wq, (w.setCell ⟨d, 1, none⟩ (.int .i64 n)).drewN nq = wq := ⟨_, rfl⟩
  have hcq : Cells wq d [.int .i64 room, .int .i64 n, .slice a k c] := by rw [← hwq]; exact hc1.drewN nq
  have hsq : Sl wq (.slice a k c) l := by rw [← hwq]; exact hs1.only ((Only.refl [] _).drewN nq) (by simp)
  have hoq : Only [d] w wq := by rw [← hwq]; exact hO.drewN nq
  have c2q := hcq.cell 2 _ rfl
  have f2q := hcq.free 2 _ rfl
  have hszq := hoq.size
  have hcut := cutting_apart (.slice a k c) l hf wq.drew hsq.reads (by rw [HK.out]; omega) (by omega)
  have HCut := Lib.hid hcut
  rw [hwq]
  clear hwq hc1 hs1 hO c0 c1 c2 f1 f2 hcut
  go_wp2_with fail
  go_region_law (first | (go_simp; go_at_call 78; refine HCut.out.mono ?_; rintro e w1 ⟨va, vb, rfl, hIa, hIb, ho, hap⟩; obtain ⟨ba, bc, rfl, _⟩ := hIb.opt; obtain ⟨aa, ac, rfl, _⟩ := hIa.opt; obtain ⟨q, hq⟩ : ∃ q, (l.drop hf).length = q := ⟨_, rfl⟩; obtain ⟨p, hp⟩ : ∃ p, (l.take hf).length = p := ⟨_, rfl⟩; rw [hq] at hIb hap ⊢; rw [hp] at hIa hap ⊢; have HQ := Lib.hid hq; clear hq hp; have hcq1 := (hcq.drewN 1).only ho (by simp); have c2' := hcq1.cell 2 _ rfl; have f2' := hcq1.free 2 _ rfl))
  all_goals
    clear HCut
    have hq16 : q ≤ 16 := by rw [← HQ.out, List.length_drop, HK.out]; omega
    have hdb : d ∉ own (Value.slice ba q bc) := fun hx => by have := (hIb.own_lt _ hx).1; simp at this; omega
    have hda : d ∉ own (Value.slice aa p ac) := fun hx => by have := (hIa.own_lt _ hx).1; simp at this; omega
    have hset := (Only.refl [d] w1).setCell (p := ⟨d, 2, none⟩) (by simp) (.slice ba q bc)
    have hIa2 := hIa.only hset (fun g hg hx => by simp at hx; subst hx; exact hda (own_of hg))
    have hIb2 := hIb.only hset (fun g hg hx => by simp at hx; subst hx; exact hdb (own_of hg))
    have hSb := hIb2.sl
    have hcq2 : Cells (w1.setCell ⟨d, 2, none⟩ (.slice ba q bc)) d [.int .i64 room, .int .i64 n, .slice ba q bc] := hcq1.set 2 _
    have hoo : Only [d] w (w1.setCell ⟨d, 2, none⟩ (.slice ba q bc)) := ((hoq.drew).trans ho (by simp)).setCell (by simp) _
    have hblt : ∀ x ∈ own (Value.slice ba q bc), w.heap.size ≤ x := fun x hx => by have := (hIb.own_lt x hx).1; simp at this; omega
    have halt : w.heap.size ≤ wq.drew.heap.size := hszq
    clear hIa hIb hIb2 hset hcq1 ho hoq hkd hkd2 hwr hwr2 hcq hsq c2q f2q
    go_wp2_with (at_builtin; refine wpList_push_sl rfl (.tmp 53) (.tmp 55) rfl _ _ _ _ near q hSb HQ.out (by omega) rfl rfl ((Only.refl [] _).alloc _) (World.cell?_alloc_at _ _ _ _ (by simp)) ?_; intro g off cap w5 hI5 hO5 hK5; have hcd := hcq2.only hO5 hdb; have c2d := hcd.cell 2 _ rfl; have f2d := hcd.free 2 _ rfl; clear c2' f2')
    have hdg : d ≠ g := fun e => by
      rcases hK5 with h | h
      · exact hdb (e ▸ h)
      · have := hoo.size; omega
    have hset5 := (Only.refl [d] w5).setCell (p := ⟨d, 2, none⟩) (by simp) (.slice (some ⟨g, off, none⟩) (q + 1) cap)
    have hgw : w.heap.size ≤ g := by
      rcases hK5 with h | h
      · exact hblt g h
      · have := hoo.size; omega
    go_ret
    refine ⟨_, d :: own (.slice (some ⟨g, off, none⟩) (q + 1) cap), rfl, ?_, ⟨⟨_, hcd.set 2 _, hI5.only hset5 (fun x hx hx2 => by simp at hx2; simp [own, Value.ownBlock] at hx; omega), by simpa [own, Value.ownBlock] using hdg, rfl⟩, by rw [List.length_append, HQ.out]; simp; omega⟩, ?_, ?_⟩
    · exact ((hIa2.only hO5 (fun g9 h9 hx => hap g9 (own_of h9) hx)).only hset5 (fun g9 h9 hx => by simp at hx; subst hx; exact hda (own_of h9))).mono halt
    · exact (hoo.trans hO5 (fun x hx hl => by have := hblt x hx; omega)).setCell (by simp) _
    · intro x hx
      rcases List.mem_cons.1 hx with rfl | hx
      · exact .inl (by simp)
      · obtain rfl : x = g := by simpa [own, Value.ownBlock] using hx
        exact .inr hgw

end Go.Proofs.YtocpmncedlenbaaGreatDoor
