/-
  Contracts of package hand.
-/
import Derived.Test.YtocpmncedlenbaaP8GangShares
namespace Go.Proofs.Ytocpmncedlenbaa
open Go.RowKit

/-- A hand in block b, its ring in block rb. -/
structure HandIs (w : World) (b rb : Nat) (near : Int) (room : Nat) (l : List Int) : Prop where
  cells : Cells w b [.int .i64 near, .pointer (some ⟨rb, 0, none⟩)]
  ring : RingIs w rb room l
  ne : b ≠ rb

theorem HandIs.only {w w' : World} {b rb room : Nat} {near : Int} {l : List Int} {S : List Nat} (h : HandIs w b rb near room l) (ho : Only S w w') (h1 : b ∉ S) (h2 : rb ∉ S) : HandIs w' b rb near room l :=
  ⟨h.cells.only ho h1, h.ring.only ho h2, h.ne⟩

theorem hand_new_no (n : Int) (w : World) (h : n < 1 ∨ 16 < n) :
    Calls Try.prog 18 #[.int .i64 n] w fun e w' => e = .returned (.tuple #[.pointer none, .iface 52 (.int .i64 1)]) ∧ Only [] w w' := by
  go_enter Try.func18, Try.ntmps18
  go_wp2_with fail
  refine (ring_new_no _ _ h).mono ?_
  rintro e w1 ⟨rfl, m, rfl⟩
  go_wp2
  go_ret2
  exact ⟨rfl, Only.draws _ _ _⟩

theorem Hand.new (room : Int) (w : World) (h1 : 1 ≤ room) (h2 : room ≤ 16) :
    Calls Try.prog 18 #[.int .i64 room] w fun e w' => ∃ b rb, e = .returned (.tuple #[.pointer (some ⟨b, 0, none⟩), .nilIface]) ∧ HandIs w' b rb (-1) room.toNat [] ∧ Only [] w w' ∧ w.heap.size ≤ b ∧ w.heap.size ≤ rb := by
  go_enter Try.func18, Try.ntmps18
  go_wp2_with fail
  refine (Ring.new _ _ h1 h2).mono ?_
  rintro e w1 ⟨rfl, hr, ho⟩
  have hlt := hr.lt
  have hal := hr.only ((Only.refl [] w1).alloc (.cells #[.int .i64 (-1), .pointer (some ⟨w.heap.size, 0, none⟩)] 98)) (by simp)
  have hcs := Cells.new w1 #[.int .i64 (-1), .pointer (some ⟨w.heap.size, 0, none⟩)] 98
  have hoo := ho.alloc (.cells #[.int .i64 (-1), .pointer (some ⟨w.heap.size, 0, none⟩)] 98)
  have H1 := Lib.hid hal
  have H2 := Lib.hid hcs
  have H3 := Lib.hid hoo
  clear hal hcs hoo
  go_wp2
  go_ret2
  exact ⟨_, _, rfl, ⟨H2.out, H1.out, by omega⟩, H3.out, by omega, by omega⟩

/-- What goes out when one more is put. -/
def handOut (near : Int) (room : Nat) (l : List Int) : List Int := if near < 0 then [] else if l.length < room then [] else l.take (halfOf l)
/-- What the ring has then. -/
def handRest (near : Int) (room : Nat) (l : List Int) : List Int := if near < 0 then l else if l.length < room then l ++ [near] else l.drop (halfOf l) ++ [near]

set_option maxHeartbeats 400000 in
theorem Hand.put (b rb room : Nat) (near : Int) (l : List Int) (n : Int) (w : World) (h : HandIs w b rb near room l) :
    Calls Try.prog 43 #[.pointer (some ⟨b, 0, none⟩), .int .i64 n] w fun e w' => ∃ v, e = .returned v ∧ Ints w' w.heap.size v (handOut near room l) ∧ HandIs w' b rb n room (handRest near room l) ∧ Only [b, rb] w w' := by
  have hb := h.cells.lt
  have hrb := h.ring.lt
  have hle := h.ring.le
  have hrm := h.ring.room
  obtain ⟨hcs, hr, hne⟩ := h
  have c0 := hcs.cell 0 _ rfl
  have c1 := hcs.cell 1 _ rfl
  have f0 := hcs.free 0 _ rfl
  have hr1 := hr.only ((Only.refl [b] w).setCell (p := ⟨b, 0, none⟩) (by simp) (.int .i64 n)) (by simpa using Ne.symm hne)
  have hcs1 := hcs.set 0 (.int .i64 n)
  have ho1 := (Only.refl [b, rb] w).setCell (p := ⟨b, 0, none⟩) (by simp) (.int .i64 n)
  have hsz : (w.setCell ⟨b, 0, none⟩ (.int .i64 n)).heap.size = w.heap.size := by simp
  generalize hw1 : w.setCell ⟨b, 0, none⟩ (.int .i64 n) = w1 at *
  have HW := Lib.hid hw1
  have c1' := hcs1.cell 1 _ rfl
  clear hw1
  by_cases hneg : near < 0
  · have e1 : handOut near room l = [] := by simp [handOut, hneg]
    have e2 : handRest near room l = l := by simp [handRest, hneg]
    rw [e1, e2]
    clear e1 e2
    have Hsz := Lib.hid hsz
    clear hsz
    go_enter Try.func43, Try.ntmps43
    go_wp2
    go_ret
    rw [HW.out]
    exact ⟨_, rfl, Ints.nil _ _, ⟨hcs1, hr1, hne⟩, ho1⟩
  · by_cases hroom : l.length < room
    · have e1 : handOut near room l = [] := by simp [handOut, hneg, hroom]
      have e2 : handRest near room l = l ++ [near] := by simp [handRest, hneg, hroom]
      rw [e1, e2]
      clear e1 e2
      have Hsz := Lib.hid hsz
      clear hsz
      go_enter Try.func43, Try.ntmps43
      go_wp2_with fail
      rw [HW.out]
      refine (Ring.push _ _ _ _ _ hr1 hroom).mono ?_
      rintro e w2 ⟨rfl, hr2, ho2⟩
      have hcs2 := hcs1.only ho2 (by simpa using hne)
      have ho3 := ho1.trans ho2 (by simp)
      clear hr1 ho2
      go_wp2
      go_ret
      exact ⟨_, rfl, Ints.nil _ _, ⟨hcs2, hr2, hne⟩, ho3⟩
    · have e1 : handOut near room l = l.take (halfOf l) := by simp [handOut, hneg, hroom]
      have e2 : handRest near room l = l.drop (halfOf l) ++ [near] := by simp [handRest, hneg, hroom]
      have hfull : l.length = room := by omega
      have hpos : (l.drop (halfOf l)).length < room := by rw [List.length_drop]; unfold halfOf; omega
      rw [e1, e2]
      clear e1 e2 hroom
      have Hfull := Lib.hid hfull
      have Hpos := Lib.hid hpos
      have Hsz := Lib.hid hsz
      clear hsz hfull hpos
      go_enter Try.func43, Try.ntmps43
      go_wp2_with fail
      rw [HW.out]
      refine (Ring.push_full _ _ _ _ _ hr1 Hfull.out).mono ?_
      rintro e w2 ⟨rfl, hr2, ho2⟩
      have hcs2 := hcs1.only ho2 (by simp)
      have ho3 := ho1.trans ho2 (by simp)
      have c2 := hcs2.cell 1 _ rfl
      clear hr1 ho2 ho1 c1' hcs1
      go_wp2_with fail
      refine (Ring.half _ _ _ _ hr2).mono ?_
      rintro e w3 ⟨v, rfl, hv, hr3, ho4⟩
      have hcs3 := hcs2.only ho4 (by simpa using hne)
      have ho5 := ho3.trans ho4 (by simp)
      have hsz2 := ho3.size
      have hv' := hv.mono (show w.heap.size ≤ w2.heap.size by have := ho3.size; omega)
      have c3 := hcs3.cell 1 _ rfl
      clear hr2 ho4 ho3 c2 hcs2 hv hsz2
      go_wp2_with fail
      refine (Ring.push _ _ _ _ _ hr3 Hpos.out).mono ?_
      rintro e w4 ⟨rfl, hr4, ho6⟩
      have hcs4 := hcs3.only ho6 (by simpa using hne)
      have ho7 := ho5.trans ho6 (by simp)
      have hv4 := hv'.only_low ho6 (by simpa using hrb)
      clear hr3 ho6 ho5 c3 hcs3 hv'
      go_wp2
      go_ret
      exact ⟨_, rfl, hv4, ⟨hcs4, hr4, hne⟩, ho7⟩



/-- How many a hand has. -/
def handLen (near : Int) (l : List Int) : Nat := if near < 0 then l.length else l.length + 1

theorem Hand.rob (b rb room : Nat) (near : Int) (l : List Int) (w : World) (h : HandIs w b rb near room l) :
    Calls Try.prog 48 #[.pointer (some ⟨b, 0, none⟩)] w fun e w' => ∃ v, e = .returned v ∧ Ints w' w.heap.size v (l.take (halfOf l)) ∧ HandIs w' b rb near room (l.drop (halfOf l)) ∧ Only [rb] w w' := by
  obtain ⟨hcs, hr, hne⟩ := h
  have c1 := hcs.cell 1 _ rfl
  go_enter Try.func48, Try.ntmps48
  go_wp2_with fail
  refine (Ring.half _ _ _ _ hr).mono ?_
  rintro e w3 ⟨v, rfl, hv, hr3, ho⟩
  have hcs3 := hcs.only ho (by simpa using hne)
  clear hcs hr c1
  go_wp2
  go_ret
  exact ⟨_, rfl, hv, ⟨hcs3, hr3, hne⟩, ho⟩

theorem Hand.take_near (b rb room : Nat) (near : Int) (l : List Int) (w : World) (h : HandIs w b rb near room l) (hn : 0 ≤ near) :
    Calls Try.prog 45 #[.pointer (some ⟨b, 0, none⟩)] w fun e w' => e = .returned (.tuple #[.int .i64 near, .nilIface]) ∧ HandIs w' b rb (-1) room l ∧ Only [b] w w' := by
  obtain ⟨hcs, hr, hne⟩ := h
  have c0 := hcs.cell 0 _ rfl
  have f0 := hcs.free 0 _ rfl
  have hr1 := hr.only ((Only.refl [b] w).setCell (p := ⟨b, 0, none⟩) (by simp) (.int .i64 (-1))) (by simpa using Ne.symm hne)
  have hcs1 := hcs.set 0 (.int .i64 (-1))
  have ho1 := (Only.refl [b] w).setCell (p := ⟨b, 0, none⟩) (by simp) (.int .i64 (-1))
  have H : Hid (HandIs (w.setCell ⟨b, 0, none⟩ (.int .i64 (-1))) b rb (-1) room l ∧ Only [b] w (w.setCell ⟨b, 0, none⟩ (.int .i64 (-1)))) := ⟨⟨hcs1, hr1, hne⟩, ho1⟩
  clear hcs1 hr1 ho1 hr hcs
  go_enter Try.func45, Try.ntmps45
  go_wp2
  go_ret2
  exact ⟨rfl, H.out⟩

theorem Hand.take_none (b rb room : Nat) (w : World) (near : Int) (h : HandIs w b rb near room []) (hn : near < 0) :
    Calls Try.prog 45 #[.pointer (some ⟨b, 0, none⟩)] w fun e w' => e = .returned (.tuple #[.int .i64 0, .iface 52 (.int .i64 5)]) ∧ w = w' := by
  obtain ⟨hcs, hr, hne⟩ := h
  have c0 := hcs.cell 0 _ rfl
  have c1 := hcs.cell 1 _ rfl
  clear hcs hne
  go_enter Try.func45, Try.ntmps45
  go_wp2_with fail
  refine (Ring.pop_none _ _ _ hr).mono ?_
  rintro e w3 ⟨rfl, rfl⟩
  go_wp2
  go_ret2
  exact ⟨rfl, rfl⟩

theorem Hand.take_ring (b rb room : Nat) (near : Int) (l : List Int) (x : Int) (w : World) (h : HandIs w b rb near room (l ++ [x])) (hn : near < 0) :
    Calls Try.prog 45 #[.pointer (some ⟨b, 0, none⟩)] w fun e w' => e = .returned (.tuple #[.int .i64 x, .nilIface]) ∧ HandIs w' b rb near room l ∧ Only [rb] w w' := by
  obtain ⟨hcs, hr, hne⟩ := h
  have c0 := hcs.cell 0 _ rfl
  have c1 := hcs.cell 1 _ rfl
  go_enter Try.func45, Try.ntmps45
  go_wp2_with fail
  refine (Ring.pop _ _ _ _ _ hr).mono ?_
  rintro e w3 ⟨rfl, hr3, ho⟩
  have hcs3 := hcs.only ho (by simpa using hne)
  clear hcs hr c0 c1
  go_wp2
  go_ret2
  exact ⟨rfl, ⟨hcs3, hr3, hne⟩, ho⟩

end Go.Proofs.Ytocpmncedlenbaa
