/-
  Contracts of package ring: what each call does to a ring in memory, in terms of the list that it holds.
  Contracts of package ring, by lists: Steal.
-/
import Derived.Test.YtoofalchkedciaaGreatDoorP1TopGang
import Derived.Test.YtoofalchkedciaaGreatDoorRows
import Derived.Test.YtoofalchkedciaaGreatDoorP2TopGang
namespace Go.Proofs.YtoofalchkedciaaGreatDoor
open Go.RowKit

/-- A ring in block b: its room, its head, how many there are, and its 16 cells. -/
structure RawRing (w : World) (b room head many : Nat) (cs : List Int) : Prop where
  len : cs.length = 16
  r1 : 1 ≤ room
  r2 : room ≤ 16
  hh : head < room
  hm : many ≤ room
  cell : ∀ i, i < 16 → w.cell? ⟨b, i, none⟩ = some (.int .i64 (nth cs i))
  c16 : w.cell? ⟨b, 16, none⟩ = some (.int .i64 room)
  c17 : w.cell? ⟨b, 17, none⟩ = some (.int .i64 head)
  c18 : w.cell? ⟨b, 18, none⟩ = some (.int .i64 many)
  fz : ∀ i, i < 19 → w.frozen? ⟨b, i, none⟩ = false

/-- The cell in which the i-th one lies. -/
def spot (room head i : Nat) : Nat := (head + i) % room

theorem spot_lt {room : Nat} (head i : Nat) (h : 1 ≤ room) : spot room head i < room := Nat.mod_lt _ h
theorem spot_int (room head i : Nat) : ((head : Int) + i) % room = (spot room head i : Nat) := by unfold spot; simp

set_option maxHeartbeats 400000 in
theorem ring_at (b room head many : Nat) (cs : List Int) (i : Nat) (w : World) (h : RawRing w b room head many cs) (h1 : i ≤ 1000) :
    Calls Tryz.prog 174 #[.pointer (some ⟨b, 0, none⟩), .int .i64 i] w fun e w' => e = .returned (.int .i64 (spot room head i)) ∧ ∃ n, w' = w.drewN n := by
  rw [← spot_int]
  obtain ⟨hl, r1, r2, hh, hm, hc, c16, c17, c18, hf⟩ := h
  clear hc hf c18
  go_enter Tryz.func174, Tryz.ntmps174
  go_wp2_with fail
  go_quiet (fail)
  go_wp2
  go_ret
  exact ⟨rfl, _, rfl⟩

/-- The list that a ring holds. -/
def view (cs : List Int) (room head many : Nat) : List Int := (List.range many).map fun i => nth cs (spot room head i)

set_option maxHeartbeats 400000 in
theorem ring_new_no (n : Int) (w : World) (h : n < 1 ∨ 16 < n) :
    Calls Tryz.prog 132 #[.int .i64 n] w fun e w' => e = .returned (.tuple #[.pointer none, .iface 98 (.int .i64 1)]) ∧ ∃ n, w' = w.drewN n := by
  rcases h with h | h
  · go_enter Tryz.func132, Tryz.ntmps132
    go_wp2
    go_ret2
    exact ⟨rfl, 0, rfl⟩
  · have h1 : ¬ n < 1 := by omega
    go_enter Tryz.func132, Tryz.ntmps132
    go_wp2
    go_ret2
    exact ⟨rfl, 0, rfl⟩

theorem rawRing_new (w : World) (room : Nat) (h1 : 1 ≤ room) (h2 : room ≤ 16) :
    RawRing (w.alloc (.cells (#[.int .i64 0, .int .i64 0, .int .i64 0, .int .i64 0, .int .i64 0, .int .i64 0, .int .i64 0, .int .i64 0, .int .i64 0, .int .i64 0, .int .i64 0, .int .i64 0, .int .i64 0, .int .i64 0, .int .i64 0, .int .i64 0, .int .i64 room, .int .i64 0, .int .i64 0]) 270 (0, 0))) w.heap.size room 0 0 (List.replicate 16 0) := by
  have e : w.heap.size < (w.alloc (.cells (#[.int .i64 0, .int .i64 0, .int .i64 0, .int .i64 0, .int .i64 0, .int .i64 0, .int .i64 0, .int .i64 0, .int .i64 0, .int .i64 0, .int .i64 0, .int .i64 0, .int .i64 0, .int .i64 0, .int .i64 0, .int .i64 0, .int .i64 room, .int .i64 0, .int .i64 0]) 270 (0, 0))).heap.size := by simp
  refine ⟨rfl, h1, h2, by omega, Nat.zero_le _, ?_, ?_, ?_, ?_, ?_⟩
  · intro i hi
    rw [World.cell?_alloc_new]
    rcases i with _|_|_|_|_|_|_|_|_|_|_|_|_|_|_|_|i <;> first | rfl | omega
  · rw [World.cell?_alloc_new]; rfl
  · rw [World.cell?_alloc_new]; rfl
  · rw [World.cell?_alloc_new]; rfl
  · intro i _
    exact World.frozen?_alloc_at _ _ _ _ rfl

set_option maxHeartbeats 400000 in
theorem ring_new (room : Nat) (w : World) (h1 : 1 ≤ room) (h2 : room ≤ 16) :
    Calls Tryz.prog 132 #[.int .i64 room] w fun e w' => e = .returned (.tuple #[.pointer (some ⟨w.heap.size, 0, none⟩), .nilIface]) ∧ RawRing w' w.heap.size room 0 0 (List.replicate 16 0) ∧ Only [] w w' := by
  go_enter Tryz.func132, Tryz.ntmps132
  go_wp2
  go_ret2
  exact ⟨rfl, rawRing_new w room h1 h2, (Only.refl _ _).alloc _⟩

set_option maxHeartbeats 400000 in
theorem ring_len (b room head many : Nat) (cs : List Int) (w : World) (h : RawRing w b room head many cs) :
    Calls Tryz.prog 133 #[.pointer (some ⟨b, 0, none⟩)] w fun e w' => e = .returned (.int .i64 many) ∧ w = w' := by
  obtain ⟨hl, r1, r2, hh, hm, hc, c16, c17, c18, hf⟩ := h
  clear hc hf
  go_enter Tryz.func133, Tryz.ntmps133
  go_wp2
  go_ret
  exact ⟨rfl, rfl⟩

theorem RawRing.drewN {w : World} {b room head many : Nat} {cs : List Int} (h : RawRing w b room head many cs) (n : Nat) : RawRing (w.drewN n) b room head many cs :=
  ⟨h.len, h.r1, h.r2, h.hh, h.hm, h.cell, h.c16, h.c17, h.c18, h.fz⟩

theorem RawRing.drew {w : World} {b room head many : Nat} {cs : List Int} (h : RawRing w b room head many cs) : RawRing w.drew b room head many cs :=
  ⟨h.len, h.r1, h.r2, h.hh, h.hm, h.cell, h.c16, h.c17, h.c18, h.fz⟩

theorem RawRing.lt {w : World} {b room head many : Nat} {cs : List Int} (h : RawRing w b room head many cs) : b < w.heap.size := cell_lt h.c16

theorem RawRing.only {w w' : World} {b room head many : Nat} {cs : List Int} {S : List Nat} (h : RawRing w b room head many cs) (ho : Only S w w') (hb : b ∉ S) : RawRing w' b room head many cs :=
  have c : ∀ i, w'.cell? ⟨b, i, none⟩ = w.cell? ⟨b, i, none⟩ := fun i => ho.cell (p := ⟨b, i, none⟩) h.lt hb
  have f : ∀ i, w'.frozen? ⟨b, i, none⟩ = w.frozen? ⟨b, i, none⟩ := fun i => ho.frozen (p := ⟨b, i, none⟩) h.lt hb
  ⟨h.len, h.r1, h.r2, h.hh, h.hm, fun i hi => (c i).trans (h.cell i hi), (c 16).trans h.c16, (c 17).trans h.c17, (c 18).trans h.c18, fun i hi => (f i).trans (h.fz i hi)⟩

theorem RawRing.setCs {w : World} {b room head many : Nat} {cs : List Int} (h : RawRing w b room head many cs) (j : Nat) (hj : j < 16) (n : Int) :
    RawRing (w.setCell ⟨b, j, none⟩ (.int .i64 n)) b room head many (cs.set j n) := by
  have o : ∀ i, i ≠ j → (w.setCell ⟨b, j, none⟩ (.int .i64 n)).cell? ⟨b, i, none⟩ = w.cell? ⟨b, i, none⟩ := fun i hi =>
    World.cell?_setCell_other _ _ _ _ (fun e => hi (congrArg Addr.off e).symm)
  refine ⟨by simp [h.len], h.r1, h.r2, h.hh, h.hm, ?_, (o 16 (by omega)).trans h.c16, (o 17 (by omega)).trans h.c17, (o 18 (by omega)).trans h.c18, fun i hi => by rw [World.frozen?_setCell]; exact h.fz i hi⟩
  intro i hi
  by_cases e : i = j
  · subst e
    rw [World.cell?_setCell_same _ _ _ (h.cell i hi)]
    have := h.len
    simp [nth, this, hi]
  · rw [o i e, h.cell i hi]
    simp [nth, Ne.symm e]

theorem RawRing.setMany {w : World} {b room head many : Nat} {cs : List Int} (h : RawRing w b room head many cs) (m : Nat) (hm : m ≤ room) :
    RawRing (w.setCell ⟨b, 18, none⟩ (.int .i64 m)) b room head m cs := by
  have o : ∀ i, i ≠ 18 → (w.setCell ⟨b, 18, none⟩ (.int .i64 m)).cell? ⟨b, i, none⟩ = w.cell? ⟨b, i, none⟩ := fun i hi =>
    World.cell?_setCell_other _ _ _ _ (fun e => hi (congrArg Addr.off e).symm)
  exact ⟨h.len, h.r1, h.r2, h.hh, hm, fun i hi => (o i (by omega)).trans (h.cell i hi), (o 16 (by omega)).trans h.c16, (o 17 (by omega)).trans h.c17, World.cell?_setCell_same _ _ _ h.c18, fun i hi => by rw [World.frozen?_setCell]; exact h.fz i hi⟩

theorem RawRing.setHead {w : World} {b room head many : Nat} {cs : List Int} (h : RawRing w b room head many cs) (m : Nat) (hm : m < room) :
    RawRing (w.setCell ⟨b, 17, none⟩ (.int .i64 m)) b room m many cs := by
  have o : ∀ i, i ≠ 17 → (w.setCell ⟨b, 17, none⟩ (.int .i64 m)).cell? ⟨b, i, none⟩ = w.cell? ⟨b, i, none⟩ := fun i hi =>
    World.cell?_setCell_other _ _ _ _ (fun e => hi (congrArg Addr.off e).symm)
  exact ⟨h.len, h.r1, h.r2, hm, h.hm, fun i hi => (o i (by omega)).trans (h.cell i hi), (o 16 (by omega)).trans h.c16, World.cell?_setCell_same _ _ _ h.c17, (o 18 (by omega)).trans h.c18, fun i hi => by rw [World.frozen?_setCell]; exact h.fz i hi⟩

set_option maxHeartbeats 400000 in
theorem ring_push_full (b room head many : Nat) (cs : List Int) (n : Int) (w : World) (h : RawRing w b room head many cs) (hf : many = room) :
    Calls Tryz.prog 134 #[.pointer (some ⟨b, 0, none⟩), .int .i64 n] w fun e w' => e = .returned (.iface 98 (.int .i64 4)) ∧ ∃ n, w' = w.drewN n := by
  obtain ⟨hl, r1, r2, hh, hm, hc, c16, c17, c18, hfz⟩ := h
  clear hc hfz c17
  subst hf
  go_enter Tryz.func134, Tryz.ntmps134
  go_wp2_with fail
  go_quiet (fail)
  go_wp2
  go_ret
  exact ⟨rfl, _, rfl⟩

set_option maxHeartbeats 400000 in
theorem ring_push (b room head many : Nat) (cs : List Int) (n : Int) (w : World) (h : RawRing w b room head many cs) (hf : many < room) :
    Calls Tryz.prog 134 #[.pointer (some ⟨b, 0, none⟩), .int .i64 n] w fun e w' => e = .returned .nilIface ∧ RawRing w' b room head (many + 1) (cs.set (spot room head many) n) ∧ Only [b] w w' := by
  have hR := h
  obtain ⟨hl, r1, r2, hh, hm, hc, c16, c17, c18, hfz⟩ := h
  have hne : ((many : Int) == (room : Int)) = false := by simp; omega
  have hj : spot room head many < 16 := by have := spot_lt head many r1; omega
  have hj' : ((spot room head many : Nat) : Int) < 16 := by omega
  have hcj := hc _ hj
  have hfj := hfz (spot room head many) (by omega)
  have hf18 := hfz 18 (by omega)
  clear hc hfz
  go_enter Tryz.func134, Tryz.ntmps134
  go_wp2_with fail
  go_quiet (fail)
  go_wp2_with fail
  go_region_with (go_at_call 174; refine (ring_at b room head many cs many _ (hR.drewN _) (by omega)).mono ?_; rintro e w1 ⟨rfl, nn, rfl⟩)
  go_wp2
  go_ret
  refine ⟨rfl, ?_, ?_⟩
  · exact (((hR.drewN _).setCs _ hj n).setMany (many + 1) (by omega))
  · exact (((Only.refl [b] w).drewN _).setCell (by simp) _).setCell (by simp) _

theorem mod_ne {room head i j : Nat} (hij : i < j) (hj : j < room) : (head + i) % room ≠ (head + j) % room := by
  intro e
  have h1 := Nat.div_add_mod (head + i) room
  have h2 := Nat.div_add_mod (head + j) room
  rw [e] at h1
  have h3 : room * ((head + j) / room) = room * ((head + i) / room) + (j - i) := by omega
  have h4 : (room * ((head + j) / room)) % room = (room * ((head + i) / room) + (j - i)) % room := by rw [h3]
  rw [Nat.mul_mod_right, Nat.mul_add_mod, Nat.mod_eq_of_lt (by omega)] at h4
  omega

theorem view_length (cs : List Int) (room head many : Nat) : (view cs room head many).length = many := by simp [view]

theorem view_push (cs : List Int) (room head many : Nat) (n : Int) (hc : cs.length = 16) (h1 : 1 ≤ room) (h2 : room ≤ 16) (hm : many < room) :
    view (cs.set (spot room head many) n) room head (many + 1) = view cs room head many ++ [n] := by
  have hs := spot_lt head many h1
  unfold view
  rw [List.range_succ, List.map_append]
  congr 1
  · refine List.map_congr_left fun i hi => ?_
    have hi : i < many := by simpa using hi
    have : spot room head many ≠ spot room head i := fun e => mod_ne hi hm e.symm
    simp [nth, this]
  · simp [nth, List.getElem?_set, hc, show spot room head many < 16 by omega]

theorem view_pop (cs : List Int) (room head many : Nat) :
    view cs room head (many + 1) = view cs room head many ++ [nth cs (spot room head many)] := by
  unfold view
  rw [List.range_succ, List.map_append]
  rfl

theorem view_steal (cs : List Int) (room head many : Nat) (hh : head < room) :
    view cs room head (many + 1) = (nth cs (head)) :: view cs room (spot room head 1) many := by
  unfold view
  rw [List.range_succ_eq_map, List.map_cons, List.map_map]
  congr 1
  · simp [spot, Nat.mod_eq_of_lt hh]
  · refine List.map_congr_left fun i _ => ?_
    have : spot room head (i + 1) = spot room (spot room head 1) i := by
      unfold spot
      rw [Nat.mod_add_mod]
      congr 1
      omega
    simp [this]

/-- A ring in block b, with room for so many, holds a list. -/
def RingIs (w : World) (b room : Nat) (l : List Int) : Prop := ∃ head many cs, RawRing w b room head many cs ∧ l = view cs room head many

theorem RingIs.lt {w : World} {b room : Nat} {l : List Int} (h : RingIs w b room l) : b < w.heap.size := by
  obtain ⟨_, _, _, h, _⟩ := h
  exact h.lt
theorem RingIs.le {w : World} {b room : Nat} {l : List Int} (h : RingIs w b room l) : l.length ≤ room := by
  obtain ⟨_, _, _, h, rfl⟩ := h
  rw [view_length]
  exact h.hm
theorem RingIs.room {w : World} {b room : Nat} {l : List Int} (h : RingIs w b room l) : 1 ≤ room ∧ room ≤ 16 := by
  obtain ⟨_, _, _, h, _⟩ := h
  exact ⟨h.r1, h.r2⟩
theorem RingIs.only {w w' : World} {b room : Nat} {l : List Int} {S : List Nat} (h : RingIs w b room l) (ho : Only S w w') (hb : b ∉ S) : RingIs w' b room l := by
  obtain ⟨head, many, cs, h, e⟩ := h
  exact ⟨head, many, cs, h.only ho hb, e⟩
theorem RingIs.drewN {w : World} {b room : Nat} {l : List Int} (h : RingIs w b room l) (n : Nat) : RingIs (w.drewN n) b room l := by
  obtain ⟨head, many, cs, h, e⟩ := h
  exact ⟨head, many, cs, h.drewN n, e⟩

theorem Only.draws (S : List Nat) (w : World) (n : Nat) : Only S w (w.drewN n) := (Only.refl S w).drewN n

theorem Ring.new (room : Int) (w : World) (h1 : 1 ≤ room) (h2 : room ≤ 16) :
    Calls Tryz.prog 132 #[.int .i64 room] w fun e w' => e = .returned (.tuple #[.pointer (some ⟨w.heap.size, 0, none⟩), .nilIface]) ∧ RingIs w' w.heap.size room.toNat [] ∧ Only [] w w' := by
  obtain ⟨n, rfl⟩ := Int.eq_ofNat_of_zero_le (show 0 ≤ room by omega)
  exact (ring_new n w (by omega) (by omega)).mono fun _ _ ⟨he, hr, ho⟩ => ⟨he, ⟨0, 0, _, hr, rfl⟩, ho⟩

theorem Ring.push_full (b room : Nat) (l : List Int) (n : Int) (w : World) (h : RingIs w b room l) (hf : l.length = room) :
    Calls Tryz.prog 134 #[.pointer (some ⟨b, 0, none⟩), .int .i64 n] w fun e w' => e = .returned (.iface 98 (.int .i64 4)) ∧ RingIs w' b room l ∧ Only [] w w' := by
  have h0 := h
  obtain ⟨head, many, cs, h, rfl⟩ := h
  rw [view_length] at hf
  refine (ring_push_full b room head many cs n w h hf).mono ?_
  rintro e w' ⟨he, k, rfl⟩
  exact ⟨he, h0.drewN k, Only.draws _ _ _⟩

theorem Ring.push (b room : Nat) (l : List Int) (n : Int) (w : World) (h : RingIs w b room l) (hf : l.length < room) :
    Calls Tryz.prog 134 #[.pointer (some ⟨b, 0, none⟩), .int .i64 n] w fun e w' => e = .returned .nilIface ∧ RingIs w' b room (l ++ [n]) ∧ Only [b] w w' := by
  obtain ⟨head, many, cs, h, rfl⟩ := h
  rw [view_length] at hf
  exact (ring_push b room head many cs n w h hf).mono fun _ _ ⟨he, hr, ho⟩ => ⟨he, ⟨head, many + 1, _, hr, (view_push cs room head many n h.len h.r1 h.r2 hf).symm⟩, ho⟩

theorem Ring.len (b room : Nat) (l : List Int) (w : World) (h : RingIs w b room l) :
    Calls Tryz.prog 133 #[.pointer (some ⟨b, 0, none⟩)] w fun e w' => e = .returned (.int .i64 l.length) ∧ w = w' := by
  obtain ⟨head, many, cs, h, rfl⟩ := h
  rw [view_length]
  exact ring_len b room head many cs w h

set_option maxHeartbeats 400000 in
theorem ring_steal_none (b room head : Nat) (cs : List Int) (w : World) (h : RawRing w b room head 0 cs) :
    Calls Tryz.prog 182 #[.pointer (some ⟨b, 0, none⟩)] w fun e w' => e = .returned (.tuple #[.int .i64 0, .iface 98 (.int .i64 5)]) ∧ w = w' := by
  obtain ⟨hl, r1, r2, hh, hm, hc, c16, c17, c18, hfz⟩ := h
  clear hc hfz c17
  go_enter Tryz.func182, Tryz.ntmps182
  go_wp2
  go_ret2
  exact ⟨rfl, rfl⟩

set_option maxHeartbeats 400000 in
theorem ring_steal (b room head many : Nat) (cs : List Int) (w : World) (h : RawRing w b room head (many + 1) cs) :
    Calls Tryz.prog 182 #[.pointer (some ⟨b, 0, none⟩)] w fun e w' => e = .returned (.tuple #[.int .i64 (nth cs (head)), .nilIface]) ∧ RawRing w' b room (spot room head 1) many cs ∧ Only [b] w w' := by
  have hR := h
  obtain ⟨hl, r1, r2, hh, hm, hc, c16, c17, c18, hfz⟩ := h
  have hj' : (head : Int) < 16 := by omega
  have hcj := hc head (by omega)
  have hf18 := hfz 18 (by omega)
  have hf17 := hfz 17 (by omega)
  have c18 : w.cell? ⟨b, 18, none⟩ = some (.int .i64 ((many : Int) + 1)) := by rw [c18]; rfl
  clear hc hfz
  go_enter Tryz.func182, Tryz.ntmps182
  go_wp2_with fail
  go_quiet (fail)
  go_wp2_with fail
  refine (ring_at b room head (many + 1) cs 1 _ (hR.drewN _) (by omega)).mono ?_
  rintro e w1 ⟨rfl, nn, rfl⟩
  go_wp2
  go_ret2
  refine ⟨rfl, ?_, ?_⟩
  · exact (((hR.drewN _).setHead _ (spot_lt head 1 r1)).setMany many (by omega))
  · exact (((Only.refl [b] w).drewN _).setCell (by simp) _).setCell (by simp) _

end Go.Proofs.YtoofalchkedciaaGreatDoor

namespace Go.Proofs.YtoofalchkedciaaGreatDoor
open Go.RowKit

theorem Ring.steal_none (b room : Nat) (w : World) (h : RingIs w b room []) :
    Calls Tryz.prog 182 #[.pointer (some ⟨b, 0, none⟩)] w fun e w' => e = .returned (.tuple #[.int .i64 0, .iface 98 (.int .i64 5)]) ∧ w = w' := by
  obtain ⟨head, many, cs, h, hv⟩ := h
  obtain rfl : many = 0 := by have := congrArg List.length hv; simpa [view_length] using this.symm
  exact ring_steal_none b room head cs w h

theorem Ring.steal (b room : Nat) (l : List Int) (x : Int) (w : World) (h : RingIs w b room (x :: l)) :
    Calls Tryz.prog 182 #[.pointer (some ⟨b, 0, none⟩)] w fun e w' => e = .returned (.tuple #[.int .i64 x, .nilIface]) ∧ RingIs w' b room l ∧ Only [b] w w' := by
  obtain ⟨head, many, cs, h, hv⟩ := h
  obtain ⟨m, rfl⟩ : ∃ m, many = m + 1 := ⟨l.length, by have := congrArg List.length hv; simpa [view_length] using this.symm⟩
  rw [view_steal _ _ _ _ h.hh] at hv
  injection hv with h2 h1
  refine (ring_steal b room head m cs w h).mono ?_
  rintro e w' ⟨he, hr, ho⟩
  rw [← h2] at he
  exact ⟨he, ⟨_, m, cs, hr, h1⟩, ho⟩

end Go.Proofs.YtoofalchkedciaaGreatDoor
