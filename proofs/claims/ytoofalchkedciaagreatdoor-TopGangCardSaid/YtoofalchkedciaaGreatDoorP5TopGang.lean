/-
  Contracts of package ring, by lists: Pop, Half, All.
  Contracts of package hand.
  Slices of structs: addresses, pairs that came in.
  Slices of structs that the call itself made: appended to, read, written. k: how many cells an element has.
  A list put behind one of the call's own, at a step of a region that draws its order.
  Contracts of hand.All and spill.All.
-/
import Derived.Test.YtoofalchkedciaaGreatDoorP3TopGang
import Derived.Test.YtoofalchkedciaaGreatDoorP2TopGang
import Derived.Deep.SlicePairs
import Derived.Test.YtoofalchkedciaaGreatDoorP4TopGang
namespace Go.Proofs.YtoofalchkedciaaGreatDoor
open Go.RowKit

set_option maxHeartbeats 400000 in
theorem ring_pop_none (b room head : Nat) (cs : List Int) (w : World) (h : RawRing w b room head 0 cs) :
    Calls Tryz.prog 181 #[.pointer (some ⟨b, 0, none⟩)] w fun e w' => e = .returned (.tuple #[.int .i64 0, .iface 98 (.int .i64 5)]) ∧ w = w' := by
  obtain ⟨hl, r1, r2, hh, hm, hc, c16, c17, c18, hfz⟩ := h
  clear hc hfz c17
  go_enter Tryz.func181, Tryz.ntmps181
  go_wp2
  go_ret2
  exact ⟨rfl, rfl⟩

set_option maxHeartbeats 400000 in
theorem ring_pop (b room head many : Nat) (cs : List Int) (w : World) (h : RawRing w b room head (many + 1) cs) :
    Calls Tryz.prog 181 #[.pointer (some ⟨b, 0, none⟩)] w fun e w' => e = .returned (.tuple #[.int .i64 (nth cs (spot room head many)), .nilIface]) ∧ RawRing w' b room head many cs ∧ Only [b] w w' := by
  have hR := h
  have hR2 := hR.setMany many (by have := hR.hm; omega)
  obtain ⟨hl, r1, r2, hh, hm, hc, c16, c17, c18, hfz⟩ := h
  have hj : spot room head many < 16 := by have := spot_lt head many r1; omega
  have hj' : ((spot room head many : Nat) : Int) < 16 := by omega
  have hcj := hR2.cell _ hj
  have hf18 := hfz 18 (by omega)
  have c16' := hR2.c16
  have c17' := hR2.c17
  have c18' := hR2.c18
  have c18 : w.cell? ⟨b, 18, none⟩ = some (.int .i64 ((many : Int) + 1)) := by rw [c18]; rfl
  clear hc hfz
  go_enter Tryz.func181, Tryz.ntmps181
  go_wp2_with fail
  go_quiet ((go_at_call 174; refine Calls.quiet_of (ring_at b room head many cs many _ (hR2.drewN _) (by omega))))
  go_wp2
  go_ret2
  exact ⟨rfl, hR2.drewN _, ((Only.refl [b] w).setCell (by simp) _).drewN _⟩

theorem Ring.pop_none (b room : Nat) (w : World) (h : RingIs w b room []) :
    Calls Tryz.prog 181 #[.pointer (some ⟨b, 0, none⟩)] w fun e w' => e = .returned (.tuple #[.int .i64 0, .iface 98 (.int .i64 5)]) ∧ w = w' := by
  obtain ⟨head, many, cs, h, hv⟩ := h
  obtain rfl : many = 0 := by have := congrArg List.length hv; simpa [view_length] using this.symm
  exact ring_pop_none b room head cs w h

theorem Ring.pop (b room : Nat) (l : List Int) (x : Int) (w : World) (h : RingIs w b room (l ++ [x])) :
    Calls Tryz.prog 181 #[.pointer (some ⟨b, 0, none⟩)] w fun e w' => e = .returned (.tuple #[.int .i64 x, .nilIface]) ∧ RingIs w' b room l ∧ Only [b] w w' := by
  obtain ⟨head, many, cs, h, hv⟩ := h
  obtain ⟨m, rfl⟩ : ∃ m, many = m + 1 := ⟨l.length, by have := congrArg List.length hv; simpa [view_length] using this.symm⟩
  rw [view_pop] at hv
  obtain ⟨h1, h2⟩ := List.append_inj' hv rfl
  injection h2 with h2 _
  refine (ring_pop b room head m cs w h).mono ?_
  rintro e w' ⟨he, hr, ho⟩
  rw [← h2] at he
  exact ⟨he, ⟨head, m, cs, hr, h1⟩, ho⟩



/-- What a Half takes. -/
def halfOf (l : List Int) : Nat := (l.length + 1) / 2

set_option maxHeartbeats 400000 in
theorem Ring.half (b room : Nat) (l : List Int) (w : World) (h : RingIs w b room l) :
    Calls Tryz.prog 180 #[.pointer (some ⟨b, 0, none⟩)] w fun e w' => ∃ v, e = .returned v ∧ Ints w' w.heap.size v (l.take (halfOf l)) ∧ RingIs w' b room (l.drop (halfOf l)) ∧ Only [b] w w' := by
  have hR := h
  have hle := h.le
  have hrm := h.room
  have hb := h.lt
  obtain ⟨head, many, cs, h, hv⟩ := h
  have hm : l.length = many := by rw [hv, view_length]
  have Hm := Lib.hid hm
  clear hm
  have c18 := h.c18
  have hmr := h.hm
  clear h hv
  have hdiv : ((many : Int) + 1) / 2 = (halfOf l : Nat) := by unfold halfOf; rw [Hm.out]; omega
  have hh1 : halfOf l ≤ many := by unfold halfOf; rw [Hm.out]; omega
  generalize halfOf l = half at *
  have Hdiv := Lib.hid hdiv
  clear hdiv
  go_enter Tryz.func180, Tryz.ntmps180
  go_wp2_with fail
  rw [Hdiv.out]
  go_loopw [3, 12] (fun v i wr => ∃ k : Nat, k ≤ half ∧ i = .int .i64 k ∧ Ints wr w.heap.size v (l.take k) ∧ RingIs wr b room (l.drop k) ∧ Only [b] w wr)
    (fun _ i _ => half - (intOf i).toNat)
  case atStart => exact ⟨0, Nat.zero_le _, rfl, Ints.nil _ _, by simpa using hR, Only.refl _ _⟩
  case round =>
    obtain ⟨k, hk, rfl, hown, hr, ho⟩ := hrel
    by_cases hlt : k < half
    · have hsz := ho.size
      have hkl : k < l.length := by rw [Hm.out]; omega
      rw [drop_nth l k hkl] at hr
      go_wp2_with fail
      refine (Ring.steal b room _ _ _ hr).mono ?_
      rintro e w1 ⟨rfl, hr1, ho1⟩
      have hown1 := hown.only_low ho1 (by simpa using hb)
      have hoo := ho.trans ho1 (by simp)
      have hsz1 := hoo.size
      have hfar := hown.far hb
      clear hown ho ho1 hr hR c18
      go_wp2_with (at_builtin; refine wpList_push rfl (.tmp 21) (.tmp 23) rfl w1 w.heap.size u3 (l.take k) w1.heap.size (nth l k) k hown1 (by rw [List.length_take]; omega) (by omega) hsz1 rfl rfl ((Only.refl [] w1).alloc _) (World.cell?_alloc_at _ _ _ _ rfl) ?_; intro g cap w2 hown2 hgr _)
      rw [← take_succ_nth l k hkl] at hown2
      have ho2 := hoo.pushed hown1 (Nat.le_refl _) hgr
      have hr2 := hr1.only hgr hfar
      clear hown1 hgr hoo hr1
      go_roundw
      case rel => exact ⟨k + 1, by omega, by go_num, hown2, hr2, ho2⟩
      case measure => simp [intOf]; omega
    · obtain rfl : k = half := by omega
      go_wp2
      go_ret
      exact ⟨_, rfl, hown, hr, ho⟩

end Go.Proofs.YtoofalchkedciaaGreatDoor

namespace Go.Proofs.YtoofalchkedciaaGreatDoor
open Go.RowKit

/-- A hand in block b, its ring in block rb. -/
structure HandIs (w : World) (b rb : Nat) (near : Int) (room : Nat) (l : List Int) : Prop where
  cells : Cells w b [.int .i64 near, .pointer (some ⟨rb, 0, none⟩)]
  ring : RingIs w rb room l
  ne : b ≠ rb

theorem HandIs.only {w w' : World} {b rb room : Nat} {near : Int} {l : List Int} {S : List Nat} (h : HandIs w b rb near room l) (ho : Only S w w') (h1 : b ∉ S) (h2 : rb ∉ S) : HandIs w' b rb near room l :=
  ⟨h.cells.only ho h1, h.ring.only ho h2, h.ne⟩

theorem hand_new_no (n : Int) (w : World) (h : n < 1 ∨ 16 < n) :
    Calls Tryz.prog 88 #[.int .i64 n] w fun e w' => e = .returned (.tuple #[.pointer none, .iface 98 (.int .i64 1)]) ∧ Only [] w w' := by
  go_enter Tryz.func88, Tryz.ntmps88
  go_wp2_with fail
  refine (ring_new_no _ _ h).mono ?_
  rintro e w1 ⟨rfl, m, rfl⟩
  go_wp2
  go_ret2
  exact ⟨rfl, Only.draws _ _ _⟩

theorem Hand.new (room : Int) (w : World) (h1 : 1 ≤ room) (h2 : room ≤ 16) :
    Calls Tryz.prog 88 #[.int .i64 room] w fun e w' => ∃ b rb, e = .returned (.tuple #[.pointer (some ⟨b, 0, none⟩), .nilIface]) ∧ HandIs w' b rb (-1) room.toNat [] ∧ Only [] w w' ∧ w.heap.size ≤ b ∧ w.heap.size ≤ rb := by
  go_enter Tryz.func88, Tryz.ntmps88
  go_wp2_with fail
  refine (Ring.new _ _ h1 h2).mono ?_
  rintro e w1 ⟨rfl, hr, ho⟩
  have hlt := hr.lt
  have hal := hr.only ((Only.refl [] w1).alloc (.cells #[.int .i64 (-1), .pointer (some ⟨w.heap.size, 0, none⟩)] 230)) (by simp)
  have hcs := Cells.new w1 #[.int .i64 (-1), .pointer (some ⟨w.heap.size, 0, none⟩)] 230
  have hoo := ho.alloc (.cells #[.int .i64 (-1), .pointer (some ⟨w.heap.size, 0, none⟩)] 230)
  have H1 := Lib.hid hal
  have H2 := Lib.hid hcs
  have H3 := Lib.hid hoo
  clear hal hcs hoo
  go_wp2
  go_ret2
  exact ⟨_, _, rfl, ⟨H2.out, H1.out, by omega⟩, H3.out, by omega, by omega⟩

/-- What goes out when one more is put. -/
def handOut (near : Int) (room : Nat) (l : List Int) : List Int := if near < 0 then [] else if l.length < room then [] else l.take (halfOf l)
/-- What the ring has then. -/
def handRest (near : Int) (room : Nat) (l : List Int) : List Int := if near < 0 then l else if l.length < room then l ++ [near] else l.drop (halfOf l) ++ [near]

set_option maxHeartbeats 400000 in
theorem Hand.put (b rb room : Nat) (near : Int) (l : List Int) (n : Int) (w : World) (h : HandIs w b rb near room l) :
    Calls Tryz.prog 139 #[.pointer (some ⟨b, 0, none⟩), .int .i64 n] w fun e w' => ∃ v, e = .returned v ∧ Ints w' w.heap.size v (handOut near room l) ∧ HandIs w' b rb n room (handRest near room l) ∧ Only [b, rb] w w' := by
  have hb := h.cells.lt
  have hrb := h.ring.lt
  have hle := h.ring.le
  have hrm := h.ring.room
  obtain ⟨hcs, hr, hne⟩ := h
  have c0 := hcs.cell 0 _ rfl
  have c1 := hcs.cell 1 _ rfl
  have f0 := hcs.free 0 _ rfl
  have hr1 := hr.only ((Only.refl [b] w).setCell (p := ⟨b, 0, none⟩) (by simp) (.int .i64 n)) (by simpa using Ne.symm hne)
  have hcs1 := hcs.set 0 (.int .i64 n)
  have ho1 := (Only.refl [b, rb] w).setCell (p := ⟨b, 0, none⟩) (by simp) (.int .i64 n)
  have hsz : (w.setCell ⟨b, 0, none⟩ (.int .i64 n)).heap.size = w.heap.size := by simp
  generalize hw1 : w.setCell ⟨b, 0, none⟩ (.int .i64 n) = w1 at *
  have HW := Lib.hid hw1
  have c1' := hcs1.cell 1 _ rfl
  clear hw1
  by_cases hneg : near < 0
  · have e1 : handOut near room l = [] := by simp [handOut, hneg]
    have e2 : handRest near room l = l := by simp [handRest, hneg]
    rw [e1, e2]
    clear e1 e2
    have Hsz := Lib.hid hsz
    clear hsz
    go_enter Tryz.func139, Tryz.ntmps139
    go_wp2
    go_ret
    rw [HW.out]
    exact ⟨_, rfl, Ints.nil _ _, ⟨hcs1, hr1, hne⟩, ho1⟩
  · by_cases hroom : l.length < room
    · have e1 : handOut near room l = [] := by simp [handOut, hneg, hroom]
      have e2 : handRest near room l = l ++ [near] := by simp [handRest, hneg, hroom]
      rw [e1, e2]
      clear e1 e2
      have Hsz := Lib.hid hsz
      clear hsz
      go_enter Tryz.func139, Tryz.ntmps139
      go_wp2_with fail
      rw [HW.out]
      refine (Ring.push _ _ _ _ _ hr1 hroom).mono ?_
      rintro e w2 ⟨rfl, hr2, ho2⟩
      have hcs2 := hcs1.only ho2 (by simpa using hne)
      have ho3 := ho1.trans ho2 (by simp)
      clear hr1 ho2
      go_wp2
      go_ret
      exact ⟨_, rfl, Ints.nil _ _, ⟨hcs2, hr2, hne⟩, ho3⟩
    · have e1 : handOut near room l = l.take (halfOf l) := by simp [handOut, hneg, hroom]
      have e2 : handRest near room l = l.drop (halfOf l) ++ [near] := by simp [handRest, hneg, hroom]
      have hfull : l.length = room := by omega
      have hpos : (l.drop (halfOf l)).length < room := by rw [List.length_drop]; unfold halfOf; omega
      rw [e1, e2]
      clear e1 e2 hroom
      have Hfull := Lib.hid hfull
      have Hpos := Lib.hid hpos
      have Hsz := Lib.hid hsz
      clear hsz hfull hpos
      go_enter Tryz.func139, Tryz.ntmps139
      go_wp2_with fail
      rw [HW.out]
      refine (Ring.push_full _ _ _ _ _ hr1 Hfull.out).mono ?_
      rintro e w2 ⟨rfl, hr2, ho2⟩
      have hcs2 := hcs1.only ho2 (by simp)
      have ho3 := ho1.trans ho2 (by simp)
      have c2 := hcs2.cell 1 _ rfl
      clear hr1 ho2 ho1 c1' hcs1
      go_wp2_with fail
      refine (Ring.half _ _ _ _ hr2).mono ?_
      rintro e w3 ⟨v, rfl, hv, hr3, ho4⟩
      have hcs3 := hcs2.only ho4 (by simpa using hne)
      have ho5 := ho3.trans ho4 (by simp)
      have hsz2 := ho3.size
      have hv' := hv.mono (show w.heap.size ≤ w2.heap.size by have := ho3.size; omega)
      have c3 := hcs3.cell 1 _ rfl
      clear hr2 ho4 ho3 c2 hcs2 hv hsz2
      go_wp2_with fail
      refine (Ring.push _ _ _ _ _ hr3 Hpos.out).mono ?_
      rintro e w4 ⟨rfl, hr4, ho6⟩
      have hcs4 := hcs3.only ho6 (by simpa using hne)
      have ho7 := ho5.trans ho6 (by simp)
      have hv4 := hv'.only_low ho6 (by simpa using hrb)
      clear hr3 ho6 ho5 c3 hcs3 hv'
      go_wp2
      go_ret
      exact ⟨_, rfl, hv4, ⟨hcs4, hr4, hne⟩, ho7⟩



/-- How many a hand has. -/
def handLen (near : Int) (l : List Int) : Nat := if near < 0 then l.length else l.length + 1

theorem Hand.rob (b rb room : Nat) (near : Int) (l : List Int) (w : World) (h : HandIs w b rb near room l) :
    Calls Tryz.prog 144 #[.pointer (some ⟨b, 0, none⟩)] w fun e w' => ∃ v, e = .returned v ∧ Ints w' w.heap.size v (l.take (halfOf l)) ∧ HandIs w' b rb near room (l.drop (halfOf l)) ∧ Only [rb] w w' := by
  obtain ⟨hcs, hr, hne⟩ := h
  have c1 := hcs.cell 1 _ rfl
  go_enter Tryz.func144, Tryz.ntmps144
  go_wp2_with fail
  refine (Ring.half _ _ _ _ hr).mono ?_
  rintro e w3 ⟨v, rfl, hv, hr3, ho⟩
  have hcs3 := hcs.only ho (by simpa using hne)
  clear hcs hr c1
  go_wp2
  go_ret
  exact ⟨_, rfl, hv, ⟨hcs3, hr3, hne⟩, ho⟩

theorem Hand.take_near (b rb room : Nat) (near : Int) (l : List Int) (w : World) (h : HandIs w b rb near room l) (hn : 0 ≤ near) :
    Calls Tryz.prog 141 #[.pointer (some ⟨b, 0, none⟩)] w fun e w' => e = .returned (.tuple #[.int .i64 near, .nilIface]) ∧ HandIs w' b rb (-1) room l ∧ Only [b] w w' := by
  obtain ⟨hcs, hr, hne⟩ := h
  have c0 := hcs.cell 0 _ rfl
  have f0 := hcs.free 0 _ rfl
  have hr1 := hr.only ((Only.refl [b] w).setCell (p := ⟨b, 0, none⟩) (by simp) (.int .i64 (-1))) (by simpa using Ne.symm hne)
  have hcs1 := hcs.set 0 (.int .i64 (-1))
  have ho1 := (Only.refl [b] w).setCell (p := ⟨b, 0, none⟩) (by simp) (.int .i64 (-1))
  have H : Hid (HandIs (w.setCell ⟨b, 0, none⟩ (.int .i64 (-1))) b rb (-1) room l ∧ Only [b] w (w.setCell ⟨b, 0, none⟩ (.int .i64 (-1)))) := ⟨⟨hcs1, hr1, hne⟩, ho1⟩
  clear hcs1 hr1 ho1 hr hcs
  go_enter Tryz.func141, Tryz.ntmps141
  go_wp2
  go_ret2
  exact ⟨rfl, H.out⟩

theorem Hand.take_none (b rb room : Nat) (w : World) (near : Int) (h : HandIs w b rb near room []) (hn : near < 0) :
    Calls Tryz.prog 141 #[.pointer (some ⟨b, 0, none⟩)] w fun e w' => e = .returned (.tuple #[.int .i64 0, .iface 98 (.int .i64 5)]) ∧ w = w' := by
  obtain ⟨hcs, hr, hne⟩ := h
  have c0 := hcs.cell 0 _ rfl
  have c1 := hcs.cell 1 _ rfl
  clear hcs hne
  go_enter Tryz.func141, Tryz.ntmps141
  go_wp2_with fail
  refine (Ring.pop_none _ _ _ hr).mono ?_
  rintro e w3 ⟨rfl, rfl⟩
  go_wp2
  go_ret2
  exact ⟨rfl, rfl⟩

theorem Hand.take_ring (b rb room : Nat) (near : Int) (l : List Int) (x : Int) (w : World) (h : HandIs w b rb near room (l ++ [x])) (hn : near < 0) :
    Calls Tryz.prog 141 #[.pointer (some ⟨b, 0, none⟩)] w fun e w' => e = .returned (.tuple #[.int .i64 x, .nilIface]) ∧ HandIs w' b rb near room l ∧ Only [rb] w w' := by
  obtain ⟨hcs, hr, hne⟩ := h
  have c0 := hcs.cell 0 _ rfl
  have c1 := hcs.cell 1 _ rfl
  go_enter Tryz.func141, Tryz.ntmps141
  go_wp2_with fail
  refine (Ring.pop _ _ _ _ _ hr).mono ?_
  rintro e w3 ⟨rfl, hr3, ho⟩
  have hcs3 := hcs.only ho (by simpa using hne)
  clear hcs hr c0 c1
  go_wp2
  go_ret2
  exact ⟨rfl, ⟨hcs3, hr3, hne⟩, ho⟩

end Go.Proofs.YtoofalchkedciaaGreatDoor

namespace Go.Proofs.YtoofalchkedciaaGreatDoor
open Go.RowKit Go.Deep Go.ChangeShapes Go.WideShapes

theorem spot_none {w : World} {x : Addr} {v : Value} (h : w.cell? (x.add 0) = some v) : x.spot = none := by
  unfold World.cell? at h
  split at h
  · cases hsp : x.spot with
    | none => rfl
    | some y => simp [Addr.add, hsp] at h
  · cases h

theorem add_flat (b off n : Nat) : ({ block := b, off := off, spot := none } : Addr).add n = ⟨b, off + n, none⟩ := by
  unfold Addr.add
  split
  · rename_i h; subst h; rfl
  · rfl

/-- The value v is a slice of n pairs; the cells of the i-th are A i, B i. -/
def Pairs (w : World) (v : Value) (n : Nat) (A B : Nat → Value) : Prop :=
  ∃ a cap, v = .slice a n cap ∧ n ≤ cap ∧ cap ≤ maxLen ∧ (a = none → cap = 0) ∧ ∀ i, i < n → ∃ b off, a = some ⟨b, off, none⟩ ∧
    w.cell? ⟨b, off + i * 2, none⟩ = some (A i) ∧ w.cell? ⟨b, off + i * 2 + 1, none⟩ = some (B i)

theorem Pairs.only {w w' : World} {v : Value} {n : Nat} {A B : Nat → Value} {S : List Nat} (h : Pairs w v n A B) (ho : Only S w w') (hS : ∀ x ∈ own v, x ∉ S) : Pairs w' v n A B := by
  obtain ⟨a, cap, rfl, h1, h2, h0, h3⟩ := h
  refine ⟨a, cap, rfl, h1, h2, h0, fun i hi => ?_⟩
  obtain ⟨b, off, rfl, c0, c1⟩ := h3 i hi
  have hb : b ∉ S := hS b (by simp [own, Value.ownBlock])
  exact ⟨b, off, rfl, (ho.cell (p := ⟨b, _, none⟩) (cell_lt c0) hb).trans c0, (ho.cell (p := ⟨b, _, none⟩) (cell_lt c1) hb).trans c1⟩

theorem Pairs.same {w w' : World} {v : Value} {n : Nat} {A B : Nat → Value} (h : Pairs w v n A B) (ho : Only [] w w') : Pairs w' v n A B := h.only ho (by simp)

set_option maxRecDepth 100000 in
/-- A slice of pairs that came in. -/
theorem open_pairs {H : Type} {enc : TypeId × Value → H} {W : World} {base : Nat} {t e : TypeId} {f0 f1 : Field} {v : Value} {d : DataW H} {p : List MemPlace}
    (ht : Tryz.prog.underlying t = some (.slice e)) (he : Tryz.prog.underlying e = some (.struct #[f0, f1]))
    (ce : Tryz.prog.cellsOf e = 2) (o0 : f0.offset = 0) (o1 : f1.offset = 1) (c0 : Tryz.prog.cellsOf f0.type = 1) (c1 : Tryz.prog.cellsOf f1.type = 1)
    (hv : Value.okWide Tryz.prog W .any base t v) (h : DataW.Trod enc Tryz.prog W 0 (fun _ => true) true t v d p) :
    ∃ (n : Nat) (A B : Nat → Value), Pairs W v n A B ∧ ∀ i, i < n → ∃ (k : Nat) (x y : DataW H × List MemPlace),
      DataW.trod enc Tryz.prog W 0 (fun _ => true) true k f0.type [A i] = some x ∧ DataW.trod enc Tryz.prog W 0 (fun _ => true) true k f1.type [B i] = some y := by
  obtain ⟨s, len, cap, rfl⟩ := okWide_slice ht hv
  obtain ⟨fuel, hf⟩ := h
  rcases open_slice_pairs ht he ce o0 o1 c0 c1 hf with ⟨hcs, _⟩ | ⟨a, len', cap', m, n, V0, V1, D0, D1, P0, P1, hcs, _, hl, hm, hmm, _, hi⟩
  · simp [Value.cells] at hcs
    obtain ⟨rfl, rfl, rfl⟩ := hcs
    exact ⟨0, fun _ => .nilIface, fun _ => .nilIface, ⟨none, 0, rfl, Nat.le_refl _, Nat.zero_le _, fun _ => rfl, fun i hi => by omega⟩, fun i hi => by omega⟩
  · simp [Value.cells] at hcs
    obtain ⟨rfl, rfl, rfl⟩ := hcs
    have hlm : len ≤ m := by rw [hmm]; simp; omega
    refine ⟨len, V0, V1, ⟨_, _, rfl, hl, hm, (fun h => by cases h), fun i hi' => ?_⟩, fun i hi' => ?_⟩
    · obtain ⟨k0, _, _, _⟩ := hi 0 (by omega)
      have hs := spot_none (x := a) (by simpa using k0)
      obtain ⟨b, off, spot⟩ := a
      obtain rfl : spot = none := hs
      obtain ⟨k0, k1, _, _⟩ := hi i (by omega)
      rw [add_flat] at k0 k1
      exact ⟨b, off, rfl, k0, by rw [Nat.add_assoc]; exact k1⟩
    · obtain ⟨_, _, k2, k3⟩ := hi i (by omega)
      exact ⟨n, _, _, k2, k3⟩

end Go.Proofs.YtoofalchkedciaaGreatDoor

namespace Go.Proofs.YtoofalchkedciaaGreatDoor
open Go.RowKit

/-- t is the type of slices of e; an element has k cells. -/
structure SliceOf (t e : TypeId) (k bytes : Nat) : Prop where
  under : Tryz.prog.underlying t = some (.slice e)
  info : ∃ i0 z, Tryz.prog.info? e = some i0 ∧ i0.zero = some z ∧ i0.size = k ∧ i0.bytes = bytes ∧ z.cells.size = k
  pos : 0 < k
  small : bytes ≤ 100

theorem sliceOf_parts {t e : TypeId} {k bytes : Nat} {z : Value} (h1 : Tryz.prog.underlying t = some (.slice e)) (h2 : (Tryz.prog.info? e).map (fun i => (i.zero, i.size, i.bytes)) = some (some z, k, bytes))
    (h3 : z.cells.size = k) (h4 : 0 < k) (h5 : bytes ≤ 100) : SliceOf t e k bytes := by
  obtain ⟨i0, a, b, c, d⟩ := info_parts h2
  exact ⟨h1, ⟨i0, z, a, b, c, d, h3⟩, h4, h5⟩

/-- m elements of k cells are read from the slice value u. -/
def RowAt (w : World) (u : Value) (m k : Nat) (ys : List Value) : Prop :=
  ys.length = m * k ∧ (∀ y ∈ ys, y.oneCell' = true) ∧
  ((m = 0 ∧ (u = .slice none 0 0 ∨ ∃ x cap, u = .slice (some x) 0 cap)) ∨
   (0 < m ∧ ∃ b off cap, u = .slice (some ⟨b, off, none⟩) m cap ∧ ∀ j y, ys[j]? = some y → w.cell? ⟨b, off + j, none⟩ = some y))

theorem RowAt.only {w w' : World} {u : Value} {m k : Nat} {ys : List Value} {S : List Nat} (h : RowAt w u m k ys) (ho : Only S w w') (hS : ∀ x ∈ own u, x ∉ S) : RowAt w' u m k ys := by
  obtain ⟨h1, h2, h3⟩ := h
  refine ⟨h1, h2, ?_⟩
  rcases h3 with h3 | ⟨h0, b, off, cap, rfl, hc⟩
  · exact .inl h3
  · have hb : b ∉ S := hS b (by simp [own, Value.ownBlock])
    exact .inr ⟨h0, b, off, cap, rfl, fun j y hy => (ho.cell (p := ⟨b, _, none⟩) (cell_lt (hc j y hy)) hb).trans (hc j y hy)⟩

theorem RowAt.same {w w' : World} {u : Value} {m k : Nat} {ys : List Value} (h : RowAt w u m k ys) (ho : Only [] w w') : RowAt w' u m k ys := h.only ho (by simp)

/-- One new element, in a block of its own. -/
theorem RowAt.one {w : World} {B k : Nat} {cs : Array Value} {e : TypeId} (hh : w.heap[B]? = some (.cells cs e (0, 0))) (hk : cs.size = k) (h1 : ∀ y ∈ cs.toList, y.oneCell' = true) :
    RowAt w (.slice (some ⟨B, 0, none⟩) 1 1) 1 k cs.toList := by
  refine ⟨by simp [hk], h1, .inr ⟨by omega, B, 0, 1, rfl, fun j y hy => ?_⟩⟩
  rw [Nat.zero_add, cell_of_row w B j cs e (0, 0) hh]
  simpa using hy

theorem Row.only {w w' : World} {base : Nat} {e : TypeId} {k : Nat} {v : Value} {n : Nat} {xs : List Value} {S : List Nat} (h : w.ownsRow base e k v n xs) (ho : Only S w w') (hS : ∀ x ∈ own v, x ∉ S) : w'.ownsRow base e k v n xs := by
  obtain ⟨h1, h2⟩ := h
  refine ⟨h1, ?_⟩
  rcases h2 with h2 | ⟨g, cap, cur, rfl, hg, hh, r⟩
  · exact .inl h2
  · refine .inr ⟨g, cap, cur, rfl, hg, ?_, r⟩
    have hlt : g < w.heap.size := by
      rcases Nat.lt_or_ge g w.heap.size with hlt | hge
      · exact hlt
      · rw [Array.getElem?_eq_none hge] at hh; cases hh
    rw [ho.block g hlt (hS g (by simp [own, Value.ownBlock]))]
    exact hh

theorem Row.same {w w' : World} {base : Nat} {e : TypeId} {k : Nat} {v : Value} {n : Nat} {xs : List Value} (h : w.ownsRow base e k v n xs) (ho : Only [] w w') : w'.ownsRow base e k v n xs := Row.only h ho (by simp)

theorem Row.far {w : World} {base : Nat} {e : TypeId} {k : Nat} {v : Value} {n : Nat} {xs : List Value} (h : w.ownsRow base e k v n xs) : ∀ x ∈ own v, base ≤ x ∧ x < w.heap.size := fun x hx =>
  (World.ownsRow.lt h) x (by simpa [own] using hx)

theorem Row.mono {w : World} {base base' : Nat} {e : TypeId} {k : Nat} {v : Value} {n : Nat} {xs : List Value} (h : w.ownsRow base e k v n xs) (hb : base' ≤ base) : w.ownsRow base' e k v n xs := by
  obtain ⟨h1, h2⟩ := h
  refine ⟨h1, ?_⟩
  rcases h2 with h2 | ⟨g, cap, cur, hv, hg, hh, r⟩
  · exact .inl h2
  · exact .inr ⟨g, cap, cur, hv, by omega, hh, r⟩

theorem Row.form {w : World} {base : Nat} {e : TypeId} {k : Nat} {v : Value} {n : Nat} {xs : List Value} (h : w.ownsRow base e k v n xs) :
    ∃ a cap, v = .slice a n cap ∧ n ≤ cap ∧ cap ≤ maxLen ∧ (0 < n → ∃ g, a = some ⟨g, 0, none⟩ ∧ base ≤ g ∧ g < w.heap.size) := by
  rcases h.2 with ⟨rfl, rfl⟩ | ⟨g, cap, cur, rfl, hb, hg, hc, hm, _⟩
  · exact ⟨none, 0, rfl, Nat.le_refl _, Nat.zero_le _, fun h => by omega⟩
  · refine ⟨_, cap, rfl, hc, hm, fun _ => ⟨g, rfl, hb, ?_⟩⟩
    rcases Nat.lt_or_ge g w.heap.size with hlt | hge
    · exact hlt
    · rw [Array.getElem?_eq_none hge] at hg; cases hg

theorem Row.at {w : World} {base : Nat} {e : TypeId} {k : Nat} {v : Value} {n : Nat} {xs : List Value} (h : w.ownsRow base e k v n xs) (h1 : ∀ y ∈ xs, y.oneCell' = true) : RowAt w v n k xs := by
  refine ⟨h.1, h1, ?_⟩
  rcases h.2 with ⟨rfl, rfl⟩ | ⟨g, cap, cur, rfl, hb, hg, hc, hm, hs, ht⟩
  · exact .inl ⟨rfl, .inl rfl⟩
  · by_cases h0 : n = 0
    · subst h0; exact .inl ⟨rfl, .inr ⟨_, cap, rfl⟩⟩
    · refine .inr ⟨by omega, g, 0, cap, rfl, fun j y hy => ?_⟩
      have hj : j < n * k := by
        rcases Nat.lt_or_ge j xs.length with hl | hl
        · rw [h.1] at hl; exact hl
        · rw [List.getElem?_eq_none hl] at hy; cases hy
      rw [Nat.zero_add, World.ownsRow.cellAt h j hj]
      exact hy

/-- Elements appended to a slice of the call's own, in a plain region. W: the world in which the slice was known; since then only new blocks have come. -/
theorem wpList_append_rows {t e : TypeId} {k bytes : Nat} (hT : SliceOf t e k bytes) {ops : Array Oper} {rest : List Oper} {o : Oper} {a : Act} {w : World} {Q : Exit → Act → World → Prop} (hgd : o.guard = none) (s x : Operand)
    (ho : o.op = .call { callee := .builtin .append, args := #[s, x], argTypes := #[t, t] })
    (W : World) (base : Nat) (v : Value) (n : Nat) (xs : List Value) (u : Value) (m : Nat) (ys : List Value) (hown : W.ownsRow base e k v n xs) (hu : RowAt w u m k ys) (hlen : n + m ≤ 1000000000) (hbase : base ≤ W.heap.size)
    (hs : a.eval s = v) (hx : a.eval x = u) (hW : Only [] W w)
    (h : ∀ v' w', w'.ownsRow base e k v' (n + m) (xs ++ ys) → Only (own v) W w' → Kin W (own v) (own v') →
      wpList Tryz.prog ops Q rest (a.put o.dst v') w') : wpList Tryz.prog ops Q (o :: rest) a w := by
  obtain ⟨i0, z, hi, hz0, hz1, hz2, hz3⟩ := hT.info
  have hb := hW.size
  have hown' := Row.same hown hW
  have hsm := hT.small
  have hby : (n + m) * bytes ≤ 140737488355328 := by
    have : (n + m) * bytes ≤ (n + m) * 100 := Nat.mul_le_mul_left _ hsm
    omega
  obtain ⟨hl, h1, hu⟩ := hu
  rcases hu with ⟨rfl, hu⟩ | ⟨h0, b, off, cap, rfl, hc⟩
  · obtain rfl : ys = [] := List.eq_nil_of_length_eq_zero (by simpa using hl)
    rcases hu with rfl | ⟨y, cap, rfl⟩
    · refine wpList_append_own_none hgd s x t ho base e i0 k hT.under hi v n xs hs hown' hx ?_
      exact h v w (by simpa using hown') (hW.mono (by simp)) (Kin.refl _ _)
    · refine wpList_append_own_at w hgd s x t ho base e i0 z k bytes hT.under hi hz0 hz1 hz2 hz3 hT.pos v n xs hs hown' y 0 cap [] hx (by simp) (by simp) (by simp) (by unfold maxLen; omega) (by simpa using hby) (by omega) ?_
      intro v' w' k1 k2 _ k4
      exact h v' w' (by simpa using k1) ((hW.mono (by simp)).grown k2 (fun k hk _ => by simp [own, hk])) (kin_of k4 hb)
  · refine wpList_append_own_at w hgd s x t ho base e i0 z k bytes hT.under hi hz0 hz1 hz2 hz3 hT.pos v n xs hs hown' ⟨b, off, none⟩ m cap ys hx hl ?_ h1 (by unfold maxLen; omega) hby (by omega) ?_
    · intro j y hy
      rw [add_flat]
      exact hc j y hy
    · intro v' w' k1 k2 _ k4
      exact h v' w' k1 ((hW.mono (by simp)).grown k2 (fun k hk _ => by simp [own, hk])) (kin_of k4 hb)

end Go.Proofs.YtoofalchkedciaaGreatDoor

namespace Go.Proofs.YtoofalchkedciaaGreatDoor
open Go.RowKit Go.Deep

/-- What such an append does. -/
theorem run_reads {w : World} (ty : TypeId) (W : World) (base : Nat) (v : Value) (xs : List Int) (u : Value) (ys : List Int) (hown : Ints W base v xs) (hu : Reads W u ys) (hlen : xs.length + ys.length ≤ 1000000000) (hbase : base ≤ W.heap.size) (hW : Only [] W w) :
    ∃ v' w', (Builtin.append_ #[31, 31] ty #[v, u]).run Tryz.prog w = .ok v' w' ∧ Ints w' base v' (xs ++ ys) ∧ Only (own v) W w' ∧ Kin W (own v) (own v') := by
  obtain ⟨i0, hi, hz0, hz1, hz2⟩ := info_int
  have hb := hW.size
  have hown' := hown.only hW (by simp)
  rcases hu with ⟨rfl, rfl | ⟨y, cap, rfl, hcap⟩⟩ | ⟨h0, b, off, cap, rfl, h1, h2, h3⟩
  · exact ⟨v, w, run_append_owned_none (P := Tryz.prog) (w := w) base 31 ty 3 i0 1 Tryz.underlying31 hi v xs.length _ hown', by simpa using hown', hW.mono (by simp), Kin.refl _ _⟩
  · obtain ⟨v', w', hr, k1, k2, _, k4⟩ := run_append_own_at (P := Tryz.prog) (w := w) base 31 ty 3 i0 (.int .i64 0) 1 8 Tryz.underlying31 hi hz0 hz1 hz2 rfl (by decide) v xs.length _ hown' y 0 cap [] rfl (by simp) (by simp) (by unfold maxLen; simp at hlen; omega) (by simp at hlen; omega) (by omega)
    exact ⟨v', w', hr, by unfold Ints; simpa using k1, (hW.mono (by simp)).grown k2 (fun k hk _ => by simp [own, hk]), kin_of k4 hb⟩
  · obtain ⟨v', w', hr, k1, k2, _, k4⟩ := run_append_own_at (P := Tryz.prog) (w := w) base 31 ty 3 i0 (.int .i64 0) 1 8 Tryz.underlying31 hi hz0 hz1 hz2 rfl (by decide) v xs.length _ hown' ⟨b, off, none⟩ ys.length cap (ys.map (Value.int .i64)) (by simp) (fun j u hj => by
      have hjl : j < ys.length := by
        rcases Nat.lt_or_ge j ys.length with h | h
        · exact h
        · rw [List.getElem?_eq_none (by simpa using h)] at hj; cases hj
      have e : u = .int .i64 (nth ys j) := by
        rw [List.getElem?_map, List.getElem?_eq_getElem hjl] at hj
        simp at hj
        rw [← hj]
        simp [nth, hjl]
      have e2 : ({ block := b, off := off, spot := none } : Addr).add j = ⟨b, off + j, none⟩ := by
        unfold Addr.add
        split
        · rename_i h; subst h; rfl
        · rfl
      have hcell := h3 j hjl
      rw [e, e2, hW.cell (p := ⟨b, off + j, none⟩) (cell_lt hcell) (by simp)]
      exact hcell) (fun u hu => by simp at hu; obtain ⟨n, _, rfl⟩ := hu; rfl) (by unfold maxLen; omega) (by omega) (by omega)
    exact ⟨v', w', hr, by unfold Ints; simpa using k1, (hW.mono (by simp)).grown k2 (fun k hk _ => by simp [own, hk]), kin_of k4 hb⟩

theorem step_append_reads {ops : Array Oper} {o : Oper} {a : Act} {w : World} {K : Act → World → Prop} {Q : Exit → Act → World → Prop} {E : Prop} (hgd : o.guard = none) (s x : Operand)
    (ho : o.op = .call { callee := .builtin .append, args := #[s, x], argTypes := #[31, 31] })
    (W : World) (base : Nat) (v : Value) (xs : List Int) (u : Value) (ys : List Int) (hown : Ints W base v xs) (hu : Reads W u ys) (hlen : xs.length + ys.length ≤ 1000000000) (hbase : base ≤ W.heap.size)
    (hs : a.eval s = v) (hx : a.eval x = u) (hW : Only [] W w)
    (h : ∀ v' w', Ints w' base v' (xs ++ ys) → Only (own v) W w' → Kin W (own v) (own v') → K (a.put o.dst v') w') : if Region.wanted o (yielded ops a.tmps) = true then Oper.wp Tryz.prog o a w K Q else E := by
  rw [if_pos (by unfold Region.wanted; rw [hgd])]
  obtain ⟨v', w', hr, k1, k2, k3⟩ := run_reads (w := w) o.type W base v xs u ys hown hu hlen hbase hW
  have he : (execOp a.eval o).run Tryz.prog w = .ok (.value v') w' := by
    unfold execOp
    simp only [ho, resolve, invoke, builtin, Sem.run_bind, Sem.run_pure, Result.andThen_ok, List.map_toArray, List.map_cons, List.map_nil, hs, hx, hr]
  unfold Oper.wp
  rw [he]
  exact h v' w' k1 k2 k3

end Go.Proofs.YtoofalchkedciaaGreatDoor

namespace Go.Proofs.YtoofalchkedciaaGreatDoor
open Go.RowKit Go.Deep

def nearL (near : Int) : List Int := if near < 0 then [] else [near]



end Go.Proofs.YtoofalchkedciaaGreatDoor
