/-
  Contracts of package spill.
-/
import Derived.Test.YtoofalchkedciaaGreatDoorP2TopGang
import Derived.Test.YtoofalchkedciaaGreatDoorP3TopGang
namespace Go.Proofs.YtoofalchkedciaaGreatDoor
open Go.RowKit

/-- A spill in block b: its ring in block rb holds f, its heap holds h. -/
structure SpillRaw (w : World) (b rb room : Nat) (f : List Int) (hv : Value) (h : List Int) : Prop where
  cells : Cells w b [.pointer (some ⟨rb, 0, none⟩), .int .i64 room, hv]
  ring : RingIs w rb room f
  heap : Sl w hv h
  n1 : b ≠ rb
  n2 : b ∉ own hv
  n3 : rb ∉ own hv

theorem SpillRaw.only {w w' : World} {b rb room : Nat} {f h : List Int} {hv : Value} {S : List Nat} (r : SpillRaw w b rb room f hv h) (ho : Only S w w') (h1 : b ∉ S) (h2 : rb ∉ S) (h3 : ∀ x ∈ own hv, x ∉ S) : SpillRaw w' b rb room f hv h :=
  ⟨r.cells.only ho h1, r.ring.only ho h2, r.heap.only ho h3, r.n1, r.n2, r.n3⟩

/-- The heap's slice after its first one is cut off. -/
theorem spill_cut {w : World} {b rb room : Nat} {f h : List Int} {g off N cap : Nat} {x : Int} (r : SpillRaw w b rb room f (.slice (some ⟨g, off, none⟩) N cap) (x :: h)) (v : Value) (hv : Sl w v h) (ho : own v = [g]) :
    SpillRaw (w.setCell ⟨b, 2, none⟩ v) b rb room f v h ∧ Only [b] w (w.setCell ⟨b, 2, none⟩ v) := by
  have hs : Only [b] w (w.setCell ⟨b, 2, none⟩ v) := (Only.refl [b] w).setCell (by simp) _
  have hbg : b ≠ g := by have := r.n2; simpa [own, Value.ownBlock] using this
  have hrg : rb ≠ g := by have := r.n3; simpa [own, Value.ownBlock] using this
  exact ⟨⟨r.cells.set 2 v, r.ring.only hs (by simpa using Ne.symm r.n1), hv.only hs (by rw [ho]; simpa using Ne.symm hbg), r.n1, by rw [ho]; simpa using hbg, by rw [ho]; simpa using hrg⟩, hs⟩

set_option maxRecDepth 100000 in
set_option maxHeartbeats 1000000 in
theorem spill_fill (b rb room : Nat) (f : List Int) (hv : Value) (h : List Int) (w : World) (r : SpillRaw w b rb room f hv h) (hl : h.length ≤ 1000) :
    Calls Tryz.prog 183 #[.pointer (some ⟨b, 0, none⟩)] w fun e w' => e = .returned (.tuple #[]) ∧ ∃ hv', SpillRaw w' b rb room ((f ++ h).take room) hv' ((f ++ h).drop room) ∧ Only [b, rb] w w' ∧ (∀ x ∈ own hv', x ∈ own hv) := by
  go_enter Tryz.func183, Tryz.ntmps183
  go_wp2_with fail
  go_loopg [] (h.length) (fun k wr => ∃ f' hv' h', k = h'.length ∧ SpillRaw wr b rb room f' hv' h' ∧ f' ++ h' = f ++ h ∧ Only [b, rb] w wr ∧ (∀ x ∈ own hv', x ∈ own hv) ∧ h'.length ≤ 1000)
  case atStart => exact ⟨f, hv, h, rfl, r, rfl, Only.refl _ _, fun _ h => h, hl⟩
  case round =>
    obtain ⟨f1, hv1, h1, rfl, r1, he, ho, hk, hl1⟩ := hrel
    have HE := Lib.hid he
    clear he r hl
    have c0 := r1.cells.cell 0 _ rfl
    have c2 := r1.cells.cell 2 _ rfl
    have f2 := r1.cells.free 2 _ rfl
    have hle := r1.ring.le
    rcases h1 with _ | ⟨x, h1⟩
    · obtain ⟨va, vcap, rfl, _⟩ := r1.heap.opt
      have ht : (f ++ h).take room = f1 := by rw [← HE.out, List.append_nil, List.take_of_length_le hle]
      have hd : (f ++ h).drop room = [] := by rw [← HE.out, List.append_nil, List.drop_of_length_le hle]
      have HT := Lib.hid ht
      have HD := Lib.hid hd
      clear ht hd
      go_wp2_with fail
      go_quiet (fail)
      go_wp2
      go_end0
      refine ⟨rfl, _, ?_, ho.drewN _, hk⟩
      rw [HT.out, HD.out]
      exact r1.only ((Only.refl [] wr).drewN _) (by simp) (by simp) (by simp)
    · have hh := r1.heap
      rcases hh with ⟨_, h0⟩ | ⟨g, off, cap, rfl, hlc, hcm, hg, hcell, hspare⟩
      · cases h0
      · have cx := hcell 0 (by simp)
        replace cx : wr.cell? ⟨g, off, none⟩ = some (.int .i64 x) := by simpa [nth] using cx
        have rr : SpillRaw wr b rb room f1 (.slice (some ⟨g, off, none⟩) (h1.length + 1) cap) (x :: h1) := r1
        have c2' : wr.cell? ⟨b, 2, none⟩ = some (.slice (some ⟨g, off, none⟩) (h1.length + 1) cap) := c2
        have hl2 : h1.length ≤ 1000 := by simp at hl1; omega
        have hl3 : h1.length + 1 ≤ cap := hlc
        have hoff : off + 0 = off := rfl
        clear c2 hcell hspare r1 hl1 hlc
        by_cases hfull : f1.length = room
        · have ht : (f ++ h).take room = f1 := by rw [← HE.out, ← hfull]; simp
          have hd : (f ++ h).drop room = x :: h1 := by rw [← HE.out, ← hfull]; simp
          have HT := Lib.hid ht
          have HD := Lib.hid hd
          have HF := Lib.hid hfull
          clear ht hd hfull
          go_wp2_with fail
          go_still_tail 17, (by kernel_rfl)
          change wpList _ _ _ _ _ wr.drew
          have rrd := rr.only ((Only.refl [] wr).drew) (by simp) (by simp) (by simp)
          go_wp2_with fail
          refine (Ring.push_full _ _ _ _ _ rrd.ring HF.out).mono ?_
          rintro e w1 ⟨rfl, hr1, ho1⟩
          have ho2 := ho.trans ((Only.refl [] wr).drew.trans ho1 (by simp)) (by simp)
          have rr1 := rr.only ((Only.refl [] wr).drew.trans ho1 (by simp)) (by simp) (by simp) (by simp)
          clear rr rrd ho ho1 hr1 c0 c2' f2
          go_wp2
          go_end0
          refine ⟨rfl, _, ?_, ho2, hk⟩
          rw [HT.out, HD.out]
          exact rr1
        · have HF : Hid (f1.length < room) := by show _ < _; omega
          clear hfull
          go_wp2_with fail
          go_still_tail 17, (by kernel_rfl)
          change wpList _ _ _ _ _ wr.drew
          have rrd := rr.only ((Only.refl [] wr).drew) (by simp) (by simp) (by simp)
          go_wp2_with fail
          refine (Ring.push _ _ _ _ _ rrd.ring HF.out).mono ?_
          rintro e w1 ⟨rfl, hr1, ho1⟩
          have hod : Only [rb] wr w1 := (Only.refl [rb] wr).drew.trans ho1 (by simp)
          have hbrb := rr.n1
          have hc1 := rr.cells.only hod (by simpa using hbrb)
          have hh1 := rr.heap.only hod (fun y hy hyr => rr.n3 (by simp at hyr; rw [← hyr]; exact hy))
          have rr1 : SpillRaw w1 b rb room (f1 ++ [x]) (.slice (some ⟨g, off, none⟩) (h1.length + 1) cap) (x :: h1) := ⟨hc1, hr1, hh1, rr.n1, rr.n2, rr.n3⟩
          have ho2 : Only [b, rb] w w1 := ho.trans hod (by simp)
          have c0' := hc1.cell 0 _ rfl
          have c2'' := hc1.cell 2 _ rfl
          have f2' := hc1.free 2 _ rfl
          clear rr rrd ho ho1 hod hr1 hc1 c0 c2' f2 hg
          by_cases hcap : cap = 1
          · subst hcap
            obtain ⟨rfl, ht1⟩ := hh1.tail1
            have hE := Lib.hid (spill_cut rr1 _ ht1 rfl)
            clear ht1 hh1
            go_wp2
            have hO3 := ho2.trans hE.out.2 (by simp)
            have hE2 : Hid ((f1 ++ [x]) ++ [] = f ++ h) := by show _ = _; rw [← HE.out]; simp
            go_roundg 0
            case rel => exact ⟨_, _, _, rfl, hE.out.1, hE2.out, hO3, hk, by simp⟩
            case measure => simp
          · have ht1 := hh1.tail h1.length rfl hcap
            have hE := Lib.hid (spill_cut rr1 _ ht1 rfl)
            clear ht1 hh1
            go_wp2
            have hO3 := ho2.trans hE.out.2 (by simp)
            have hE2 : Hid ((f1 ++ [x]) ++ h1 = f ++ h) := by show _ = _; rw [← HE.out]; simp
            go_roundg h1.length
            case rel => exact ⟨_, _, _, rfl, hE.out.1, hE2.out, hO3, hk, hl2⟩
            case measure => simp

/-- A spill in block b, with room in front for so many, has a list: its first ones in front. -/
def SpillIs (w : World) (fp : List Nat) (b room : Nat) (all : List Int) : Prop :=
  ∃ rb hv, SpillRaw w b rb room (all.take room) hv (all.drop room) ∧ fp = b :: rb :: own hv ∧ all.length ≤ 60

theorem SpillIs.only {w w' : World} {fp : List Nat} {b room : Nat} {all : List Int} {S : List Nat} (h : SpillIs w fp b room all) (ho : Only S w w') (hd : ∀ x ∈ fp, x ∉ S) : SpillIs w' fp b room all := by
  obtain ⟨rb, hv, r, rfl, hl⟩ := h
  exact ⟨rb, hv, r.only ho (hd b (by simp)) (hd rb (by simp)) (fun x hx => hd x (by simp [hx])), rfl, hl⟩

theorem SpillIs.lt {w : World} {fp : List Nat} {b room : Nat} {all : List Int} (h : SpillIs w fp b room all) : ∀ x ∈ fp, x < w.heap.size := by
  obtain ⟨rb, hv, r, rfl, hl⟩ := h
  intro x hx
  simp only [List.mem_cons] at hx
  rcases hx with rfl | rfl | hx
  · exact r.cells.lt
  · exact r.ring.lt
  · exact r.heap.lt x hx

theorem SpillIs.room {w : World} {fp : List Nat} {b room : Nat} {all : List Int} (h : SpillIs w fp b room all) : 1 ≤ room ∧ room ≤ 16 := by
  obtain ⟨rb, hv, r, _⟩ := h
  exact r.ring.room

theorem spill_new_no (n : Int) (w : World) (h : n < 1 ∨ 16 < n) :
    Calls Tryz.prog 86 #[.int .i64 n] w fun e w' => e = .returned (.tuple #[.pointer none, .iface 98 (.int .i64 1)]) ∧ Only [] w w' := by
  go_enter Tryz.func86, Tryz.ntmps86
  go_wp2_with fail
  refine (ring_new_no _ _ h).mono ?_
  rintro e w1 ⟨rfl, m, rfl⟩
  go_wp2
  go_ret2
  exact ⟨rfl, Only.draws _ _ _⟩

theorem Spill.new (room : Int) (w : World) (h1 : 1 ≤ room) (h2 : room ≤ 16) :
    Calls Tryz.prog 86 #[.int .i64 room] w fun e w' => ∃ b fp, e = .returned (.tuple #[.pointer (some ⟨b, 0, none⟩), .nilIface]) ∧ SpillIs w' fp b room.toNat [] ∧ Only [] w w' ∧ (∀ x ∈ fp, w.heap.size ≤ x) := by
  obtain ⟨n, rfl⟩ := Int.eq_ofNat_of_zero_le (show 0 ≤ room by omega)
  rw [Int.toNat_natCast]
  go_enter Tryz.func86, Tryz.ntmps86
  go_wp2_with fail
  refine (Ring.new _ _ h1 h2).mono ?_
  rintro e w1 ⟨rfl, hr, ho⟩
  rw [Int.toNat_natCast] at hr
  have hlt := hr.lt
  have hal := (Only.refl [] w1).alloc (.cells #[.pointer (some ⟨w.heap.size, 0, none⟩), .int .i64 n, .slice none 0 0] 226)
  have H : Hid (SpillIs (w1.alloc (.cells #[.pointer (some ⟨w.heap.size, 0, none⟩), .int .i64 n, .slice none 0 0] 226)) [w1.heap.size, w.heap.size] w1.heap.size n [] ∧
      Only [] w (w1.alloc (.cells #[.pointer (some ⟨w.heap.size, 0, none⟩), .int .i64 n, .slice none 0 0] 226))) :=
    ⟨⟨w.heap.size, .slice none 0 0, ⟨Cells.new w1 #[.pointer (some ⟨w.heap.size, 0, none⟩), .int .i64 n, .slice none 0 0] _, by simpa using hr.only hal (by simp), by simpa using Sl.nil _, by omega, by simp [own, Value.ownBlock], by simp [own, Value.ownBlock]⟩, rfl, by simp⟩, ho.trans hal (by simp)⟩
  clear hal
  go_wp2
  go_ret2
  exact ⟨_, _, rfl, H.out.1, H.out.2, by simp; omega⟩


set_option maxHeartbeats 400000 in
theorem Spill.put_full (fp : List Nat) (b room : Nat) (all : List Int) (v : Value) (l : List Int) (w : World) (h : SpillIs w fp b room all) (hv : Reads w v l) (hll : l.length ≤ 140737488355328) (hf : 60 < all.length + l.length) :
    Calls Tryz.prog 89 #[.pointer (some ⟨b, 0, none⟩), v] w fun e w' => e = .returned (.iface 98 (.int .i64 4)) ∧ ∃ n, w' = w.drewN n := by
  obtain ⟨rb, hv', r, rfl, hl⟩ := h
  have c0 := r.cells.cell 0 _ rfl
  have c2 := r.cells.cell 2 _ rfl
  have hr := r.ring
  obtain ⟨va, vcap, rfl, _⟩ := r.heap.opt
  obtain ⟨a, cap, rfl, _⟩ := hv.opt
  have hsum : (all.take room).length + (all.drop room).length = all.length := by simp; omega
  generalize all.take room = f at *
  generalize all.drop room = h at *
  have hs2 : 60 < f.length + h.length + l.length := by omega
  have hs3 : f.length + h.length ≤ 60 := by omega
  clear r hl hsum hf
  go_enter Tryz.func89, Tryz.ntmps89
  go_wp2_with fail
  go_quiet ((go_at_call 133; exact quiet_eq (Ring.len _ _ _ _ (hr.drewN _))))
  go_wp2
  go_ret
  exact ⟨rfl, _, rfl⟩

theorem kin_push' {W : World} {A : List Nat} {g off n cap : Nat} (h : g ∈ A ∨ W.heap.size ≤ g) : Kin W A (own (.slice (some ⟨g, off, none⟩) n cap)) := fun x hx => by
  obtain rfl : x = g := by simpa [own, Value.ownBlock] using hx
  exact h

theorem spill_put_heap {w w' : World} {b rb room g off n cap : Nat} {f h h' : List Int} {hv : Value} (r : SpillRaw w b rb room f hv h) (hs : Sl w' (.slice (some ⟨g, off, none⟩) n cap) h')
    (ho : Only (own hv) w w') (hk : g ∈ own hv ∨ w.heap.size ≤ g) :
    SpillRaw (w'.setCell ⟨b, 2, none⟩ (.slice (some ⟨g, off, none⟩) n cap)) b rb room f (.slice (some ⟨g, off, none⟩) n cap) h' ∧
      Only (b :: own hv) w (w'.setCell ⟨b, 2, none⟩ (.slice (some ⟨g, off, none⟩) n cap)) := by
  have hlt := r.cells.lt
  have hrlt := r.ring.lt
  have hbg : b ≠ g := fun e => by
    subst e
    rcases hk with hk | hk
    · exact r.n2 hk
    · omega
  have hrg : rb ≠ g := fun e => by
    subst e
    rcases hk with hk | hk
    · exact r.n3 hk
    · omega
  have hset : Only [b] w' (w'.setCell ⟨b, 2, none⟩ (.slice (some ⟨g, off, none⟩) n cap)) := (Only.refl [b] w').setCell (by simp) _
  refine ⟨⟨(r.cells.only ho r.n2).set 2 _, (r.ring.only ho r.n3).only hset (by simpa using Ne.symm r.n1), hs.only hset (by simpa [own, Value.ownBlock] using Ne.symm hbg), r.n1, by simpa [own, Value.ownBlock] using hbg, by simpa [own, Value.ownBlock] using hrg⟩, ?_⟩
  exact (ho.mono (fun x hx _ => List.mem_cons_of_mem _ hx)).trans hset (by simp)

set_option maxRecDepth 100000 in
set_option maxHeartbeats 1000000 in
theorem spill_put_raw (b rb room : Nat) (F H all : List Int) (hv v : Value) (l : List Int) (w : World) (r : SpillRaw w b rb room F hv H) (hF : Hid (F = all.take room)) (hH : Hid (H = all.drop room)) (hrd : Reads w v l)
    (hd : l ≠ [] → ∀ x ∈ own v, x ∉ b :: rb :: own hv) (hf : all.length + l.length ≤ 60) :
    Calls Tryz.prog 89 #[.pointer (some ⟨b, 0, none⟩), v] w fun e w' => e = .returned .nilIface ∧ ∃ hv2, SpillRaw w' b rb room ((all ++ l).take room) hv2 ((all ++ l).drop room) ∧ Only (b :: rb :: own hv) w w' ∧ Kin w (own hv) (own hv2) := by
  have c0 := r.cells.cell 0 _ rfl
  have c2 := r.cells.cell 2 _ rfl
  have hr := r.ring
  have hrm := r.ring.room
  obtain ⟨va, vcap, rfl, _⟩ := r.heap.opt
  obtain ⟨a, cap, rfl, hcl⟩ := hrd.opt
  have hs2 : F.length + H.length + l.length ≤ 60 := by rw [hF.out, hH.out]; simp; omega
  go_enter Tryz.func89, Tryz.ntmps89
  go_wp2_with fail
  go_quiet ((go_at_call 133; exact quiet_eq (Ring.len _ _ _ _ (hr.drewN _))))
  have hod : Only (b :: rb :: own (.slice va H.length vcap)) w (w.drewN nq) := (Only.refl _ w).drewN nq
  have rd := r.only ((Only.refl [] w).drewN nq) (by simp) (by simp) (by simp)
  have hkin := Kin.refl w (own (.slice va H.length vcap))
  have h0 : SpillRaw (w.drewN nq) b rb room ((all ++ l.take 0).take room) (.slice va H.length vcap) ((all ++ l.take 0).drop room) := by
    rw [List.take_zero, List.append_nil, ← hF.out, ← hH.out]; exact rd
  have H0 := Lib.hid h0
  clear h0 rd r hr c0 c2
  go_wp2_with fail
  go_loopw [25] (fun i wr => ∃ k : Nat, k ≤ l.length ∧ i = .int .i64 k ∧ ∃ hv1, SpillRaw wr b rb room ((all ++ l.take k).take room) hv1 ((all ++ l.take k).drop room) ∧ Only (b :: rb :: own (.slice va H.length vcap)) w wr ∧ Kin w (own (.slice va H.length vcap)) (own hv1))
    (fun i _ => l.length - (intOf i).toNat)
  case atStart => exact ⟨0, Nat.zero_le _, rfl, _, H0.out, hod, hkin⟩
  case round =>
    obtain ⟨k, hk, rfl, hv1, r1, ho, hkn⟩ := hrel
    by_cases hlt : k < l.length
    · obtain ⟨bl, ol, rfl, hc0⟩ := hcl k hlt
      have hl0 := cell_lt hc0
      have hcell : wr.cell? ⟨bl, ol + k, none⟩ = some (.int .i64 (nth l k)) := (ho.cell (p := ⟨bl, ol + k, none⟩) hl0 (hd (by rintro rfl; simp at hlt) bl (by simp [own, Value.ownBlock]))).trans hc0
      have hsz := ho.size
      have htk : Hid (all ++ l.take (k + 1) = (all ++ l.take k) ++ [nth l k]) := by show _ = _; rw [take_succ_nth l k hlt, List.append_assoc]
      have hAl : (all ++ l.take k).length = all.length + k := by simp; omega
      generalize all ++ l.take k = A at *
      have c0 := r1.cells.cell 0 _ rfl
      have c2 := r1.cells.cell 2 _ rfl
      have f2 := r1.cells.free 2 _ rfl
      by_cases hA : A.length < room
      · have e1 : A.take room = A := List.take_of_length_le (by omega)
        have e2 : A.drop room = [] := List.drop_of_length_le (by omega)
        have e3 : (A ++ [nth l k]).take room = A ++ [nth l k] := List.take_of_length_le (by simp; omega)
        have e4 : (A ++ [nth l k]).drop room = [] := List.drop_of_length_le (by simp; omega)
        rw [e1, e2] at r1
        have E3 := Lib.hid e3
        have E4 := Lib.hid e4
        have HA := Lib.hid hA
        clear e1 e2 e3 e4 hA hAl
        obtain ⟨va2, vcap2, rfl, _⟩ := r1.heap.opt
        go_wp2_with fail
        refine (Ring.push _ _ _ _ _ r1.ring HA.out).mono ?_
        rintro e w1 ⟨rfl, hr1, ho1⟩
        have r2 : SpillRaw w1 b rb room (A ++ [nth l k]) (.slice va2 ([] : List Int).length vcap2) [] := ⟨r1.cells.only ho1 (by simpa using r1.n1), hr1, r1.heap.only ho1 (fun y hy hyr => r1.n3 (by simp at hyr; rw [← hyr]; exact hy)), r1.n1, r1.n2, r1.n3⟩
        have ho2 := ho.trans ho1 (by simp)
        have R2 : Hid (SpillRaw w1 b rb room ((all ++ l.take (k + 1)).take room) (.slice va2 ([] : List Int).length vcap2) ((all ++ l.take (k + 1)).drop room)) := by
          show SpillRaw _ _ _ _ _ _ _
          rw [htk.out, E3.out, E4.out]; exact r2
        clear r1 r2 ho ho1 hr1 c0 c2 f2 hcell hcl hd
        go_wp2
        go_roundw
        case rel => exact ⟨k + 1, by omega, by go_num, _, R2.out, ho2, hkn⟩
        case measure => simp [intOf]; omega
      · have e3 : (A ++ [nth l k]).take room = A.take room := List.take_append_of_le_length (by omega)
        have e4 : (A ++ [nth l k]).drop room = A.drop room ++ [nth l k] := List.drop_append_of_le_length (by omega)
        have hdl : (A.drop room).length = A.length - room := by simp
        have E3 := Lib.hid e3
        have E4 := Lib.hid e4
        clear e3 e4
        by_cases hfull : A.length = room
        · have e1 : A.drop room = [] := List.drop_of_length_le (by omega)
          have e5 : (A.take room).length = room := by simp; omega
          have E1 := Lib.hid e1
          have E5 := Lib.hid e5
          rw [e1] at r1
          clear e1 e5 hdl hfull hAl
          obtain ⟨va2, vcap2, rfl, _⟩ := r1.heap.opt
          go_wp2_with fail
          refine (Ring.push_full _ _ _ _ _ r1.ring E5.out).mono ?_
          rintro e w1 ⟨rfl, hr1, ho1⟩
          have r2 := r1.only ho1 (by simp) (by simp) (by simp)
          have ho2 := ho.trans ho1 (by simp)
          have c0' := r2.cells.cell 0 _ rfl
          have c2' := r2.cells.cell 2 _ rfl
          have hsz1 := ho1.size
          clear ho ho1 hr1 c0 c2 f2 hcell hcl r1
          go_wp2_with (at_builtin; refine wpList_push_sl rfl (.tmp 48) (.tmp 50) rfl w1 _ [] w1.heap.size (nth l k) 0 r2.heap rfl (by omega) rfl rfl ((Only.refl [] w1).alloc _) (World.cell?_alloc_at _ _ _ _ rfl) ?_; intro g off cap2 w2 hs2' hO2 hK2; have hc2 := r2.cells.only hO2 r2.n2; have c2b := hc2.cell 2 _ rfl; have f2b := hc2.free 2 _ rfl)
          have hE := spill_put_heap r2 hs2' hO2 hK2
          have R2 : Hid (SpillRaw (w2.setCell ⟨b, 2, none⟩ (.slice (some ⟨g, off, none⟩) (0 + 1) cap2)) b rb room ((all ++ l.take (k + 1)).take room) (.slice (some ⟨g, off, none⟩) (0 + 1) cap2) ((all ++ l.take (k + 1)).drop room)) := by
            show SpillRaw _ _ _ _ _ _ _
            rw [htk.out, E3.out, E4.out, E1.out]; exact hE.1
          have hkk : Kin w (own (.slice va H.length vcap)) (own (.slice (some ⟨g, off, none⟩) (0 + 1) cap2)) := hkn.trans (kin_push' (hK2.imp id (fun h => by omega)) : Kin wr _ _) hsz
          have ho3 : Only (b :: rb :: own (.slice va H.length vcap)) w _ := ho2.trans hE.2 (fun x hx hl => by
            rcases List.mem_cons.1 hx with rfl | hx
            · simp
            · rcases hkn x hx with h | h
              · simp [h]
              · omega)
          clear hE r2 ho2 hkn hs2' hO2 hK2 hc2 c2b f2b c0' c2'
          go_roundw
          case rel => exact ⟨k + 1, by omega, by go_num, _, R2.out, ho3, hkk⟩
          case measure => simp [intOf]; omega
        · obtain ⟨va2, vcap2, rfl, _⟩ := r1.heap.opt
          obtain ⟨M, hM⟩ : ∃ M, (A.drop room).length = M := ⟨_, rfl⟩
          have hM0 : 0 < M := by omega
          have hM1 : M ≤ 100 := by omega
          have HM := Lib.hid hM
          rw [hM] at r1 c2 hkn
          clear hM hdl hfull hA hAl c0 hcell hcl
          have hcell : wr.cell? ⟨bl, ol + k, none⟩ = some (.int .i64 (nth l k)) := (ho.cell (p := ⟨bl, ol + k, none⟩) hl0 (hd (by rintro rfl; simp at hlt) bl (by simp [own, Value.ownBlock]))).trans hc0
          go_wp2_with (at_builtin; refine wpList_push_sl rfl (.tmp 48) (.tmp 50) rfl wr _ (A.drop room) wr.heap.size (nth l k) M r1.heap HM.out (by omega) rfl rfl ((Only.refl [] wr).alloc _) (World.cell?_alloc_at _ _ _ _ rfl) ?_; intro g off cap2 w2 hs2' hO2 hK2; have hc2 := r1.cells.only hO2 r1.n2; have c2b := hc2.cell 2 _ rfl; have f2b := hc2.free 2 _ rfl; clear c2 f2)
          have hE := spill_put_heap r1 hs2' hO2 hK2
          have R2 : Hid (SpillRaw (w2.setCell ⟨b, 2, none⟩ (.slice (some ⟨g, off, none⟩) (M + 1) cap2)) b rb room ((all ++ l.take (k + 1)).take room) (.slice (some ⟨g, off, none⟩) (M + 1) cap2) ((all ++ l.take (k + 1)).drop room)) := by
            show SpillRaw _ _ _ _ _ _ _
            rw [htk.out, E3.out, E4.out]; exact hE.1
          have hkk : Kin w (own (.slice va H.length vcap)) (own (.slice (some ⟨g, off, none⟩) (M + 1) cap2)) := hkn.trans (kin_push' hK2) hsz
          have ho3 : Only (b :: rb :: own (.slice va H.length vcap)) w _ := ho.trans hE.2 (fun x hx hl => by
            rcases List.mem_cons.1 hx with rfl | hx
            · simp
            · rcases hkn x hx with h | h
              · simp [h]
              · omega)
          clear hE r1 ho hkn hs2' hO2 hK2 hc2 c2b f2b
          go_roundw
          case rel => exact ⟨k + 1, by omega, by go_num, _, R2.out, ho3, hkk⟩
          case measure => simp [intOf]; omega
    · obtain rfl : k = l.length := by omega
      rw [List.take_of_length_le (Nat.le_refl _)] at r1
      clear hcl
      go_wp2
      go_ret
      exact ⟨rfl, _, r1, ho, hkn⟩

theorem Spill.put2 (fp : List Nat) (b room : Nat) (all : List Int) (v : Value) (l : List Int) (w : World) (h : SpillIs w fp b room all) (hv : Reads w v l) (hd : l ≠ [] → ∀ x ∈ own v, x ∉ fp) (hf : all.length + l.length ≤ 60) :
    Calls Tryz.prog 89 #[.pointer (some ⟨b, 0, none⟩), v] w fun e w' => e = .returned .nilIface ∧ ∃ fp', SpillIs w' fp' b room (all ++ l) ∧ Only fp w w' ∧ Kin w fp fp' := by
  obtain ⟨rb, hv', r, rfl, hl⟩ := h
  refine (spill_put_raw b rb room _ _ all hv' v l w r rfl rfl hv hd hf).mono ?_
  rintro e w' ⟨he, hv2, r2, ho, hk⟩
  refine ⟨he, _, ⟨rb, hv2, r2, rfl, by simp; omega⟩, ho, fun x hx => ?_⟩
  simp only [List.mem_cons] at hx ⊢
  rcases hx with rfl | rfl | hx
  · exact .inl (.inl rfl)
  · exact .inl (.inr (.inl rfl))
  · exact (hk x hx).imp (fun h => .inr (.inr h)) id

theorem Spill.put (fp : List Nat) (b room : Nat) (all : List Int) (v : Value) (l : List Int) (w : World) (h : SpillIs w fp b room all) (hv : Reads w v l) (hd : ∀ x ∈ own v, x ∉ fp) (hf : all.length + l.length ≤ 60) :
    Calls Tryz.prog 89 #[.pointer (some ⟨b, 0, none⟩), v] w fun e w' => e = .returned .nilIface ∧ ∃ fp', SpillIs w' fp' b room (all ++ l) ∧ Only fp w w' ∧ Kin w fp fp' := Spill.put2 fp b room all v l w h hv (fun _ => hd) hf

theorem spill_get_no (b : Nat) (n : Int) (w : World) (h : n < 1 ∨ 60 < n) :
    Calls Tryz.prog 142 #[.pointer (some ⟨b, 0, none⟩), .int .i64 n] w fun e w' => e = .returned (.tuple #[.slice none 0 0, .iface 98 (.int .i64 1)]) ∧ w = w' := by
  rcases h with h | h
  · go_enter Tryz.func142, Tryz.ntmps142
    go_wp2
    go_ret2
    exact ⟨rfl, rfl⟩
  · have h1 : ¬ n < 1 := by omega
    go_enter Tryz.func142, Tryz.ntmps142
    go_wp2
    go_ret2
    exact ⟨rfl, rfl⟩

/-- The length in a slot. -/
def lenOf : Value → Nat | .slice _ n _ => n | _ => 0

theorem take_tail_drop {α : Type} (rest : List α) (room : Nat) (h : 1 ≤ room) (x : α) :
    (x :: rest).take room = x :: rest.take (room - 1) ∧ (x :: rest).drop room = rest.drop (room - 1) := by
  obtain ⟨m, rfl⟩ : ∃ m, room = m + 1 := ⟨room - 1, by omega⟩
  exact ⟨rfl, rfl⟩

set_option maxRecDepth 100000 in
set_option maxHeartbeats 1000000 in
theorem Spill.get (fp : List Nat) (b room : Nat) (all : List Int) (most : Int) (w : World) (h : SpillIs w fp b room all) (h1 : 1 ≤ most) (h2 : most ≤ 60) :
    Calls Tryz.prog 142 #[.pointer (some ⟨b, 0, none⟩), .int .i64 most] w fun e w' => ∃ v, e = .returned (.tuple #[v, .nilIface]) ∧ Ints w' w.heap.size v (all.take most.toNat) ∧ ∃ fp', SpillIs w' fp' b room (all.drop most.toNat) ∧ Only fp w w' ∧ (∀ x ∈ fp', x ∈ fp) := by
  obtain ⟨n, rfl⟩ := Int.eq_ofNat_of_zero_le (show 0 ≤ most by omega)
  rw [Int.toNat_natCast]
  obtain ⟨rb, hv, r, rfl, hl⟩ := h
  have hrm := r.ring.room
  have hlt : ∀ x ∈ b :: rb :: own hv, x < w.heap.size := by
    intro x hx
    simp only [List.mem_cons] at hx
    rcases hx with rfl | rfl | hx
    · exact r.cells.lt
    · exact r.ring.lt
    · exact r.heap.lt x hx
  go_enter Tryz.func142, Tryz.ntmps142
  go_wp2_with fail
  go_loopw [6] (fun v wr => ∃ k : Nat, k ≤ n ∧ k ≤ all.length ∧ Ints wr w.heap.size v (all.take k) ∧ lenOf v = k ∧ ∃ hv1, SpillRaw wr b rb room ((all.drop k).take room) hv1 ((all.drop k).drop room) ∧ Only (b :: rb :: own hv) w wr ∧ (∀ x ∈ own hv1, x ∈ own hv))
    (fun v _ => n - lenOf v)
  case atStart => exact ⟨0, Nat.zero_le _, Nat.zero_le _, Ints.nil _ _, rfl, hv, by simpa using r, Only.refl _ _, fun _ h => h⟩
  case round =>
    obtain ⟨k, hkn, hka, hI, hlen, hv1, r1, ho, hsub⟩ := hrel
    have hkl : (all.take k).length = k := by simp; omega
    obtain ⟨av, acap, rfl, _⟩ := hI.opt
    rw [hkl] at hI hlen ⊢
    have c0 := r1.cells.cell 0 _ rfl
    have hsz := ho.size
    clear r hlen
    by_cases hk : k < n
    · rcases hrest : all.drop k with _ | ⟨x, rest⟩
      · rw [hrest] at r1
        have hka' : all.length ≤ k := by simpa using hrest
        have e1 : all.take n = all.take k := by rw [List.take_of_length_le (by omega), List.take_of_length_le (by omega)]
        have e2 : all.drop n = [] := List.drop_of_length_le (by omega)
        have E1 := Lib.hid e1
        have E2 := Lib.hid e2
        clear hrest hkl e1 e2
        go_wp2_with fail
        refine (Ring.steal_none _ _ _ (by simpa using r1.ring)).mono ?_
        rintro e w1 ⟨rfl, rfl⟩
        go_wp2
        go_ret2
        refine ⟨_, rfl, by rw [E1.out]; exact hI, b :: rb :: own hv1, ⟨rb, hv1, by rw [E2.out]; simpa using r1, rfl, by simp; omega⟩, ho, ?_⟩
        intro y hy
        simp only [List.mem_cons] at hy ⊢
        exact hy.imp id (fun h => h.imp id (hsub y))
      · rw [hrest, (take_tail_drop rest room hrm.1 x).1, (take_tail_drop rest room hrm.1 x).2] at r1
        have hkl2 : k < all.length := by
          rcases Nat.lt_or_ge k all.length with h | h
          · exact h
          · rw [List.drop_of_length_le h] at hrest; cases hrest
        have hx : nth all k = x ∧ all.drop (k + 1) = rest := by
          rw [drop_nth all k hkl2] at hrest
          injection hrest with e1 e2
          exact ⟨e1, e2⟩
        have htk : all.take (k + 1) = all.take k ++ [x] := by rw [take_succ_nth all k hkl2, hx.1]
        have HT := Lib.hid htk
        have HD := Lib.hid hx.2
        have HK := Lib.hid hkl
        have hrl : Hid ((rest.drop (room - 1)).length ≤ 1000) := by
          show _ ≤ _
          have := congrArg List.length hrest
          simp at this ⊢
          omega
        clear hrest htk hx hkl
        go_wp2_with fail
        refine (Ring.steal _ _ _ _ _ r1.ring).mono ?_
        rintro e w1 ⟨rfl, hr1, ho1⟩
        have r2 : SpillRaw w1 b rb room (rest.take (room - 1)) hv1 (rest.drop (room - 1)) := ⟨r1.cells.only ho1 (by simpa using r1.n1), hr1, r1.heap.only ho1 (fun y hy hyr => r1.n3 (by simp at hyr; rw [← hyr]; exact hy)), r1.n1, r1.n2, r1.n3⟩
        have ho2 := ho.trans ho1 (by simp)
        have hI1 := hI.only_low ho1 (fun y hy => hlt y (by simp at hy; simp [hy]))
        have hsz1 := ho2.size
        clear r1 ho ho1 hr1 hI c0
        go_wp2_with (at_builtin; refine wpList_push rfl (.tmp 30) (.tmp 32) rfl w1 w.heap.size _ (all.take k) w1.heap.size x k hI1 HK.out (by omega) hsz1 rfl rfl ((Only.refl [] w1).alloc _) (World.cell?_alloc_at _ _ _ _ rfl) ?_; intro g cap w2 hI2 hO2 hK2)
        have r3 := r2.only hO2 (fun hb => by have := (hI1.own_lt b hb).1; have := hlt b (by simp); omega) (fun hb => by have := (hI1.own_lt rb hb).1; have := hlt rb (by simp); omega)
          (fun y hy hyo => by have := (hI1.own_lt y hyo).1; have := hlt y (by simp [hsub y hy]); omega)
        have ho3 := ho2.pushed hI1 (Nat.le_refl _) hO2
        clear r2 ho2 hO2 hI1
        refine (spill_fill b rb room _ hv1 _ _ r3 hrl.out).mono ?_
        rintro e w3 ⟨rfl, hv3, r4, ho4, hsub4⟩
        rw [List.take_append_drop] at r4
        have hI3 := hI2.only_low ho4 (fun y hy => by simp at hy; rcases hy with rfl | rfl <;> exact hlt _ (by simp))
        have R4 : Hid (SpillRaw w3 b rb room ((all.drop (k + 1)).take room) hv3 ((all.drop (k + 1)).drop room)) := by
          show SpillRaw _ _ _ _ _ _ _
          rw [HD.out]; exact r4
        have I3 : Hid (Ints w3 w.heap.size (.slice (some ⟨g, 0, none⟩) (k + 1) cap) (all.take (k + 1))) := by
          show Ints _ _ _ _
          rw [HT.out]; exact hI3
        have ho5 := ho3.trans ho4 (by simp)
        have hsub5 : ∀ y ∈ own hv3, y ∈ own hv := fun y hy => hsub y (hsub4 y hy)
        clear r3 r4 ho3 ho4 hI2 hI3 hK2 hsub4
        go_wp2
        go_roundw
        case rel => exact ⟨k + 1, by omega, by omega, I3.out, rfl, hv3, R4.out, ho5, hsub5⟩
        case measure => simp [lenOf]; omega
    · obtain rfl : k = n := by omega
      go_wp2
      go_ret2
      refine ⟨_, rfl, hI, b :: rb :: own hv1, ⟨rb, hv1, r1, rfl, by simp; omega⟩, ho, ?_⟩
      intro y hy
      simp only [List.mem_cons] at hy ⊢
      exact hy.imp id (fun h => h.imp id (hsub y))

end Go.Proofs.YtoofalchkedciaaGreatDoor
