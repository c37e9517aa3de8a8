/-
  Contracts of package park.
-/
import Derived.Test.YtoofalchkedciaaGreatDoorP8TopGang
import Derived.Test.YtoofalchkedciaaGreatDoorP18TopGang
namespace Go.Proofs.YtoofalchkedciaaGreatDoor
open Go.RowKit

/-- A park in block b: so many hands, those in the row sleep. fp: the blocks that it has. -/
structure ParkIs (w : World) (fp : List Nat) (b : Nat) (hands : Nat) (row : List Int) : Prop where
  ex : ∃ rv, Cells w b [.int .i64 hands, rv] ∧ Ints w 0 rv row ∧ fp = b :: own rv ∧ b ∉ own rv
  h1 : 1 ≤ hands
  h6 : hands ≤ 6
  len : row.length ≤ 100000

theorem ParkIs.only {w w' : World} {fp : List Nat} {b hands : Nat} {row : List Int} {S : List Nat} (h : ParkIs w fp b hands row) (ho : Only S w w') (hd : ∀ x ∈ fp, x ∉ S) : ParkIs w' fp b hands row := by
  obtain ⟨⟨rv, hc, hi, rfl, hb⟩, h1, h6, hl⟩ := h
  exact ⟨⟨rv, hc.only ho (hd b (by simp)), hi.only ho (fun g hg => hd g (by simp [own, hg])), rfl, hb⟩, h1, h6, hl⟩

theorem ParkIs.lt {w : World} {fp : List Nat} {b hands : Nat} {row : List Int} (h : ParkIs w fp b hands row) : ∀ x ∈ fp, x < w.heap.size := by
  obtain ⟨⟨rv, hc, hi, rfl, _⟩, _⟩ := h
  intro x hx
  rcases List.mem_cons.1 hx with rfl | hx
  · exact hc.lt
  · exact (World.ownsRow.lt hi x (by simpa [own] using hx)).2

theorem park_new_no (n : Int) (w : World) (h : n < 1 ∨ 6 < n) :
    Calls Tryz.prog 87 #[.int .i64 n] w fun e w' => e = .returned (.tuple #[.pointer none, .iface 98 (.int .i64 1)]) ∧ w = w' := by
  go_enter Tryz.func87, Tryz.ntmps87
  go_wp2_with (go_at_call 61; refine (hands_no _ _ h).mono ?_; rintro e w1 ⟨rfl, rfl⟩)
  go_ret2
  exact ⟨rfl, rfl⟩

theorem Park.new (n : Int) (w : World) (h1 : 1 ≤ n) (h6 : n ≤ 6) :
    Calls Tryz.prog 87 #[.int .i64 n] w fun e w' => e = .returned (.tuple #[.pointer (some ⟨w.heap.size, 0, none⟩), .nilIface]) ∧ ParkIs w' [w.heap.size] w.heap.size n.toNat [] ∧ Only [] w w' := by
  obtain ⟨n, rfl⟩ := Int.eq_ofNat_of_zero_le (show 0 ≤ n by omega)
  rw [Int.toNat_natCast]
  have hP : ParkIs (w.alloc (.cells #[.int .i64 n, .slice none 0 0] 228)) [w.heap.size] w.heap.size n [] :=
    ⟨⟨_, Cells.new w #[.int .i64 n, .slice none 0 0] 228, Ints.nil _ _, rfl, by simp [own, Value.ownBlock]⟩, by omega, by omega, by simp⟩
  go_enter Tryz.func87, Tryz.ntmps87
  go_wp2_with (go_at_call 61; refine (hands_yes _ _ h1 h6).mono ?_; rintro e w1 ⟨rfl, rfl⟩)
  go_ret2
  exact ⟨rfl, hP, (Only.refl _ _).alloc _⟩

theorem park_has_yes (b hands : Nat) (rv : Value) (h : Int) (w : World) (hc : Cells w b [.int .i64 hands, rv]) (h1 : 0 ≤ h) (h2 : h < hands) :
    Calls Tryz.prog 137 #[.pointer (some ⟨b, 0, none⟩), .int .i64 h] w fun e w' => e = .returned (.bool true) ∧ w = w' := by
  have c0 := hc.cell 0 _ rfl
  clear hc
  go_enter Tryz.func137, Tryz.ntmps137
  go_wp2
  go_ret
  exact ⟨by simp, rfl⟩

theorem park_has_no (b hands : Nat) (rv : Value) (h : Int) (w : World) (hc : Cells w b [.int .i64 hands, rv]) (hh : h < 0 ∨ hands ≤ h) :
    Calls Tryz.prog 137 #[.pointer (some ⟨b, 0, none⟩), .int .i64 h] w fun e w' => e = .returned (.bool false) ∧ w = w' := by
  have c0 := hc.cell 0 _ rfl
  clear hc
  rcases hh with hh | hh
  · go_enter Tryz.func137, Tryz.ntmps137
    go_wp2
    go_ret
    exact ⟨rfl, rfl⟩
  · have h0 : 0 ≤ h := by omega
    go_enter Tryz.func137, Tryz.ntmps137
    go_wp2
    go_ret
    exact ⟨by simp; omega, rfl⟩

set_option maxHeartbeats 400000 in
theorem Park.sleep_no (fp : List Nat) (b hands : Nat) (row : List Int) (h : Int) (w : World) (hp : ParkIs w fp b hands row) (hh : h < 0 ∨ hands ≤ h) :
    Calls Tryz.prog 97 #[.pointer (some ⟨b, 0, none⟩), .int .i64 h] w fun e w' => e = .returned (.iface 98 (.int .i64 1)) ∧ w = w' := by
  obtain ⟨⟨rv, hc, hi, rfl, hb⟩, h1, h6, hl⟩ := hp
  go_enter Tryz.func97, Tryz.ntmps97
  go_wp2_with (go_at_call 137; refine (park_has_no _ _ _ _ _ hc hh).mono ?_; rintro e w1 ⟨rfl, rfl⟩)
  go_ret
  exact ⟨rfl, rfl⟩

set_option maxHeartbeats 400000 in
theorem Park.sleep_in (fp : List Nat) (b hands : Nat) (row : List Int) (h : Int) (w : World) (hp : ParkIs w fp b hands row) (h0 : 0 ≤ h) (h2 : h < hands) (hin : h ∈ row) :
    Calls Tryz.prog 97 #[.pointer (some ⟨b, 0, none⟩), .int .i64 h] w fun e w' => e = .returned (.iface 98 (.int .i64 6)) ∧ w = w' := by
  obtain ⟨⟨rv, hc, hi, rfl, hb⟩, h1, h6, hl⟩ := hp
  have c1 := hc.cell 1 _ rfl
  have hr := hi.reads
  have HI := Lib.hid hin
  clear hi hb hin
  go_enter Tryz.func97, Tryz.ntmps97
  go_wp2_with (first
    | (go_at_call 137; refine (park_has_yes _ _ _ _ _ hc h0 h2).mono ?_; rintro e w1 ⟨rfl, rfl⟩)
    | (go_at_call 106; refine (contains_ints _ row h _ hr (by omega) true (by simpa using HI.out)).mono ?_; rintro e w1 ⟨rfl, rfl⟩))
  go_ret
  exact ⟨rfl, rfl⟩

set_option maxHeartbeats 400000 in
theorem Park.sleep (fp : List Nat) (b hands : Nat) (row : List Int) (h : Int) (w : World) (hp : ParkIs w fp b hands row) (h0 : 0 ≤ h) (h2 : h < hands) (hin : h ∉ row) (hlen : row.length + 1 ≤ 100000) :
    Calls Tryz.prog 97 #[.pointer (some ⟨b, 0, none⟩), .int .i64 h] w fun e w' => e = .returned .nilIface ∧ ∃ fp', ParkIs w' fp' b hands (row ++ [h]) ∧ Only fp w w' ∧ Kin w fp fp' := by
  obtain ⟨⟨rv, hc, hi, rfl, hb⟩, h1, h6, hl⟩ := hp
  have c1 := hc.cell 1 _ rfl
  have f1 := hc.free 1 _ rfl
  have hlt := hc.lt
  have hr := hi.reads
  have HI := Lib.hid hin
  clear hin
  have hcc := hc
  go_enter Tryz.func97, Tryz.ntmps97
  go_wp2_with (first
    | (go_at_call 137; refine (park_has_yes _ _ _ _ _ hc h0 h2).mono ?_; rintro e w1 ⟨rfl, rfl⟩)
    | (go_at_call 106; refine (contains_ints _ row h _ hr (by omega) false (by simpa using HI.out)).mono ?_; rintro e w1 ⟨rfl, rfl⟩)
    | (at_builtin; refine wpList_push rfl (.tmp 23) (.tmp 25) rfl w 0 rv row w.heap.size h row.length hi rfl (by omega) (Nat.zero_le _) rfl rfl ((Only.refl [] w).alloc _) (World.cell?_alloc_at _ _ _ _ rfl) ?_; intro g cap w2 hI hO hK; have hc2 := hcc.only hO hb; have f1' := hc2.free 1 _ rfl; have c1' := hc2.cell 1 _ rfl; clear c1 f1 hc))
  go_ret
  have hbg : b ≠ g := fun e => by
    rcases hK with hK | hK
    · exact hb (e ▸ hK)
    · omega
  refine ⟨rfl, b :: own (.slice (some ⟨g, 0, none⟩) (row.length + 1) cap), ⟨⟨_, hc2.set 1 _, ?_, rfl, by simpa [own, Value.ownBlock] using hbg⟩, h1, h6, by simp; omega⟩, ?_, ?_⟩
  · exact hI.only ((Only.refl [b] w2).setCell (by simp) _) (by simpa [Value.ownBlock] using Ne.symm hbg)
  · exact (hO.mono (fun x hx _ => List.mem_cons_of_mem _ hx)).setCell (by simp) _
  · intro x hx
    rcases List.mem_cons.1 hx with rfl | hx
    · exact .inl (by simp)
    · obtain rfl : x = g := by simpa [own, Value.ownBlock] using hx
      exact hK.imp (fun h => by simp [h]) id

theorem Park.awake_no (fp : List Nat) (b hands : Nat) (row : List Int) (h : Int) (w : World) (hp : ParkIs w fp b hands row) (hh : h < 0 ∨ hands ≤ h) :
    Calls Tryz.prog 94 #[.pointer (some ⟨b, 0, none⟩), .int .i64 h] w fun e w' => e = .returned (.tuple #[.bool false, .iface 98 (.int .i64 1)]) ∧ w = w' := by
  obtain ⟨⟨rv, hc, hi, rfl, hb⟩, h1, h6, hl⟩ := hp
  go_enter Tryz.func94, Tryz.ntmps94
  go_wp2_with (go_at_call 137; refine (park_has_no _ _ _ _ _ hc hh).mono ?_; rintro e w1 ⟨rfl, rfl⟩)
  go_ret2
  exact ⟨rfl, rfl⟩

set_option maxHeartbeats 400000 in
theorem Park.awake (fp : List Nat) (b hands : Nat) (row : List Int) (h : Int) (w : World) (hp : ParkIs w fp b hands row) (h0 : 0 ≤ h) (h2 : h < hands) (r : Bool) (hr : decide (h ∈ row) = r) :
    Calls Tryz.prog 94 #[.pointer (some ⟨b, 0, none⟩), .int .i64 h] w fun e w' => e = .returned (.tuple #[.bool (!r), .nilIface]) ∧ w = w' := by
  obtain ⟨⟨rv, hc, hi, rfl, hb⟩, h1, h6, hl⟩ := hp
  have c1 := hc.cell 1 _ rfl
  have hrd := hi.reads
  have HR := Lib.hid hr
  clear hr hi hb
  go_enter Tryz.func94, Tryz.ntmps94
  go_wp2_with (first
    | (go_at_call 137; refine (park_has_yes _ _ _ _ _ hc h0 h2).mono ?_; rintro e w1 ⟨rfl, rfl⟩)
    | (go_at_call 106; refine (contains_ints _ row h _ hrd (by omega) r HR.out).mono ?_; rintro e w1 ⟨rfl, rfl⟩))
  go_ret2
  exact ⟨rfl, rfl⟩

theorem Park.wake_no (fp : List Nat) (b hands : Nat) (row : List Int) (n : Int) (w : World) (_hp : ParkIs w fp b hands row) (hn : n < 0) :
    Calls Tryz.prog 140 #[.pointer (some ⟨b, 0, none⟩), .int .i64 n] w fun e w' => e = .returned (.tuple #[.slice none 0 0, .iface 98 (.int .i64 1)]) ∧ w = w' := by
  go_enter Tryz.func140, Tryz.ntmps140
  go_wp2
  go_ret2
  exact ⟨rfl, rfl⟩

theorem wake_end {w w1 w2 : World} {b hands : Nat} {rv v v2 : Value} {fp : List Nat} {out rest : List Int} (hfp : b ∈ fp) (hlt : b < w.heap.size) (ho1 : Only [] w w1) (hI1 : Ints w1 w.heap.size v out)
    (hc : Cells w1 b [.int .i64 hands, rv]) (ho2 : Only [] w1 w2) (hI2 : Ints w2 w1.heap.size v2 rest) (h1 : 1 ≤ hands) (h6 : hands ≤ 6) (hl : rest.length ≤ 100000) :
    Ints (w2.setCell ⟨b, 1, none⟩ v2) w.heap.size v out ∧ ∃ fp', ParkIs (w2.setCell ⟨b, 1, none⟩ v2) fp' b hands rest ∧ Only [b] w (w2.setCell ⟨b, 1, none⟩ v2) ∧ Kin w fp fp' ∧ (∀ x ∈ own v, x ∉ fp') := by
  have hs1 := ho1.size
  have hc2 := hc.only ho2 (by simp)
  have hb2 : b ∉ own v2 := hI2.far (by omega)
  have hbv : b ∉ own v := hI1.far hlt
  have hset : Only [b] w2 (w2.setCell ⟨b, 1, none⟩ v2) := (Only.refl [b] w2).setCell (by simp) _
  refine ⟨(hI1.only ho2 (by simp)).only hset (fun g hg => ?_), b :: own v2, ⟨⟨v2, hc2.set 1 v2, (hI2.only hset (fun g hg => ?_)).mono (Nat.zero_le _), rfl, hb2⟩, h1, h6, hl⟩, ((ho1.trans ho2 (by simp)).mono (by simp)).trans hset (by simp), ?_, ?_⟩
  · intro hx
    obtain rfl : g = b := by simpa using hx
    exact hbv (by simp [own, hg])
  · intro hx
    obtain rfl : g = b := by simpa using hx
    exact hb2 (by simp [own, hg])
  · intro x hx
    rcases List.mem_cons.1 hx with rfl | hx
    · exact .inl hfp
    · exact .inr (by have := (World.ownsRow.lt hI2) x (by simpa [own] using hx); omega)
  · intro x hx hx2
    have k1 := (World.ownsRow.lt hI1) x (by simpa [own] using hx)
    rcases List.mem_cons.1 hx2 with rfl | hx2
    · omega
    · have k2 := (World.ownsRow.lt hI2) x (by simpa [own] using hx2)
      omega

set_option maxHeartbeats 400000 in
theorem Park.wake (fp : List Nat) (b hands : Nat) (row : List Int) (n : Int) (w : World) (hp : ParkIs w fp b hands row) (hn : 0 ≤ n) (hn2 : n ≤ 9223372036854775807) :
    Calls Tryz.prog 140 #[.pointer (some ⟨b, 0, none⟩), .int .i64 n] w fun e w' => ∃ v, e = .returned (.tuple #[v, .nilIface]) ∧ Ints w' w.heap.size v (row.take n.toNat) ∧ ∃ fp', ParkIs w' fp' b hands (row.drop n.toNat) ∧ Only [b] w w' ∧ Kin w fp fp' ∧ (∀ x ∈ own v, x ∉ fp') := by
  obtain ⟨n, rfl⟩ := Int.eq_ofNat_of_zero_le hn
  rw [Int.toNat_natCast]
  obtain ⟨⟨rv, hc, hi, rfl, hb⟩, h1, h6, hl⟩ := hp
  have c1 := hc.cell 1 _ rfl
  have f1 := hc.free 1 _ rfl
  have hlt := hc.lt
  go_enter Tryz.func140, Tryz.ntmps140
  rcases hi.form with ⟨rfl, rfl⟩ | ⟨g, cap, rfl, _, hg, hlc, hcm⟩
  · have hz : Reads w (.slice none 0 0) [] := .inl ⟨rfl, .inl rfl⟩
    have ht : ([] : List Int).take n = [] := by simp
    have hd : ([] : List Int).drop n = [] := by simp
    rw [ht, hd]
    by_cases hn0 : n = 0
    · subst hn0
      go_wp2_with fail
      refine (clone_ints _ _ _ hz (by first | (simp; done) | (simp; omega))).mono ?_
      rintro e w1 ⟨v, rfl, hI1, ho1⟩
      have hc1 := hc.only ho1 (by simp)
      have c1' := hc1.cell 1 _ rfl
      have f1' := hc1.free 1 _ rfl
      have hi1 := hi.only ho1 (by simp)
      clear c1 f1 hc hi
      go_wp2_with fail
      refine (clone_ints _ _ _ (hz.same ho1) (by first | (simp; done) | (simp; omega))).mono ?_
      rintro e w2 ⟨v2, rfl, hI2, ho2⟩
      have hE := wake_end (fp := b :: own (.slice none 0 0)) (by simp) hlt ho1 hI1 hc1 ho2 hI2 h1 h6 (by first | (simp; done) | (simp; omega))
      have c2 := (hc1.only ho2 (by simp)).cell 1 _ rfl
      have f2 := (hc1.only ho2 (by simp)).free 1 _ rfl
      have hv2 := hI2.shape
      have HE := Lib.hid hE
      clear hE hI1 hI2 ho1 ho2 hc1 c1' f1' hi1 hb
      rcases hv2 with rfl | ⟨g2, m2, cap2, rfl⟩
      all_goals
        go_wp2
        go_ret2
        exact ⟨_, rfl, HE.out⟩
    · have hpos : 0 < n := by omega
      go_wp2_with fail
      refine (clone_ints _ _ _ hz (by first | (simp; done) | (simp; omega))).mono ?_
      rintro e w1 ⟨v, rfl, hI1, ho1⟩
      have hc1 := hc.only ho1 (by simp)
      have c1' := hc1.cell 1 _ rfl
      have f1' := hc1.free 1 _ rfl
      have hi1 := hi.only ho1 (by simp)
      clear c1 f1 hc hi
      go_wp2_with fail
      refine (clone_ints _ _ _ (hz.same ho1) (by first | (simp; done) | (simp; omega))).mono ?_
      rintro e w2 ⟨v2, rfl, hI2, ho2⟩
      have hE := wake_end (fp := b :: own (.slice none 0 0)) (by simp) hlt ho1 hI1 hc1 ho2 hI2 h1 h6 (by first | (simp; done) | (simp; omega))
      have c2 := (hc1.only ho2 (by simp)).cell 1 _ rfl
      have f2 := (hc1.only ho2 (by simp)).free 1 _ rfl
      have hv2 := hI2.shape
      have HE := Lib.hid hE
      clear hE hI1 hI2 ho1 ho2 hc1 c1' f1' hi1 hb
      rcases hv2 with rfl | ⟨g2, m2, cap2, rfl⟩
      all_goals
        go_wp2
        go_ret2
        exact ⟨_, rfl, HE.out⟩
  · by_cases hnk : n ≤ row.length
    · have hr1 := hi.reads_take n hnk hlc hcm
      have hcap' : n = cap ∨ n < cap := by omega
      rcases hcap' with hcap' | hcap'
      · have hd : row.drop n = [] := by rw [List.drop_eq_nil_iff]; omega
        have hnl : Hid (row.length - n = 0) := by show _ = _; omega
        rw [hd]
        clear hd
        have hr1 := hi.reads_take n hnk hlc hcm
        subst hcap'
        go_wp2_with fail
        refine (clone_ints _ _ _ hr1 (by first | (simp; done) | (simp; omega))).mono ?_
        rintro e w1 ⟨v, rfl, hI1, ho1⟩
        have hc1 := hc.only ho1 (by simp)
        have c1' := hc1.cell 1 _ rfl
        have f1' := hc1.free 1 _ rfl
        have hi1 := hi.only ho1 (by simp)
        clear c1 f1 hc hi
        have hz : Reads w1 (.slice (some ⟨g, 0, none⟩) 0 0) [] := .inl ⟨rfl, .inr ⟨_, _, rfl, Nat.zero_le _⟩⟩
        go_wp2_with fail
        refine (clone_ints _ _ _ (by first | exact hz | (rw [hnl.out]; exact hz)) (by first | (simp; done) | (simp; omega))).mono ?_
        rintro e w2 ⟨v2, rfl, hI2, ho2⟩
        have hE := wake_end (fp := b :: own (.slice (some ⟨g, 0, none⟩) row.length 0)) (by simp) hlt ho1 hI1 hc1 ho2 hI2 h1 h6 (by first | (simp; done) | (simp; omega))
        have c2 := (hc1.only ho2 (by simp)).cell 1 _ rfl
        have f2 := (hc1.only ho2 (by simp)).free 1 _ rfl
        have hv2 := hI2.shape
        have HE := Lib.hid hE
        clear hE hI1 hI2 ho1 ho2 hc1 c1' f1' hi1 hb
        rcases hv2 with rfl | ⟨g2, m2, cap2, rfl⟩
        all_goals
          go_wp2
          go_ret2
          exact ⟨_, rfl, HE.out⟩
      · have hnc : ¬ n = cap := by omega
        go_wp2_with fail
        refine (clone_ints _ _ _ hr1 (by first | (simp; done) | (simp; omega))).mono ?_
        rintro e w1 ⟨v, rfl, hI1, ho1⟩
        have hc1 := hc.only ho1 (by simp)
        have c1' := hc1.cell 1 _ rfl
        have f1' := hc1.free 1 _ rfl
        have hi1 := hi.only ho1 (by simp)
        clear c1 f1 hc hi
        have hr2 := hi1.reads_drop n hnk hlc hcm (row.length - n) rfl
        go_wp2_with fail
        refine (clone_ints _ _ _ hr2 (by first | (simp; done) | (simp; omega))).mono ?_
        rintro e w2 ⟨v2, rfl, hI2, ho2⟩
        have hE := wake_end (fp := b :: own (.slice (some ⟨g, 0, none⟩) row.length 0)) (by simp) hlt ho1 hI1 hc1 ho2 hI2 h1 h6 (by first | (simp; done) | (simp; omega))
        have c2 := (hc1.only ho2 (by simp)).cell 1 _ rfl
        have f2 := (hc1.only ho2 (by simp)).free 1 _ rfl
        have hv2 := hI2.shape
        have HE := Lib.hid hE
        clear hE hI1 hI2 ho1 ho2 hc1 c1' f1' hi1 hb
        rcases hv2 with rfl | ⟨g2, m2, cap2, rfl⟩
        all_goals
          go_wp2
          go_ret2
          exact ⟨_, rfl, HE.out⟩
    · have hpos : row.length < n := by omega
      have ht : row.take n = row.take row.length := by rw [List.take_of_length_le (by omega), List.take_of_length_le (by omega)]
      have hd : row.drop n = row.drop row.length := by rw [List.drop_of_length_le (by omega), List.drop_of_length_le (by omega)]
      rw [ht, hd]
      clear ht hd
      have hr1 := hi.reads_take row.length (by omega) hlc hcm
      have hcap' : row.length = cap ∨ row.length < cap := by omega
      rcases hcap' with hcap' | hcap'
      · obtain ⟨L, hL⟩ : ∃ L, row.length = L := ⟨_, rfl⟩
        have hd : row.drop row.length = [] := by simp
        rw [hd]
        clear hd hr1
        rw [hL] at hcap' hlc hpos hi hc c1 hl hnk ⊢
        subst hcap'
        have HL : Hid (row.length = L) := hL
        have hr1 := hi.reads_take L (by omega) (by omega) hcm
        clear hL
        go_wp2_with fail
        refine (clone_ints _ _ _ hr1 (by first | (simp; done) | (simp; omega))).mono ?_
        rintro e w1 ⟨v, rfl, hI1, ho1⟩
        have hc1 := hc.only ho1 (by simp)
        have c1' := hc1.cell 1 _ rfl
        have f1' := hc1.free 1 _ rfl
        have hi1 := hi.only ho1 (by simp)
        clear c1 f1 hc hi
        have hz : Reads w1 (.slice (some ⟨g, 0, none⟩) 0 0) [] := .inl ⟨rfl, .inr ⟨_, _, rfl, Nat.zero_le _⟩⟩
        go_wp2_with fail
        refine (clone_ints _ _ _ hz (by first | (simp; done) | (simp; omega))).mono ?_
        rintro e w2 ⟨v2, rfl, hI2, ho2⟩
        have hE := wake_end (fp := b :: own (.slice (some ⟨g, 0, none⟩) row.length 0)) (by simp) hlt ho1 hI1 hc1 ho2 hI2 h1 h6 (by first | (simp; done) | (simp; omega))
        have c2 := (hc1.only ho2 (by simp)).cell 1 _ rfl
        have f2 := (hc1.only ho2 (by simp)).free 1 _ rfl
        have hv2 := hI2.shape
        have HE := Lib.hid hE
        clear hE hI1 hI2 ho1 ho2 hc1 c1' f1' hi1 hb
        rcases hv2 with rfl | ⟨g2, m2, cap2, rfl⟩
        all_goals
          go_wp2
          go_ret2
          exact ⟨_, rfl, HE.out⟩
      · have hnc : ¬ row.length = cap := by omega
        go_wp2_with fail
        refine (clone_ints _ _ _ hr1 (by first | (simp; done) | (simp; omega))).mono ?_
        rintro e w1 ⟨v, rfl, hI1, ho1⟩
        have hc1 := hc.only ho1 (by simp)
        have c1' := hc1.cell 1 _ rfl
        have f1' := hc1.free 1 _ rfl
        have hi1 := hi.only ho1 (by simp)
        clear c1 f1 hc hi
        have hr2 := hi1.reads_drop row.length (by omega) hlc hcm 0 (by omega)
        go_wp2_with fail
        refine (clone_ints _ _ _ hr2 (by first | (simp; done) | (simp; omega))).mono ?_
        rintro e w2 ⟨v2, rfl, hI2, ho2⟩
        have hE := wake_end (fp := b :: own (.slice (some ⟨g, 0, none⟩) row.length 0)) (by simp) hlt ho1 hI1 hc1 ho2 hI2 h1 h6 (by first | (simp; done) | (simp; omega))
        have c2 := (hc1.only ho2 (by simp)).cell 1 _ rfl
        have f2 := (hc1.only ho2 (by simp)).free 1 _ rfl
        have hv2 := hI2.shape
        have HE := Lib.hid hE
        clear hE hI1 hI2 ho1 ho2 hc1 c1' f1' hi1 hb
        rcases hv2 with rfl | ⟨g2, m2, cap2, rfl⟩
        all_goals
          go_wp2
          go_ret2
          exact ⟨_, rfl, HE.out⟩

end Go.Proofs.YtoofalchkedciaaGreatDoor
