/-
  The statement SpillPlays: anything that is put, or asked for: what comes, and how many there are in front and behind. No condition but the listed variable's.
-/
import Derived.Test.YtadjcooemeaaeaaDoorFrame
import Derived.Test.YtadjcooemeaaeaaDoorTellFrame
import Derived.Test.YtadjcooemeaaeaaDoorSpill
import Derived.Test.YtadjcooemeaaeaaDoorRSpill
import Derived.Test.YtadjcooemeaaeaaDoorSame
import Derived.Test.YtadjcooemeaaeaaDoorStepsZ
import Derived.Test.YtadjcooemeaaeaaDoorTold
namespace Go.Proofs.YtadjcooemeaaeaaDoor.spillPlays
open Go.ChangeShapes Go.WideShapes Go.ChangeAt Go.RowKit
open Go.ChangeMaps (open_string shut_string)
set_option linter.unusedVariables false


/-- The two spills, of blocks of their own. -/
def Two (B : Nat) (w : World) (b m room : Nat) (all : List Int) : Prop :=
  ∃ fp rp, SpillIs w fp b room all ∧ RSp w B m rp room all ∧ (∀ x ∈ fp, x ∉ rp) ∧ (∀ x ∈ fp, B ≤ x) ∧ (∀ x ∈ rp, B ≤ x)

theorem Two.same {B b m room : Nat} {w w' : World} {all : List Int} (h : Two B w b m room all) (ho : Only [] w w') : Two B w' b m room all := by
  obtain ⟨fp, rp, h1, h2, h3, h4, h5⟩ := h
  exact ⟨fp, rp, h1.only ho (by simp), h2.only ho (by simp), h3, h4, h5⟩

theorem Two.small {B b m room : Nat} {w : World} {all : List Int} (h : Two B w b m room all) : all.length ≤ 60 := by
  obtain ⟨fp, rp, h1, ⟨_, _, _, _, hl⟩, _⟩ := h
  exact hl

/-- Something put, where there is no room. -/
theorem two_put_no (B b m room : Nat) (all : List Int) (v : Value) (l : List Int) (w : World) (h : Two B w b m room all) (hv : Reads w v l) (hll : l.length ≤ 140737488355328) (hf : 60 < all.length + l.length) :
    Calls Tryd.prog 18 #[.pointer (some ⟨m, 0, none⟩), v] w fun e w1 => e = .returned (.bool false) ∧ Only [] w w1 ∧
      Calls Tryd.prog 19 #[.pointer (some ⟨b, 0, none⟩), v] w1 fun e w' => e = .returned (.iface 115 (.int .i64 4)) ∧ Only [] w w' := by
  obtain ⟨fp, rp, h1, h2, h3, h4, h5⟩ := h
  refine (rsp_put_full _ _ _ _ _ _ _ _ h2 hv hll hf).mono ?_
  rintro e w1 ⟨he, d, rfl⟩
  have ho := (Only.refl [] w).drewN d
  refine ⟨he, ho, ?_⟩
  refine (Spill.put_full _ _ _ _ _ _ _ (h1.only ho (by simp)) (hv.same ho) hll hf).mono ?_
  rintro e w2 ⟨he, d2, rfl⟩
  exact ⟨he, ho.drewN d2⟩

/-- .. where there is. -/
theorem two_put (B b m room : Nat) (all : List Int) (v : Value) (l : List Int) (w0 w : World) (h : Two B w b m room all) (hB : w0.heap.size = B) (ho : Only [] w0 w) (hv : Reads w0 v l) (hvl : l ≠ [] → ∀ x ∈ own v, x < B) (hrm : room ≤ 16) (hf : all.length + l.length ≤ 60) :
    Calls Tryd.prog 18 #[.pointer (some ⟨m, 0, none⟩), v] w fun e w1 => e = .returned (.bool true) ∧ Only [] w0 w1 ∧
      Calls Tryd.prog 19 #[.pointer (some ⟨b, 0, none⟩), v] w1 fun e w' => e = .returned .nilIface ∧ Only [] w0 w' ∧ Two B w' b m room (all ++ l) := by
  obtain ⟨fp, rp, h1, h2, h3, h4, h5⟩ := h
  have hsz := ho.size
  refine (rsp_put _ _ _ _ _ v l _ h2 hrm (by omega) (hv.same ho) (fun h0 x hx hx2 => by have := hvl h0 x hx; have := h5 x hx2; omega) hf).mono ?_
  rintro e w1 ⟨he, rp1, h2', ho1, hk1⟩
  have hoo := ho.trans ho1 (fun x hx hl => by have := h5 x hx; omega)
  refine ⟨he, hoo, ?_⟩
  have hs1 := h1.only ho1 h3
  have hsz1 := ho1.size
  refine (Spill.put2 _ _ _ _ v l _ hs1 (hv.same hoo) (fun h0 x hx hx2 => by have := hvl h0 x hx; have := h4 x hx2; omega) hf).mono ?_
  rintro e w2 ⟨he, fp2, hs2, ho2, hk2⟩
  have hd1 : ∀ x ∈ fp, x ∉ rp1 := fun x hx hx2 => by
    rcases hk1 x hx2 with h | h
    · exact h3 x hx h
    · have := h1.lt x hx; omega
  refine ⟨he, hoo.trans ho2 (fun x hx hl => by have := h4 x hx; omega), fp2, rp1, hs2, h2'.only ho2 (fun x hx hx2 => hd1 x hx2 hx), fun x hx hx2 => ?_, fun x hx => ?_, fun x hx => ?_⟩
  · rcases hk2 x hx with h | h
    · exact hd1 x h hx2
    · have := h2'.lt x hx2; omega
  · rcases hk2 x hx with h | h
    · exact h4 x h
    · omega
  · rcases hk1 x hx with h | h
    · exact h5 x h
    · omega

/-- Something asked for. -/
theorem two_get (B b m room : Nat) (all : List Int) (most : Nat) (w0 w : World) (h : Two B w b m room all) (hB : w0.heap.size = B) (ho : Only [] w0 w) (hrm : room ≤ 16) (h1 : 1 ≤ most) (h2 : most ≤ 60) :
    Calls Tryd.prog 15 #[.pointer (some ⟨m, 0, none⟩), .int .i64 most] w fun e w1 => ∃ v, e = .returned v ∧ Ints w1 w.heap.size v (all.take most) ∧ Only [] w0 w1 ∧
      Calls Tryd.prog 16 #[.pointer (some ⟨b, 0, none⟩), .int .i64 most] w1 fun e w' => ∃ u, e = .returned (.tuple #[u, .nilIface]) ∧ Reads w' u (all.take most) ∧ Reads w' v (all.take most) ∧ Only [] w0 w' ∧ Two B w' b m room (all.drop most) := by
  obtain ⟨fp, rp, k1, k2, k3, k4, k5⟩ := h
  have hsz := ho.size
  refine (rsp_get _ _ _ _ _ most _ k2 hrm (by omega) h1 h2).mono ?_
  rintro e w1 ⟨v, he, hI, rp1, k2', ho1, hk1⟩
  have hoo := ho.trans ho1 (fun x hx hl => by have := k5 x hx; omega)
  refine ⟨v, he, hI, hoo, ?_⟩
  have hs1 := k1.only ho1 k3
  have hsz1 := ho1.size
  refine (Spill.get _ _ _ _ most _ hs1 (by omega) (by omega)).mono ?_
  rintro e w2 ⟨u, he, hI2, fp2, hs2, ho2, hk2⟩
  rw [Int.toNat_natCast] at hI2 hs2
  have hd1 : ∀ x ∈ fp, x ∉ rp1 := fun x hx hx2 => by
    rcases hk1 x hx2 with h | h
    · exact k3 x hx h
    · have := k1.lt x hx; omega
  refine ⟨u, he, hI2.reads, (hI.only ho2 (fun g hg hx => ?_)).reads, hoo.trans ho2 (fun x hx hl => by have := k4 x hx; omega), fp2, rp1, hs2, k2'.only ho2 (fun x hx hx2 => hd1 x hx2 hx), fun x hx hx2 => hd1 x (hk2 x hx) hx2, fun x hx => k4 x (hk2 x hx), fun x hx => ?_⟩
  · have h3 := (hI.own_lt g (own_of hg)).1
    have h4 := k1.lt g hx
    omega
  · rcases hk1 x hx with h | h
    · exact k5 x h
    · omega

/-- How many. -/
theorem two_len (B b m room : Nat) (all : List Int) (w : World) (h : Two B w b m room all) :
    Calls Tryd.prog 20 #[.pointer (some ⟨b, 0, none⟩)] w fun e w' => e = .returned (.tuple #[.int .i64 (all.take room).length, .int .i64 (all.drop room).length]) ∧ ∃ n, w' = w.drewN n := by
  obtain ⟨fp, rp, k1, k2, _⟩ := h
  exact Spill.len _ _ _ _ _ k1
theorem Two.cells {B b m room : Nat} {w : World} {all : List Int} (h : Two B w b m room all) : ∃ fa fc ha hc, w.cell? ⟨m, 1, none⟩ = some (.slice fa (all.take room).length fc) ∧ w.cell? ⟨m, 2, none⟩ = some (.slice ha (all.drop room).length hc) := by
  obtain ⟨fp, rp, k1, ⟨vf, vh, r, _⟩, _⟩ := h
  obtain ⟨fa, fc, rfl, _⟩ := r.front.opt
  obtain ⟨ha, hc, rfl, _⟩ := r.heap.opt
  exact ⟨fa, fc, ha, hc, r.cells.cell 1 _ rfl, r.cells.cell 2 _ rfl⟩

set_option maxHeartbeats 8000000 in
set_option maxRecDepth 100000 in
theorem walk (a0 : Int) (v1 : Value) (l1 : List (List Int)) (w : World) (hglob : Glob w) (w0 : (Lit.int .i64 a0).wf = true) (w1 : SizedRows w v1 l1) :
    Calls Tryd.prog 3 #[.int .i64 a0, v1] w fun e w' => e = .returned (.bool true) ∧ Below w.heap.size w w' := by
  have bd0 := bounds_i64 w0
  have HR := Lib.hid w1
  clear w0 w1
  have HG := Lib.hid hglob
  clear hglob
  by_cases hin : 1 ≤ a0 ∧ a0 ≤ 16
  · obtain ⟨g1, g2⟩ := hin
    obtain ⟨room, rfl⟩ := Int.eq_ofNat_of_zero_le (show 0 ≤ a0 by omega)
    have hr16 : room ≤ 16 := by omega
    obtain ⟨V, ⟨a, cap, rfl, hcap, hmax, hrow⟩, hV⟩ := HR.out.1
    have hlens := HR.out.2
    obtain ⟨n, hn⟩ : ∃ n, l1.length = n := ⟨_, rfl⟩
    rw [hn] at hcap hrow hV ⊢
    have hn9 : n ≤ 9223372036854775807 := by unfold maxLen at hmax; omega
    have HV := Lib.hid hV
    have HROW := Lib.hid hrow
    have HLEN := Lib.hid hlens
    have HN := Lib.hid hn
    clear hV HR hn hrow hmax hlens
    go_enter Tryd.func3, Tryd.ntmps3
    go_wp2_with fail
    refine (Spill.new _ _ (by omega) (by omega)).mono ?_
    rintro e w1 ⟨b, fp, rfl, hs, ho, hfp⟩
    rw [Int.toNat_natCast] at hs
    have hT0 : Hid (Two w.heap.size (w1.alloc (.cells #[.int .i64 room, .slice none 0 0, .slice none 0 0] 32)) b w1.heap.size room []) := by
      have hal := (Only.refl [] w1).alloc (.cells #[.int .i64 room, .slice none 0 0, .slice none 0 0] 32)
      have hsz := ho.size
      refine ⟨fp, [w1.heap.size], hs.only hal (by simp), ⟨.slice none 0 0, .slice none 0 0, ⟨Cells.new w1 #[.int .i64 room, .slice none 0 0, .slice none 0 0] _, by simpa using Ints.nil _ _, by simpa using Ints.nil _ _, by simp [own, Value.ownBlock], by simp [own, Value.ownBlock], by simp [own, Value.ownBlock]⟩, by simp [own, Value.ownBlock], by simp⟩, fun x hx hx2 => ?_, hfp, fun x hx => ?_⟩
      · have := hs.lt x hx
        simp at hx2; omega
      · simp at hx; omega
    have hO0 : Hid (Only [] w (w1.alloc (.cells #[.int .i64 room, .slice none 0 0, .slice none 0 0] 32))) := ho.alloc _
    clear hs ho hfp
    go_wp2_with fail
    refine (same_nil 0 _ true rfl).mono ?_
    rintro e w2 ⟨rfl, rfl⟩
    go_wp2_with fail
    go_loopw [5, 8, 10, 11, 12, 13, 14, 15, 16, 17] (fun _ _ vi _ _ _ _ _ _ _ wr => ∃ k : Nat, k ≤ n ∧ k ≤ 60 ∧ vi = .int .i64 k ∧ ∃ all, Two w.heap.size wr b w1.heap.size room all ∧ Only [] w wr) (fun _ _ vi _ _ _ _ _ _ _ _ => 60 - (intOf vi).toNat)
    case atStart => exact ⟨0, Nat.zero_le _, by omega, rfl, [], hT0.out, hO0.out⟩
    case round =>
      obtain ⟨k, hk, hk6, rfl, all, hT, ho⟩ := hrel
      clear hT0 hO0
      generalize w1.heap.size = m at *
      by_cases hlt : k < n ∧ k < 60
      · obtain ⟨h1, h2⟩ := hlt
        obtain ⟨rb, ro, rfl, hc0⟩ := HROW.out k h1
        have hli := HV.out k h1
        obtain ⟨l, hl⟩ : ∃ l, l1[k]?.getD [] = l := ⟨_, rfl⟩
        rw [hl] at hli
        obtain ⟨la, lc, hvk, hlc⟩ := hli.opt
        rw [hvk] at hc0 hli
        have hcr := (ho.cell (p := ⟨rb, ro + k, none⟩) (cell_lt hc0) (by simp)).trans hc0
        have hlm : l.length ≤ 17592186043904 := HLEN.out l (by rw [← hl, List.getElem?_eq_getElem (by rw [HN.out]; exact h1)]; exact List.getElem_mem _)
        have hbd := hli.bounds
        have hrd := hli.reads
        have hown : l ≠ [] → ∀ x ∈ own (.slice la l.length lc), x < w.heap.size := by
          intro h0 x hx
          obtain ⟨b', o', rfl, hcc⟩ := hlc 0 (List.length_pos_iff.2 h0)
          obtain rfl : x = b' := by simpa [own, Value.ownBlock] using hx
          exact cell_lt hcc
        have HCW := Lib.hid hc0
        have hal0 := hT.small
        have HT0 := Lib.hid hT
        have HO0 := Lib.hid ho
        have HL := Lib.hid (show _ ∧ _ from ⟨hrd, hown⟩)
        by_cases hl1 : l.length = 1
        · obtain ⟨x, rfl⟩ : ∃ x, l = [x] := by
            match l, hl1 with
            | [x], _ => exact ⟨x, rfl⟩
          obtain ⟨b', o', rfl, hcc⟩ := hlc 0 (by simp)
          have hcx := (ho.cell (p := ⟨b', o' + 0, none⟩) (cell_lt hcc) (by simp)).trans hcc
          replace hcx : wr.cell? ⟨b', o', none⟩ = some (.int .i64 x) := hcx
          replace hcr : wr.cell? ⟨rb, ro + k, none⟩ = some (.slice (some ⟨b', o', none⟩) 1 lc) := hcr
          have hbx := hbd x (by simp)
          clear hli hlc hl hvk hrd hown hlm hbd hc0 hcc HL hl1 hT ho
          by_cases hx : 1 ≤ x ∧ x ≤ 60
          · obtain ⟨hx1, hx2⟩ := hx
            obtain ⟨y, rfl⟩ := Int.eq_ofNat_of_zero_le (show 0 ≤ x by omega)
            have hG := two_get _ _ _ _ _ y w wr HT0.out rfl HO0.out hr16 (by omega) (by omega)
            clear HT0 HO0
            go_wp2_with fail
            refine hG.mono ?_
            rintro e w3 ⟨u, rfl, hI, ho3, hG2⟩
            have HO3 := Lib.hid ho3
            obtain ⟨ua, uc, rfl, _⟩ := hI.opt
            obtain ⟨q, hq⟩ : ∃ q, (all.take y).length = q := ⟨_, rfl⟩
            have hq6 : q ≤ 60 := by rw [← hq, List.length_take]; omega
            rw [hq] at hG2 ⊢
            clear hG hI ho3
            go_wp2_with fail
            refine hG2.mono ?_
            rintro e w4 ⟨u2, rfl, hr1, hr2, ho4, hT4⟩
            have hS := same_ints _ _ _ w4 hr1 hr2 (by rw [hq]; omega)
            obtain ⟨xa, xc, rfl, _⟩ := hr1.opt
            rw [hq] at hS ⊢
            clear hG2 hr1 hr2 hq
            go_wp2_with fail
            refine (same_nil 0 _ true rfl).mono ?_
            rintro e w5 ⟨rfl, rfl⟩
            go_wp2_with fail
            refine hS.mono ?_
            rintro e w6 ⟨rfl, d6, rfl⟩
            have hT6 := hT4.same ((Only.refl [] _).drewN d6)
            have ho6 := ho4.drewN d6
            clear hS hT4 ho4
            generalize w4.drewN d6 = w7 at *
            have hlen := two_len _ _ _ _ _ _ hT6
            obtain ⟨P, hP⟩ : ∃ P, ((all.drop y).take room).length = P := ⟨_, rfl⟩
            obtain ⟨Q, hQ⟩ : ∃ Q, ((all.drop y).drop room).length = Q := ⟨_, rfl⟩
            have hal := hT6.small
            have hP6 : P ≤ 60 := by rw [← hP, List.length_take]; omega
            have hQ6 : Q ≤ 60 := by rw [← hQ, List.length_drop]; omega
            obtain ⟨fa, fc, ha, hc, k1, k2⟩ := hT6.cells
            rw [hP, hQ] at hlen
            rw [hP] at k1
            rw [hQ] at k2
            have HT := Lib.hid hT6
            clear hT6 hP hQ hal
            go_wp2_with fail
            refine hlen.mono ?_
            rintro e w9 ⟨rfl, d9, rfl⟩
            have k1' := (cell_drewN _ d9 _).trans k1
            have k2' := (cell_drewN _ d9 _).trans k2
            have HT9 := Lib.hid (HT.out.same ((Only.refl [] _).drewN d9))
            have HO9 := Lib.hid (ho6.drewN d9)
            clear hlen k1 k2 HT ho6
            go_wp2
            go_roundw
            case rel => exact ⟨k + 1, by omega, by omega, by go_num, _, HT9.out, HO9.out⟩
            case measure => (simp [intOf]; try omega)

          · have hx2 : x < 1 ∨ (1 ≤ x ∧ 60 < x) := by omega
            clear hx
            have hG := spill_get_no b x wr (by omega)
            rcases hx2 with h | ⟨h, h'⟩
            all_goals
              go_wp2_with fail
              refine hG.mono ?_
              rintro e w3 ⟨rfl, rfl⟩
              have hgl := HG.out.only HO0.out
              clear hG
              go_wp2_with fail
              refine (same_err 1 1 _ hgl true rfl).mono ?_
              rintro e w4 ⟨rfl, ho4⟩
              have hT4 := HT0.out.same ho4
              have ho4 := HO0.out.trans ho4 (by simp)
              clear HT0 HO0 hcx hcr
              go_wp2_with fail
              refine (same_ints (.slice none 0 0) (.slice none 0 0) [] _ (.inl ⟨rfl, .inl rfl⟩) (.inl ⟨rfl, .inl rfl⟩) (by simp)).mono ?_
              rintro e w6 ⟨rfl, d6, rfl⟩
              have hT6 := hT4.same ((Only.refl [] _).drewN d6)
              have ho6 := ho4.drewN d6
              clear hT4 ho4 hgl
              generalize w4.drewN d6 = w7 at *
              have hlen := two_len _ _ _ _ _ _ hT6
              obtain ⟨P, hP⟩ : ∃ P, (all.take room).length = P := ⟨_, rfl⟩
              obtain ⟨Q, hQ⟩ : ∃ Q, (all.drop room).length = Q := ⟨_, rfl⟩
              have hal := hT6.small
              have hP6 : P ≤ 60 := by rw [← hP, List.length_take]; omega
              have hQ6 : Q ≤ 60 := by rw [← hQ, List.length_drop]; omega
              obtain ⟨fa, fc, ha, hc, k1, k2⟩ := hT6.cells
              rw [hP, hQ] at hlen
              rw [hP] at k1
              rw [hQ] at k2
              have HT := Lib.hid hT6
              clear hT6 hP hQ hal
              go_wp2_with fail
              refine hlen.mono ?_
              rintro e w9 ⟨rfl, d9, rfl⟩
              have k1' := (cell_drewN _ d9 _).trans k1
              have k2' := (cell_drewN _ d9 _).trans k2
              have HT9 := Lib.hid (HT.out.same ((Only.refl [] _).drewN d9))
              have HO9 := Lib.hid (ho6.drewN d9)
              clear hlen k1 k2 HT ho6
              go_wp2
              go_roundw
              case rel => exact ⟨k + 1, by omega, by omega, by go_num, _, HT9.out, HO9.out⟩
              case measure => (simp [intOf]; try omega)

        · obtain ⟨c, hc⟩ : ∃ c, l.length = c := ⟨_, rfl⟩
          have HC := Lib.hid hc
          rw [hc] at hl1 hcr hlm HL
          clear hli hlc hl hvk hrd hown hbd hc0 hc
          by_cases hf : all.length + c ≤ 60
          · have hP := two_put _ _ _ _ _ _ l w wr hT rfl ho HL.out.1 HL.out.2 hr16 (by rw [HC.out]; exact hf)
            clear hT ho HT0 hf
            go_wp2_with fail
            refine hP.mono ?_
            rintro e w3 ⟨rfl, ho3, hP2⟩
            have hcr3 : w3.cell? ⟨rb, ro + k, none⟩ = some (.slice la c lc) := (ho3.cell (p := ⟨rb, ro + k, none⟩) (cell_lt HCW.out) (by simp)).trans (by rw [HCW.out, HC.out])
            clear hP ho3 hcr
            go_wp2_with fail
            refine hP2.mono ?_
            rintro e w4 ⟨rfl, ho4, hT4⟩
            clear hP2 hcr3
            go_wp2_with fail
            refine (same_nil 0 _ true rfl).mono ?_
            rintro e w5 ⟨rfl, rfl⟩
            have hlen := two_len _ _ _ _ _ _ hT4
            obtain ⟨P, hP⟩ : ∃ P, ((all ++ l).take room).length = P := ⟨_, rfl⟩
            obtain ⟨Q, hQ⟩ : ∃ Q, ((all ++ l).drop room).length = Q := ⟨_, rfl⟩
            have hal := hT4.small
            have hP6 : P ≤ 60 := by rw [← hP, List.length_take]; omega
            have hQ6 : Q ≤ 60 := by rw [← hQ, List.length_drop]; omega
            obtain ⟨fa, fc, ha, hc, k1, k2⟩ := hT4.cells
            rw [hP, hQ] at hlen
            rw [hP] at k1
            rw [hQ] at k2
            have HT := Lib.hid hT4
            clear hT4 hP hQ hal
            go_wp2_with fail
            refine hlen.mono ?_
            rintro e w9 ⟨rfl, d9, rfl⟩
            have k1' := (cell_drewN _ d9 _).trans k1
            have k2' := (cell_drewN _ d9 _).trans k2
            have HT9 := Lib.hid (HT.out.same ((Only.refl [] _).drewN d9))
            have HO9 := Lib.hid (ho4.drewN d9)
            clear hlen k1 k2 HT ho4
            go_wp2
            go_roundw
            case rel => exact ⟨k + 1, by omega, by omega, by go_num, _, HT9.out, HO9.out⟩
            case measure => (simp [intOf]; try omega)
          · have hP := two_put_no _ _ _ _ _ _ l wr hT (HL.out.1.same ho) (by rw [HC.out]; omega) (by rw [HC.out]; omega)
            clear hT ho hf
            go_wp2_with fail
            refine hP.mono ?_
            rintro e w3 ⟨rfl, ho3, hP2⟩
            have hcr3 := (ho3.cell (p := ⟨rb, ro + k, none⟩) (cell_lt hcr) (by simp)).trans hcr
            clear hP ho3 hcr
            go_wp2_with fail
            refine hP2.mono ?_
            rintro e w4 ⟨rfl, ho4⟩
            have hT4 := HT0.out.same ho4
            have ho4 := HO0.out.trans ho4 (by simp)
            have hgl := HG.out.only ho4
            clear hP2 hcr3 HT0 HO0
            go_wp2_with fail
            refine (same_err 4 4 _ hgl true rfl).mono ?_
            rintro e w5 ⟨rfl, ho5⟩
            have hT5 := hT4.same ho5
            have ho5 := ho4.trans ho5 (by simp)
            clear hT4 ho4 hgl
            have hlen := two_len _ _ _ _ _ _ hT5
            obtain ⟨P, hP⟩ : ∃ P, (all.take room).length = P := ⟨_, rfl⟩
            obtain ⟨Q, hQ⟩ : ∃ Q, (all.drop room).length = Q := ⟨_, rfl⟩
            have hal := hT5.small
            have hP6 : P ≤ 60 := by rw [← hP, List.length_take]; omega
            have hQ6 : Q ≤ 60 := by rw [← hQ, List.length_drop]; omega
            obtain ⟨fa, fc, ha, hc, k1, k2⟩ := hT5.cells
            rw [hP, hQ] at hlen
            rw [hP] at k1
            rw [hQ] at k2
            have HT := Lib.hid hT5
            clear hT5 hP hQ hal
            go_wp2_with fail
            refine hlen.mono ?_
            rintro e w9 ⟨rfl, d9, rfl⟩
            have k1' := (cell_drewN _ d9 _).trans k1
            have k2' := (cell_drewN _ d9 _).trans k2
            have HT9 := Lib.hid (HT.out.same ((Only.refl [] _).drewN d9))
            have HO9 := Lib.hid (ho5.drewN d9)
            clear hlen k1 k2 HT ho5
            go_wp2
            go_roundw
            case rel => exact ⟨k + 1, by omega, by omega, by go_num, _, HT9.out, HO9.out⟩
            case measure => (simp [intOf]; try omega)
      · have hend : n ≤ k ∨ (k < n ∧ 60 ≤ k) := by omega
        clear hlt
        rcases hend with h | ⟨h, h'⟩
        all_goals
          go_wp2
          go_ret
          exact ⟨by rfl, ho.below (Nat.le_refl _) (by simp)⟩
  · have hin2 : a0 < 1 ∨ (1 ≤ a0 ∧ 16 < a0) := by omega
    have hN := spill_new_no a0 w (by omega)
    clear hin
    rcases hin2 with h | ⟨h, h'⟩
    all_goals
      go_enter Tryd.func3, Tryd.ntmps3
      go_wp2_with fail
      refine hN.mono ?_
      rintro e w1 ⟨rfl, ho1⟩
      have hgl := HG.out.only ho1
      clear hN
      go_wp2_with fail
      refine (same_err 1 1 _ hgl true rfl).mono ?_
      rintro e w2 ⟨rfl, ho2⟩
      go_wp2
      go_ret
      exact ⟨by rfl, (ho1.trans ho2 (by simp)).below (Nat.le_refl _) (by simp)⟩

end Go.Proofs.YtadjcooemeaaeaaDoor.spillPlays
