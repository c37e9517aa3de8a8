/-
  The statement RingPlays: anything that is pushed, popped, stolen, halved: what is refused, what there is. No condition but the listed variable's.
-/
import Derived.Test.YtmjicogmgkeilaaDoorFrame
import Derived.Test.YtmjicogmgkeilaaDoorTellFrame
import Derived.Test.YtmjicogmgkeilaaDoorRing2
import Derived.Test.YtmjicogmgkeilaaDoorSame
import Derived.Test.YtmjicogmgkeilaaDoorCutting
namespace Go.Proofs.YtmjicogmgkeilaaDoor.ringPlays
open Go.ChangeShapes Go.WideShapes Go.ChangeAt Go.RowKit
open Go.ChangeMaps (open_string shut_string)
set_option linter.unusedVariables false

theorem last_cases (l : List Int) : l = [] ∨ ∃ l0 x, l = l0 ++ [x] := by
  by_cases h : l = []
  · exact .inl h
  · exact .inr ⟨l.dropLast, l.getLast h, (List.dropLast_concat_getLast h).symm⟩

theorem reads_front {w : World} {b off cap : Nat} {l0 : List Int} {x : Int} (h1 : (l0 ++ [x]).length ≤ cap) (h2 : cap ≤ maxLen) (h3 : ∀ i, i < (l0 ++ [x]).length → w.cell? ⟨b, off + i, none⟩ = some (.int .i64 (nth (l0 ++ [x]) i))) :
    Reads w (.slice (some ⟨b, off, none⟩) l0.length cap) l0 := by
  simp at h1 h3
  by_cases h0 : l0 = []
  · subst h0
    exact .inl ⟨rfl, .inr ⟨_, cap, rfl, h2⟩⟩
  · refine .inr ⟨List.length_pos_iff.2 h0, b, off, cap, rfl, by omega, h2, fun i hi => ?_⟩
    rw [h3 i (by omega)]
    simp [nth, List.getElem?_append_left hi]

theorem reads_back {w : World} {b off cap : Nat} {l : List Int} {x : Int} (h1 : (x :: l).length ≤ cap) (h2 : cap ≤ maxLen) (h3 : ∀ i, i < (x :: l).length → w.cell? ⟨b, off + i, none⟩ = some (.int .i64 (nth (x :: l) i))) (hc : cap ≠ 1) :
    Reads w (.slice (some ⟨b, off + 1, none⟩) l.length (cap - 1)) l := by
  simp at h1 h3
  by_cases h0 : l = []
  · subst h0
    exact .inl ⟨rfl, .inr ⟨_, cap - 1, rfl, by omega⟩⟩
  · refine .inr ⟨List.length_pos_iff.2 h0, b, off + 1, cap - 1, rfl, by omega, by omega, fun i hi => ?_⟩
    have := h3 (i + 1) (by omega)
    rw [show off + 1 + i = off + (i + 1) by omega, this]
    simp [nth]

set_option maxHeartbeats 8000000 in
set_option maxRecDepth 100000 in
theorem walk (a0 : Int) (v1 : Value) (l1 : List Int) (w : World) (hglob : Glob w) (w0 : (Lit.int .i64 a0).wf = true) (w1 : InInts w v1 l1) :
    Calls Tryd.prog 5 #[.int .i64 a0, v1] w fun e w' => e = .returned (.bool true) ∧ Below w.heap.size w w' := by
  have bd0 := bounds_i64 w0
  have HA := w1
  have HG := Lib.hid hglob
  clear w0 w1 hglob
  go_enter Tryd.func5, Tryd.ntmps5
  by_cases hr : 1 ≤ a0 ∧ a0 ≤ 16
  · obtain ⟨hr1, hr2⟩ := hr
    go_wp2_with fail
    refine (Ring.new _ _ (by omega) (by omega)).mono ?_
    rintro e w1 ⟨rfl, hrg, ho⟩
    obtain ⟨room, rfl⟩ := Int.eq_ofNat_of_zero_le (show 0 ≤ a0 by omega)
    rw [Int.toNat_natCast] at hrg
    go_wp2_with fail
    refine (same_nil 0 _ true rfl).mono ?_
    rintro e w2 ⟨rfl, rfl⟩
    obtain ⟨b, hbe⟩ : ∃ b, w.heap.size = b := ⟨_, rfl⟩
    rw [hbe] at hrg ⊢
    have hwb : w.heap.size ≤ b := by omega
    have hbl := hrg.lt
    obtain ⟨sa, scap, rfl, hin⟩ := HA.opt
    clear HA hbe
    go_wp2_with fail
    go_loopw [9, 10] (fun vm vi wr => ∃ (i : Nat) (m : List Int), i ≤ l1.length ∧ i ≤ 100 ∧ vi = .int .i64 i ∧ m.length ≤ i ∧ Reads wr vm m ∧ b ∉ own vm ∧ RingIs wr b room m ∧ Only [] w wr)
      (fun _ vi _ => 100 - (intOf vi).toNat)
    case atStart => exact ⟨0, [], Nat.zero_le _, by omega, rfl, by simp, .inl ⟨rfl, .inl rfl⟩, by simp [own, Value.ownBlock], hrg, ho⟩
    case round =>
      obtain ⟨wo, rfl⟩ : ∃ wo : World, wo = wr := ⟨_, rfl⟩
      obtain ⟨i, m, hi, hi100, rfl, hmi, hM, hbm, hR, ho2⟩ := hrel
      clear hrg ho hbl
      by_cases hlt : i < l1.length ∧ i < 100
      · obtain ⟨hlt, hlt100⟩ := hlt
        obtain ⟨ba, oa, rfl, hc0⟩ := hin i hlt
        have hcell : wo.cell? ⟨ba, oa + i, none⟩ = some (.int .i64 (nth l1 i)) := (ho2.cell (p := ⟨ba, oa + i, none⟩) (cell_lt hc0) (by simp)).trans hc0
        have hba : ba ≠ b := by have := cell_lt hc0; simp at this; omega
        clear hin hc0
        go_upto_block 2 with (fail)
        go_cut [8, 9] (fun vt vm wx => ∃ m' : List Int, vt = .bool true ∧ m'.length ≤ i + 1 ∧ Reads wx vm m' ∧ b ∉ own vm ∧ RingIs wx b room m' ∧ Only [] w wx)
        case first =>
          as_aux_lemma =>
            have hgl := Lib.hid (HG.out.only ho2)
            have hoN := Lib.hid ho2
            have hsz2 := ho2.size
            have hlt9 := hR.lt
            clear ho2
            by_cases h1 : nth l1 i = 0
            · have e1 : (nth l1 i == 0) = true := by simpa using h1
              clear h1
              rcases last_cases m with rfl | ⟨l0, x, rfl⟩
              · obtain ⟨va, vc, rfl, _⟩ := hM.opt
                go_wp2_with fail
                refine (Ring.pop_none _ _ _ hR).mono ?_
                rintro e w9 ⟨rfl, rfl⟩
                go_wp2_with fail
                refine (same_err 5 5 _ hgl.out true rfl).mono ?_
                rintro e w10 ⟨rfl, ho10⟩
                have hR10 := hR.only ho10 (by simp)
                have hM10 := hM.same ho10
                have hoo := hoN.out.trans ho10 (by simp)
                clear hR hM ho10
                go_wp2_with fail
                go_meet
                exact ⟨[], rfl, by simp, hM10, hbm, hR10, hoo⟩
              · rcases hM with ⟨hl, _⟩ | ⟨_, mb, mo, mc, rfl, k1, k2, k3⟩
                · simp at hl
                · have hf := reads_front k1 k2 k3
                  have hc9 : wo.cell? ⟨mb, mo + l0.length, none⟩ = some (.int .i64 x) := by
                    rw [k3 _ (by simp)]; simp [nth]
                  have hl1 : (l0 ++ [x]).length = l0.length + 1 := by simp
                  rw [hl1] at hmi k1 ⊢
                  obtain ⟨n0, hn0⟩ : ∃ n0, l0.length = n0 := ⟨_, rfl⟩
                  rw [hn0] at hf hc9 hmi k1 ⊢
                  have hn0' := Lib.hid hn0
                  have hbm2 : b ∉ own (Value.slice (some ⟨mb, mo, none⟩) n0 mc) := hbm
                  unfold maxLen at k2
                  clear k3 hl1 hn0 hbm
                  go_wp2_with fail
                  refine (Ring.pop _ _ _ _ _ hR).mono ?_
                  rintro e w9 ⟨rfl, hR9, ho9⟩
                  have hf9 := hf.only ho9 (fun g hg hx => by simp at hx; subst hx; exact hbm2 (own_of hg))
                  have hoo := hoN.out.fresh ho9 hwb
                  clear hR hf ho9 hc9
                  go_wp2_with fail
                  refine (same_nil 0 _ true rfl).mono ?_
                  rintro e w10 ⟨rfl, rfl⟩
                  go_wp2_with fail
                  go_meet
                  exact ⟨l0, rfl, by rw [hn0'.out]; omega, hf9, hbm2, hR9, hoo⟩
            · by_cases h2 : nth l1 i = 1
              · have e1 : (nth l1 i == 0) = false := by simpa using h1
                have e2 : (nth l1 i == 1) = true := by simpa using h2
                clear h1 h2
                rcases m with _ | ⟨x, l0⟩
                · obtain ⟨va, vc, rfl, _⟩ := hM.opt
                  go_wp2_with fail
                  refine (Ring.steal_none _ _ _ hR).mono ?_
                  rintro e w9 ⟨rfl, rfl⟩
                  go_wp2_with fail
                  refine (same_err 5 5 _ hgl.out true rfl).mono ?_
                  rintro e w10 ⟨rfl, ho10⟩
                  have hR10 := hR.only ho10 (by simp)
                  have hM10 := hM.same ho10
                  have hoo := hoN.out.trans ho10 (by simp)
                  clear hR hM ho10
                  go_wp2_with fail
                  go_meet
                  exact ⟨[], rfl, by simp, hM10, hbm, hR10, hoo⟩
                · rcases hM with ⟨hl, _⟩ | ⟨_, mb, mo, mc, rfl, k1, k2, k3⟩
                  · simp at hl
                  · have hc9 : wo.cell? ⟨mb, mo, none⟩ = some (.int .i64 x) := by
                      have := k3 0 (by simp)
                      simpa [nth] using this
                    have hl1 : (x :: l0).length = l0.length + 1 := by simp
                    by_cases hmc : mc = 1
                    · subst hmc
                      obtain rfl : l0 = [] := by simp at k1; exact k1
                      have hf : Reads wo (.slice (some ⟨mb, mo, none⟩) 0 0) [] := .inl ⟨rfl, .inr ⟨_, 0, rfl, by unfold maxLen; omega⟩⟩
                      have hbm2 : b ∉ own (Value.slice (some ⟨mb, mo, none⟩) 0 0) := hbm
                      clear k3 hl1 hbm
                      go_wp2_with fail
                      refine (Ring.steal _ _ _ _ _ hR).mono ?_
                      rintro e w9 ⟨rfl, hR9, ho9⟩
                      have hf9 := hf.only ho9 (fun g hg hx => by simp at hx; subst hx; exact hbm2 (own_of hg))
                      have hoo := hoN.out.fresh ho9 hwb
                      clear hR hf ho9 hc9
                      go_wp2_with fail
                      refine (same_nil 0 _ true rfl).mono ?_
                      rintro e w10 ⟨rfl, rfl⟩
                      go_wp2_with fail
                      go_meet
                      exact ⟨[], rfl, by simp, hf9, hbm2, hR9, hoo⟩
                    · have hf := reads_back k1 k2 k3 hmc
                      rw [hl1] at hmi k1 ⊢
                      obtain ⟨n0, hn0⟩ : ∃ n0, l0.length = n0 := ⟨_, rfl⟩
                      rw [hn0] at hf hmi k1 ⊢
                      have hn0' := Lib.hid hn0
                      have hbm2 : b ∉ own (Value.slice (some ⟨mb, mo + 1, none⟩) n0 (mc - 1)) := hbm
                      have hmc2 : (mc == 1) = false := by simpa using hmc
                      have hmc1 : 1 ≤ mc := by omega
                      unfold maxLen at k2
                      clear k3 hl1 hn0 hbm
                      go_wp2_with fail
                      refine (Ring.steal _ _ _ _ _ hR).mono ?_
                      rintro e w9 ⟨rfl, hR9, ho9⟩
                      have hf9 := hf.only ho9 (fun g hg hx => by simp at hx; subst hx; exact hbm2 (own_of hg))
                      have hoo := hoN.out.fresh ho9 hwb
                      clear hR hf ho9 hc9
                      go_wp2_with fail
                      refine (same_nil 0 _ true rfl).mono ?_
                      rintro e w10 ⟨rfl, rfl⟩
                      go_wp2_with fail
                      go_meet
                      exact ⟨l0, rfl, by rw [hn0'.out]; omega, hf9, hbm2, hR9, hoo⟩
              · by_cases h3 : nth l1 i = 2
                · have e1 : (nth l1 i == 0) = false := by simpa using h1
                  have e2 : (nth l1 i == 1) = false := by simpa using h2
                  have e3 : (nth l1 i == 2) = true := by simpa using h3
                  clear h1 h2 h3
                  have hcut := cutting u9 m (halfOf m) wo hM (by omega) (by unfold halfOf; omega)
                  have hhl : Hid ((m.take (halfOf m)).length ≤ 1000 ∧ (m.drop (halfOf m)).length ≤ m.length) := by
                    show _ ∧ _
                    simp; omega
                  obtain ⟨va, vc, rfl, _⟩ := hM.opt
                  obtain ⟨n0, hn0⟩ : ∃ n0, m.length = n0 := ⟨_, rfl⟩
                  have hk : Hid (((n0 : Int) + 1) / 2 = (halfOf m : Nat)) := by
                    show _ = _
                    unfold halfOf; rw [hn0]; omega
                  rw [hn0] at hmi hcut ⊢
                  have hn0' := Lib.hid hn0
                  clear hn0
                  have hk2 := hk.out
                  go_wp2_with fail
                  clear hk2
                  refine hcut.mono ?_
                  rintro e w9 ⟨xa, xb, rfl, hIa, hIb, ho9⟩
                  have hR9 := hR.only ho9 (by simp)
                  have hbx : b ∉ own xb := fun hx => by have := (hIb.own_lt _ hx).1; omega
                  have hba9 : b ∉ own xa := fun hx => by have := (hIa.own_lt _ hx).1; omega
                  have hoo := hoN.out.trans ho9 (by simp)
                  clear hcut hR ho9 hM
                  go_wp2_with fail
                  refine (Ring.half _ _ _ _ hR9).mono ?_
                  rintro e w10 ⟨v10, rfl, hv10, hR10, ho10⟩
                  have hIa10 := hIa.only ho10 (fun g hg hx => by simp at hx; subst hx; exact hba9 (own_of hg))
                  have hIb10 := hIb.only ho10 (fun g hg hx => by simp at hx; subst hx; exact hbx (own_of hg))
                  have hoo10 := hoo.fresh ho10 hwb
                  clear hR9 hIa hIb hoo ho10
                  go_wp2_with fail
                  refine (same_ints _ _ _ _ hv10.reads hIa10.reads (by have := hhl.out.1; omega)).mono ?_
                  rintro e w11 ⟨rfl, k11, rfl⟩
                  go_wp2_with fail
                  go_meet
                  exact ⟨m.drop (halfOf m), rfl, by have := hhl.out.2; have := hn0'.out; omega, hIb10.reads.drewN k11, hbx, hR10.drewN k11, hoo10.drewN k11⟩
                · have e1 : (nth l1 i == 0) = false := by simpa using h1
                  have e2 : (nth l1 i == 1) = false := by simpa using h2
                  have e3 : (nth l1 i == 2) = false := by simpa using h3
                  clear h1 h2 h3
                  obtain ⟨va, vc, rfl, _⟩ := hM.opt
                  have hle := hR.le
                  obtain ⟨n0, hn0⟩ : ∃ n0, m.length = n0 := ⟨_, rfl⟩
                  rw [hn0] at hmi hle hM ⊢
                  have hn0' := Lib.hid hn0
                  by_cases hfull : n0 = room
                  · have hff : ((n0 : Int) == (room : Int)) = true := by rw [hfull]; simp
                    have hpf := Ring.push_full b room m (nth l1 i) wo hR (by rw [hn0]; exact hfull)
                    have Hfull := Lib.hid hfull
                    clear hfull hn0
                    go_wp2_with fail
                    refine hpf.mono ?_
                    rintro e w9 ⟨rfl, hR9, ho9⟩
                    have hoo := hoN.out.trans ho9 (by simp)
                    have hM9 := hM.only ho9 (by simp)
                    have hgl9 := HG.out.only hoo
                    clear hpf hR hM ho9
                    go_wp2_with fail
                    refine (same_err 4 4 _ hgl9 true rfl).mono ?_
                    rintro e w10 ⟨rfl, ho10⟩
                    have hR10 := hR9.only ho10 (by simp)
                    have hM10 := hM9.same ho10
                    have hoo10 := hoo.trans ho10 (by simp)
                    clear hR9 hM9 ho10
                    go_wp2_with fail
                    go_meet
                    exact ⟨m, rfl, by rw [hn0'.out]; omega, hM10, by rw [own_slice _ _ _ m.length vc]; exact hbm, hR10, hoo10⟩
                  · have hff : ((n0 : Int) == (room : Int)) = false := by simp; omega
                    have hroom : m.length < room := by omega
                    clear hfull hn0
                    go_wp2_with (first
                      | (at_builtin; refine wpList_append_reads rfl (.tmp 61) (.tmp 62) rfl wo wo.heap.size _ [] _ m (Ints.nil _ _) hM (by simp; omega) (Nat.le_refl _) rfl rfl (Only.refl _ _) ?_; intro v9 w9 hI9 hO9 hK9; obtain ⟨aa9, ac9, rfl, _⟩ := hI9.opt; rw [List.nil_append, hn0'.out] at hI9; simp only [List.nil_append, hn0'.out]; have hO9' : Only [] wo w9 := hO9.mono (by simp [own, Value.ownBlock]); have hcell9 := (hO9'.cell (p := ⟨ba, oa + i, none⟩) (cell_lt hcell) (by simp)).trans hcell; have hs9 := hO9'.size)
                      | (at_builtin; refine wpList_push rfl (.tmp 64) (.tmp 69) rfl w9 wo.heap.size _ _ _ (nth l1 i) n0 hI9 hn0'.out (by omega) hs9 rfl rfl ((Only.refl [] w9).alloc _) (World.cell?_alloc_at _ _ _ _ rfl) ?_; intro g cap w10 hI10 hO10 hK10; have hO10' := Only.pushed (a := wo) hO9' hI9 (Nat.le_refl _) hO10; have hcell10 := (hO10'.cell (p := ⟨ba, oa + i, none⟩) (cell_lt hcell) (by simp)).trans hcell; clear hcell hcell9))
                    have hs10 := hO10'.size
                    have hR10 := hR.only hO10' (by simp)
                    have hbg : b ∉ own (Value.slice (some ⟨g, 0, none⟩) (n0 + 1) cap) := fun hx => by have := (hI10.own_lt _ hx).1; omega
                    have hoo10 := hoN.out.trans hO10' (by simp)
                    clear hR hM hO10 hO9 hO9' hI9 hK9 hK10 hO10'
                    refine (Ring.push _ _ _ _ _ hR10 hroom).mono ?_
                    rintro e w11 ⟨rfl, hR11, ho11⟩
                    have hI11 := hI10.only ho11 (fun g9 h9 hx => by simp at hx; subst hx; exact hbg (own_of h9))
                    have hoo11 := hoo10.fresh ho11 hwb
                    clear hR10 hI10 hoo10 ho11
                    go_wp2_with fail
                    refine (same_nil 0 _ true rfl).mono ?_
                    rintro e w12 ⟨rfl, rfl⟩
                    go_wp2_with fail
                    go_meet
                    exact ⟨m ++ [nth l1 i], rfl, by simp [hn0'.out]; omega, hI11.reads, hbg, hR11, hoo11⟩
        case rest =>
          as_aux_lemma =>
            obtain ⟨m', rfl, hml, hM', hbm', hR', ho3⟩ := hcut
            have hlt9 := hR'.lt
            clear hR hM hbm ho2 hcell
            go_wp2_with fail
            refine (Ring.all _ _ _ _ hR').mono ?_
            rintro e wa ⟨va, rfl, hva, hoa⟩
            have hM2 := hM'.same hoa
            have hR2 := hR'.only hoa (by simp)
            have hoo := ho3.trans hoa (by simp)
            clear hM' hR' ho3 hoa
            obtain ⟨ma, mc, rfl, _⟩ := hM2.opt
            obtain ⟨n0, hn0⟩ : ∃ n0, m'.length = n0 := ⟨_, rfl⟩
            rw [hn0] at hM2 hml ⊢
            have hlen := fun k => Ring.len b room m' (wa.drewN k) (hR2.drewN k)
            rw [hn0] at hlen
            have Hlen := Lib.hid hlen
            have hn0' := Lib.hid hn0
            clear hn0 hlen
            go_wp2_with fail
            refine (same_ints _ _ m' _ hva.reads hM2 (by rw [hn0'.out]; omega)).mono ?_
            rintro e wb ⟨rfl, k, rfl⟩
            go_wp2_with fail
            refine (Hlen.out k).mono ?_
            rintro e wc ⟨rfl, rfl⟩
            clear Hlen
            go_wp2
            go_roundw
            case rel => exact ⟨i + 1, m', by omega, by omega, by go_num, by rw [hn0'.out]; omega, hM2.drewN k, by rw [own_slice _ _ _ m'.length mc]; exact hbm', hR2.drewN k, hoo.drewN k⟩
            case measure => (simp [intOf]; try omega)
      · have hout : l1.length ≤ i ∨ (i < l1.length ∧ 100 ≤ i) := by omega
        clear hlt hin
        rcases hout with hout | ⟨hout, hout2⟩
        all_goals
          go_wp2
          go_ret
          exact ⟨rfl, ho2.below (Nat.le_refl _) (by simp)⟩
  · have hr' : a0 < 1 ∨ 16 < a0 := by omega
    clear hr
    rcases hr' with hr' | hr'
    · go_wp2_with fail
      refine (ring_new_no _ _ (.inl hr')).mono ?_
      rintro e w7 ⟨rfl, m7, rfl⟩
      have hgl := HG.out.only ((Only.refl [] w).drewN m7)
      go_wp2_with fail
      refine (same_err 1 1 _ hgl true rfl).mono ?_
      rintro e w8 ⟨rfl, ho8⟩
      go_wp2
      go_ret
      exact ⟨by simp, (((Only.refl [] w).drewN m7).trans ho8 (by simp)).below (Nat.le_refl _) (by simp)⟩
    · have h1 : 1 ≤ a0 := by omega
      go_wp2_with fail
      refine (ring_new_no _ _ (.inr hr')).mono ?_
      rintro e w7 ⟨rfl, m7, rfl⟩
      have hgl := HG.out.only ((Only.refl [] w).drewN m7)
      go_wp2_with fail
      refine (same_err 1 1 _ hgl true rfl).mono ?_
      rintro e w8 ⟨rfl, ho8⟩
      go_wp2
      go_ret
      exact ⟨by simp, (((Only.refl [] w).drewN m7).trans ho8 (by simp)).below (Nat.le_refl _) (by simp)⟩

end Go.Proofs.YtmjicogmgkeilaaDoor.ringPlays
