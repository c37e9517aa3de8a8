/-
  The statement TopCancelled: who lives can be done: tasks that live, without the others, make a plan; it takes no more work, and no longer way. No condition.
-/
import Derived.Test.YtbpkndflkbcmaaaFrame
import Derived.Test.YtbpkndflkbcmaaaLiveOk
import Derived.Test.YtbpkndflkbcmaaaTopOne
import Derived.Test.YtbpkndflkbcmaaaSubM
import Derived.Test.YtbpkndflkbcmaaaDepth
namespace Go.Proofs.Ytbpkndflkbcmaaa.topCancelled
open Go.ChangeShapes Go.WideShapes Go.ChangeAt Go.RowKit
open Go.ChangeMaps (open_string shut_string)
set_option linter.unusedVariables false

def zeros30 : Array Value := Array.replicate 30 (.int .i64 0)
theorem zero_30 (w : World) : (zeroValue 55).run Try.prog w = .ok (.agg zeros30) w := by kernel_rfl
theorem nums_30 (w : World) : Nums (w.alloc (.cells zeros30 55)) w.heap.size 30 (fun _ => 0) := fun i hi => by
  refine ⟨?_, World.frozen?_alloc_at _ _ _ _ rfl⟩
  rw [World.cell?_alloc_new]
  simp [zeros30, hi]

theorem bools_only {w w' : World} {A N : Nat} {f : Nat → Bool} {S : List Nat} (h : Bools w A N f) (ho : Only S w w') (hA : 0 < N → A ∉ S) : Bools w' A N f := fun i hi => (h.only ho (hA (by omega))) i hi

set_option maxHeartbeats 8000000 in
set_option maxRecDepth 100000 in
theorem walk (v0 : Value) (l0 : PlanL) (v1 : Value) (l1 : List (Int × Bool)) (v2 : Value) (l2 : List Int) (a3 : Int) (w : World) (w0 : ArgPlan w v0 l0) (w1 : ArgGroups w v1 l1) (w2 : InInts w v2 l2) (w3 : (Lit.int .i64 a3).wf = true) :
    Calls Try.prog 7 #[v0, v1, v2, .int .i64 a3] w fun e w' => e = .returned (.bool true) ∧ Below w.heap.size w w' := by
  have bd3 := bounds_i64 w3
  obtain ⟨hg, hgw⟩ := w1
  have HG := Lib.hid hg
  have HP := Lib.hid w0.2
  have HO := Lib.hid w2
  have hone := top_one w
  obtain ⟨pa, pcap, rfl, _, _, _⟩ := (HP.out).task
  obtain ⟨m, hm⟩ : ∃ m, l0.length = m := ⟨_, rfl⟩
  have HL := Lib.hid hm
  rw [hm] at HP ⊢
  have hz30 := zero_30
  clear hg hgw w0 w2 w3 hm
  go_enter Try.func7, Try.ntmps7
  go_wp2_with fail
  refine hone.mono ?_
  rintro e w1 ⟨rfl, ho1⟩
  clear hone
  obtain ⟨n, hn⟩ : ∃ n, l1.length = n := ⟨_, rfl⟩
  rw [hn] at HG
  clear hn
  generalize (fun i : Nat => (l1[i]?.getD (0, false)).fst) = P at *
  generalize (fun i : Nat => (l1[i]?.getD (0, false)).snd) = C at *
  by_cases he : grErr n P a3 = 0
  · obtain ⟨h12, ht, hi0, hin⟩ := grErr_zero he
    obtain ⟨i, rfl⟩ := Int.eq_ofNat_of_zero_le hi0
    have hi : i < n := by omega
    have hc2 := groups_Cancel_ok v1 n P C i w1 (Pairs.same HG.out ho1) h12 ht hi
    clear he ht hi0
    go_wp2_with fail
    refine hc2.mono ?_
    rintro e w2 ⟨v3', rfl, hO2, ho2⟩
    have hoo2 := ho1.trans ho2 (by simp)
    have HH := Lib.hid hO2.reads
    obtain ⟨ha, hcap, rfl, _, _, _⟩ := Row.form hO2
    clear hc2 hO2 ho2 ho1
    by_cases heL : lErr l0 n P l2 = 0
    · have hl1 := groups_Live _ _ v2 l0 n P (cancel C i) l2 w2 (HP.out.same hoo2) HH.out (HO.out.reads.same hoo2) heL
      obtain ⟨hok, _, _, hlen, hany⟩ := lErr_zero heL
      have HOK := Lib.hid hok
      have hneed : Hid (ClosedL l0 (liveF l0 (fun x => !goneF P (cancel C i) (nth l2 x)))) := fun x hx hl y hy => liveF_need hok _ x hx hl y hy
      generalize liveF l0 (fun x => !goneF P (cancel C i) (nth l2 x)) = live at *
      have hm30 : m ≤ 30 := by rw [← HL.out]; exact hok.len
      rw [HL.out] at hl1
      clear hok hlen hany heL
      go_wp2_with fail
      refine hl1.mono ?_
      rintro e w3 ⟨A, rfl, hB3, _, hA3, ho3⟩
      have hoo3 := hoo2.trans ho3 (by simp)
      have HB := Lib.hid hB3
      clear hl1 hoo2 ho3 hB3
      have hPL := nums_30 w3
      have hooL := hoo3.alloc (.cells zeros30 55)
      have hBL := HB.out.only ((Only.refl [] w3).alloc (.cells zeros30 55)) (by simp)
      have hs3 := hoo3.size
      obtain ⟨wl, hwl⟩ : ∃ wl, w3.alloc (.cells zeros30 55) = wl := ⟨_, rfl⟩
      obtain ⟨PL, hple⟩ : ∃ PL, w3.heap.size = PL := ⟨_, rfl⟩
      have hsl : PL < wl.heap.size := by rw [← hwl, ← hple]; simp
      have hAl : A < PL ∨ m = 0 := by
        by_cases h0 : m = 0
        · exact .inr h0
        · exact .inl (by rw [← hple]; exact cell_lt (HB.out 0 (by omega)).1)
      have HWL := Lib.hid hwl
      have HPLE := Lib.hid hple
      rw [hwl] at hPL hooL hBL
      rw [hple] at hPL hs3
      have HBL := Lib.hid hBL
      have hO0 : OwnPlan wl wl.heap.size (fun x => x < w.heap.size) (.slice none 0 0) (midP l0 live 0) := OwnPlan.nil _ _ _
      clear HB hwl hple hoo3 hBL
      go_wp2_with fail
      rw [HWL.out, HPLE.out]
      go_loopw [13, 15] (fun vq vk wr => ∃ k : Nat, k ≤ m ∧ vk = .int .i64 k ∧ OwnPlan wr wl.heap.size (fun x => x < w.heap.size) vq (midP l0 live k) ∧ Nums wr PL 30 (fun j => if j < k then (placeF live j : Int) else 0) ∧ Only [PL] wl wr) (fun _ vk _ => m - (intOf vk).toNat)
      case atStart => exact ⟨0, Nat.zero_le _, rfl, hO0, hPL.congr (fun j _ => by simp), Only.refl _ _⟩
      case round =>
        obtain ⟨k, hk, rfl, hQ, hN, ho⟩ := hrel
        clear hO0 hPL
        have hwr : Only [] w wr := hooL.trans ho (fun x hx hl => by simp at hx; omega)
        obtain ⟨qa, qc, rfl, hqc, _⟩ := hQ.form
        rw [midP_len] at hqc hQ ⊢
        have hkl := keepL_len live k
        have hsu := Lib.hid (keepL_succ live k)
        by_cases hkm : k < m
        · have cB := ((HBL.out.only ho (by simp; omega)) k hkm).1
          have cPk := (hN k (by omega)).1
          have fPk := (hN k (by omega)).2
          obtain ⟨z, hz⟩ : ∃ z, (keepL live k).length = z := ⟨_, rfl⟩
          have HZ := Lib.hid hz
          rw [hz] at hqc hQ hkl ⊢
          have hfar := hQ.far
          have hset : Only [PL] wr (wr.setCell ⟨PL, k, none⟩ (.int .i64 (z : Int))) := (Only.refl _ _).setCell (by simp) _
          have hN1 : Hid (Nums (wr.setCell ⟨PL, k, none⟩ (.int .i64 (z : Int))) PL 30 (fun j => if j < k + 1 then (placeF live j : Int) else 0)) := by
            show Nums _ _ _ _
            refine (hN.set k (z : Int)).congr fun j _ => ?_
            unfold updI
            by_cases e : j = k
            · subst e; rw [if_pos rfl, if_pos (by omega)]; unfold placeF; rw [HZ.out]
            · rw [if_neg e]
              show (if j < k then (placeF live j : Int) else 0) = _
              by_cases e2 : j < k
              · rw [if_pos e2, if_pos (by omega)]
              · rw [if_neg e2, if_neg (by omega)]
          have hQ1 := hQ.only hset (fun x hx hx2 => by have := (hfar x hx).1; simp at hx2; omega) (fun x hx hx2 => by simp at hx2; omega)
          have ho1 := ho.trans hset (fun x hx _ => hx)
          have HO1 := Lib.hid ho1
          have hwr1 := hooL.trans ho1 (fun x hx hl => by simp at hx; omega)
          have HKM := Lib.hid hkm
          have hsz1 : wl.heap.size ≤ (wr.setCell ⟨PL, k, none⟩ (.int .i64 (z : Int))).heap.size := ho1.size
          have hss : (wr.setCell ⟨PL, k, none⟩ (.int .i64 (z : Int))).heap.size = wr.heap.size := by simp [World.setCell]
          obtain ⟨lk, hlk⟩ : ∃ b, live k = b := ⟨_, rfl⟩
          rw [hlk] at cB hsu
          clear hQ hN hset hz hlk
          cases lk
          · have hmid : midP l0 live (k + 1) = midP l0 live k := by unfold midP; rw [hsu.out]; rfl
            rw [← hmid] at hQ1
            have HQ1 := Lib.hid hQ1
            clear hQ1 hmid
            go_wp2
            go_roundw
            case rel => exact ⟨k + 1, HKM.out, by go_num, HQ1.out, hN1.out, HO1.out⟩
            case measure => (have := HKM.out; simp [intOf]; try omega)
          · obtain ⟨b, off, rfl⟩ := (HP.out).any k (by rw [HL.out]; exact hkm)
            obtain ⟨ua, uc, c0, c1, hrd⟩ := (HP.out).at k (by rw [HL.out]; exact hkm)
            have hmid : Hid (midP l0 live k ++ [(wkOf l0 k, ndOf l0 k)] = midP l0 live (k + 1)) := by show _ = _; unfold midP; rw [hsu.out, if_pos rfl, List.map_append]; rfl
            have hub : ndOf l0 k ≠ [] → ∀ x ∈ own (.slice ua (ndOf l0 k).length uc), x < w.heap.size := fun h0 x hx => by
              rcases hrd with ⟨h, _⟩ | ⟨_, b', off', c', e, _, _, hc⟩
              · exact absurd h h0
              · rw [e] at hx
                obtain rfl : x = b' := by simpa [own, Value.ownBlock] using hx
                exact cell_lt (hc 0 (List.length_pos_iff.2 h0))
            have c0r := (hwr1.cell (p := ⟨b, off + k * 2, none⟩) (cell_lt c0) (by simp)).trans c0
            have c1r := (hwr1.cell (p := ⟨b, off + k * 2 + 1, none⟩) (cell_lt c1) (by simp)).trans c1
            have hrd1 := hrd.same hwr1
            obtain ⟨N, k1, k2, k3, k4⟩ := hQ1
            have K1 := Lib.hid k1
            have KP := Lib.hid (fun v' w' => OwnPlan.push (W := wr.setCell ⟨PL, k, none⟩ (.int .i64 (z : Int))) (w' := w') (base := wl.heap.size) (F := fun x => x < w.heap.size) (v' := v') (wkOf l0 k, ndOf l0 k) _ k2 k3 k4 hrd1 (fun h0 x hx => ⟨hub h0 x hx, fun hx2 => by have := hub h0 x hx; have := (hfar x hx2).1; omega⟩))
            rw [midP_len, HZ.out] at KP K1
            generalize wkOf l0 k = x at *
            generalize (ndOf l0 k).length = mm at *
            have hone : Hid (RowAt ((wr.setCell ⟨PL, k, none⟩ (.int .i64 (z : Int))).alloc (.cells #[.int .i64 x, .slice ua mm uc] 49)) (.slice (some ⟨wr.heap.size, 0, none⟩) 1 1) 1 2 [.int .i64 x, .slice ua mm uc]) :=
              RowAt.one (cs := #[.int .i64 x, .slice ua mm uc]) (by rw [← hss]; exact heap_alloc_new _ _) rfl (by intro y hy; simp at hy; rcases hy with rfl | rfl <;> rfl)
            clear k1 k2 k3 k4 hrd hrd1 hub c0 c1
            go_wp2_with (at_builtin; refine wpList_append_rows sliceOf_plan rfl (.tmp 73) (.tmp 78) rfl (wr.setCell ⟨PL, k, none⟩ (.int .i64 (z : Int))) wl.heap.size _ _ _ _ 1 _ K1.out hone.out (by omega) hsz1 rfl rfl ((Only.refl [] _).alloc _) ?_; intro v4 w4 hI4 hO4 hK4)
            have hP4 := KP.out v4 w4 hI4 hO4 hK4
            rw [hmid.out] at hP4
            have hN4 := Lib.hid (hN1.out.only hO4 (fun hx => by have := (hfar _ hx).1; omega))
            have hO5 := Lib.hid (HO1.out.trans hO4 (fun x hx hl => by have := (hfar x hx).1; omega))
            clear hI4 hO4 hK4
            go_roundw
            case rel => exact ⟨k + 1, HKM.out, by go_num, hP4, hN4.out, hO5.out⟩
            case measure => (have := HKM.out; simp [intOf]; try omega)
        · obtain rfl : m = k := by omega
          have hk30 : decide ((m : Int) < (m : Int)) = false := by simp
          have hQ0 : OwnPlan wr wl.heap.size (fun x => x < wr.heap.size ∧ x ≠ PL) (.slice qa (keepL live m).length qc) (mixP l0 live 0) := by
            rw [mixP_zero, HL.out]
            exact hQ.weaken fun x hx => by have := hwr.size; omega
          have hB0 : Bools wr A m live := bools_only HBL.out ho (fun h0 => by simp; omega)
          have hN0 : Nums wr PL 30 (fun j => if j < m then (placeF live j : Int) else 0) := hN
          obtain ⟨z, hz⟩ : ∃ z, (keepL live m).length = z := ⟨_, rfl⟩
          have HZ : Hid ((keepL live l0.length).length = z) := by show _ = _; rw [HL.out]; exact hz
          rw [hz] at hQ0 hqc hkl ⊢
          have hwl : w.heap.size ≤ wl.heap.size := hooL.size
          obtain ⟨wm, rfl⟩ : ∃ wm : World, wm = wr := ⟨_, rfl⟩
          clear hQ hN ho hkm hk hz hsu
          go_wp2_with fail
          go_loopw [16] (fun vj wr => ∃ j : Nat, j ≤ z ∧ vj = .int .i64 j ∧ OwnPlan wr wl.heap.size (fun x => x < wr.heap.size ∧ x ≠ PL) (.slice qa z qc) (mixP l0 live j) ∧ Bools wr A m live ∧ Nums wr PL 30 (fun j => if j < m then (placeF live j : Int) else 0) ∧ Only [] w wr) (fun vj _ => z - (intOf vj).toNat)
          case atStart => exact ⟨0, Nat.zero_le _, rfl, hQ0, hB0, hN0, hwr⟩
          case round =>
            obtain ⟨wj, rfl⟩ : ∃ wj : World, wj = wr := ⟨_, rfl⟩
            clear hQ0 hB0 hN0 hwr
            obtain ⟨j, hj, rfl, hQ, hB, hN, ho⟩ := hrel
            by_cases hjz : j < z
            · obtain ⟨g, rfl⟩ : ∃ g, qa = some ⟨g, 0, none⟩ := by
                obtain ⟨N, k1, _⟩ := hQ
                rw [mixP_len l0 live j (by rw [HZ.out]; exact hj), HZ.out] at k1
                obtain ⟨a', c', e, _, _, h3⟩ := Row.form k1
                obtain ⟨g, rfl, _⟩ := h3 (by omega)
                injection e with e1
                exact ⟨g, e1⟩
              have hjk : j < (keepL live l0.length).length := by rw [HZ.out]; exact hjz
              have hml : j < (mixP l0 live j).length := by rw [mixP_len l0 live j (by rw [HZ.out]; exact hj)]; exact hjk
              obtain ⟨ua, uc, c0, c1, f1, hrd⟩ := hQ.at j hml
              rw [mixP_nd (by rw [HZ.out]; exact hj) hjk, if_neg (by omega)] at c1 hrd
              have horg := orig_ok hjk
              have hsubnd := Lib.hid (subP_nd (p := l0) hjk)
              generalize hi9 : orig live l0.length j = i9 at *
              have HI9 := Lib.hid hi9
              obtain ⟨horg1, horg2⟩ := horg
              have hnl : (ndOf l0 i9).length ≤ 30 := by have := HOK.out.needs i9; rw [HL.out] at this; omega
              have hcl := Lib.hid (hneed.out i9 horg1 horg2)
              have hnb := Lib.hid (HOK.out.need i9)
              obtain ⟨ra, rc, er, hrc⟩ := hrd.opt
              injection er with er1 _ er2
              subst er1
              have HMEM := Lib.hid (fun q (hq : q < (ndOf l0 i9).length) => (by rw [nth, List.getElem?_eq_getElem hq]; exact List.getElem_mem hq : nth (ndOf l0 i9) q ∈ ndOf l0 i9))
              have HRC := Lib.hid hrc
              have hgf := hQ.far g (by simp [own, Value.ownBlock])
              obtain ⟨mm, hmm⟩ : ∃ mm, (ndOf l0 i9).length = mm := ⟨_, rfl⟩
              rw [hmm] at c1 hnl HMEM HRC
              have HMM := Lib.hid hmm
              have HQ := Lib.hid hQ
              have HJZ := Lib.hid hjz
              clear hrc hrd er2 hmm hi9 hjk hml hQ c0 horg1 horg2
              go_wp2_with fail
              go_loopw [17, 18] (fun vn vy wr => ∃ (y : Nat) (nv : Value), nv = vn ∧ y ≤ mm ∧ vy = .int .i64 y ∧ Ints wr wj.heap.size nv (((ndOf l0 i9).take y).map fun y => ((placeF live y.toNat : Nat) : Int)) ∧ Only [] wj wr) (fun _ vy _ => mm - (intOf vy).toNat)
              case atStart => exact ⟨0, _, rfl, Nat.zero_le _, rfl, Ints.nil _ _, Only.refl _ _⟩
              case round =>
                obtain ⟨y, vn, hvn, hy, rfl, hI, hor⟩ := hrel
                subst hvn
                have hszr := hor.size
                have c1r := (hor.cell (p := ⟨g, j * 2 + 1, none⟩) (cell_lt c1) (by simp)).trans c1
                by_cases hym : y < mm
                · obtain ⟨rb, ro, rfl, crq⟩ := HRC.out y hym
                  have crq2 := (hor.cell (p := ⟨rb, ro + y, none⟩) (cell_lt crq) (by simp)).trans crq
                  have hmem := HMEM.out y hym
                  have hyl : y < (ndOf l0 i9).length := by rw [HMM.out]; exact hym
                  have hnq : (ndOf l0 i9)[y] = nth (ndOf l0 i9) y := by rw [nth, List.getElem?_eq_getElem hyl]; rfl
                  have htk : Hid (((ndOf l0 i9).take (y + 1)).map (fun y => ((placeF live y.toNat : Nat) : Int)) = ((ndOf l0 i9).take y).map (fun y => ((placeF live y.toNat : Nat) : Int)) ++ [((placeF live (nth (ndOf l0 i9) y).toNat : Nat) : Int)]) := by
                    show _ = _
                    rw [List.take_succ_eq_append_getElem hyl, List.map_append, hnq]; rfl
                  have hb := hnb.out _ hmem
                  have hlv := hcl.out _ hmem
                  rw [HL.out] at hb
                  generalize nth (ndOf l0 i9) y = b9 at *
                  obtain ⟨b9, rfl⟩ := Int.eq_ofNat_of_zero_le hb.1
                  rw [Int.toNat_natCast] at hlv htk
                  have hbm : b9 < m := by omega
                  have cL := ((hB.only hor (by simp)) b9 hbm).1
                  rw [hlv] at cL
                  have cPb := ((hN.only hor (by simp)) b9 (by omega)).1
                  rw [show (if b9 < m then (placeF live b9 : Int) else 0) = (placeF live b9 : Int) from if_pos hbm] at cPb
                  have d1 : decide ((b9 : Int) < 0) = false := by simp
                  have d2 : decide ((m : Int) ≤ (b9 : Int)) = false := by simp; omega
                  have hqy : (((ndOf l0 i9).take y).map fun y => ((placeF live y.toNat : Nat) : Int)).length = y := by rw [List.length_map, List.length_take]; omega
                  have HQY := Lib.hid hqy
                  have HYM := Lib.hid hym
                  generalize placeF live b9 = pb at *
                  obtain ⟨na, nc, rfl, _⟩ := hI.opt
                  rw [hqy] at hI ⊢
                  clear hqy crq hmem hyl hnq
                  go_wp2_with (at_builtin; refine wpList_push rfl (.tmp 123) (.tmp 127) rfl wr wj.heap.size _ _ wr.heap.size pb y hI HQY.out (by omega) hszr rfl rfl ((Only.refl [] wr).alloc _) (World.cell?_alloc_at _ _ _ _ rfl) ?_; intro g2 cap3 w6 hI4 hO4 hK4)
                  rw [← htk.out] at hI4
                  have ho4 := Lib.hid (hor.pushed hI (Nat.le_refl _) hO4)
                  clear hI hor hO4
                  go_roundw
                  case rel => exact ⟨y + 1, _, rfl, HYM.out, by go_num, hI4, ho4.out⟩
                  case measure => (have := HYM.out; simp [intOf]; try omega)
                · obtain rfl : mm = y := by omega
                  have htk : (ndOf l0 i9).take mm = ndOf l0 i9 := List.take_of_length_le (Nat.le_of_eq HMM.out)
                  rw [htk] at hI
                  have hlen := mixP_len l0 live j (by rw [HZ.out]; exact hj)
                  have hlen2 := mixP_len l0 live (j + 1) (by rw [HZ.out]; exact HJZ.out)
                  have hsz2 : (wr.setCell ⟨g, j * 2 + 1, none⟩ vn).heap.size = wr.heap.size := by simp [World.setCell]
                  have hPLw : PL < wj.heap.size := by omega
                  have hset : Only [g] wr (wr.setCell ⟨g, j * 2 + 1, none⟩ vn) := (Only.refl _ _).setCell (by simp) _
                  have hQ4 : Hid (OwnPlan (wr.setCell ⟨g, j * 2 + 1, none⟩ vn) wl.heap.size (fun x => x < (wr.setCell ⟨g, j * 2 + 1, none⟩ vn).heap.size ∧ x ≠ PL) (.slice (some ⟨g, 0, none⟩) z qc) (mixP l0 live (j + 1))) := by
                    show OwnPlan _ _ _ _ _
                    refine (HQ.out.same hor).setNeeds (F' := fun x => x < (wr.setCell ⟨g, j * 2 + 1, none⟩ vn).heap.size ∧ x ≠ PL) j (by rw [hlen, HZ.out]; exact HJZ.out) (by rw [hlen, hlen2]) (fun i hi => ?_) (fun i hi => ?_) hI.reads (fun x hx => ⟨by rw [hsz2]; omega, hx.2⟩) (fun _ x hx => ?_)
                    · rw [hlen] at hi
                      rw [mixP_wk (by rw [HZ.out]; exact hj) hi, mixP_wk (by rw [HZ.out]; exact HJZ.out) hi]
                    · rw [hlen] at hi
                      rw [mixP_nd (by rw [HZ.out]; exact HJZ.out) hi, mixP_nd (by rw [HZ.out]; exact hj) hi]
                      by_cases e : i = j
                      · subst e; rw [if_pos (by omega), if_pos rfl, HI9.out]
                      · rw [if_neg e]
                        by_cases e2 : i < j
                        · rw [if_pos e2, if_pos (by omega)]
                        · rw [if_neg e2, if_neg (by omega)]
                    · have := hI.own_lt x hx
                      refine ⟨⟨by rw [hsz2]; omega, by omega⟩, by omega⟩
                  have hB4 := Lib.hid (bools_only (hB.only hor (by simp)) hset (fun h0 => by simp; omega))
                  have hN4 := Lib.hid ((hN.only hor (by simp)).only hset (by simp; omega))
                  have ho4 := Lib.hid ((ho.trans hor (by simp)).trans hset (fun x hx hl => by simp at hx; omega))
                  have f1r := (hor.frozen (p := ⟨g, j * 2 + 1, none⟩) (cell_lt c1) (by simp)).trans f1
                  obtain ⟨na, nc, rfl, _⟩ := hI.opt
                  generalize (List.map (fun y : Int => ((placeF live y.toNat : Nat) : Int)) (ndOf l0 i9)).length = ln at *
                  clear hI hor hset
                  go_wp2
                  go_roundw
                  case rel => exact ⟨j + 1, HJZ.out, by go_num, hQ4.out, hB4.out, hN4.out, ho4.out⟩
                  case measure => (have := HJZ.out; simp [intOf]; try omega)
            · obtain rfl : z = j := by omega
              have hd : decide ((z : Int) < (z : Int)) = false := by simp
              have hall := mixP_all l0 live
              rw [HZ.out] at hall
              rw [hall] at hQ
              have hqp := hQ.plan
              have hsok := Lib.hid (subP_ok HOK.out hneed.out)
              have hpf := (planOk_iff _).1 hsok.out
              have hpc := plan_Check _ _ _ hqp
              rw [planCheck_ok hsok.out] at hpc
              replace hpc : Calls _ _ _ _ fun e w' => e = .returned (.tuple #[.int .i64 ((0 : Nat) : Int), .nilIface]) ∧ Only [] wj w' := hpc
              have hPQ := Lib.hid (fun w' (h : Only [] wj w') => hqp.same h)
              have hwb := subP_work HOK.out live
              have hsb := subP_span HOK.out hneed.out
              have hW1 := Lib.hid (fun w' (h : Only [] wj w') => depth_Work _ l0 w' (HP.out.same (ho.trans h (by simp))) HOK.out)
              have hW2 := Lib.hid (fun w' (h : Only [] wj w') => depth_Work _ _ w' (hqp.same h) hsok.out)
              have hS1 := Lib.hid (fun w' (h : Only [] wj w') => depth_Span _ l0 w' (HP.out.same (ho.trans h (by simp))) HOK.out)
              have hS2 := Lib.hid (fun w' (h : Only [] wj w') => depth_Span _ _ w' (hqp.same h) hsok.out)
              generalize workF (subP l0 live) = b1 at *
              generalize workF l0 = b2 at *
              generalize spanF (subP l0 live) = s1 at *
              generalize spanF l0 = s2 at *
              clear hQ hall hpf hB hN
              go_wp2_with fail
              refine hpc.mono ?_
              rintro e w5 ⟨rfl, ho5⟩
              clear hpc
              go_wp2_with fail
              refine (hW1.out w5 ho5).mono ?_
              rintro e w6 ⟨rfl, ho6⟩
              have ho6 := ho5.trans ho6 (by simp)
              go_wp2_with fail
              refine (hW2.out w6 ho6).mono ?_
              rintro e w7 ⟨rfl, ho7⟩
              have ho7 := ho6.trans ho7 (by simp)
              go_wp2_with fail
              refine (hS1.out w7 ho7).mono ?_
              rintro e w8 ⟨rfl, ho8⟩
              have ho8 := ho7.trans ho8 (by simp)
              go_wp2_with fail
              refine (hS2.out w8 ho8).mono ?_
              rintro e w9 ⟨rfl, ho9⟩
              have hoF := ho.trans (ho8.trans ho9 (by simp)) (by simp)
              have d1 : decide (b1 ≤ b2) = true := by simpa using hwb
              have d2 : decide (s1 ≤ s2) = true := by simpa using hsb
              clear hW1 hW2 hS1 hS2 ho5 ho6 ho7 ho8 ho9
              go_wp2
              go_ret
              exact ⟨rfl, hoF.below (Nat.le_refl _) (by simp)⟩
    · have hl1 := groups_Live_no _ _ v2 l0 n P (cancel C i) l2 w2 (HP.out.same hoo2) HH.out (HO.out.reads.same hoo2) heL
      generalize lErr l0 n P l2 = f at *
      clear heL
      go_wp2_with fail
      refine hl1.mono ?_
      rintro e w3 ⟨rfl, ho3⟩
      have hoo3 := hoo2.trans ho3 (by simp)
      clear hl1
      go_wp2
      go_ret
      exact ⟨rfl, hoo3.below (Nat.le_refl _) (by simp)⟩
  · have hc2 := groups_Cancel_no v1 n P C a3 w1 (Pairs.same HG.out ho1) he
    generalize grErr n P a3 = f at *
    clear he
    go_wp2_with fail
    refine hc2.mono ?_
    rintro e w2 ⟨rfl, ho2⟩
    have hoo2 := ho1.trans ho2 (by simp)
    clear hc2
    go_wp2
    go_ret
    exact ⟨rfl, hoo2.below (Nat.le_refl _) (by simp)⟩

end Go.Proofs.Ytbpkndflkbcmaaa.topCancelled
