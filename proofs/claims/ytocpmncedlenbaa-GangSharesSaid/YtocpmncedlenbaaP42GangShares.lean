/-
  Contract of a gang's step.
-/
import Derived.Test.YtocpmncedlenbaaP41GangShares
import Derived.Test.YtocpmncedlenbaaP35GangShares
namespace Go.Proofs.Ytocpmncedlenbaa
open Go.RowKit Go.Deep

theorem gang_work {w : World} {F : Nat → Prop} {q : GPar} {p : PlanL} {room m : Nat} {s : GSt} (h : GangIs w q p room m s F) (H : GInv p room m s) {i : Nat} (hi : i < m) (ht : 0 ≤ (s.ws i).task) :
    Calls Try.prog 22 #[.pointer (some ⟨q.G, 0, none⟩), .int .i64 i] w fun e w' => ∃ v F', e = .returned (.tuple #[v, .nilIface]) ∧ OwnDeeds w' w.heap.size v (gWork p room s i).2 ∧
      GRel w F w' q p room m (gWork p room s i).1 F' := by
  by_cases hl : 1 < (s.ws i).left
  · refine (gang_unit h H hi ht hl).mono ?_
    rintro e w' ⟨rfl, hg⟩
    have e : gWork p room s i = (⟨s.done, s.spill, s.row, upW s.ws i ⟨(s.ws i).near, (s.ws i).ring, (s.ws i).task, (s.ws i).left - 1⟩⟩, []) := if_pos hl
    rw [e]
    exact ⟨_, F, rfl, OwnDeeds.nil _ _, hg⟩
  · exact gang_finish h H hi ht hl

theorem pick_cases {p : PlanL} {room m : Nat} {s : GSt} (H : GInv p room m s) {h : Nat} (pick : Nat) (hm : h < m) : gPick room m s h pick = ⟨-1, 0, 0, s⟩ ∨ ∃ k : Nat, (gPick room m s h pick).x = (k : Int) ∧ k < p.length := by
  have ge : ∀ x ∈ heldL m s, ∃ k : Nat, x = (k : Int) ∧ k < p.length := fun x hx => by obtain ⟨i, e, hi⟩ := H.mem hx; exact ⟨i, e, (readyL_mem.1 hi).1⟩
  by_cases hn : 0 ≤ (s.ws h).near
  · rw [gPick_near hn]
    exact .inr (ge _ (held_own hm (by unfold ownW; rw [nearL_pos hn]; simp)))
  · have hn' : (s.ws h).near < 0 := by omega
    by_cases hg : (s.ws h).ring = []
    · cases hs : s.spill with
      | cons x rest => rw [gPick_spill hn' hg hs]; exact .inr (ge x (by unfold heldL; rw [hs]; simp))
      | nil =>
        by_cases hh : pick % m = h
        · exact .inl (gPick_self hn' hg hs hh)
        · cases hl : (s.ws (pick % m)).ring.take (halfOf (s.ws (pick % m)).ring) with
          | nil => exact .inl (gPick_none hn' hg hs hh hl)
          | cons x xs =>
            rw [gPick_rob hn' hg hs hh hl]
            exact .inr (ge x (held_own (Nat.mod_lt pick (by omega)) (show x ∈ ownW (s.ws (pick % m)) by
              have : x ∈ x :: xs := by simp
              rw [← hl] at this
              unfold ownW
              simp [List.mem_of_mem_take this])))
    · rw [gPick_ring hn' hg]
      exact .inr (ge _ (held_own hm (show (s.ws h).ring.getLastD 0 ∈ ownW (s.ws h) from List.mem_append.2 (.inl (List.mem_append.2 (.inl (getLastD_mem _ hg)))))))

theorem deed_kept {W4 w5 : World} {F' : Nat → Prop} {B base : Nat} (d : Dd) (h : W4.heap[B]? = some (.cells #[.int .i64 d.what, .int .i64 d.hand, .int .i64 d.task, .int .i64 d.other] 36 (0, 0))) (hb : base ≤ B) (ho : OnlyF F' W4 w5) (hF : ¬ F' B) : OwnDeeds w5 base (.slice (some ⟨B, 0, none⟩) 1 1) [d] :=
  (deed_one d h hb).onlyF ho (fun x hx => by
    obtain rfl : x = B := by simpa [own, Value.ownBlock] using hx
    exact hF)

set_option maxRecDepth 100000 in
set_option maxHeartbeats 4000000 in
theorem gang_step {w : World} {F : Nat → Prop} {q : GPar} {p : PlanL} {room m : Nat} {s : GSt} (h : GangIs w q p room m s F) (H : GInv p room m s) {i : Nat} (hi : i < m) (pick : Nat) :
    Calls Try.prog 6 #[.pointer (some ⟨q.G, 0, none⟩), .int .i64 i, .int .i64 pick] w fun e w' => ∃ v F', e = .returned (.tuple #[v, .nilIface]) ∧ OwnDeeds w' w.heap.size v (gStep p room m s i pick).2 ∧
      GRel w F w' q p room m (gStep p room m s i pick).1 F' := by
  have R := GRel.start h
  have HR := Lib.hid R
  obtain ⟨hC, _, hrow, hwk, _, m1, m6, mc, cm, _, _, hok⟩ := R.cells
  have c4 := hC.cell 4 _ rfl
  have c3 := hC.cell 3 _ rfl
  have cr := hrow i hi
  have d1 := (hwk i hi).cell 1 _ rfl
  by_cases hr : (i : Int) ∈ s.row
  · have haw := R.awake hi true (by simp [hr])
    have e : gStep p room m s i pick = (s, []) := if_pos hr
    rw [e]
    clear h H R hC hrow hwk e hr hok
    go_enter Try.func6, Try.ntmps6
    go_wp2_with fail
    refine haw.mono ?_
    rintro e w1 ⟨rfl, rfl⟩
    clear haw
    go_wp2
    go_ret2
    exact ⟨_, F, rfl, OwnDeeds.nil _ _, HR.out⟩
  · have haw := R.awake hi false (by simp [hr])
    by_cases ht : 0 ≤ (s.ws i).task
    · have hw := gang_work h H hi ht
      have e : gStep p room m s i pick = gWork p room s i := by unfold gStep; rw [if_neg hr, if_pos ht]
      rw [e]
      obtain ⟨Z, hZ⟩ : ∃ Z, gWork p room s i = Z := ⟨_, rfl⟩
      rw [hZ] at hw ⊢
      obtain ⟨t, htk⟩ : ∃ t, (s.ws i).task = t := ⟨_, rfl⟩
      rw [htk] at d1 ht
      clear h H R hC hrow hwk e hr hok hZ htk
      go_enter Try.func6, Try.ntmps6
      go_wp2_with fail
      refine haw.mono ?_
      rintro e w1 ⟨rfl, rfl⟩
      clear haw
      go_wp2_with fail
      refine hw.mono ?_
      rintro e w2 ⟨v, F', rfl, hD, hG⟩
      have HD := Lib.hid (And.intro hD hG)
      clear hw hD hG
      go_wp2
      go_ret2
      exact ⟨_, F', rfl, HD.out.1, HD.out.2⟩
    · have hf := gang_find h H hi pick
      have hpc := pick_cases H pick hi
      have e : gStep p room m s i pick = gHave p s i (gPick room m s i pick) := by unfold gStep; rw [if_neg hr, if_neg ht, gFind_pick H hi]
      rw [e]
      have HL := Lib.hid h.lt
      have HRL := Lib.hid H.row_len
      have HNR := Lib.hid hr
      obtain ⟨t, htk⟩ : ∃ t, (s.ws i).task = t := ⟨_, rfl⟩
      rw [htk] at d1 ht
      have ht' : t < 0 := by omega
      rcases hpc with hp | ⟨k, hk, hkl⟩
      · have e2 : gHave p s i (gPick room m s i pick) = gSleep s i := by rw [hp]; unfold gHave; rw [if_pos (show (-1 : Int) < 0 by omega)]
        rw [e2]
        rw [hp] at hf
        clear h H R hC hrow hwk e hr hok htk e2 hp ht
        go_enter Try.func6, Try.ntmps6
        go_wp2_with fail
        refine haw.mono ?_
        rintro e w1 ⟨rfl, rfl⟩
        clear haw
        go_wp2_with fail
        refine hf.mono ?_
        rintro e w2 ⟨F', rfl, hG⟩
        obtain ⟨W3, hW3⟩ : ∃ W3, w2.alloc (.cells #[.int .i64 5, .int .i64 (i : Int), .int .i64 0, .int .i64 0] 36) = W3 := ⟨_, rfl⟩
        have ho3 : Only [] w2 W3 := by rw [← hW3]; exact (Only.refl [] w2).alloc _
        have hG3 := hG.same ho3
        have hD3 : Cells W3 w2.heap.size [.int .i64 5, .int .i64 (i : Int), .int .i64 0, .int .i64 0] := by rw [← hW3]; exact Cells.new w2 _ _
        have hz3 : W3.heap.size = w2.heap.size + 1 := by rw [← hW3]; simp
        have hlt := hG.gang.lt
        have HD3 := Lib.hid (fun (W : World) (ho : OnlyF F' W3 W) => (by
          obtain ⟨T, hT, ho⟩ := ho
          exact hD3.only ho (fun hx => by have := hlt _ (hT _ hx); omega) : Cells W w2.heap.size [.int .i64 5, .int .i64 (i : Int), .int .i64 0, .int .i64 0]))
        have HSL := Lib.hid (fun (W : World) (ho : Only [] W3 W) => ((GRel.start hG3.gang).same ho).sleep hi HNR.out (by have := HRL.out; omega))
        have hC3 := hG3.cells
        have k3 := hC3.1.cell 3 _ rfl
        have k3b : (W3.alloc (.cells #[.int .i64 5, .int .i64 (i : Int), .int .i64 0, .int .i64 0] 36)).cell? ⟨q.G, 3, none⟩ = some (.pointer (some ⟨q.K, 0, none⟩)) :=
          (hC3.1.only ((Only.refl [] W3).alloc _) (by simp)).cell 3 _ rfl
        have e0 := hD3.cell 0 _ rfl
        have e1 := hD3.cell 1 _ rfl
        have e2 := hD3.cell 2 _ rfl
        have e3 := hD3.cell 3 _ rfl
        have HG3 := Lib.hid hG3
        have HLT := Lib.hid hlt
        have HW3 := Lib.hid hW3
        have HZ3 := Lib.hid hz3
        clear hf hG hG3 hD3 hlt hC3 hW3 ho3 hz3
        go_wp2_with fail
        rw [HW3.out]
        go_region_law (first | (go_simp; go_at_call 24; refine (HSL.out _ (by first | exact Only.refl _ _ | exact (Only.refl _ _).drew | exact (Only.refl _ _).drewN _ | exact ((Only.refl _ _).alloc _).drew | exact ((Only.refl _ _).alloc _).drewN _)).mono ?_; rintro e w5 ⟨rfl, F5, hS5, hk5, ho5⟩; have x0 := (HD3.out _ hS5.only).cell 0 _ rfl; have x1 := (HD3.out _ hS5.only).cell 1 _ rfl; have x2 := (HD3.out _ hS5.only).cell 2 _ rfl; have x3 := (HD3.out _ hS5.only).cell 3 _ rfl))
        all_goals
          have hfin := Lib.hid (HG3.out.trans hS5)
          have hba := HG3.out.only.size
          have hFB : ¬ F' W3.heap.size := fun hx => by have := HLT.out _ hx; have := HZ3.out; omega
          have hHO := Lib.hid ho5
          have hw5 := hS5.only.size
          clear hS5 hk5 ho5 x0 x1 x2 x3 e0 e1 e2 e3 k3 k3b HSL
          go_wp2
          go_ret2
          first
            | (refine ⟨_, F5, rfl, deed_kept (B := W3.heap.size) ⟨5, (i : Int), 0, 0⟩ ?_ hba hHO.out hFB, hfin.out⟩; exact heap_alloc_new W3 _)
            | exact ⟨_, F5, rfl, deed_one (B := w5.heap.size) ⟨5, (i : Int), 0, 0⟩ (heap_alloc_new w5 _) (by omega), hfin.out.same ((Only.refl [] w5).alloc _)⟩
      · obtain ⟨r, hrr⟩ : ∃ r, gPick room m s i pick = r := ⟨_, rfl⟩
        rw [hrr] at hf hk ⊢
        obtain ⟨x, wh, ot, S1⟩ := r
        obtain rfl : x = (k : Int) := hk
        have e2 : gHave p s i ⟨(k : Int), wh, ot, S1⟩ = (⟨S1.done, S1.spill, S1.row, upW S1.ws i ⟨(S1.ws i).near, (S1.ws i).ring, (k : Int), wkOf p k⟩⟩, [⟨wh, (i : Int), (k : Int), ot⟩]) := by
          unfold gHave
          rw [if_neg (show ¬ (k : Int) < 0 by omega)]
          simp only [gTake, Int.toNat_natCast]
        rw [e2]
        clear h H R hC hrow hwk e hr hok htk e2 hrr ht
        go_enter Try.func6, Try.ntmps6
        go_wp2_with fail
        refine haw.mono ?_
        rintro e w1 ⟨rfl, rfl⟩
        clear haw
        go_wp2_with fail
        refine hf.mono ?_
        rintro e w2 ⟨F', rfl, hG⟩
        have hG : GRel w F w2 q p room m S1 F' := hG
        obtain ⟨hC, hP, _, hwk2, _⟩ := hG.cells
        have c0 := hC.cell 0 _ rfl
        have hcw := hwk2 i hi
        have y1 := hcw.cell 1 _ rfl
        have y2 := hcw.cell 2 _ rfl
        have g1 := hcw.free 1 _ rfl
        have g2 := hcw.free 2 _ rfl
        obtain ⟨pa, pc, hpv, hpl, hpm, hpt⟩ := hP.task
        obtain ⟨pb, po, u, hpa, z0, _⟩ := hpt k hkl
        subst hpa
        rw [hpv] at c0
        have hal := (Only.refl [] w2).alloc (.cells #[.int .i64 wh, .int .i64 (i : Int), .int .i64 0, .int .i64 ot] 36)
        have c0' := (hC.only hal (by simp)).cell 0 _ rfl
        rw [hpv] at c0'
        have y1' := (hcw.only hal (by simp)).cell 1 _ rfl
        have y2' := (hcw.only hal (by simp)).cell 2 _ rfl
        have g1' := (hcw.only hal (by simp)).free 1 _ rfl
        have g2' := (hcw.only hal (by simp)).free 2 _ rfl
        have z0' := (hal.cell (p := ⟨pb, po + k * 2, none⟩) (cell_lt z0) (by simp)).trans z0
        have z0'' : w2.cell? ⟨pb, po + k * 2 + 0, none⟩ = some (.int .i64 (wkOf p k)) := z0
        have hne1 : ¬ q.WB i = w2.heap.size := by have : q.WB i < w2.heap.size := cell_lt y1; omega
        have hne2 : ¬ w2.heap.size = q.WB i := fun e => hne1 e.symm
        have HG := Lib.hid hG
        have HCW := Lib.hid hcw
        have HLT := Lib.hid hG.gang.lt
        obtain ⟨n, hn⟩ : ∃ n, p.length = n := ⟨_, rfl⟩
        rw [hn] at c0 c0' hkl hpl
        clear hf hG hC hP hwk2 hcw hpv hpt hal hn
        go_wp2_with fail
        go_ret2
        have hal := (Only.refl [] w2).alloc (.cells #[.int .i64 wh, .int .i64 (i : Int), .int .i64 0, .int .i64 ot] 36)
        have hwz : w.heap.size ≤ w2.heap.size := HG.out.only.size
        have h5 := ((HG.out.same hal).set hi (((HCW.out.only hal (by simp)).set 1 (.int .i64 (k : Int))).set 2 (.int .i64 (wkOf p k))) (((Only.refl [q.WB i] _).setCell (by simp) _).setCell (by simp) _)).fresh
          ((Only.refl [w2.heap.size] _).setCell (p := ⟨w2.heap.size, 2, none⟩) (by simp) (.int .i64 (k : Int))) (fun x hx => by
            obtain rfl : x = w2.heap.size := by simpa using hx
            exact ⟨fun hF => by have := HLT.out _ hF; omega, hwz⟩)
        exact ⟨_, F', rfl, deed_one (B := w2.heap.size + 1) ⟨wh, (i : Int), (k : Int), ot⟩ (heap_alloc_at _ _ _ (by simp [World.setCell])) (by omega), h5.same ((Only.refl [] _).alloc _)⟩

end Go.Proofs.Ytocpmncedlenbaa
