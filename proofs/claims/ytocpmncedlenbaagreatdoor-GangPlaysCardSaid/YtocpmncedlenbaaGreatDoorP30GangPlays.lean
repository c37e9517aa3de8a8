/-
  Plans and lists written out in the text.
  Contract of a gang's step.
-/
import Derived.Test.YtocpmncedlenbaaGreatDoorP3GangPlays
import Derived.Test.YtocpmncedlenbaaGreatDoorP29GangPlays
namespace Go.Proofs.YtocpmncedlenbaaGreatDoor
open Go.RowKit

theorem lit_ints {W : World} {b : Nat} {cs : Array Value} {t : TypeId} (h : W.heap[b]? = some (.cells cs t (0, 0))) (l : List Int) (hcs : cs.toList = l.map (Value.int .i64)) (hn : l.length ≤ 1000) :
    Reads W (.slice (some ⟨b, 0, none⟩) l.length l.length) l := by
  by_cases h0 : l = []
  · subst h0
    exact .inl ⟨rfl, .inr ⟨_, 0, rfl, by unfold maxLen; omega⟩⟩
  · refine .inr ⟨List.length_pos_iff.2 h0, b, 0, l.length, rfl, Nat.le_refl _, by unfold maxLen; omega, fun i hi => ?_⟩
    rw [Nat.zero_add, cell_of_row W b i cs t (0, 0) h, ← Array.getElem?_toList, hcs]
    simp [nth, hi]

theorem lit_plan {W : World} {B : Nat} {cs : Array Value} {t : TypeId} (h : W.heap[B]? = some (.cells cs t (0, 0))) (p : PlanL) (N : Nat → Value) (hcs : cs.toList = flatP p N p.length) (hn : p.length ≤ 1000)
    (hr : ∀ i, i < p.length → Reads W (N i) (ndOf p i)) : InPlan W (.slice (some ⟨B, 0, none⟩) p.length p.length) p := by
  refine ⟨N, ⟨_, p.length, rfl, Nat.le_refl _, by unfold maxLen; omega, (fun h => by cases h), fun i hi => ⟨B, 0, rfl, ?_, ?_⟩⟩, hr, fun _ _ _ => trivial, fun _ _ _ _ _ => trivial⟩
  · rw [Nat.zero_add, cell_of_row W B _ cs t (0, 0) h, ← Array.getElem?_toList, hcs]
    exact flatP_0 _ _ _ _ hi
  · rw [Nat.zero_add, cell_of_row W B _ cs t (0, 0) h, ← Array.getElem?_toList, hcs]
    exact flatP_1 _ _ _ _ hi

theorem heap_alloc_old (w : World) (o : Obj) (k : Nat) (h : k < w.heap.size) : (w.alloc o).heap[k]? = w.heap[k]? := Below.heap_alloc w o k h
theorem heap_alloc_at (w : World) (o : Obj) (k : Nat) (h : k = w.heap.size) : (w.alloc o).heap[k]? = some o := by subst h; exact heap_alloc_new w o

/-- Two tasks of one unit each, the second behind the first. -/
theorem lit_two (W : World) : InPlan ((W.alloc (.cells #[.int .i64 0] 3)).alloc (.cells #[.int .i64 1, .slice none 0 0, .int .i64 1, .slice (some ⟨W.heap.size, 0, none⟩) 1 1] 97)) (.slice (some ⟨W.heap.size + 1, 0, none⟩) 2 2) [(1, []), (1, [0])] := by
  refine lit_plan (heap_alloc_at _ _ _ (by simp)) [(1, []), (1, [0])] (fun i => if i = 0 then .slice none 0 0 else .slice (some ⟨W.heap.size, 0, none⟩) 1 1) ?_ (by simp) ?_
  · rfl
  · intro i hi
    have : i = 0 ∨ i = 1 := by simp at hi; omega
    rcases this with rfl | rfl
    · exact .inl ⟨rfl, .inl rfl⟩
    · refine lit_ints (cs := #[.int .i64 0]) (t := 3) ?_ [0] rfl (by simp)
      rw [heap_alloc_old _ _ _ (by simp)]
      exact heap_alloc_new _ _

end Go.Proofs.YtocpmncedlenbaaGreatDoor

namespace Go.Proofs.YtocpmncedlenbaaGreatDoor
open Go.RowKit Go.Deep

theorem own_one {B n c x : Nat} (h : x ∈ own (.slice (some ⟨B, 0, none⟩) n c)) : x = B := by simpa [own, Value.ownBlock] using h

theorem gang_work {w : World} {F : Nat → Prop} {q : GPar} {p : PlanL} {room m : Nat} {s : GSt} (h : GangIs w q p room m s F) (H : GInv p room m s) {i : Nat} (hi : i < m) (ht : 0 ≤ (s.ws i).task) :
    Calls Tryz.prog 84 #[.pointer (some ⟨q.G, 0, none⟩), .int .i64 i] w fun e w' => ∃ v F', e = .returned (.tuple #[v, .nilIface]) ∧ OwnDeeds w' w.heap.size v (gWork p room s i).2 ∧
      GRel w F w' q p room m (gWork p room s i).1 F' ∧ ∀ x ∈ own v, ¬ F' x := by
  by_cases hl : 1 < (s.ws i).left
  · refine (gang_unit h H hi ht hl).mono ?_
    rintro e w' ⟨rfl, hg⟩
    have e : gWork p room s i = (⟨s.done, s.spill, s.row, upW s.ws i ⟨(s.ws i).near, (s.ws i).ring, (s.ws i).task, (s.ws i).left - 1⟩⟩, []) := if_pos hl
    rw [e]
    exact ⟨_, F, rfl, OwnDeeds.nil _ _, hg, fun x hx => by simp [own, Value.ownBlock] at hx⟩
  · exact gang_finish h H hi ht hl

theorem pick_cases {p : PlanL} {room m : Nat} {s : GSt} (H : GInv p room m s) {h : Nat} (pick : Nat) (hm : h < m) : gPick room m s h pick = ⟨-1, 0, 0, s⟩ ∨ ∃ k : Nat, (gPick room m s h pick).x = (k : Int) ∧ k < p.length := by
  have ge : ∀ x ∈ heldL m s, ∃ k : Nat, x = (k : Int) ∧ k < p.length := fun x hx => by obtain ⟨i, e, hi⟩ := H.mem hx; exact ⟨i, e, (readyL_mem.1 hi).1⟩
  by_cases hn : 0 ≤ (s.ws h).near
  · rw [gPick_near hn]
    exact .inr (ge _ (held_own hm (by unfold ownW; rw [nearL_pos hn]; simp)))
  · have hn' : (s.ws h).near < 0 := by omega
    by_cases hg : (s.ws h).ring = []
    · cases hs : s.spill with
      | cons x rest => rw [gPick_spill hn' hg hs]; exact .inr (ge x (by unfold heldL; rw [hs]; simp))
      | nil =>
        by_cases hh : pick % m = h
        · exact .inl (gPick_self hn' hg hs hh)
        · cases hl : (s.ws (pick % m)).ring.take (halfOf (s.ws (pick % m)).ring) with
          | nil => exact .inl (gPick_none hn' hg hs hh hl)
          | cons x xs =>
            rw [gPick_rob hn' hg hs hh hl]
            exact .inr (ge x (held_own (Nat.mod_lt pick (by omega)) (show x ∈ ownW (s.ws (pick % m)) by
              have : x ∈ x :: xs := by simp
              rw [← hl] at this
              unfold ownW
              simp [List.mem_of_mem_take this])))
    · rw [gPick_ring hn' hg]
      exact .inr (ge _ (held_own hm (show (s.ws h).ring.getLastD 0 ∈ ownW (s.ws h) from List.mem_append.2 (.inl (List.mem_append.2 (.inl (getLastD_mem _ hg)))))))

theorem deed_kept {W4 w5 : World} {F' : Nat → Prop} {B base : Nat} (d : Dd) (h : W4.heap[B]? = some (.cells #[.int .i64 d.what, .int .i64 d.hand, .int .i64 d.task, .int .i64 d.other] 88 (0, 0))) (hb : base ≤ B) (ho : OnlyF F' W4 w5) (hF : ¬ F' B) : OwnDeeds w5 base (.slice (some ⟨B, 0, none⟩) 1 1) [d] :=
  (deed_one d h hb).onlyF ho (fun x hx => by
    obtain rfl : x = B := by simpa [own, Value.ownBlock] using hx
    exact hF)

set_option maxRecDepth 100000 in
set_option maxHeartbeats 4000000 in
theorem gang_step {w : World} {F : Nat → Prop} {q : GPar} {p : PlanL} {room m : Nat} {s : GSt} (h : GangIs w q p room m s F) (H : GInv p room m s) {i : Nat} (hi : i < m) (pick : Nat) :
    Calls Tryz.prog 21 #[.pointer (some ⟨q.G, 0, none⟩), .int .i64 i, .int .i64 pick] w fun e w' => ∃ v F', e = .returned (.tuple #[v, .nilIface]) ∧ OwnDeeds w' w.heap.size v (gStep p room m s i pick).2 ∧
      GRel w F w' q p room m (gStep p room m s i pick).1 F' ∧ ∀ x ∈ own v, ¬ F' x := by
  have R := GRel.start h
  have HR := Lib.hid R
  obtain ⟨hC, _, hrow, hwk, _, m1, m6, mc, cm, _, _, hok⟩ := R.cells
  have c4 := hC.cell 4 _ rfl
  have c3 := hC.cell 3 _ rfl
  have cr := hrow i hi
  have d1 := (hwk i hi).cell 1 _ rfl
  by_cases hr : (i : Int) ∈ s.row
  · have haw := R.awake hi true (by simp [hr])
    have e : gStep p room m s i pick = (s, []) := if_pos hr
    rw [e]
    clear h H R hC hrow hwk e hr hok
    go_enter Tryz.func21, Tryz.ntmps21
    go_wp2_with fail
    refine haw.mono ?_
    rintro e w1 ⟨rfl, rfl⟩
    clear haw
    go_wp2
    go_ret2
    exact ⟨_, F, rfl, OwnDeeds.nil _ _, HR.out, fun x hx => by simp [own, Value.ownBlock] at hx⟩
  · have haw := R.awake hi false (by simp [hr])
    by_cases ht : 0 ≤ (s.ws i).task
    · have hw := gang_work h H hi ht
      have e : gStep p room m s i pick = gWork p room s i := by unfold gStep; rw [if_neg hr, if_pos ht]
      rw [e]
      obtain ⟨Z, hZ⟩ : ∃ Z, gWork p room s i = Z := ⟨_, rfl⟩
      rw [hZ] at hw ⊢
      obtain ⟨t, htk⟩ : ∃ t, (s.ws i).task = t := ⟨_, rfl⟩
      rw [htk] at d1 ht
      clear h H R hC hrow hwk e hr hok hZ htk
      go_enter Tryz.func21, Tryz.ntmps21
      go_wp2_with fail
      refine haw.mono ?_
      rintro e w1 ⟨rfl, rfl⟩
      clear haw
      go_wp2_with fail
      refine hw.mono ?_
      rintro e w2 ⟨v, F', rfl, hD, hG, hN⟩
      have HD := Lib.hid (And.intro hD (And.intro hG hN))
      clear hw hD hG hN
      go_wp2
      go_ret2
      exact ⟨_, F', rfl, HD.out.1, HD.out.2.1, HD.out.2.2⟩
    · have hf := gang_find h H hi pick
      have hpc := pick_cases H pick hi
      have e : gStep p room m s i pick = gHave p s i (gPick room m s i pick) := by unfold gStep; rw [if_neg hr, if_neg ht, gFind_pick H hi]
      rw [e]
      have HL := Lib.hid h.lt
      have HRL := Lib.hid H.row_len
      have HNR := Lib.hid hr
      obtain ⟨t, htk⟩ : ∃ t, (s.ws i).task = t := ⟨_, rfl⟩
      rw [htk] at d1 ht
      have ht' : t < 0 := by omega
      rcases hpc with hp | ⟨k, hk, hkl⟩
      · have e2 : gHave p s i (gPick room m s i pick) = gSleep s i := by rw [hp]; unfold gHave; rw [if_pos (show (-1 : Int) < 0 by omega)]
        rw [e2]
        rw [hp] at hf
        clear h H R hC hrow hwk e hr hok htk e2 hp ht
        go_enter Tryz.func21, Tryz.ntmps21
        go_wp2_with fail
        refine haw.mono ?_
        rintro e w1 ⟨rfl, rfl⟩
        clear haw
        go_wp2_with fail
        refine hf.mono ?_
        rintro e w2 ⟨F', rfl, hG⟩
        obtain ⟨W3, hW3⟩ : ∃ W3, w2.alloc (.cells #[.int .i64 5, .int .i64 (i : Int), .int .i64 0, .int .i64 0] 88) = W3 := ⟨_, rfl⟩
        have ho3 : Only [] w2 W3 := by rw [← hW3]; exact (Only.refl [] w2).alloc _
        have hG3 := hG.same ho3
        have hD3 : Cells W3 w2.heap.size [.int .i64 5, .int .i64 (i : Int), .int .i64 0, .int .i64 0] := by rw [← hW3]; exact Cells.new w2 _ _
        have hz3 : W3.heap.size = w2.heap.size + 1 := by rw [← hW3]; simp
        have hlt := hG.gang.lt
        have HD3 := Lib.hid (fun (W : World) (ho : OnlyF F' W3 W) => (by
          obtain ⟨T, hT, ho⟩ := ho
          exact hD3.only ho (fun hx => by have := hlt _ (hT _ hx); omega) : Cells W w2.heap.size [.int .i64 5, .int .i64 (i : Int), .int .i64 0, .int .i64 0]))
        have HSL := Lib.hid (fun (W : World) (ho : Only [] W3 W) => ((GRel.start hG3.gang).same ho).sleep hi HNR.out (by have := HRL.out; omega))
        have hC3 := hG3.cells
        have k3 := hC3.1.cell 3 _ rfl
        have k3b : (W3.alloc (.cells #[.int .i64 5, .int .i64 (i : Int), .int .i64 0, .int .i64 0] 88)).cell? ⟨q.G, 3, none⟩ = some (.pointer (some ⟨q.K, 0, none⟩)) :=
          (hC3.1.only ((Only.refl [] W3).alloc _) (by simp)).cell 3 _ rfl
        have e0 := hD3.cell 0 _ rfl
        have e1 := hD3.cell 1 _ rfl
        have e2 := hD3.cell 2 _ rfl
        have e3 := hD3.cell 3 _ rfl
        have HG3 := Lib.hid hG3
        have HLT := Lib.hid hlt
        have HW3 := Lib.hid hW3
        have HZ3 := Lib.hid hz3
        clear hf hG hG3 hD3 hlt hC3 hW3 ho3 hz3
        go_wp2_with fail
        rw [HW3.out]
        go_region_law (first | (go_simp; go_at_call 86; refine (HSL.out _ (by first | exact Only.refl _ _ | exact (Only.refl _ _).drew | exact (Only.refl _ _).drewN _ | exact ((Only.refl _ _).alloc _).drew | exact ((Only.refl _ _).alloc _).drewN _)).mono ?_; rintro e w5 ⟨rfl, F5, hS5, hk5, ho5⟩; have x0 := (HD3.out _ hS5.only).cell 0 _ rfl; have x1 := (HD3.out _ hS5.only).cell 1 _ rfl; have x2 := (HD3.out _ hS5.only).cell 2 _ rfl; have x3 := (HD3.out _ hS5.only).cell 3 _ rfl))
        all_goals
          have hfin := Lib.hid (HG3.out.trans hS5)
          have hba := HG3.out.only.size
          have hFB : ¬ F' W3.heap.size := fun hx => by have := HLT.out _ hx; have := HZ3.out; omega
          have hHO := Lib.hid ho5
          have hw5 := hS5.only.size
          have HLT5 := Lib.hid hS5.gang.lt
          have HK5 := Lib.hid hk5
          clear hS5 hk5 ho5 x0 x1 x2 x3 e0 e1 e2 e3 k3 k3b HSL
          go_wp2
          go_ret2
          first
            | (refine ⟨_, F5, rfl, deed_kept (B := W3.heap.size) ⟨5, (i : Int), 0, 0⟩ ?_ hba hHO.out hFB, hfin.out, fun x hx hF => ?_⟩
               · exact heap_alloc_new W3 _
               · obtain rfl : x = W3.heap.size := own_one (n := 1) (c := 1) hx
                 rcases HK5.out _ hF with h | h
                 · exact hFB h
                 · simp at h; try omega)
            | exact ⟨_, F5, rfl, deed_one (B := w5.heap.size) ⟨5, (i : Int), 0, 0⟩ (heap_alloc_new w5 _) (by omega), hfin.out.same ((Only.refl [] w5).alloc _), fun x hx hF => by
                obtain rfl : x = w5.heap.size := own_one (n := 1) (c := 1) hx
                have := HLT5.out _ hF; omega⟩
      · obtain ⟨r, hrr⟩ : ∃ r, gPick room m s i pick = r := ⟨_, rfl⟩
        rw [hrr] at hf hk ⊢
        obtain ⟨x, wh, ot, S1⟩ := r
        obtain rfl : x = (k : Int) := hk
        have e2 : gHave p s i ⟨(k : Int), wh, ot, S1⟩ = (⟨S1.done, S1.spill, S1.row, upW S1.ws i ⟨(S1.ws i).near, (S1.ws i).ring, (k : Int), wkOf p k⟩⟩, [⟨wh, (i : Int), (k : Int), ot⟩]) := by
          unfold gHave
          rw [if_neg (show ¬ (k : Int) < 0 by omega)]
          simp only [gTake, Int.toNat_natCast]
        rw [e2]
        clear h H R hC hrow hwk e hr hok htk e2 hrr ht
        go_enter Tryz.func21, Tryz.ntmps21
        go_wp2_with fail
        refine haw.mono ?_
        rintro e w1 ⟨rfl, rfl⟩
        clear haw
        go_wp2_with fail
        refine hf.mono ?_
        rintro e w2 ⟨F', rfl, hG⟩
        have hG : GRel w F w2 q p room m S1 F' := hG
        obtain ⟨hC, hP, _, hwk2, _⟩ := hG.cells
        have c0 := hC.cell 0 _ rfl
        have hcw := hwk2 i hi
        have y1 := hcw.cell 1 _ rfl
        have y2 := hcw.cell 2 _ rfl
        have g1 := hcw.free 1 _ rfl
        have g2 := hcw.free 2 _ rfl
        obtain ⟨pa, pc, hpv, hpl, hpm, hpt⟩ := hP.task
        obtain ⟨pb, po, u, hpa, z0, _⟩ := hpt k hkl
        subst hpa
        rw [hpv] at c0
        have hal := (Only.refl [] w2).alloc (.cells #[.int .i64 wh, .int .i64 (i : Int), .int .i64 0, .int .i64 ot] 88)
        have c0' := (hC.only hal (by simp)).cell 0 _ rfl
        rw [hpv] at c0'
        have y1' := (hcw.only hal (by simp)).cell 1 _ rfl
        have y2' := (hcw.only hal (by simp)).cell 2 _ rfl
        have g1' := (hcw.only hal (by simp)).free 1 _ rfl
        have g2' := (hcw.only hal (by simp)).free 2 _ rfl
        have z0' := (hal.cell (p := ⟨pb, po + k * 2, none⟩) (cell_lt z0) (by simp)).trans z0
        have z0'' : w2.cell? ⟨pb, po + k * 2 + 0, none⟩ = some (.int .i64 (wkOf p k)) := z0
        have hne1 : ¬ q.WB i = w2.heap.size := by have : q.WB i < w2.heap.size := cell_lt y1; omega
        have hne2 : ¬ w2.heap.size = q.WB i := fun e => hne1 e.symm
        have HG := Lib.hid hG
        have HCW := Lib.hid hcw
        have HLT := Lib.hid hG.gang.lt
        obtain ⟨n, hn⟩ : ∃ n, p.length = n := ⟨_, rfl⟩
        rw [hn] at c0 c0' hkl hpl
        clear hf hG hC hP hwk2 hcw hpv hpt hal hn
        go_wp2_with fail
        go_ret2
        have hal := (Only.refl [] w2).alloc (.cells #[.int .i64 wh, .int .i64 (i : Int), .int .i64 0, .int .i64 ot] 88)
        have hwz : w.heap.size ≤ w2.heap.size := HG.out.only.size
        have h5 := ((HG.out.same hal).set hi (((HCW.out.only hal (by simp)).set 1 (.int .i64 (k : Int))).set 2 (.int .i64 (wkOf p k))) (((Only.refl [q.WB i] _).setCell (by simp) _).setCell (by simp) _)).fresh
          ((Only.refl [w2.heap.size] _).setCell (p := ⟨w2.heap.size, 2, none⟩) (by simp) (.int .i64 (k : Int))) (fun x hx => by
            obtain rfl : x = w2.heap.size := by simpa using hx
            exact ⟨fun hF => by have := HLT.out _ hF; omega, hwz⟩)
        exact ⟨_, F', rfl, deed_one (B := w2.heap.size + 1) ⟨wh, (i : Int), (k : Int), ot⟩ (heap_alloc_at _ _ _ (by simp [World.setCell])) (by omega), h5.same ((Only.refl [] _).alloc _), fun x hx hF => by
          obtain rfl : x = w2.heap.size + 1 := own_one (n := 1) (c := 1) hx
          have := HLT.out _ hF; omega⟩

end Go.Proofs.YtocpmncedlenbaaGreatDoor
