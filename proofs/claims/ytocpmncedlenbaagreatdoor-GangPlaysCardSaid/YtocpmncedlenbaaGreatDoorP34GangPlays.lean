/-
  Contracts of yardref1's spill where it lies in a gang of yardref2.
-/
import Derived.Test.YtocpmncedlenbaaGreatDoorP33GangPlays
import Derived.Test.YtocpmncedlenbaaGreatDoorP5GangPlays
namespace Go.Proofs.YtocpmncedlenbaaGreatDoor
open Go.RowKit

/-- What a gang's block holds beside its spill. -/
structure Rst where
  a : Value
  b : Value
  c : Value
  d : Value
  e : Value
  f : Value

/-- The reference's spill in the gang's block m. -/
structure GSpill (w : World) (base m : Nat) (X : Rst) (room : Nat) (vf vh : Value) (f h : List Int) : Prop where
  cells : Cells w m [X.a, X.b, X.c, X.d, .int .i64 room, vf, vh, X.e, X.f]
  front : Ints w base vf f
  heap : Ints w base vh h
  n1 : m ∉ own vf
  n2 : m ∉ own vh
  n3 : ∀ x ∈ own vf, x ∉ own vh

theorem GSpill.only {w w' : World} {base m room : Nat} {X : Rst} {vf vh : Value} {f h : List Int} {S : List Nat} (r : GSpill w base m X room vf vh f h) (ho : Only S w w') (hd : ∀ x ∈ m :: (own vf ++ own vh), x ∉ S) : GSpill w' base m X room vf vh f h :=
  ⟨r.cells.only ho (hd m (by simp)), r.front.only ho (fun g hg => hd g (by simp [own_of hg])), r.heap.only ho (fun g hg => hd g (by simp [own_of hg])), r.n1, r.n2, r.n3⟩

theorem GSpill.lt {w : World} {base m room : Nat} {X : Rst} {vf vh : Value} {f h : List Int} (r : GSpill w base m X room vf vh f h) : ∀ x ∈ m :: (own vf ++ own vh), x < w.heap.size := by
  intro x hx
  simp only [List.mem_cons, List.mem_append] at hx
  rcases hx with rfl | hx | hx
  · exact r.cells.lt
  · exact (r.front.own_lt x hx).2
  · exact (r.heap.own_lt x hx).2

/-- A number put in front. -/
theorem GSpill.pushF {w w' : World} {base m room g cap n : Nat} {X : Rst} {vf vh : Value} {f h f' : List Int} (r : GSpill w base m X room vf vh f h) (hI : Ints w' base (.slice (some ⟨g, 0, none⟩) n cap) f') (ho : Only (own vf) w w') (hk : g ∈ own vf ∨ w.heap.size ≤ g) :
    GSpill (w'.setCell ⟨m, 5, none⟩ (.slice (some ⟨g, 0, none⟩) n cap)) base m X room (.slice (some ⟨g, 0, none⟩) n cap) vh f' h ∧ Only (m :: (own vf ++ own vh)) w (w'.setCell ⟨m, 5, none⟩ (.slice (some ⟨g, 0, none⟩) n cap)) ∧
      Kin w (own vf ++ own vh) (own (.slice (some ⟨g, 0, none⟩) n cap) ++ own vh) := by
  have hlt := r.lt
  have hset : Only [m] w' (w'.setCell ⟨m, 5, none⟩ (.slice (some ⟨g, 0, none⟩) n cap)) := (Only.refl [m] w').setCell (by simp) _
  have hne : ∀ x ∈ m :: own vh, x ≠ g := by
    intro x hx e
    subst e
    simp only [List.mem_cons] at hx
    rcases hk with hk | hk
    · rcases hx with rfl | hx
      · exact r.n1 hk
      · exact r.n3 _ hk hx
    · have := hlt x (by rcases hx with rfl | hx <;> simp [*]); omega
  have ho2 : Only (own vf) w w' := ho
  refine ⟨⟨(r.cells.only ho r.n1).set 5 _, hI.only hset (fun g' hg' => ?_), (r.heap.only ho (fun g' hg' hx => r.n3 _ hx (own_of hg'))).only hset (fun g' hg' => ?_), ?_, r.n2, ?_⟩, (ho.mono (fun x hx _ => by simp [hx])).trans hset (by simp), fun x hx => ?_⟩
  · have : g' = g := by simpa [Value.ownBlock] using hg'.symm
    subst this
    simp
    exact fun e => hne m (by simp) e.symm
  · simp
    intro e
    subst e
    exact r.n2 (own_of hg')
  · simp [own, Value.ownBlock]
    exact hne m (by simp)
  · intro x hx hx2
    have : x = g := by simpa [own, Value.ownBlock] using hx
    exact hne x (by simp [hx2]) this
  · simp only [List.mem_append] at hx ⊢
    rcases hx with hx | hx
    · have : x = g := by simpa [own, Value.ownBlock] using hx
      subst this
      exact hk.imp .inl id
    · exact .inl (.inr hx)

/-- .. behind. -/
theorem GSpill.pushH {w w' : World} {base m room g cap n : Nat} {X : Rst} {vf vh : Value} {f h h' : List Int} (r : GSpill w base m X room vf vh f h) (hI : Ints w' base (.slice (some ⟨g, 0, none⟩) n cap) h') (ho : Only (own vh) w w') (hk : g ∈ own vh ∨ w.heap.size ≤ g) :
    GSpill (w'.setCell ⟨m, 6, none⟩ (.slice (some ⟨g, 0, none⟩) n cap)) base m X room vf (.slice (some ⟨g, 0, none⟩) n cap) f h' ∧ Only (m :: (own vf ++ own vh)) w (w'.setCell ⟨m, 6, none⟩ (.slice (some ⟨g, 0, none⟩) n cap)) ∧
      Kin w (own vf ++ own vh) (own vf ++ own (.slice (some ⟨g, 0, none⟩) n cap)) := by
  have hlt := r.lt
  have hset : Only [m] w' (w'.setCell ⟨m, 6, none⟩ (.slice (some ⟨g, 0, none⟩) n cap)) := (Only.refl [m] w').setCell (by simp) _
  have hne : ∀ x ∈ m :: own vf, x ≠ g := by
    intro x hx e
    subst e
    simp only [List.mem_cons] at hx
    rcases hk with hk | hk
    · rcases hx with rfl | hx
      · exact r.n2 hk
      · exact r.n3 _ hx hk
    · have := hlt x (by rcases hx with rfl | hx <;> simp [*]); omega
  refine ⟨⟨(r.cells.only ho r.n2).set 6 _, (r.front.only ho (fun g' hg' hx => r.n3 _ (own_of hg') hx)).only hset (fun g' hg' => ?_), hI.only hset (fun g' hg' => ?_), r.n1, ?_, ?_⟩, (ho.mono (fun x hx _ => by simp [hx])).trans hset (by simp), fun x hx => ?_⟩
  · simp
    intro e
    subst e
    exact r.n1 (own_of hg')
  · have : g' = g := by simpa [Value.ownBlock] using hg'.symm
    subst this
    simp
    exact fun e => hne m (by simp) e.symm
  · simp [own, Value.ownBlock]
    exact hne m (by simp)
  · intro x hx hx2
    have : x = g := by simpa [own, Value.ownBlock] using hx2
    exact hne x (by simp [hx]) this
  · simp only [List.mem_append] at hx ⊢
    rcases hx with hx | hx
    · exact .inl (.inl hx)
    · have : x = g := by simpa [own, Value.ownBlock] using hx
      subst this
      exact hk.imp .inr id

/-- .. as one list. -/
def GSp (w : World) (base m : Nat) (X : Rst) (rp : List Nat) (room : Nat) (all : List Int) : Prop :=
  ∃ vf vh, GSpill w base m X room vf vh (all.take room) (all.drop room) ∧ rp = m :: (own vf ++ own vh) ∧ all.length ≤ 60

theorem GSp.only {w w' : World} {base m room : Nat} {X : Rst} {rp : List Nat} {all : List Int} {S : List Nat} (h : GSp w base m X rp room all) (ho : Only S w w') (hd : ∀ x ∈ rp, x ∉ S) : GSp w' base m X rp room all := by
  obtain ⟨vf, vh, r, rfl, hl⟩ := h
  exact ⟨vf, vh, r.only ho hd, rfl, hl⟩
theorem GSp.lt {w : World} {base m room : Nat} {X : Rst} {rp : List Nat} {all : List Int} (h : GSp w base m X rp room all) : ∀ x ∈ rp, x < w.heap.size := by
  obtain ⟨vf, vh, r, rfl, hl⟩ := h
  exact r.lt

set_option maxRecDepth 100000 in
set_option maxHeartbeats 1000000 in
theorem gsp_put_full (base m room : Nat) (X : Rst) (rp : List Nat) (all : List Int) (v : Value) (l : List Int) (w : World) (h : GSp w base m X rp room all) (hv : Reads w v l) (hll : l.length ≤ 140737488355328) (hf : 60 < all.length + l.length) :
    Calls Tryz.prog 74 #[.pointer (some ⟨m, 4, none⟩), v] w fun e w' => e = .returned (.bool false) ∧ ∃ n, w' = w.drewN n := by
  obtain ⟨vf, vh, r, rfl, hl⟩ := h
  have c1 := r.cells.cell 5 _ rfl
  have c2 := r.cells.cell 6 _ rfl
  obtain ⟨fa, fc, rfl, _⟩ := r.front.opt
  obtain ⟨ha, hc, rfl, _⟩ := r.heap.opt
  obtain ⟨a, cap, rfl, _⟩ := hv.opt
  have hsum : (all.take room).length + (all.drop room).length = all.length := by simp; omega
  generalize all.take room = f at *
  generalize all.drop room = h at *
  have hs2 : 60 < f.length + h.length + l.length := by omega
  have hs3 : f.length + h.length ≤ 60 := by omega
  clear r hl hsum hf
  go_enter Tryz.func74, Tryz.ntmps74
  go_wp2_with fail
  go_quiet (fail)
  go_wp2
  go_ret
  exact ⟨rfl, _, rfl⟩

set_option maxRecDepth 100000 in
set_option maxHeartbeats 4000000 in
theorem gsp_put_raw (base m room : Nat) (X : Rst) (vf vh : Value) (F H all : List Int) (v : Value) (l : List Int) (w : World) (r : GSpill w base m X room vf vh F H) (hF : Hid (F = all.take room)) (hH : Hid (H = all.drop room)) (hrm : room ≤ 16) (hb : base ≤ w.heap.size) (hrd : Reads w v l)
    (hd : l ≠ [] → ∀ x ∈ own v, x ∉ m :: (own vf ++ own vh)) (hf : all.length + l.length ≤ 60) :
    Calls Tryz.prog 74 #[.pointer (some ⟨m, 4, none⟩), v] w fun e w' => e = .returned (.bool true) ∧ ∃ vf' vh', GSpill w' base m X room vf' vh' ((all ++ l).take room) ((all ++ l).drop room) ∧ Only (m :: (own vf ++ own vh)) w w' ∧ Kin w (own vf ++ own vh) (own vf' ++ own vh') := by
  have c1 := r.cells.cell 5 _ rfl
  have c2 := r.cells.cell 6 _ rfl
  obtain ⟨fa, fc, rfl, _⟩ := r.front.opt
  obtain ⟨ha, hc, rfl, _⟩ := r.heap.opt
  obtain ⟨a, cap, rfl, hcl⟩ := hrd.opt
  have hs2 : F.length + H.length + l.length ≤ 60 := by rw [hF.out, hH.out]; simp; omega
  have hkin := Kin.refl w (own (.slice fa F.length fc) ++ own (.slice ha H.length hc))
  have h0 : GSpill w base m X room (.slice fa F.length fc) (.slice ha H.length hc) ((all ++ l.take 0).take room) ((all ++ l.take 0).drop room) := by
    rw [List.take_zero, List.append_nil, ← hF.out, ← hH.out]; exact r
  have H0 := Lib.hid h0
  obtain ⟨n, hn⟩ : ∃ n, l.length = n := ⟨_, rfl⟩
  have HN := Lib.hid hn
  rw [hn] at hcl hs2 hf hd ⊢
  clear h0 r hn hrd
  go_enter Tryz.func74, Tryz.ntmps74
  go_wp2_with fail
  go_quiet (fail)
  have hod := (Only.refl (m :: (own (.slice fa F.length fc) ++ own (.slice ha H.length hc))) w).drewN nq
  have HD0 : Hid (GSpill (w.drewN nq) base m X room (.slice fa F.length fc) (.slice ha H.length hc) ((all ++ l.take 0).take room) ((all ++ l.take 0).drop room)) := H0.out.only ((Only.refl [] w).drewN nq) (by simp)
  clear c1 c2 H0
  go_wp2_with fail
  go_loopw [5] (fun i wr => ∃ k : Nat, k ≤ n ∧ i = .int .i64 k ∧ ∃ vf1 vh1, GSpill wr base m X room vf1 vh1 ((all ++ l.take k).take room) ((all ++ l.take k).drop room) ∧ Only (m :: (own (.slice fa F.length fc) ++ own (.slice ha H.length hc))) w wr ∧ Kin w (own (.slice fa F.length fc) ++ own (.slice ha H.length hc)) (own vf1 ++ own vh1))
    (fun i _ => n - (intOf i).toNat)
  case atStart => exact ⟨0, Nat.zero_le _, rfl, _, _, HD0.out, hod, hkin⟩
  case round =>
    obtain ⟨wo, rfl⟩ : ∃ wo : World, wo = wr := ⟨_, rfl⟩
    clear hod HD0
    obtain ⟨k, hk, rfl, vf1, vh1, r1, ho, hkn⟩ := hrel
    by_cases hlt : k < n
    · obtain ⟨bl, ol, rfl, hc0⟩ := hcl k hlt
      have hl0 := cell_lt hc0
      have hcell : wo.cell? ⟨bl, ol + k, none⟩ = some (.int .i64 (nth l k)) := (ho.cell (p := ⟨bl, ol + k, none⟩) hl0 (hd (by rintro rfl; have := HN.out; simp at this; omega) bl (by simp [own, Value.ownBlock]))).trans hc0
      have hsz := ho.size
      have htk : Hid (all ++ l.take (k + 1) = (all ++ l.take k) ++ [nth l k]) := by show _ = _; rw [take_succ_nth l k (by rw [HN.out]; exact hlt), List.append_assoc]
      have hAl : (all ++ l.take k).length = all.length + k := by simp; have := HN.out; omega
      generalize all ++ l.take k = A at *
      obtain ⟨z, hz⟩ : ∃ z, nth l k = z := ⟨_, rfl⟩
      rw [hz] at hcell htk
      have c0 := r1.cells.cell 4 _ rfl
      have c1 := r1.cells.cell 5 _ rfl
      have c2 := r1.cells.cell 6 _ rfl
      have f1 := r1.cells.free 5 _ rfl
      have f2 := r1.cells.free 6 _ rfl
      have hbo : base ≤ wo.heap.size := by omega
      have HKN := Lib.hid hkn
      have HOO := Lib.hid ho
      by_cases hA : A.length < room
      · have e1 : A.take room = A := List.take_of_length_le (by omega)
        have e2 : A.drop room = [] := List.drop_of_length_le (by omega)
        have e3 : (A ++ [z]).take room = A ++ [z] := List.take_of_length_le (by simp; omega)
        have e4 : (A ++ [z]).drop room = [] := List.drop_of_length_le (by simp; omega)
        rw [e1, e2] at r1
        have E3 := Lib.hid e3
        have E4 := Lib.hid e4
        obtain ⟨va2, vcap2, rfl, _⟩ := r1.front.opt
        obtain ⟨vb2, vcap3, hvb⟩ : ∃ vb vc, vh1 = .slice vb 0 vc := by obtain ⟨x, y, e, _⟩ := r1.heap.opt; exact ⟨x, y, e⟩
        subst hvb
        obtain ⟨M, hM⟩ : ∃ M, A.length = M := ⟨_, rfl⟩
        have HM := Lib.hid hM
        rw [hM] at r1 c1 HKN hA
        have hM1 : M ≤ 60 := by omega
        clear e1 e2 e3 e4 hAl hcl hc0 hd hkin HN hkn ho hM hz
        have hg1 : decide ((M : Int) < (room : Int)) = true := by simp; omega
        go_wp2_with fail
        go_quiet (fail)
        have hoq : Hid (Only [] wo (wo.drewN nq)) := (Only.refl [] wo).drewN nq
        have HOQ : Hid (Only (m :: (own (.slice fa F.length fc) ++ own (.slice ha H.length hc))) w (wo.drewN nq)) := HOO.out.drewN nq
        have rq := r1.only hoq.out (by simp)
        have hcellq : (wo.drewN nq).cell? ⟨bl, ol + k, none⟩ = some (.int .i64 z) := (cell_drewN _ nq _).trans hcell
        have hsq := HOQ.out.size
        clear r1 c0 c1 c2 f1 f2 hcell HOO hbo hsz
        generalize wo.drewN nq = wq at *
        have hbo : base ≤ wq.heap.size := by omega
        have c1 := rq.cells.cell 5 _ rfl
        have c2 := rq.cells.cell 6 _ rfl
        have f1 := rq.cells.free 5 _ rfl
        have f2 := rq.cells.free 6 _ rfl
        have rqa := rq.only ((Only.refl [] wq).alloc (.cells #[.int .i64 z] 3)) (by simp)
        have c1a := rqa.cells.cell 5 _ rfl
        have c2a := rqa.cells.cell 6 _ rfl
        clear rqa
        go_wp2_with fail
        go_region_law (first | (refine step_push rfl (.tmp 49) (.tmp 54) rfl wq base _ A wq.heap.size z M rq.front HM.out (by omega) hbo rfl rfl (((Only.refl [] wq).alloc _).drewN _) (World.cell?_alloc_at _ _ _ _ rfl) ?_; intro g cap2 w2 hI2 hO2 hK2; have hc2 := rq.cells.only hO2 rq.n1; have c1b := hc2.cell 5 _ rfl; have f1b := hc2.free 5 _ rfl))
        all_goals
          have hE := rq.pushF hI2 hO2 hK2
          have R2 : Hid (GSpill (w2.setCell ⟨m, 5, none⟩ (.slice (some ⟨g, 0, none⟩) (M + 1) cap2)) base m X room (.slice (some ⟨g, 0, none⟩) (M + 1) cap2) (.slice vb2 0 vcap3) ((all ++ l.take (k + 1)).take room) ((all ++ l.take (k + 1)).drop room)) := by
            show GSpill _ _ _ _ _ _ _ _ _
            rw [htk.out, E3.out, E4.out]; exact hE.1
          have ho3 : Hid (Only (m :: (own (.slice fa F.length fc) ++ own (.slice ha H.length hc))) w (w2.setCell ⟨m, 5, none⟩ (.slice (some ⟨g, 0, none⟩) (M + 1) cap2))) := HOQ.out.trans hE.2.1 (fun x hx hl => by
            rcases List.mem_cons.1 hx with rfl | hx
            · simp
            · rcases HKN.out x hx with h | h
              · exact List.mem_cons_of_mem _ h
              · omega)
          have hkk : Hid (Kin w (own (.slice fa F.length fc) ++ own (.slice ha H.length hc)) (own (.slice (some ⟨g, 0, none⟩) (M + 1) cap2) ++ own (.slice vb2 0 vcap3))) := HKN.out.trans hE.2.2 hsq
          clear hE rq HKN HOQ hoq hI2 hO2 hK2 hc2 c1b f1b
          go_wp2
          go_roundw
          case rel => exact ⟨k + 1, by omega, by go_num, _, _, R2.out, ho3.out, hkk.out⟩
          case measure => simp [intOf]; omega
      · have e3 : (A ++ [z]).take room = A.take room := List.take_append_of_le_length (by omega)
        have e4 : (A ++ [z]).drop room = A.drop room ++ [z] := List.drop_append_of_le_length (by omega)
        have E3 := Lib.hid e3
        have E4 := Lib.hid e4
        obtain ⟨va2, vcap2, rfl, _⟩ := r1.front.opt
        obtain ⟨vb2, vcap3, rfl, _⟩ := r1.heap.opt
        obtain ⟨P, hP⟩ : ∃ P, (A.take room).length = P := ⟨_, rfl⟩
        obtain ⟨M, hM⟩ : ∃ M, (A.drop room).length = M := ⟨_, rfl⟩
        have hP1 : P = room := by rw [← hP, List.length_take]; omega
        have hM2 : M ≤ 60 := by rw [← hM, List.length_drop]; omega
        have HM := Lib.hid hM
        rw [hM] at r1 c2 HKN
        rw [hP] at r1 c1 HKN
        subst hP1
        have hA2 : A.length = P + M := by rw [← hM, List.length_drop]; omega
        clear e3 e4 hAl hcl hc0 hd hkin HN hkn ho hM hz hP hA hA2
        by_cases hM0 : M = 0
        · subst hM0
          have hg1 : decide ((P : Int) < (P : Int)) = false := by simp
          go_wp2_with fail
          go_quiet (fail)
          have hoq : Hid (Only [] wo (wo.drewN nq)) := (Only.refl [] wo).drewN nq
          have HOQ : Hid (Only (m :: (own (.slice fa F.length fc) ++ own (.slice ha H.length hc))) w (wo.drewN nq)) := HOO.out.drewN nq
          have rq := r1.only hoq.out (by simp)
          have hcellq : (wo.drewN nq).cell? ⟨bl, ol + k, none⟩ = some (.int .i64 z) := (cell_drewN _ nq _).trans hcell
          have hsq := HOQ.out.size
          clear r1 c0 c1 c2 f1 f2 hcell HOO hbo hsz
          generalize wo.drewN nq = wq at *
          have hbo : base ≤ wq.heap.size := by omega
          have c1 := rq.cells.cell 5 _ rfl
          have c2 := rq.cells.cell 6 _ rfl
          have f1 := rq.cells.free 5 _ rfl
          have f2 := rq.cells.free 6 _ rfl
          have rqa := rq.only ((Only.refl [] wq).alloc (.cells #[.int .i64 z] 3)) (by simp)
          have c1a := rqa.cells.cell 5 _ rfl
          have c2a := rqa.cells.cell 6 _ rfl
          clear rqa
          go_wp2_with fail
          go_region_law (first | (refine step_push rfl (.tmp 62) (.tmp 67) rfl wq base _ (A.drop P) wq.heap.size z 0 rq.heap HM.out (by omega) hbo rfl rfl (((Only.refl [] wq).alloc _).drewN _) (World.cell?_alloc_at _ _ _ _ rfl) ?_; intro g cap2 w2 hI2 hO2 hK2; have hc2 := rq.cells.only hO2 rq.n2; have c2b := hc2.cell 6 _ rfl; have f2b := hc2.free 6 _ rfl))
          all_goals
            have hE := rq.pushH hI2 hO2 hK2
            have R2 : Hid (GSpill (w2.setCell ⟨m, 6, none⟩ (.slice (some ⟨g, 0, none⟩) (0 + 1) cap2)) base m X P (.slice va2 P vcap2) (.slice (some ⟨g, 0, none⟩) (0 + 1) cap2) ((all ++ l.take (k + 1)).take P) ((all ++ l.take (k + 1)).drop P)) := by
              show GSpill _ _ _ _ _ _ _ _ _
              rw [htk.out, E3.out, E4.out]; exact hE.1
            have ho3 : Hid (Only (m :: (own (.slice fa F.length fc) ++ own (.slice ha H.length hc))) w (w2.setCell ⟨m, 6, none⟩ (.slice (some ⟨g, 0, none⟩) (0 + 1) cap2))) := HOQ.out.trans hE.2.1 (fun x hx hl => by
              rcases List.mem_cons.1 hx with rfl | hx
              · simp
              · rcases HKN.out x hx with h | h
                · exact List.mem_cons_of_mem _ h
                · omega)
            have hkk : Hid (Kin w (own (.slice fa F.length fc) ++ own (.slice ha H.length hc)) (own (.slice va2 P vcap2) ++ own (.slice (some ⟨g, 0, none⟩) (0 + 1) cap2))) := HKN.out.trans hE.2.2 hsq
            clear hE rq HKN HOQ hoq hI2 hO2 hK2 hc2 c2b f2b
            go_wp2
            go_roundw
            case rel => exact ⟨k + 1, by omega, by go_num, _, _, R2.out, ho3.out, hkk.out⟩
            case measure => simp [intOf]; omega
        · have hM0 : 0 < M := by omega
          have hg1 : decide ((M : Int) = 0) = false := by simp; omega
          go_wp2_with fail
          go_quiet (fail)
          have hoq : Hid (Only [] wo (wo.drewN nq)) := (Only.refl [] wo).drewN nq
          have HOQ : Hid (Only (m :: (own (.slice fa F.length fc) ++ own (.slice ha H.length hc))) w (wo.drewN nq)) := HOO.out.drewN nq
          have rq := r1.only hoq.out (by simp)
          have hcellq : (wo.drewN nq).cell? ⟨bl, ol + k, none⟩ = some (.int .i64 z) := (cell_drewN _ nq _).trans hcell
          have hsq := HOQ.out.size
          clear r1 c0 c1 c2 f1 f2 hcell HOO hbo hsz
          generalize wo.drewN nq = wq at *
          have hbo : base ≤ wq.heap.size := by omega
          have c1 := rq.cells.cell 5 _ rfl
          have c2 := rq.cells.cell 6 _ rfl
          have f1 := rq.cells.free 5 _ rfl
          have f2 := rq.cells.free 6 _ rfl
          have rqa := rq.only ((Only.refl [] wq).alloc (.cells #[.int .i64 z] 3)) (by simp)
          have c1a := rqa.cells.cell 5 _ rfl
          have c2a := rqa.cells.cell 6 _ rfl
          clear rqa
          go_wp2_with fail
          go_region_law (first | (refine step_push rfl (.tmp 62) (.tmp 67) rfl wq base _ (A.drop P) wq.heap.size z M rq.heap HM.out (by omega) hbo rfl rfl (((Only.refl [] wq).alloc _).drewN _) (World.cell?_alloc_at _ _ _ _ rfl) ?_; intro g cap2 w2 hI2 hO2 hK2; have hc2 := rq.cells.only hO2 rq.n2; have c2b := hc2.cell 6 _ rfl; have f2b := hc2.free 6 _ rfl))
          all_goals
            have hE := rq.pushH hI2 hO2 hK2
            have R2 : Hid (GSpill (w2.setCell ⟨m, 6, none⟩ (.slice (some ⟨g, 0, none⟩) (M + 1) cap2)) base m X P (.slice va2 P vcap2) (.slice (some ⟨g, 0, none⟩) (M + 1) cap2) ((all ++ l.take (k + 1)).take P) ((all ++ l.take (k + 1)).drop P)) := by
              show GSpill _ _ _ _ _ _ _ _ _
              rw [htk.out, E3.out, E4.out]; exact hE.1
            have ho3 : Hid (Only (m :: (own (.slice fa F.length fc) ++ own (.slice ha H.length hc))) w (w2.setCell ⟨m, 6, none⟩ (.slice (some ⟨g, 0, none⟩) (M + 1) cap2))) := HOQ.out.trans hE.2.1 (fun x hx hl => by
              rcases List.mem_cons.1 hx with rfl | hx
              · simp
              · rcases HKN.out x hx with h | h
                · exact List.mem_cons_of_mem _ h
                · omega)
            have hkk : Hid (Kin w (own (.slice fa F.length fc) ++ own (.slice ha H.length hc)) (own (.slice va2 P vcap2) ++ own (.slice (some ⟨g, 0, none⟩) (M + 1) cap2))) := HKN.out.trans hE.2.2 hsq
            clear hE rq HKN HOQ hoq hI2 hO2 hK2 hc2 c2b f2b
            go_wp2
            go_roundw
            case rel => exact ⟨k + 1, by omega, by go_num, _, _, R2.out, ho3.out, hkk.out⟩
            case measure => simp [intOf]; omega
    · obtain rfl : k = n := by omega
      rw [List.take_of_length_le (Nat.le_of_eq HN.out)] at r1
      clear hcl
      go_wp2
      go_ret
      exact ⟨rfl, _, _, r1, ho, hkn⟩

theorem gsp_put (base m room : Nat) (X : Rst) (rp : List Nat) (all : List Int) (v : Value) (l : List Int) (w : World) (h : GSp w base m X rp room all) (hrm : room ≤ 16) (hb : base ≤ w.heap.size) (hv : Reads w v l) (hd : l ≠ [] → ∀ x ∈ own v, x ∉ rp) (hf : all.length + l.length ≤ 60) :
    Calls Tryz.prog 74 #[.pointer (some ⟨m, 4, none⟩), v] w fun e w' => e = .returned (.bool true) ∧ ∃ rp', GSp w' base m X rp' room (all ++ l) ∧ Only rp w w' ∧ Kin w rp rp' := by
  obtain ⟨vf, vh, r, rfl, hl⟩ := h
  refine (gsp_put_raw base m room X vf vh _ _ all v l w r rfl rfl hrm hb hv hd hf).mono ?_
  rintro e w' ⟨he, vf', vh', r2, ho, hk⟩
  refine ⟨he, _, ⟨vf', vh', r2, rfl, by simp; omega⟩, ho, fun x hx => ?_⟩
  rcases List.mem_cons.1 hx with rfl | hx
  · exact .inl (by simp)
  · exact (hk x hx).imp (fun h => List.mem_cons_of_mem _ h) id

set_option maxRecDepth 100000 in
set_option maxHeartbeats 4000000 in
theorem gsp_get (base m room : Nat) (X : Rst) (rp : List Nat) (all : List Int) (most : Nat) (w : World) (h : GSp w base m X rp room all) (hrm : room ≤ 16) (hb : base ≤ w.heap.size) (h1 : 1 ≤ most) (h2 : most ≤ 60) :
    Calls Tryz.prog 81 #[.pointer (some ⟨m, 4, none⟩), .int .i64 most] w fun e w' => ∃ v, e = .returned v ∧ Ints w' w.heap.size v (all.take most) ∧ ∃ rp', GSp w' base m X rp' room (all.drop most) ∧ Only rp w w' ∧ Kin w rp rp' := by
  obtain ⟨vf, vh, r, rfl, hl⟩ := h
  have hlt := Lib.hid r.lt
  have c0 := r.cells.cell 4 _ rfl
  have c1 := r.cells.cell 5 _ rfl
  have c2 := r.cells.cell 6 _ rfl
  have hlf : (all.take room).length ≤ 60 := by rw [List.length_take]; omega
  have hlh : (all.drop room).length ≤ 60 := by rw [List.length_drop]; omega
  obtain ⟨fa, fc, rfl, _⟩ := r.front.opt
  obtain ⟨ha, hc, rfl, _⟩ := r.heap.opt
  have hTD : Hid (all.take room ++ all.drop room = all) := List.take_append_drop _ _
  obtain ⟨F, hF⟩ : ∃ F, all.take room = F := ⟨_, rfl⟩
  obtain ⟨H, hH⟩ : ∃ H, all.drop room = H := ⟨_, rfl⟩
  rw [hF] at r c1 hTD hlt hlf ⊢
  rw [hH] at r c2 hTD hlt hlh ⊢
  have hR0 := Lib.hid (fun (w' : World) (ho : Only [] w w') => r.only ho (by simp))
  have HFR := Lib.hid (fun (w' : World) (ho : Only [] w w') => r.front.reads.same ho)
  have HHR := Lib.hid (fun (w' : World) (ho : Only [] w w') => r.heap.reads.same ho)
  have HALL : Hid (all.length ≤ 60) := hl
  have HFF := Lib.hid hF
  have HHH := Lib.hid hH
  have HC := Lib.hid r.cells
  have HN1 := Lib.hid r.n1
  have HN2 := Lib.hid r.n2
  clear r hl hF hH
  go_enter Tryz.func81, Tryz.ntmps81
  go_wp2_with (first
    | (at_builtin; refine wpList_append_reads rfl (.tmp 8) (.tmp 12) rfl w w.heap.size _ [] _ F (Ints.nil _ _) (HFR.out w (Only.refl _ _)) (by simp; omega) (Nat.le_refl _) rfl rfl (Only.refl _ _) ?_; intro v1 w1 hI1 hO1 hK1; have ho1 : Hid (Only [] w w1) := hO1.mono (by simp [own, Value.ownBlock]); replace hI1 : Ints w1 w.heap.size v1 F := hI1; obtain ⟨a1, b1, rfl, _⟩ := hI1.opt; have C1 := HC.out.only ho1.out (by simp); have c0b := C1.cell 4 _ rfl; have c1b := C1.cell 5 _ rfl; have c2b := C1.cell 6 _ rfl; clear c0 c1 c2 C1 hO1 hK1)
    | (at_builtin; refine wpList_append_reads rfl (.tmp 14) (.tmp 18) rfl w1 w.heap.size _ F _ H hI1 (HHR.out w1 ho1.out) (by omega) ho1.out.size rfl rfl (Only.refl _ _) ?_; intro v2 w2 hI2 hO2 hK2; have ho2 : Hid (Only [] w w2) := ho1.out.pushed hI1 (Nat.le_refl _) hO2; rw [hTD.out] at hI2; obtain ⟨a2, b2, rfl, _⟩ := hI2.opt; have hal := HALL.out; clear c0b c1b c2b hO2 hK2 hI1))
  refine (cutting_apart _ _ most _ hI2.reads (by omega) (by omega)).mono ?_
  rintro e w3 ⟨va, vb, rfl, hIa, hIb, ho3, _⟩
  have ho3 : Hid (Only [] w w3) := ho2.out.trans ho3 (by simp)
  have hIa := hIa.mono ho2.out.size
  have hIb := hIb.mono ho2.out.size
  obtain ⟨aa, ab, rfl, _⟩ := hIa.opt
  obtain ⟨ba, bb, rfl, _⟩ := hIb.opt
  obtain ⟨q, hq⟩ : ∃ q, (all.take most).length = q := ⟨_, rfl⟩
  have hqa : q = 0 → all = [] := fun h => by
    rw [h] at hq
    rw [List.length_take] at hq
    exact List.length_eq_zero_iff.1 (by omega)
  have HQA := Lib.hid hqa
  have HQ := Lib.hid hq
  have hq60 : q ≤ 60 := by rw [← hq, List.length_take]; omega
  obtain ⟨s, hs⟩ : ∃ s, (all.drop most).length = s := ⟨_, rfl⟩
  have hs60 : s ≤ 60 := by rw [← hs, List.length_drop]; omega
  have HS := Lib.hid hs
  rw [hq] at hIa ⊢
  rw [hs] at hIb ⊢
  have C3 := HC.out.only ho3.out (by simp)
  have c0 := C3.cell 4 _ rfl
  have C3 := Lib.hid C3
  clear hI2 ho2 ho1 hq hs hqa
  by_cases h0 : q = 0
  · subst h0
    have hall := HQA.out rfl
    go_wp2
    go_ret
    refine ⟨_, rfl, ?_, _, ⟨_, _, ?_, rfl, ?_⟩, ho3.out.mono (by simp), Kin.refl _ _⟩
    · rw [hall, List.take_nil]; exact Ints.nil _ _
    · have := hR0.out _ ho3.out
      rw [← HFF.out, ← HHH.out] at this ⊢
      rw [hall] at this ⊢
      simpa using this
    · rw [List.length_drop]; omega
  · have hq0 : 0 < q := by omega
    have hm3 : m < w3.heap.size := C3.out.lt
    go_wp2_with fail
    refine (cutting_apart _ _ room _ hIb.reads (by rw [HS.out]; omega) (by omega)).mono ?_
    rintro e w4 ⟨vc, vd, rfl, hIc, hId, ho4, hap⟩
    have ho5 : Hid (Only [] w w4) := ho3.out.trans ho4 (by simp)
    have hIa4 := hIa.only ho4 (by simp)
    obtain ⟨ca, cb, rfl, _⟩ := hIc.opt
    obtain ⟨da, db, rfl, _⟩ := hId.opt
    have C4 := C3.out.only ho4 (by simp)
    have c1 := C4.cell 5 _ rfl
    have f1 := C4.free 5 _ rfl
    have c2 := C4.cell 6 _ rfl
    have f2 := C4.free 6 _ rfl
    have C4 := Lib.hid C4
    have HAP := Lib.hid hap
    obtain ⟨x, hx⟩ : ∃ x, ((all.drop most).take room).length = x := ⟨_, rfl⟩
    obtain ⟨y, hy⟩ : ∃ y, ((all.drop most).drop room).length = y := ⟨_, rfl⟩
    have HX := Lib.hid hx
    have HY := Lib.hid hy
    rw [hx] at hIc HAP ⊢
    rw [hy] at hId HAP ⊢
    have hm4 : m < w.heap.size := hlt.out m (by simp)
    have hz3 := ho3.out.size
    have hma : ∀ z ∈ own (.slice aa q ab), z ≠ m := fun z hz e => by have := (hIa.own_lt z hz).1; omega
    have hmc : ∀ z ∈ own (.slice ca x cb), z ≠ m := fun z hz e => by have := (hIc.own_lt z hz).1; omega
    have hmd : ∀ z ∈ own (.slice da y db), z ≠ m := fun z hz e => by have := (hId.own_lt z hz).1; omega
    have HM := Lib.hid (show _ ∧ _ ∧ _ from ⟨hma, hmc, hmd⟩)
    have HI := Lib.hid (show _ ∧ _ ∧ _ from ⟨hIa4, hIc, hId⟩)
    clear hma hmc hmd hIa hIa4 hIc hId hIb hap hx hy ho4 c0
    go_wp2
    go_ret
    obtain ⟨hma, hmc, hmd⟩ := HM.out
    obtain ⟨hIa4, hIc, hId⟩ := HI.out
    have hs1 : Only [m] w4 (w4.setCell ⟨m, 5, none⟩ (.slice ca x cb)) := (Only.refl [m] w4).setCell (by simp) _
    have hs2 : Only [m] w4 ((w4.setCell ⟨m, 5, none⟩ (.slice ca x cb)).setCell ⟨m, 6, none⟩ (.slice da y db)) := hs1.setCell (by simp) _
    have hf : ∀ {v : Value}, (∀ z ∈ own v, z ≠ m) → ∀ g, v.ownBlock = some g → g ∉ [m] := fun h g hg => by simpa using h g (own_of hg)
    refine ⟨_, rfl, hIa4.only hs2 (hf hma), _, ⟨_, _, ⟨(C4.out.set 5 _).set 6 _, (hIc.mono (by omega)).only hs2 (hf hmc), (hId.mono (by omega)).only hs2 (hf hmd), fun h => hmc m h rfl, fun h => hmd m h rfl, HAP.out⟩, rfl, ?_⟩, ?_, fun z hz => ?_⟩
    · rw [List.length_drop]; have := HALL.out; omega
    · exact (ho5.out.mono (by simp)).trans hs2 (by simp)
    · simp only [List.mem_cons, List.mem_append] at hz
      rcases hz with rfl | hz | hz
      · exact .inl (by simp)
      · have := (hIc.own_lt z hz).1; exact .inr (by omega)
      · have := (hId.own_lt z hz).1; exact .inr (by omega)

end Go.Proofs.YtocpmncedlenbaaGreatDoor
