/-
  Contracts of cells.Check, cells.Do, yardsame.Cells.
-/
import Derived.Test.YtmopbimineoogaaDoorP18CellsTell
namespace Go.Proofs.YtmopbimineoogaaDoor
open Go.RowKit Go.Deep

theorem results_cellT {P : Program} {fn : Func} {p u : Tmp} {ty : TypeId} (h : fn.results = #[.cell p ty, .tmp u]) (tmps : Array Value) (w : World) (a : Addr) (v : Value)
    (hp : tmps.getD p undef = .pointer (some a)) (hl : (loadVar ty a).run P w = .ok v w) : (results fn tmps).run P w = .ok (.tuple #[v, tmps.getD u undef]) w := by
  rw [results_cell_tmp h, hp]
  simp [asAddr, hl, Result.andThen]

set_option maxRecDepth 100000 in
theorem cells_Check (c : Ce) (w : World) : Calls Tryd.prog 25 #[ceV c] w fun e w' => e = .returned (errV (ceFault c)) ∧ Only [] w w' := by
  obtain ⟨E, hE⟩ : ∃ E, ceFault c = E := ⟨_, rfl⟩
  have HE := Lib.hid hE
  rw [hE]
  clear hE
  obtain ⟨n, b⟩ := c
  have HW := Lib.hid cells_within
  have hb := Cells.new w #[.int .i64 n, .bool b] 54
  have hal := Lib.hid ((Only.refl [] w).alloc (.cells #[.int .i64 n, .bool b] 54))
  have c0 := hb.cell 0 _ rfl
  have c1 := hb.cell 1 _ rfl
  clear hb
  simp only [ceV]
  by_cases hin : inV n
  · have hd : decide (inV n) = true := decide_eq_true hin
    cases b with
    | false =>
      have e : Hid (E = 0) := by show _ = _; rw [← HE.out]; exact if_pos ⟨hin, fun h => by cases h⟩
      clear hin
      go_enter Tryd.func25, Tryd.ntmps25
      go_wp2_with fail
      refine (HW.out n _).mono ?_
      rintro e2 w9 ⟨rfl, hw9⟩
      rw [hd]
      subst hw9
      go_wp2
      go_ret
      exact ⟨by rw [e.out]; rfl, hal.out⟩
    | true =>
      by_cases hz : n = 0
      · have e : Hid (E = 0) := by show _ = _; rw [← HE.out]; exact if_pos ⟨hin, fun _ => hz⟩
        subst hz
        clear hin
        go_enter Tryd.func25, Tryd.ntmps25
        go_wp2_with fail
        refine (HW.out 0 _).mono ?_
        rintro e2 w9 ⟨rfl, hw9⟩
        rw [hd]
        subst hw9
        go_wp2
        go_ret
        exact ⟨by rw [e.out]; rfl, hal.out⟩
      · have e : Hid (E = 1) := by show _ = _; rw [← HE.out]; exact if_neg (fun h => hz (h.2 rfl))
        have hz2 : (n == 0) = false := by simpa using hz
        clear hin
        go_enter Tryd.func25, Tryd.ntmps25
        go_wp2_with fail
        refine (HW.out n _).mono ?_
        rintro e2 w9 ⟨rfl, hw9⟩
        rw [hd]
        subst hw9
        go_wp2
        go_ret
        exact ⟨by rw [e.out]; rfl, hal.out⟩
  · have hd : decide (inV n) = false := decide_eq_false hin
    have e : Hid (E = 1) := by show _ = _; rw [← HE.out]; exact if_neg (fun h => hin h.1)
    clear hin
    go_enter Tryd.func25, Tryd.ntmps25
    go_wp2_with fail
    refine (HW.out n _).mono ?_
    rintro e2 w9 ⟨rfl, hw9⟩
    rw [hd]
    subst hw9
    go_wp2
    go_ret
    exact ⟨by rw [e.out]; rfl, hal.out⟩

/-- What is wrong with an op, and cells. -/
noncomputable def doFault (o : Opn) (l : List Ce) : Int := by
  classical
  exact if opFault o ≠ 0 then 1 else if 30 < l.length then 4 else if ∀ c ∈ l, ceOk c then 0 else 1

theorem doFault_op {o : Opn} {l : List Ce} (h : ¬ opOk o) : doFault o l = 1 := by
  unfold doFault; rw [if_pos]; unfold opFault; rw [if_neg h]; decide
theorem doFault_len {o : Opn} {l : List Ce} (h : opOk o) (h1 : 30 < l.length) : doFault o l = 4 := by
  unfold doFault; rw [if_neg, if_pos h1]; unfold opFault; rw [if_pos h]; simp
theorem doFault_bad {o : Opn} {l : List Ce} (h : opOk o) (h1 : l.length ≤ 30) (h2 : ¬ ∀ c ∈ l, ceOk c) : doFault o l = 1 := by
  unfold doFault; rw [if_neg, if_neg (by omega), if_neg h2]; unfold opFault; rw [if_pos h]; simp
theorem doFault_ok {o : Opn} {l : List Ce} (h : opOk o) (h1 : l.length ≤ 30) (h2 : ∀ c ∈ l, ceOk c) : doFault o l = 0 := by
  unfold doFault; rw [if_neg, if_neg (by omega), if_pos h2]; unfold opFault; rw [if_pos h]; simp

/-- What cells.Do hands back. -/
noncomputable def doRes (o : Opn) (l : List Ce) : Ce := if doFault o l = 0 then doC o l else clZero

set_option maxRecDepth 100000 in
set_option maxHeartbeats 4000000 in
theorem cells_Do (o : Opn) (v : Value) (l : List Ce) (w : World) (hv : KellsAt w v l) (hlen : l.length ≤ 9223372036854775807) :
    Calls Tryd.prog 17 #[opV o, v] w fun e w' => e = .returned (.tuple #[ceV (doRes o l), errV (doFault o l)]) ∧ Only [] w w' := by
  have HOP := Lib.hid (fun W => cells_op o W)
  have HDO := Lib.hid (fun w1 (ho : Only [] w w1) (hop : opOk o) (hl : ∀ c ∈ l, ceOk c) (h30 : l.length ≤ 30) => cells_do o v l w1 hop (hv.same ho) hl (by omega))
  have HCK := Lib.hid cells_Check
  have HLD := Lib.hid load_ce
  obtain ⟨E, hE⟩ : ∃ E, doFault o l = E := ⟨_, rfl⟩
  have HE := Lib.hid hE
  obtain ⟨R, hR⟩ : ∃ R, doRes o l = R := ⟨_, rfl⟩
  have HR : Hid (R = if E = 0 then doC o l else clZero) := by show _ = _; rw [← hR, ← hE]; rfl
  rw [hE, hR]
  obtain ⟨a, cap, rfl, ha⟩ := hv.opt
  obtain ⟨m, hm⟩ : ∃ m, l.length = m := ⟨_, rfl⟩
  have HM := Lib.hid hm
  rw [hm] at ha hlen HDO ⊢
  have HA := Lib.hid ha
  obtain ⟨wh, n⟩ := o
  clear hv ha hm hE hR
  have hb := Cells.new w #[.int .i64 wh, .int .i64 n] 48
  have hal1 := (Only.refl [] w).alloc (.cells #[.int .i64 wh, .int .i64 n] 48)
  have hB := Cells.new (w.alloc (.cells #[.int .i64 wh, .int .i64 n] 48)) #[.int .i64 0, .bool false] 54
  have hb := hb.only ((Only.refl [] _).alloc (.cells #[.int .i64 0, .bool false] 54)) (by simp)
  have hal := hal1.alloc (.cells #[.int .i64 0, .bool false] 54)
  rw [World.size_alloc] at hB
  obtain ⟨w2, hw2⟩ : ∃ w2, (w.alloc (.cells #[.int .i64 wh, .int .i64 n] 48)).alloc (.cells #[.int .i64 0, .bool false] 54) = w2 := ⟨_, rfl⟩
  rw [hw2] at hb hB hal
  have cb := hb.cell 1 _ rfl
  have cb0 := hb.cell 0 _ rfl
  simp only [opV] at HOP HDO ⊢
  go_enter Tryd.func17, Tryd.ntmps17
  clear hal1
  have hop := HOP.out w2
  by_cases hok : opOk ⟨wh, n⟩
  · have hz : opFault ⟨wh, n⟩ = 0 := if_pos hok
    rw [hz, errV_zero] at hop
    have HOK := Lib.hid hok
    clear hz hok
    go_wp2_with fail
    refine hop.mono ?_
    rintro e w3 ⟨rfl, ho3⟩
    have hB3 := hB.only ho3 (by simp)
    have hb3 := hb.only ho3 (by simp)
    have ho := hal.trans ho3 (by simp)
    clear hop hB hb hal ho3
    by_cases h30 : m ≤ 30
    · go_wp2_with fail
      go_loopw [8, 9, 23] (fun _ _ vi wr => ∃ i : Nat, i ≤ m ∧ vi = .int .i64 i ∧ (∀ j, j < i → ceOk (clAt l j)) ∧ Only [] w3 wr) (fun _ _ vi _ => m - (intOf vi).toNat)
      case atStart => exact ⟨0, Nat.zero_le _, rfl, fun j hj => by omega, Only.refl _ _⟩
      case round =>
        obtain ⟨i, hi, rfl, hgood, ho4⟩ := hrel
        have HG := Lib.hid hgood
        have hoo := ho.trans ho4 (by simp)
        have hB4 := hB3.only ho4 (by simp)
        have hb4 := hb3.only ho4 (by simp)
        have hlt := hB4.lt
        have hne : ¬ wr.heap.size = w.heap.size + 1 := by omega
        clear hgood
        by_cases him : i < m
        · have hil : i < l.length := by rw [HM.out]; exact him
          have HMEM := Lib.hid (clAt_mem hil)
          obtain ⟨g, off, rfl, k0, k1⟩ := HA.out i him
          have c0 := (hoo.cell (p := ⟨g, _, none⟩) (cell_lt k0) (by simp)).trans k0
          have c1 := (hoo.cell (p := ⟨g, _, none⟩) (cell_lt k1) (by simp)).trans k1
          obtain ⟨c, hc⟩ : ∃ c, clAt l i = c := ⟨_, rfl⟩
          have HC := Lib.hid hc
          rw [hc] at c0 c1 HMEM
          obtain ⟨cn, cbb⟩ := c
          simp only at c0 c1
          have hck := HCK.out ⟨cn, cbb⟩ (wr.alloc (.cells #[.int .i64 cn, .bool cbb] 54))
          simp only [ceV] at hck
          have ho5 := ho4.alloc (.cells #[.int .i64 cn, .bool cbb] 54)
          clear hc k0 k1
          by_cases hg : ceOk ⟨cn, cbb⟩
          · have hz : ceFault ⟨cn, cbb⟩ = 0 := if_pos hg
            rw [hz, errV_zero] at hck
            have HGG := Lib.hid hg
            clear hz hg ho4 hoo hB4 hb4
            go_wp2_with fail
            refine hck.mono ?_
            rintro e w6 ⟨rfl, ho6⟩
            have HO6 := Lib.hid (ho5.trans ho6 (by simp))
            clear hck ho5 ho6
            go_wp2
            go_roundw
            case rel =>
              refine ⟨i + 1, by omega, by go_num, fun j hj => ?_, HO6.out⟩
              by_cases e : j = i
              · subst e; rw [HC.out]; exact HGG.out
              · exact HG.out j (by omega)
            case measure => (simp [intOf]; try omega)
          · have hz : ceFault ⟨cn, cbb⟩ = 1 := if_neg hg
            have he : Hid (E = 1) := by show _ = _; rw [← HE.out]; exact doFault_bad HOK.out (by rw [HM.out]; exact h30) (fun hh => hg (hh _ HMEM.out))
            rw [hz, errV_ne (by decide)] at hck
            clear hz hg
            go_wp2_with fail
            refine hck.mono ?_
            rintro e w6 ⟨rfl, ho6⟩
            have ho6 := ho5.trans ho6 (by simp)
            have hB6 := hB3.only ho6 (by simp)
            have b0 := hB6.cell 0 _ rfl
            have b1 := hB6.cell 1 _ rfl
            have f0 := (hB6 0 _ rfl).2
            have f1 := (hB6 1 _ rfl).2
            obtain ⟨e1, e2⟩ := endB hB6 (Nat.le_succ _) (ho.trans ho6 (by simp)) (.int .i64 0) (.bool false)
            have HE1 := Lib.hid e1
            have HE2 := Lib.hid e2
            clear hck ho5 ho6 e1 e2 hB6 hB4 hb4 hoo ho4 ho hB3 hb3
            go_wp2
            refine bodyPost_ret (results_cellT rfl _ _ _ _ rfl (HLD.out _ _ _ _ HE1.out)) rfl ?_
            exact ⟨by rw [HR.out, he.out]; rfl, HE2.out⟩
        · obtain rfl : i = m := by omega
          have hall : ∀ c ∈ l, ceOk c := fun c hc => by
            obtain ⟨j, hj⟩ := List.getElem?_of_mem hc
            have hjl : j < l.length := (List.getElem?_eq_some_iff.1 hj).1
            have := HG.out j (by rw [HM.out] at hjl; exact hjl)
            unfold clAt at this
            rw [hj] at this
            exact this
          have he : Hid (E = 0) := by show _ = _; rw [← HE.out]; exact doFault_ok HOK.out (by rw [HM.out]; exact h30) hall
          have hdo := HDO.out wr hoo HOK.out hall h30
          have hRR : Hid (R = doC ⟨wh, n⟩ l) := by show _ = _; rw [HR.out, he.out, if_pos rfl]
          rw [← hRR.out] at hdo
          have q0 := hb4.cell 0 _ rfl
          have q1 := hb4.cell 1 _ rfl
          clear hall
          go_wp2_with fail
          refine hdo.mono ?_
          rintro e w6 ⟨rfl, ho6⟩
          have hB6 := hB4.only ho6 (by simp)
          have b0 := hB6.cell 0 _ rfl
          have b1 := hB6.cell 1 _ rfl
          have f0 := (hB6 0 _ rfl).2
          have f1 := (hB6 1 _ rfl).2
          obtain ⟨e1, e2⟩ := endB hB6 (Nat.le_succ _) (hoo.trans ho6 (by simp)) (.int .i64 R.n) (.bool R.bad)
          have HE1 := Lib.hid e1
          have HE2 := Lib.hid e2
          simp only [ceV]
          clear hdo ho6 e1 e2 hB6 hB4 hb4 hoo ho4 ho hB3 hb3
          go_wp2
          refine bodyPost_ret (results_cellT rfl _ _ _ _ rfl (HLD.out _ _ _ _ HE1.out)) rfl ?_
          exact ⟨by rw [he.out, errV_zero]; rfl, HE2.out⟩
    · have he : Hid (E = 4) := by show _ = _; rw [← HE.out]; exact doFault_len HOK.out (by rw [HM.out]; omega)
      have b0 := hB3.cell 0 _ rfl
      have b1 := hB3.cell 1 _ rfl
      have f0 := (hB3 0 _ rfl).2
      have f1 := (hB3 1 _ rfl).2
      obtain ⟨e1, e2⟩ := endB hB3 (Nat.le_succ _) ho (.int .i64 0) (.bool false)
      have HE1 := Lib.hid e1
      have HE2 := Lib.hid e2
      clear e1 e2 hB3 hb3 ho
      go_wp2
      refine bodyPost_ret (results_cellT rfl _ _ _ _ rfl (HLD.out _ _ _ _ HE1.out)) rfl ?_
      exact ⟨by rw [HR.out, he.out]; rfl, HE2.out⟩
  · have hz : opFault ⟨wh, n⟩ = 1 := if_neg hok
    have he : Hid (E = 1) := by show _ = _; rw [← HE.out]; exact doFault_op hok
    rw [hz, errV_ne (by decide)] at hop
    clear hz hok
    go_wp2_with fail
    refine hop.mono ?_
    rintro e w3 ⟨rfl, ho3⟩
    have hB3 := hB.only ho3 (by simp)
    have ho := hal.trans ho3 (by simp)
    have b0 := hB3.cell 0 _ rfl
    have b1 := hB3.cell 1 _ rfl
    have f0 := (hB3 0 _ rfl).2
    have f1 := (hB3 1 _ rfl).2
    obtain ⟨e1, e2⟩ := endB hB3 (Nat.le_succ _) ho (.int .i64 0) (.bool false)
    have HE1 := Lib.hid e1
    have HE2 := Lib.hid e2
    clear hop hB hb hal ho3 e1 e2 hB3 ho
    go_wp2
    refine bodyPost_ret (results_cellT rfl _ _ _ _ rfl (HLD.out _ _ _ _ HE1.out)) rfl ?_
    exact ⟨by rw [HR.out, he.out]; rfl, HE2.out⟩

set_option maxRecDepth 100000 in
theorem same_kells (u v : Value) (l : List Ce) (w : World) (hu : KellsAt w u l) (hv : KellsAt w v l) (hl : l.length ≤ 1000) :
    Calls Tryd.prog 22 #[u, v] w fun e w' => e = .returned (.bool true) ∧ ∃ n, w' = w.drewN n := by
  obtain ⟨a, ca, rfl, ha⟩ := hu.opt
  obtain ⟨b, cb, rfl, hb⟩ := hv.opt
  obtain ⟨n, hn⟩ : ∃ n, l.length = n := ⟨_, rfl⟩
  rw [hn] at ha hb hl ⊢
  clear hu hv hn
  go_enter Tryd.func22, Tryd.ntmps22
  go_wp2_with fail
  go_loopw [5] (fun vi wr => ∃ i : Nat, i ≤ n ∧ vi = .int .i64 i ∧ ∃ m, wr = w.drewN m) (fun vi _ => n - (intOf vi).toNat)
  case atStart => exact ⟨0, Nat.zero_le _, rfl, 0, rfl⟩
  case round =>
    obtain ⟨i, hi, rfl, m, rfl⟩ := hrel
    by_cases hin : i < n
    · obtain ⟨g1, o1, rfl, k0, k1⟩ := ha i hin
      obtain ⟨g2, o2, rfl, l0, l1⟩ := hb i hin
      obtain ⟨c, hc⟩ : ∃ c, clAt l i = c := ⟨_, rfl⟩
      rw [hc] at k0 k1 l0 l1
      obtain ⟨cn, cb⟩ := c
      simp only at k0 k1 l0 l1
      clear ha hb hc
      go_wp2_with fail
      go_quiet (fail)
      go_wp2
      go_roundw
      case rel => exact ⟨i + 1, by omega, by go_num, _, rfl⟩
      case measure => (simp [intOf]; try omega)
    · obtain rfl : i = n := by omega
      clear ha hb
      go_wp2
      go_ret
      exact ⟨rfl, _, rfl⟩

end Go.Proofs.YtmopbimineoogaaDoor
