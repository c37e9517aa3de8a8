/-
  Contract of yardref1.In.
  Contract of yardref1.Longest.
-/
import Derived.Test.YtadjcooemeaaeaaDoorP15DepthTells
import Derived.Test.YtadjcooemeaaeaaDoorP5DepthTells
import Derived.Test.YtadjcooemeaaeaaDoorP28DepthTells
import Derived.Test.YtadjcooemeaaeaaDoorP20DepthTells
namespace Go.Proofs.YtadjcooemeaaeaaDoor
open Go.RowKit

set_option maxHeartbeats 400000 in
theorem ref_in (v : Value) (l : List Int) (x : Int) (w : World) (h : Reads w v l) (hl : l.length ≤ 1000000000) (r : Bool) (hr : decide (x ∈ l) = r) :
    Calls Tryd.prog 38 #[v, .int .i64 x] w fun e w' => e = .returned (.bool r) ∧ w = w' := by
  obtain ⟨a, c, rfl, ha⟩ := h.opt
  obtain ⟨n, hn⟩ : ∃ n, l.length = n := ⟨_, rfl⟩
  have HN := Lib.hid hn
  have HR := Lib.hid hr
  rw [hn] at ha hl ⊢
  clear h hn hr
  go_enter Tryd.func38, Tryd.ntmps38
  go_wp2_with fail
  go_loopw [5] (fun vi wr => ∃ i : Nat, i ≤ n ∧ vi = .int .i64 i ∧ (∀ j, j < i → nth l j ≠ x) ∧ w = wr) (fun vi _ => n - (intOf vi).toNat)
  case atStart => exact ⟨0, Nat.zero_le _, rfl, fun j hj => by omega, rfl⟩
  case round =>
    obtain ⟨i, hi, rfl, hno, rfl⟩ := hrel
    have HNO := Lib.hid hno
    clear hno
    by_cases hin : i < n
    · obtain ⟨b, off, rfl, k0⟩ := ha i hin
      obtain ⟨z, hz⟩ : ∃ z, nth l i = z := ⟨_, rfl⟩
      have HZ := Lib.hid hz
      rw [hz] at k0
      clear ha hz
      by_cases he : z = x
      · have hq : (z == x) = true := by simpa using he
        have hres : Hid (r = true) := by
          show _ = _
          rw [← HR.out, decide_eq_true_eq]
          exact mem_nth.2 ⟨i, by rw [HN.out]; exact hin, by rw [HZ.out]; exact he⟩
        clear he
        go_wp2
        go_ret
        exact ⟨by rw [hres.out]; rfl, rfl⟩
      · have hq : (z == x) = false := by simpa using he
        have HE := Lib.hid he
        clear he
        go_wp2
        go_roundw
        case rel =>
          refine ⟨i + 1, by omega, by go_num, fun j hj => ?_, by trivial⟩
          by_cases e : j = i
          · subst e; rw [HZ.out]; exact HE.out
          · exact HNO.out j (by omega)
        case measure => (simp [intOf]; try omega)
    · obtain rfl : n = i := by omega
      have hres : Hid (r = false) := by
        show _ = _
        rw [← HR.out, decide_eq_false_iff_not]
        intro hm
        obtain ⟨j, hj, e⟩ := mem_nth.1 hm
        exact HNO.out j (by rw [← HN.out]; exact hj) e
      clear ha
      go_wp2
      go_ret
      exact ⟨by rw [hres.out]; rfl, rfl⟩

end Go.Proofs.YtadjcooemeaaeaaDoor

namespace Go.Proofs.YtadjcooemeaaeaaDoor
open Go.RowKit Go.Deep

/-- May one come behind another (below 0: behind none)? -/
def canB (p : PlanL) (la : Int) (i : Nat) : Bool := decide (la < 0) || decide (la ∈ ndOf p i)
def canF (p : PlanL) (la : Int) : List Nat := (List.range p.length).filter (canB p la)
theorem canF_start (p : PlanL) : canF p (-1) = List.range p.length := by
  unfold canF
  rw [List.filter_eq_self.2]
  intro i _
  simp [canB]
theorem canF_after (p : PlanL) (k : Nat) : canF p (k : Int) = afterOf p (k : Int) := by
  unfold canF afterOf
  refine List.filter_congr fun i _ => ?_
  have h : ¬ ((k : Int) < 0) := by omega
  unfold canB
  rw [decide_eq_false h, Bool.false_or]
  by_cases e : (k : Int) ∈ ndOf p i
  · simp [e]
  · simp [e]
theorem way_step {p : PlanL} (f : Nat) (la : Int) {i : Nat} (h0 : 0 < maxL ((canF p la).map (tailF p))) (hi : i < p.length) (h1 : canB p la i = true) (h2 : tailF p i = maxL ((canF p la).map (tailF p)))
    (hn : ∀ j, j < i → ¬ (canB p la j = true ∧ tailF p j = maxL ((canF p la).map (tailF p)))) : wayF p (f + 1) (canF p la) = i :: wayF p f (canF p (i : Int)) := by
  have e : (canF p la).find? (fun k => decide (0 < maxL ((canF p la).map (tailF p)) ∧ tailF p k = maxL ((canF p la).map (tailF p)))) = some i := by
    generalize maxL ((canF p la).map (tailF p)) = M at *
    unfold canF
    rw [List.find?_filter]
    refine find_first _ _ i hi ?_ (fun j hj => ?_)
    · simp [h0, h1, h2]
    · have := hn j hj
      cases hc : canB p la j with
      | false => simp
      | true =>
        rw [decide_eq_false_iff_not]
        rintro ⟨_, h⟩
        exact this ⟨hc, (of_decide_eq_true h).2⟩
  rw [wayF, e, canF_after]
theorem way_some {p : PlanL} (la : Int) (h0 : 0 < maxL ((canF p la).map (tailF p))) : ∃ i, i < p.length ∧ canB p la i = true ∧ tailF p i = maxL ((canF p la).map (tailF p)) := by
  rcases maxL_in ((canF p la).map (tailF p)) with e | e
  · omega
  · obtain ⟨i, hi, hie⟩ := List.mem_map.1 e
    obtain ⟨h1, h2⟩ := List.mem_filter.1 hi
    exact ⟨i, by simpa using h1, h2, hie⟩
theorem way_left {p : PlanL} (h : PlanOk p) {i : Nat} (hi : i < p.length) : tailF p i - wkOf p i = maxL ((canF p (i : Int)).map (tailF p)) := by
  rw [canF_after, tailF_eq h hi]; omega

set_option maxRecDepth 100000 in
set_option maxHeartbeats 8000000 in
theorem ref_Longest (v : Value) (p : PlanL) (w : World) (h : InPlan w v p) (hok : PlanOk p) :
    Calls Tryd.prog 62 #[v] w fun e w' => ∃ v', e = .returned v' ∧ Ints w' w.heap.size v' (natL (wayOf p)) ∧ Only [] w w' := by
  have HP := Lib.hid h
  have HO := Lib.hid hok
  have hT := ref_Tails v p w h hok
  have hS := Lib.hid (fun w' (ho : Only [] w w') => ref_Span v p w' (h.same ho) hok)
  have hsb := spanF_bd hok
  obtain ⟨a, cap, rfl, hc1, hc2, _⟩ := h.task
  obtain ⟨n, hn⟩ : ∃ n, p.length = n := ⟨_, rfl⟩
  have HL := Lib.hid hn
  rw [hn] at hc1 HP hT hS
  rw [hn]
  have h30 : n ≤ 30 := by rw [← hn]; exact hok.len
  clear h hn hok
  go_enter Tryd.func62, Tryd.ntmps62
  go_wp2_with fail
  refine hT.mono ?_
  rintro e w1 ⟨L, rfl, hLw, hN1, ho1⟩
  clear hT
  go_wp2_with fail
  refine (hS.out w1 ho1).mono ?_
  rintro e w2 ⟨rfl, ho2⟩
  have hN2 := hN1.only ho2 (by simp)
  have hoo := ho1.trans ho2 (by simp)
  have hLl : L < w2.heap.size ∨ n = 0 := by
    by_cases h0 : n = 0
    · exact .inr h0
    · exact .inl (cell_lt (hN2 0 (by omega)).1)
  have hst : Hid (spanF p = maxL ((canF p (-1)).map (tailF p))) := by show _ = _; rw [canF_start]; rfl
  have hw0 : Hid (wayF p 600 (canF p (-1)) = wayOf p) := by show _ = _; rw [canF_start]; rfl
  obtain ⟨sp, hsp⟩ : ∃ sp, spanF p = sp := ⟨_, rfl⟩
  rw [hsp] at hsb hst
  rw [hsp]
  have hw2s : w.heap.size ≤ w2.heap.size := hoo.size
  clear hN1 ho1 ho2 hS hsp
  go_wp2_with fail
  go_loopg [4, 5, 6, 7, 8] 600 (fun f vl vla vo _ _ wr => ∃ (F : Nat) (out : List Nat) (la ml : Int), F = f ∧ out ++ wayF p F (canF p la) = wayOf p ∧ ml = maxL ((canF p la).map (tailF p)) ∧ ml ≤ F ∧ F ≤ 600 ∧ vl = .int .i64 ml ∧ vla = .int .i64 la ∧ (la = -1 ∨ (0 ≤ la ∧ la < n)) ∧ Ints wr w2.heap.size vo (natL out) ∧ Nums wr L n (tailF p) ∧ Only [] w wr ∧ w2.heap.size ≤ wr.heap.size)
  case atStart => exact ⟨600, [], -1, sp, rfl, by rw [List.nil_append]; exact hw0.out, hst.out, hsb.2, Nat.le_refl _, rfl, rfl, .inl rfl, Ints.nil _ _, hN2, hoo, Nat.le_refl _⟩
  case round =>
    clear hN2 hoo hsb
    obtain ⟨wo, rfl⟩ : ∃ wo : World, wo = wr := ⟨_, rfl⟩
    obtain ⟨F, out, la, ml, hF, hway, hml, hmf, hF6, rfl, rfl, hla, hI, hN, ho, hs⟩ := hrel
    subst hF
    have HWAY := Lib.hid hway
    have HML := Lib.hid hml
    have h0 : 0 ≤ ml := by rw [hml]; exact maxL_ge _
    have hql : out.length ≤ 600 := by
      have h1 := wayF_len p 600 (List.range p.length)
      have h2 : (wayOf p).length = out.length + (wayF p F (canF p la)).length := by rw [← hway, List.length_append]
      unfold wayOf at h2
      omega
    obtain ⟨va, vc, rfl, _⟩ := hI.opt
    obtain ⟨q, hq⟩ : ∃ q, out.length = q := ⟨_, rfl⟩
    have hqo : (natL out).length = q := by rw [natL_len, hq]
    have HQO := Lib.hid hqo
    rw [hqo] at hI ⊢
    rw [hq] at hql
    clear hway hml hq hqo
    by_cases hpos : 0 < ml
    · have hex := Lib.hid (way_some la (p := p) (by rw [← HML.out]; exact hpos))
      obtain ⟨f', rfl⟩ : ∃ f', F = f' + 1 := ⟨F - 1, by omega⟩
      have hstep := Lib.hid (fun i hi h1 h2 hn => way_step (p := p) f' la (i := i) (by rw [← HML.out]; exact hpos) hi h1 (by rw [← HML.out]; exact h2) (by rw [← HML.out]; exact hn))
      have HI := Lib.hid hI
      have HNN := Lib.hid hN
      go_wp2_with fail
      go_loopw [4, 5, 6, 7, 8] (fun vl vla vo vi _ wr => ∃ i : Nat, i ≤ n ∧ vl = .int .i64 ml ∧ vla = .int .i64 la ∧ vo = .slice va q vc ∧ vi = .int .i64 i ∧ (∀ j, j < i → ¬ (canB p la j = true ∧ tailF p j = ml)) ∧ wo = wr) (fun _ _ _ vi _ _ => n - (intOf vi).toNat)
      case atStart => exact ⟨0, Nat.zero_le _, rfl, rfl, rfl, rfl, fun j hj => by omega, rfl⟩
      case round =>
        obtain ⟨i, hi, rfl, rfl, rfl, rfl, hno, rfl⟩ := hrel
        have HNO := Lib.hid hno
        clear hno
        by_cases hin : i < n
        · have hil : i < p.length := by rw [HL.out]; exact hin
          obtain ⟨b, off, rfl⟩ := HP.out.any i hil
          obtain ⟨ua, uc, c0, c1, hrd⟩ := (HP.out.same ho).at i hil
          have cT := (HNN.out i hin).1
          have hnl : (ndOf p i).length ≤ 30 := by have := HO.out.needs i; rw [HL.out] at this; omega
          have hin0 := Lib.hid (fun r hr => ref_in _ (ndOf p i) la wo hrd (by omega) r hr)
          have hcb : Hid (canB p la i = (decide (la < 0) || decide (la ∈ ndOf p i))) := rfl
          have hwk := HO.out.work i hil
          have htl := (tailF_le HO.out hil)
          have hleft := Lib.hid (way_left HO.out hil)
          obtain ⟨m, hm⟩ : ∃ m, (ndOf p i).length = m := ⟨_, rfl⟩
          rw [hm] at c1 hin0
          obtain ⟨t, ht⟩ : ∃ t, tailF p i = t := ⟨_, rfl⟩
          have HT := Lib.hid ht
          rw [ht] at cT htl hleft
          obtain ⟨kx, hkx⟩ : ∃ k, wkOf p i = k := ⟨_, rfl⟩
          rw [hkx] at c0 hwk htl hleft
          clear hrd hnl hm ht hkx
          by_cases hy : canB p la i = true ∧ t = ml
          · obtain ⟨hy1, rfl⟩ := hy
            have hsp := Lib.hid (hstep.out i hil hy1 HT.out HNO.out)
            have hwayn : Hid ((out ++ [i]) ++ wayF p f' (canF p (i : Int)) = wayOf p) := by
              show _ = _
              rw [List.append_assoc, List.singleton_append, ← hsp.out, HWAY.out]
            have hII := HI.out
            have hfo := fun x (hx : x ∈ own (.slice va q vc)) => (hII.own_lt x hx).1
            have c0w : w.cell? ⟨b, off + i * 2, none⟩ = some (.int .i64 kx) ∨ True := .inr trivial
            have hcW := Lib.hid (fun w6 (ho6 : Only [] w w6) => (by
              obtain ⟨_, _, k0, _, _⟩ := HP.out.at i hil
              have e2 : wkOf p i = kx := by
                obtain ⟨_, _, k2, _, _⟩ := (HP.out.same ho).at i hil
                rw [k2] at c0
                simpa using c0
              rw [e2] at k0
              exact (ho6.cell (p := ⟨b, off + i * 2, none⟩) (cell_lt k0) (by simp)).trans k0 : w6.cell? ⟨b, off + i * 2, none⟩ = some (.int .i64 kx)))
            clear c0w hsp hstep
            rcases hla with rfl | ⟨hla0, hla1⟩
            · go_wp2_with (at_builtin; refine wpList_push rfl (.tmp 41) (.tmp 43) rfl wo w2.heap.size _ _ wo.heap.size i q hII HQO.out (by omega) hs rfl rfl ((Only.refl [] wo).alloc _) (World.cell?_alloc_at _ _ _ _ rfl) ?_; intro g cap3 w6 hI6 hO6 hK6; have ho6 : Only [] w w6 := ho.trans hO6 (fun x hx hl => by have := hfo x hx; omega); have cW6 := hcW.out w6 ho6)
              have hI7 := hI6
              rw [← natL_push] at hI7
              have hN7 := HNN.out.only hO6 (fun hx => by have := hfo _ hx; rcases hLl with h | h <;> omega)
              have hs7 : w2.heap.size ≤ w6.heap.size := by have := hO6.size; omega
              have HI7 := Lib.hid hI7
              have HN7 := Lib.hid hN7
              clear hI6 hI7 hN7 hO6 hII
              go_roundg f'
              case rel => exact ⟨f', out ++ [i], (i : Int), t - kx, rfl, hwayn.out, hleft.out, by omega, by omega, by go_num, by first | rfl | go_num, .inr ⟨by omega, by omega⟩, HI7.out, HN7.out, ho6, hs7⟩
              case measure => omega
            · have hy2 : decide (la ∈ ndOf p i) = true := by
                have h5 := hcb.out
                rw [hy1, decide_eq_false (show ¬ la < 0 by omega), Bool.false_or] at h5
                exact h5.symm
              have hin1 := hin0.out true hy2
              have hlf : decide (la < 0) = false := decide_eq_false (by omega)
              clear hy2 hin0
              go_wp2_with fail
              refine hin1.mono ?_
              rintro e w9 ⟨rfl, hw9⟩
              subst hw9
              clear hin1
              go_wp2_with (at_builtin; refine wpList_push rfl (.tmp 41) (.tmp 43) rfl wo w2.heap.size _ _ wo.heap.size i q hII HQO.out (by omega) hs rfl rfl ((Only.refl [] wo).alloc _) (World.cell?_alloc_at _ _ _ _ rfl) ?_; intro g cap3 w6 hI6 hO6 hK6; have ho6 : Only [] w w6 := ho.trans hO6 (fun x hx hl => by have := hfo x hx; omega); have cW6 := hcW.out w6 ho6)
              have hI7 := hI6
              rw [← natL_push] at hI7
              have hN7 := HNN.out.only hO6 (fun hx => by have := hfo _ hx; rcases hLl with h | h <;> omega)
              have hs7 : w2.heap.size ≤ w6.heap.size := by have := hO6.size; omega
              have HI7 := Lib.hid hI7
              have HN7 := Lib.hid hN7
              clear hI6 hI7 hN7 hO6 hII
              go_roundg f'
              case rel => exact ⟨f', out ++ [i], (i : Int), t - kx, rfl, hwayn.out, hleft.out, by omega, by omega, by go_num, by first | rfl | go_num, .inr ⟨by omega, by omega⟩, HI7.out, HN7.out, ho6, hs7⟩
              case measure => omega
          · have hno2 : Hid (∀ j, j < i + 1 → ¬ (canB p la j = true ∧ tailF p j = ml)) := by
              show ∀ j, _
              intro j hj
              by_cases e : j = i
              · subst e; rw [HT.out]; exact hy
              · exact HNO.out j (by omega)
            rcases hla with rfl | ⟨hla0, hla1⟩
            · have hne : (t == ml) = false := by
                have : ¬ t = ml := fun e => hy ⟨by rw [hcb.out]; rfl, e⟩
                simpa using this
              clear hy
              go_wp2
              go_roundw
              case rel => exact ⟨i + 1, by omega, rfl, rfl, rfl, by go_num, hno2.out, trivial⟩
              case measure => (simp [intOf]; try omega)
            · obtain ⟨r, hr⟩ : ∃ r, decide (la ∈ ndOf p i) = r := ⟨_, rfl⟩
              have hin1 := hin0.out r hr
              have hlf : decide (la < 0) = false := decide_eq_false (by omega)
              have hcr : canB p la i = r := by rw [hcb.out, hr, hlf, Bool.false_or]
              rw [hcr] at hy
              clear hr hin0 hcr
              cases r with
              | true =>
                have hne : (t == ml) = false := by
                  have : ¬ t = ml := fun e => hy ⟨rfl, e⟩
                  simpa using this
                clear hy
                go_wp2_with fail
                refine hin1.mono ?_
                rintro e w9 ⟨rfl, hw9⟩
                subst hw9
                clear hin1
                go_wp2
                go_roundw
                case rel => exact ⟨i + 1, by omega, rfl, rfl, rfl, by go_num, hno2.out, trivial⟩
                case measure => (simp [intOf]; try omega)
              | false =>
                clear hy
                go_wp2_with fail
                refine hin1.mono ?_
                rintro e w9 ⟨rfl, hw9⟩
                subst hw9
                clear hin1
                go_wp2
                go_roundw
                case rel => exact ⟨i + 1, by omega, rfl, rfl, rfl, by go_num, hno2.out, trivial⟩
                case measure => (simp [intOf]; try omega)
        · exfalso
          obtain rfl : i = n := by omega
          obtain ⟨j, hj, h1, h2⟩ := hex.out
          exact HNO.out j (by rw [← HL.out]; exact hj) ⟨h1, by rw [HML.out]; exact h2⟩
    · obtain rfl : ml = 0 := by omega
      have hend : Hid (out = wayOf p) := by show _ = _; rw [← HWAY.out, wayF_none p F _ HML.out.symm, List.append_nil]
      have hI9 := Lib.hid (hI.mono (base' := w.heap.size) (by omega))
      clear hN hI hpos hmf
      go_wp2
      go_ret
      exact ⟨_, rfl, by rw [← hend.out]; exact hI9.out, ho⟩

end Go.Proofs.YtadjcooemeaaeaaDoor
