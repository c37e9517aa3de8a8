/-
  The statement CellsFault: along a chain behind a task that divides by nothing all are faults; an op that asks for the first of no faults is none. No condition but the listed variable's.
-/
import Derived.Test.YtbaoecmmggoaiaaP2CellsFault
import Derived.Test.YtbaoecmmggoaiaaP28CellsFault
import Derived.Test.YtbaoecmmggoaiaaP30CellsFault
import Derived.Test.YtbaoecmmggoaiaaP31CellsFault
namespace Go.Proofs.Ytbaoecmmggoaiaa.cellsFault
open Go.ChangeShapes Go.WideShapes Go.ChangeAt Go.RowKit
open Go.ChangeMaps (open_string shut_string)
set_option linter.unusedVariables false


theorem chain_falls {n : Nat} (h2 : 2 ≤ n) (h30 : n ≤ 30) {ops : List Opn} (h0 : opAt ops 0 = ⟨4, 5⟩) (h1 : ∀ i, 0 < i → i + 1 < n → opAt ops i = ⟨1, 1⟩) {f : Nat → Ce} (hc : Comes (chainP n 1) ops f) :
    (∀ i, i + 1 < n → f i = ceBad) ∧ (opAt ops (n - 1) = ⟨1, 1⟩ → f (n - 1) = ceBad) ∧ (opAt ops (n - 1) = ⟨5, 7⟩ → f (n - 1) = ⟨7, false⟩) := by
  have hz : f 0 = ceBad := by
    rw [hc 0 (by rw [chainP_len]; omega), h0]
    unfold needC
    rw [chain_nd _ _ _ (by omega), if_pos rfl]
    rfl
  have hs : ∀ i, i + 1 < n → f (i + 1) = doC (opAt ops (i + 1)) [f i] := fun i hi => by
    rw [hc (i + 1) (by rw [chainP_len]; omega)]
    unfold needC
    rw [chain_nd _ _ _ hi, if_neg (by omega)]
    have e : (((i + 1 : Nat) : Int) - 1).toNat = i := by omega
    simp only [List.map_cons, List.map_nil, e]
  have key : ∀ i, i + 1 < n → f i = ceBad := by
    intro i
    induction i with
    | zero => intro _; exact hz
    | succ i ih =>
      intro hi
      rw [hs i (by omega), ih (by omega), h1 (i + 1) (by omega) hi]
      rfl
  obtain ⟨m, rfl⟩ : ∃ m, n = m + 2 := ⟨n - 2, by omega⟩
  refine ⟨key, fun h => ?_, fun h => ?_⟩
  · show f (m + 1) = _
    have h : opAt ops (m + 1) = ⟨1, 1⟩ := h
    rw [hs m (by omega), key m (by omega), h]; rfl
  · show f (m + 1) = _
    have h : opAt ops (m + 1) = ⟨5, 7⟩ := h
    rw [hs m (by omega), key m (by omega), h]; rfl

def sums (i : Nat) : List Opn := List.replicate i ⟨1, 1⟩
theorem sums_len (i : Nat) : (sums i).length = i := by simp [sums]
theorem sums_push (i : Nat) : flatOp (sums i) ++ [.int .i64 1, .int .i64 1] = flatOp (sums (i + 1)) := by
  have e : sums (i + 1) = sums i ++ [⟨1, 1⟩] := by simp [sums, List.replicate_succ']
  rw [e]; exact flatOp_push _ ⟨1, 1⟩
theorem sums_at (i j : Nat) (h : j < i) : opAt (sums i) j = ⟨1, 1⟩ := by simp [opAt, sums, h]

set_option maxHeartbeats 4000000 in
set_option maxRecDepth 100000 in
theorem walk (a0 : Int) (a1 : Bool) (w : World) (w0 : (Lit.int .i64 a0).wf = true) :
    Calls Try.prog 3 #[.int .i64 a0, .bool a1] w fun e w' => e = .returned (.bool true) ∧ Below w.heap.size w w' := by
  have bd0 := bounds_i64 w0
  clear w0
  go_enter Try.func3, Try.ntmps3
  by_cases h2 : 2 ≤ a0
  · by_cases h30 : a0 ≤ 30
    · obtain ⟨n, rfl⟩ := Int.eq_ofNat_of_zero_le (show 0 ≤ a0 by omega)
      have hn2 : 2 ≤ n := by omega
      have hn30 : n ≤ 30 := by omega
      go_wp2_with fail
      go_loopw [5, 6] (fun v5 v6 wr => ∃ i : Nat, i ≤ n ∧ v6 = .int .i64 i ∧ wr.ownsRow w.heap.size 24 2 v5 i (flatOp (sums i)) ∧ Only [] w wr) (fun _ v6 _ => n - (intOf v6).toNat)
      case atStart => exact ⟨0, Nat.zero_le _, rfl, World.ownsRow_nil _ _ _ _, Only.refl _ _⟩
      case round =>
        obtain ⟨wo, rfl⟩ : ∃ wo : World, wo = wr := ⟨_, rfl⟩
        obtain ⟨i, hi, rfl, hI, ho⟩ := hrel
        by_cases hin : i < n
        · have hfar := Row.far hI
          have hone : Hid (RowAt (wo.alloc (.cells #[.int .i64 1, .int .i64 1] 24)) (.slice (some ⟨wo.heap.size, 0, none⟩) 1 1) 1 2 [.int .i64 1, .int .i64 1]) :=
            RowAt.one (cs := #[.int .i64 1, .int .i64 1]) (by have h := heap_alloc_new wo (.cells #[.int .i64 1, .int .i64 1] 24); simpa using h) rfl (by intro y hy; simp at hy; rcases hy with rfl | rfl <;> rfl)
          have hsz := ho.size
          have HI := Lib.hid hI
          have HO := Lib.hid ho
          have HPU := Lib.hid (sums_push i)
          clear hI ho
          go_wp2_with (at_builtin; refine wpList_append_rows sliceOf_op rfl (.tmp 20) (.tmp 22) rfl wo w.heap.size _ i _ _ 1 _ HI.out hone.out (by omega) hsz rfl rfl ((Only.refl [] _).alloc _) ?_; intro v3 w3 hI3 hO3 hK3)
          rw [HPU.out] at hI3
          have HI3 := Lib.hid hI3
          have ho3 : Hid (Only [] w w3) := HO.out.trans hO3 (fun x hx hl => by have := (hfar x hx).1; omega)
          clear hI3 hO3 hK3
          go_roundw
          case rel => exact ⟨i + 1, by omega, by go_num, HI3.out, ho3.out⟩
          case measure => (simp [intOf]; try omega)
        · obtain rfl : i = n := by omega
          obtain ⟨a, cap, rfl, _, _, hg⟩ := Row.form hI
          obtain ⟨g, rfl, hg1, hg2⟩ := hg (by omega)
          have hrow := OwnOps.row hI (sums_len i)
          obtain ⟨k, hk⟩ : ∃ k, i = k + 1 := ⟨i - 1, by omega⟩
          have HK := Lib.hid hk
          have hki : (i : Int) - 1 = (k : Int) := by omega
          have hk0 : 0 < k := by omega
          have hkw : IntKind.i64.wrap (k : Int) = (k : Int) := IntWalk.i64_in _ (by omega)
          have hkl : k < i := by omega
          have s0 := sums_at i 0 (by omega)
          have sk := sums_at i k (by omega)
          have c0 : wo.cell? ⟨g, 0, none⟩ = some (.int .i64 1) := by have := (hrow 0 (by omega) 0 _ rfl).1; rw [s0] at this; exact this
          have c1 : wo.cell? ⟨g, 1, none⟩ = some (.int .i64 1) := by have := (hrow 0 (by omega) 1 _ rfl).1; rw [s0] at this; exact this
          have f0 : wo.frozen? ⟨g, 0, none⟩ = false := (hrow 0 (by omega) 0 _ rfl).2
          have f1 : wo.frozen? ⟨g, 1, none⟩ = false := (hrow 0 (by omega) 1 _ rfl).2
          obtain ⟨w5, hw5⟩ : ∃ w5, (wo.setCell ⟨g, 0, none⟩ (.int .i64 4)).setCell ⟨g, 1, none⟩ (.int .i64 5) = w5 := ⟨_, rfl⟩
          have hr5 : RowOp w5 g i (updOp (opAt (sums i)) 0 ⟨4, 5⟩) := by
            have := hrow.set 0 (by omega) ⟨4, 5⟩
            rw [← hw5]; exact this
          have ho5 : Only [] w w5 := by
            rw [← hw5]
            exact (ho.setCell (p := ⟨g, 0, none⟩) (fun h => by simp at h; omega) _).setCell (p := ⟨g, 1, none⟩) (fun h => by simp at h; omega) _
          have HR5 := Lib.hid hr5
          have HO5 := Lib.hid ho5
          have d0 : w5.cell? ⟨g, k * 2, none⟩ = some (.int .i64 1) := by have := (hr5 k hkl 0 _ rfl).1; simp only [updOp, if_neg (show ¬ k = 0 by omega)] at this; rw [sk] at this; exact this
          have d1 : w5.cell? ⟨g, k * 2 + 1, none⟩ = some (.int .i64 1) := by have := (hr5 k hkl 1 _ rfl).1; simp only [updOp, if_neg (show ¬ k = 0 by omega)] at this; rw [sk] at this; exact this
          have e0 : w5.frozen? ⟨g, k * 2, none⟩ = false := (hr5 k hkl 0 _ rfl).2
          have e1 : w5.frozen? ⟨g, k * 2 + 1, none⟩ = false := (hr5 k hkl 1 _ rfl).2
          have HCH := Lib.hid (fun W => law_chain i 1 W hn30)
          clear hI ho hrow hk s0 hr5 ho5
          go_upto_if 27 with (fail)
          go_cut [] (fun wx => ∃ fF, RowOp wx g i fF ∧ fF 0 = ⟨4, 5⟩ ∧ (∀ j, 0 < j → j < k → fF j = ⟨1, 1⟩) ∧ fF k = (if a1 = true then ⟨5, 7⟩ else ⟨1, 1⟩) ∧ Only [] w wx)
          case first =>
            have hf0 : ∀ j, 0 < j → j < i → updOp (opAt (sums i)) 0 ⟨4, 5⟩ j = ⟨1, 1⟩ := fun j h1 h2 => by unfold updOp; rw [if_neg (by omega)]; exact sums_at i j h2
            have HF0 := Lib.hid hf0
            clear hf0
            cases a1 with
            | false =>
              go_wp2
              go_meet
              exact ⟨_, HR5.out, rfl, fun j h1 h2 => HF0.out j h1 (by omega), HF0.out k hk0 hkl, HO5.out⟩
            | true =>
              have hr6 := HR5.out.set k hkl ⟨5, 7⟩
              have ho6 : Only [] w ((w5.setCell ⟨g, k * 2, none⟩ (.int .i64 5)).setCell ⟨g, k * 2 + 1, none⟩ (.int .i64 7)) := (HO5.out.setCell (p := ⟨g, k * 2, none⟩) (fun h => by simp at h; omega) _).setCell (p := ⟨g, k * 2 + 1, none⟩) (fun h => by simp at h; omega) _
              have HR6 := Lib.hid hr6
              have HO6 := Lib.hid ho6
              clear hr6 ho6
              go_wp2
              go_meet
              refine ⟨_, HR6.out, ?_, fun j h1 h2 => ?_, ?_, HO6.out⟩
              · unfold updOp; rw [if_neg (by omega)]; rfl
              · unfold updOp; rw [if_neg (by omega)]; exact HF0.out j h1 (by omega)
              · unfold updOp; rw [if_pos rfl]; rfl
          case rest =>
          obtain ⟨fF, hr6, hF0, hF1, hFk, ho6⟩ := hcut
          have hl : (listOp i fF).length = (chainP i 1).length := by rw [listOp_len, chainP_len]
          have hck := chain_ok i 1 hn30 (by omega) (by omega)
          have hat : ∀ j, j < i → opAt (listOp i fF) j = fF j := fun j hj => listOp_at i fF j hj
          have hFok : ∀ j, j < i → opOk (fF j) := fun j hj => by
            by_cases e0 : j = 0
            · subst e0; rw [hF0]; unfold opOk inV; simp
            · by_cases ek : j = k
              · subst ek; rw [hFk]; cases a1 <;> (unfold opOk inV; simp)
              · rw [hF1 j (by omega) (by omega)]; unfold opOk inV; simp
          have hops : ∀ x ∈ listOp i fF, opOk x := fun x hx => by
            obtain ⟨j, hj, rfl⟩ := List.mem_map.1 hx
            exact hFok j (by simpa using hj)
          have hz := allFault_ok hck hl hops
          have hcm := foldA_comes (listOp i fF) (orderOf_ok hck)
          have hfall := chain_falls hn2 hn30 (ops := listOp i fF) (by rw [hat 0 (by omega)]; exact hF0) (fun j h1 h2 => by rw [hat j (by omega)]; exact hF1 j h1 (by omega)) hcm
          obtain ⟨f, hf⟩ : ∃ f, foldA (chainP i 1) (listOp i fF) (orderOf (chainP i 1)) = f := ⟨_, rfl⟩
          have HALL := Lib.hid (fun v1 W hP hu => cells_All v1 (.slice (some ⟨g, 0, none⟩) i cap) (chainP i 1) (listOp i fF) W hP hu (by rw [listOp_len]; omega))
          rw [hf] at hfall HALL
          rw [hz, chainP_len] at HALL
          have hfb : f k = if a1 = true then ⟨7, false⟩ else ceBad := by
            have e1 : i - 1 = k := by have := HK.out; omega
            have h2 := hfall.2
            rw [e1, hat k hkl, hFk] at h2
            cases a1 with
            | true => exact h2.2 rfl
            | false => exact h2.1 rfl
          have hf0 : f 0 = ceBad := hfall.1 0 (by omega)
          have HF := Lib.hid hfb
          have HF0 := Lib.hid hf0
          have HR6 := Lib.hid hr6
          clear hl hck hat hFok hops hz hcm hfall hf hfb hf0 hF0 hF1 hFk hr6 HR5 HO5 c0 c1 f0 f1 d0 d1 e0 e1 hw5 sk
          go_wp2_with fail
          refine (HCH.out _).mono ?_
          rintro e w7 ⟨v7, rfl, hP7, ho7⟩
          have hall := HALL.out v7 w7 hP7.plan (by have := (HR6.out.list cap).only ho7 (by simp); exact this)
          have ho7 := ho6.trans ho7 (by simp)
          clear hP7 ho6
          go_wp2_with fail
          refine hall.mono ?_
          rintro e w8 ⟨v8, rfl, ho8, h8⟩
          have ho8 := ho7.trans ho8 (by simp)
          rcases h8 with ⟨hno, _⟩ | ⟨_, A, rfl, _, hR⟩
          · exact absurd rfl hno
          rw [errV_zero]
          obtain ⟨_, p1⟩ := hR.at 0 (by omega)
          obtain ⟨q0, q1⟩ := hR.at k hkl
          rw [HF0.out] at p1
          rw [HF.out] at q0 q1
          have p1 : w8.cell? ⟨A, 1, none⟩ = some (.bool true) := p1
          have HO8 := Lib.hid (ho8.below (B := w.heap.size) (Nat.le_refl _) (by simp))
          clear hall ho7 hR ho8
          cases a1 with
          | true =>
            have q0 : w8.cell? ⟨A, k * 2, none⟩ = some (.int .i64 7) := q0
            have q1 : w8.cell? ⟨A, k * 2 + 1, none⟩ = some (.bool false) := q1
            go_wp2
            go_ret
            exact ⟨rfl, HO8.out⟩
          | false =>
            have q1 : w8.cell? ⟨A, k * 2 + 1, none⟩ = some (.bool true) := q1
            clear q0
            go_wp2
            go_ret
            exact ⟨rfl, HO8.out⟩
    · go_wp2
      go_ret
      exact ⟨rfl, (Only.refl [] w).below (Nat.le_refl _) (by simp)⟩
  · go_wp2
    go_ret
    exact ⟨rfl, (Only.refl [] w).below (Nat.le_refl _) (by simp)⟩

end Go.Proofs.Ytbaoecmmggoaiaa.cellsFault
