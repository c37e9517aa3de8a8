/-
  The statement ListUrgent: the urgent order of a plan has each task once, the longest tail first. No condition but the listed variable's.
-/
import Derived.Test.YtnolckhideellaaFrame
import Derived.Test.YtnolckhideellaaUrgent
import Derived.Test.YtnolckhideellaaChain
import Derived.Test.YtnolckhideellaaChainD
import Derived.Test.YtnolckhideellaaDepth
import Derived.Test.YtnolckhideellaaDepthNoA
import Derived.Test.YtnolckhideellaaMarks
namespace Go.Proofs.Ytnolckhideellaa.listUrgent
open Go.ChangeShapes Go.WideShapes Go.ChangeAt Go.RowKit
open Go.ChangeMaps (open_string shut_string)
set_option linter.unusedVariables false


theorem urgent3 {T : Nat → Int} {g : Nat → Int} (t0 : T 0 = 3) (t1 : T 1 = 2) (t2 : T 2 = 1) (hs : SR (tt T) g 0 3) (hr : Re (fun i => (i : Int)) g 0 3) : g 0 = 0 ∧ g 2 = 2 := by
  have key : ∀ i, i < 3 → g i = 0 ∨ g i = 1 ∨ g i = 2 := fun i hi => by
    obtain ⟨j, _, h2, h3⟩ := hr.2.1 i (Nat.zero_le _) hi
    have h3 : g i = (j : Int) := h3
    omega
  have h1 := hs 0 1 (Nat.le_refl _) (by omega) (by omega)
  have h2 := hs 1 2 (by omega) (by omega) (by omega)
  unfold ltK tt at h1 h2
  rcases key 0 (by omega) with e0 | e0 | e0 <;> rcases key 1 (by omega) with e1 | e1 | e1 <;> rcases key 2 (by omega) with e2 | e2 | e2 <;>
    simp [e0, e1, e2, t0, t1, t2] at h1 h2 ⊢

/-- [30]bool, all false. -/
def falses30 : Array Value := Array.replicate 30 (.bool false)
theorem zero_30 (w : World) : (zeroValue 30).run Try.prog w = .ok (.agg falses30) w := by kernel_rfl
theorem bools_30 (w : World) : Bools (w.alloc (.cells falses30 30)) w.heap.size 30 (fun _ => false) :=
  Bools.new w falses30 _ 30 fun i hi => by simp [falses30, hi]

def seenF (g : Nat → Int) (i j : Nat) : Bool := (List.range i).any fun k => decide (g k = (j : Int))
theorem seenF_zero (g : Nat → Int) : seenF g 0 = fun _ => false := by funext j; rfl
theorem seenF_succ {g : Nat → Int} {i x : Nat} (h : g i = (x : Int)) : (fun j => if j = x then true else seenF g i j) = seenF g (i + 1) := by
  funext j
  unfold seenF
  rw [List.range_succ, List.any_append]
  by_cases e : j = x
  · subst e; simp [h]
  · have e2 : ¬ ((x : Int) = (j : Int)) := by omega
    simp [e, h, e2]
theorem seenF_fresh {T g : Nat → Int} {n i x : Nat} (hs : SR (tt T) g 0 n) (hi : i < n) (h : g i = (x : Int)) : seenF g i x = false := by
  unfold seenF
  rw [List.any_eq_false]
  intro k hk
  have hk' : k < i := by simpa using hk
  have := hs k i (Nat.zero_le _) hk' hi
  unfold ltK at this
  simp only [decide_eq_true_eq]
  intro e
  rw [e, h] at this
  omega

set_option maxHeartbeats 8000000 in
set_option maxRecDepth 100000 in
theorem walk (v0 : Value) (l0 : PlanL) (w : World) (w0 : ArgPlan w v0 l0) :
    Calls Try.prog 3 #[v0] w fun e w' => e = .returned (.bool true) ∧ Below w.heap.size w w' := by
  have HP := Lib.hid w0.2
  have hch := law_chain 3 1 w (by omega)
  rw [show ((3 : Nat) : Int) = 3 from rfl] at hch
  have hok3 := chain_ok 3 1 (by omega) (by omega) (by omega)
  have t0 : tailF (chainP 3 1) 0 = 3 := chain_tail (by omega) (by omega) (by omega) 2 0 rfl
  have t1 : tailF (chainP 3 1) 1 = 2 := chain_tail (by omega) (by omega) (by omega) 1 1 rfl
  have t2 : tailF (chainP 3 1) 2 = 1 := chain_tail (by omega) (by omega) (by omega) 0 2 rfl
  have HU3 := Lib.hid (fun v w' (h : InPlan w' v (chainP 3 1)) => list_Urgent v _ w' h hok3)
  have H3 := Lib.hid (fun g => urgent3 (g := g) t0 t1 t2)
  clear w0 hok3 t0 t1 t2
  go_enter Try.func3, Try.ntmps3
  go_wp2_with fail
  refine hch.mono ?_
  rintro e w1 ⟨v1, rfl, hP1, ho1⟩
  have hu := HU3.out v1 w1 hP1.plan
  rw [chainP_len] at hu
  clear hch hP1 HU3
  go_wp2_with fail
  refine hu.mono ?_
  rintro e w2 ⟨v2, rfl, ho2, hx⟩
  have ho2 := ho1.trans ho2 (by simp)
  rcases hx with ⟨hx, _⟩ | ⟨_, G3, c3, g3, rfl, _, hN3, hs3, hr3, _⟩
  · omega
  have h33 := H3.out g3 hs3 hr3
  have d0 := (hN3 0 (by omega)).1
  have d2 := (hN3 2 (by omega)).1
  rw [h33.1] at d0
  rw [h33.2] at d2
  clear hu H3 hs3 hr3 hN3 h33 ho1
  by_cases h0 : planFault l0 = 0
  · have hok := (planOk_iff l0).2 h0
    have hu := list_Urgent v0 l0 w2 (HP.out.same ho2) hok
    have hT := Lib.hid (fun w' (ho : Only [] w w') => depth_Tails v0 l0 w' (HP.out.same ho) hok)
    have h30 := hok.len
    have hz30 := zero_30
    obtain ⟨pa, pc, rfl, _⟩ := HP.out.task
    obtain ⟨n, hn⟩ : ∃ n, l0.length = n := ⟨_, rfl⟩
    obtain ⟨T, hTT⟩ : ∃ T, tailF l0 = T := ⟨_, rfl⟩
    rw [hn] at hu hT h30 ⊢
    rw [hTT] at hu hT
    clear h0 hok hn hTT HP
    go_wp2_with fail
    refine hu.mono ?_
    rintro e w3 ⟨v3, rfl, ho3, hx⟩
    have ho3 := ho2.trans ho3 (by simp)
    clear hu ho2 d0 d2
    rcases hx with ⟨hn0, rfl⟩ | ⟨hpos, G, c, g, rfl, hG, hN, hs, hr, _⟩
    · subst hn0
      go_wp2_with fail
      refine (hT.out w3 ho3).mono ?_
      rintro e w4 ⟨A, rfl, _, _, ho4⟩
      have ho4 := ho3.trans ho4 (by simp)
      have hal := Lib.hid (ho4.alloc (.cells falses30 30))
      clear hT ho3 ho4
      go_wp2_with fail
      go_loopw [10] (fun vi wr => vi = .int .i64 0 ∧ Only [] w wr) (fun _ _ => 0)
      case atStart => exact ⟨rfl, hal.out⟩
      case round =>
        obtain ⟨rfl, ho⟩ := hrel
        go_wp2
        go_ret
        exact ⟨by rfl, ho.below (Nat.le_refl _) (by simp)⟩
    · have hpr := Lib.hid hpos
      have hG3 : G < w3.heap.size := cell_lt (hN 0 hpos).1
      go_wp2_with fail
      refine (hT.out w3 ho3).mono ?_
      rintro e w4 ⟨A, rfl, hA, hNA, ho4⟩
      have hN4 := hN.only ho4 (by simp)
      have ho4 := ho3.trans ho4 (by simp)
      have hsz := (ho4.size)
      have hA4 : A < w4.heap.size := cell_lt (hNA 0 hpos).1
      have hG4 : G < w4.heap.size := cell_lt (hN4 0 hpos).1
      have hal := Lib.hid ((Only.refl [] w4).alloc (.cells falses30 30))
      have hB := Lib.hid (bools_30 w4)
      have HNG := Lib.hid hN4
      have HNA := Lib.hid hNA
      have HO4 := Lib.hid ho4
      have HS := Lib.hid hs
      have HR := Lib.hid hr
      clear hT ho3 ho4 hN hN4 hNA hA hG hG3 hs hr hsz hpos
      go_wp2_with fail
      go_loopw [10] (fun vi wr => ∃ i : Nat, i ≤ n ∧ vi = .int .i64 i ∧ Bools wr w4.heap.size 30 (seenF g i) ∧ Only [] w4 wr) (fun vi _ => n - (intOf vi).toNat)
      case atStart => exact ⟨0, Nat.zero_le _, rfl, by rw [seenF_zero]; exact hB.out, hal.out⟩
      case round =>
        obtain ⟨i, hi, rfl, hBr, hor⟩ := hrel
        clear hB hal hz30
        by_cases hin : i < n
        · obtain ⟨x, _, hxn, hxe⟩ := HR.out.2.1 i (Nat.zero_le _) hin
          have hxe : g i = (x : Int) := hxe
          have c1 := ((HNG.out.only hor (by simp)) i hin).1
          rw [hxe] at c1
          obtain ⟨c2, f2⟩ := hBr x (by omega)
          rw [seenF_fresh HS.out hin hxe] at c2
          obtain ⟨ws, hws⟩ : ∃ ws, wr.setCell ⟨w4.heap.size, x, none⟩ (.bool true) = ws := ⟨_, rfl⟩
          have hset := hBr.set x true
          rw [seenF_succ hxe, hws] at hset
          have hos := hor.setCell (p := ⟨w4.heap.size, x, none⟩) (fun h => by simp at h) (.bool true)
          rw [hws] at hos
          have hset := Lib.hid hset
          have s1 := ((HNG.out.only hos (by simp)) i hin).1
          rw [hxe] at s1
          have s2 := ((HNA.out.only hos (by simp)) x hxn).1
          have hx30 : x < 30 := by omega
          have hxr1 : decide ((x : Int) < 0) = false := by simp
          have hxr2 : decide ((n : Int) ≤ (x : Int)) = false := by simp; omega
          have hxr3 : decide ((30 : Int) ≤ (x : Int)) = false := by simp; omega
          rcases Nat.eq_zero_or_pos i with rfl | hip
          · have hos := Lib.hid hos
            clear hBr hor
            go_wp2_with fail
            have e0 : decide ((0:Int) < 0) = false := by decide
            go_quiet (fail)
            go_wp2
            go_roundw
            case rel => exact ⟨1, by omega, rfl, hset.out.only ((Only.refl [] ws).drewN nq) (by simp), hos.out.drewN _⟩
            case measure => (simp [intOf]; try omega)
          · obtain ⟨y, _, hyn, hye⟩ := HR.out.2.1 (i - 1) (Nat.zero_le _) (by omega)
            have hye : g (i - 1) = (y : Int) := hye
            obtain ⟨j, hj⟩ : ∃ j, i - 1 = j := ⟨_, rfl⟩
            rw [hj] at hye
            have s3 := ((HNG.out.only hos (by simp)) j (by omega)).1
            rw [hye] at s3
            have s4 := ((HNA.out.only hos (by simp)) y hyn).1
            have hle := HS.out j i (Nat.zero_le _) (by omega) hin
            rw [hxe, hye] at hle
            have hle2 : decide (T y < T x) = false := by
              unfold ltK tt at hle
              simp at hle ⊢
              omega
            have hji : (i : Int) - 1 = (j : Int) := by omega
            have hw1 : IntKind.i64.wrap (j : Int) = (j : Int) := IntWalk.i64_in _ (by omega)
            have hyr1 : decide ((y : Int) < 0) = false := by simp
            have hyr2 : decide (n ≤ y) = false := by simp; omega
            have hip' : decide ((0 : Int) < (i : Int)) = true := by simp; omega
            have hos := Lib.hid hos
            have HJ := Lib.hid hj
            clear hBr hor hj hye
            go_wp2_with fail
            go_quiet (fail)
            go_wp2
            go_roundw
            case rel => exact ⟨i + 1, by omega, by go_num, hset.out.only ((Only.refl [] ws).drewN nq) (by simp), hos.out.drewN _⟩
            case measure => (simp [intOf]; try omega)
        · obtain rfl : i = n := by omega
          have ho := HO4.out.trans hor (by simp)
          clear hBr hor
          go_wp2
          go_ret
          exact ⟨by simp, ho.below (Nat.le_refl _) (by simp)⟩
  · have hno := list_Urgent_no v0 l0 w2 (HP.out.same ho2) h0
    obtain ⟨F, hF⟩ : ∃ F, planFault l0 = F := ⟨_, rfl⟩
    rw [hF] at hno
    clear hF h0
    go_wp2_with fail
    refine hno.mono ?_
    rintro e w3 ⟨rfl, ho3⟩
    have ho3 := ho2.trans ho3 (by simp)
    clear hno
    go_wp2
    go_ret
    exact ⟨by rfl, ho3.below (Nat.le_refl _) (by simp)⟩

end Go.Proofs.Ytnolckhideellaa.listUrgent
