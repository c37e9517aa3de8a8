/-
  An array of ints in memory, by its numbers; make([]int, n) as one.
  Contracts of package trace: Check of any deeds, Counts.
-/
import Derived.Test.YtoofalchkedciaaDoorP19TraceBack
import Derived.Test.YtoofalchkedciaaDoorP38TraceBack
import Derived.Test.YtoofalchkedciaaDoorP39TraceBack
import Derived.Test.YtoofalchkedciaaDoorP6TraceBack
namespace Go.Proofs.YtoofalchkedciaaDoor
open Go.RowKit Go.Deep

def Nums (w : World) (A N : Nat) (f : Nat → Int) : Prop := ∀ i, i < N → w.cell? ⟨A, i, none⟩ = some (.int .i64 (f i)) ∧ w.frozen? ⟨A, i, none⟩ = false

theorem Nums.only {w w' : World} {A N : Nat} {f : Nat → Int} {S : List Nat} (h : Nums w A N f) (ho : Only S w w') (hA : A ∉ S) : Nums w' A N f := fun i hi => by
  obtain ⟨h1, h2⟩ := h i hi
  have hl := cell_lt h1
  exact ⟨(ho.cell (p := ⟨A, i, none⟩) hl hA).trans h1, (ho.frozen (p := ⟨A, i, none⟩) hl hA).trans h2⟩

def updI (f : Nat → Int) (j : Nat) (x : Int) : Nat → Int := fun i => if i = j then x else f i

theorem Nums.set {w : World} {A N : Nat} {f : Nat → Int} (h : Nums w A N f) (j : Nat) (x : Int) :
    Nums (w.setCell ⟨A, j, none⟩ (.int .i64 x)) A N (updI f j x) := fun i hi => by
  obtain ⟨h1, h2⟩ := h i hi
  refine ⟨?_, by rw [World.frozen?_setCell]; exact h2⟩
  unfold updI
  by_cases e : i = j
  · subst e
    rw [World.cell?_setCell_same _ _ _ h1]
    simp
  · rw [World.cell?_setCell_other _ _ _ _ (fun he => e (congrArg Addr.off he).symm), h1]
    simp [e]

theorem Nums.congr {w : World} {A N : Nat} {f g : Nat → Int} (h : Nums w A N f) (e : ∀ i, i < N → f i = g i) : Nums w A N g := fun i hi => by
  rw [← e i hi]; exact h i hi

theorem made_nums (w : World) (n : Nat) : Nums (w.alloc (.cells (madeCells #[.int .i64 0] n) 3)) w.heap.size n (fun _ => 0) := fun i hi => by
  refine ⟨?_, World.frozen?_alloc_at _ _ _ _ rfl⟩
  rw [World.cell?_alloc_new]
  have e := made_list (.int .i64 0) n
  rw [← Array.getElem?_toList, e]
  simp [hi]

/-- The numbers as a list. -/
def numL (n : Nat) (f : Nat → Int) : List Int := (List.range n).map f
theorem numL_len (n : Nat) (f : Nat → Int) : (numL n f).length = n := by simp [numL]
theorem numL_nth (n : Nat) (f : Nat → Int) (i : Nat) (h : i < n) : nth (numL n f) i = f i := by simp [nth, numL, h]

theorem Nums.reads {w : World} {A N : Nat} {f : Nat → Int} (h : Nums w A N f) (hN : N ≤ 1000000) : Reads w (.slice (some ⟨A, 0, none⟩) N N) (numL N f) := by
  by_cases h0 : N = 0
  · subst h0; exact .inl ⟨rfl, .inr ⟨_, 0, rfl, by unfold maxLen; omega⟩⟩
  · refine .inr ⟨by rw [numL_len]; omega, A, 0, N, by rw [numL_len], by rw [numL_len]; exact Nat.le_refl _, by unfold maxLen; omega, fun i hi => ?_⟩
    rw [numL_len] at hi
    rw [Nat.zero_add, (h i hi).1, numL_nth _ _ _ hi]

end Go.Proofs.YtoofalchkedciaaDoor

namespace Go.Proofs.YtoofalchkedciaaDoor
open Go.RowKit Go.Deep

set_option maxRecDepth 100000 in
theorem trace_Check (v u : Value) (p : PlanL) (hands : Int) (l : List Dd) (w : World) (hP : InPlan w v p) (hv : DeedsAt w u l) (hl : l.length ≤ 9223372036854775807) (hh : -9223372036854775808 ≤ hands ∧ hands ≤ 9223372036854775807) :
    Calls Tryd.prog 15 #[v, .int .i64 hands, u] w fun e w' => e = .returned (errV (checkF p hands l)) ∧ Only [] w w' := by
  have hr := plan_Right v p w hP
  by_cases he : hErr p hands = 0
  · by_cases hf : ddsFault l = 0
    · have e : checkF p hands l = runF p hands tZero l := by unfold checkF; rw [he, hf]; simp
      rw [e]
      exact trace_Check_run v u p hands l w hP hv he hf
    · have e : checkF p hands l = ddsFault l := by unfold checkF; rw [he]; simp [hf]
      obtain ⟨hok, h1, h6⟩ := hErr_zero he
      rw [(planOk_iff p).1 hok, errV_zero] at hr
      have HWH := Lib.hid (fun W (ho : Only [] w W) => trace_whole u l W (hv.same ho) hl)
      have HY := Lib.hid (fun W => hands_yes hands W h1 h6)
      rw [e]
      obtain ⟨f, hff⟩ : ∃ f, ddsFault l = f := ⟨_, rfl⟩
      rw [hff] at hf HWH ⊢
      rw [errV_ne hf] at HWH ⊢
      clear e hP hv he hff
      go_enter Tryd.func15, Tryd.ntmps15
      go_wp2_with fail
      refine hr.mono ?_
      rintro e w1 ⟨rfl, ho1⟩
      clear hr
      go_wp2_with fail
      refine (HY.out w1).mono ?_
      rintro e w2 ⟨rfl, rfl⟩
      go_wp2_with fail
      refine (HWH.out _ ho1).mono ?_
      rintro e w3 ⟨rfl, ho3⟩
      have HO := Lib.hid (ho1.trans ho3 (by simp))
      clear HWH
      go_wp2
      go_ret
      exact ⟨rfl, HO.out⟩
  · have e : checkF p hands l = hErr p hands := by unfold checkF; rw [if_pos he]
    rw [e]
    by_cases hp : planFault p = 0
    · have hout : hands < 1 ∨ 6 < hands := by
        rcases Int.lt_or_le hands 1 with h | h
        · exact .inl h
        · rcases Int.lt_or_le 6 hands with h' | h'
          · exact .inr h'
          · exact absurd (hErr_ok ((planOk_iff p).2 hp) h h') he
      have e1 : hErr p hands = 1 := by
        unfold hErr
        rw [if_pos hp, if_neg (by omega)]
      rw [hp, errV_zero] at hr
      rw [e1, errV_ne (by decide)]
      have HY := Lib.hid (fun W => hands_no hands W hout)
      clear e e1 hP hv he hp hout
      go_enter Tryd.func15, Tryd.ntmps15
      go_wp2_with fail
      refine hr.mono ?_
      rintro e w1 ⟨rfl, ho1⟩
      clear hr
      go_wp2_with fail
      refine (HY.out w1).mono ?_
      rintro e w2 ⟨rfl, rfl⟩
      go_wp2
      go_ret
      exact ⟨rfl, ho1⟩
    · have e1 : hErr p hands = planFault p := by
        unfold hErr
        rw [if_neg hp]
      rw [e1]
      obtain ⟨f, hff⟩ : ∃ f, planFault p = f := ⟨_, rfl⟩
      rw [hff] at hp hr ⊢
      rw [errV_ne hp] at hr ⊢
      clear e e1 hP hv he hff
      go_enter Tryd.func15, Tryd.ntmps15
      go_wp2_with fail
      refine hr.mono ?_
      rintro e w1 ⟨rfl, ho1⟩
      clear hr
      go_wp2
      go_ret
      exact ⟨rfl, ho1⟩

set_option maxRecDepth 100000 in
theorem trace_Counts_no (v : Value) (l : List Dd) (w : World) (hv : DeedsAt w v l) (hl : l.length ≤ 9223372036854775807) (hf : ddsFault l ≠ 0) :
    Calls Tryd.prog 16 #[v] w fun e w' => e = .returned (.tuple #[.slice none 0 0, errV (ddsFault l)]) ∧ Only [] w w' := by
  have hw := trace_whole v l w hv hl
  rw [errV_ne hf] at hw ⊢
  generalize ddsFault l = f at *
  clear hv
  go_enter Tryd.func16, Tryd.ntmps16
  go_wp2_with fail
  refine hw.mono ?_
  rintro e w1 ⟨rfl, ho⟩
  clear hw
  go_wp2
  go_ret2
  exact ⟨rfl, ho⟩

def kindF (l : List Dd) (i : Nat) : Int := (kindN ((i : Int) + 1) l : Int)
set_option maxRecDepth 100000 in
set_option maxHeartbeats 2000000 in
theorem trace_Counts (v : Value) (l : List Dd) (w : World) (hv : DeedsAt w v l) (hf : ddsFault l = 0) :
    Calls Tryd.prog 16 #[v] w fun e w' => ∃ A, e = .returned (.tuple #[.slice (some ⟨A, 0, none⟩) 6 6, .nilIface]) ∧ Nums w' A 6 (kindF l) ∧ Only [] w w' := by
  have hl : l.length ≤ 1000 := by
    unfold ddsFault at hf
    split at hf
    · simp at hf
    · omega
  have hall : ∀ d ∈ l, ddFault d = 0 := by
    unfold ddsFault at hf
    rw [if_neg (by omega)] at hf
    exact (firstDd_zero l).1 hf
  have hw := trace_whole v l w hv (by omega)
  rw [hf, errV_zero] at hw
  have HALL := Lib.hid hall
  obtain ⟨a, cap, rfl, hc⟩ := hv.opt
  obtain ⟨n, hn⟩ : ∃ n, l.length = n := ⟨_, rfl⟩
  have HN := Lib.hid hn
  have HC := Lib.hid hc
  rw [hn] at HC hl hw ⊢
  clear hc hv hn hall hf
  go_enter Tryd.func16, Tryd.ntmps16
  go_wp2_with fail
  refine hw.mono ?_
  rintro e w1 ⟨rfl, ho1⟩
  clear hw
  have hmk := make_ints 6 (by omega) w1
  have hNm := made_nums w1 6
  have hBz := (Only.refl [] w1).alloc (.cells (madeCells #[.int .i64 0] 6) 3)
  rw [show (((6 : Nat)) : Int) = 6 from rfl] at hmk
  go_wp2_with fail
  obtain ⟨wA, hwA⟩ : ∃ wA, w1.alloc (.cells (madeCells #[.int .i64 0] 6) 3) = wA := ⟨_, rfl⟩
  obtain ⟨A, hA⟩ : ∃ A, w1.heap.size = A := ⟨_, rfl⟩
  rw [hwA, hA] at hNm
  rw [hwA] at hBz ⊢
  rw [hA]
  have hAl : A < wA.heap.size := by rw [← hwA, World.size_alloc, hA]; omega
  have hwlA : w.heap.size ≤ A := by rw [← hA]; exact ho1.size
  have HOA := Lib.hid (ho1.trans hBz (by simp))
  have HNM := Lib.hid hNm
  clear hmk hNm hBz hwA hA
  go_loopw [16] (fun vi wr => ∃ i : Nat, i ≤ n ∧ vi = .int .i64 (i : Int) ∧ Nums wr A 6 (kindF (l.take i)) ∧ Only [A] wA wr) (fun vi _ => n - (intOf vi).toNat)
  case atStart => exact ⟨0, Nat.zero_le _, rfl, HNM.out.congr (fun i hi => by simp [kindF, kindN]), Only.refl _ _⟩
  case round =>
    obtain ⟨wo, rfl⟩ : ∃ wo : World, wo = wr := ⟨_, rfl⟩
    obtain ⟨i, hi, rfl, hNo, ho⟩ := hrel
    have HNO := Lib.hid hNo
    have HO := Lib.hid ho
    have HOW : Hid (Only [] w wo) := HOA.out.trans ho (fun x hx hl => by simp at hx; subst hx; omega)
    clear hNo ho
    by_cases hin : i < n
    · obtain ⟨b, off, rfl, k0, k1, k2, k3⟩ := HC.out i hin
      have c0 := (HOW.out.cell (p := ⟨b, _, none⟩) (cell_lt k0) (by simp)).trans k0
      have c1 := (HOW.out.cell (p := ⟨b, _, none⟩) (cell_lt k1) (by simp)).trans k1
      have c2 := (HOW.out.cell (p := ⟨b, _, none⟩) (cell_lt k2) (by simp)).trans k2
      have c3 := (HOW.out.cell (p := ⟨b, _, none⟩) (cell_lt k3) (by simp)).trans k3
      have hd0 := HALL.out _ (ddAt_mem (bs := l) (k := i) (by rw [HN.out]; exact hin))
      have htk := take_dd l i (by rw [HN.out]; exact hin)
      have hg := dd_right hd0
      clear k0 k1 k2 k3
      generalize ddAt l i = d at *
      have HTK := Lib.hid htk
      obtain ⟨dw, dh, dt, dx⟩ := d
      simp only at c0 c1 c2 c3 hg
      obtain ⟨k, rfl⟩ : ∃ k : Nat, dw = (k : Int) + 1 := ⟨(dw - 1).toNat, by omega⟩
      have hk6 : k < 6 := by omega
      have hal := (Only.refl [] wo).alloc (.cells #[.int .i64 ((k : Int) + 1), .int .i64 dh, .int .i64 dt, .int .i64 dx] 46)
      have hNa := HNO.out.only hal (by simp)
      have HNA := Lib.hid hNa
      obtain ⟨z, hz⟩ : ∃ z : Nat, kindF (l.take i) k = (z : Int) := ⟨_, rfl⟩
      have hz1 : z ≤ 1000 := by
        have h1 : kindN ((k : Int) + 1) (l.take i) = z := by
          have h : ((kindN ((k : Int) + 1) (l.take i) : Nat) : Int) = (z : Int) := hz
          omega
        have h2 : kindN ((k : Int) + 1) (l.take i) ≤ (l.take i).length := List.countP_le_length
        rw [List.length_take] at h2
        omega
      have cN := (HNO.out k hk6).1
      have fN := (HNO.out k hk6).2
      have cNa := (hNa k hk6).1
      have fNa := (hNa k hk6).2
      rw [hz] at cN cNa
      have hset : Hid (Nums ((wo.setCell ⟨A, k, none⟩ (.int .i64 ((z : Int) + 1))).alloc (.cells #[.int .i64 ((k : Int) + 1), .int .i64 dh, .int .i64 dt, .int .i64 dx] 46)) A 6 (kindF (l.take (i + 1)))) := by
        refine ((HNO.out.set k ((z : Int) + 1)).only ((Only.refl [] _).alloc _) (by simp)).congr fun j hj => ?_
        unfold updI
        have hj2 : kindF (l.take (i + 1)) j = kindF (l.take i) j + if k = j then 1 else 0 := by
          unfold kindF
          rw [HTK.out, kindN_app, kindN_cons]
          have e : ((k : Int) + 1 = (j : Int) + 1) = (k = j) := by apply propext; omega
          simp only [e, kindN, List.countP_nil]
          split <;> simp
        rw [hj2]
        by_cases e : j = k
        · subst e; rw [if_pos rfl, if_pos rfl, hz]
        · rw [if_neg e, if_neg (fun h => e h.symm)]; omega
      have hon : Hid (Only [A] wA ((wo.setCell ⟨A, k, none⟩ (.int .i64 ((z : Int) + 1))).alloc (.cells #[.int .i64 ((k : Int) + 1), .int .i64 dh, .int .i64 dt, .int .i64 dx] 46))) :=
        (HO.out.setCell (p := ⟨A, k, none⟩) (fun _ => by simp) _).alloc _
      have hA2 : A < wo.heap.size := by have := HO.out.size; omega
      clear hd0 htk hg hal hNa hz
      go_wp2
      go_roundw
      case rel => exact ⟨i + 1, by omega, by go_num, hset.out, hon.out⟩
      case measure => (simp [intOf]; try omega)
    · obtain rfl : i = n := by omega
      have hfull : l.take i = l := List.take_of_length_le (by rw [HN.out]; exact Nat.le_refl _)
      have hN := HNO.out
      rw [hfull] at hN
      have HNF := Lib.hid hN
      clear hN hfull
      go_wp2
      go_ret2
      exact ⟨A, rfl, HNF.out, HOW.out⟩

end Go.Proofs.YtoofalchkedciaaDoor
