/-
  Contracts of package trace: Check of any deeds, Counts.
  A strings.Builder of the call's own: what it holds, and the frame.
  Contract of trace.Print.
-/
import Derived.Test.YtoofalchkedciaaGreatDoorP18TopGang
import Derived.Test.YtoofalchkedciaaGreatDoorP19TopGang
import Derived.Test.YtoofalchkedciaaGreatDoorP9TopGang
import Derived.Test.YtoofalchkedciaaGreatDoorP8TopGang
import Derived.Test.YtoofalchkedciaaGreatDoorP5TopGang
import Derived.Test.YtoofalchkedciaaGreatDoorP36TopGang
import Derived.Test.YtoofalchkedciaaGreatDoorP39TopGang
namespace Go.Proofs.YtoofalchkedciaaGreatDoor
open Go.RowKit Go.Deep

set_option maxRecDepth 100000 in
theorem trace_Check (v u : Value) (p : PlanL) (hands : Int) (l : List Dd) (w : World) (hP : InPlan w v p) (hv : DeedsAt w u l) (hl : l.length ≤ 9223372036854775807) (hh : -9223372036854775808 ≤ hands ∧ hands ≤ 9223372036854775807) :
    Calls Tryz.prog 24 #[v, .int .i64 hands, u] w fun e w' => e = .returned (errV (checkF p hands l)) ∧ Only [] w w' := by
  have hr := plan_Right v p w hP
  by_cases he : hErr p hands = 0
  · by_cases hf : ddsFault l = 0
    · have e : checkF p hands l = runF p hands tZero l := by unfold checkF; rw [he, hf]; simp
      rw [e]
      exact trace_Check_run v u p hands l w hP hv he hf
    · have e : checkF p hands l = ddsFault l := by unfold checkF; rw [he]; simp [hf]
      obtain ⟨hok, h1, h6⟩ := hErr_zero he
      rw [(planOk_iff p).1 hok, errV_zero] at hr
      have HWH := Lib.hid (fun W (ho : Only [] w W) => trace_whole u l W (hv.same ho) hl)
      have HY := Lib.hid (fun W => hands_yes hands W h1 h6)
      rw [e]
      obtain ⟨f, hff⟩ : ∃ f, ddsFault l = f := ⟨_, rfl⟩
      rw [hff] at hf HWH ⊢
      rw [errV_ne hf] at HWH ⊢
      clear e hP hv he hff
      go_enter Tryz.func24, Tryz.ntmps24
      go_wp2_with fail
      refine hr.mono ?_
      rintro e w1 ⟨rfl, ho1⟩
      clear hr
      go_wp2_with fail
      refine (HY.out w1).mono ?_
      rintro e w2 ⟨rfl, rfl⟩
      go_wp2_with fail
      refine (HWH.out _ ho1).mono ?_
      rintro e w3 ⟨rfl, ho3⟩
      have HO := Lib.hid (ho1.trans ho3 (by simp))
      clear HWH
      go_wp2
      go_ret
      exact ⟨rfl, HO.out⟩
  · have e : checkF p hands l = hErr p hands := by unfold checkF; rw [if_pos he]
    rw [e]
    by_cases hp : planFault p = 0
    · have hout : hands < 1 ∨ 6 < hands := by
        rcases Int.lt_or_le hands 1 with h | h
        · exact .inl h
        · rcases Int.lt_or_le 6 hands with h' | h'
          · exact .inr h'
          · exact absurd (hErr_ok ((planOk_iff p).2 hp) h h') he
      have e1 : hErr p hands = 1 := by
        unfold hErr
        rw [if_pos hp, if_neg (by omega)]
      rw [hp, errV_zero] at hr
      rw [e1, errV_ne (by decide)]
      have HY := Lib.hid (fun W => hands_no hands W hout)
      clear e e1 hP hv he hp hout
      go_enter Tryz.func24, Tryz.ntmps24
      go_wp2_with fail
      refine hr.mono ?_
      rintro e w1 ⟨rfl, ho1⟩
      clear hr
      go_wp2_with fail
      refine (HY.out w1).mono ?_
      rintro e w2 ⟨rfl, rfl⟩
      go_wp2
      go_ret
      exact ⟨rfl, ho1⟩
    · have e1 : hErr p hands = planFault p := by
        unfold hErr
        rw [if_neg hp]
      rw [e1]
      obtain ⟨f, hff⟩ : ∃ f, planFault p = f := ⟨_, rfl⟩
      rw [hff] at hp hr ⊢
      rw [errV_ne hp] at hr ⊢
      clear e e1 hP hv he hff
      go_enter Tryz.func24, Tryz.ntmps24
      go_wp2_with fail
      refine hr.mono ?_
      rintro e w1 ⟨rfl, ho1⟩
      clear hr
      go_wp2
      go_ret
      exact ⟨rfl, ho1⟩

set_option maxRecDepth 100000 in
theorem trace_Counts_no (v : Value) (l : List Dd) (w : World) (hv : DeedsAt w v l) (hl : l.length ≤ 9223372036854775807) (hf : ddsFault l ≠ 0) :
    Calls Tryz.prog 28 #[v] w fun e w' => e = .returned (.tuple #[.slice none 0 0, errV (ddsFault l)]) ∧ Only [] w w' := by
  have hw := trace_whole v l w hv hl
  rw [errV_ne hf] at hw ⊢
  generalize ddsFault l = f at *
  clear hv
  go_enter Tryz.func28, Tryz.ntmps28
  go_wp2_with fail
  refine hw.mono ?_
  rintro e w1 ⟨rfl, ho⟩
  clear hw
  go_wp2
  go_ret2
  exact ⟨rfl, ho⟩

def kindF (l : List Dd) (i : Nat) : Int := (kindN ((i : Int) + 1) l : Int)
set_option maxRecDepth 100000 in
set_option maxHeartbeats 2000000 in
theorem trace_Counts (v : Value) (l : List Dd) (w : World) (hv : DeedsAt w v l) (hf : ddsFault l = 0) :
    Calls Tryz.prog 28 #[v] w fun e w' => ∃ A, e = .returned (.tuple #[.slice (some ⟨A, 0, none⟩) 6 6, .nilIface]) ∧ Nums w' A 6 (kindF l) ∧ Only [] w w' := by
  have hl : l.length ≤ 1000 := by
    unfold ddsFault at hf
    split at hf
    · simp at hf
    · omega
  have hall : ∀ d ∈ l, ddFault d = 0 := by
    unfold ddsFault at hf
    rw [if_neg (by omega)] at hf
    exact (firstDd_zero l).1 hf
  have hw := trace_whole v l w hv (by omega)
  rw [hf, errV_zero] at hw
  have HALL := Lib.hid hall
  obtain ⟨a, cap, rfl, hc⟩ := hv.opt
  obtain ⟨n, hn⟩ : ∃ n, l.length = n := ⟨_, rfl⟩
  have HN := Lib.hid hn
  have HC := Lib.hid hc
  rw [hn] at HC hl hw ⊢
  clear hc hv hn hall hf
  go_enter Tryz.func28, Tryz.ntmps28
  go_wp2_with fail
  refine hw.mono ?_
  rintro e w1 ⟨rfl, ho1⟩
  clear hw
  have hmk := make_ints 6 (by omega) w1
  have hNm := made_nums w1 6
  have hBz := (Only.refl [] w1).alloc (.cells (madeCells #[.int .i64 0] 6) 3)
  rw [show (((6 : Nat)) : Int) = 6 from rfl] at hmk
  go_wp2_with fail
  obtain ⟨wA, hwA⟩ : ∃ wA, w1.alloc (.cells (madeCells #[.int .i64 0] 6) 3) = wA := ⟨_, rfl⟩
  obtain ⟨A, hA⟩ : ∃ A, w1.heap.size = A := ⟨_, rfl⟩
  rw [hwA, hA] at hNm
  rw [hwA] at hBz ⊢
  rw [hA]
  have hAl : A < wA.heap.size := by rw [← hwA, World.size_alloc, hA]; omega
  have hwlA : w.heap.size ≤ A := by rw [← hA]; exact ho1.size
  have HOA := Lib.hid (ho1.trans hBz (by simp))
  have HNM := Lib.hid hNm
  clear hmk hNm hBz hwA hA
  go_loopw [16] (fun vi wr => ∃ i : Nat, i ≤ n ∧ vi = .int .i64 (i : Int) ∧ Nums wr A 6 (kindF (l.take i)) ∧ Only [A] wA wr) (fun vi _ => n - (intOf vi).toNat)
  case atStart => exact ⟨0, Nat.zero_le _, rfl, HNM.out.congr (fun i hi => by simp [kindF, kindN]), Only.refl _ _⟩
  case round =>
    obtain ⟨wo, rfl⟩ : ∃ wo : World, wo = wr := ⟨_, rfl⟩
    obtain ⟨i, hi, rfl, hNo, ho⟩ := hrel
    have HNO := Lib.hid hNo
    have HO := Lib.hid ho
    have HOW : Hid (Only [] w wo) := HOA.out.trans ho (fun x hx hl => by simp at hx; subst hx; omega)
    clear hNo ho
    by_cases hin : i < n
    · obtain ⟨b, off, rfl, k0, k1, k2, k3⟩ := HC.out i hin
      have c0 := (HOW.out.cell (p := ⟨b, _, none⟩) (cell_lt k0) (by simp)).trans k0
      have c1 := (HOW.out.cell (p := ⟨b, _, none⟩) (cell_lt k1) (by simp)).trans k1
      have c2 := (HOW.out.cell (p := ⟨b, _, none⟩) (cell_lt k2) (by simp)).trans k2
      have c3 := (HOW.out.cell (p := ⟨b, _, none⟩) (cell_lt k3) (by simp)).trans k3
      have hd0 := HALL.out _ (ddAt_mem (bs := l) (k := i) (by rw [HN.out]; exact hin))
      have htk := take_dd l i (by rw [HN.out]; exact hin)
      have hg := dd_right hd0
      clear k0 k1 k2 k3
      generalize ddAt l i = d at *
      have HTK := Lib.hid htk
      obtain ⟨dw, dh, dt, dx⟩ := d
      simp only at c0 c1 c2 c3 hg
      obtain ⟨k, rfl⟩ : ∃ k : Nat, dw = (k : Int) + 1 := ⟨(dw - 1).toNat, by omega⟩
      have hk6 : k < 6 := by omega
      have hal := (Only.refl [] wo).alloc (.cells #[.int .i64 ((k : Int) + 1), .int .i64 dh, .int .i64 dt, .int .i64 dx] 53)
      have hNa := HNO.out.only hal (by simp)
      have HNA := Lib.hid hNa
      obtain ⟨z, hz⟩ : ∃ z : Nat, kindF (l.take i) k = (z : Int) := ⟨_, rfl⟩
      have hz1 : z ≤ 1000 := by
        have h1 : kindN ((k : Int) + 1) (l.take i) = z := by
          have h : ((kindN ((k : Int) + 1) (l.take i) : Nat) : Int) = (z : Int) := hz
          omega
        have h2 : kindN ((k : Int) + 1) (l.take i) ≤ (l.take i).length := List.countP_le_length
        rw [List.length_take] at h2
        omega
      have cN := (HNO.out k hk6).1
      have fN := (HNO.out k hk6).2
      have cNa := (hNa k hk6).1
      have fNa := (hNa k hk6).2
      rw [hz] at cN cNa
      have hset : Hid (Nums ((wo.setCell ⟨A, k, none⟩ (.int .i64 ((z : Int) + 1))).alloc (.cells #[.int .i64 ((k : Int) + 1), .int .i64 dh, .int .i64 dt, .int .i64 dx] 53)) A 6 (kindF (l.take (i + 1)))) := by
        refine ((HNO.out.set k ((z : Int) + 1)).only ((Only.refl [] _).alloc _) (by simp)).congr fun j hj => ?_
        unfold updI
        have hj2 : kindF (l.take (i + 1)) j = kindF (l.take i) j + if k = j then 1 else 0 := by
          unfold kindF
          rw [HTK.out, kindN_app, kindN_cons]
          have e : ((k : Int) + 1 = (j : Int) + 1) = (k = j) := by apply propext; omega
          simp only [e, kindN, List.countP_nil]
          split <;> simp
        rw [hj2]
        by_cases e : j = k
        · subst e; rw [if_pos rfl, if_pos rfl, hz]
        · rw [if_neg e, if_neg (fun h => e h.symm)]; omega
      have hon : Hid (Only [A] wA ((wo.setCell ⟨A, k, none⟩ (.int .i64 ((z : Int) + 1))).alloc (.cells #[.int .i64 ((k : Int) + 1), .int .i64 dh, .int .i64 dt, .int .i64 dx] 53))) :=
        (HO.out.setCell (p := ⟨A, k, none⟩) (fun _ => by simp) _).alloc _
      have hA2 : A < wo.heap.size := by have := HO.out.size; omega
      clear hd0 htk hg hal hNa hz
      go_wp2
      go_roundw
      case rel => exact ⟨i + 1, by omega, by go_num, hset.out, hon.out⟩
      case measure => (simp [intOf]; try omega)
    · obtain rfl : i = n := by omega
      have hfull : l.take i = l := List.take_of_length_le (by rw [HN.out]; exact Nat.le_refl _)
      have hN := HNO.out
      rw [hfull] at hN
      have HNF := Lib.hid hN
      clear hN hfull
      go_wp2
      go_ret2
      exact ⟨A, rfl, HNF.out, HOW.out⟩

end Go.Proofs.YtoofalchkedciaaGreatDoor

namespace Go.Proofs.YtoofalchkedciaaGreatDoor
open Go.RowKit Go.Deep

/-- The builder at b holds the bytes l; its blocks lie from B on. -/
def BuildAt (w : World) (B b : Nat) (l : List UInt8) : Prop := Lib.IsBuilderF 122 5 B b (Lib.byteCells l) w
/-- Nothing but the builder, and rows of bytes from B on, has changed. -/
def Around (B b : Nat) (w w' : World) : Prop := Below B w w' ∧ Lib.OthersKept 5 (some b) w w'

theorem build_new (w : World) : BuildAt (w.alloc (.cells #[.pointer none, .slice none 0 0] 122)) w.heap.size w.heap.size [] :=
  .inl ⟨Nat.le_refl _, .slice none 0 0, heap_alloc_new _ _, World.ownsRowF_of (World.ownsRow_nil _ _ _ _), by simp [Value.ownBlock]⟩
theorem BuildAt.alloc {w : World} {B b : Nat} {l : List UInt8} (h : BuildAt w B b l) (o : Obj) : BuildAt (w.alloc o) B b l := Lib.IsBuilderF.alloc h o
theorem BuildAt.obj {w : World} {B b : Nat} {l : List UInt8} (h : BuildAt w B b l) : B ≤ b ∧ b < w.heap.size := by
  have key : ∀ p, Lib.BuilderAtF 122 5 B b p (Lib.byteCells l) w → B ≤ b ∧ b < w.heap.size := fun p ⟨h1, v, h2, _⟩ => ⟨h1, by
    rcases Nat.lt_or_ge b w.heap.size with h' | h'
    · exact h'
    · simp [Array.getElem?_eq_none h'] at h2⟩
  rcases h with h | h
  · exact key _ h
  · exact key _ h

theorem build_write (B b : Nat) (l : List UInt8) (s : ByteArray) (w : World) (h : BuildAt w B b l) (hlen : l.length + s.size ≤ 1000000) :
    Calls Tryz.prog 65 #[.pointer (some ⟨b, 0, none⟩), .string s] w fun e w' => e = .returned (.tuple #[.int .i64 s.size, .nilIface]) ∧ BuildAt w' B b (l ++ s.data.toList) ∧ Around B b w w' := by
  refine (Tryz.Builder_WriteString_k B b _ s w h (by rw [Lib.byteCells_length]; omega) (by have := h.obj; omega)).mono ?_
  rintro e w' ⟨he, h1, h2, h3⟩
  refine ⟨he, .inr ?_, h2, h3⟩
  rw [Lib.byteCells_append]
  exact h1
theorem build_string (B b : Nat) (l : List UInt8) (w : World) (h : BuildAt w B b l) :
    Calls Tryz.prog 67 #[.pointer (some ⟨b, 0, none⟩)] w fun e w' => e = .returned (.string ⟨l.toArray⟩) ∧ BuildAt w' B b l ∧ Around B b w w' :=
  (Tryz.Builder_String_any_k B b l w h (by have := h.obj; omega)).mono fun e w' ⟨he, h1, h2, h3⟩ => ⟨he, h1, h2, h3⟩

theorem Only.around {w wk wm : World} {B b : Nat} (h : Only [] w wk) (hb : Around B b wk wm) (hB : w.heap.size ≤ B) : Only [] w wm :=
  ⟨hb.1.os.trans h.os, hb.1.tape.trans h.tape, hb.1.output.trans h.output, Nat.le_trans h.size hb.1.size, fun k hk hn => (hb.1.block k (by omega)).trans (h.block k hk hn)⟩
theorem Around.obj {B b : Nat} {w w' : World} (h : Around B b w w') {k : Nat} {cs : Array Value} {t : TypeId} (hk : w.heap[k]? = some (.cells cs t (0, 0))) (hb : k ≠ b) (ht : t ≠ 5) : w'.heap[k]? = some (.cells cs t (0, 0)) :=
  h.2 k _ hk (fun e => hb (Option.some.inj e)) (fun c fz e => ht (by injection e))
theorem obj_lt {w : World} {b : Nat} {o : Obj} (h : w.heap[b]? = some o) : b < w.heap.size := by
  rcases Nat.lt_or_ge b w.heap.size with h' | h'
  · exact h'
  · simp [Array.getElem?_eq_none h'] at h
theorem obj_only {w w' : World} {b : Nat} {o : Obj} (h : w.heap[b]? = some o) (ho : Only [] w w') : w'.heap[b]? = some o := (ho.block b (obj_lt h) (by simp)).trans h
theorem BuildAt.same {w w' : World} {B b : Nat} {l : List UInt8} (h : BuildAt w B b l) (ho : Only [] w w') : BuildAt w' B b l := by
  have key : ∀ p, Lib.BuilderAtF 122 5 B b p (Lib.byteCells l) w → Lib.BuilderAtF 122 5 B b p (Lib.byteCells l) w' := fun p ⟨h1, v, h2, h3, h4⟩ => by
    refine ⟨h1, v, obj_only h2 ho, ?_, h4⟩
    obtain ⟨q1, q2⟩ := h3
    refine ⟨q1, ?_⟩
    rcases q2 with q2 | ⟨g, cap, cur, fz, e1, e2, e3, e4⟩
    · exact .inl q2
    · exact .inr ⟨g, cap, cur, fz, e1, e2, obj_only e3 ho, e4⟩
  rcases h with h | h
  · exact .inl (key _ h)
  · exact .inr (key _ h)

end Go.Proofs.YtoofalchkedciaaGreatDoor

namespace Go.Proofs.YtoofalchkedciaaGreatDoor
open Go.RowKit Go.Deep

/-- The j-th field that stands in a deed's line: its place, its number. -/
theorem dd_place {d : Dd} (h : ddFault d = 0) (j : Nat) (hj : j < (ddPlaces d.what).length) :
    ∃ pl q : Nat, q < 30 ∧ (ddPlaces d.what)[j]? = some pl ∧ (ddCells d)[pl]? = some (.int .i64 (q : Int)) ∧ (ddNums d).take (j + 1) = (ddNums d).take j ++ [q] := by
  have hr := dd_right h
  have hp : (ddPlaces d.what)[j] ∈ ddPlaces d.what := List.getElem_mem _
  have hn : (ddNums d).length = (ddPlaces d.what).length := by simp [ddNums]
  have hq : (ddNums d)[j]'(by omega) = ddField d (ddPlaces d.what)[j] := by simp [ddNums]
  have hlt := ddNums_lt h _ (List.getElem_mem (show j < (ddNums d).length by omega))
  refine ⟨(ddPlaces d.what)[j], (ddNums d)[j]'(by omega), hlt, List.getElem?_eq_getElem _, ?_, List.take_succ_eq_append_getElem _⟩
  rw [hq]
  have h3 : (ddPlaces d.what)[j] = 1 ∨ (ddPlaces d.what)[j] = 2 ∨ ((ddPlaces d.what)[j] = 3 ∧ d.what = 2) := by
    revert hp
    generalize (ddPlaces d.what)[j] = x
    unfold ddPlaces
    intro hp
    split at hp
    · simp at hp; exact .inl hp
    · split at hp
      · rename_i h2
        simp at hp
        rcases hp with hp | hp | hp
        · exact .inl hp
        · exact .inr (.inl hp)
        · exact .inr (.inr ⟨hp, h2⟩)
      · simp at hp
        rcases hp with hp | hp
        · exact .inl hp
        · exact .inr (.inl hp)
  rcases h3 with h3 | h3 | ⟨h3, h2⟩
  · rw [h3]; show some (Value.int .i64 d.hand) = _; unfold ddField; rw [if_pos rfl, Int.toNat_of_nonneg (by omega)]
  · rw [h3]; show some (Value.int .i64 d.task) = _; unfold ddField; rw [if_neg (by omega), if_pos rfl, Int.toNat_of_nonneg (by omega)]
  · rw [h3]; show some (Value.int .i64 d.other) = _; unfold ddField; rw [if_neg (by omega), if_neg (by omega), Int.toNat_of_nonneg (by omega)]

set_option maxRecDepth 100000 in
theorem trace_Print_no (v : Value) (l : List Dd) (w : World) (hv : DeedsAt w v l) (hl : l.length ≤ 9223372036854775807) (hf : ddsFault l ≠ 0) :
    Calls Tryz.prog 27 #[v] w fun e w' => e = .returned (.tuple #[.string ⟨#[]⟩, errV (ddsFault l)]) ∧ Only [] w w' := by
  have hw := trace_whole v l w hv hl
  rw [errV_ne hf] at hw ⊢
  generalize ddsFault l = f at *
  clear hv
  go_enter Tryz.func27, Tryz.ntmps27
  go_wp2_with fail
  refine hw.mono ?_
  rintro e w1 ⟨rfl, ho⟩
  clear hw
  go_wp2
  go_ret2
  exact ⟨rfl, ho⟩

set_option maxRecDepth 100000 in
set_option maxHeartbeats 4000000 in
theorem trace_Print (v : Value) (l : List Dd) (w : World) (hv : DeedsAt w v l) (hwd : WordsIn w) (hf : ddsFault l = 0) :
    Calls Tryz.prog 27 #[v] w fun e w' => e = .returned (.tuple #[.string ⟨(ddsText l).toArray⟩, .nilIface]) ∧ Only [] w w' := by
  have hl : l.length ≤ 1000 := by
    unfold ddsFault at hf
    split at hf
    · simp at hf
    · omega
  have hall : ∀ d ∈ l, ddFault d = 0 := by
    unfold ddsFault at hf
    rw [if_neg (by omega)] at hf
    exact (firstDd_zero l).1 hf
  have hw := trace_whole v l w hv (by omega)
  rw [hf, errV_zero] at hw
  have HV := Lib.hid hv
  have HALL := Lib.hid hall
  have HWD := Lib.hid hwd
  obtain ⟨a, cap, rfl, hc⟩ := hv.opt
  obtain ⟨n, hn⟩ : ∃ n, l.length = n := ⟨_, rfl⟩
  have HN := Lib.hid hn
  have HC := Lib.hid hc
  rw [hn] at HC hl hw HV ⊢
  clear hc hv hn hall hwd hf
  go_enter Tryz.func27, Tryz.ntmps27
  go_wp2_with fail
  refine hw.mono ?_
  rintro e w1 ⟨rfl, ho1⟩
  clear hw
  obtain ⟨B, hB⟩ : ∃ B, w1.heap.size = B := ⟨_, rfl⟩
  have hBw : w.heap.size ≤ B := by have := ho1.size; omega
  have hb0 := Lib.hid (build_new w1)
  rw [hB] at hb0
  have ho2 := Lib.hid (ho1.alloc (.cells #[.pointer none, .slice none 0 0] 122))
  go_wp2_with fail
  clear hB
  go_loopw [17] (fun vi wr => ∃ i : Nat, i ≤ n ∧ vi = .int .i64 i ∧ BuildAt wr B B (ddsText (l.take i)) ∧ Only [] w wr) (fun vi _ => n - (intOf vi).toNat)
  case atStart => exact ⟨0, Nat.zero_le _, rfl, hb0.out, ho2.out⟩
  case round =>
    obtain ⟨wo, rfl⟩ : ∃ wo : World, wo = wr := ⟨_, rfl⟩
    obtain ⟨i, hi, rfl, hbd, ho⟩ := hrel
    by_cases him : i < n
    · obtain ⟨b, off, rfl, k0, k1, k2, k3⟩ := HC.out i him
      have c0 := (ho.cell (p := ⟨b, _, none⟩) (cell_lt k0) (by simp)).trans k0
      have c1 := (ho.cell (p := ⟨b, _, none⟩) (cell_lt k1) (by simp)).trans k1
      have c2 := (ho.cell (p := ⟨b, _, none⟩) (cell_lt k2) (by simp)).trans k2
      have c3 := (ho.cell (p := ⟨b, _, none⟩) (cell_lt k3) (by simp)).trans k3
      have htk := Lib.hid (take_dd l i (by rw [HN.out]; exact him))
      have hfd := HALL.out _ (ddAt_mem (bs := l) (k := i) (by rw [HN.out]; exact him))
      have htl := ddsText_len (l.take i) (fun d hd => HALL.out d (List.mem_of_mem_take hd))
      have hli : (l.take i).length ≤ 1000 := by rw [List.length_take]; omega
      clear k0 k1 k2 k3
      generalize ddAt l i = d at *
      generalize l.take i = li at *
      have HPL := Lib.hid (fun j hj => dd_place hfd j hj)
      have hr := dd_right hfd
      have hw0 : 0 ≤ d.what := by omega
      have hw7 : d.what < 7 := by omega
      have HFD := Lib.hid hfd
      have hwl := Lib.hid (wordB_len d.what.toNat)
      obtain ⟨T0, hT0⟩ : ∃ T0, ddsText li = T0 := ⟨_, rfl⟩
      rw [hT0] at hbd htl
      have htz : T0.length ≤ 18000 := by omega
      have HT0 := Lib.hid hT0
      have HO := Lib.hid ho
      have HBD := Lib.hid hbd
      have hDB := Lib.hid (show wo.heap.size ≠ B by have := hbd.obj; omega)
      clear hr hfd hT0 ho hbd htl hli
      have hob := Lib.hid (heap_alloc_new wo (.cells #[.int .i64 d.what, .int .i64 d.hand, .int .i64 d.task, .int .i64 d.other] 53))
      have hoa := Lib.hid (HO.out.alloc (.cells #[.int .i64 d.what, .int .i64 d.hand, .int .i64 d.task, .int .i64 d.other] 53))
      have hba := Lib.hid (HBD.out.alloc (.cells #[.int .i64 d.what, .int .i64 d.hand, .int .i64 d.task, .int .i64 d.other] 53))
      obtain ⟨sw, hsw, hswl⟩ := (HWD.out.only hoa.out) d.what.toNat (by omega)
      have hswz : sw.size ≤ 8 := by
        have e : sw.data.toList.length = sw.size := Array.length_toList
        rw [← e, hswl]; exact hwl.out
      have hw1 := build_write B B T0 sw _ hba.out (by omega)
      rw [hswl] at hw1
      go_wp2_with fail
      refine hw1.mono ?_
      rintro e w2 ⟨rfl, hb2, ha2⟩
      have hob2 := Lib.hid (ha2.obj hob.out hDB.out (by decide))
      have hoa2 := Lib.hid (hoa.out.around ha2 hBw)
      have HB2 := Lib.hid hb2
      have hf := trace_fields wo.heap.size d.what w2 (obj_cell hob2.out 0 _ rfl)
      clear hw1 hb2 ha2 hob hoa hba hsw hswl hswz c0 c1 c2 c3
      go_wp2_with fail
      refine hf.mono ?_
      rintro e w3 ⟨F, kk, rfl, hkk, hF, hFl, ho3⟩
      have hkk3 : kk ≤ 3 := by rw [hkk]; exact ddPlaces_len _
      have HKK := Lib.hid hkk
      have hFB := Lib.hid (show F ≠ B by have := HB2.out.obj; omega)
      have hF0 := Lib.hid hF
      have hb3 := Lib.hid (HB2.out.same ho3)
      have hoa3 := Lib.hid (hoa2.out.trans ho3 (by simp))
      have hob3 := Lib.hid (obj_only hob2.out ho3)
      clear hf hkk hF hFl HB2 hoa2 hob2 ho3
      go_wp2_with fail
      go_loopw [28] (fun vj wr => ∃ j : Nat, j ≤ kk ∧ vj = .int .i64 (j : Int) ∧ BuildAt wr B B ((T0 ++ wordB d.what.toNat) ++ ((ddNums d).take j).flatMap numB) ∧
        wr.heap[wo.heap.size]? = some (.cells #[.int .i64 d.what, .int .i64 d.hand, .int .i64 d.task, .int .i64 d.other] 53 (0, 0)) ∧ wr.heap[F]? = some (.cells ((ddPlaces d.what).map fun j => .pointer (some ⟨wo.heap.size, j, none⟩)).toArray 128 (0, 0)) ∧ Only [] w wr) (fun vj _ => kk - (intOf vj).toNat)
      case atStart => exact ⟨0, Nat.zero_le _, rfl, by simpa using hb3.out, hob3.out, hF0.out, hoa3.out⟩
      case round =>
        clear hb3 hoa3 hob3 hF0
        obtain ⟨wq, rfl⟩ : ∃ wq : World, wq = wr := ⟨_, rfl⟩
        obtain ⟨j, hj, rfl, hb, hD, hF, ho⟩ := hrel
        by_cases hjk : j < kk
        · obtain ⟨pl, q, hq, hpl, hcl, htq⟩ := HPL.out j (by rw [← HKK.out]; exact hjk)
          have cF : wq.cell? ⟨F, j, none⟩ = some (.pointer (some ⟨wo.heap.size, pl, none⟩)) := obj_cell hF j _ (by simp [hpl])
          have cD : wq.cell? ⟨wo.heap.size, pl, none⟩ = some (.int .i64 (q : Int)) := obj_cell hD pl _ (by simpa [ddCells] using hcl)
          have hnj : ((ddNums d).take j).length ≤ 3 := by rw [List.length_take]; omega
          have hnl2 : (((ddNums d).take j).flatMap numB).length ≤ 9 := by
            have := nums_len ((ddNums d).take j) (fun x hx => by have := ddNums_lt HFD.out x (List.mem_of_mem_take hx); omega)
            omega
          have HB := Lib.hid hb
          have HD := Lib.hid hD
          have HF := Lib.hid hF
          have HO2 := Lib.hid ho
          have HTQ := Lib.hid htq
          clear hb hD hF ho htq hpl hcl hnj
          go_wp2_with fail
          refine (Tryz.strconv_Itoa_small q (by omega) _).mono ?_
          rintro e w4 ⟨rfl, rfl⟩
          obtain ⟨sb, hsb, hz⟩ : ∃ sb : ByteArray, (⟨(Lib.decDigits q).toArray⟩ : ByteArray) = sb ∧ sb.size ≤ 2 := ⟨_, rfl, by show ((Lib.decDigits q).toArray).size ≤ 2; rw [List.size_toArray]; exact digits_le (by omega)⟩
          have HSB := Lib.hid hsb
          rw [hsb]
          clear hsb
          have hz1 : ¬ 9223372036854775806 < sb.size := by omega
          have hz2 : ¬ 9223372036854775807 < (⟨#[32]⟩ : ByteArray).size + sb.size := by show ¬ 9223372036854775807 < 1 + sb.size; omega
          obtain ⟨sl, hsl, hslz, hsll⟩ : ∃ sl : ByteArray, (⟨#[32]⟩ : ByteArray) ++ sb = sl ∧ sl.size ≤ 3 ∧ sl.data.toList = numB q := ⟨_, rfl, by rw [ByteArray.size_append]; show 1 + sb.size ≤ 3; omega, by rw [← HSB.out, ByteArray.data_append]; simp [numB]⟩
          have hwr := build_write B B _ sl _ HB.out (by rw [List.length_append, List.length_append]; have := hwl.out; omega)
          rw [hsll] at hwr
          go_wp2_with fail
          refine hwr.mono ?_
          rintro e w5 ⟨rfl, hb5, ha5⟩
          have hfin := Lib.hid (show BuildAt w5 B B ((T0 ++ wordB d.what.toNat) ++ ((ddNums d).take (j + 1)).flatMap numB) by rw [HTQ.out, List.flatMap_append, ← List.append_assoc]; simpa using hb5)
          have hD5 := Lib.hid (ha5.obj HD.out hDB.out (by decide))
          have hF5 := Lib.hid (ha5.obj HF.out hFB.out (by decide))
          have ho5 := Lib.hid (HO2.out.around ha5 hBw)
          clear hwr hb5 ha5
          go_wp2
          go_roundw
          case rel => exact ⟨j + 1, by omega, by go_num, hfin.out, hD5.out, hF5.out, ho5.out⟩
          case measure => (simp [intOf]; try omega)
        · obtain rfl : j = kk := by omega
          have hnl2 : ((ddNums d).flatMap numB).length ≤ 9 := by
            have h1 := nums_len (ddNums d) (fun x hx => by have := ddNums_lt HFD.out x hx; omega)
            have h2 : (ddNums d).length = j := by rw [HKK.out]; simp [ddNums]
            omega
          have hb' : BuildAt wq B B ((T0 ++ wordB d.what.toNat) ++ (ddNums d).flatMap numB) := by
            have e : (ddNums d).take j = ddNums d := List.take_of_length_le (by rw [HKK.out]; simp [ddNums])
            rw [e] at hb
            exact hb
          have hwr := build_write B B _ ⟨#[10]⟩ _ hb' (by rw [List.length_append, List.length_append]; have := hwl.out; show _ + 1 ≤ 1000000; omega)
          have HO2 := Lib.hid ho
          clear hb hb' hD hF ho
          go_wp2_with fail
          refine hwr.mono ?_
          rintro e w5 ⟨rfl, hb5, ha5⟩
          have hfin := Lib.hid (show BuildAt w5 B B (ddsText (l.take (i + 1))) by rw [htk.out, ddsText_push, HT0.out]; unfold ddText; rw [← List.append_assoc, ← List.append_assoc]; exact hb5)
          have ho5 := Lib.hid (HO2.out.around ha5 hBw)
          clear hwr hb5 ha5
          go_wp2
          go_roundw
          case rel => exact ⟨i + 1, by omega, by go_num, hfin.out, ho5.out⟩
          case measure => (simp [intOf]; try omega)
    · obtain rfl : i = n := by omega
      rw [List.take_of_length_le (by rw [HN.out]; exact Nat.le_refl _)] at hbd
      have hs := build_string B B _ _ hbd
      clear hbd
      go_wp2_with fail
      refine hs.mono ?_
      rintro e w2 ⟨rfl, _, ha2⟩
      have ho5 := Lib.hid (ho.around ha2 hBw)
      clear hs ha2
      go_wp2
      go_ret2
      exact ⟨rfl, ho5.out⟩

end Go.Proofs.YtoofalchkedciaaGreatDoor
