/-
  The statement LogKeeps: behind a crash as many tasks are done as are whole among the bytes that are left; what stopped did nothing; and those are ready that are then. No condition but the listed variables'.
-/
import Derived.Test.YtloojhnhialenaaGreatDoorFrame
import Derived.Test.YtloojhnhialenaaGreatDoorLaid
import Derived.Test.YtloojhnhialenaaGreatDoorLog2
import Derived.Test.YtloojhnhialenaaGreatDoorCrash
import Derived.Test.YtloojhnhialenaaGreatDoorLogK
import Derived.Test.YtloojhnhialenaaGreatDoorTold
import Derived.Test.YtloojhnhialenaaGreatDoorSReady
import Derived.Test.YtloojhnhialenaaGreatDoorSame
import Derived.Test.YtloojhnhialenaaGreatDoorPlanK
import Derived.Test.YtloojhnhialenaaGreatDoorErrV
import Derived.Test.YtloojhnhialenaaGreatDoorLit
import Derived.Test.YtloojhnhialenaaGreatDoorJoin2
import Derived.Test.YtloojhnhialenaaGreatDoorChainK
namespace Go.Proofs.YtloojhnhialenaaGreatDoor.logKeeps
open Go.ChangeShapes Go.WideShapes Go.ChangeAt Go.RowKit
open Go.ChangeMaps (open_string shut_string)
set_option linter.unusedVariables false


theorem besides_r (l : List Nat) (i : Nat) (hi : i ∉ l) : readyB (besideP 2 1) (doneB l) i = true := by
  unfold readyB
  rw [beside_nd]
  simp [doneB, hi]
theorem lit_two2 (W : World) : InPlan (W.alloc (.cells #[.int .i64 1, .slice none 0 0, .int .i64 1, .slice none 0 0] 68)) (.slice (some ⟨W.heap.size, 0, none⟩) 2 2) (besideP 2 1) := by
  refine lit_plan (heap_alloc_at _ _ _ rfl) (besideP 2 1) (fun _ => .slice none 0 0) rfl (by simp [besideP_len]) ?_
  intro i hi
  rw [beside_nd]
  exact .inl ⟨rfl, .inl rfl⟩
theorem logIs_g {w : World} {S : List Nat} {F : Nat → Prop} {G : Nat} {p : PlanL} {s : LSt} (h : LogIs w S F G p s) : G ∈ S := by
  obtain ⟨_, _, _, _, _, _, _, rfl, _⟩ := h
  simp

theorem text_short (l : List Nat) (h : ∀ i ∈ l, i < 100) : (textOf l).length ≤ 3 * l.length := by
  induction l with
  | nil => simp [textOf]
  | cons i l ih =>
    have h1 := ih (fun j hj => h j (by simp [hj]))
    have h2 := digits_two (h i (by simp))
    have e : textOf (i :: l) = lineOf i ++ textOf l := by simp [textOf]
    rw [e]
    simp [lineOf]
    omega
theorem half_no10 (i : Nat) (h : i < 100) : (10 : UInt8) ∉ (lineOf i).take ((lineOf i).length / 2) := fun hm => by
  unfold lineOf at hm
  have h2 := digits_two h
  have h0 : 1 ≤ (Lib.decDigits i).length := List.length_pos_iff.2 (digits_ne i h)
  rw [List.take_append_of_le_length (by simp; omega)] at hm
  exact dig_no10 (digits_dig h) (List.mem_of_mem_take hm)
theorem half_len (i : Nat) (h : i < 100) : ((lineOf i).take ((lineOf i).length / 2)).length ≤ 3 := by
  have h2 := digits_two h
  rw [List.length_take]
  unfold lineOf
  simp
  omega
theorem line_two (i : Nat) (h : i < 100) : 2 ≤ (lineOf i).length := by
  have h0 : 1 ≤ (Lib.decDigits i).length := List.length_pos_iff.2 (digits_ne i h)
  unfold lineOf
  simp; omega

/-- Where each line ends. -/
def marksL (l : List Nat) : List Int := (List.range (l.length + 1)).map (fun i => ((textOf (l.take i)).length : Int))
theorem marksL_len (l : List Nat) : (marksL l).length = l.length + 1 := by simp [marksL]
theorem marksL_push (l : List Nat) (x : Nat) : marksL (l ++ [x]) = marksL l ++ [((textOf (l ++ [x])).length : Int)] := by
  unfold marksL
  rw [List.length_append, List.length_singleton, List.range_succ (n := l.length + 1), List.map_append, List.map_singleton]
  congr 1
  · apply List.map_congr_left
    intro i hi
    have := List.mem_range.1 hi
    rw [List.take_append_of_le_length (by omega)]
  · rw [List.take_of_length_le (by simp)]
theorem marksL_at (l : List Nat) (i : Nat) (h : i ≤ l.length) : nth (marksL l) i = ((textOf (l.take i)).length : Int) := by
  unfold nth marksL
  rw [List.getElem?_map, List.getElem?_range (by omega)]
  rfl
theorem marksL_take (l : List Nat) (k : Nat) (h : k ≤ l.length) : (marksL l).take (k + 1) = marksL (l.take k) := by
  unfold marksL
  rw [← List.map_take, List.take_range, List.length_take, show min (k + 1) (l.length + 1) = min k l.length + 1 by omega]
  apply List.map_congr_left
  intro i hi
  have := List.mem_range.1 hi
  rw [List.take_take, show min i k = i by omega]
theorem mark_le : ∀ (l : List Nat) (m j : Nat), j ≤ l.length → ((textOf (l.take j)).length ≤ m ↔ j ≤ keepN l m) := by
  intro l
  induction l with
  | nil => intro m j hj; simp at hj; subst hj; simp [textOf]
  | cons x l ih =>
    intro m j hj
    cases j with
    | zero => simp [textOf]
    | succ j =>
      have e : textOf ((x :: l).take (j + 1)) = lineOf x ++ textOf (l.take j) := by simp [textOf]
      rw [e, List.length_append]
      unfold keepN
      by_cases hx : (lineOf x).length ≤ m
      · rw [if_pos hx]
        have := ih (m - (lineOf x).length) j (by simpa using hj)
        omega
      · rw [if_neg hx]
        omega

theorem Ints.cut {w : World} {base : Nat} {a : Option Addr} {n cap : Nat} {xs : List Int} (h : Ints w base (.slice a n cap) xs) (k : Nat) (hk : k ≤ xs.length) : Ints w base (.slice a k cap) (xs.take k) := by
  have hl : (xs.take k).length = k := by rw [List.length_take]; omega
  rcases h.2 with ⟨h1, h2⟩ | ⟨g, cap', cur, h1, hb, hg, hc, hm, hz, hx⟩
  · injection h1 with e1 _ e2
    subst e1 e2
    obtain rfl : k = 0 := by omega
    exact Ints.nil _ _
  · injection h1 with e1 _ e2
    subst e1 e2
    unfold Ints
    rw [hl]
    refine ⟨by simp; omega, .inr ⟨g, cap, cur, rfl, hb, hg, by omega, hm, hz, ?_⟩⟩
    have := congrArg (List.take k) hx
    rw [List.take_take] at this
    rw [Nat.mul_one, ← List.map_take] at *
    rw [show min k xs.length = k by omega] at this
    exact this

/-- How the log stands, and what the statement holds beside it. -/
structure Lk (w wr : World) (p : PlanL) (G : Nat) (dv mv : Value) (dl ml : List Int) (S : List Nat) (F : Nat → Prop) (s : LSt) (part : List UInt8) : Prop where
  ord : OrdOk p s.all
  log : LogIs wr S F G p s
  bytes : s.bytes = textOf s.all ++ part
  part10 : (10 : UInt8) ∉ part
  partl : part.length ≤ 3
  run : s.stop = false → part = []
  left : -1 ≤ s.left ∧ s.left ≤ 9223372036854775807
  safe : s.safe ≤ (textOf s.all).length
  far : ∀ x ∈ S, w.heap.size ≤ x
  only : Only [] w wr
  done : Ints wr w.heap.size dv dl
  marks : Ints wr w.heap.size mv ml
  n1 : ∀ x ∈ own dv, x ∉ S ∧ ¬ F x ∧ x ∉ own mv
  n2 : ∀ x ∈ own mv, x ∉ S ∧ ¬ F x

theorem Lk.short {w wr : World} {p : PlanL} {G : Nat} {dv mv : Value} {dl ml : List Int} {S : List Nat} {F : Nat → Prop} {s : LSt} {part : List UInt8} (h : Lk w wr p G dv mv dl ml S F s part) (h30 : p.length ≤ 30) : s.all.length ≤ 30 ∧ (textOf s.all).length ≤ 90 ∧ s.bytes.length ≤ 93 ∧ s.bytes.length = (textOf s.all).length + part.length := by
  have h1 := nodup_le _ _ h.ord.nodup h.ord.lt
  have h2 := text_short s.all (fun i hi => by have := h.ord.lt i hi; omega)
  have h3 := congrArg List.length h.bytes
  rw [List.length_append] at h3
  have h4 := h.partl
  omega
theorem Lk.same {w wr wq : World} {p : PlanL} {G : Nat} {dv mv : Value} {dl ml : List Int} {S : List Nat} {F : Nat → Prop} {s : LSt} {part : List UInt8} (h : Lk w wr p G dv mv dl ml S F s part) (ho : Only [] wr wq) : Lk w wq p G dv mv dl ml S F s part :=
  ⟨h.ord, h.log.same ho, h.bytes, h.part10, h.partl, h.run, h.left, h.safe, h.far, h.only.trans ho (by simp), h.done.only ho (by simp), h.marks.only ho (by simp), h.n1, h.n2⟩
/-- .. behind a step of the log. -/
theorem Lk.step {w wr wq : World} {p : PlanL} {G : Nat} {dv mv : Value} {dl ml : List Int} {S : List Nat} {F : Nat → Prop} {s : LSt} {part : List UInt8} (h : Lk w wr p G dv mv dl ml S F s part) {S' : List Nat} {F' : Nat → Prop} {s' : LSt} {part' : List UInt8}
    (ho : OrdOk p s'.all) (hlog : LogIs wq S' F' G p s') (hb : s'.bytes = textOf s'.all ++ part') (hp : (10 : UInt8) ∉ part') (hpl : part'.length ≤ 3) (hr : s'.stop = false → part' = []) (hl : -1 ≤ s'.left ∧ s'.left ≤ 9223372036854775807) (hs : s'.safe ≤ (textOf s'.all).length)
    (hk : Kin wr S S') (hf : ∀ x, F' x → F x ∨ wr.heap.size ≤ x) (hon : Only S wr wq) : Lk w wq p G dv mv dl ml S' F' s' part' := by
  have hn1 : ∀ x ∈ own dv, x ∉ S := fun x hx => (h.n1 x hx).1
  have hn2 : ∀ x ∈ own mv, x ∉ S := fun x hx => (h.n2 x hx).1
  refine ⟨ho, hlog, hb, hp, hpl, hr, hl, hs, fun x hx => ?_, h.only.kin hon h.far, h.done.only hon (fun g hg => hn1 g (own_of hg)), h.marks.only hon (fun g hg => hn2 g (own_of hg)), fun x hx => ⟨fun hS => ?_, fun hF => ?_, (h.n1 x hx).2.2⟩, fun x hx => ⟨fun hS => ?_, fun hF => ?_⟩⟩
  · rcases hk x hx with hx | hx
    · exact h.far x hx
    · have := h.only.size; omega
  · rcases hk x hS with hS | hS
    · exact (h.n1 x hx).1 hS
    · have := (h.done.own_lt x hx).2; omega
  · rcases hf x hF with hF | hF
    · exact (h.n1 x hx).2.1 hF
    · have := (h.done.own_lt x hx).2; omega
  · rcases hk x hS with hS | hS
    · exact (h.n2 x hx).1 hS
    · have := (h.marks.own_lt x hx).2; omega
  · rcases hf x hF with hF | hF
    · exact (h.n2 x hx).2 hF
    · have := (h.marks.own_lt x hx).2; omega

theorem logIs_lt {w : World} {S : List Nat} {F : Nat → Prop} {G : Nat} {p : PlanL} {s : LSt} (h : LogIs w S F G p s) : (∀ x ∈ S, x < w.heap.size) ∧ ∀ x, F x → x < w.heap.size := by
  obtain ⟨JS, FJ, FP, J, pv, av, h, rfl, rfl⟩ := h
  refine ⟨fun x hx => ?_, h.b1⟩
  rcases List.mem_cons.1 hx with rfl | hx
  · exact h.cells.lt
  · rcases List.mem_append.1 hx with hx | hx
    · exact (h.all.own_lt x hx).2
    · exact h.b2 x hx
theorem own_one {g k cap x : Nat} (h : x ∈ own (.slice (some ⟨g, 0, none⟩) k cap)) : x = g := by simpa [own, Value.ownBlock] using h
/-- .. behind an append to what is done. -/
theorem Lk.pushD {w wr wq : World} {p : PlanL} {G : Nat} {dv mv : Value} {dl ml : List Int} {S : List Nat} {F : Nat → Prop} {s : LSt} {part : List UInt8} (h : Lk w wr p G dv mv dl ml S F s part) {g k cap : Nat} {xs : List Int}
    (hI : Ints wq w.heap.size (.slice (some ⟨g, 0, none⟩) k cap) xs) (ho : Only (own dv) wr wq) (hg : g ∈ own dv ∨ wr.heap.size ≤ g) : Lk w wq p G (.slice (some ⟨g, 0, none⟩) k cap) mv xs ml S F s part := by
  obtain ⟨hl1, hl2⟩ := logIs_lt h.log
  refine ⟨h.ord, h.log.only ho (fun x hx hd => (h.n1 x hd).1 hx) (fun x hx hd => (h.n1 x hd).2.1 hx), h.bytes, h.part10, h.partl, h.run, h.left, h.safe, h.far, h.only.kin ho (fun x hx => (h.done.own_lt x hx).1), hI,
    h.marks.only ho (fun b hb hd => (h.n1 b hd).2.2 (own_of hb)), fun x hx => ?_, h.n2⟩
  obtain rfl := own_one hx
  rcases hg with hg | hg
  · exact h.n1 x hg
  · exact ⟨fun hS => by have := hl1 x hS; omega, fun hF => by have := hl2 x hF; omega, fun hm => by have := (h.marks.own_lt x hm).2; omega⟩
/-- .. behind an append to the marks. -/
theorem Lk.pushM {w wr wq : World} {p : PlanL} {G : Nat} {dv mv : Value} {dl ml : List Int} {S : List Nat} {F : Nat → Prop} {s : LSt} {part : List UInt8} (h : Lk w wr p G dv mv dl ml S F s part) {g k cap : Nat} {xs : List Int}
    (hI : Ints wq w.heap.size (.slice (some ⟨g, 0, none⟩) k cap) xs) (ho : Only (own mv) wr wq) (hg : g ∈ own mv ∨ wr.heap.size ≤ g) : Lk w wq p G dv (.slice (some ⟨g, 0, none⟩) k cap) dl xs S F s part := by
  obtain ⟨hl1, hl2⟩ := logIs_lt h.log
  refine ⟨h.ord, h.log.only ho (fun x hx hd => (h.n2 x hd).1 hx) (fun x hx hd => (h.n2 x hd).2 hx), h.bytes, h.part10, h.partl, h.run, h.left, h.safe, h.far, h.only.kin ho (fun x hx => (h.marks.own_lt x hx).1),
    h.done.only ho (fun b hb hd => (h.n1 b (own_of hb)).2.2 hd), hI, fun x hx => ⟨(h.n1 x hx).1, (h.n1 x hx).2.1, fun hm => ?_⟩, fun x hx => ?_⟩
  · obtain rfl := own_one hm
    rcases hg with hg | hg
    · exact (h.n1 x hx).2.2 hg
    · have := (h.done.own_lt x hx).2; omega
  · obtain rfl := own_one hx
    rcases hg with hg | hg
    · exact h.n2 x hg
    · exact ⟨fun hS => by have := hl1 x hS; omega, fun hF => by have := hl2 x hF; omega⟩

theorem ints_cap {w : World} {base : Nat} {a : Option Addr} {n cap : Nat} {xs : List Int} (h : Ints w base (.slice a n cap) xs) : n ≤ cap := by
  rcases h.form with ⟨e, _⟩ | ⟨g, c, e, _, _, h1, _⟩
  · injection e with e1 e2 e3; omega
  · injection e with e1 e2 e3; omega
theorem natL_take (l : List Nat) (k : Nat) : natL (l.take k) = (natL l).take k := by simp [natL, List.map_take]
theorem Lk.cut {w wr : World} {p : PlanL} {G : Nat} {da ma : Option Addr} {nd dc nm mc : Nat} {dl ml : List Int} {S : List Nat} {F : Nat → Prop} {s : LSt} {part : List UInt8} (h : Lk w wr p G (.slice da nd dc) (.slice ma nm mc) dl ml S F s part) (k j : Nat) (hk : k ≤ dl.length) (hj : j ≤ ml.length) :
    Lk w wr p G (.slice da k dc) (.slice ma j mc) (dl.take k) (ml.take j) S F s part :=
  ⟨h.ord, h.log, h.bytes, h.part10, h.partl, h.run, h.left, h.safe, h.far, h.only, Ints.cut h.done k hk, Ints.cut h.marks j hj,
    fun x hx => by
      rw [own_any da k nd dc dc] at hx
      rw [own_any ma j nm mc mc]
      exact h.n1 x hx,
    fun x hx => by
      rw [own_any ma j nm mc mc] at hx
      exact h.n2 x hx⟩

set_option maxHeartbeats 8000000 in
set_option maxRecDepth 100000 in
theorem walk (v0 : Value) (l0 : PlanL) (v1 : Value) (l1 : List Int) (v2 : Value) (l2 : List Int) (v3 : Value) (l3 : List Int) (v4 : Value) (l4 : List Int) (w : World) (hglob : Glob w) (hrange : VarErr "strconv.ErrRange" w) (hsyn : VarErr "strconv.ErrSyntax" w) (w0 : ArgPlan w v0 l0) (w1 : InInts w v1 l1) (w2 : InInts w v2 l2) (w3 : InInts w v3 l3) (w4 : InInts w v4 l4) :
    Calls Tryz.prog 6 #[v0, v1, v2, v3, v4] w fun e w' => e = .returned (.bool true) ∧ Below w.heap.size w w' := by
  have HP := Lib.hid w0.2
  have HG := Lib.hid hglob
  have HI1 := Lib.hid w1
  have HI2 := Lib.hid w2
  have HI3 := Lib.hid w3
  have HI4 := Lib.hid w4
  have hlit := lit_two2 w
  have hok2 := beside_ok 2 1 (by omega) (by omega) (by omega)
  have hnew := Log.new _ (besideP 2 1) _ hlit hok2
  have ho0 := (Only.refl [] w).alloc (.cells #[.int .i64 1, .slice none 0 0, .int .i64 1, .slice none 0 0] 68)
  clear hlit hok2 w1 w2 w3 w4 hglob
  go_enter Tryz.func6, Tryz.ntmps6
  go_wp2_with fail
  refine hnew.mono ?_
  rintro e wa ⟨G, S, F, rfl, hJ, hS, hF, ho1⟩
  have hoo := ho0.trans ho1 (by simp)
  have hS2 : ∀ x ∈ S, w.heap.size ≤ x := fun x hx => by have := (hS x hx).1; have := ho0.size; omega
  have HO := Lib.hid hoo
  clear hnew ho0 ho1 hS hF hoo
  go_wp2_with fail
  refine (Log.done_ok S F G (besideP 2 1) _ 1 wa hJ rfl (by rw [besideP_len]; omega) (besides_r [] 1 (by simp)) (by simp) (by simp) (by simp) (by simp) (by simp)).mono ?_
  rintro e wb ⟨rfl, S2, hJ2, hK2, ho2⟩
  have hJ2 : LogIs wb S2 F G (besideP 2 1) ⟨[1], lineOf 1, 0, -1, false⟩ := hJ2
  have HOb := Lib.hid (HO.out.kin ho2 hS2)
  have hSb : Hid (∀ x ∈ S2, w.heap.size ≤ x) := fun x hx => by
    rcases hK2 x hx with h | h
    · exact hS2 x h
    · have := HO.out.size; omega
  clear hJ hK2 ho2 hS2 HO
  go_wp2_with fail
  refine (Log.sync S2 F G (besideP 2 1) _ wb hJ2 rfl (by show (-1 : Int) ≠ 0; omega) (by show (-1 : Int) ≤ -1; omega) (by show (-1 : Int) ≤ _; omega)).mono ?_
  rintro e wc ⟨rfl, hJ3, ho3⟩
  have hJ3 : LogIs wc S2 F G (besideP 2 1) ⟨[1], lineOf 1, (lineOf 1).length, -1, false⟩ := hJ3
  have HOc := Lib.hid (HOb.out.trans ho3 (fun x hx hl => by simp at hx; subst hx; have := hSb.out _ (logIs_g hJ2); omega))
  clear hJ2 ho3 HOb
  go_wp2_with fail
  refine (Log.done_ok S2 F G (besideP 2 1) _ 0 wc hJ3 rfl (by rw [besideP_len]; omega) (besides_r [1] 0 (by simp)) (by show (-1 : Int) ≠ 0; omega) (by show (-1 : Int) ≤ -1; omega) (by show (-1 : Int) ≤ _; omega) (by simp) (by show (lineOf 1).length ≤ 1000; unfold lineOf; rw [Lib.decDigits_one (by omega)]; simp)).mono ?_
  rintro e wd ⟨rfl, S4, hJ4, hK4, ho4⟩
  have hJ4 : LogIs wd S4 F G (besideP 2 1) ⟨[1, 0], lineOf 1 ++ lineOf 0, (lineOf 1).length, -1, false⟩ := hJ4
  have HOd := Lib.hid (HOc.out.kin ho4 hSb.out)
  have hSd : Hid (∀ x ∈ S4, w.heap.size ≤ x) := fun x hx => by
    rcases hK4 x hx with h | h
    · exact hSb.out x h
    · have := HOc.out.size; omega
  clear hJ3 hK4 ho4 hSb HOc
  have l1 : lineOf 1 = [49, 10] := by unfold lineOf; rw [Lib.decDigits_one (by omega)]; rfl
  have l0' : lineOf 0 = [48, 10] := by unfold lineOf; rw [Lib.decDigits_one (by omega)]; rfl
  go_wp2_with fail
  refine (Log.crash S4 F G (besideP 2 1) _ 0 [] wd hJ4 ((OrdOk.nil _).push (l := []) (i := 1) (by rw [besideP_len]; omega) (besides_r [] 1 (by simp)) |>.push (i := 0) (by rw [besideP_len]; omega) (besides_r [1] 0 (by simp))) (by simp [textOf]) (by simp) (by rw [l1, l0']; decide) (by rw [l1, l0']; decide) (by omega)).mono ?_
  rintro e we ⟨rfl, S5, F5, hJ5, hK5, hF5, ho5⟩
  have hcr : LSt.crashed ⟨[1, 0], lineOf 1 ++ lineOf 0, (lineOf 1).length, -1, false⟩ (leftB ⟨[1, 0], lineOf 1 ++ lineOf 0, (lineOf 1).length, -1, false⟩ 0) = ⟨[1], lineOf 1, 2, -1, false⟩ := by
    have e : leftB ⟨[1, 0], lineOf 1 ++ lineOf 0, (lineOf 1).length, -1, false⟩ 0 = 2 := by unfold leftB; rw [l1, l0']; rfl
    rw [e]
    have k : keepN [1, 0] 2 = 1 := by simp [keepN, l1, l0']
    unfold LSt.crashed
    rw [k]
    simp [textOf, l1]
  rw [hcr] at hJ5
  have HOe := Lib.hid (HOd.out.kin ho5 hSd.out)
  clear hJ4 hK5 hF5 ho5 hcr HOd hSd l1 l0'
  go_wp2_with fail
  refine (Log.all S5 F5 G (besideP 2 1) _ we hJ5 (by simp)).mono ?_
  rintro e wf ⟨v, rfl, hI, ho6⟩
  have hI : Ints wf we.heap.size v [1] := hI
  obtain ⟨g, cap, rfl, _⟩ := hI.sized 1 rfl (by omega)
  have c0 := hI.cell 0 (by simp)
  have c0' : wf.cell? ⟨g, 0, none⟩ = some (.int .i64 1) := c0
  have hJ6 := hJ5.same ho6
  have HOf := Lib.hid (HOe.out.trans ho6 (by simp))
  clear hI hJ5 ho6 HOe c0
  have c0 : wf.cell? ⟨g, 0, none⟩ = some (.int .i64 1) := c0'
  go_wp2_with fail
  refine (Log.bytes_any S5 F5 G (besideP 2 1) _ wf hJ6 2 (by show (lineOf 1).length = 2; unfold lineOf; rw [Lib.decDigits_one (by omega)]; rfl)).mono ?_
  rintro e wg ⟨rfl, rfl⟩
  go_wp2_with fail
  refine (Log.safe S5 F5 G (besideP 2 1) _ wf hJ6).mono ?_
  rintro e wg ⟨rfl, rfl⟩
  by_cases h0 : planFault l0 = 0
  · have hok := (planOk_iff l0).2 h0
    have hnew := Log.new _ l0 wf (HP.out.same HOf.out) hok
    have HOK := Lib.hid hok
    have h30 := hok.len
    clear hJ6 hok c0 h0
    go_wp2_with fail
    refine hnew.mono ?_
    rintro e wg ⟨G, S, F, rfl, hJ, hS, hF, ho1⟩
    have hoo := HOf.out.trans ho1 (by simp)
    have hK0 : Lk w (wg.alloc (.cells #[.int .i64 0] 3)) l0 G (.slice none 0 0) (.slice (some ⟨wg.heap.size, 0, none⟩) 1 1) (natL []) (marksL []) S F ⟨[], [], 0, -1, false⟩ [] := by
      have hal := (Only.refl [] wg).alloc (.cells #[.int .i64 0] 3)
      refine ⟨OrdOk.nil _, hJ.same hal, rfl, by simp, by simp, fun _ => rfl, by decide, Nat.zero_le _, fun x hx => ?_, hoo.alloc _, Ints.nil _ _, ?_, fun x hx => by simp [own, Value.ownBlock] at hx, fun x hx => ?_⟩
      · have := (hS x hx).1; have := HOf.out.size; omega
      · refine ⟨rfl, .inr ⟨wg.heap.size, 1, #[.int .i64 0], rfl, hoo.size, heap_alloc_new _ _, by decide, by unfold maxLen; omega, rfl, rfl⟩⟩
      · have e : x = wg.heap.size := by simpa [own, Value.ownBlock] using hx
        subst e
        exact ⟨fun h => by have := (hS _ h).2; omega, fun h => by have := (hF _ h).2; omega⟩
    obtain ⟨pa, pc, rfl, _⟩ := w0.2.task
    obtain ⟨n, hn⟩ : ∃ n, l0.length = n := ⟨_, rfl⟩
    obtain ⟨a1, c1, rfl, hi1⟩ := HI1.out.opt
    obtain ⟨a2, c2, rfl, hi2⟩ := HI2.out.opt
    obtain ⟨a3, c3, rfl, hi3⟩ := HI3.out.opt
    obtain ⟨a4, c4, rfl, hi4⟩ := HI4.out.opt
    have HB3 := Lib.hid HI3.out.bounds
    have HB4 := Lib.hid HI4.out.bounds
    have hm9 : l1.length ≤ 9223372036854775807 := by have := HI1.out.len; unfold maxLen at this; omega
    have hq9 : l2.length ≤ 9223372036854775807 := by have := HI2.out.len; unfold maxLen at this; omega
    have hf9 : l3.length ≤ 9223372036854775807 := by have := HI3.out.len; unfold maxLen at this; omega
    have hk9 : l4.length ≤ 9223372036854775807 := by have := HI4.out.len; unfold maxLen at this; omega
    obtain ⟨m, hm⟩ : ∃ m, l1.length = m := ⟨_, rfl⟩
    obtain ⟨q, hq⟩ : ∃ q, l2.length = q := ⟨_, rfl⟩
    obtain ⟨nf, hnf⟩ : ∃ nf, l3.length = nf := ⟨_, rfl⟩
    obtain ⟨nk, hnk⟩ : ∃ nk, l4.length = nk := ⟨_, rfl⟩
    rw [hm] at hi1 hm9 ⊢
    rw [hq] at hi2 hq9 ⊢
    rw [hnf] at hi3 hf9 ⊢
    rw [hnk] at hi4 hk9 ⊢
    rw [hn] at h30 HP ⊢
    have HN := Lib.hid hn
    have HNF := Lib.hid hnf
    have HNK := Lib.hid hnk
    have H1 := Lib.hid hi1
    have H2 := Lib.hid hi2
    have H3 := Lib.hid hi3
    have H4 := Lib.hid hi4
    clear hnew HOf hi1 hi2 hi3 hi4 hm hq hnf hnk hn HI1 HI2 HI3 HI4 hJ hS hF hoo w0 ho1 hI
    go_wp2_with fail
    go_loopw [21, 22, 23, 24] (fun vd vm va vr wr => ∃ (r a : Nat) (S : List Nat) (F : Nat → Prop) (s : LSt) (part : List UInt8), r ≤ 4 ∧ a ≤ m ∧ va = .int .i64 a ∧ vr = .int .i64 r ∧ Lk w wr l0 G vd vm (natL s.all) (marksL s.all) S F s part) (fun _ _ _ vr _ => 4 - (intOf vr).toNat)
    case atStart => exact ⟨0, 0, S, F, ⟨[], [], 0, -1, false⟩, [], by omega, by omega, rfl, rfl, hK0⟩
    case round =>
      clear hK0
      obtain ⟨wq, rfl⟩ : ∃ wq : World, wq = wr := ⟨_, rfl⟩
      obtain ⟨r, a, S, F, s, part, hr, ha, rfl, rfl, hK⟩ := hrel
      have HK := Lib.hid hK
      clear hK
      by_cases hlt : r ≤ nf ∧ r < 4
      · obtain ⟨hr1, hr2⟩ := hlt
        go_upto_if 116 with (fail)
        go_cut [] (fun wx => ∃ s2 : LSt, s2.all = s.all ∧ Lk w wx l0 G u21 u22 (natL s.all) (marksL s.all) S F s2 part)
        case first =>
          as_aux_lemma =>
            by_cases hrf : r < nf
            · obtain ⟨b3, o3, rfl, c3x⟩ := H3.out r hrf
              have c3y := (HK.out.only.cell (p := ⟨b3, o3 + r, none⟩) (cell_lt c3x) (by simp)).trans c3x
              have hf := Log.fail S F G l0 s (nth l3 r) wq HK.out.log
              have hb3 := HB3.out (nth l3 r) (by unfold nth; rw [List.getElem?_eq_getElem (by rw [HNF.out]; exact hrf)]; exact List.getElem_mem _)
              have hfin := Lib.hid (fun wx (hJ : LogIs wx S F G l0 ⟨s.all, s.bytes, s.safe, max (-1) (nth l3 r), s.stop⟩) (ho : Only [G] wq wx) => HK.out.step (s' := ⟨s.all, s.bytes, s.safe, max (-1) (nth l3 r), s.stop⟩) (part' := part) HK.out.ord hJ HK.out.bytes HK.out.part10 HK.out.partl HK.out.run ⟨by show -1 ≤ max (-1) (nth l3 r); omega, by show max (-1) (nth l3 r) ≤ _; omega⟩ HK.out.safe (Kin.refl _ _) (fun x h => .inl h) (ho.mono (fun x hx _ => by simp at hx; subst hx; exact logIs_g hJ)))
              clear c3x hb3
              go_wp2_with fail
              refine hf.mono ?_
              rintro e wx ⟨rfl, hJ, ho⟩
              have hfin2 := Lib.hid (hfin.out wx hJ ho)
              clear hf hfin hJ ho
              go_wp2
              go_meet
              exact ⟨⟨s.all, s.bytes, s.safe, max (-1) (nth l3 r), s.stop⟩, rfl, hfin2.out⟩
            · go_wp2
              go_meet
              exact ⟨s, rfl, HK.out⟩
        case rest =>
        obtain ⟨s2, hs2, hK2⟩ := hcut
        rw [← hs2] at hK2
        have HK2 := Lib.hid hK2
        clear hK2 hs2 HK
        go_wp2_with fail
        go_loopw [21, 22, 23, 25] (fun vd vm va vk wr => ∃ (k a : Nat) (S : List Nat) (F : Nat → Prop) (s : LSt) (part : List UInt8), k ≤ 20 ∧ a ≤ m ∧ va = .int .i64 a ∧ vk = .int .i64 k ∧ Lk w wr l0 G vd vm (natL s.all) (marksL s.all) S F s part) (fun _ _ _ vk _ => 20 - (intOf vk).toNat)
        case atStart => exact ⟨0, a, S, F, s2, part, by omega, ha, rfl, rfl, HK2.out⟩
        case round =>
          clear HK2
          obtain ⟨wp, rfl⟩ : ∃ wp : World, wp = wr := ⟨_, rfl⟩
          obtain ⟨k, a, S, F, s, part, hk, ha, rfl, rfl, hK⟩ := hrel
          have HK := Lib.hid hK
          clear hK
          by_cases hin : k < 20 ∧ a < m
          · obtain ⟨hk1, ha1⟩ := hin
            obtain ⟨b1, o1, rfl, c1x⟩ := H1.out a ha1
            obtain ⟨x, hx⟩ : ∃ x, nth l1 a = x := ⟨_, rfl⟩
            rw [hx] at c1x
            have HX := Lib.hid (fun wx (ho : Only [] w wx) => (ho.cell (p := ⟨b1, o1 + a, none⟩) (cell_lt c1x) (by simp)).trans c1x)
            clear c1x hx
            go_upto_region 26 with (fail)
            go_cut [155] (fun vb wx => vb = .bool false ∧ ∃ (s2 : LSt) (part2 : List UInt8), s2.all = s.all ∧ Lk w wx l0 G u21 u22 (natL s.all) (marksL s.all) S F s2 part2)
            case first =>
              as_aux_lemma =>
                by_cases haq : a < q
                · obtain ⟨b2, o2, rfl, c2x⟩ := H2.out a haq
                  have c2y := (HK.out.only.cell (p := ⟨b2, o2 + a, none⟩) (cell_lt c2x) (by simp)).trans c2x
                  obtain ⟨y, hy⟩ : ∃ y, nth l2 a = y := ⟨_, rfl⟩
                  rw [hy] at c2y
                  clear c2x hy
                  by_cases hy1 : y = 1
                  · subst hy1
                    by_cases hst : s.stop = true
                    · have hs := Log.sync_stop S F G l0 s wp HK.out.log hst
                      clear hst
                      go_wp2_with fail
                      refine hs.mono ?_
                      rintro e wx ⟨rfl, rfl⟩
                      clear hs
                      go_wp2
                      go_meet
                      exact ⟨rfl, s, part, rfl, HK.out⟩
                    · have hst : s.stop = false := by simpa using hst
                      by_cases hl : s.left = 0
                      · have hs := Log.sync_halt S F G l0 s wp HK.out.log hst hl
                        have hfin := Lib.hid (fun wx (hJ : LogIs wx S F G l0 (s.halted [])) (ho : Only [G] wp wx) => HK.out.step (s' := s.halted []) (part' := part) HK.out.ord hJ (by show s.bytes ++ [] = _; rw [List.append_nil]; exact HK.out.bytes) HK.out.part10 HK.out.partl (fun h => by cases h) (by show (-1 : Int) ≤ -1 ∧ (-1 : Int) ≤ _; omega) HK.out.safe (Kin.refl _ _) (fun x h => .inl h) (ho.mono (fun x hx _ => by simp at hx; subst hx; exact logIs_g hJ)))
                        clear hst hl
                        go_wp2_with fail
                        refine hs.mono ?_
                        rintro e wx ⟨rfl, hJ, ho⟩
                        have hfin2 := Lib.hid (hfin.out wx hJ ho)
                        clear hs hfin hJ ho
                        go_wp2
                        go_meet
                        exact ⟨rfl, s.halted [], part, rfl, hfin2.out⟩
                      · have hlb := HK.out.left
                        have hs := Log.sync S F G l0 s wp HK.out.log hst hl hlb.1 hlb.2
                        have hpt := HK.out.run hst
                        have hbt : s.bytes = textOf s.all := by rw [HK.out.bytes, hpt, List.append_nil]
                        have hfin := Lib.hid (fun wx (hJ : LogIs wx S F G l0 s.synced) (ho : Only [G] wp wx) => HK.out.step (s' := s.synced) (part' := []) HK.out.ord hJ (by show s.bytes = _; rw [List.append_nil]; exact hbt) (by simp) (by simp) (fun _ => rfl) (by show -1 ≤ max (-1) (s.left - 1) ∧ max (-1) (s.left - 1) ≤ _; omega) (by show s.bytes.length ≤ _; rw [hbt]; exact Nat.le_refl _) (Kin.refl _ _) (fun x h => .inl h) (ho.mono (fun x hx _ => by simp at hx; subst hx; exact logIs_g hJ)))
                        obtain ⟨bl, hbl⟩ : ∃ bl, s.bytes.length = bl := ⟨_, rfl⟩
                        have HBL := Lib.hid hbl
                        clear hst hl hlb hpt hbt hbl
                        go_wp2_with fail
                        refine hs.mono ?_
                        rintro e wx ⟨rfl, hJ, ho⟩
                        have hfin2 := Lib.hid (hfin.out wx hJ ho)
                        have hsf := Log.safe S F G l0 s.synced wx hJ
                        have hby := Log.bytes_any S F G l0 s.synced wx hJ bl HBL.out
                        rw [show s.synced.safe = bl from HBL.out] at hsf
                        clear hs hfin hJ ho
                        go_wp2_with fail
                        refine hsf.mono ?_
                        rintro e wy ⟨rfl, rfl⟩
                        go_wp2_with fail
                        refine hby.mono ?_
                        rintro e wy ⟨rfl, rfl⟩
                        clear hsf hby
                        go_wp2
                        go_meet
                        exact ⟨rfl, s.synced, [], rfl, hfin2.out⟩
                  · have hne : (y == 1) = false := by simpa using hy1
                    clear hy1
                    go_wp2
                    go_meet
                    exact ⟨rfl, s, part, rfl, HK.out⟩
                · go_wp2
                  go_meet
                  exact ⟨rfl, s, part, rfl, HK.out⟩
            case rest =>
            obtain ⟨rfl, s2, part2, hs2, hK2⟩ := hcut
            rw [← hs2] at hK2
            have hsh := hK2.short (by rw [HN.out]; exact h30)
            have hmay := law_may _ u21 l0 s2.all x _ (HP.out.same hK2.only) HOK.out hK2.done.reads hK2.ord.lt (by omega)
            have cx := HX.out _ hK2.only
            obtain ⟨mf, hmf⟩ : ∃ mf, mayF l0 s2.all x = mf := ⟨_, rfl⟩
            rw [hmf] at hmay
            have HMF := Lib.hid hmf
            obtain ⟨bl, hbl⟩ : ∃ bl, s2.bytes.length = bl := ⟨_, rfl⟩
            have HBL := Lib.hid hbl
            obtain ⟨da, dc, hdv, _⟩ := hK2.done.opt
            subst hdv
            obtain ⟨ma, mc, hmv, _⟩ := hK2.marks.opt
            subst hmv
            have HK2 := Lib.hid hK2
            obtain ⟨nd, hnd⟩ : ∃ nd, (natL s2.all).length = nd := ⟨_, rfl⟩
            rw [hnd] at hmay HK2 ⊢
            obtain ⟨nm, hnm⟩ : ∃ nm, (marksL s2.all).length = nm := ⟨_, rfl⟩
            rw [hnm] at HK2 ⊢
            have hnm31 : nm ≤ 31 := by rw [← hnm, marksL_len]; have := hsh.1; omega
            have HND := Lib.hid (And.intro hnd hnm)
            have hnd30 : nd ≤ 30 := by rw [← hnd, natL_len]; exact hsh.1
            have hbl93 : bl ≤ 93 := by rw [← hbl]; exact hsh.2.2.1
            have HSH := Lib.hid hsh
            clear hK2 hs2 HK hmf hbl hnd hnm hsh
            go_wp2_with fail
            refine hmay.mono ?_
            rintro e wb ⟨rfl, hob⟩
            have HK3 := Lib.hid (HK2.out.same hob)
            have hby := Log.bytes_any S F G l0 s2 wb HK3.out.log bl HBL.out
            have cx3 := HX.out _ HK3.out.only
            clear hmay hob cx HK2
            go_wp2_with fail
            refine hby.mono ?_
            rintro e wc ⟨rfl, rfl⟩
            clear hby
            go_upto_region 30 with (fail)
            go_cut [28] (fun ve wx => ∃ (E : Int) (S2 : List Nat) (F2 : Nat → Prop) (s3 : LSt) (part3 : List UInt8), ve = errV E ∧ Lk w wx l0 G (.slice da nd dc) (.slice ma nm mc) (natL s2.all) (marksL s2.all) S2 F2 s3 part3 ∧
              ((E = 0 ∧ mf = 0 ∧ bl + 2 ≤ s3.bytes.length ∧ part3 = [] ∧ ∃ i : Nat, x = (i : Int) ∧ s3.all = s2.all ++ [i]) ∨ ((E = 6 ∨ (E = 1 ∧ mf = 1)) ∧ s3.all = s2.all)))
            case first =>
              as_aux_lemma =>
                have hwbl : s2.bytes.length ≤ 1000 := by rw [HBL.out]; omega
                have hal : s2.all.length ≤ 1000 := by have := HSH.out.1; omega
                by_cases hst : s2.stop = true
                · have hd := Log.done_stop S F G l0 s2 x _ HK3.out.log hst
                  clear hst hwbl hal
                  go_wp2_with fail
                  refine hd.mono ?_
                  rintro e wx ⟨rfl, rfl⟩
                  clear hd
                  go_wp2
                  go_meet
                  exact ⟨6, S, F, s2, part2, (errV_ne (by decide)).symm, HK3.out, .inr ⟨.inl rfl, rfl⟩⟩
                · have hst : s2.stop = false := by simpa using hst
                  by_cases hin : 0 ≤ x ∧ x < (n : Int)
                  · obtain ⟨i, rfl⟩ := Int.eq_ofNat_of_zero_le hin.1
                    have hi : i < l0.length := by rw [HN.out]; omega
                    have hmv : mf = if readyB l0 (doneB s2.all) i = true then 0 else 6 := by
                      rw [← HMF.out]
                      unfold mayF
                      rw [if_neg (by omega), show (i : Int).toNat = i by simp]
                    have hpt := HK3.out.run hst
                    have hbt : s2.bytes = textOf s2.all := by rw [HK3.out.bytes, hpt, List.append_nil]
                    by_cases hr : readyB l0 (doneB s2.all) i = true
                    · have hlb := HK3.out.left
                      by_cases hl : s2.left = 0
                      · have hd := Log.done_halt S F G l0 s2 i _ HK3.out.log hst hi hr hl HK3.out.ord hwbl
                        have hfin := Lib.hid (fun wx S' F' (hJ : LogIs wx S' F' G l0 (s2.halted ((lineOf i).take ((lineOf i).length / 2)))) (hk : Kin wb S S') (hf : ∀ x, F' x → F x ∨ wb.heap.size ≤ x) (ho : Only S wb wx) => HK3.out.step (s' := s2.halted ((lineOf i).take ((lineOf i).length / 2))) (part' := (lineOf i).take ((lineOf i).length / 2)) HK3.out.ord hJ (by show s2.bytes ++ _ = _; rw [hbt]; rfl) (half_no10 i (by omega)) (half_len i (by omega)) (fun h => by cases h) (by show (-1 : Int) ≤ -1 ∧ (-1 : Int) ≤ _; omega) HK3.out.safe hk hf ho)
                        clear hst hl hmv hpt hbt hr hlb hwbl hal hi
                        go_wp2_with fail
                        refine hd.mono ?_
                        rintro e wx ⟨rfl, S', F', hJ, hk', hf', ho'⟩
                        have hfin2 := Lib.hid (hfin.out wx S' F' hJ hk' hf' ho')
                        clear hd hfin hJ hk' hf' ho'
                        go_wp2
                        go_meet
                        exact ⟨6, S', F', s2.halted ((lineOf i).take ((lineOf i).length / 2)), _, (errV_ne (by decide)).symm, hfin2.out, .inr ⟨.inl rfl, rfl⟩⟩
                      · have hd := Log.done_ok S F G l0 s2 i _ HK3.out.log hst hi hr hl hlb.1 hlb.2 hal hwbl
                        have hmf0 : Hid (mf = 0) := by show _ = _; rw [hmv, if_pos hr]
                        have hln := line_two i (by omega)
                        have hfin := Lib.hid (fun wx S' (hJ : LogIs wx S' F G l0 (s2.push i)) (hk : Kin wb S S') (ho : Only S wb wx) => HK3.out.step (s' := s2.push i) (part' := []) (HK3.out.ord.push hi hr) hJ (by show s2.bytes ++ lineOf i = textOf (s2.all ++ [i]) ++ []; rw [hbt, textOf_push, List.append_nil]) (by simp) (by simp) (fun _ => rfl) (by show -1 ≤ max (-1) (s2.left - 1) ∧ max (-1) (s2.left - 1) ≤ _; omega) (by show s2.safe ≤ (textOf (s2.all ++ [i])).length; rw [textOf_push, List.length_append]; have := HK3.out.safe; omega) hk (fun x h => .inl h) ho)
                        have hle : Hid (bl + 2 ≤ (s2.push i).bytes.length) := by
                          show bl + 2 ≤ (s2.bytes ++ lineOf i).length
                          rw [List.length_append, HBL.out]; omega
                        clear hst hl hmv hpt hbt hr hlb hwbl hal hi hln
                        go_wp2_with fail
                        refine hd.mono ?_
                        rintro e wx ⟨rfl, S', hJ, hk', ho'⟩
                        have hfin2 := Lib.hid (hfin.out wx S' hJ hk' ho')
                        clear hd hfin hJ hk' ho'
                        go_wp2
                        go_meet
                        exact ⟨0, S', F, s2.push i, [], errV_zero.symm, hfin2.out, .inl ⟨rfl, hmf0.out, hle.out, rfl, i, rfl, rfl⟩⟩
                    · have hr : readyB l0 (doneB s2.all) i = false := by simpa using hr
                      have hd := Log.done_no S F G l0 s2 i _ HK3.out.log hst hi hr
                      clear hst hmv hpt hbt hr hwbl hal hi
                      go_wp2_with fail
                      refine hd.mono ?_
                      rintro e wx ⟨rfl, rfl⟩
                      clear hd
                      go_wp2
                      go_meet
                      exact ⟨6, S, F, s2, part2, (errV_ne (by decide)).symm, HK3.out, .inr ⟨.inl rfl, rfl⟩⟩
                  · have hor : x < 0 ∨ (l0.length : Int) ≤ x := by rw [HN.out]; omega
                    have hm1 : Hid (mf = 1) := by show _ = _; rw [← HMF.out]; unfold mayF; rw [if_pos hor]
                    have hd := Log.done_out S F G l0 s2 x _ HK3.out.log hst hor
                    clear hst hor hwbl hal hin
                    go_wp2_with fail
                    refine hd.mono ?_
                    rintro e wx ⟨rfl, rfl⟩
                    clear hd
                    go_wp2
                    go_meet
                    exact ⟨1, S, F, s2, part2, (errV_ne (by decide)).symm, HK3.out, .inr ⟨.inr ⟨rfl, hm1.out⟩, rfl⟩⟩
            case rest =>
            obtain ⟨E, S2, F2, s3, part3, rfl, hK4, hcase⟩ := hcut
            have hsh4 := hK4.short (by rw [HN.out]; exact h30)
            have HK4 := Lib.hid hK4
            clear hK4 HK3 HBL HSH HMF cx3
            rcases hcase with ⟨rfl, hm0, hb2, rfl, i, hxi, hall⟩ | ⟨rfl | ⟨rfl, hm1⟩, hall⟩
            · as_aux_lemma =>
                subst hm0
                rw [errV_zero]
                obtain ⟨b3, hb3⟩ : ∃ b3, s3.bytes.length = b3 := ⟨_, rfl⟩
                rw [hb3] at hb2
                have HB3' := Lib.hid hb3
                have b93 : b3 ≤ 93 := by rw [← hb3]; exact hsh4.2.2.1
                have hcmp : decide ((b3 : Int) < (bl : Int) + 2) = false := by simp; omega
                have cx4 := HX.out _ HK4.out.only
                have HAL := Lib.hid (And.intro hall (And.intro hxi hsh4))
                clear hb3 hb2 hall hxi hsh4
                go_wp2_with fail
                refine (same_nil 6 _ false rfl).mono ?_
                rintro e wd ⟨rfl, rfl⟩
                go_wp2_with fail
                refine (same_nil 0 _ true rfl).mono ?_
                rintro e wd ⟨rfl, rfl⟩
                have hby := Log.bytes_any S2 F2 G l0 s3 _ HK4.out.log b3 HB3'.out
                go_wp2_with fail
                refine hby.mono ?_
                rintro e wd ⟨rfl, rfl⟩
                have hI4 := HK4.out.done
                have hsz4 := HK4.out.only.size
                have hnq := HND.out.1
                clear hby
                go_wp2_with (at_builtin; go_loud (refine wpList_push rfl (.tmp 189) (.tmp 194) rfl wc w.heap.size _ _ wc.heap.size x nd hI4 hnq (by omega) hsz4 rfl rfl ((Only.refl [] wc).alloc _) (World.cell?_alloc_at _ _ _ _ rfl) ?_; intro g5 cap5 w5 hI5 hO5 hg5))
                have HK5 := Lib.hid (HK4.out.pushD hI5 hO5 hg5)
                have hby5 := Log.bytes_any S2 F2 G l0 s3 w5 HK5.out.log b3 HB3'.out
                clear hI4 hI5 hO5 hg5 HK4 hcmp hnq hsz4
                refine hby5.mono ?_
                rintro e wd ⟨rfl, rfl⟩
                have hM5 := HK5.out.marks
                have hsz5 := HK5.out.only.size
                have hnm5 := HND.out.2
                clear hby5
                go_wp2_with (at_builtin; go_loud (refine wpList_push rfl (.tmp 196) (.tmp 199) rfl w5 w.heap.size _ _ w5.heap.size (b3 : Int) nm hM5 hnm5 (by omega) hsz5 rfl rfl ((Only.refl [] w5).alloc _) (World.cell?_alloc_at _ _ _ _ rfl) ?_; intro g6 cap6 w6 hI6 hO6 hg6))
                have hdl : natL s2.all ++ [x] = natL s3.all := by rw [HAL.out.1, natL_push, HAL.out.2.1]
                have hml : marksL s2.all ++ [(b3 : Int)] = marksL s3.all := by
                  have hb := HAL.out.2.2.2.2.2
                  rw [HB3'.out] at hb
                  have hz : b3 = (textOf s3.all).length := by simpa using hb
                  rw [HAL.out.1, marksL_push, ← HAL.out.1, hz]
                have HK6 := Lib.hid (HK5.out.pushM hI6 hO6 hg6)
                rw [hdl, hml] at HK6
                have hal6 := Log.all S2 F2 G l0 s3 w6 HK6.out.log (by have := HAL.out.2.2.1; omega)
                clear hdl hml hM5 hI6 hO6 hg6 HK5 hsz5 hnm5
                refine hal6.mono ?_
                rintro e w7 ⟨va, rfl, hIa, ho7⟩
                have HK7 := Lib.hid (HK6.out.same ho7)
                have hsm := same_ints va _ (natL s3.all) w7 hIa.reads HK7.out.done.reads (by rw [natL_len]; have := HAL.out.2.2.1; omega)
                clear hal6 hIa ho7 HK6
                go_wp2_with fail
                refine hsm.mono ?_
                rintro e w8 ⟨rfl, n8, rfl⟩
                have HK8 := Lib.hid (HK7.out.same ((Only.refl [] w7).drewN n8))
                have hrd := Log.ready S2 F2 G l0 s3 _ HK8.out.log
                clear hsm HK7
                go_wp2_with fail
                refine hrd.mono ?_
                rintro e w9 ⟨vr, rfl, hIr, ho9⟩
                have HK9 := Lib.hid (HK8.out.same ho9)
                have hfl := law_flags n _ s3.all w9 h30 HK9.out.done.reads (by rw [← HN.out]; exact HK9.out.ord.lt) (by have := HAL.out.2.2.1; omega)
                have HIR := Lib.hid hIr
                clear hrd ho9 HK8 hIr
                go_wp2_with fail
                refine hfl.mono ?_
                rintro e w10 ⟨A9, rfl, hA1, hA2, hB, ho10⟩
                have hrf := ref_Ready _ l0 A9 n (doneB s3.all) w10 (HP.out.same (HK9.out.only.trans ho10 (by simp))) (needsOk HOK.out.len HOK.out.fault) hB HN.out
                have HO10 := Lib.hid ho10
                clear hfl hB ho10
                go_wp2_with fail
                refine hrf.mono ?_
                rintro e w11 ⟨vq, rfl, hIq, ho11⟩
                have hIr2 := (HIR.out.only HO10.out (by simp)).only ho11 (by simp)
                have hrl : (natL (readyL l0 (doneB s3.all))).length ≤ 1000000 := by
                  have h1 := List.length_filter_le (readyB l0 (doneB s3.all)) (List.range l0.length)
                  rw [List.length_range] at h1
                  have h2 := HN.out
                  rw [natL_len]
                  exact Nat.le_trans h1 (by omega)
                have hsm2 := same_ints vr vq (natL (readyL l0 (doneB s3.all))) w11 hIr2.reads hIq.reads hrl
                have HK11 := Lib.hid ((HK9.out.same HO10.out).same ho11)
                clear hrf hIr2 hIq ho11 hrl HK9 HIR HO10
                go_wp2_with fail
                refine hsm2.mono ?_
                rintro e w12 ⟨rfl, n12, rfl⟩
                have HK12 := Lib.hid (HK11.out.same ((Only.refl [] w11).drewN n12))
                clear hsm2 HK11
                go_wp2
                go_roundw
                case rel => exact ⟨k + 1, a + 1, S2, F2, s3, [], by omega, by omega, by go_num, by go_num, HK12.out⟩
                case measure => (simp [intOf]; try omega)
            · as_aux_lemma =>
                have hlit : errV 6 = .iface 86 (.int .i64 6) := errV_ne (by decide)
                rw [hlit]
                have HAL := Lib.hid hsh4
                rw [← hall] at HK4
                clear hall hsh4 hlit
                have hs1 := same_err 6 6 wc (HG.out.only HK4.out.only) true rfl
                go_wp2_with fail
                refine hs1.mono ?_
                rintro e wd ⟨rfl, hod⟩
                have HK5 := Lib.hid (HK4.out.same hod)
                obtain ⟨tb, htb⟩ : ∃ tb, decide ((6 : Int) = mf) = tb := ⟨_, rfl⟩
                have hs2 := same_err 6 mf wd (HG.out.only HK5.out.only) tb htb
                clear htb
                clear hs1 hod HK4
                go_wp2_with fail
                refine hs2.mono ?_
                rintro e w6 ⟨rfl, hoe⟩
                have HK6 := Lib.hid (HK5.out.same hoe)
                clear hs2 hoe HK5
                have hal6 := Log.all S2 F2 G l0 s3 w6 HK6.out.log (by have := HAL.out.1; omega)
                go_wp2_with fail
                refine hal6.mono ?_
                rintro e w7 ⟨va, rfl, hIa, ho7⟩
                have HK7 := Lib.hid (HK6.out.same ho7)
                have hsm := same_ints va _ (natL s3.all) w7 hIa.reads HK7.out.done.reads (by rw [natL_len]; have := HAL.out.1; omega)
                clear hal6 hIa ho7 HK6
                go_wp2_with fail
                refine hsm.mono ?_
                rintro e w8 ⟨rfl, n8, rfl⟩
                have HK8 := Lib.hid (HK7.out.same ((Only.refl [] w7).drewN n8))
                have hrd := Log.ready S2 F2 G l0 s3 _ HK8.out.log
                clear hsm HK7
                go_wp2_with fail
                refine hrd.mono ?_
                rintro e w9 ⟨vr, rfl, hIr, ho9⟩
                have HK9 := Lib.hid (HK8.out.same ho9)
                have hfl := law_flags n _ s3.all w9 h30 HK9.out.done.reads (by rw [← HN.out]; exact HK9.out.ord.lt) (by have := HAL.out.1; omega)
                have HIR := Lib.hid hIr
                clear hrd ho9 HK8 hIr
                go_wp2_with fail
                refine hfl.mono ?_
                rintro e w10 ⟨A9, rfl, hA1, hA2, hB, ho10⟩
                have hrf := ref_Ready _ l0 A9 n (doneB s3.all) w10 (HP.out.same (HK9.out.only.trans ho10 (by simp))) (needsOk HOK.out.len HOK.out.fault) hB HN.out
                have HO10 := Lib.hid ho10
                clear hfl hB ho10
                go_wp2_with fail
                refine hrf.mono ?_
                rintro e w11 ⟨vq, rfl, hIq, ho11⟩
                have hIr2 := (HIR.out.only HO10.out (by simp)).only ho11 (by simp)
                have hrl : (natL (readyL l0 (doneB s3.all))).length ≤ 1000000 := by
                  have h1 := List.length_filter_le (readyB l0 (doneB s3.all)) (List.range l0.length)
                  rw [List.length_range] at h1
                  have h2 := HN.out
                  rw [natL_len]
                  exact Nat.le_trans h1 (by omega)
                have hsm2 := same_ints vr vq (natL (readyL l0 (doneB s3.all))) w11 hIr2.reads hIq.reads hrl
                have HK11 := Lib.hid ((HK9.out.same HO10.out).same ho11)
                clear hrf hIr2 hIq ho11 hrl HK9 HIR HO10
                go_wp2_with fail
                refine hsm2.mono ?_
                rintro e w12 ⟨rfl, n12, rfl⟩
                have HK12 := Lib.hid (HK11.out.same ((Only.refl [] w11).drewN n12))
                clear hsm2 HK11
                go_wp2
                go_roundw
                case rel => exact ⟨k + 1, a + 1, S2, F2, s3, part3, by omega, by omega, by go_num, by go_num, HK12.out⟩
                case measure => (simp [intOf]; try omega)
            · as_aux_lemma =>
                subst hm1
                have hlit : errV 1 = .iface 86 (.int .i64 1) := errV_ne (by decide)
                rw [hlit]
                have HAL := Lib.hid hsh4
                rw [← hall] at HK4
                clear hall hsh4 hlit
                have hs1 := same_err 1 6 wc (HG.out.only HK4.out.only) false rfl
                go_wp2_with fail
                refine hs1.mono ?_
                rintro e wd ⟨rfl, hod⟩
                have HK5 := Lib.hid (HK4.out.same hod)
                have hs2 := same_err 1 1 wd (HG.out.only HK5.out.only) true rfl
                clear hs1 hod HK4
                go_wp2_with fail
                refine hs2.mono ?_
                rintro e w6 ⟨rfl, hoe⟩
                have HK6 := Lib.hid (HK5.out.same hoe)
                clear hs2 hoe HK5
                have hal6 := Log.all S2 F2 G l0 s3 w6 HK6.out.log (by have := HAL.out.1; omega)
                go_wp2_with fail
                refine hal6.mono ?_
                rintro e w7 ⟨va, rfl, hIa, ho7⟩
                have HK7 := Lib.hid (HK6.out.same ho7)
                have hsm := same_ints va _ (natL s3.all) w7 hIa.reads HK7.out.done.reads (by rw [natL_len]; have := HAL.out.1; omega)
                clear hal6 hIa ho7 HK6
                go_wp2_with fail
                refine hsm.mono ?_
                rintro e w8 ⟨rfl, n8, rfl⟩
                have HK8 := Lib.hid (HK7.out.same ((Only.refl [] w7).drewN n8))
                have hrd := Log.ready S2 F2 G l0 s3 _ HK8.out.log
                clear hsm HK7
                go_wp2_with fail
                refine hrd.mono ?_
                rintro e w9 ⟨vr, rfl, hIr, ho9⟩
                have HK9 := Lib.hid (HK8.out.same ho9)
                have hfl := law_flags n _ s3.all w9 h30 HK9.out.done.reads (by rw [← HN.out]; exact HK9.out.ord.lt) (by have := HAL.out.1; omega)
                have HIR := Lib.hid hIr
                clear hrd ho9 HK8 hIr
                go_wp2_with fail
                refine hfl.mono ?_
                rintro e w10 ⟨A9, rfl, hA1, hA2, hB, ho10⟩
                have hrf := ref_Ready _ l0 A9 n (doneB s3.all) w10 (HP.out.same (HK9.out.only.trans ho10 (by simp))) (needsOk HOK.out.len HOK.out.fault) hB HN.out
                have HO10 := Lib.hid ho10
                clear hfl hB ho10
                go_wp2_with fail
                refine hrf.mono ?_
                rintro e w11 ⟨vq, rfl, hIq, ho11⟩
                have hIr2 := (HIR.out.only HO10.out (by simp)).only ho11 (by simp)
                have hrl : (natL (readyL l0 (doneB s3.all))).length ≤ 1000000 := by
                  have h1 := List.length_filter_le (readyB l0 (doneB s3.all)) (List.range l0.length)
                  rw [List.length_range] at h1
                  have h2 := HN.out
                  rw [natL_len]
                  exact Nat.le_trans h1 (by omega)
                have hsm2 := same_ints vr vq (natL (readyL l0 (doneB s3.all))) w11 hIr2.reads hIq.reads hrl
                have HK11 := Lib.hid ((HK9.out.same HO10.out).same ho11)
                clear hrf hIr2 hIq ho11 hrl HK9 HIR HO10
                go_wp2_with fail
                refine hsm2.mono ?_
                rintro e w12 ⟨rfl, n12, rfl⟩
                have HK12 := Lib.hid (HK11.out.same ((Only.refl [] w11).drewN n12))
                clear hsm2 HK11
                go_wp2
                go_roundw
                case rel => exact ⟨k + 1, a + 1, S2, F2, s3, part3, by omega, by omega, by go_num, by go_num, HK12.out⟩
                case measure => (simp [intOf]; try omega)
          · as_aux_lemma =>
              go_upto_region 24 with (fail)
              go_cut [126, 127, 128, 129, 130] (fun _ _ _ _ vb wx => vb = .bool false ∧ wx = wp)
              case first =>
                as_aux_lemma =>
                  by_cases hk2 : k < 20
                  · have ham : decide (a < m) = false := by simp; omega
                    go_wp2
                    go_meet
                    exact ⟨by first | rfl | rw [ham], rfl⟩
                  · go_wp2
                    go_meet
                    exact ⟨rfl, rfl⟩
              case rest =>
              clear hin
              obtain ⟨rfl, rfl⟩ := hcut
              have hsh := HK.out.short (by rw [HN.out]; exact h30)
              obtain ⟨bl, hbl⟩ : ∃ bl, s.bytes.length = bl := ⟨_, rfl⟩
              obtain ⟨sf, hsf⟩ : ∃ sf, s.safe = sf := ⟨_, rfl⟩
              have hbl93 : bl ≤ 93 := by omega
              have hsfb : sf ≤ bl := by have := HK.out.safe; omega
              have HBS := Lib.hid (And.intro hbl (And.intro hsf hsh))
              clear hbl hsf hsh
              go_upto_if 225 with (fail)
              go_cut [33] (fun vk wx => ∃ kp : Int, vk = .int .i64 kp ∧ -9223372036854775808 ≤ kp ∧ kp ≤ 9223372036854775807 ∧ Lk w wx l0 G u21 u22 (natL s.all) (marksL s.all) S F s part)
              case first =>
                as_aux_lemma =>
                  by_cases hrk : r < nk
                  · obtain ⟨b4, o4, rfl, c4x⟩ := H4.out r hrk
                    have c4y := (HK.out.only.cell (p := ⟨b4, o4 + r, none⟩) (cell_lt c4x) (by simp)).trans c4x
                    have hb4 := HB4.out (nth l4 r) (by unfold nth; rw [List.getElem?_eq_getElem (by rw [HNK.out]; exact hrk)]; exact List.getElem_mem _)
                    clear c4x
                    go_wp2
                    go_meet
                    exact ⟨nth l4 r, rfl, hb4.1, hb4.2, HK.out⟩
                  · go_wp2
                    go_meet
                    exact ⟨0, rfl, by decide, by decide, HK.out⟩
              case rest =>
              obtain ⟨kp, rfl, hkp0, hkp9, hK5⟩ := hcut
              have HK5 := Lib.hid hK5
              clear hK5 HK
              go_wp2_with fail
              refine (Log.bytes_any S F G l0 s _ HK5.out.log bl HBS.out.1).mono ?_
              rintro e wb ⟨rfl, rfl⟩
              have hsafe := Log.safe S F G l0 s _ HK5.out.log
              rw [HBS.out.2.1] at hsafe
              go_wp2_with fail
              refine hsafe.mono ?_
              rintro e wb ⟨rfl, rfl⟩
              have hcr := Log.crash S F G l0 s kp part _ HK5.out.log HK5.out.ord HK5.out.bytes HK5.out.part10 (by rw [HBS.out.1, HBS.out.2.1]; exact hsfb) (by rw [HBS.out.1]; omega) ⟨hkp0, hkp9⟩
              clear hsafe
              go_wp2_with fail
              refine hcr.mono ?_
              rintro e wc ⟨rfl, S', F', hJ, hk', hf', ho'⟩
              obtain ⟨hg, hhg⟩ : ∃ hg, leftB s kp = hg := ⟨_, rfl⟩
              rw [hhg] at hJ
              have HKc := Lib.hid (HK5.out.step (s' := s.crashed hg) (part' := []) (HK5.out.ord.take _) hJ (by show textOf _ = textOf _ ++ []; rw [List.append_nil]; rfl) (by simp) (by simp) (fun _ => rfl) (by show (-1 : Int) ≤ -1 ∧ (-1 : Int) ≤ _; omega) (Nat.le_refl _) hk' hf' ho')
              have hhg2 : hg = sf + (max 0 (min kp ((bl : Int) - sf))).toNat := by rw [← hhg]; unfold leftB; rw [HBS.out.1, HBS.out.2.1]; simp
              clear hcr hJ hk' hf' ho' hhg HK5
              obtain ⟨tb, htb⟩ : ∃ tb, decide (0 < kp ∧ kp < (bl : Int) - sf) = tb := ⟨_, rfl⟩
              go_upto_region 52 with (fail)
              go_cut [241, 242, 243, 244, 245, 246] (fun _ _ _ _ _ vb wx => vb = .bool tb ∧ Lk w wx l0 G u21 u22 (natL s.all) (marksL s.all) S' F' (s.crashed hg) [])
              case first =>
                as_aux_lemma =>
                  clear hhg2
                  by_cases h1 : kp ≤ 0
                  · obtain rfl : false = tb := by rw [← htb]; simp; omega
                    clear htb
                    go_wp2
                    go_meet
                    exact ⟨rfl, HKc.out⟩
                  · have hkd : 0 < kp := by omega
                    have e := Lib.hid (show decide (kp < (bl : Int) - sf) = tb by rw [← htb]; simp [hkd])
                    clear htb
                    go_wp2
                    go_meet
                    exact ⟨by rw [← e.out], HKc.out⟩
              case rest =>
              as_aux_lemma =>
                obtain ⟨rfl, hKe⟩ := hcut
                have HKe := Lib.hid hKe
                clear hKe HKc
                go_upto_if 246 with (fail)
                go_cut [36] (fun vh wx => vh = .int .i64 (hg : Int) ∧ Lk w wx l0 G u21 u22 (natL s.all) (marksL s.all) S' F' (s.crashed hg) [])
                case first =>
                  as_aux_lemma =>
                    cases tb with
                    | true =>
                      have h1 : 0 < kp ∧ kp < (bl : Int) - sf := by simpa using htb
                      have e := Lib.hid (show (sf : Int) + kp = (hg : Int) by omega)
                      clear hhg2 htb
                      go_wp2
                      go_meet
                      exact ⟨by rw [← e.out], HKe.out⟩
                    | false =>
                      have h1 : ¬ (0 < kp ∧ kp < (bl : Int) - sf) := by simpa using htb
                      clear htb
                      by_cases h2 : kp ≤ 0
                      · have e := Lib.hid (show (sf : Int) = (hg : Int) by omega)
                        clear hhg2 h1
                        go_wp2
                        go_meet
                        exact ⟨by rw [← e.out], HKe.out⟩
                      · have e := Lib.hid (show (bl : Int) = (hg : Int) by omega)
                        clear hhg2 h1
                        go_wp2
                        go_meet
                        exact ⟨by rw [← e.out], HKe.out⟩
                case rest =>
                as_aux_lemma =>
                  obtain ⟨rfl, hKd⟩ := hcut
                  have hg93 : hg ≤ 93 := by omega
                  obtain ⟨K, hK⟩ : ∃ K, keepN s.all hg = K := ⟨_, rfl⟩
                  have hKl : K ≤ s.all.length := by rw [← hK]; exact keepN_le _ _
                  obtain ⟨nm, hnm⟩ : ∃ nm, (marksL s.all).length = nm := ⟨_, rfl⟩
                  have hnm1 : nm = s.all.length + 1 := by rw [← hnm, marksL_len]
                  have hall30 : s.all.length ≤ 30 := HBS.out.2.2.1
                  have hcapm := fun a n c (e : u22 = .slice a n c) => ints_cap (e ▸ hKd.marks)
                  have hcapd := fun a n c (e : u21 = .slice a n c) => ints_cap (e ▸ hKd.done)
                  obtain ⟨gm, cm, rfl, _, _⟩ := hKd.marks.sized nm hnm (by omega)
                  obtain ⟨da, dc, rfl, hdc⟩ := hKd.done.opt
                  obtain ⟨nd, hnd⟩ : ∃ nd, (natL s.all).length = nd := ⟨_, rfl⟩
                  rw [hnd] at hKd hcapd ⊢
                  have hcm := hcapm _ _ _ rfl
                  have hcd := hcapd _ _ _ rfl
                  clear hcapm hcapd
                  have HKd := Lib.hid hKd
                  have HQ := Lib.hid (And.intro hK (And.intro hnm hnd))
                  clear hKd hK hnm hnd HKe
                  go_wp2_with fail
                  go_loopw [37, 38] (fun vl vi wx => ∃ i lf : Nat, i ≤ nm ∧ lf = min (i - 1) K ∧ vl = .int .i64 (lf : Int) ∧ vi = .int .i64 (i : Int) ∧ Lk w wx l0 G (.slice da nd dc) (.slice (some ⟨gm, 0, none⟩) nm cm) (natL s.all) (marksL s.all) S' F' (s.crashed hg) []) (fun _ vi _ => nm - (intOf vi).toNat)
                  case atStart => exact ⟨0, 0, by omega, by simp, rfl, rfl, HKd.out⟩
                  case round =>
                    clear HKd
                    obtain ⟨i, lf, hi, hlf, rfl, rfl, hKi⟩ := hrel
                    have HKi := Lib.hid hKi
                    clear hKi
                    by_cases hin : i < nm
                    · have ci := HKi.out.marks.cell i (by rw [HQ.out.2.1]; exact hin)
                      have hml := mark_le s.all hg i (by omega)
                      rw [HQ.out.1] at hml
                      rw [marksL_at _ _ (by omega)] at ci
                      obtain ⟨mk, hmk⟩ : ∃ mk, (textOf (s.all.take i)).length = mk := ⟨_, rfl⟩
                      rw [hmk] at ci hml
                      clear hmk
                      by_cases hle : mk ≤ hg
                      · have hiK := hml.1 hle
                        clear hml
                        go_wp2
                        go_roundw
                        case rel => exact ⟨i + 1, i, by omega, by omega, rfl, by go_num, HKi.out⟩
                        case measure => (simp [intOf]; try omega)
                      · have hiK : ¬ i ≤ K := fun h => hle (hml.2 h)
                        clear hml
                        go_wp2
                        go_roundw
                        case rel => exact ⟨i + 1, lf, by omega, by omega, rfl, by go_num, HKi.out⟩
                        case measure => (simp [intOf]; try omega)
                    · as_aux_lemma =>
                        have hlK : lf = K := by omega
                        subst hlK
                        clear hlf
                        have hkn : lf ≤ nd := by rw [← HQ.out.2.2, natL_len]; exact hKl
                        have hkm : lf + 1 ≤ nm := by omega
                        have hkd : lf ≤ dc := by omega
                        have hkm2 : lf + 1 ≤ cm := by omega
                        obtain ⟨s4, hs4⟩ : ∃ s4, s.crashed hg = s4 := ⟨_, rfl⟩
                        have hall4 : s4.all = s.all.take lf := by rw [← hs4, ← HQ.out.1]; rfl
                        have hlen4 : s4.all.length = lf := by rw [hall4, List.length_take]; omega
                        obtain ⟨bb, hbb⟩ : ∃ bb, (textOf s4.all).length = bb := ⟨_, rfl⟩
                        have hby4 : s4.bytes.length = bb := by rw [← hbb, ← hs4]; rfl
                        have hsf4 : s4.safe = bb := by rw [← hbb, ← hs4]; rfl
                        have hcut := HKi.out.cut lf (lf + 1) (by rw [HQ.out.2.2]; exact hkn) (by rw [HQ.out.2.1]; exact hkm)
                        rw [hs4, marksL_take _ _ hKl, ← natL_take, ← hall4] at hcut
                        have HKn := Lib.hid hcut
                        have cm4 := hcut.marks.cell lf (by rw [marksL_len, hlen4]; omega)
                        rw [marksL_at _ _ (by omega), List.take_of_length_le (by omega), hbb] at cm4
                        have HC4 := Lib.hid (fun W (ho : Only [] wr W) => (ho.cell (p := ⟨gm, lf, none⟩) (cell_lt cm4) (by simp)).trans cm4)
                        have hbb90 : bb ≤ 90 := by rw [← hbb]; have := (hcut.short (by rw [HN.out]; exact h30)).2.1; exact this
                        have HAL := Lib.hid (And.intro (show s4.all.length ≤ 30 by omega) (And.intro hby4 hsf4))
                        clear hcut hs4 hall4 hlen4 hbb hby4 hsf4 HKi cm4 hkn
                        have hal6 := Log.all S' F' G l0 s4 wr HKn.out.log (by have := HAL.out.1; omega)
                        go_wp2_with fail
                        refine hal6.mono ?_
                        rintro e w7 ⟨va, rfl, hIa, ho7⟩
                        have HK7 := Lib.hid (HKn.out.same ho7)
                        have HO7 := Lib.hid ho7
                        have hsm := same_ints va _ (natL s4.all) w7 hIa.reads HK7.out.done.reads (by rw [natL_len]; have := HAL.out.1; omega)
                        clear hal6 hIa ho7 HKn
                        go_wp2_with fail
                        refine hsm.mono ?_
                        rintro e w8 ⟨rfl, n8, rfl⟩
                        have HK8 := Lib.hid (HK7.out.same ((Only.refl [] w7).drewN n8))
                        have hrd := Log.ready S' F' G l0 s4 _ HK8.out.log
                        clear hsm HK7
                        go_wp2_with fail
                        refine hrd.mono ?_
                        rintro e w9 ⟨vr, rfl, hIr, ho9⟩
                        have HK9 := Lib.hid (HK8.out.same ho9)
                        have HO9 := Lib.hid ((HO7.out.drewN n8).trans ho9 (by simp))
                        have hfl := law_flags n _ s4.all w9 h30 HK9.out.done.reads (by rw [← HN.out]; exact HK9.out.ord.lt) (by have := HAL.out.1; omega)
                        have HIR := Lib.hid hIr
                        clear hrd ho9 HK8 hIr
                        go_wp2_with fail
                        refine hfl.mono ?_
                        rintro e w10 ⟨A9, rfl, hA1, hA2, hB, ho10⟩
                        have hrf := ref_Ready _ l0 A9 n (doneB s4.all) w10 (HP.out.same (HK9.out.only.trans ho10 (by simp))) (needsOk HOK.out.len HOK.out.fault) hB HN.out
                        have HO10 := Lib.hid ho10
                        clear hfl hB ho10
                        go_wp2_with fail
                        refine hrf.mono ?_
                        rintro e w11 ⟨vq, rfl, hIq, ho11⟩
                        have hIr2 := (HIR.out.only HO10.out (by simp)).only ho11 (by simp)
                        have hrl : (natL (readyL l0 (doneB s4.all))).length ≤ 1000000 := by
                          have h1 := List.length_filter_le (readyB l0 (doneB s4.all)) (List.range l0.length)
                          rw [List.length_range] at h1
                          have h2 := HN.out
                          rw [natL_len]
                          exact Nat.le_trans h1 (by omega)
                        have hsm2 := same_ints vr vq (natL (readyL l0 (doneB s4.all))) w11 hIr2.reads hIq.reads hrl
                        have HK11 := Lib.hid ((HK9.out.same HO10.out).same ho11)
                        have HO11 := Lib.hid ho11
                        clear hrf hIr2 hIq ho11 hrl HK9 HIR
                        go_wp2_with fail
                        refine hsm2.mono ?_
                        rintro e w12 ⟨rfl, n12, hw12⟩
                        have HK12 := Lib.hid (HK11.out.same (hw12 ▸ (Only.refl [] w11).drewN n12))
                        have hON : Only [] wr w12 := hw12 ▸ (((HO9.out.trans HO10.out (by simp)).trans HO11.out (by simp)).drewN n12)
                        have c12 := HC4.out _ hON
                        have hbyN := Lib.hid (fun q => Log.bytes_any S' F' G l0 s4 (w12.drewN q) (HK12.out.log.same ((Only.refl [] w12).drewN q)) bb HAL.out.2.1)
                        have hsfN := Lib.hid (fun q => Log.safe S' F' G l0 s4 (w12.drewN q) (HK12.out.log.same ((Only.refl [] w12).drewN q)))
                        rw [HAL.out.2.2] at hsfN
                        clear hsm2 HK11 hON HC4 hw12
                        go_wp2_with fail
                        go_quiet ((first | (go_at_call 33; exact quiet_eq (hbyN.out _)) | (go_at_call 34; exact quiet_eq (hsfN.out _))))
                        clear hbyN hsfN
                        go_wp2
                        go_roundw
                        case rel => exact ⟨r + 1, a, S', F', s4, [], by omega, ha, rfl, by go_num, HK12.out.same ((Only.refl [] w12).drewN _)⟩
                        case measure => (simp [intOf]; try omega)
      · by_cases hr1 : r ≤ nf
        · have hr4 : ¬ r < 4 := fun h => hlt ⟨hr1, h⟩
          clear hlt
          go_wp2
          go_ret
          exact ⟨rfl, HK.out.only.below (Nat.le_refl _) (by simp)⟩
        · clear hlt
          go_wp2
          go_ret
          exact ⟨rfl, HK.out.only.below (Nat.le_refl _) (by simp)⟩
  · have hno := Log.new_no _ l0 wf (HP.out.same HOf.out) h0
    have hE : errV (planCheck l0).2 = .iface 86 (.int .i64 (planCheck l0).2) := errV_ne h0
    have hck := Lib.hid (fun W (ho : Only [] w W) => plan_Check v0 l0 W (HP.out.same ho))
    rw [hE] at hck
    clear hJ6 c0
    go_wp2_with fail
    refine hno.mono ?_
    rintro e wg ⟨rfl, ho1⟩
    have hoo := HOf.out.trans ho1 (by simp)
    have hc := hck.out wg hoo
    clear hno ho1 HOf hck
    go_wp2_with fail
    refine hc.mono ?_
    rintro e wh ⟨rfl, ho2⟩
    have ho := hoo.trans ho2 (by simp)
    clear hc
    go_wp2
    go_ret
    exact ⟨rfl, ho.below (Nat.le_refl _) (by simp)⟩

end Go.Proofs.YtloojhnhialenaaGreatDoor.logKeeps
