/-
  Contracts of package log.
-/
import Derived.Test.YtloojhnhialenaaGreatDoorLogP
import Derived.Test.YtloojhnhialenaaGreatDoorJoin3
import Derived.Test.YtloojhnhialenaaGreatDoorOwnAny
namespace Go.Proofs.YtloojhnhialenaaGreatDoor
open Go.RowKit Go.Deep


theorem doneB_nil : doneB [] = fun _ => false := by funext i; simp [doneB]
theorem doneB_push (l : List Nat) (i : Nat) : doneB (l ++ [i]) = upB (doneB l) i := by
  funext j
  unfold doneB upB
  by_cases e : j = i
  · simp [e]
  · simp [e]

/-- A log in block G: its plan pv, its join in block J, its list av. JS: the join's own blocks; FJ, FP: those that the join's plan and its own are read from. -/
structure LogRaw (w : World) (JS : List Nat) (FJ FP : Nat → Prop) (G J : Nat) (pv av : Value) (p : PlanL) (D : Nat → Bool) (s : LSt) : Prop where
  cells : Cells w G [pv, .pointer (some ⟨J, 0, none⟩), av, .string ⟨s.bytes.toArray⟩, .int .i64 s.safe, .int .i64 s.left, .bool s.stop]
  plan : PlanAt w FP pv p
  join : JoinIs w JS FJ J p D
  all : Ints w 0 av (natL s.all)
  n1 : G ∉ JS
  n2 : G ∉ own av
  n3 : ¬ FP G
  n4 : ¬ FJ G
  n5 : ∀ x ∈ own av, x ∉ JS ∧ ¬ FP x ∧ ¬ FJ x
  n6 : ∀ x ∈ JS, ¬ FP x
  b1 : ∀ x, FP x ∨ FJ x → x < w.heap.size
  b2 : ∀ x ∈ JS, x < w.heap.size

/-- .. S: the blocks that it writes; F: those that it reads alone. -/
def LogIs (w : World) (S : List Nat) (F : Nat → Prop) (G : Nat) (p : PlanL) (s : LSt) : Prop :=
  ∃ JS FJ FP J pv av, LogRaw w JS FJ FP G J pv av p (doneB s.all) s ∧ S = G :: (own av ++ JS) ∧ F = (fun x => FP x ∨ FJ x)

theorem LogRaw.only {w w' : World} {JS : List Nat} {FJ FP : Nat → Prop} {G J : Nat} {pv av : Value} {p : PlanL} {D : Nat → Bool} {s : LSt} {T : List Nat} (h : LogRaw w JS FJ FP G J pv av p D s) (ho : Only T w w')
    (h1 : G ∉ T) (h2 : ∀ x ∈ own av, x ∉ T) (h3 : ∀ x ∈ JS, x ∉ T) (h4 : ∀ x, FP x → x ∉ T) (h5 : ∀ x, FJ x → x ∉ T) : LogRaw w' JS FJ FP G J pv av p D s :=
  ⟨h.cells.only ho h1, h.plan.only ho h4, h.join.only ho h3 h5, h.all.only ho (fun g hg => h2 g (own_of hg)), h.n1, h.n2, h.n3, h.n4, h.n5, h.n6, fun x hx => Nat.lt_of_lt_of_le (h.b1 x hx) ho.size, fun x hx => Nat.lt_of_lt_of_le (h.b2 x hx) ho.size⟩

theorem LogIs.only {w w' : World} {S : List Nat} {F : Nat → Prop} {G : Nat} {p : PlanL} {s : LSt} {T : List Nat} (h : LogIs w S F G p s) (ho : Only T w w') (h1 : ∀ x ∈ S, x ∉ T) (h2 : ∀ x, F x → x ∉ T) : LogIs w' S F G p s := by
  obtain ⟨JS, FJ, FP, J, pv, av, h, rfl, rfl⟩ := h
  exact ⟨JS, FJ, FP, J, pv, av, h.only ho (h1 G (by simp)) (fun x hx => h1 x (by simp [hx])) (fun x hx => h1 x (by simp [hx])) (fun x hx => h2 x (.inl hx)) (fun x hx => h2 x (.inr hx)), rfl, rfl⟩
theorem LogIs.same {w w' : World} {S : List Nat} {F : Nat → Prop} {G : Nat} {p : PlanL} {s : LSt} (h : LogIs w S F G p s) (ho : Only [] w w') : LogIs w' S F G p s := h.only ho (by simp) (by simp)

set_option maxRecDepth 100000 in
theorem Log.new_no (v : Value) (p : PlanL) (w : World) (h : InPlan w v p) (he : planFault p ≠ 0) :
    Calls Tryz.prog 8 #[v] w fun e w' => e = .returned (.tuple #[.pointer none, .iface 86 (.int .i64 (planFault p))]) ∧ Only [] w w' := by
  have hj := Join.new_no v p w h he
  generalize planFault p = f at *
  clear h he
  go_enter Tryz.func8, Tryz.ntmps8
  go_wp2_with fail
  refine hj.mono ?_
  rintro e w1 ⟨rfl, ho⟩
  clear hj
  go_wp2
  go_ret2
  exact ⟨rfl, ho⟩

set_option maxRecDepth 100000 in
set_option maxHeartbeats 4000000 in
theorem Log.new (v : Value) (p : PlanL) (w : World) (h : InPlan w v p) (hok : PlanOk p) :
    Calls Tryz.prog 8 #[v] w fun e w' => ∃ G S F, e = .returned (.tuple #[.pointer (some ⟨G, 0, none⟩), .nilIface]) ∧ LogIs w' S F G p ⟨[], [], 0, -1, false⟩ ∧ (∀ x ∈ S, w.heap.size ≤ x ∧ x < w'.heap.size) ∧ (∀ x, F x → w.heap.size ≤ x ∧ x < w'.heap.size) ∧ Only [] w w' := by
  have hj := Join.new v p w h hok
  have HP := Lib.hid h
  have HO := Lib.hid hok
  clear h hok
  go_enter Tryz.func8, Tryz.ntmps8
  go_wp2_with fail
  refine hj.mono ?_
  rintro e w1 ⟨J, S, FP, rfl, hJ, hS, hF, ho⟩
  clear hj
  have HJ := Lib.hid (And.intro hJ (And.intro hS (And.intro hF ho)))
  clear hJ hS hF ho
  go_wp2_with fail
  refine (plan_Own _ p _ (HP.out.same HJ.out.2.2.2) HO.out).mono ?_
  rintro e w2 ⟨v2, rfl, hO2, ho2⟩
  obtain ⟨oa, oc, rfl, _, _⟩ := hO2.form
  have HO2 := Lib.hid (And.intro hO2 ho2)
  clear hO2 ho2
  generalize p.length = n at *
  go_wp2
  go_ret2
  obtain ⟨hJ, hS, hF, ho⟩ := HJ.out
  obtain ⟨hO2, ho2⟩ := HO2.out
  have hf := hO2.row
  have hs1 := ho.size
  have hs2 := ho2.size
  obtain ⟨W, hW⟩ : ∃ W, w2.alloc (.cells #[.slice oa n oc, .pointer (some ⟨J, 0, none⟩), .slice none 0 0, .string ⟨#[]⟩, .int .i64 0, .int .i64 (-1), .bool false] 82) = W := ⟨_, rfl⟩
  have hC := Cells.new w2 #[.slice oa n oc, .pointer (some ⟨J, 0, none⟩), .slice none 0 0, .string ⟨#[]⟩, .int .i64 0, .int .i64 (-1), .bool false] 82
  have hoW : Only [] w2 W := by rw [← hW]; exact (Only.refl [] w2).alloc _
  have hsW : W.heap.size = w2.heap.size + 1 := by rw [← hW]; simp
  rw [hW] at hC ⊢
  have hf2 := (hf.mono (G := fun x => w1.heap.size ≤ x ∧ x < w2.heap.size) (fun x hx => by rcases hx with h | h <;> exact h)).only hoW (by simp)
  have hJ2 := (hJ.same ho2).same hoW
  refine ⟨w2.heap.size, w2.heap.size :: S, _, rfl, ⟨S, FP, (fun x => w1.heap.size ≤ x ∧ x < w2.heap.size), J, .slice oa n oc, .slice none 0 0, ⟨hC, hf2, ?_, Ints.nil _ _, ?_, ?_, ?_, ?_, ?_, ?_, ?_, ?_⟩, rfl, rfl⟩, ?_, ?_, ?_⟩
  · rw [doneB_nil]; exact hJ2
  · intro hx; have := hS _ hx; omega
  · simp [own, Value.ownBlock]
  · omega
  · intro hx; have := hF _ hx; omega
  · intro x hx; simp [own, Value.ownBlock] at hx
  · intro x hx; have := hS x hx; omega
  · intro x hx
    rcases hx with hx | hx
    · omega
    · have := hF x hx; omega
  · intro x hx; have := hS x hx; omega
  · intro x hx
    rcases List.mem_cons.1 hx with rfl | hx
    · omega
    · have := hS x hx; omega
  · intro x hx
    rcases hx with hx | hx
    · omega
    · have := hF x hx; omega
  · exact (ho.trans ho2 (by simp)).trans hoW (by simp)

set_option maxRecDepth 100000 in
theorem Log.step_any (G : Nat) (a b c d e : Value) (l : Int) (st : Bool) (w : World) (h : Cells w G [a, b, c, d, e, .int .i64 l, .bool st]) (h0 : -1 ≤ l) (h1 : l ≤ 9223372036854775807) :
    Calls Tryz.prog 49 #[.pointer (some ⟨G, 0, none⟩)] w fun r w' => r = .returned (.bool (decide (l = 0))) ∧ Cells w' G [a, b, c, d, e, .int .i64 (max (-1) (l - 1)), .bool (decide (l = 0))] ∧ Only [G] w w' := by
  have c5 := h.cell 5 _ rfl
  have c6 := h.cell 6 _ rfl
  have f5 := h.free 5 _ rfl
  have f6 := h.free 6 _ rfl
  have HC := Lib.hid h
  clear h
  go_enter Tryz.func49, Tryz.ntmps49
  go_wp2
  go_ret
  have hb : (l == 0) = decide (l = 0) := by rw [Bool.eq_iff_iff]; simp
  refine ⟨by show Ending.returned (.bool (l == 0)) = _; rw [hb], ?_, ?_⟩
  · rw [← hb]
    have h1 := (HC.out.set 6 (.bool (l == 0))).set 5 (.int .i64 (max (-1) (l - 1)))
    exact h1
  · exact ((Only.refl [G] w).setCell (by simp) _).setCell (by simp) _

set_option maxRecDepth 100000 in
theorem Log.done_stop (S : List Nat) (F : Nat → Prop) (G : Nat) (p : PlanL) (s : LSt) (i : Int) (w : World) (h : LogIs w S F G p s) (hs : s.stop = true) :
    Calls Tryz.prog 11 #[.pointer (some ⟨G, 0, none⟩), .int .i64 i] w fun e w' => e = .returned (.iface 86 (.int .i64 6)) ∧ w = w' := by
  obtain ⟨JS, FJ, FP, J, pv, av, h, _, _⟩ := h
  have c6 := h.cells.cell 6 _ rfl
  rw [hs] at c6
  clear h
  go_enter Tryz.func11, Tryz.ntmps11
  go_wp2_with fail
  go_ret
  exact ⟨rfl, rfl⟩

set_option maxRecDepth 100000 in
theorem Log.done_out (S : List Nat) (F : Nat → Prop) (G : Nat) (p : PlanL) (s : LSt) (i : Int) (w : World) (h : LogIs w S F G p s) (hs : s.stop = false) (hi : i < 0 ∨ (p.length : Int) ≤ i) :
    Calls Tryz.prog 11 #[.pointer (some ⟨G, 0, none⟩), .int .i64 i] w fun e w' => e = .returned (.iface 86 (.int .i64 1)) ∧ w = w' := by
  obtain ⟨JS, FJ, FP, J, pv, av, h, _, _⟩ := h
  have c6 := h.cells.cell 6 _ rfl
  have c1 := h.cells.cell 1 _ rfl
  have hd := Join.done_out JS FJ J p _ i w h.join hi
  rw [hs] at c6
  clear h hi
  go_enter Tryz.func11, Tryz.ntmps11
  go_wp2_with fail
  refine hd.mono ?_
  rintro e w' ⟨rfl, rfl⟩
  clear hd
  go_wp2_with fail
  go_ret
  exact ⟨rfl, rfl⟩

set_option maxRecDepth 100000 in
theorem Log.done_no (S : List Nat) (F : Nat → Prop) (G : Nat) (p : PlanL) (s : LSt) (i : Nat) (w : World) (h : LogIs w S F G p s) (hs : s.stop = false) (hi : i < p.length) (hr : readyB p (doneB s.all) i = false) :
    Calls Tryz.prog 11 #[.pointer (some ⟨G, 0, none⟩), .int .i64 i] w fun e w' => e = .returned (.iface 86 (.int .i64 6)) ∧ w = w' := by
  obtain ⟨JS, FJ, FP, J, pv, av, h, _, _⟩ := h
  have c6 := h.cells.cell 6 _ rfl
  have c1 := h.cells.cell 1 _ rfl
  have hd := Join.done_no JS FJ J p _ i w h.join hi hr
  rw [hs] at c6
  clear h hi hr
  go_enter Tryz.func11, Tryz.ntmps11
  go_wp2_with fail
  refine hd.mono ?_
  rintro e w' ⟨rfl, rfl⟩
  clear hd
  go_wp2_with fail
  go_ret
  exact ⟨rfl, rfl⟩

/-- Behind a task's line. -/
def LSt.push (s : LSt) (i : Nat) : LSt := ⟨s.all ++ [i], s.bytes ++ lineOf i, s.safe, max (-1) (s.left - 1), false⟩

set_option maxRecDepth 100000 in
set_option maxHeartbeats 4000000 in
theorem Log.done_ok (S : List Nat) (F : Nat → Prop) (G : Nat) (p : PlanL) (s : LSt) (i : Nat) (w : World) (h : LogIs w S F G p s) (hs : s.stop = false) (hi : i < p.length) (hr : readyB p (doneB s.all) i = true) (hl : s.left ≠ 0) (hl0 : -1 ≤ s.left) (hl1 : s.left ≤ 9223372036854775807) (ha : s.all.length ≤ 1000) (hbl : s.bytes.length ≤ 1000) :
    Calls Tryz.prog 11 #[.pointer (some ⟨G, 0, none⟩), .int .i64 i] w fun e w' => e = .returned .nilIface ∧ ∃ S', LogIs w' S' F G p (s.push i) ∧ Kin w S S' ∧ Only S w w' := by
  obtain ⟨JS, FJ, FP, J, pv, av, h, rfl, rfl⟩ := h
  have HR := Lib.hid h
  have c6 := h.cells.cell 6 _ rfl
  have c1 := h.cells.cell 1 _ rfl
  have h30 : i < 30 := by have := h.join.ok.len; omega
  have hd := Join.done JS FJ J p _ i w h.join hi hr
  rw [hs] at c6
  clear h hi hr
  go_enter Tryz.func11, Tryz.ntmps11
  go_wp2_with fail
  refine hd.mono ?_
  rintro e w1 ⟨vn, rfl, hN, hJ1, ho1⟩
  obtain ⟨oa, oc, rfl, _⟩ := hN.opt
  clear hd hN
  generalize (natL (newL p (doneB s.all) i)).length = nn
  have hC1 := HR.out.cells.only ho1 HR.out.n1
  have hP1 := HR.out.plan.only ho1 (fun x hF hx => HR.out.n6 x hx hF)
  have hA1 := HR.out.all.only ho1 (fun g hg hx => (HR.out.n5 g (own_of hg)).1 hx)
  have HJ := Lib.hid (And.intro hJ1 (And.intro ho1 (And.intro hP1 hA1)))
  clear hJ1 ho1 hP1 hA1 c1 c6
  go_wp2_with fail
  refine (Tryz.strconv_Itoa_small i (by omega) _).mono ?_
  rintro e w2 ⟨rfl, rfl⟩
  obtain ⟨sb, hsb, hz⟩ : ∃ sb : ByteArray, (⟨(Lib.decDigits i).toArray⟩ : ByteArray) = sb ∧ sb.size ≤ 2 := ⟨_, rfl, by rw [ba_size]; exact digits_two (by omega)⟩
  have HSB := Lib.hid hsb
  rw [hsb]
  clear hsb
  have hz1 : ¬ 9223372036854775806 < sb.size := by omega
  clear hz
  go_wp2_with fail
  refine (Log.step_any G _ _ _ _ _ _ _ w2 hC1 hl0 hl1).mono ?_
  rintro e w3 ⟨rfl, hC3, ho3⟩
  have hlz : decide (s.left = 0) = false := by simpa using hl
  rw [hlz] at hC3 ⊢
  obtain ⟨sl, hsl, hz2⟩ : ∃ sl : ByteArray, sb ++ (⟨#[10]⟩ : ByteArray) = sl ∧ sl.size ≤ 3 := ⟨_, rfl, by rw [ByteArray.size_append, ← HSB.out, ba_size]; have := digits_two (i := i) (by omega); show _ + 1 ≤ 3; omega⟩
  obtain ⟨b0, hb0, hz3⟩ : ∃ b0 : ByteArray, (⟨s.bytes.toArray⟩ : ByteArray) = b0 ∧ b0.size ≤ 1000 := ⟨_, rfl, by rw [ba_size]; exact hbl⟩
  have HSL := Lib.hid hsl
  have HB0 := Lib.hid hb0
  rw [hsl]
  rw [hb0] at hC3
  have hz4 : ¬ 9223372036854775807 < b0.size + sl.size := by omega
  have c3 := hC3.cell 3 _ rfl
  have f3 := hC3.free 3 _ rfl
  have c2 := hC3.cell 2 _ rfl
  have f2 := hC3.free 2 _ rfl
  obtain ⟨m, hm⟩ : ∃ m, (natL s.all).length = m := ⟨_, rfl⟩
  have hml : m ≤ 1000 := by rw [← hm, natL_len]; exact ha
  have HM := Lib.hid hm
  have HC3 := Lib.hid hC3
  have HO3 := Lib.hid ho3
  have hA3 : Ints w3 0 av (natL s.all) := HJ.out.2.2.2.only ho3 (fun g hg hx => HR.out.n2 (by simp at hx; subst hx; exact own_of hg))
  have hA4 : Ints (w3.setCell ⟨G, 3, none⟩ (.string (b0 ++ sl))) 0 av (natL s.all) := hA3.only ((Only.refl [G] w3).setCell (by simp) _) (fun g hg hx => HR.out.n2 (by simp at hx; subst hx; exact own_of hg))
  obtain ⟨ga, gc, rfl, _⟩ := hA3.opt
  rw [hm] at c2 hA4
  have HG : Hid (G ∉ own (.slice ga m gc)) := by have := HR.out.n2; rw [own_any ga _ m _ gc] at this; exact this
  have HC4 := Lib.hid (hC3.set 3 (.string (b0 ++ sl)))
  clear hsl hb0 hz1 hz2 hz3 hm hC3 ho3 hA3 hC1
  go_wp2_with (at_builtin; refine wpList_push rfl (.tmp 65) (.tmp 67) rfl (w3.setCell ⟨G, 3, none⟩ (.string (b0 ++ sl))) 0 _ _ w3.heap.size i m hA4 HM.out (by omega) (by omega) rfl rfl ((Only.refl [] _).alloc _) (World.cell?_alloc_at _ _ _ _ (by simp [World.setCell])) ?_; intro g3 cap3 w4 hI4 hO4 hK4; have hC5 := HC4.out.only hO4 HG.out; have e2 := hC5.cell 2 _ rfl; have u2 := hC5.free 2 _ rfl)
  go_ret
  refine ⟨rfl, ?_⟩
  obtain ⟨hJ2, ho2, hP2, hA2⟩ := HJ.out
  have R := HR.out
  have ho3 := HO3.out
  have hG := HG.out
  have hX := HC4.out.lt
  have hoS : Only [G] w3 (w3.setCell ⟨G, 3, none⟩ (.string (b0 ++ sl))) := (Only.refl [G] w3).setCell (by simp) _
  have hoE : Only [G] w4 (w4.setCell ⟨G, 2, none⟩ (.slice (some ⟨g3, 0, none⟩) (m + 1) cap3)) := (Only.refl [G] w4).setCell (by simp) _
  have hn5 : ∀ x ∈ own (Value.slice ga m gc), x ∉ JS ∧ ¬ FP x ∧ ¬ FJ x := fun x hx => R.n5 x (by rw [own_any ga _ m _ gc]; exact hx)
  have hsz : w2.heap.size ≤ w3.heap.size := ho3.size
  have hsz4 : w3.heap.size ≤ w4.heap.size := by have := hO4.size; simpa [World.setCell] using this
  have hs2 : w.heap.size ≤ w2.heap.size := ho2.size
  have hSs : (w3.setCell ⟨G, 3, none⟩ (.string (b0 ++ sl))).heap.size = w3.heap.size := by simp [World.setCell]
  rw [hSs] at hK4 hX
  -- all that is not G, nor the list's, stays
  have hall : Only (G :: own (Value.slice ga m gc)) w2 (w4.setCell ⟨G, 2, none⟩ (.slice (some ⟨g3, 0, none⟩) (m + 1) cap3)) :=
    (((ho3.mono (by simp)).trans hoS (by simp)).trans hO4 (fun x hx _ => by simp [hx])).trans hoE (by simp)
  have hPE := hP2.only hall (fun x hF hx => by
    rcases List.mem_cons.1 hx with rfl | hx
    · exact R.n3 hF
    · exact (hn5 x hx).2.1 hF)
  have hJE := hJ2.only hall (fun x hF hx => by
    rcases List.mem_cons.1 hx with rfl | hx
    · exact R.n1 hF
    · exact (hn5 x hx).1 hF) (fun x hF hx => by
    rcases List.mem_cons.1 hx with rfl | hx
    · exact R.n4 hF
    · exact (hn5 x hx).2.2 hF)
  have hGg : g3 ≠ G := by
    rintro rfl
    rcases hK4 with h | h
    · exact hG h
    · omega
  have hAE := hI4.only hoE (fun g hg hx => by
    have : g = g3 := by simpa [Value.ownBlock] using hg.symm
    simp at hx; exact hGg (by rw [← this, hx]))
  have hCE := hC5.set 2 (.slice (some ⟨g3, 0, none⟩) (m + 1) cap3)
  have hb1 : ∀ x, FP x ∨ FJ x → x < w.heap.size := R.b1
  refine ⟨G :: (own (.slice (some ⟨g3, 0, none⟩) (m + 1) cap3) ++ JS), ⟨JS, FJ, FP, J, pv, .slice (some ⟨g3, 0, none⟩) (m + 1) cap3, ⟨?_, hPE, ?_, ?_, R.n1, ?_, R.n3, R.n4, ?_, R.n6, ?_, ?_⟩, rfl, rfl⟩, ?_, ?_⟩
  · have e : (⟨(s.push i).bytes.toArray⟩ : ByteArray) = b0 ++ sl := by
      rw [← HB0.out, ← HSL.out, ← HSB.out]
      show (⟨(s.bytes ++ (Lib.decDigits i ++ [10])).toArray⟩ : ByteArray) = _
      rw [← ba_app, ← ba_app]
    rw [e]
    exact hCE
  · show JoinIs _ JS FJ J p (doneB (s.all ++ [i]))
    rw [doneB_push]; exact hJE
  · show Ints _ 0 _ (natL (s.all ++ [i]))
    rw [natL_push]; exact hAE
  · simp [own, Value.ownBlock]; exact fun h => hGg h.symm
  · intro x hx
    obtain rfl : x = g3 := by simpa [own, Value.ownBlock] using hx
    rcases hK4 with h | h
    · exact hn5 x h
    · refine ⟨fun hx => ?_, fun hx => ?_, fun hx => ?_⟩
      · have := R.b2 x hx; omega
      · have := hb1 x (.inl hx); omega
      · have := hb1 x (.inr hx); omega
  · intro x hx; have := hb1 x hx; have := hoE.size; omega
  · intro x hx; have := R.b2 x hx; have := hoE.size; omega
  · intro x hx
    rcases List.mem_cons.1 hx with rfl | hx
    · exact .inl (by simp)
    · rcases List.mem_append.1 hx with hx | hx
      · obtain rfl : x = g3 := by simpa [own, Value.ownBlock] using hx
        rcases hK4 with h | h
        · left
          have : x ∈ own (Value.slice ga (natL s.all).length gc) := by rw [own_any ga _ m _ gc]; exact h
          simp [this]
        · right; omega
      · exact .inl (by simp [hx])
  · refine (ho2.mono (by intro x hx _; simp [hx])).trans hall (fun x hx _ => ?_)
    rcases List.mem_cons.1 hx with rfl | hx
    · simp
    · have : x ∈ own (Value.slice ga (natL s.all).length gc) := by rw [own_any ga _ m _ gc]; exact hx
      simp [this]

theorem Log.bytes_any (S : List Nat) (F : Nat → Prop) (G : Nat) (p : PlanL) (s : LSt) (w : World) (h : LogIs w S F G p s) (n : Nat) (hn : s.bytes.length = n) :
    Calls Tryz.prog 33 #[.pointer (some ⟨G, 0, none⟩)] w fun e w' => e = .returned (.int .i64 n) ∧ w = w' := by
  obtain ⟨JS, FJ, FP, J, pv, av, h, _, _⟩ := h
  have c3 := h.cells.cell 3 _ rfl
  have hz : (⟨s.bytes.toArray⟩ : ByteArray).size = n := by rw [ba_size]; exact hn
  generalize (⟨s.bytes.toArray⟩ : ByteArray) = b at *
  clear h
  go_enter Tryz.func33, Tryz.ntmps33
  go_wp2
  go_ret
  exact ⟨by simp, rfl⟩

end Go.Proofs.YtloojhnhialenaaGreatDoor
