/-
  Contract of (*log.Log).Crash.
-/
import Derived.Test.YtloojhnhialenaaGreatDoorLog2
import Derived.Test.YtloojhnhialenaaGreatDoorLogQ
import Derived.Test.YtloojhnhialenaaGreatDoorRound
import Derived.BigQuiet
import Derived.Outline
import Derived.Maps.OwnIn
namespace Go.Proofs.YtloojhnhialenaaGreatDoor
open Go.RowKit Go.Deep
attribute [local go_sem] Oper.semAt_some

theorem ints_abides {w w' : World} {base : Nat} {v : Value} {xs : List Int} {row : Option Nat} (h : Ints w base v xs) (hg : w.grownBy w' row) (hr : ∀ r, row = some r → ∃ o : Obj, w.heap[r]? = some o ∧ o.isCells = false) : Ints w' base v xs := by
  refine World.ownsRow.kept h hg ?_
  rcases h.2 with ⟨rfl, _⟩ | ⟨g, cap, cur, rfl, _, hgg, _⟩
  · exact .inl rfl
  · refine .inr fun e => ?_
    obtain ⟨o, ho, hc⟩ := hr g (by rw [← e]; rfl)
    rw [hgg] at ho
    injection ho with ho
    subst ho
    cases hc

theorem cell_one1 (w : World) (x : Value) (t : TypeId) : ∀ (j : Nat) (u : Value), [x][j]? = some u → (w.alloc (.cells #[x] t)).cell? ((⟨w.heap.size, 0, none⟩ : Addr).add j) = some u := by
  intro j u hj
  obtain rfl : j = 0 := by
    rcases j with _ | j
    · rfl
    · simp at hj
  have e : (⟨w.heap.size, 0, none⟩ : Addr).add 0 = ⟨w.heap.size, 0, none⟩ := rfl
  rw [e, World.cell?_alloc_new]
  simpa using hj

/-- The log behind a crash. -/
def LSt.crashed (s : LSt) (m : Nat) : LSt := ⟨s.all.take (keepN s.all m), textOf (s.all.take (keepN s.all m)), (textOf (s.all.take (keepN s.all m))).length, -1, false⟩
/-- How many bytes are left. -/
def leftB (s : LSt) (keep : Int) : Nat := (s.safe : Int).toNat + (max 0 (min keep ((s.bytes.length : Int) - s.safe))).toNat

set_option maxRecDepth 100000 in
set_option maxHeartbeats 4000000 in
theorem Log.crash (S : List Nat) (F : Nat → Prop) (G : Nat) (p : PlanL) (s : LSt) (keep : Int) (part : List UInt8) (w : World) (h : LogIs w S F G p s) (ho : OrdOk p s.all) (hb : s.bytes = textOf s.all ++ part) (hp : (10 : UInt8) ∉ part) (hsf : s.safe ≤ s.bytes.length) (hbl : s.bytes.length ≤ 1000) (_ : -9223372036854775808 ≤ keep ∧ keep ≤ 9223372036854775807) :
    Calls Tryz.prog 13 #[.pointer (some ⟨G, 0, none⟩), .int .i64 keep] w fun e w' => e = .returned (.tuple #[]) ∧ ∃ S' F', LogIs w' S' F' G p (s.crashed (leftB s keep)) ∧ Kin w S S' ∧ (∀ x, F' x → F x ∨ w.heap.size ≤ x) ∧ Only S w w' := by
  obtain ⟨JS, FJ, FP, J, pv, av, h, rfl, rfl⟩ := h
  have HR := Lib.hid h
  have hok := h.join.ok
  have h30 : ∀ i ∈ s.all, i < 30 := fun i hi => by have := ho.lt i hi; have := hok.len; omega
  have HOrd := Lib.hid ho
  have c3 := h.cells.cell 3 _ rfl
  have c4 := h.cells.cell 4 _ rfl
  obtain ⟨sf, hsf2⟩ : ∃ sf, s.safe = sf := ⟨_, rfl⟩
  obtain ⟨d, hd⟩ : ∃ d : Nat, max 0 (min keep ((s.bytes.length : Int) - s.safe)) = (d : Int) := ⟨_, (Int.toNat_of_nonneg (by omega)).symm⟩
  obtain ⟨m, hm⟩ : ∃ m, leftB s keep = m := ⟨_, rfl⟩
  have hmd : sf + d = m := by rw [← hm]; unfold leftB; rw [hd, hsf2]; simp
  have hml : m ≤ s.bytes.length := by omega
  obtain ⟨b0, hb0, hbz⟩ : ∃ b0 : ByteArray, (⟨s.bytes.toArray⟩ : ByteArray) = b0 ∧ b0.size = s.bytes.length := ⟨_, rfl, ba_size _⟩
  obtain ⟨l, hl⟩ : ∃ l, s.all.take (keepN s.all m) = l := ⟨_, rfl⟩
  obtain ⟨y, hy1, hy2⟩ := keep_split part hp s.all m (fun i hi => by have := h30 i hi; omega)
  rw [← hb, hl] at hy1
  obtain ⟨b1, hb1⟩ : ∃ b1 : ByteArray, b0.extract 0 m = b1 := ⟨_, rfl⟩
  have hb1l : b1.data.toList = textOf l ++ y := by
    rw [← hb1, ← hb0, ByteArray.data_extract]
    simpa using hy1
  have hb1z : b1.size = m := by rw [← hb1, ByteArray.size_extract]; omega
  have hix := cut_at b1.data.toList (textOf l) y hb1l (text_end l) hy2 _ (last10 b1)
  obtain ⟨ix, hixe⟩ : ∃ ix, Lib.lastIndexByte b1 10 = ix := ⟨_, rfl⟩
  rw [hixe] at hix
  obtain ⟨b2, hb2⟩ : ∃ b2 : ByteArray, b1.extract 0 (textOf l).length = b2 := ⟨_, rfl⟩
  have hb2e : b2 = ⟨(textOf l).toArray⟩ := by
    rw [← hb2]
    apply ByteArray.ext
    rw [ByteArray.data_extract]
    apply Array.ext'
    rw [Array.toList_extract, hb1l]
    simp
  have htl : (textOf l).length ≤ m := by
    have := congrArg List.length hb1l
    rw [Array.length_toList] at this
    have h2 : b1.data.size = m := hb1z
    simp at this
    omega
  rw [hb0] at c3
  rw [hsf2] at c4
  have hlast : ∀ W, Calls Tryz.prog 51 #[.string b1, .string ⟨#[10]⟩] W fun e w' => e = .returned (.int .i64 ix) ∧ w' = W := fun W => by
    have := Tryz.strings_LastIndex_one b1 ⟨#[10]⟩ rfl (by omega) W
    rw [← hixe]
    exact this
  obtain ⟨bl, hbl2⟩ : ∃ bl, s.bytes.length = bl := ⟨_, rfl⟩
  rw [hbl2] at hbz
  have hd1 : max 0 (min keep ((bl : Int) - (sf : Int))) = (d : Int) := by rw [← hbl2, ← hsf2]; exact hd
  have hw1 : wrap64 ((bl : Int) - (sf : Int)) = (bl : Int) - (sf : Int) := by unfold wrap64; omega
  have hw2 : wrap64 ((sf : Int) + (d : Int)) = (m : Int) := by unfold wrap64; omega
  have HX := Lib.hid (And.intro hb0 (And.intro hb1 (And.intro hb2 (And.intro hb2e (And.intro hl hm)))))
  have hmz : m ≤ bl := by omega
  have hblz : bl ≤ 1000 := by rw [← hbl2]; exact hbl
  clear h ho hb hp hsf hbl hsf2 hd hm hml hb0 hmd hbl2 hl hy1 hy2 hb1 hb1l hixe hb2 hb2e h30
  refine (callsIn_wide (n := 9)).1 ?_
  refine callsIn_of_wp_marks Tryz.func13 rfl trivial ?_ rfl
  simp only [Tryz.ntmps13, List.size_toArray, List.length_cons, List.length_nil, Nat.reduceAdd, Nat.reduceSub, Array.replicate_succ, Array.replicate_zero, List.push_toArray, List.append_toArray, List.nil_append, List.cons_append]
  gi_wp2_with fail
  refine wpIn_wide.2 ?_
  go_quiet (fail)
  obtain ⟨W0, hW0⟩ : ∃ W0, w.drewN nq = W0 := ⟨_, rfl⟩
  have ho0 : Only [] w W0 := by rw [← hW0]; exact (Only.refl [] w).drewN nq
  rw [hW0]
  clear hW0 c3 c4
  obtain ⟨tl, htl2⟩ : ∃ tl, (textOf l).length = tl := ⟨_, rfl⟩
  rw [htl2] at hix htl HX
  have hw3 : wrap64 (tl : Int) = (tl : Int) := by unfold wrap64; omega
  have HTL := Lib.hid htl2
  clear htl2
  gi_wp2_with fail
  rw [HX.out.2.1]
  refine ⟨trivial, ?_⟩
  refine (callsIn_wide.2 (hlast _)).mono ?_
  rintro e w1 ⟨rfl, rfl⟩
  clear hlast hd1 hw1 hw2
  gi_wp2_with fail
  rw [HX.out.2.2.1]
  refine ⟨trivial, ?_⟩
  refine (lines_mk _ _ _).mono ?_
  rintro e w2 ⟨rfl, rfl⟩
  clear hw3
  gi_wp2_with fail
  obtain ⟨V0, hV0⟩ : ∃ V0, (w1.alloc (.cells #[.slice none 0 0] 34)).alloc (.cells #[.string b2] 9) = V0 := ⟨_, rfl⟩
  have hB0 : Cells V0 w1.heap.size [.slice none 0 0] := by
    have h1 := (Cells.new w1 #[.slice none 0 0] 34).only ((Only.refl [] _).alloc (.cells #[.string b2] 9)) (by simp)
    rw [hV0] at h1; exact h1
  have hS0 : Cells V0 (w1.heap.size + 1) [.string b2] := by
    have h1 := Cells.new (w1.alloc (.cells #[.slice none 0 0] 34)) #[.string b2] 9
    rw [hV0] at h1; simpa using h1
  have hv0 : V0.heap.size = w1.heap.size + 2 := by rw [← hV0]; simp
  have hs1w := ho0.size
  have hoV : Only [] w V0 := by rw [← hV0]; exact (ho0.alloc _).alloc _
  have HV := Lib.hid hV0
  rw [hV0]
  clear hV0 ho0
  have hle30 : l.length ≤ 30 := by
    obtain ⟨_, _, _, _, hl, _⟩ := HX.out
    have h1 := nodup_le _ _ HOrd.out.nodup HOrd.out.lt
    have h2 := hok.len
    rw [← hl, List.length_take]; omega
  have hl30 : ∀ j : Nat, l[j]?.getD 0 < 30 := fun j => by
    by_cases hj : j < l.length
    · rw [List.getElem?_eq_getElem hj]
      obtain ⟨_, _, _, _, hl, _⟩ := HX.out
      have hm : l[j] ∈ s.all := List.mem_of_mem_take (i := keepN s.all m) (by rw [hl]; exact List.getElem_mem hj)
      have h1 := HOrd.out.lt _ hm
      have h2 := hok.len
      show l[j] < 30
      omega
    · rw [List.getElem?_eq_none (by omega)]; show 0 < 30; omega
  have hmem30 : ∀ i ∈ l, i < 100 := fun i hi => by
    obtain ⟨k, hk, rfl⟩ := List.getElem_of_mem hi
    have := hl30 k
    rw [List.getElem?_eq_getElem hk] at this
    have h2 : l[k] < 30 := this
    omega
  have hlines := lines_text l hmem30
  have hll : (linesOf (textOf l)).length = l.length := by rw [hlines, List.length_map]
  have HLL := Lib.hid hll
  have hS1 : Cells V0 (w1.heap.size + 1) [.string ⟨(textOf l).toArray⟩] := by
    have := HX.out.2.2.2.1
    rw [← this]; exact hS0
  obtain ⟨i0, hi, hz0, hz1, hz2⟩ := info_int
  refine wpIn_rangeFunc_ownQ (α := { x : Nat // x < 30 }) (w0 := V0) rfl (by omega) (gf := 91) (lb := #[.pointer (some ⟨w1.heap.size + 1, 0, none⟩)]) rfl trivial (enters_of Tryz.func91 (by kernel_rfl) rfl)
    (lines_stops (fun x : { x : Nat // x < 30 } => #[.string ⟨(lineOf x.1).toArray⟩]) (fun j => ⟨l[j]?.getD 0, hl30 j⟩) _ (w1.heap.size + 1) V0.heap.size [w1.heap.size] (textOf l) V0
      (by rw [HTL.out]; omega) ⟨by omega, by simp⟩
      (fun j x hj => by
        rw [hlines, List.getElem?_map] at hj
        obtain ⟨y, hy, rfl⟩ := Option.map_eq_some_iff.1 hj
        have hy2 : l[j]?.getD 0 = y := by rw [hy]; rfl
        show #[Value.string ⟨(lineOf (l[j]?.getD 0)).toArray⟩] = _
        rw [hy2]) hS1)
    (lineStep_keeps (by omega)) keepW_t (keepW_b (Nat.le_refl _)) (Below.refl _ _) (fun _ => rfl)
    (fun pre W => (∃ v, Cells W w1.heap.size [v] ∧ Ints W (w1.heap.size + 2) v (natL (pre.map (fun x => x.1)))) ∧ Only [w1.heap.size, w1.heap.size + 1] V0 W)
    (fun _ _ _ => False)
    (OwnFrom.and (Own.from (fun s A B row hs hg hr => by obtain ⟨v, h1, h2⟩ := hs; exact ⟨v, h1.abides hg hr, ints_abides h2 hg hr⟩) _) (ownFrom_only (Nat.le_refl _)))
    (fun _ _ _ _ _ hs _ _ => hs)
    (fun s A B hs hst => by
      obtain ⟨⟨v, h1, h2⟩, h3⟩ := hs
      refine ⟨⟨v, h1.only hst (by simp), h2.only_low hst (fun x hx => by simp at hx; omega)⟩, h3.trans hst (fun y hy _ => by simp at hy; simp [hy])⟩)
    (fun _ _ _ _ hs _ => hs)
    ⟨⟨_, hB0, Ints.nil _ _⟩, Only.refl _ _⟩
    (fun x => { tmps := #[.pointer (some ⟨G, 0, none⟩), .int .i64 keep, undef, undef, .string b2, .pointer (some ⟨w1.heap.size, 0, none⟩), .string ⟨(lineOf x.1).toArray⟩, undef, undef, .pointer (some ⟨G, 0, none⟩), .pointer (some ⟨G, 0, none⟩), .pointer (some ⟨G, 3, none⟩), .string b0, .pointer (some ⟨G, 0, none⟩), .pointer (some ⟨G, 0, none⟩), .pointer (some ⟨G, 4, none⟩), .int .i64 sf, .int .i64 keep, .pointer (some ⟨G, 0, none⟩), .pointer (some ⟨G, 0, none⟩), .pointer (some ⟨G, 3, none⟩), .string b0, .int .i64 bl, .pointer (some ⟨G, 0, none⟩), .pointer (some ⟨G, 0, none⟩), .pointer (some ⟨G, 4, none⟩), .int .i64 sf, .int .i64 (wrap64 ((bl : Int) - (sf : Int))), .int .i64 (min keep ((bl : Int) - (sf : Int))), .int .i64 d, .int .i64 (wrap64 ((sf : Int) + (d : Int))), .string b1, .string b1, .string b1, .int .i64 ix, .int .i64 (tl : Int), .string b2, .string b2, .func (.func 91) #[] #[.pointer (some ⟨w1.heap.size + 1, 0, none⟩)], .string ⟨(lineOf x.1).toArray⟩, undef, undef, undef, undef, undef, undef, undef, undef, undef, undef, undef, undef, undef, undef, undef, undef, undef, undef, undef, undef, undef, undef, undef, undef, undef, undef, undef, undef, undef, undef, undef], defers := [] }) ?assign ?body ?done ?stop
  case assign =>
    intro lp x W K hK
    gi_wp2
    exact hK
  case body =>
    rintro lp pre x W ⟨⟨v, hC, hI⟩, hoL⟩ hlen
    rw [HLL.out] at hlen
    have hoL2 := Lib.hid hoL
    have hsL := hoL.size
    clear hoL
    have hx := x.2
    have htrim : ∀ W, Calls Tryz.prog 54 #[.string ⟨(lineOf x.1).toArray⟩, .string ⟨#[10]⟩] W fun e w' => e = .returned (.string ⟨(Lib.decDigits x.1).toArray⟩) ∧ w' = W := fun W => by
      have := Tryz.strings_TrimSuffix ⟨(lineOf x.1).toArray⟩ ⟨#[10]⟩ W (by rw [ba_size]; unfold lineOf; have := digits_two (i := x.1) (by omega); simp; omega)
      have e : Lib.trimSuffix (lineOf x.1).toArray.toList (#[10] : Array UInt8).toList = Lib.decDigits x.1 := trim_line x.1
      rw [e] at this
      exact this
    have hatoi : ∀ W, Calls Tryz.prog 53 #[.string ⟨(Lib.decDigits x.1).toArray⟩] W fun e w' => e = .returned (.tuple #[.int .i64 (x.1 : Int), .nilIface]) ∧ Only [] W w' := fun W => by
      have hd := digits_two (i := x.1) (by omega)
      have hk : Lib.atoiAll (⟨(Lib.decDigits x.1).toArray⟩ : ByteArray).data.toList = .ok (x.1 : Int) := by
        show Lib.atoiAll (Lib.decDigits x.1) = _
        rcases atoi_digits _ (digits_dig (i := x.1) (by omega)) (digits_ne x.1 (by omega)) with h | ⟨_, h⟩
        · rw [h, digits_val (by omega)]
        · rw [digits_val (by omega)] at h; omega
      refine (Tryz.strconv_Atoi_ok _ (by rw [ba_size]; omega) _ hk W).mono ?_
      rintro e w' ⟨rfl, hw⟩
      refine ⟨rfl, ?_⟩
      rcases hw with rfl | ⟨t, rfl⟩
      · exact Only.refl _ _
      · exact Only.ofBelow (Lib.below_freeze ((Below.drew (Below.refl _ W)).alloc (Nat.le_refl _) _) (p := ⟨W.heap.size, _, none⟩) (Nat.le_refl _) _)
    obtain ⟨x, hx30⟩ := x
    change x < 30 at hx
    have hnl : (natL ((pre ++ [(⟨x, hx30⟩ : { x : Nat // x < 30 })]).map (fun x => x.1))) = natL (pre.map (fun x => x.1)) ++ [(x : Int)] := by simp [natL]
    obtain ⟨zs, hzs⟩ : ∃ zs, natL (pre.map (fun x => x.1)) = zs := ⟨_, rfl⟩
    have hzl : zs.length ≤ 30 := by rw [← hzs, natL_len, List.length_map]; omega
    rw [hzs] at hI hnl
    have HNL := Lib.hid hnl
    clear hnl hzs
    dsimp only at htrim hatoi ⊢
    obtain ⟨sl, hsl⟩ : ∃ sl : ByteArray, (⟨(lineOf x).toArray⟩ : ByteArray) = sl := ⟨_, rfl⟩
    obtain ⟨sd, hsd⟩ : ∃ sd : ByteArray, (⟨(Lib.decDigits x).toArray⟩ : ByteArray) = sd := ⟨_, rfl⟩
    rw [hsl] at htrim ⊢
    rw [hsd] at htrim hatoi
    clear hsl hsd
    gi_wp2_with fail
    refine ⟨trivial, ?_⟩
    refine (CallsIn.inRound lp (callsIn_wide.2 (htrim _))).mono ?_
    rintro e w3 ⟨rfl, rfl⟩
    gi_wp2_with fail
    refine ⟨trivial, ?_⟩
    refine (CallsIn.inRound lp (callsIn_wide.2 (hatoi _))).mono ?_
    rintro e w4 ⟨rfl, ho4⟩
    clear htrim hatoi
    have hC4 := hC.only ho4 (by simp)
    have hI4 := hI.only_low ho4 (by simp)
    have hs4 := ho4.size
    have HO4 := Lib.hid ho4
    have HKEEP : Hid (∀ y ∈ own v, ∃ o : Obj, w3.heap[y]? = some o ∧ o.isCells = true) := fun y hy => by
      have hI' : w3.ownsRow (w1.heap.size + 2) 3 1 v zs.length (zs.map (Value.int .i64)) := hI
      rcases hI'.2 with ⟨h0, _⟩ | ⟨g, cap, cur, h0, _, hgg, _⟩
      · rw [h0] at hy; simp [own, Value.ownBlock] at hy
      · rw [h0] at hy
        obtain rfl : y = g := by simpa [own, Value.ownBlock] using hy
        exact ⟨_, hgg, rfl⟩
    clear hC hI ho4
    have cB := hC4.cell 0 _ rfl
    have fB := (hC4 0 _ rfl).2
    have hBl := hC4.lt
    have hfar := Row.far hI4
    have hI4 : w4.ownsRow (w1.heap.size + 2) 3 1 v zs.length (zs.map (Value.int .i64)) := hI4
    obtain ⟨va, vc, rfl, hvc, hvm, _⟩ := Row.form hI4
    have hal := (Only.refl [] w4).alloc (.cells #[.int .i64 (x : Int)] 3)
    have hI1 : (w4.alloc (.cells #[.int .i64 (x : Int)] 3)).ownsRow (w1.heap.size + 2) 3 1 (.slice va zs.length vc) zs.length (zs.map (Value.int .i64)) := Row.only hI4 hal (by simp)
    have hC1 := hC4.only hal (by simp)
    have HC1 := Lib.hid hC1
    have HI1 := Lib.hid hI1
    clear hC4 hI4 hI1 hC1
    gi_wp2_with (gi_at_builtin; go_loud (refine wpListIn_append_own_at _ rfl (.tmp 48) (.tmp 50) 34 rfl (w1.heap.size + 2) 3 i0 (.int .i64 0) 1 8 Tryz.underlying34 hi hz0 hz1 hz2 rfl (by decide) (.slice va zs.length vc) zs.length (zs.map (Value.int .i64)) rfl HI1.out ⟨w4.heap.size, 0, none⟩ 1 1 [.int .i64 (x : Int)] rfl rfl (cell_one1 _ _ _) (by simp [Value.oneCell']) (by unfold maxLen; omega) (by omega) (by simp; omega) ?_; intro v3 w5 hI3 hg3 _ hb3; have hO3 : Only (own (.slice va zs.length vc)) (w4.alloc (.cells #[.int .i64 (x : Int)] 3)) w5 := (Only.refl _ _).grown hg3 (fun k hk _ => by simp [own, hk]); have hC3 := HC1.out.only hO3 (fun h => by have := (hfar _ h).1; omega); have cB3 := hC3.cell 0 _ rfl; have fB3 := (hC3 0 _ rfl).2; obtain ⟨ga, gc, rfl, _, _, _⟩ := Row.form hI3))
    have hOF4 : Only (w1.heap.size :: own (.slice va zs.length vc)) w4 (w5.setCell ⟨w1.heap.size, 0, none⟩ (.slice ga (zs.length + 1) gc)) :=
      ((hal.mono (by simp)).trans (hO3.mono (fun a h _ => List.mem_cons_of_mem _ h)) (fun a h _ => h)).setCell (by simp) _
    have hOF : Only (w1.heap.size :: own (.slice va zs.length vc)) w3 (w5.setCell ⟨w1.heap.size, 0, none⟩ (.slice ga (zs.length + 1) gc)) := (HO4.out.mono (by simp)).trans hOF4 (fun y hy _ => hy)
    have hJ1 : Cells (w5.setCell ⟨w1.heap.size, 0, none⟩ (.slice ga (zs.length + 1) gc)) w1.heap.size [.slice ga (zs.length + 1) gc] := hC3.set 0 _
    have hJ2 : Ints (w5.setCell ⟨w1.heap.size, 0, none⟩ (.slice ga (zs.length + 1) gc)) (w1.heap.size + 2) (.slice ga (zs.length + 1) gc) (zs ++ [(x : Int)]) := by
      have h1 : Ints w5 (w1.heap.size + 2) (.slice ga (zs.length + 1) gc) (zs ++ [(x : Int)]) := by unfold Ints; simpa using hI3
      exact h1.only ((Only.refl [w1.heap.size] w5).setCell (by simp) _) (fun y hy h => by have := (Row.far hI3 y (by simpa [own] using hy)).1; simp at h; omega)
    refine ⟨hOF.keepsFrom (fun y hy => ?_), hOF.keepW (by omega) (fun y hy hlt => ?_), ⟨_, hJ1, by rw [HNL.out]; exact hJ2⟩, hoL2.out.trans hOF (fun y hy hlt => ?_)⟩
    · rcases List.mem_cons.1 hy with rfl | hy
      · left; omega
      · right; exact HKEEP.out y hy
    · rcases List.mem_cons.1 hy with rfl | hy
      · simp
      · have := (hfar y hy).1; omega
    · rcases List.mem_cons.1 hy with rfl | hy
      · simp
      · have := (hfar y hy).1; omega
  case done =>
    rintro D ys W hD rfl ⟨⟨v, hC, hI⟩, hoL⟩ hK
    have hys : (upto (fun j => (⟨l[j]?.getD 0, hl30 j⟩ : { x : Nat // x < 30 })) (linesOf (textOf l)).length).map (fun x => x.1) = l := by
      rw [HLL.out]
      unfold upto
      rw [List.map_map]
      apply List.ext_getElem
      · simp
      · intro i h1 h2
        simp [List.getElem?_eq_getElem h2]
    rw [hys] at hI
    have ho : Only [] w W := hoV.trans hoL (fun y hy hlt => by simp at hy; omega)
    have hGl := HR.out.cells.lt
    have hCW := HR.out.cells.only ho (by simp)
    have hPW := HR.out.plan.only ho (fun x _ => by simp)
    have hOl : OrdOk p l := by rw [← HX.out.2.2.2.2.1]; exact HOrd.out.take _
    have hrd := Log.redo G _ _ _ _ _ _ _ v FP p l W hCW hPW hok hI.reads hOl
    have cB := hC.cell 0 _ rfl
    obtain ⟨va, vc, rfl, hvf⟩ := hI.opt
    have HI := Lib.hid (And.intro hI (And.intro ho (And.intro hPW hK)))
    have hDW := (Array.getElem?_eq_some_iff.1 hK).1
    have hsW := ho.size
    obtain ⟨nn, hnn⟩ : ∃ nn, (natL l).length = nn := ⟨_, rfl⟩
    have HNN := Lib.hid hnn
    rw [hnn] at hrd cB
    clear hI hPW hK hCW ho hoL hC hOl hvf hnn
    gi_wp2_with fail
    refine ⟨trivial, ?_⟩
    refine (callsIn_wide.2 hrd).mono ?_
    rintro e w5 ⟨rfl, J5, S5, FJ5, hC5, hJ5, hS5, hF5, ho5⟩
    have H5 := Lib.hid (And.intro hC5 (And.intro hJ5 (And.intro hS5 (And.intro hF5 ho5))))
    have c3 := hC5.cell 3 _ rfl
    have f3 := hC5.free 3 _ rfl
    have c4 := hC5.cell 4 _ rfl
    have f4 := hC5.free 4 _ rfl
    have c5 := hC5.cell 5 _ rfl
    have f5 := hC5.free 5 _ rfl
    have c6 := hC5.cell 6 _ rfl
    have f6 := hC5.free 6 _ rfl
    clear hrd hC5 hJ5 hS5 hF5 ho5
    gi_wp2_with fail
    obtain ⟨hI, ho, hPW, hK⟩ := HI.out
    obtain ⟨hC5, hJ5, hS5, hF5, ho5⟩ := H5.out
    have R := HR.out
    obtain ⟨_, _, _, hb2e, hl, hm⟩ := HX.out
    have hcr : s.crashed (leftB s keep) = ⟨l, textOf l, (textOf l).length, -1, false⟩ := by unfold LSt.crashed; rw [hm, hl]
    have hb2z : b2.size = (textOf l).length := by rw [hb2e, ba_size]
    rw [hcr]
    generalize hWf : (((w5.setCell ⟨G, 3, none⟩ (.string b2)).setCell ⟨G, 4, none⟩ (.int .i64 (b2.size : Int))).setCell ⟨G, 5, none⟩ (.int .i64 (-1))).setCell ⟨G, 6, none⟩ (.bool false) = Wf
    have hCf : Cells Wf G [pv, .pointer (some ⟨J5, 0, none⟩), .slice va nn vc, .string ⟨(textOf l).toArray⟩, .int .i64 ((textOf l).length : Nat), .int .i64 (-1), .bool false] := by
      rw [← hWf, ← hb2e, ← hb2z]
      exact (((hC5.set 3 _).set 4 _).set 5 _).set 6 _
    have hof : Only [G] w5 Wf := by
      rw [← hWf]
      exact ((((Only.refl [G] w5).setCell (by simp) _).setCell (by simp) _).setCell (by simp) _).setCell (by simp) _
    have ho5f : Only [G] W Wf := ho5.trans hof (by simp)
    have hsf := ho5f.size
    have hs5 := ho5.size
    have hKf : Wf.heap[D]? = some (.deferred (some [])) := (ho5f.block D hDW (by simp; omega)).trans hK
    have hDonly : Only [D] Wf (Wf.putObj D (.deferred none)) := (Only.refl [D] Wf).grown (grownBy_putObj' Wf D _) (fun k hk hlt => by cases hk; simp)
    have hGJ : ∀ x ∈ S5, x ∉ [G] := fun x hx hm => by have := hS5 x hx; simp at hm; omega
    have hGF : ∀ x, FJ5 x → x ∉ [G] := fun x hx hm => by have := hF5 x hx; simp at hm; omega
    have hav : ∀ x ∈ own (.slice va nn vc), w1.heap.size + 2 ≤ x ∧ x < W.heap.size := fun x hx => hI.own_lt x (by rw [HNN.out]; exact hx)
    have hGa : ∀ x ∈ own (.slice va nn vc), x ∉ [G] := fun x hx hm => by have := hav x hx; simp at hm; omega
    have hIf : Ints Wf 0 (.slice va nn vc) (natL l) := by
      have h1 := (hI.mono (Nat.zero_le _)).only ho5f (fun g hg => by rw [HNN.out] at hg; exact hGa g (own_of hg))
      rw [HNN.out] at h1
      exact h1
    have hFPl : ∀ x, FP x → x < w.heap.size := fun x hx => R.b1 x (.inl hx)
    have hRf : LogRaw Wf S5 FJ5 FP G J5 pv (.slice va nn vc) p (doneB l) ⟨l, textOf l, (textOf l).length, -1, false⟩ := ⟨hCf, hPW.only ho5f (fun x hF hx => by have := hFPl x hF; simp at hx; subst hx; exact R.n3 hF), hJ5.only hof hGJ hGF, hIf,
      fun h => hGJ G h (by simp), fun h => hGa G h (by simp), R.n3, fun h => hGF G h (by simp),
      fun x hx => ⟨fun h => by have := hS5 x h; have := hav x hx; omega, fun h => by have := hFPl x h; have := hav x hx; omega, fun h => by have := hF5 x h; have := hav x hx; omega⟩,
      fun x hx hF => by have := hS5 x hx; have := hFPl x hF; omega,
      fun x hx => by
        rcases hx with hx | hx
        · have := hFPl x hx; omega
        · have := hF5 x hx; have := hof.size; omega,
      fun x hx => by have := hS5 x hx; have := hof.size; omega⟩
    have hDn : ∀ x ∈ own (.slice va nn vc), x ≠ D := fun x hx e => by
      have hI' : W.ownsRow (w1.heap.size + 2) 3 1 (.slice va (natL l).length vc) (natL l).length ((natL l).map (Value.int .i64)) := hI
      rcases hI'.2 with ⟨h0, _⟩ | ⟨g, cap, cur, h0, _, hgg, _⟩
      · rw [HNN.out] at h0; rw [h0] at hx; simp [own, Value.ownBlock] at hx
      · rw [HNN.out] at h0
        rw [h0] at hx
        obtain rfl : x = g := by simpa [own, Value.ownBlock] using hx
        rw [e, hK] at hgg
        cases hgg
    have hRD := hRf.only hDonly (fun h => by simp at h; omega) (fun x hx h => hDn x hx (by simpa using h)) (fun x hx h => by have := hS5 x hx; simp at h; omega) (fun x hF h => by have := hFPl x hF; simp at h; omega) (fun x hF h => by have := hF5 x hF; simp at h; omega)
    refine ⟨by simp, .inl ⟨_, _, rfl, run_takeDeferred hKf, ?_⟩⟩
    refine ⟨_, results_none rfl _ _ _, rfl, _, _, ⟨S5, FJ5, FP, J5, pv, _, hRD, rfl, rfl⟩, ?_, ?_, ?_⟩
    · intro x hx
      rcases List.mem_cons.1 hx with rfl | hx
      · exact .inl (by simp)
      · rcases List.mem_append.1 hx with hx | hx
        · right; have := hav x hx; omega
        · right; have := hS5 x hx; omega
    · intro x hx
      rcases hx with hx | hx
      · exact .inl (.inl hx)
      · right; have := hF5 x hx; omega
    · exact ((ho.mono (T := G :: (own av ++ JS)) (by simp)).trans ho5f (fun x hx _ => by simp at hx; simp [hx])).trans hDonly (fun x hx hlt => by simp at hx; omega)
  case stop =>
    rintro D c pre W _ _ h _
    exact h.elim

end Go.Proofs.YtloojhnhialenaaGreatDoor
