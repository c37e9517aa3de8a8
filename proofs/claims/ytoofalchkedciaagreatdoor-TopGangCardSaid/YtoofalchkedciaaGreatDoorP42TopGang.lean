/-
  Contract of trace.Parse.
-/
import Derived.Test.YtoofalchkedciaaGreatDoorP41TopGang
import Derived.Test.YtoofalchkedciaaGreatDoorP18TopGang
import Derived.Test.YtoofalchkedciaaGreatDoorP38TopGang
import Derived.Maps.OwnIn
namespace Go.Proofs.YtoofalchkedciaaGreatDoor
open Go.RowKit Go.Deep
attribute [local go_sem] Oper.semAt_some

theorem results_cells2 {P : Program} {fn : Func} {p q : Tmp} {t1 t2 : TypeId} (h : fn.results = #[.cell p t1, .cell q t2]) (tmps : Array Value) (w : World) (a b : Addr) (va vb : Value)
    (hp : tmps.getD p undef = .pointer (some a)) (hq : tmps.getD q undef = .pointer (some b)) (l1 : (loadVar t1 a).run P w = .ok va w) (l2 : (loadVar t2 b).run P w = .ok vb w) :
    (results fn tmps).run P w = .ok (.tuple #[va, vb]) w := by
  have hp' : tmps[p]?.getD undef = .pointer (some a) := by simpa using hp
  have hq' : tmps[q]?.getD undef = .pointer (some b) := by simpa using hq
  simp [results, h, hp', hq', asAddr, l1, l2]
theorem load_deeds (W : World) (B : Nat) {a : Option Addr} {n c : Nat} (h : Cells W B [.slice a n c]) : (loadVar 47 ⟨B, 0, none⟩).run Tryz.prog W = .ok (.slice a n c) W := by
  have c0 := h.cell 0 _ rfl
  go_simp
theorem load_errV (W : World) (B : Nat) {f : Int} (h : Cells W B [errV f]) : (loadVar 27 ⟨B, 0, none⟩).run Tryz.prog W = .ok (errV f) W := by
  by_cases h0 : f = 0
  · subst h0
    rw [errV_zero] at h ⊢
    have c0 := h.cell 0 _ rfl
    go_simp
  · rw [errV_ne h0] at h ⊢
    have c0 := h.cell 0 _ rfl
    go_simp

theorem mem_flat {x : List UInt8} : ∀ {l : List (List UInt8)}, x ∈ l → x.length ≤ l.flatten.length
  | y :: l, h => by
    rw [List.flatten_cons, List.length_append]
    rcases List.mem_cons.1 h with rfl | h
    · omega
    · have := mem_flat h; omega
theorem line_le {l x : List UInt8} (h : x ∈ linesOf l) : x.length ≤ l.length := by
  have := mem_flat h
  rw [flat_lines] at this
  exact this
theorem lines_ne : ∀ (l : List UInt8), ∀ x ∈ linesOf l, x ≠ []
  | [], x, h => by simp [linesOf] at h
  | c :: l, x, h => by
    unfold linesOf at h
    split at h
    · rcases List.mem_cons.1 h with rfl | h
      · simp
      · exact lines_ne l x h
    · cases hl : linesOf l with
      | nil =>
        rw [hl] at h
        simp at h
        subst h; simp
      | cons y r =>
        rw [hl] at h
        rcases List.mem_cons.1 h with rfl | h
        · simp
        · exact lines_ne l x (by rw [hl]; simp [h])
theorem line_len (l : List UInt8) (j : Nat) : ((linesOf l)[j]?.getD []).length ≤ l.length := by
  by_cases h : j < (linesOf l).length
  · rw [List.getElem?_eq_getElem h, Option.getD_some]
    exact line_le (List.getElem_mem h)
  · rw [List.getElem?_eq_none (by omega)]; simp
theorem cell_rown (w : World) (cs : Array Value) (t : TypeId) : ∀ (j : Nat) (u : Value), cs.toList[j]? = some u → (w.alloc (.cells cs t)).cell? ((⟨w.heap.size, 0, none⟩ : Addr).add j) = some u := by
  intro j u hj
  have h := Cells.new w cs t j u hj
  have e : (⟨w.heap.size, 0, none⟩ : Addr).add j = ⟨w.heap.size, j, none⟩ := by
    unfold Addr.add
    split
    · rename_i h0; subst h0; rfl
    · simp
  rw [e]
  exact h.1
theorem deeds_abides {w w' : World} {base : Nat} {v : Value} {q : List Dd} {row : Option Nat} (h : OwnDeeds w base v q) (hg : w.grownBy w' row) (hr : ∀ r, row = some r → ∃ o : Obj, w.heap[r]? = some o ∧ o.isCells = false) : OwnDeeds w' base v q := by
  refine World.ownsRow.kept h hg ?_
  rcases h.2 with ⟨rfl, _⟩ | ⟨g, cap, cur, rfl, _, hgg, _⟩
  · exact .inl rfl
  · refine .inr fun e => ?_
    obtain ⟨o, ho, hc⟩ := hr g (by rw [← e]; rfl)
    rw [hgg] at ho
    injection ho with ho
    subst ho
    cases hc

def DParseOut (w : World) (l : List UInt8) (e : Ending) (w' : World) : Prop :=
  Only [] w w' ∧ ((dparseF l ≠ 0 ∧ e = .returned (.tuple #[.slice none 0 0, errV (dparseF l)])) ∨
    (∃ (v : Value) (q : List Dd), e = .returned (.tuple #[v, .nilIface]) ∧ readDT l = some q ∧ ddsFault q = 0 ∧ OwnDeeds w' w.heap.size v q))

set_option maxRecDepth 100000 in
set_option maxHeartbeats 4000000 in
theorem trace_Parse (s : ByteArray) (hs : s.size ≤ 1100000) (w : World) (hstd : Std w) (hwd : WordsIn w) :
    Calls Tryz.prog 30 #[.string s] w (DParseOut w s.data.toList) := by
  have HSTD := Lib.hid (fun (W : World) (hW : Only [] w W) => hstd.only hW)
  have HWD := Lib.hid (fun (W : World) (hW : Only [] w W) => hwd.only hW)
  have hsl : s.data.toList.length = s.size := Array.length_toList
  have HSL := Lib.hid hsl
  clear hstd hwd hsl
  refine (callsIn_wide (n := 9)).1 ?_
  refine callsIn_of_wp_marks Tryz.func30 rfl trivial ?_ rfl
  simp only [Tryz.ntmps30, List.size_toArray, List.length_cons, List.length_nil, Nat.reduceAdd, Nat.reduceSub, Array.replicate_succ, Array.replicate_zero, List.push_toArray, List.append_toArray, List.nil_append, List.cons_append]
  gi_wp2_with fail
  refine ⟨trivial, ?_⟩
  refine (lines_mk _ _ _).mono ?_
  rintro e w2 ⟨rfl, rfl⟩
  gi_wp2_with fail
  obtain ⟨B2, hB2⟩ : ∃ B2, w.heap.size = B2 := ⟨_, rfl⟩
  obtain ⟨W1, hW1⟩ : ∃ W1, w.alloc (.cells #[.slice none 0 0] 47) = W1 := ⟨_, rfl⟩
  obtain ⟨W2, hW2⟩ : ∃ W2, W1.alloc (.cells #[.nilIface] 27) = W2 := ⟨_, rfl⟩
  obtain ⟨W3, hW3⟩ : ∃ W3, W2.alloc (.cells #[.slice none 0 0] 47) = W3 := ⟨_, rfl⟩
  obtain ⟨V0, hV0⟩ : ∃ V0, W3.alloc (.cells #[.string s] 9) = V0 := ⟨_, rfl⟩
  have o1 : Only [] w W1 := by rw [← hW1]; exact (Only.refl [] _).alloc _
  have o2 : Only [] W1 W2 := by rw [← hW2]; exact (Only.refl [] _).alloc _
  have o3 : Only [] W2 W3 := by rw [← hW3]; exact (Only.refl [] _).alloc _
  have o4 : Only [] W3 V0 := by rw [← hV0]; exact (Only.refl [] _).alloc _
  have z1 : W1.heap.size = B2 + 1 := by rw [← hW1, World.size_alloc, hB2]
  have z2 : W2.heap.size = B2 + 2 := by rw [← hW2, World.size_alloc, z1]
  have z3 : W3.heap.size = B2 + 3 := by rw [← hW3, World.size_alloc, z2]
  have hVs : V0.heap.size = B2 + 4 := by rw [← hV0, World.size_alloc, z3]
  have hC2 : Cells V0 B2 [.slice none 0 0] := by
    have h := Cells.new w #[.slice none 0 0] 47
    rw [hW1, hB2] at h
    exact ((h.only o2 (by simp)).only o3 (by simp)).only o4 (by simp)
  have hC3 : Cells V0 (B2 + 1) [errV 0] := by
    have h := Cells.new W1 #[.nilIface] 27
    rw [hW2, z1] at h
    rw [errV_zero]
    exact (h.only o3 (by simp)).only o4 (by simp)
  have hC4 : Cells V0 (B2 + 2) [.slice none 0 0] := by
    have h := Cells.new W2 #[.slice none 0 0] 47
    rw [hW3, z2] at h
    exact h.only o4 (by simp)
  have hC5 : Cells V0 (B2 + 3) [.string s] := by
    have h := Cells.new W3 #[.string s] 9
    rw [hV0, z3] at h
    exact h
  have hoV : Only [] w V0 := ((o1.trans o2 (by simp)).trans o3 (by simp)).trans o4 (by simp)
  rw [hB2]
  rw [hW1] 
  rw [hW2]
  rw [hW3]
  rw [hV0]
  obtain ⟨B3, hB3⟩ : ∃ B3, B2 + 1 = B3 := ⟨_, rfl⟩
  obtain ⟨B4, hB4⟩ : ∃ B4, B3 + 1 = B4 := ⟨_, rfl⟩
  obtain ⟨B5, hB5⟩ : ∃ B5, B4 + 1 = B5 := ⟨_, rfl⟩
  have hC4' : Cells V0 B4 [.slice none 0 0] := by have e : B2 + 2 = B4 := by omega
                                                  rw [← e]; exact hC4
  have hC5' : Cells V0 B5 [.string s] := by have e : B2 + 3 = B5 := by omega
                                            rw [← e]; exact hC5
  have h23 : B2 < B3 := by omega
  have h34 : B3 < B4 := by omega
  have h45 : B4 < B5 := by omega
  have h5V : B5 < V0.heap.size := by omega
  have hwB : w.heap.size ≤ B2 := by omega
  rw [hB3] at hC3 ⊢
  rw [hB4]
  rw [hB5]
  clear hB3 hB4 hB5 hV0 hW1 hW2 hW3 o1 o2 o3 o4 z1 z2 z3 hB2 hVs hC4 hC5
  obtain ⟨bytes, hby⟩ : ∃ bytes, s.data.toList = bytes := ⟨_, rfl⟩
  have hsb : s = ⟨bytes.toArray⟩ := by rw [← hby]
  have HBY := Lib.hid hby
  have hlb : bytes.length ≤ 1100000 := by rw [← hby, HSL.out]; exact hs
  have HSB := Lib.hid hsb
  clear hby hsb
  have hg11 : ∀ j : Nat, ((linesOf bytes)[j]?.getD []).length ≤ 1100000 := fun j => by have := line_len bytes j; omega
  have HOV := Lib.hid hoV
  have HC2 := Lib.hid hC2
  have HC3 := Lib.hid hC3
  have hS1 : Cells V0 B5 [.string ⟨bytes.toArray⟩] := by rw [← HSB.out]; exact hC5'
  have HUP : Hid (∀ k, k ≤ (linesOf bytes).length → (upto (fun j => (⟨(linesOf bytes)[j]?.getD [], hg11 j⟩ : { x : List UInt8 // x.length ≤ 1100000 })) k).map (fun x => x.1) = (linesOf bytes).take k) := by
    intro k hk
    unfold upto
    rw [List.map_map]
    apply List.ext_getElem
    · simp; omega
    · intro i h1 h2
      simp at h1 h2
      have h3 : i < (linesOf bytes).length := by omega
      simp [List.getElem?_eq_getElem h3]
  obtain ⟨i0, z0, hi, hz0, hz1, hz2, hz3⟩ := sliceOf_deeds.info
  refine wpIn_rangeFunc_ownQ (α := { x : List UInt8 // x.length ≤ 1100000 }) (w0 := V0) rfl (by omega) (gf := 112) (lb := #[.pointer (some ⟨B5, 0, none⟩)]) rfl trivial (enters_of Tryz.func112 (by kernel_rfl) rfl)
    (lines_stops (fun x : { x : List UInt8 // x.length ≤ 1100000 } => #[.string ⟨x.1.toArray⟩]) (fun j => ⟨(linesOf bytes)[j]?.getD [], hg11 j⟩) _ B5 V0.heap.size [B2, B3, B4] bytes V0
      (by omega) ⟨by omega, by simp; omega⟩
      (fun j x hj => by
        have hy2 : (linesOf bytes)[j]?.getD [] = x := by rw [hj]; rfl
        show #[Value.string ⟨((linesOf bytes)[j]?.getD []).toArray⟩] = _
        rw [hy2]) hS1)
    (lineStep_keeps (by omega)) keepW_t (keepW_b (Nat.le_refl _)) (Below.refl _ _) (fun _ => rfl)
    (fun pre W => (∃ v q, Cells W B4 [v] ∧ OwnDeeds W V0.heap.size v q ∧ readDs (pre.map (fun x => x.1)) = some q) ∧ Only [B4, B5] V0 W)
    (fun c pre W => (c = .ret ∧ (∃ x ∈ pre, readE x.1 = none) ∧ Cells W B2 [.slice none 0 0] ∧ Cells W B3 [errV 2]) ∧ Only [B2, B3, B4, B5] V0 W)
    (OwnFrom.and (Own.from (fun s A B row hs hg hr => by obtain ⟨v, q, h1, h2, h3⟩ := hs; exact ⟨v, q, h1.abides hg hr, deeds_abides h2 hg hr, h3⟩) _) (ownFrom_only (Nat.le_refl _)))
    (fun c => OwnFrom.and (Own.from (fun s A B row hs hg hr => by obtain ⟨h1, h2, h3, h4⟩ := hs; exact ⟨h1, h2, h3.abides hg hr, h4.abides hg hr⟩) _) (ownFrom_only (Nat.le_refl _)))
    (fun s A B hs hst => by
      obtain ⟨⟨v, q, h1, h2, h3⟩, h4⟩ := hs
      refine ⟨⟨v, q, h1.only hst (by simp; omega), Row.only h2 hst (fun x hx hx2 => by have := (Row.far h2 x hx).1; simp at hx2; omega), h3⟩, h4.trans hst (fun y hy _ => by simp at hy; simp [hy])⟩)
    (fun c s A B hs hst => by
      obtain ⟨⟨h1, h2, h3, h4⟩, h5⟩ := hs
      exact ⟨⟨h1, h2, h3.only hst (by simp; omega), h4.only hst (by simp; omega)⟩, h5.trans hst (fun y hy _ => by simp at hy; simp [hy])⟩)
    ⟨⟨_, [], hC4', OwnDeeds.nil _ _, rfl⟩, Only.refl _ _⟩
    (fun x => { tmps := #[.string s, undef, .pointer (some ⟨B2, 0, none⟩), .pointer (some ⟨B3, 0, none⟩), .pointer (some ⟨B4, 0, none⟩), .string ⟨x.1.toArray⟩, undef, undef, undef, undef, undef, .string s, .func (.func 112) #[] #[.pointer (some ⟨B5, 0, none⟩)], .string ⟨x.1.toArray⟩, undef, undef, undef, undef, undef, undef, undef, undef, undef, undef, undef, undef, undef, undef, undef, undef, undef, undef, undef, undef, undef, undef, undef, undef, undef, undef, undef], defers := [] }) ?assign ?body ?done ?stop
  case assign =>
    intro lp x W K hK
    gi_wp2
    exact hK
  case body =>
    rintro lp pre x W ⟨⟨v, q, hC, hD, hrd⟩, hoL⟩ hlen
    have hlen' : pre.length < (linesOf bytes).length := hlen
    have hll : (linesOf bytes).length ≤ bytes.length := by
      have h1 := flat_lines bytes
      have h2 : ∀ (l : List (List UInt8)), (∀ x ∈ l, x ≠ []) → l.length ≤ l.flatten.length := by
        intro l
        induction l with
        | nil => intro _; simp
        | cons a l ih =>
          intro h
          have h3 := ih (fun x hx => h x (by simp [hx]))
          have h4 : 0 < a.length := List.length_pos_iff.2 (h a (by simp))
          rw [List.flatten_cons, List.length_append, List.length_cons]
          omega
      have h3 := h2 (linesOf bytes) (lines_ne bytes)
      rw [h1] at h3
      exact h3
    have hqn : q.length ≤ 1100000 := by
      have h1 := (text_readDs hrd).2.2
      rw [List.length_map] at h1
      omega
    have HOL := Lib.hid hoL
    have hsL := hoL.size
    have hWW : Only [] w W := HOV.out.trans hoL (fun y hy hlt => by simp at hy; omega)
    have HWW := Lib.hid hWW
    have HRD := Lib.hid hrd
    have HC := Lib.hid hC
    have HD := Lib.hid hD
    have HC2W := Lib.hid (HC2.out.only hoL (by simp; omega))
    have HC3W := Lib.hid (HC3.out.only hoL (by simp; omega))
    obtain ⟨x, hx11⟩ := x
    have hcs : ∀ W, Calls Tryz.prog 69 #[.string ⟨x.toArray⟩, .string ⟨#[10]⟩] W fun e w' => e = .returned (.tuple #[.string ⟨(Lib.trimSuffix x [10]).toArray⟩, .bool (Lib.hasSuffix x [10])]) ∧ w' = W := fun W =>
      Tryz.strings_CutSuffix ⟨x.toArray⟩ ⟨#[10]⟩ W (by show x.toArray.size ≤ _; rw [List.size_toArray]; omega)
    obtain ⟨he1, he2⟩ := end_line x
    obtain ⟨has, hhas⟩ : ∃ has, Lib.hasSuffix x [10] = has := ⟨_, rfl⟩
    obtain ⟨tl, htl⟩ : ∃ tl, Lib.trimSuffix x [10] = tl := ⟨_, rfl⟩
    have htll : tl.length ≤ 1100000 := by
      rw [← htl, he2]
      split
      · rw [List.length_dropLast]; omega
      · exact hx11
    have HRE : Hid (readE x = if has = true then readD tl else none) := by
      show _ = _
      unfold readE
      rw [← hhas, ← htl, he1, he2]
      by_cases h : x.getLast? = some 10
      · simp [h]
      · simp [h]
    simp only [hhas, htl] at hcs
    have hrdc := trace_read ⟨tl.toArray⟩ (by show tl.toArray.size ≤ _; rw [List.size_toArray]; exact htll) W (HSTD.out W hWW) (HWD.out W hWW)
    obtain ⟨tb, htb⟩ : ∃ tb : ByteArray, (⟨tl.toArray⟩ : ByteArray) = tb := ⟨_, rfl⟩
    have htd : tb.data.toList = tl := by rw [← htb]
    obtain ⟨xb, hxb⟩ : ∃ xb : ByteArray, (⟨x.toArray⟩ : ByteArray) = xb := ⟨_, rfl⟩
    dsimp only at hcs ⊢
    simp only [htb, hxb] at hcs hrdc
    simp only [hxb]
    have HPRE : Hid ((pre ++ [(⟨x, hx11⟩ : { x : List UInt8 // x.length ≤ 1100000 })]).map (fun x => x.1) = pre.map (fun x => x.1) ++ [x]) := by show _ = _; simp
    clear he1 he2 hhas htl htb htd hxb hC hD hrd hoL hWW htll
    gi_wp2_with fail
    refine ⟨trivial, ?_⟩
    refine (CallsIn.inRound lp (callsIn_wide.2 (hcs _))).mono ?_
    rintro e w3 ⟨rfl, rfl⟩
    gi_wp2_with fail
    refine ⟨trivial, ?_⟩
    refine (CallsIn.inRound lp (callsIn_wide.2 hrdc)).mono ?_
    rintro e w4 ⟨d, b, rfl, ho4, hb⟩
    have HB := Lib.hid hb
    have HO4 := Lib.hid ho4
    have HC4 := Lib.hid (HC.out.only ho4 (by simp))
    have HD4 := Lib.hid (Row.only HD.out ho4 (by simp) : OwnDeeds w4 V0.heap.size v q)
    have HC24 := Lib.hid (HC2W.out.only ho4 (by simp))
    have HC34 := Lib.hid (HC3W.out.only ho4 (by simp))
    clear hcs hrdc hb ho4
    have c4 := HC4.out.cell 0 _ rfl
    have f4 := HC4.out.free 0 _ rfl
    have c2 := HC24.out.cell 0 _ rfl
    have f2 := HC24.out.free 0 _ rfl
    have c3 := HC34.out.cell 0 _ rfl
    have f3 := HC34.out.free 0 _ rfl
    have l2 := HC24.out.lt
    have l3 := HC34.out.lt
    have l4 := HC4.out.lt
    have hs34 := HO4.out.size
    by_cases hok : has = true ∧ b = true
    · obtain ⟨rfl, rfl⟩ := hok
      have hone : readE x = some d := by
        rw [HRE.out, if_pos rfl]
        rcases HB.out with ⟨h, _⟩ | ⟨_, h⟩
        · cases h
        · exact h
      have HONE := Lib.hid hone
      obtain ⟨n, hn⟩ : ∃ n, q.length = n := ⟨_, rfl⟩
      have HN := Lib.hid hn
      have hD4 : w4.ownsRow V0.heap.size 53 4 v q.length (flatE q) := HD4.out
      rw [hn] at hD4 hqn
      obtain ⟨va, vc, rfl, hvc, hvm, _⟩ := Row.form hD4
      have hfar : Hid (∀ y ∈ own (.slice va n vc), V0.heap.size ≤ y ∧ y < w4.heap.size) := fun y hy => Row.far hD4 y hy
      have HKEEP : Hid (∀ y ∈ own (.slice va n vc), ∃ o : Obj, w3.heap[y]? = some o ∧ o.isCells = true) := fun y hy => by
        have hI' : w3.ownsRow V0.heap.size 53 4 (.slice va n vc) q.length (flatE q) := HD.out
        rcases hI'.2 with ⟨h0, _⟩ | ⟨g, cap, cur, h0, _, hgg, _⟩
        · rw [h0] at hy; simp [own, Value.ownBlock] at hy
        · rw [h0] at hy
          obtain rfl : y = g := by simpa [own, Value.ownBlock] using hy
          exact ⟨_, hgg, rfl⟩
      have h3w := hsL
      obtain ⟨dw, dh, dt, dx⟩ := d
      have hal : Only [] w4 ((w4.alloc (.cells #[.int .i64 dw, .int .i64 dh, .int .i64 dt, .int .i64 dx] 53)).alloc (.cells #[.int .i64 dw, .int .i64 dh, .int .i64 dt, .int .i64 dx] 53)) := ((Only.refl [] w4).alloc _).alloc _
      have HI1 : Hid (((w4.alloc (.cells #[.int .i64 dw, .int .i64 dh, .int .i64 dt, .int .i64 dx] 53)).alloc (.cells #[.int .i64 dw, .int .i64 dh, .int .i64 dt, .int .i64 dx] 53)).ownsRow V0.heap.size 53 4 (.slice va n vc) n (flatE q)) := Row.only hD4 hal (by simp)
      have HC1 := Lib.hid (HC4.out.only hal (by simp))
      have HAL := Lib.hid hal
      have HNEW : Hid (∀ (j : Nat) (u : Value), [.int .i64 dw, .int .i64 dh, .int .i64 dt, .int .i64 dx][j]? = some u → ((w4.alloc (.cells #[.int .i64 dw, .int .i64 dh, .int .i64 dt, .int .i64 dx] 53)).alloc (.cells #[.int .i64 dw, .int .i64 dh, .int .i64 dt, .int .i64 dx] 53)).cell? ((⟨w4.heap.size + 1, 0, none⟩ : Addr).add j) = some u) := by
        have h := cell_rown (w4.alloc (.cells #[.int .i64 dw, .int .i64 dh, .int .i64 dt, .int .i64 dx] 53)) #[.int .i64 dw, .int .i64 dh, .int .i64 dt, .int .i64 dx] 53
        rw [World.size_alloc] at h
        exact h
      clear hone c2 f2 c3 f3 hD4 hn hal
      gi_wp2_with (gi_at_builtin; go_loud (refine wpListIn_append_own_at _ rfl (.tmp 31) (.tmp 33) 47 rfl V0.heap.size 53 i0 z0 4 32 sliceOf_deeds.under hi hz0 hz1 hz2 hz3 (by decide) (.slice va n vc) n (flatE q) rfl HI1.out ⟨w4.heap.size + 1, 0, none⟩ 1 1 [.int .i64 dw, .int .i64 dh, .int .i64 dt, .int .i64 dx] rfl rfl HNEW.out (by simp [Value.oneCell']) (by unfold maxLen; omega) (by omega) (by simp; omega) ?_; intro v3 w5 hI3 hg3 _ hb3; have hO3 : Only (own (.slice va n vc)) ((w4.alloc (.cells #[.int .i64 dw, .int .i64 dh, .int .i64 dt, .int .i64 dx] 53)).alloc (.cells #[.int .i64 dw, .int .i64 dh, .int .i64 dt, .int .i64 dx] 53)) w5 := (Only.refl _ _).grown hg3 (fun k hk _ => by simp [own, hk]); have hC3 := HC1.out.only hO3 (fun h => by have := (hfar.out _ h).1; omega); have cB3 := hC3.cell 0 _ rfl; have fB3 := hC3.free 0 _ rfl; obtain ⟨ga, gc, rfl, _, _, _⟩ := Row.form hI3))
      have hOF4 : Only (B4 :: own (.slice va n vc)) w4 (w5.setCell ⟨B4, 0, none⟩ (.slice ga (n + 1) gc)) :=
        ((HAL.out.mono (by simp)).trans (hO3.mono (fun a h _ => List.mem_cons_of_mem _ h)) (fun a h _ => h)).setCell (by simp) _
      have hOF : Only (B4 :: own (.slice va n vc)) w3 (w5.setCell ⟨B4, 0, none⟩ (.slice ga (n + 1) gc)) := (HO4.out.mono (by simp)).trans hOF4 (fun y hy _ => hy)
      have hJ1 : Cells (w5.setCell ⟨B4, 0, none⟩ (.slice ga (n + 1) gc)) B4 [.slice ga (n + 1) gc] := hC3.set 0 _
      have hJ2 : OwnDeeds (w5.setCell ⟨B4, 0, none⟩ (.slice ga (n + 1) gc)) V0.heap.size (.slice ga (n + 1) gc) (q ++ [⟨dw, dh, dt, dx⟩]) := by
        have h1 : OwnDeeds w5 V0.heap.size (.slice ga (n + 1) gc) (q ++ [⟨dw, dh, dt, dx⟩]) := by
          unfold OwnDeeds
          rw [← flatE_push, List.length_append, HN.out]
          exact hI3
        exact Row.only h1 ((Only.refl [B4] w5).setCell (by simp) _) (fun y hy h => by have := (Row.far hI3 y hy).1; simp at h; omega)
      refine ⟨hOF.keepsFrom (fun y hy => ?_), hOF.keepW (by omega) (fun y hy hlt => ?_), ⟨_, _, hJ1, hJ2, by rw [HPRE.out]; exact readDs_snoc HRD.out HONE.out⟩, HOL.out.trans hOF (fun y hy hlt => ?_)⟩
      · rcases List.mem_cons.1 hy with rfl | hy
        · left; omega
        · right; exact HKEEP.out y hy
      · rcases List.mem_cons.1 hy with rfl | hy
        · simp
        · have := (hfar.out y hy).1; omega
      · rcases List.mem_cons.1 hy with rfl | hy
        · simp
        · have := (hfar.out y hy).1; omega
    · have hnone : Hid (readE x = none) := by
        show _ = _
        rw [HRE.out]
        by_cases h1 : has = true
        · rw [if_pos h1]
          rcases HB.out with ⟨_, h⟩ | ⟨h, _⟩
          · exact h
          · exact absurd ⟨h1, h⟩ hok
        · rw [if_neg h1]
      have hor : has = false ∨ (has = true ∧ b = false) := by
        cases has <;> cases b <;> simp_all
      clear hok c4 f4
      rcases hor with rfl | ⟨rfl, rfl⟩
      all_goals
        gi_wp2
        have hO2 : Only [B2, B3] w4 (((w4.setCell ⟨B2, 0, none⟩ (.slice none 0 0)).setCell ⟨B3, 0, none⟩ (.iface 98 (.int .i64 2))).alloc (.cells #[.int .i64 d.what, .int .i64 d.hand, .int .i64 d.task, .int .i64 d.other] 53)) :=
          (((Only.refl [B2, B3] w4).setCell (p := ⟨B2, 0, none⟩) (fun _ => by simp) _).setCell (p := ⟨B3, 0, none⟩) (fun _ => by simp) _).alloc _
        have hOF := (HO4.out.mono (T := [B2, B3]) (by simp)).trans hO2 (fun y hy _ => hy)
        have hs4 := HO4.out.size
        have k2 : Cells (((w4.setCell ⟨B2, 0, none⟩ (.slice none 0 0)).setCell ⟨B3, 0, none⟩ (.iface 98 (.int .i64 2))).alloc (.cells #[.int .i64 d.what, .int .i64 d.hand, .int .i64 d.task, .int .i64 d.other] 53)) B2 [.slice none 0 0] :=
          ((HC24.out.set 0 (.slice none 0 0)).only ((Only.refl [B3] _).setCell (p := ⟨B3, 0, none⟩) (fun _ => by simp) _) (by simp; omega)).only ((Only.refl [] _).alloc _) (by simp)
        have k3 : Cells (((w4.setCell ⟨B2, 0, none⟩ (.slice none 0 0)).setCell ⟨B3, 0, none⟩ (.iface 98 (.int .i64 2))).alloc (.cells #[.int .i64 d.what, .int .i64 d.hand, .int .i64 d.task, .int .i64 d.other] 53)) B3 [errV 2] := by
          rw [errV_ne (by decide)]
          exact ((HC34.out.only ((Only.refl [B2] w4).setCell (p := ⟨B2, 0, none⟩) (fun _ => by simp) (.slice none 0 0)) (by simp; omega)).set 0 (.iface 98 (.int .i64 2))).only ((Only.refl [] _).alloc _) (by simp)
        refine ⟨hOF.keepsFrom (fun y hy => .inl (by simp at hy; omega)), ⟨rfl, ⟨⟨x, hx11⟩, by simp, hnone.out⟩, k2, k3⟩, (HOL.out.mono (fun y hy _ => by simp at hy ⊢; rcases hy with h | h <;> simp [h])).trans hOF (fun y hy _ => by simp at hy ⊢; rcases hy with h | h <;> simp [h])⟩
  case done =>
    rintro D ys W hD rfl ⟨⟨v, q, hC, hDd, hrd⟩, hoL⟩ hK
    rw [HUP.out _ (Nat.le_refl _), List.take_of_length_le (Nat.le_refl _)] at hrd
    have HRD : Hid (readDT bytes = some q) := hrd
    have ho : Only [] w W := hoV.trans hoL (fun y hy hlt => by simp at hy; omega)
    have hlen : q.length ≤ 9223372036854775807 := by
      have h1 := (hDd : W.ownsRow V0.heap.size 53 4 v q.length (flatE q)).1
      obtain ⟨_, _, _, h2, h3, _⟩ := Row.form hDd
      unfold maxLen at h3; omega
    have hwh := trace_whole v q W hDd.at hlen
    obtain ⟨va, vc, rfl, _⟩ := Row.form hDd
    obtain ⟨n, hn⟩ : ∃ n, q.length = n := ⟨_, rfl⟩
    have HN := Lib.hid hn
    have HDD := Lib.hid hDd
    rw [hn] at hwh hC HDD
    have HC4 := Lib.hid hC
    have HC2W := Lib.hid (HC2.out.only hoL (by simp; omega))
    have HC3W := Lib.hid (HC3.out.only hoL (by simp; omega))
    have HO := Lib.hid ho
    have HK := Lib.hid hK
    have hDW := (Array.getElem?_eq_some_iff.1 hK).1
    have hDV : V0.heap.size ≤ D := hD
    have c4 := hC.cell 0 _ rfl
    clear hC hDd hrd hoL hK ho hn hlen hD
    obtain ⟨f, hf⟩ : ∃ f, ddsFault q = f := ⟨_, rfl⟩
    have HF := Lib.hid hf
    rw [hf] at hwh
    clear hf
    have fin : ∀ (Wf : World) (x : Value) (y : Int), Only [B2, B3] W Wf → Cells Wf B2 [x] → Cells Wf B3 [errV y] → Only [] w (Wf.putObj D (.deferred none)) ∧ Cells (Wf.putObj D (.deferred none)) B2 [x] ∧ Cells (Wf.putObj D (.deferred none)) B3 [errV y] ∧ Wf.heap[D]? = some (.deferred (some [])) := by
      intro Wf x y h1 h2 h3
      have hKf : Wf.heap[D]? = some (.deferred (some [])) := (h1.block D hDW (by simp; omega)).trans HK.out
      have hDonly : Only [D] Wf (Wf.putObj D (.deferred none)) := (Only.refl [D] Wf).grown (grownBy_putObj' Wf D _) (fun k hk hlt => by cases hk; simp)
      exact ⟨(HO.out.trans h1 (fun y hy hlt => by simp at hy; omega)).trans hDonly (fun y hy hlt => by simp at hy; omega), h2.only hDonly (by simp; omega), h3.only hDonly (by simp; omega), hKf⟩
    have FIN := Lib.hid fin
    clear fin
    by_cases h0 : f = 0
    · subst h0
      rw [errV_zero] at hwh
      gi_wp2_with fail
      refine ⟨trivial, ?_⟩
      refine (callsIn_wide.2 hwh).mono ?_
      rintro e w5 ⟨rfl, ho5⟩
      have k2 := HC2W.out.only ho5 (by simp)
      have k3 := HC3W.out.only ho5 (by simp)
      have k4 := HC4.out.only ho5 (by simp)
      have K2 := Lib.hid k2
      have K3 := Lib.hid k3
      have HO5 := Lib.hid ho5
      have c2 := k2.cell 0 _ rfl
      have f2 := k2.free 0 _ rfl
      have c3 := k3.cell 0 _ rfl
      have f3 := k3.free 0 _ rfl
      have c4' := k4.cell 0 _ rfl
      clear hwh ho5 k2 k3 k4
      gi_wp2
      have hoW : Only [B2, B3] w5 ((w5.setCell ⟨B2, 0, none⟩ (.slice va n vc)).setCell ⟨B3, 0, none⟩ .nilIface) :=
        ((Only.refl [B2, B3] w5).setCell (p := ⟨B2, 0, none⟩) (fun _ => by simp) _).setCell (p := ⟨B3, 0, none⟩) (fun _ => by simp) _
      have k2 : Cells ((w5.setCell ⟨B2, 0, none⟩ (.slice va n vc)).setCell ⟨B3, 0, none⟩ .nilIface) B2 [.slice va n vc] :=
        (K2.out.set 0 (.slice va n vc)).only ((Only.refl [B3] _).setCell (p := ⟨B3, 0, none⟩) (fun _ => by simp) _) (by simp; omega)
      have k3 : Cells ((w5.setCell ⟨B2, 0, none⟩ (.slice va n vc)).setCell ⟨B3, 0, none⟩ .nilIface) B3 [errV 0] := by
        rw [errV_zero]
        have h := K3.out.only ((Only.refl [B2] w5).setCell (p := ⟨B2, 0, none⟩) (fun _ => by simp) (.slice va n vc)) (by simp; omega)
        exact h.set 0 .nilIface
      have hoWW := (HO5.out.mono (T := [B2, B3]) (by simp)).trans hoW (fun y hy _ => hy)
      obtain ⟨r1, r2, r3, r4⟩ := FIN.out _ _ _ hoWW k2 k3
      refine ⟨by simp, .inl ⟨_, _, rfl, run_takeDeferred r4, ?_⟩⟩
      refine ⟨_, results_cells2 rfl _ _ _ _ _ _ rfl rfl (load_deeds _ _ r2) (load_errV _ _ r3), r1, .inr ⟨_, q, by rw [errV_zero], by rw [HBY.out]; exact HRD.out, HF.out, ?_⟩⟩
      have h1 : OwnDeeds W V0.heap.size (.slice va n vc) q := HDD.out
      have h2 := Row.only h1 hoWW (fun y hy h => by have := (Row.far h1 y hy).1; simp at h; omega)
      have hDonly : Only [D] ((w5.setCell ⟨B2, 0, none⟩ (.slice va n vc)).setCell ⟨B3, 0, none⟩ .nilIface) (((w5.setCell ⟨B2, 0, none⟩ (.slice va n vc)).setCell ⟨B3, 0, none⟩ .nilIface).putObj D (.deferred none)) := (Only.refl [D] _).grown (grownBy_putObj' _ D _) (fun k hk hlt => by cases hk; simp)
      exact Row.mono (Row.only h2 hDonly (fun y hy h => by
        obtain rfl : y = D := by simpa using h
        have hI' : W.ownsRow V0.heap.size 53 4 (.slice va n vc) q.length (flatE q) := HDD.out
        rcases hI'.2 with ⟨h0, _⟩ | ⟨g, cap, cur, h0, _, hgg, _⟩
        · rw [h0] at hy; simp [own, Value.ownBlock] at hy
        · rw [h0] at hy
          obtain rfl : y = g := by simpa [own, Value.ownBlock] using hy
          rw [HK.out] at hgg
          cases hgg)) (by omega)
    · have HZ : Hid (f ≠ 0) := h0
      have hne := Lib.hid (errV_ne h0)
      rw [errV_ne h0] at hwh
      have HPF : Hid (dparseF bytes = f) := by show _ = _; rw [dparseF_some HRD.out, HF.out]
      clear h0
      gi_wp2_with fail
      refine ⟨trivial, ?_⟩
      refine (callsIn_wide.2 hwh).mono ?_
      rintro e w5 ⟨rfl, ho5⟩
      have k2 := HC2W.out.only ho5 (by simp)
      have k3 := HC3W.out.only ho5 (by simp)
      have K2 := Lib.hid k2
      have K3 := Lib.hid k3
      have HO5 := Lib.hid ho5
      have c2 := k2.cell 0 _ rfl
      have f2 := k2.free 0 _ rfl
      have c3 := k3.cell 0 _ rfl
      have f3 := k3.free 0 _ rfl
      clear hwh ho5 k2 k3 c4
      gi_wp2
      have hoW : Only [B2, B3] w5 ((w5.setCell ⟨B2, 0, none⟩ (.slice none 0 0)).setCell ⟨B3, 0, none⟩ (.iface 98 (.int .i64 f))) :=
        ((Only.refl [B2, B3] w5).setCell (p := ⟨B2, 0, none⟩) (fun _ => by simp) _).setCell (p := ⟨B3, 0, none⟩) (fun _ => by simp) _
      have k2 : Cells ((w5.setCell ⟨B2, 0, none⟩ (.slice none 0 0)).setCell ⟨B3, 0, none⟩ (.iface 98 (.int .i64 f))) B2 [.slice none 0 0] :=
        (K2.out.set 0 (.slice none 0 0)).only ((Only.refl [B3] _).setCell (p := ⟨B3, 0, none⟩) (fun _ => by simp) _) (by simp; omega)
      have k3 : Cells ((w5.setCell ⟨B2, 0, none⟩ (.slice none 0 0)).setCell ⟨B3, 0, none⟩ (.iface 98 (.int .i64 f))) B3 [errV f] := by
        rw [hne.out]
        have h := K3.out.only ((Only.refl [B2] w5).setCell (p := ⟨B2, 0, none⟩) (fun _ => by simp) (.slice none 0 0)) (by simp; omega)
        exact h.set 0 _
      have hoWW := (HO5.out.mono (T := [B2, B3]) (by simp)).trans hoW (fun y hy _ => hy)
      obtain ⟨r1, r2, r3, r4⟩ := FIN.out _ _ _ hoWW k2 k3
      refine ⟨by simp, .inl ⟨_, _, rfl, run_takeDeferred r4, ?_⟩⟩
      refine ⟨_, results_cells2 rfl _ _ _ _ _ _ rfl rfl (load_deeds _ _ r2) (load_errV _ _ r3), r1, .inl ⟨?_, ?_⟩⟩
      · rw [HBY.out, HPF.out]; exact HZ.out
      · rw [HBY.out, HPF.out]
  case stop =>
    rintro D c pre W hD hSp ⟨⟨rfl, hbad, hC2', hC3'⟩, ho⟩ hK
    have HBAD := Lib.hid hbad
    have HSP := Lib.hid hSp
    clear hbad hSp
    gi_wp2
    have hDW := (Array.getElem?_eq_some_iff.1 hK).1
    have hDV : V0.heap.size ≤ D := hD
    have hDonly : Only [D] W (W.putObj D (.deferred none)) := (Only.refl [D] W).grown (grownBy_putObj' W D _) (fun k hk hlt => by cases hk; simp)
    have hoW : Only [] w (W.putObj D (.deferred none)) := (HOV.out.trans ho (fun y hy hlt => by simp at hy; omega)).trans hDonly (fun y hy hlt => by simp at hy; omega)
    have hno : dparseF bytes = 2 := by
      obtain ⟨k, hk, hpre⟩ := HSP.out
      obtain ⟨x, hx, hxn⟩ := HBAD.out
      refine dparseF_none (readDs_none (x := x.1) ?_ hxn)
      have h1 : x.1 ∈ pre.map (fun x => x.1) := List.mem_map_of_mem hx
      rw [hpre, HUP.out k hk] at h1
      exact List.mem_of_mem_take h1
    refine ⟨by simp, .inl ⟨_, _, rfl, run_takeDeferred hK, ?_⟩⟩
    refine ⟨_, results_cells2 rfl _ _ _ _ _ _ rfl rfl (load_deeds _ _ (hC2'.only hDonly (by simp; omega))) (load_errV _ _ (hC3'.only hDonly (by simp; omega))), hoW, .inl ⟨?_, ?_⟩⟩
    · rw [HBY.out, hno]; decide
    · rw [HBY.out, hno]

end Go.Proofs.YtoofalchkedciaaGreatDoor
