/-
  Contract of weave's number.
-/
import Derived.Test.YtocpmncedlenbaaDoorP18WeaveTells
import Derived.Test.YtocpmncedlenbaaDoorP20WeaveTells
import Derived.Test.YtocpmncedlenbaaDoorP22WeaveTells
import Derived.Laws.ResultCell
import Derived.Shelf.Abstract
namespace Go.Proofs.YtocpmncedlenbaaDoor
open Go.RowKit Go.Deep

theorem span_run (p : UInt8 → Bool) : ∀ (l : List UInt8) (m : Nat), m ≤ l.length → (l.take m).all p = true → (m = l.length ∨ ∃ c, l[m]? = some c ∧ p c = false) → l.takeWhile p = l.take m ∧ l.dropWhile p = l.drop m := by
  intro l
  induction l with
  | nil => intro m hm _ _; obtain rfl : m = 0 := by simpa using hm
           simp
  | cons a l ih =>
    intro m hm ha he
    cases m with
    | zero =>
      rcases he with he | ⟨c, hc, hp⟩
      · simp at he
      · simp only [List.getElem?_cons_zero, Option.some.injEq] at hc
        subst hc
        simp [hp]
    | succ m =>
      rw [List.take_succ_cons, List.all_cons, Bool.and_eq_true] at ha
      have h2 := ih m (by simpa using hm) ha.2 (by
        rcases he with he | ⟨c, hc, hp⟩
        · exact .inl (by simpa using he)
        · exact .inr ⟨c, by simpa using hc, hp⟩)
      rw [List.takeWhile_cons, List.dropWhile_cons, if_pos ha.1, if_pos ha.1, h2.1, h2.2]
      simp

theorem isDig_iff (c : UInt8) : isDig c = (decide ((48 : Int) ≤ (c.toNat : Int)) && decide ((c.toNat : Int) ≤ 57)) := by
  unfold isDig
  rw [Bool.eq_iff_iff]
  simp only [Bool.and_eq_true, decide_eq_true_eq]
  omega

theorem rest_get (s : ByteArray) (k i : Nat) (h : k + i < s.size) : (rest s k)[i]? = some s[k + i] := by
  unfold rest
  rw [List.getElem?_drop]
  rw [Array.getElem?_toList]
  exact Array.getElem?_eq_getElem h

theorem digs_step (s : ByteArray) (k j : Nat) (hkj : k ≤ j) (hlt : j < s.size) (hall : ((rest s k).take (j - k)).all isDig = true) (hd : isDig s[j] = true) : ((rest s k).take (j + 1 - k)).all isDig = true := by
  have e : j + 1 - k = (j - k) + 1 := by omega
  have e2 : k + (j - k) = j := by omega
  have hg := rest_get s k (j - k) (by omega)
  simp only [e2] at hg
  rw [e, List.take_add_one, hg, List.all_append, hall]
  simp [hd]

theorem all_takeWhile {α : Type} (p : α → Bool) (l : List α) : (l.takeWhile p).all p = true := by
  induction l with
  | nil => rfl
  | cons a l ih =>
    by_cases h : p a = true
    · rw [List.takeWhile_cons, if_pos h, List.all_cons, h, ih]; rfl
    · rw [List.takeWhile_cons, if_neg h]; rfl

theorem extract_rest (s : ByteArray) (k j : Nat) : (s.extract k j).data.toList = (rest s k).take (j - k) := by
  unfold rest
  rw [ByteArray.data_extract, Array.toList_extract]

/-- Where the digits end. -/
theorem digs_end (s : ByteArray) (k j : Nat) (hkj : k ≤ j) (hj : j ≤ s.size) (hall : ((rest s k).take (j - k)).all isDig = true) (he : j = s.size ∨ ∃ h : j < s.size, isDig s[j] = false) :
    (rest s k).takeWhile isDig = (rest s k).take (j - k) ∧ (rest s k).dropWhile isDig = rest s j := by
  have e2 : k + (j - k) = j := by omega
  have hr : (rest s k).drop (j - k) = rest s j := by unfold rest; rw [List.drop_drop, e2]
  have := span_run isDig (rest s k) (j - k) (by rw [rest_len]; omega) hall (by
    rcases he with he | ⟨h, hd⟩
    · left; rw [rest_len]; omega
    · right
      have hg := rest_get s k (j - k) (by omega)
      simp only [e2] at hg
      exact ⟨_, hg, hd⟩)
  rw [hr] at this
  exact this

/-- The reader in block R, over the text s, at k; its plan is p. -/
structure RdAt (w : World) (base : Nat) (F : Nat → Prop) (R : Nat) (s : ByteArray) (k : Nat) (pv : Value) (p : PlanL) : Prop where
  cells : Cells w R [.string s, .int .i64 k, pv]
  plan : OwnPlanN w base F pv p
  n1 : R ∉ own pv
  n2 : ¬ F R
  b1 : ∀ x, F x → base ≤ x ∧ x < w.heap.size
  b2 : base ≤ R
  hk : k ≤ s.size
  len : p.length ≤ k

/-- One of a cloth's lists. -/
structure Arm (w : World) (base R : Nat) (pv v : Value) (l : List Nat) : Prop where
  reads : Reads w v (natL l)
  apart : ∀ x ∈ own v, base ≤ x ∧ x ≠ R ∧ x ∉ own pv ∧ x < w.heap.size

/-- How a reading ends: a panic, or a cloth. -/
def RdPost (base : Nat) (F : Nat → Prop) (R : Nat) (s : ByteArray) (pv : Value) (p : PlanL) (w : World) : Option (Wv × List UInt8) → Ending → World → Prop
  | none, e, w' => e = .panicked [{ v := .iface 68 (.agg #[.int .i64 2]), recovered := false }] ∧ Only (R :: own pv) w w'
  | some (a, r), e, w' => ∃ fv lv pv' F', e = .returned (.agg #[fv, lv, .int .i64 (workW a), .int .i64 (spanW a)]) ∧ RdAt w' base F' R s (s.size - r.length) pv' (build a p) ∧
      Arm w' base R pv' fv (firstW a p.length) ∧ Arm w' base R pv' lv (lastW a p.length) ∧ Only (R :: own pv) w w' ∧ Kin w (own pv) (own pv') ∧ (∀ x, F' x → F x ∨ w.heap.size ≤ x) ∧ (∀ x ∈ own fv, w.heap.size ≤ x) ∧ ∀ x ∈ own lv, w.heap.size ≤ x

theorem results_cell1' {P : Program} {fn : Func} {p : Tmp} {ty : TypeId} (h : fn.results = #[.cell p ty]) (tmps : Array Value) (w : World) (a : Addr) (v : Value)
    (hp : tmps.getD p undef = .pointer (some a)) (hl : (loadVar ty a).run P w = .ok v w) : (results fn tmps).run P w = .ok v w := by
  have hp' : tmps[p]?.getD undef = .pointer (some a) := by simpa using hp
  simp [results, h, hp', asAddr, hl]

theorem load_cloth (W : World) (B : Nat) {ao bo : Option Addr} {n m c d : Nat} (x y : Int) (h : Cells W B [.slice ao n c, .slice bo m d, .int .i64 x, .int .i64 y]) : (loadVar 73 ⟨B, 0, none⟩).run Tryd.prog W = .ok (.agg #[.slice ao n c, .slice bo m d, .int .i64 x, .int .i64 y]) W := by
  have c0 := h.cell 0 _ rfl
  have c1 := h.cell 1 _ rfl
  have c2 := h.cell 2 _ rfl
  have c3 := h.cell 3 _ rfl
  go_simp

theorem Cells.set4 {W : World} {B : Nat} {a b c d x y u v : Value} (h : Cells W B [a, b, c, d]) : Cells ((((W.setCell ⟨B, 0, none⟩ x).setCell ⟨B, 1, none⟩ y).setCell ⟨B, 2, none⟩ u).setCell ⟨B, 3, none⟩ v) B [x, y, u, v] := by
  have h1 := (((h.set 0 x).set 1 y).set 2 u).set 3 v
  exact h1

theorem numV_big {d : List UInt8} (h : 21 ≤ digV d) : numV d = 21 := by unfold numV; rw [if_neg (by omega)]
theorem numV_small {d : List UInt8} (h : digV d ≤ 20) : numV d = (digV d : Int) := by unfold numV; rw [if_pos h]

theorem number_end {base : Nat} {F : Nat → Prop} {R : Nat} {s : ByteArray} {k j m cap cap3 : Nat} {a a3 : Option Addr} {p : PlanL} {w w3 : World} (x : Int) (h : RdAt w base F R s k (.slice a p.length cap) p) (hm : p.length = m)
    (hC3 : Cells w3 R [.string s, .int .i64 j, .slice a m cap]) (hjk : k < j) (hj : j ≤ s.size) (ho3 : Only (R :: own (.slice a p.length cap)) w w3) (hP3 : OwnPlanN w3 base F (.slice a3 (m + 1) cap3) (p ++ [(x, [])]))
    (hK3 : ∀ y ∈ own (.slice a3 (m + 1) cap3), y ∈ own (.slice a p.length cap) ∨ w.heap.size + 1 ≤ y) (hsz3 : w.heap.size + 1 ≤ w3.heap.size) (hZ : Cells w3 w.heap.size [.slice none 0 0, .slice none 0 0, .int .i64 0, .int .i64 0]) (W8 : World)
    (hW8 : W8 = ((((((w3.setCell ⟨R, 2, none⟩ (.slice a3 (m + 1) cap3)).alloc (.cells #[.int .i64 (m : Int)] 3)).setCell ⟨w.heap.size, 0, none⟩ (.slice (some ⟨w3.heap.size, 0, none⟩) 1 1)).setCell ⟨w.heap.size, 1, none⟩ (.slice (some ⟨w3.heap.size, 0, none⟩) 1 1)).setCell ⟨w.heap.size, 2, none⟩ (.int .i64 x)).setCell ⟨w.heap.size, 3, none⟩ (.int .i64 x))) :
    Cells W8 w.heap.size [.slice (some ⟨w3.heap.size, 0, none⟩) 1 1, .slice (some ⟨w3.heap.size, 0, none⟩) 1 1, .int .i64 x, .int .i64 x] ∧
    RdPost base F R s (.slice a p.length cap) p w (some (.num x, rest s j)) (.returned (.agg #[.slice (some ⟨w3.heap.size, 0, none⟩) 1 1, .slice (some ⟨w3.heap.size, 0, none⟩) 1 1, .int .i64 x, .int .i64 x])) W8 := by
  have hRl := h.cells.lt
  have hZl := hZ.lt
  have hfar := h.plan.far
  have hfar3 := hP3.far
  obtain ⟨W6, hW6⟩ : ∃ W6, w3.setCell ⟨R, 2, none⟩ (.slice a3 (m + 1) cap3) = W6 := ⟨_, rfl⟩
  have ho6 : Only [R] w3 W6 := by rw [← hW6]; exact (Only.refl [R] w3).setCell (by simp) _
  have hs6 : W6.heap.size = w3.heap.size := by rw [← hW6]; simp [World.setCell]
  have hC6 : Cells W6 R [.string s, .int .i64 j, .slice a3 (m + 1) cap3] := by rw [← hW6]; exact hC3.set 2 _
  have hZ6 := hZ.only ho6 (by simp; omega)
  rw [hW6] at hW8
  obtain ⟨W7, hW7⟩ : ∃ W7, W6.alloc (.cells #[.int .i64 (m : Int)] 3) = W7 := ⟨_, rfl⟩
  have ho7 : Only [] W6 W7 := by rw [← hW7]; exact (Only.refl [] W6).alloc _
  have hs7 : W7.heap.size = w3.heap.size + 1 := by rw [← hW7]; simp [hs6]
  have hB7 : Cells W7 w3.heap.size [.int .i64 (m : Int)] := by
    have := Cells.new W6 #[.int .i64 (m : Int)] 3
    rw [hW7, hs6] at this; exact this
  rw [hW7] at hW8
  have hZ8 := (hZ6.only ho7 (by simp)).set4 (x := .slice (some ⟨w3.heap.size, 0, none⟩) 1 1) (y := .slice (some ⟨w3.heap.size, 0, none⟩) 1 1) (u := .int .i64 x) (v := .int .i64 x)
  rw [← hW8] at hZ8
  have ho8 : Only [w.heap.size] W7 W8 := by
    rw [hW8]
    exact ((((Only.refl [w.heap.size] W7).setCell (by simp) _).setCell (by simp) _).setCell (by simp) _).setCell (by simp) _
  have hs8 : w3.heap.size + 1 ≤ W8.heap.size := by have := ho8.size; omega
  have hall : Only [R] w3 W7 := ho6.trans ho7 (by simp)
  have hv3 : ∀ y ∈ own (Value.slice a3 (m + 1) cap3), y ≠ R ∧ y ≠ w.heap.size := fun y hy => by
    rcases hK3 y hy with h1 | h1
    · exact ⟨fun e => h.n1 (by rw [← e]; exact h1), by have := hfar y h1; omega⟩
    · omega
  have hF : ∀ y, F y → y ≠ R ∧ y ≠ w.heap.size := fun y hy => ⟨fun e => h.n2 (by rw [← e]; exact hy), by have := h.b1 y hy; omega⟩
  refine ⟨hZ8, ?_⟩
  have hP8 : OwnPlanN W8 base F (.slice a3 (m + 1) cap3) (p ++ [(x, [])]) := (hP3.only hall (fun y hy hx => by simp at hx; exact (hv3 y hy).1 hx) (fun y hy hx => by simp at hx; exact (hF y hy).1 hx)).only ho8 (fun y hy hx => by simp at hx; exact (hv3 y hy).2 hx) (fun y hy hx => by simp at hx; exact (hF y hy).2 hx)
  have hC8 := (hC6.only ho7 (by simp)).only ho8 (by simp; omega)
  have hB8 := hB7.only ho8 (by simp; omega)
  have hsz3' := ho3.size
  have ho38 : Only [R, w.heap.size] w3 W8 := (hall.mono (by simp)).trans ho8 (by simp)
  have hpos : s.size - (rest s j).length = j := by rw [rest_len]; omega
  have hbase : base ≤ w3.heap.size := by have := h.b2; omega
  have hArm : Arm W8 base R (.slice a3 (m + 1) cap3) (.slice (some ⟨w3.heap.size, 0, none⟩) 1 1) [p.length] := by
    refine ⟨.inr ⟨by simp [natL], w3.heap.size, 0, 1, rfl, by simp [natL], by unfold maxLen; omega, fun i hi => ?_⟩, fun y hy => ?_⟩
    · obtain rfl : i = 0 := by simpa [natL] using hi
      rw [hm]
      exact hB8.cell 0 _ rfl
    · obtain rfl : y = w3.heap.size := by simpa [own, Value.ownBlock] using hy
      refine ⟨hbase, by omega, fun hx => ?_, by omega⟩
      have := (hfar3 _ hx).2
      omega
  refine ⟨_, _, .slice a3 (m + 1) cap3, F, rfl, ⟨?_, hP8, fun hx => (hv3 R hx).1 rfl, h.n2, fun y hy => ?_, h.b2, ?_, ?_⟩, hArm, hArm, ?_, ?_, fun y hy => .inl hy, ?_, ?_⟩
  · rw [hpos]; exact hC8
  · have := h.b1 y hy; omega
  · rw [hpos]; exact hj
  · show (p ++ [(x, [])]).length ≤ _
    rw [hpos]
    have := h.len
    simp; omega
  · exact ho3.trans ho38 (fun y hy hlt => by
      simp only [List.mem_cons, List.not_mem_nil, or_false] at hy
      rcases hy with rfl | rfl
      · simp
      · omega)
  · intro y hy
    rcases hK3 y hy with h1 | h1
    · exact .inl h1
    · right; omega
  all_goals
    intro y hy
    obtain rfl : y = w3.heap.size := by simpa [own, Value.ownBlock] using hy
    omega

set_option maxRecDepth 100000 in
set_option maxHeartbeats 4000000 in
theorem weave_number (base : Nat) (F : Nat → Prop) (R : Nat) (s : ByteArray) (k : Nat) (pv : Value) (p : PlanL) (w : World) (h : RdAt w base F R s k pv p) (hs : s.size ≤ 200) (hv : ErrsAt w base) :
    Calls Tryd.prog 86 #[.pointer (some ⟨R, 0, none⟩)] w (RdPost base F R s pv p w (pNum (rest s k))) := by
  have hk := h.hk
  have hlen := h.len
  have hR := h.b2
  have HR := Lib.hid h
  obtain ⟨hC, hP, _, _, _, _, _, _⟩ := h
  obtain ⟨W0, hW0⟩ : ∃ W0, w.alloc (.cells #[.slice none 0 0, .slice none 0 0, .int .i64 0, .int .i64 0] 73) = W0 := ⟨_, rfl⟩
  have ho0 : Only [] w W0 := by rw [← hW0]; exact (Only.refl [] w).alloc _
  have hsz0 : W0.heap.size = w.heap.size + 1 := by rw [← hW0]; simp
  have hC0 : Cells W0 R [.string s, .int .i64 k, pv] := hC.only ho0 (by simp)
  have hZ0 : Cells W0 w.heap.size [.slice none 0 0, .slice none 0 0, .int .i64 0, .int .i64 0] := by
    have := Cells.new w #[.slice none 0 0, .slice none 0 0, .int .i64 0, .int .i64 0] 73
    rw [hW0] at this; exact this
  have hRl := hC.lt
  have HP := Lib.hid (hP.same ho0)
  have HZ := Lib.hid hZ0
  have HV := Lib.hid (hv.low ho0 (by simp))
  have HO := Lib.hid ho0
  have HW := Lib.hid hW0
  have c1 : (w.alloc (.cells #[.slice none 0 0, .slice none 0 0, .int .i64 0, .int .i64 0] 73)).cell? ⟨R, 1, none⟩ = some (.int .i64 k) := by rw [hW0]; exact hC0.cell 1 _ rfl
  clear hC hP hv ho0 hW0
  go_enter Tryd.func86, Tryd.ntmps86
  go_wp2_with fail
  rw [HW.out]
  clear c1
  go_loopw [11, 12] (fun _ _ wr => ∃ j : Nat, k ≤ j ∧ j ≤ s.size ∧ ((rest s k).take (j - k)).all isDig = true ∧ Cells wr R [.string s, .int .i64 j, pv] ∧ Only [R] W0 wr) (fun _ _ wr => s.size - (match wr.cell? ⟨R, 1, none⟩ with | some (.int _ j) => j.toNat | _ => 0))
  case atStart => exact ⟨k, Nat.le_refl _, hk, by simp, hC0, Only.refl _ _⟩
  case round =>
    obtain ⟨wo, rfl⟩ : ∃ wo : World, wo = wr := ⟨_, rfl⟩
    obtain ⟨j, hkj, hj, hall, hC, ho⟩ := hrel
    have c0 := hC.cell 0 _ rfl
    have c1 := hC.cell 1 _ rfl
    have f1 := hC.free 1 _ rfl
    by_cases hgo : j < s.size ∧ isDig (s[j]?.getD 0) = true
    · obtain ⟨hlt, hdg⟩ := hgo
      have hsj : s[j]?.getD 0 = s[j] := by simp [hlt]
      rw [hsj] at hdg
      have hall2 := digs_step s k j hkj hlt hall hdg
      rw [isDig_iff, Bool.and_eq_true] at hdg
      obtain ⟨d1, d2⟩ := hdg
      have hd : decide (j < s.size) = true := by simpa using hlt
      have HA := Lib.hid hall2
      have HCo := Lib.hid hC
      have HOo := Lib.hid ho
      clear hall hall2 hsj hC ho hC0 hZ0
      go_wp2_with fail
      go_quiet (fail)
      go_wp2_with fail
      have hCn := (HCo.out.drewN nq).set 1 (.int .i64 ((j : Int) + 1))
      have hOn : Only [R] W0 ((wo.drewN nq).setCell ⟨R, 1, none⟩ (.int .i64 ((j : Int) + 1))) := (HOo.out.drewN nq).setCell (by simp) _
      have ej : ((j + 1 : Nat) : Int) = (j : Int) + 1 := by omega
      have cn := hCn.cell 1 _ rfl
      have HN := Lib.hid (And.intro hCn (And.intro hOn (And.intro ej cn)))
      clear hCn hOn ej cn
      go_roundw
      case rel => exact ⟨j + 1, by omega, by omega, HA.out, by rw [HN.out.2.2.1]; exact HN.out.1, HN.out.2.1⟩
      case measure =>
        have h1 := HN.out.2.2.2
        rw [h1, c1]
        simp only []
        omega
    · have hend : j = s.size ∨ ∃ h : j < s.size, isDig s[j] = false := by
        by_cases hlt : j < s.size
        · right
          refine ⟨hlt, ?_⟩
          have hsj : s[j]?.getD 0 = s[j] := by simp [hlt]
          rw [hsj] at hgo
          by_cases e : isDig s[j] = true
          · exact absurd ⟨hlt, e⟩ hgo
          · simpa using e
        · left; omega
      obtain ⟨ht, hdw⟩ := digs_end s k j hkj hj hall hend
      have HT := Lib.hid (And.intro ht hdw)
      have HCo := Lib.hid hC
      have HOo := Lib.hid ho
      have hcase : Hid (j = s.size) ∨ (∃ h : j < s.size, (s[j].toNat : Int) < 48) ∨ (∃ h : j < s.size, (48 : Int) ≤ s[j].toNat ∧ (57 : Int) < s[j].toNat) := by
        rcases hend with h | ⟨h, hd⟩
        · exact .inl h
        · right
          rw [isDig_iff] at hd
          by_cases h48 : (s[j].toNat : Int) < 48
          · exact .inl ⟨h, h48⟩
          · right
            refine ⟨h, by omega, ?_⟩
            by_cases h57 : (s[j].toNat : Int) ≤ 57
            · have e1 : (48 : Int) ≤ (s[j].toNat : Int) := by omega
              simp only [e1, h57, decide_true, Bool.and_self] at hd
              cases hd
            · omega
      clear hend hgo ht hdw hC ho hall hC0 hZ0
      go_upto_region 2 with (fail)
      go_cut [44] (fun v wx => ∃ n, v = .bool false ∧ wx = wo.drewN n)
      case first =>
        as_aux_lemma =>
          rcases hcase with hx | ⟨hlt, hx⟩ | ⟨hlt, hx, hy⟩
          · have hd : decide (j < s.size) = false := by have := hx.out; simp; omega
            go_quiet (fail)
            go_wp2
            go_meet
            exact ⟨nq, rfl, rfl⟩
          · have hd : decide (j < s.size) = true := by simpa using hlt
            have hd2 : decide ((48 : Int) ≤ (s[j].toNat : Int)) = false := by simp; omega
            go_quiet (fail)
            go_wp2
            go_meet
            exact ⟨nq, rfl, rfl⟩
          · have hd : decide (j < s.size) = true := by simpa using hlt
            have hd2 : decide ((48 : Int) ≤ (s[j].toNat : Int)) = true := by simp; omega
            have hd3 : decide ((s[j].toNat : Int) ≤ (57 : Int)) = false := by simp; omega
            go_quiet (fail)
            go_wp2
            go_meet
            exact ⟨nq, rfl, rfl⟩
      case rest =>
      obtain ⟨nq, rfl, hwn⟩ := hcut
      clear hcase
      have c0 := (HCo.out.drewN nq).cell 0 _ rfl
      have c1 := (HCo.out.drewN nq).cell 1 _ rfl
      have c2 := (HCo.out.drewN nq).cell 2 _ rfl
      rw [← hwn] at c0 c1 c2
      have hoc : Only [R] W0 wc := by rw [hwn]; exact HOo.out.drewN nq
      have hCc : Cells wc R [.string s, .int .i64 j, pv] := by rw [hwn]; exact HCo.out.drewN nq
      have HCc := Lib.hid hCc
      have HOc := Lib.hid hoc
      have HK := Lib.hid (fun (W : World) (h : Only [] wc W) => atoi_at_digits (s.extract k j) ((rest s k).take (j - k)) (by rw [extract_rest s k j]) (by rw [← HT.out.1]; exact all_takeWhile _ _) (by rw [ByteArray.size_extract]; omega) W base ((HV.out.low hoc (by simpa using hR)).low h (by simp)))
      clear hwn hCc hoc
      go_wp2_with fail
      go_region_law (first | (go_simp; go_at_call 77; refine (HK.out _ (by first | exact Only.refl _ _ | exact (Only.refl _ _).drew | exact (Only.refl _ _).drewN _)).mono ?_; rintro e w5 ⟨n, v, rfl, hcase, hbd, ho5⟩))
      all_goals
        have HCS := Lib.hid (And.intro hcase (And.intro hbd (((Only.refl [] wc).drew).trans ho5 (by simp))))
        clear hcase hbd ho5 HK c0 c1 c2
        have hC5 := HCc.out.only HCS.out.2.2 (by simp)
        have ho5 : Only [R] W0 w5 := HOc.out.trans HCS.out.2.2 (by simp)
        have c0 := hC5.cell 0 _ rfl
        have c1 := hC5.cell 1 _ rfl
        have c2 := hC5.cell 2 _ rfl
        have f2 := hC5.free 2 _ rfl
        have hP5 := HP.out.only ho5 (fun x hx hx2 => HR.out.n1 (by simp at hx2; subst hx2; exact hx)) (by intro x hx hx2; simp at hx2; subst hx2; exact HR.out.n2 hx)
        have HC5 := Lib.hid hC5
        have HO5 := Lib.hid ho5
        have HP5 := Lib.hid hP5
        clear hC5 ho5 hP5
        by_cases hbad : j = k ∨ (rest s k).head? = some 48
        · have hnum : pNum (rest s k) = none := by
            unfold pNum
            rw [if_pos]
            rcases hbad with e | e
            · rw [HT.out.1, e]; simp
            · simp [e]
          have hfin : Hid (Only (R :: own pv) w w5) := ((HO.out.mono (by simp)).trans HO5.out (by simp))
          by_cases hjk : j = k
          · subst hjk
            clear hbad
            go_wp2_with fail
            exact ⟨rfl, rfl, hfin.out⟩
          · have h48 : (rest s k).head? = some 48 := by
              rcases hbad with e | e
              · exact absurd e hjk
              · exact e
            have hkl : k < s.size := by omega
            have hsk : (s[k].toNat : Int) = 48 := by
              rw [rest_cons s k hkl] at h48
              simp only [List.head?_cons, Option.some.injEq] at h48
              rw [h48]; rfl
            have hne : ((k : Int) == (j : Int)) = false := by simp; omega
            have heq : ((s[k].toNat : Int) == 48) = true := by rw [hsk]; rfl
            clear hbad h48
            go_wp2_with fail
            exact ⟨rfl, rfl, hfin.out⟩
        · have hjk : k < j := by
            rcases Nat.lt_or_ge k j with h | h
            · exact h
            · exact absurd (.inl (by omega)) hbad
          have hkl : k < s.size := by omega
          have h48 : s[k] ≠ 48 := fun e => hbad (.inr (by rw [rest_cons s k hkl, e]; rfl))
          have hne : ((k : Int) == (j : Int)) = false := by simp; omega
          have hne48 : ((s[k].toNat : Int) == 48) = false := by
            have : s[k].toNat ≠ 48 := fun e => h48 (UInt8.toNat_inj.1 (by rw [e]; rfl))
            simp; omega
          obtain ⟨d, hd⟩ : ∃ d, (rest s k).take (j - k) = d := ⟨_, rfl⟩
          have hd0 : d ≠ [] := by
            intro e
            have : ((rest s k).take (j - k)).length = 0 := by rw [hd, e]; rfl
            rw [List.length_take, rest_len] at this
            omega
          have hnum : Hid (pNum (rest s k) = some (.num (numV d), rest s j)) := by
            show _ = _
            unfold pNum
            rw [HT.out.1, HT.out.2, hd, if_neg]
            simp only [Bool.or_eq_true, not_or]
            refine ⟨by simpa using hd0, ?_⟩
            rw [rest_cons s k hkl]
            simpa using h48
          have hcs := HCS.out.1
          rw [hd] at hcs
          obtain ⟨a, cap, rfl, hcl, hcm⟩ := HP5.out.form
          obtain ⟨m, hm⟩ : ∃ m, p.length = m := ⟨_, rfl⟩
          have HM := Lib.hid hm
          have hfar : Hid (∀ x ∈ own (Value.slice a p.length cap), base ≤ x ∧ x < w.heap.size) := HR.out.plan.far
          have hoPl := HP5.out
          obtain ⟨N, k1, k2, k3, k4, k5⟩ := hoPl
          have K1 := Lib.hid k1
          have KP := Lib.hid (fun (n' : Int) v' w' => OwnPlanN.push (W := w5) (w' := w') (base := base) (F := F) (v' := v') n' k2 k3 k4 k5)
          have hRn : Hid (R ∉ own (Value.slice a p.length cap)) := HR.out.n1
          have hbw : base ≤ w5.heap.size := by have := HO5.out.size; omega
          rw [hm] at c2 hlen
          have hrange : ∀ n' : Int, Hid (RowAt (w5.alloc (.cells #[.int .i64 n', .slice none 0 0] 39)) (.slice (some ⟨w5.heap.size, 0, none⟩) 1 1) 1 2 [.int .i64 n', .slice none 0 0]) := fun n' =>
            RowAt.one (cs := #[.int .i64 n', .slice none 0 0]) (heap_alloc_new w5 (.cells #[.int .i64 n', .slice none 0 0] 39)) rfl (by intro y hy; simp at hy; rcases hy with rfl | rfl <;> rfl)
          have HRG := Lib.hid hrange
          rw [hm] at K1 hRn
          have HZ5 : Hid (Cells w5 w.heap.size [.slice none 0 0, .slice none 0 0, .int .i64 0, .int .i64 0]) := HZ.out.only HO5.out (by simp; omega)
          have hZn : Hid (w.heap.size ∉ own (Value.slice a m cap)) := by
            show _ ∉ _
            rw [own_any a m p.length cap cap]
            intro hx
            have := (hfar.out _ hx).2
            omega
          clear k1 k2 k3 k4 k5 hbad h48 hrange hd hm
          have hsp : (v = .nilIface ∧ n = numV d ∧ n ≤ 20) ∨ (v = .nilIface ∧ 20 < n ∧ numV d = 21) ∨ (∃ N, v = .iface 178 (.pointer (some ⟨N, 0, none⟩)) ∧ numV d = 21) := by
            rcases hcs with ⟨rfl, hn, _⟩ | ⟨N, rfl, hbig⟩
            · by_cases h20 : digV d ≤ 20
              · exact .inl ⟨rfl, by rw [numV_small h20]; exact hn, by omega⟩
              · exact .inr (.inl ⟨rfl, by omega, numV_big (by omega)⟩)
            · rcases hbig with h | h
              · exact absurd h hd0
              · exact .inr (.inr ⟨N, rfl, numV_big h⟩)
          clear hcs
          rcases hsp with ⟨rfl, hn, h20⟩ | ⟨rfl, h20, hn⟩ | ⟨N, rfl, hn⟩
          · have HN := Lib.hid hn
            clear hn
            go_wp2_with (at_builtin; refine wpList_append_rows sliceOf_plan rfl (.tmp 95) (.tmp 98) rfl w5 base _ _ _ _ 1 _ K1.out (HRG.out (n)).out (by omega) hbw rfl rfl ((Only.refl [] w5).alloc _) ?_; intro v3 w3 hI3 hO3 hK3; have hC3 := HC5.out.only hO3 hRn.out; have e2 := hC3.cell 2 _ rfl; have u2 := hC3.free 2 _ rfl; obtain ⟨a3, cap3, rfl, q1, q2⟩ := Row.form hI3; have hZ3 := HZ5.out.only hO3 (hZn.out); have HI3 := Lib.hid (And.intro hI3 (And.intro hO3 (And.intro hK3 (And.intro hC3 hZ3)))); have hZ7 := Lib.hid ((hZ3.only ((Only.refl [R] w3).setCell (p := ⟨R, 2, none⟩) (by simp) (.slice a3 (m + 1) cap3)) (by simp; omega)).only ((Only.refl [] _).alloc (.cells #[.int .i64 (m : Int)] 3)) (by simp)); have z0 := (hZ7.out.cell 0 _ rfl); have z1 := (hZ7.out.cell 1 _ rfl); have z2 := (hZ7.out.cell 2 _ rfl); have z3 := (hZ7.out.cell 3 _ rfl); have y0 := (hZ7.out.free 0 _ rfl); have y1 := (hZ7.out.free 1 _ rfl); have y2 := (hZ7.out.free 2 _ rfl); have y3 := (hZ7.out.free 3 _ rfl))
            obtain ⟨hI3, hO3, hK3, hC3, hZ3⟩ := HI3.out
            have hP3 := KP.out (n) (.slice a3 (m + 1) cap3) w3 (by rw [HM.out]; exact hI3) (by rw [own_any a _ m _ cap]; exact hO3) (by rw [own_any a _ m _ cap]; exact hK3)
            have hs05 := HO5.out.size
            have hs53 := hO3.size
            have hend := number_end (n) HR.out HM.out (by rw [← HM.out]; exact hC3) hjk hj (((HO.out.mono (by simp)).trans (HO5.out.mono (by simp)) (fun y hy _ => hy)).trans hO3 (fun y hy _ => by rw [own_any a m p.length cap cap] at hy; simp [hy])) hP3
              (fun y hy => by
                rcases hK3 y hy with h1 | h1
                · left; rw [own_any a p.length m cap cap]; exact h1
                · right; omega) (by omega) hZ3 _ rfl
            rw [hnum.out, ← HN.out]
            exact bodyPost_ret (results_cell1' rfl _ _ _ _ rfl (load_cloth _ _ _ _ hend.1)) rfl hend.2
          · have HN := Lib.hid hn
            clear hn
            go_wp2_with (at_builtin; refine wpList_append_rows sliceOf_plan rfl (.tmp 95) (.tmp 98) rfl w5 base _ _ _ _ 1 _ K1.out (HRG.out (21)).out (by omega) hbw rfl rfl ((Only.refl [] w5).alloc _) ?_; intro v3 w3 hI3 hO3 hK3; have hC3 := HC5.out.only hO3 hRn.out; have e2 := hC3.cell 2 _ rfl; have u2 := hC3.free 2 _ rfl; obtain ⟨a3, cap3, rfl, q1, q2⟩ := Row.form hI3; have hZ3 := HZ5.out.only hO3 (hZn.out); have HI3 := Lib.hid (And.intro hI3 (And.intro hO3 (And.intro hK3 (And.intro hC3 hZ3)))); have hZ7 := Lib.hid ((hZ3.only ((Only.refl [R] w3).setCell (p := ⟨R, 2, none⟩) (by simp) (.slice a3 (m + 1) cap3)) (by simp; omega)).only ((Only.refl [] _).alloc (.cells #[.int .i64 (m : Int)] 3)) (by simp)); have z0 := (hZ7.out.cell 0 _ rfl); have z1 := (hZ7.out.cell 1 _ rfl); have z2 := (hZ7.out.cell 2 _ rfl); have z3 := (hZ7.out.cell 3 _ rfl); have y0 := (hZ7.out.free 0 _ rfl); have y1 := (hZ7.out.free 1 _ rfl); have y2 := (hZ7.out.free 2 _ rfl); have y3 := (hZ7.out.free 3 _ rfl))
            obtain ⟨hI3, hO3, hK3, hC3, hZ3⟩ := HI3.out
            have hP3 := KP.out (21) (.slice a3 (m + 1) cap3) w3 (by rw [HM.out]; exact hI3) (by rw [own_any a _ m _ cap]; exact hO3) (by rw [own_any a _ m _ cap]; exact hK3)
            have hs05 := HO5.out.size
            have hs53 := hO3.size
            have hend := number_end (21) HR.out HM.out (by rw [← HM.out]; exact hC3) hjk hj (((HO.out.mono (by simp)).trans (HO5.out.mono (by simp)) (fun y hy _ => hy)).trans hO3 (fun y hy _ => by rw [own_any a m p.length cap cap] at hy; simp [hy])) hP3
              (fun y hy => by
                rcases hK3 y hy with h1 | h1
                · left; rw [own_any a p.length m cap cap]; exact h1
                · right; omega) (by omega) hZ3 _ rfl
            rw [hnum.out, HN.out]
            exact bodyPost_ret (results_cell1' rfl _ _ _ _ rfl (load_cloth _ _ _ _ hend.1)) rfl hend.2
          · have HN := Lib.hid hn
            clear hn
            go_wp2_with (at_builtin; refine wpList_append_rows sliceOf_plan rfl (.tmp 95) (.tmp 98) rfl w5 base _ _ _ _ 1 _ K1.out (HRG.out (21)).out (by omega) hbw rfl rfl ((Only.refl [] w5).alloc _) ?_; intro v3 w3 hI3 hO3 hK3; have hC3 := HC5.out.only hO3 hRn.out; have e2 := hC3.cell 2 _ rfl; have u2 := hC3.free 2 _ rfl; obtain ⟨a3, cap3, rfl, q1, q2⟩ := Row.form hI3; have hZ3 := HZ5.out.only hO3 (hZn.out); have HI3 := Lib.hid (And.intro hI3 (And.intro hO3 (And.intro hK3 (And.intro hC3 hZ3)))); have hZ7 := Lib.hid ((hZ3.only ((Only.refl [R] w3).setCell (p := ⟨R, 2, none⟩) (by simp) (.slice a3 (m + 1) cap3)) (by simp; omega)).only ((Only.refl [] _).alloc (.cells #[.int .i64 (m : Int)] 3)) (by simp)); have z0 := (hZ7.out.cell 0 _ rfl); have z1 := (hZ7.out.cell 1 _ rfl); have z2 := (hZ7.out.cell 2 _ rfl); have z3 := (hZ7.out.cell 3 _ rfl); have y0 := (hZ7.out.free 0 _ rfl); have y1 := (hZ7.out.free 1 _ rfl); have y2 := (hZ7.out.free 2 _ rfl); have y3 := (hZ7.out.free 3 _ rfl))
            obtain ⟨hI3, hO3, hK3, hC3, hZ3⟩ := HI3.out
            have hP3 := KP.out (21) (.slice a3 (m + 1) cap3) w3 (by rw [HM.out]; exact hI3) (by rw [own_any a _ m _ cap]; exact hO3) (by rw [own_any a _ m _ cap]; exact hK3)
            have hs05 := HO5.out.size
            have hs53 := hO3.size
            have hend := number_end (21) HR.out HM.out (by rw [← HM.out]; exact hC3) hjk hj (((HO.out.mono (by simp)).trans (HO5.out.mono (by simp)) (fun y hy _ => hy)).trans hO3 (fun y hy _ => by rw [own_any a m p.length cap cap] at hy; simp [hy])) hP3
              (fun y hy => by
                rcases hK3 y hy with h1 | h1
                · left; rw [own_any a p.length m cap cap]; exact h1
                · right; omega) (by omega) hZ3 _ rfl
            rw [hnum.out, HN.out]
            exact bodyPost_ret (results_cell1' rfl _ _ _ _ rfl (load_cloth _ _ _ _ hend.1)) rfl hend.2

end Go.Proofs.YtocpmncedlenbaaDoor
