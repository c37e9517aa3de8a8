/-
  Contract of list.Urgent, of a right plan.
  The urgent order, in plain words: each task put behind all that are at least as urgent.
  list.Urgent in one form: the fault F and the order, of any plan.
  Contract of yardref1.Free.
  The reference's list schedule, in plain words: who is busy, what is taken and done, out of the stays alone.
-/
import Derived.Test.YtloojhnhialenaaGreatDoorP26ListTells
import Derived.Test.YtloojhnhialenaaGreatDoorP27ListTells
import Derived.Test.YtloojhnhialenaaGreatDoorP9ListTells
import Derived.Test.YtloojhnhialenaaGreatDoorP23ListTells
import Derived.Test.YtloojhnhialenaaGreatDoorP22ListTells
import Derived.Test.YtloojhnhialenaaGreatDoorP8ListTells
import Derived.Test.YtloojhnhialenaaGreatDoorP6ListTells
import Derived.Test.YtloojhnhialenaaGreatDoorP15ListTells
namespace Go.Proofs.YtloojhnhialenaaGreatDoor
open Go.RowKit Go.Deep

theorem numL_push (n : Nat) (f : Nat → Int) : numL n f ++ [f n] = numL (n + 1) f := by simp [numL, List.range_succ]

set_option maxRecDepth 100000 in
set_option maxHeartbeats 8000000 in
theorem list_Urgent (v : Value) (p : PlanL) (w : World) (h : InPlan w v p) (hok : PlanOk p) :
    Calls Tryz.prog 19 #[v] w fun e w' => ∃ v', e = .returned (.tuple #[v', .nilIface]) ∧ Only [] w w' ∧
      ((p.length = 0 ∧ v' = .slice none 0 0) ∨ (0 < p.length ∧ ∃ G c g, v' = .slice (some ⟨G, 0, none⟩) p.length c ∧ w.heap.size ≤ G ∧ Nums w' G p.length g ∧ SR (tt (tailF p)) g 0 p.length ∧ Re (fun i => (i : Int)) g 0 p.length ∧ p.length ≤ c ∧ c ≤ maxLen)) := by
  have hr := plan_Right v p w h
  have hz : planFault p = 0 := (planOk_iff p).1 hok
  rw [hz, errV_zero] at hr
  have hT := Lib.hid (fun w' (ho : Only [] w w') => depth_TailsOf v p w' (h.same ho) hok)
  have h30 := hok.len
  obtain ⟨a, cap, rfl, hc1, hc2, _⟩ := h.task
  obtain ⟨n, hn⟩ : ∃ n, p.length = n := ⟨_, rfl⟩
  rw [hn] at hr hT h30 hc1 ⊢
  obtain ⟨T, hTT⟩ : ∃ T, tailF p = T := ⟨_, rfl⟩
  rw [hTT] at hT ⊢
  clear h hok hz hn hTT hc2
  go_enter Tryz.func19, Tryz.ntmps19
  go_wp2_with fail
  refine hr.mono ?_
  rintro e w1 ⟨rfl, ho1⟩
  clear hr
  go_wp2_with fail
  refine (hT.out w1 ho1).mono ?_
  rintro e w2 ⟨v2, rfl, ⟨A, rfl, hA, hN⟩, ho2⟩
  have ho2w := ho1.trans ho2 (by simp)
  clear hT
  go_wp2_with fail
  have hC := Cells.new w2 #[.slice (some ⟨A, 0, none⟩) n n] 34
  have hal := (Only.refl [] w2).alloc (.cells #[.slice (some ⟨A, 0, none⟩) n n] 34)
  have hsz2 : w2.heap.size < (w2.alloc (.cells #[.slice (some ⟨A, 0, none⟩) n n] 34)).heap.size := by simp
  obtain ⟨W, hW⟩ : ∃ W, w2.alloc (.cells #[.slice (some ⟨A, 0, none⟩) n n] 34) = W := ⟨_, rfl⟩
  rw [hW] at hC hal hsz2 ⊢
  have hbox := hC.cell 0 _ rfl
  have hNW := hN.only hal (by simp)
  have hWw := ho2w.trans hal (by simp)
  have hAW : n = 0 ∨ A < W.heap.size := by
    by_cases h0 : n = 0
    · exact .inl h0
    · exact .inr (cell_lt (hNW 0 (by omega)).1)
  clear hC hal hW hN ho2 ho1 ho2w
  go_loopw [17, 6] (fun vi vo wr => ∃ i : Nat, i ≤ n ∧ vi = .int .i64 i ∧ Ints wr W.heap.size vo (numL i (fun k => (k : Int))) ∧ Only [] W wr ∧ Hid (i = 0 → vo = .slice none 0 0)) (fun vi _ _ => n - (intOf vi).toNat)
  case atStart => exact ⟨0, Nat.zero_le _, rfl, Ints.nil _ _, Only.refl _ _, Lib.hid (fun _ => rfl)⟩
  case round =>
    obtain ⟨wo, rfl⟩ : ∃ wo : World, wo = wr := ⟨_, rfl⟩
    obtain ⟨i, hi, rfl, hI, ho, hnil⟩ := hrel
    have hl := numL_len i (fun k => (k : Int))
    have hsz := ho.size
    by_cases hin : i < n
    · have HO := Lib.hid ho
      clear ho
      go_wp2_with (at_builtin; refine wpList_push rfl (.tmp 20) (.tmp 22) rfl wo W.heap.size _ _ _ (i : Int) i hI hl (by omega) hsz rfl rfl ((Only.refl [] wo).alloc _) (World.cell?_alloc_at _ _ _ _ rfl) ?_; intro g cap3 w3 hI3 hO3 hK3)
      have ho3 := Lib.hid (HO.out.pushed hI (Nat.le_refl _) hO3)
      have hI4 : Hid (Ints w3 W.heap.size (.slice (some ⟨g, 0, none⟩) (i + 1) cap3) (numL (i + 1) (fun k => (k : Int)))) := by
        show Ints _ _ _ _
        rw [← numL_push]; exact hI3
      clear hI3 hO3 hK3
      go_roundw
      case rel => exact ⟨i + 1, by omega, by go_num, hI4.out, ho3.out, Lib.hid (fun h => by omega)⟩
      case measure => (simp [intOf]; try omega)
    · obtain rfl : i = n := by omega
      have HW := Lib.hid (hWw.trans ho (by simp))
      by_cases h0 : i = 0
      · have hv := hnil.out h0
        subst hv
        subst h0
        clear hnil hI
        go_wp2_with fail
        refine (sortStable_none _ wo).mono ?_
        rintro e w3 ⟨rfl, rfl⟩
        go_wp2
        go_ret2
        exact ⟨rfl, HW.out⟩
      · have hfm := hI.form
        obtain ⟨g, c, rfl, hg1, hg2⟩ := hI.sized i hl (by omega)
        have hcc : Hid (i ≤ c ∧ c ≤ maxLen) := by
          rcases hfm with ⟨e, _⟩ | ⟨g', cap', e, _, _, q1, q2⟩
          · cases e
          · injection e with _ _ e3
            subst e3
            rw [hl] at q1
            exact ⟨q1, q2⟩
        clear hfm
        have hNg : Nums wo g i (fun k => (k : Int)) := fun k hk => ⟨by rw [hI.cell k (by rw [hl]; exact hk), numL_nth _ _ _ hk], hI.free k⟩
        have hS : SortAt wo g i w2.heap.size A T := ⟨(ho.cell (p := ⟨w2.heap.size, 0, none⟩) (cell_lt hbox) (by simp)).trans hbox, hNW.only ho (by simp), by omega, by omega⟩
        have hc := sort_stable g c i w2.heap.size A (fun k => (k : Int)) T wo hNg (fun k hk => ⟨by show (0 : Int) ≤ (k : Int); omega, by show (k : Int) < _; omega⟩) (fun x y h1 _ => by show (x : Int) < (y : Int); omega) hS h30
        unfold cvU at hc
        have hsz0 : w.heap.size ≤ g := by have := hWw.size; omega
        have hgW : W.heap.size ≤ g := hg1
        have HO := Lib.hid ho
        have HWW := Lib.hid hWw
        clear hNg hS hI hNW ho hWw
        go_wp2_with fail
        refine hc.mono ?_
        rintro e w3 ⟨rfl, g3, hN3, hs3, hr3, ho3⟩
        have S3 := Lib.hid hs3
        have R3 := Lib.hid hr3
        have ho4 := HWW.out.trans (HO.out.trans ho3 (fun x hx hl => by simp at hx; omega)) (by simp)
        have hpos : 0 < i := by omega
        clear hc hs3 hr3
        go_wp2
        go_ret2
        exact ⟨_, rfl, ho4, .inr ⟨hpos, g, c, g3, rfl, hsz0, hN3, S3.out, R3.out, hcc.out.1, hcc.out.2⟩⟩

set_option maxRecDepth 100000 in
theorem list_Urgent_no (v : Value) (p : PlanL) (w : World) (h : InPlan w v p) (h0 : planFault p ≠ 0) :
    Calls Tryz.prog 19 #[v] w fun e w' => e = .returned (.tuple #[.slice none 0 0, .iface 86 (.int .i64 (planFault p))]) ∧ Only [] w w' := by
  have hr := plan_Right v p w h
  rw [errV_ne h0] at hr
  obtain ⟨F, hF⟩ : ∃ F, planFault p = F := ⟨_, rfl⟩
  rw [hF] at hr ⊢
  clear h h0 hF
  go_enter Tryz.func19, Tryz.ntmps19
  go_wp2_with fail
  refine hr.mono ?_
  rintro e w1 ⟨rfl, ho⟩
  clear hr
  go_wp2
  go_ret2
  exact ⟨rfl, ho⟩

end Go.Proofs.YtloojhnhialenaaGreatDoor

namespace Go.Proofs.YtloojhnhialenaaGreatDoor
open Go.RowKit

/-- How many of the front are at least as urgent. -/
def leadU (T : Nat → Int) (l : List Int) (x : Nat) : Nat := (l.takeWhile fun k => decide (T x ≤ T k.toNat)).length
def insU (T : Nat → Int) (l : List Int) (x : Nat) : List Int := (l.take (leadU T l x) ++ [(x : Int)]) ++ l.drop (leadU T l x)
def urgL (T : Nat → Int) : Nat → List Int
  | 0 => []
  | n + 1 => insU T (urgL T n) n

theorem leadU_le (T : Nat → Int) (l : List Int) (x : Nat) : leadU T l x ≤ l.length := by
  unfold leadU
  induction l with
  | nil => simp
  | cons a l ih => simp only [List.takeWhile_cons]; split <;> simp <;> omega
theorem leadU_front (T : Nat → Int) (l : List Int) (x : Nat) : ∀ k ∈ l.take (leadU T l x), T x ≤ T k.toNat := by
  unfold leadU
  induction l with
  | nil => simp
  | cons a l ih =>
    simp only [List.takeWhile_cons]
    split
    · rename_i h
      intro k hk
      simp only [List.length_cons, List.take_succ_cons, List.mem_cons] at hk
      rcases hk with rfl | hk
      · simpa using h
      · exact ih k hk
    · simp
theorem leadU_stop (T : Nat → Int) (l : List Int) (x : Nat) (h : leadU T l x < l.length) : T (nth l (leadU T l x)).toNat < T x := by
  unfold leadU at *
  induction l with
  | nil => simp at h
  | cons a l ih =>
    simp only [List.takeWhile_cons] at h ⊢
    split at h
    · rename_i h1
      rw [if_pos h1]
      simp only [List.length_cons] at h ⊢
      have := ih (by omega)
      simpa [nth] using this
    · rename_i h1
      rw [if_neg h1]
      simpa [nth] using h1
/-- The walk's own count. -/
theorem leadU_is {T : Nat → Int} {l : List Int} {x k : Nat} (hk : k ≤ l.length) (h1 : ∀ j, j < k → T x ≤ T (nth l j).toNat) (h2 : k = l.length ∨ T (nth l k).toNat < T x) : leadU T l x = k := by
  have h3 := leadU_le T l x
  have h4 := leadU_front T l x
  have h5 := leadU_stop T l x
  rcases Nat.lt_trichotomy (leadU T l x) k with h | h | h
  · have := h5 (by omega)
    have := h1 _ h
    omega
  · exact h
  · rcases h2 with h2 | h2
    · omega
    · have hm : nth l k ∈ l.take (leadU T l x) := by
        have : (l.take (leadU T l x))[k]? = some (nth l k) := by
          rw [List.getElem?_take_of_lt h]; simp [nth, show k < l.length by omega]
        exact List.mem_of_getElem? this
      have := h4 _ hm
      omega

theorem urgL_mem (T : Nat → Int) (n : Nat) (x : Int) : x ∈ urgL T n ↔ ∃ j : Nat, j < n ∧ x = (j : Int) := by
  induction n with
  | zero => simp [urgL]
  | succ n ih =>
    have e : x ∈ urgL T (n + 1) ↔ x ∈ urgL T n ∨ x = (n : Int) := by
      simp only [urgL, insU, List.mem_append, List.mem_singleton]
      have : x ∈ urgL T n ↔ x ∈ (urgL T n).take (leadU T (urgL T n) n) ∨ x ∈ (urgL T n).drop (leadU T (urgL T n) n) := by
        rw [← List.mem_append, List.take_append_drop]
      rw [this]
      grind
    rw [e, ih]
    constructor
    · rintro (⟨j, h, rfl⟩ | rfl)
      · exact ⟨j, by omega, rfl⟩
      · exact ⟨n, by omega, rfl⟩
    · rintro ⟨j, h, rfl⟩
      by_cases hj : j < n
      · exact .inl ⟨j, hj, rfl⟩
      · exact .inr (by omega)
theorem urgL_len (T : Nat → Int) (n : Nat) : (urgL T n).length = n := by
  induction n with
  | zero => rfl
  | succ n ih =>
    have := leadU_le T (urgL T n) n
    simp only [urgL, insU, List.length_append, List.length_take, List.length_drop, List.length_singleton, ih] at this ⊢
    omega
theorem urgL_sorted (T : Nat → Int) (n : Nat) : (urgL T n).Pairwise (ltK (tt T)) := by
  induction n with
  | zero => exact List.Pairwise.nil
  | succ n ih =>
    have hm := urgL_mem T n
    have hf := leadU_front T (urgL T n) n
    have hs := leadU_stop T (urgL T n) n
    have hle := leadU_le T (urgL T n) n
    show (insU T (urgL T n) n).Pairwise _
    unfold insU
    generalize leadU T (urgL T n) n = k at *
    generalize urgL T n = l at *
    have ih' := ih
    rw [← List.take_append_drop k l, List.pairwise_append] at ih'
    obtain ⟨i1, i2, i3⟩ := ih'
    have hback : ∀ b ∈ l.drop k, T b.toNat < T n := by
      intro b hb
      have hk : k < l.length := by
        rcases Nat.lt_or_ge k l.length with h | h
        · exact h
        · rw [List.drop_eq_nil_of_le h] at hb; simp at hb
      have h0 := hs hk
      rw [List.drop_eq_getElem_cons hk] at hb i2
      have e0 : nth l k = l[k] := by simp [nth, hk]
      rw [e0] at h0
      rcases List.mem_cons.1 hb with rfl | hb
      · exact h0
      · have := (List.pairwise_cons.1 i2).1 b hb
        unfold ltK tt at this
        omega
    rw [List.pairwise_append, List.pairwise_append]
    refine ⟨⟨i1, List.pairwise_singleton _ _, ?_⟩, i2, ?_⟩
    · intro a ha b hb
      rw [List.mem_singleton.1 hb]
      have h1 := hf a ha
      obtain ⟨j, hj, rfl⟩ := (hm a).1 (List.mem_of_mem_take ha)
      unfold ltK tt
      simp only [Int.toNat_natCast] at h1 ⊢
      omega
    · intro a ha b hb
      rcases List.mem_append.1 ha with ha | ha
      · exact i3 a ha b hb
      · rw [List.mem_singleton.1 ha]
        have := hback b hb
        unfold ltK tt
        simp only [Int.toNat_natCast]
        omega

theorem eq_of_sorted {R : Int → Int → Prop} (irr : ∀ a, ¬ R a a) (asy : ∀ a b, R a b → ¬ R b a) : ∀ l m : List Int, l.Pairwise R → m.Pairwise R → (∀ x, x ∈ l ↔ x ∈ m) → l = m := by
  intro l
  induction l with
  | nil =>
    intro m _ _ h
    rcases m with _ | ⟨b, m⟩
    · rfl
    · have := (h b).2 (by simp); simp at this
  | cons a l ih =>
    intro m hl hm h
    rcases m with _ | ⟨b, m⟩
    · have := (h a).1 (by simp); simp at this
    · obtain ⟨h1, h2⟩ := List.pairwise_cons.1 hl
      obtain ⟨k1, k2⟩ := List.pairwise_cons.1 hm
      have e : a = b := by
        rcases List.mem_cons.1 ((h a).1 (by simp)) with e | ha
        · exact e
        · rcases List.mem_cons.1 ((h b).2 (by simp)) with e | hb
          · exact e.symm
          · exact absurd (k1 a ha) (asy _ _ (h1 b hb))
      subst e
      rw [ih m h2 k2 (fun x => ?_)]
      constructor
      · intro hx
        rcases List.mem_cons.1 ((h x).1 (by simp [hx])) with e | hx'
        · subst e; exact absurd (h1 x hx) (irr x)
        · exact hx'
      · intro hx
        rcases List.mem_cons.1 ((h x).2 (by simp [hx])) with e | hx'
        · subst e; exact absurd (k1 x hx) (irr x)
        · exact hx'

theorem pairwise_numL {T : Int → Int} {g : Nat → Int} {n : Nat} (h : SR T g 0 n) : (numL n g).Pairwise (ltK T) := by
  rw [List.pairwise_iff_getElem]
  intro i j hi hj hij
  rw [numL_len] at hi hj
  simpa [numL] using h i j (Nat.zero_le _) hij hj
theorem urgent_is {T g : Nat → Int} {n : Nat} (h : SR (tt T) g 0 n) (k : Re (fun i => (i : Int)) g 0 n) : numL n g = urgL T n := by
  refine eq_of_sorted (R := ltK (tt T)) (fun a h => by unfold ltK at h; omega) (fun a b h k => by unfold ltK at h k; omega) _ _ (pairwise_numL h) (urgL_sorted T n) fun x => ?_
  rw [urgL_mem]
  simp only [numL, List.mem_map, List.mem_range]
  constructor
  · rintro ⟨i, hi, rfl⟩
    obtain ⟨j, _, hj, e⟩ := k.2.1 i (Nat.zero_le _) hi
    exact ⟨j, hj, e⟩
  · rintro ⟨j, hj, rfl⟩
    obtain ⟨i, _, hi, e⟩ := k.2.2 j (Nat.zero_le _) hj
    exact ⟨i, hi, e.symm⟩

end Go.Proofs.YtloojhnhialenaaGreatDoor

namespace Go.Proofs.YtloojhnhialenaaGreatDoor
open Go.RowKit

/-- The most urgent order; none, if there is a fault. -/
def urgTo (p : PlanL) (F : Int) : List Int := if F = 0 then urgL (tailF p) p.length else []

theorem urgent_to (v : Value) (p : PlanL) (F : Int) (w : World) (h : InPlan w v p) (hF : planFault p = F) :
    Calls Tryz.prog 19 #[v] w fun e w' => ∃ v', e = .returned (.tuple #[v', errV F]) ∧ Reads w' v' (urgTo p F) ∧ Only [] w w' := by
  by_cases h0 : F = 0
  · subst h0
    have hok := (planOk_iff p).2 hF
    refine (list_Urgent v p w h hok).mono ?_
    rintro e w' ⟨v', rfl, ho, hx⟩
    refine ⟨v', by rw [errV_zero], ?_, ho⟩
    unfold urgTo
    rw [if_pos rfl]
    rcases hx with ⟨hl, rfl⟩ | ⟨hl, G, c, g, rfl, _, hN, hs, hr, hc1, hc2⟩
    · rw [hl]; exact .inl ⟨rfl, .inl rfl⟩
    · have e9 := urgent_is hs hr
      have hlen := urgL_len (tailF p) p.length
      refine .inr ⟨by omega, G, 0, c, by rw [hlen], by omega, hc2, fun i hi => ?_⟩
      rw [hlen] at hi
      rw [Nat.zero_add, ← e9, numL_nth _ _ _ hi]
      exact (hN i hi).1
  · have hn := list_Urgent_no v p w h (by rw [hF]; exact h0)
    rw [hF] at hn
    refine hn.mono ?_
    rintro e w' ⟨rfl, ho⟩
    refine ⟨_, by rw [errV_ne h0], ?_, ho⟩
    unfold urgTo
    rw [if_neg h0]; exact .inl ⟨rfl, .inl rfl⟩

end Go.Proofs.YtloojhnhialenaaGreatDoor

namespace Go.Proofs.YtloojhnhialenaaGreatDoor
open Go.RowKit Go.Deep

def freeB (p : PlanL) (D : Nat → Bool) (i : Nat) : Bool := (ndOf p i).all (fun k => D k.toNat)
theorem ready_free (p : PlanL) (D : Nat → Bool) (i : Nat) : readyB p D i = (!D i && freeB p D i) := rfl

set_option maxRecDepth 100000 in
set_option maxHeartbeats 2000000 in
theorem ref_Free (v : Value) (p : PlanL) (i A n : Nat) (D : Nat → Bool) (w : World) (h : InPlan w v p) (hn : NeedsOk p) (hB : Bools w A n D) (hi : i < p.length) (hl : p.length = n) :
    Calls Tryz.prog 81 #[v, .int .i64 i, .slice (some ⟨A, 0, none⟩) n n] w fun e w' => e = .returned (.bool (freeB p D i)) ∧ w' = w := by
  obtain ⟨a, cap, rfl, hc1, hc2, _⟩ := h.task
  obtain ⟨b, off, rfl⟩ := h.any i hi
  obtain ⟨ua, uc, _, c1, hrd⟩ := h.at i hi
  have h30 := hn.1
  obtain ⟨m, hm⟩ : ∃ m, (ndOf p i).length = m := ⟨_, rfl⟩
  have HM := Lib.hid hm
  have hm30 : m ≤ 30 := by have := hn.2.2 i; rw [hm] at this; exact this
  have hcl : ∀ k, k < m → ∃ g o x, ua = some ⟨g, o, none⟩ ∧ w.cell? ⟨g, o + k, none⟩ = some (.int .i64 ((x : Nat) : Int)) ∧ x < n ∧ nth (ndOf p i) k = x := by
    intro k hk
    have hkl : k < (ndOf p i).length := by rw [HM.out]; exact hk
    obtain ⟨a', c', e, hc⟩ := hrd.opt
    obtain ⟨g, o, rfl, hcc⟩ := hc k hkl
    injection e with e1 _ _
    have hx := hn.2.1 i (nth (ndOf p i) k) (by unfold nth; rw [List.getElem?_eq_getElem hkl]; exact List.getElem_mem hkl)
    obtain ⟨x, hxn⟩ := Int.eq_ofNat_of_zero_le hx.1
    rw [hxn] at hcc hx
    exact ⟨g, o, x, e1, hcc, by omega, hxn⟩
  rw [hl] at hc1 hi ⊢
  rw [hm] at c1
  have HCL := Lib.hid hcl
  have HB := Lib.hid hB
  clear h hn hrd hm hcl hB hl
  go_enter Tryz.func81, Tryz.ntmps81
  go_wp2_with fail
  go_loopw [7] (fun vk wr => ∃ k : Nat, k ≤ m ∧ vk = .int .i64 k ∧ ((ndOf p i).take k).all (fun k => D k.toNat) = true ∧ w = wr) (fun vk _ => m - (intOf vk).toNat)
  case atStart => exact ⟨0, Nat.zero_le _, rfl, by simp, rfl⟩
  case round =>
    obtain ⟨k, hk, rfl, hall, rfl⟩ := hrel
    by_cases hlt : k < m
    · obtain ⟨g, o, x, rfl, cx, hxn, hnx⟩ := HCL.out k hlt
      have cb := (HB.out x hxn).1
      have hst : Hid (((ndOf p i).take (k + 1)).all (fun k => D k.toNat) = D x) := by
        show _ = _
        rw [take_succ_nth _ k (by rw [HM.out]; exact hlt), List.all_append, hall, hnx]; simp
      have hfr : Hid (D x = false → freeB p D i = false) := fun hd => by
        unfold freeB
        rw [List.all_eq_false]
        refine ⟨(x : Int), ?_, by simp [hd]⟩
        have hkl : k < (ndOf p i).length := by rw [HM.out]; exact hlt
        rw [← hnx]
        unfold nth; rw [List.getElem?_eq_getElem hkl]; exact List.getElem_mem hkl
      cases hd : D x
      · rw [hd] at cb
        have hF := Lib.hid (hfr.out hd)
        clear hall hd
        go_wp2
        go_ret
        exact ⟨by rw [hF.out]; rfl, rfl⟩
      · rw [hd] at cb
        have hst2 : Hid (((ndOf p i).take (k + 1)).all (fun k => D k.toNat) = true) := by rw [← hd]; exact hst
        clear hall hd
        go_wp2
        go_roundw
        case rel => exact ⟨k + 1, by omega, by go_num, hst2.out, trivial⟩
        case measure => (simp [intOf]; try omega)
    · obtain rfl : k = m := by omega
      rw [List.take_of_length_le (Nat.le_of_eq HM.out)] at hall
      have hF : Hid (freeB p D i = true) := hall
      clear hall
      go_wp2
      go_ret
      exact ⟨by rw [hF.out]; rfl, rfl⟩

end Go.Proofs.YtloojhnhialenaaGreatDoor

namespace Go.Proofs.YtloojhnhialenaaGreatDoor
open Go.RowKit

def busyF (ss : List St) (T : Int) (h : Nat) : Bool := ss.any fun c => decide (c.hand = (h : Int)) && decide (T < c.til)
def doneF (ss : List St) (T : Int) (i : Nat) : Bool := ss.any fun c => decide (c.task = (i : Int)) && decide (c.til ≤ T)
def tookF (ss : List St) (i : Nat) : Bool := ss.any fun c => decide (c.task = (i : Int))

theorem tookF_set {ss : List St} {c : St} {x j : Nat} (hx : c.task = (x : Int)) : (if j = x then true else tookF ss j) = tookF (ss ++ [c]) j := by
  unfold tookF; rw [List.any_append]
  by_cases e : j = x
  · subst e; simp [hx]
  · have : ¬ ((x : Int) = (j : Int)) := by omega
    simp [e, hx, this]
theorem busyF_set {ss : List St} {c : St} {T : Int} {x j : Nat} (hx : c.hand = (x : Int)) (ht : T < c.til) : (if j = x then true else busyF ss T j) = busyF (ss ++ [c]) T j := by
  unfold busyF; rw [List.any_append]
  by_cases e : j = x
  · subst e; simp [hx, ht]
  · have : ¬ ((x : Int) = (j : Int)) := by omega
    simp [e, hx, this]
theorem busyF_keep {ss : List St} {c : St} {T : Int} {j : Nat} (ht : c.til ≤ T) : busyF ss T j = busyF (ss ++ [c]) T j := by
  unfold busyF; rw [List.any_append]
  have : ¬ T < c.til := by omega
  simp [this]
theorem doneF_set {ss : List St} {c : St} {T : Int} {x j : Nat} (hx : c.task = (x : Int)) (ht : c.til ≤ T) : (if j = x then true else doneF ss T j) = doneF (ss ++ [c]) T j := by
  unfold doneF; rw [List.any_append]
  by_cases e : j = x
  · subst e; simp [hx, ht]
  · have : ¬ ((x : Int) = (j : Int)) := by omega
    simp [e, hx, this]
theorem doneF_keep {ss : List St} {c : St} {T : Int} {j : Nat} (ht : T < c.til) : doneF ss T j = doneF (ss ++ [c]) T j := by
  unfold doneF; rw [List.any_append]
  have : ¬ c.til ≤ T := by omega
  simp [this]

theorem firstIdx_no {P : Int → Bool} {l : List Int} (h1 : ∀ j, j < l.length → P (nth l j) = false) : firstIdx P l < 0 := by
  rcases firstIdx_spec P l with ⟨h, _⟩ | ⟨k, hk, _, h⟩
  · omega
  · rw [h1 k hk] at h; cases h

theorem LInv.busy {p : PlanL} {hands T : Nat} {s : LS} (h : LInv p hands T s) {x : Nat} (hx : x < hands) : busyF s.out (T : Int) x = decide ((T : Int) < s.free x) := by
  rw [Bool.eq_iff_iff]
  simp only [busyF, List.any_eq_true, Bool.and_eq_true, decide_eq_true_eq]
  constructor
  · rintro ⟨c, hc, h1, h2⟩
    have := h.freeMax c hc
    rw [h1, Int.toNat_natCast] at this
    omega
  · intro h1
    rcases h.freeIn x hx with h2 | ⟨c, hc, h2, h3⟩
    · omega
    · exact ⟨c, hc, h2, by omega⟩
theorem LInv.took {p : PlanL} {hands T : Nat} {s : LS} (h : LInv p hands T s) (hok : PlanOk p) {i : Nat} (hi : i < p.length) : tookF s.out i = decide (0 ≤ s.ends i) := by
  rw [Bool.eq_iff_iff]
  simp only [tookF, List.any_eq_true, decide_eq_true_eq]
  constructor
  · rintro ⟨c, hc, h1⟩
    obtain ⟨_, _, _, _, h5, _, h7, h8⟩ := h.mem c hc
    have hw := hok.work i hi
    rw [h1, Int.toNat_natCast] at h7 h8
    omega
  · intro h1; exact h.taken i hi h1
theorem LInv.done {p : PlanL} {hands T : Nat} {s : LS} (h : LInv p hands T s) (hok : PlanOk p) {i : Nat} (hi : i < p.length) : doneF s.out (T : Int) i = true ↔ 0 ≤ s.ends i ∧ s.ends i ≤ T := by
  simp only [doneF, List.any_eq_true, Bool.and_eq_true, decide_eq_true_eq]
  constructor
  · rintro ⟨c, hc, h1, h2⟩
    obtain ⟨_, _, _, _, h5, _, h7, h8⟩ := h.mem c hc
    have hw := hok.work i hi
    rw [h1, Int.toNat_natCast] at h7 h8
    omega
  · rintro ⟨h1, h2⟩
    obtain ⟨c, hc, h3⟩ := h.taken i hi h1
    obtain ⟨_, _, _, _, _, _, _, h8⟩ := h.mem c hc
    rw [h3, Int.toNat_natCast] at h8
    exact ⟨c, hc, h3, by omega⟩
theorem LInv.ready {p : PlanL} {hands T : Nat} {s : LS} (h : LInv p hands T s) (hok : PlanOk p) {i : Nat} (hi : i < p.length) : lReady p s.ends (T : Int) i = (!tookF s.out i && freeB p (doneF s.out (T : Int)) i) := by
  rw [Bool.eq_iff_iff, lReady_iff, h.took hok hi]
  have hn := hok.needsOk
  have key : ∀ k ∈ ndOf p i, doneF s.out (T : Int) k.toNat = true ↔ 0 ≤ s.ends k.toNat ∧ s.ends k.toNat ≤ T := fun k hk => by
    have := hn.2.1 i k hk
    exact h.done hok (by omega)
  unfold freeB
  simp only [Bool.and_eq_true, Bool.not_eq_true', decide_eq_false_iff_not, List.all_eq_true]
  constructor
  · rintro ⟨h1, h2⟩
    exact ⟨by omega, fun k hk => (key k hk).2 (h2 k hk)⟩
  · rintro ⟨h1, h2⟩
    exact ⟨by omega, fun k hk => (key k hk).1 (h2 k hk)⟩
/-- The walk's own hand and task. -/
theorem LInv.hand_is {p : PlanL} {hands T : Nat} {s : LS} (h : LInv p hands T s) {x : Nat} (hx : x < hands) (h1 : ∀ j, j < x → busyF s.out (T : Int) j = true) (h2 : busyF s.out (T : Int) x = false) : lHand hands s.free (T : Int) = (x : Int) := by
  refine firstIdx_at _ _ _ (by rw [numL_len]; exact hx) (fun j hj => ?_) ?_
  · rw [numL_nth _ _ _ (by omega)]
    have := h1 j hj
    rw [h.busy (by omega)] at this
    simpa using this
  · rw [numL_nth _ _ _ hx]
    rw [h.busy hx] at h2
    simpa using h2
theorem LInv.hand_no {p : PlanL} {hands T : Nat} {s : LS} (h : LInv p hands T s) (h1 : ∀ j, j < hands → busyF s.out (T : Int) j = true) : lHand hands s.free (T : Int) < 0 := by
  refine firstIdx_no fun j hj => ?_
  rw [numL_len] at hj
  rw [numL_nth _ _ _ hj]
  have := h1 j hj
  rw [h.busy hj] at this
  simpa using this

theorem LInv.task_is {p : PlanL} {hands T : Nat} {s : LS} {order : List Int} (h : LInv p hands T s) (hok : PlanOk p) (ho : OrdOk p.length order) {x : Nat} (hx : x < order.length) (h1 : ∀ j, j < x → (!tookF s.out (nth order j).toNat && freeB p (doneF s.out (T : Int)) (nth order j).toNat) = false) (h2 : (!tookF s.out (nth order x).toNat && freeB p (doneF s.out (T : Int)) (nth order x).toNat) = true) : lTask p order s.ends (T : Int) = (x : Int) := by
  have key : ∀ j, j < order.length → (nth order j).toNat < p.length := fun j hj => by
    obtain ⟨i, hi, e⟩ := ho.mem _ (nth_mem hj)
    omega
  refine firstIdx_at _ _ _ hx (fun j hj => ?_) ?_
  · rw [h.ready hok (key j (by omega))]; exact h1 j hj
  · rw [h.ready hok (key x hx)]; exact h2
theorem LInv.task_no {p : PlanL} {hands T : Nat} {s : LS} {order : List Int} (h : LInv p hands T s) (hok : PlanOk p) (ho : OrdOk p.length order) (h1 : ∀ j, j < order.length → (!tookF s.out (nth order j).toNat && freeB p (doneF s.out (T : Int)) (nth order j).toNat) = false) : lTask p order s.ends (T : Int) < 0 := by
  refine firstIdx_no fun j hj => ?_
  obtain ⟨i, hi, e⟩ := ho.mem _ (nth_mem hj)
  rw [h.ready hok (by omega)]; exact h1 j hj

end Go.Proofs.YtloojhnhialenaaGreatDoor
