/-
  Contract of yardref1.Free.
  Who is above whom, by ways over tasks with small numbers only (for yardref1.Above). No program is named here.
  Tables of bools that a call made: rows of their own, each once.
-/
import Derived.Test.YtmopbimineoogaaDoorP15CellsTell
import Derived.Test.YtmopbimineoogaaDoorP14CellsTell
import Derived.Test.YtmopbimineoogaaDoorP10CellsTell
import Derived.Test.YtmopbimineoogaaDoorP4CellsTell
namespace Go.Proofs.YtmopbimineoogaaDoor
open Go.RowKit Go.Deep

def freeB (p : PlanL) (D : Nat → Bool) (i : Nat) : Bool := (ndOf p i).all (fun k => D k.toNat)
theorem ready_free (p : PlanL) (D : Nat → Bool) (i : Nat) : readyB p D i = (!D i && freeB p D i) := rfl

set_option maxRecDepth 100000 in
set_option maxHeartbeats 2000000 in
theorem ref_Free (v : Value) (p : PlanL) (i A n : Nat) (D : Nat → Bool) (w : World) (h : InPlan w v p) (hn : NeedsOk p) (hB : Bools w A n D) (hi : i < p.length) (hl : p.length = n) :
    Calls Tryd.prog 35 #[v, .int .i64 i, .slice (some ⟨A, 0, none⟩) n n] w fun e w' => e = .returned (.bool (freeB p D i)) ∧ w' = w := by
  obtain ⟨a, cap, rfl, hc1, hc2, _⟩ := h.task
  obtain ⟨b, off, rfl⟩ := h.any i hi
  obtain ⟨ua, uc, _, c1, hrd⟩ := h.at i hi
  have h30 := hn.1
  obtain ⟨m, hm⟩ : ∃ m, (ndOf p i).length = m := ⟨_, rfl⟩
  have HM := Lib.hid hm
  have hm30 : m ≤ 30 := by have := hn.2.2 i; rw [hm] at this; exact this
  have hcl : ∀ k, k < m → ∃ g o x, ua = some ⟨g, o, none⟩ ∧ w.cell? ⟨g, o + k, none⟩ = some (.int .i64 ((x : Nat) : Int)) ∧ x < n ∧ nth (ndOf p i) k = x := by
    intro k hk
    have hkl : k < (ndOf p i).length := by rw [HM.out]; exact hk
    obtain ⟨a', c', e, hc⟩ := hrd.opt
    obtain ⟨g, o, rfl, hcc⟩ := hc k hkl
    injection e with e1 _ _
    have hx := hn.2.1 i (nth (ndOf p i) k) (by unfold nth; rw [List.getElem?_eq_getElem hkl]; exact List.getElem_mem hkl)
    obtain ⟨x, hxn⟩ := Int.eq_ofNat_of_zero_le hx.1
    rw [hxn] at hcc hx
    exact ⟨g, o, x, e1, hcc, by omega, hxn⟩
  rw [hl] at hc1 hi ⊢
  rw [hm] at c1
  have HCL := Lib.hid hcl
  have HB := Lib.hid hB
  clear h hn hrd hm hcl hB hl
  go_enter Tryd.func35, Tryd.ntmps35
  go_wp2_with fail
  go_loopw [7] (fun vk wr => ∃ k : Nat, k ≤ m ∧ vk = .int .i64 k ∧ ((ndOf p i).take k).all (fun k => D k.toNat) = true ∧ w = wr) (fun vk _ => m - (intOf vk).toNat)
  case atStart => exact ⟨0, Nat.zero_le _, rfl, by simp, rfl⟩
  case round =>
    obtain ⟨k, hk, rfl, hall, rfl⟩ := hrel
    by_cases hlt : k < m
    · obtain ⟨g, o, x, rfl, cx, hxn, hnx⟩ := HCL.out k hlt
      have cb := (HB.out x hxn).1
      have hst : Hid (((ndOf p i).take (k + 1)).all (fun k => D k.toNat) = D x) := by
        show _ = _
        rw [take_succ_nth _ k (by rw [HM.out]; exact hlt), List.all_append, hall, hnx]; simp
      have hfr : Hid (D x = false → freeB p D i = false) := fun hd => by
        unfold freeB
        rw [List.all_eq_false]
        refine ⟨(x : Int), ?_, by simp [hd]⟩
        have hkl : k < (ndOf p i).length := by rw [HM.out]; exact hlt
        rw [← hnx]
        unfold nth; rw [List.getElem?_eq_getElem hkl]; exact List.getElem_mem hkl
      cases hd : D x
      · rw [hd] at cb
        have hF := Lib.hid (hfr.out hd)
        clear hall hd
        go_wp2
        go_ret
        exact ⟨by rw [hF.out]; rfl, rfl⟩
      · rw [hd] at cb
        have hst2 : Hid (((ndOf p i).take (k + 1)).all (fun k => D k.toNat) = true) := by rw [← hd]; exact hst
        clear hall hd
        go_wp2
        go_roundw
        case rel => exact ⟨k + 1, by omega, by go_num, hst2.out, trivial⟩
        case measure => (simp [intOf]; try omega)
    · obtain rfl : k = m := by omega
      rw [List.take_of_length_le (Nat.le_of_eq HM.out)] at hall
      have hF : Hid (freeB p D i = true) := hall
      clear hall
      go_wp2
      go_ret
      exact ⟨by rw [hF.out]; rfl, rfl⟩

end Go.Proofs.YtmopbimineoogaaDoor

namespace Go.Proofs.YtmopbimineoogaaDoor

/-- k is needed by i over tasks below m. -/
inductive Via (p : PlanL) (m : Nat) : Nat → Nat → Prop
  | one {i k : Nat} : (k : Int) ∈ ndOf p i → Via p m i k
  | two {i j k : Nat} : j < m → Via p m i j → Via p m j k → Via p m i k

theorem Via.succ {p : PlanL} {m i k : Nat} (h : Via p (m + 1) i k) : Via p m i k ∨ (Via p m i m ∧ Via p m m k) := by
  induction h with
  | one h => exact .inl (.one h)
  | @two i j k hj _ _ h1 h2 =>
    by_cases e : j = m
    · subst e
      rcases h1 with h1 | ⟨h1, _⟩ <;> rcases h2 with h2 | ⟨_, h2⟩ <;> exact .inr ⟨h1, h2⟩
    · have hjm : j < m := by omega
      rcases h1 with h1 | ⟨h1, h1'⟩
      · rcases h2 with h2 | ⟨h2, h2'⟩
        · exact .inl (.two hjm h1 h2)
        · exact .inr ⟨.two hjm h1 h2, h2'⟩
      · rcases h2 with h2 | ⟨_, h2'⟩
        · exact .inr ⟨h1, .two hjm h1' h2⟩
        · exact .inr ⟨h1, h2'⟩

theorem Via.reach {p : PlanL} {m i k : Nat} (h : Via p m i k) : Reach p i k := by
  induction h with
  | one h => exact .one h
  | two _ _ _ h1 h2 => exact h1.trans h2

theorem Reach.via {p : PlanL} {i k : Nat} (h : Reach p i k) (hn : ∀ i, ∀ x ∈ ndOf p i, x < (p.length : Int)) : Via p p.length i k := by
  induction h with
  | one h => exact .one h
  | @more k m h1 h2 ih =>
    refine .two (j := k) ?_ ih (.one h2)
    cases h1 with
    | one h => have := hn _ _ h; omega
    | more _ h => have := hn _ _ h; omega

/-- What stands in the table is so. -/
def Sound (p : PlanL) (F : Nat → Nat → Bool) : Prop := ∀ i k, i < p.length → k < p.length → F i k = true → Reach p i k
/-- Who is above over tasks below m stands in the table. -/
def Full (p : PlanL) (m : Nat) (F : Nat → Nat → Bool) : Prop := ∀ i k, i < p.length → k < p.length → Via p m i k → F i k = true
/-- In the rows ahead of i, and in row i ahead of k, it holds for m + 1. -/
def Part (p : PlanL) (m i k : Nat) (F : Nat → Nat → Bool) : Prop := ∀ x y, x < p.length → y < p.length → (x < i ∨ (x = i ∧ y < k)) → Via p (m + 1) x y → F x y = true

/-- A cell of a table is set. -/
def put2 (F : Nat → Nat → Bool) (i k : Nat) : Nat → Nat → Bool := fun x y => if x = i ∧ y = k then true else F x y

theorem put2_ge (F : Nat → Nat → Bool) (i k x y : Nat) (h : F x y = true) : put2 F i k x y = true := by
  unfold put2; split
  · rfl
  · exact h

theorem Part.zero (p : PlanL) (m : Nat) (F : Nat → Nat → Bool) : Part p m 0 0 F := by
  intro x y _ _ h _; omega
theorem Part.row {p : PlanL} {m i : Nat} {F : Nat → Nat → Bool} (h : Part p m i p.length F) : Part p m (i + 1) 0 F := by
  intro x y hx hy h2 hv
  refine h x y hx hy ?_ hv
  rcases h2 with h2 | ⟨h2, h3⟩
  · by_cases e : x = i
    · exact .inr ⟨e, hy⟩
    · exact .inl (by omega)
  · omega
theorem Part.all {p : PlanL} {m : Nat} {F : Nat → Nat → Bool} (h : Part p m p.length 0 F) : Full p (m + 1) F := fun i k hi hk hv => h i k hi hk (.inl hi) hv

theorem Part.skip {p : PlanL} {m i k : Nat} {F : Nat → Nat → Bool} (h : Part p m i k F) (hf : Full p m F) (hi : i < p.length) (hm : m < p.length) (hn : (F i m && F m k) = false) : Part p m i (k + 1) F := by
  intro x y hx hy h2 hv
  by_cases e : x = i ∧ y = k
  · obtain ⟨rfl, rfl⟩ := e
    rcases hv.succ with h3 | ⟨h3, h4⟩
    · exact hf _ _ hx hy h3
    · rw [hf _ _ hx hm h3, hf _ _ hm hy h4] at hn
      cases hn
  · refine h x y hx hy ?_ hv
    rcases h2 with h2 | ⟨rfl, h2⟩
    · exact .inl h2
    · refine .inr ⟨rfl, ?_⟩
      have : y ≠ k := fun e2 => e ⟨rfl, e2⟩
      omega
theorem Part.put {p : PlanL} {m i k : Nat} {F : Nat → Nat → Bool} (h : Part p m i k F) : Part p m i (k + 1) (put2 F i k) := by
  intro x y hx hy h2 hv
  by_cases e : x = i ∧ y = k
  · unfold put2; rw [if_pos e]
  · refine put2_ge _ _ _ _ _ (h x y hx hy ?_ hv)
    rcases h2 with h2 | ⟨rfl, h2⟩
    · exact .inl h2
    · refine .inr ⟨rfl, ?_⟩
      have : y ≠ k := fun e2 => e ⟨rfl, e2⟩
      omega
theorem Full.put {p : PlanL} {m : Nat} {F : Nat → Nat → Bool} (h : Full p m F) (i k : Nat) : Full p m (put2 F i k) := fun x y hx hy hv => put2_ge _ _ _ _ _ (h x y hx hy hv)
theorem Sound.put {p : PlanL} {F : Nat → Nat → Bool} (h : Sound p F) {i m k : Nat} (hi : i < p.length) (hm : m < p.length) (hk : k < p.length) (h1 : (F i m && F m k) = true) : Sound p (put2 F i k) := by
  intro x y hx hy h2
  unfold put2 at h2
  split at h2
  · rename_i e
    obtain ⟨rfl, rfl⟩ := e
    rw [Bool.and_eq_true] at h1
    exact (h _ _ hi hm h1.1).trans (h _ _ hm hk h1.2)
  · exact h x y hx hy h2

/-- The table at first: who is needed. -/
def need2 (p : PlanL) : Nat → Nat → Bool := fun i k => decide ((k : Int) ∈ ndOf p i)
theorem need2_sound (p : PlanL) : Sound p (need2 p) := fun _ _ _ _ h => .one (by simpa [need2] using h)
theorem need2_full (p : PlanL) : Full p 0 (need2 p) := by
  intro i k _ _ h
  cases h with
  | one h => simpa [need2] using h
  | two h _ _ => omega

/- The table at last. -/
open Classical in
noncomputable def aboveOf (p : PlanL) : Nat → Nat → Bool := fun i k => decide (Reach p i k)
theorem above_of {p : PlanL} {F : Nat → Nat → Bool} (h1 : Sound p F) (h2 : Full p p.length F) (hn : ∀ i, ∀ x ∈ ndOf p i, x < (p.length : Int)) (i k : Nat) (hi : i < p.length) (hk : k < p.length) : F i k = aboveOf p i k := by
  unfold aboveOf
  by_cases h : Reach p i k
  · rw [h2 i k hi hk (h.via hn)]; simp [h]
  · cases e : F i k
    · simp [h]
    · exact absurd (h1 i k hi hk e) h

theorem aboveOf_iff (p : PlanL) (i k : Nat) : aboveOf p i k = true ↔ Reach p i k := by
  unfold aboveOf; simp

end Go.Proofs.YtmopbimineoogaaDoor

namespace Go.Proofs.YtmopbimineoogaaDoor
open Go.RowKit Go.Deep

theorem sliceOf_rowsB : SliceOf 85 81 1 24 :=
  sliceOf_parts (z := .slice none 0 0) Tryd.underlying85 (by kernel_rfl) rfl (by decide) (by decide)

def rowsL (g : Nat → Nat) (n j : Nat) : List Value := (List.range j).map fun i => .slice (some ⟨g i, 0, none⟩) n n
theorem rowsL_len (g : Nat → Nat) (n j : Nat) : (rowsL g n j).length = j := by simp [rowsL]
theorem rowsL_push (g : Nat → Nat) (n j b : Nat) : rowsL g n j ++ [.slice (some ⟨b, 0, none⟩) n n] = rowsL (fun i => if i = j then b else g i) n (j + 1) := by
  unfold rowsL
  rw [List.range_succ, List.map_append]
  congr 1
  · refine List.map_congr_left fun i hi => ?_
    have : i < j := by simpa using hi
    show _ = Value.slice (some ⟨if i = j then b else g i, 0, none⟩) n n
    rw [if_neg (by omega)]
  · simp

/-- j rows of n bools. -/
structure Table (w : World) (base : Nat) (v : Value) (n j : Nat) (g : Nat → Nat) (F : Nat → Nat → Bool) : Prop where
  row : w.ownsRow base 81 1 v j (rowsL g n j)
  bools : ∀ i, i < j → Bools w (g i) n (F i)
  far : ∀ i, i < j → base ≤ g i ∧ g i < w.heap.size ∧ g i ∉ own v
  once : ∀ i k, i < j → k < j → g i = g k → i = k

theorem Table.nil (w : World) (base n : Nat) (g : Nat → Nat) (F : Nat → Nat → Bool) : Table w base (.slice none 0 0) n 0 g F :=
  ⟨World.ownsRow_nil _ _ _ _, fun i hi => by omega, fun i hi => by omega, fun i k hi => by omega⟩

theorem Table.same {w w' : World} {base : Nat} {v : Value} {n j : Nat} {g : Nat → Nat} {F : Nat → Nat → Bool} (h : Table w base v n j g F) (ho : Only [] w w') : Table w' base v n j g F :=
  ⟨Row.same h.row ho, fun i hi => (h.bools i hi).only ho (by simp), fun i hi => ⟨(h.far i hi).1, Nat.lt_of_lt_of_le (h.far i hi).2.1 ho.size, (h.far i hi).2.2⟩, h.once⟩

theorem Table.form {w : World} {base : Nat} {v : Value} {n j : Nat} {g : Nat → Nat} {F : Nat → Nat → Bool} (h : Table w base v n j g F) : ∃ a cap, v = .slice a j cap ∧ j ≤ cap ∧ cap ≤ maxLen ∧ (0 < j → ∃ A, a = some ⟨A, 0, none⟩ ∧ base ≤ A ∧ A < w.heap.size) := Row.form h.row

/-- One row more, behind append. -/
theorem Table.push {W w' : World} {base : Nat} {v v' : Value} {n j b : Nat} {g : Nat → Nat} {F : Nat → Nat → Bool} {f : Nat → Bool} (h : Table W base v n j g F) (hb : Bools W b n f) (hbf : base ≤ b ∧ b < W.heap.size) (hbv : b ∉ own v) (hbg : ∀ i, i < j → g i ≠ b)
    (hrow : w'.ownsRow base 81 1 v' (j + 1) (rowsL g n j ++ [.slice (some ⟨b, 0, none⟩) n n])) (ho : Only (own v) W w') (hk : Kin W (own v) (own v')) :
    Table w' base v' n (j + 1) (fun i => if i = j then b else g i) (fun i => if i = j then f else F i) := by
  have hsz := ho.size
  have hap : ∀ x, x < W.heap.size → x ∉ own v → x ∉ own v' := fun x hx h1 h2 => by
    rcases hk x h2 with h3 | h3
    · exact h1 h3
    · omega
  refine ⟨by rw [← rowsL_push]; exact hrow, fun i hi => ?_, fun i hi => ?_, fun i k hi hk2 he => ?_⟩
  · by_cases e : i = j
    · simp only [e, if_pos]; exact hb.only ho hbv
    · simp only [e, if_false]; exact (h.bools i (by omega)).only ho (h.far i (by omega)).2.2
  · by_cases e : i = j
    · simp only [e, if_pos]; exact ⟨hbf.1, by omega, hap b hbf.2 hbv⟩
    · simp only [e, if_false]
      have := h.far i (by omega)
      exact ⟨this.1, by omega, hap _ this.2.1 this.2.2⟩
  · by_cases e : i = j <;> by_cases e2 : k = j
    · omega
    · simp only [e, e2, if_pos, if_false] at he
      exact absurd he.symm (hbg k (by omega))
    · simp only [e, e2, if_pos, if_false] at he
      exact absurd he (hbg i (by omega))
    · simp only [e, e2, if_false] at he
      exact h.once i k (by omega) (by omega) he

/-- The outer cell. -/
theorem Table.cellRow {w : World} {base A n j cap : Nat} {g : Nat → Nat} {F : Nat → Nat → Bool} (h : Table w base (.slice (some ⟨A, 0, none⟩) j cap) n j g F) (i : Nat) (hi : i < j) : w.cell? ⟨A, i, none⟩ = some (.slice (some ⟨g i, 0, none⟩) n n) := by
  rw [World.ownsRow.cellAt h.row i (by omega)]
  simp [rowsL, hi]

theorem Table.set {w : World} {base : Nat} {v : Value} {n j : Nat} {g : Nat → Nat} {F : Nat → Nat → Bool} (h : Table w base v n j g F) (i k : Nat) (hi : i < j) : Table (w.setCell ⟨g i, k, none⟩ (.bool true)) base v n j g (put2 F i k) := by
  have hset : Only [g i] w (w.setCell ⟨g i, k, none⟩ (.bool true)) := (Only.refl _ _).setCell (by simp) _
  have hsz : (w.setCell ⟨g i, k, none⟩ (.bool true)).heap.size = w.heap.size := by simp [World.setCell]
  refine ⟨Row.only h.row hset (fun x hx hx2 => ?_), fun m hm => ?_, fun m hm => ?_, h.once⟩
  · simp at hx2; subst hx2; exact (h.far i hi).2.2 hx
  · by_cases e : m = i
    · subst e
      have := (h.bools m hm).set k true
      have e2 : (fun y => if y = k then true else F m y) = put2 F m k m := by funext y; simp [put2]
      rw [← e2]; exact this
    · have := (h.bools m hm).only hset (by simp; exact fun he => e (h.once m i hm hi he))
      have e2 : put2 F i k m = F m := by funext y; simp [put2, e]
      rw [e2]; exact this
  · have := h.far m hm
    rw [hsz]; exact this

theorem Table.congr {w : World} {base : Nat} {v : Value} {n j : Nat} {g : Nat → Nat} {F G : Nat → Nat → Bool} (h : Table w base v n j g F) (he : ∀ i k, i < j → k < n → F i k = G i k) : Table w base v n j g G :=
  ⟨h.row, fun i hi k hk => by have := h.bools i hi k hk; rw [← he i k hi hk]; exact this, h.far, h.once⟩

end Go.Proofs.YtmopbimineoogaaDoor
