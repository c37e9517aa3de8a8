/-
  Tables of bools that a call made: rows of their own, each once.
-/
import Derived.Test.YtoofalchkedciaaGreatDoorP6PlanTells
import Derived.Test.YtoofalchkedciaaGreatDoorP11PlanTells
import Derived.Test.YtoofalchkedciaaGreatDoorP39PlanTells
namespace Go.Proofs.YtoofalchkedciaaGreatDoor
open Go.RowKit Go.Deep

theorem sliceOf_rowsB : SliceOf 95 97 1 24 :=
  sliceOf_parts (z := .slice none 0 0) Tryz.underlying95 (by kernel_rfl) rfl (by decide) (by decide)

def rowsL (g : Nat → Nat) (n j : Nat) : List Value := (List.range j).map fun i => .slice (some ⟨g i, 0, none⟩) n n
theorem rowsL_len (g : Nat → Nat) (n j : Nat) : (rowsL g n j).length = j := by simp [rowsL]
theorem rowsL_push (g : Nat → Nat) (n j b : Nat) : rowsL g n j ++ [.slice (some ⟨b, 0, none⟩) n n] = rowsL (fun i => if i = j then b else g i) n (j + 1) := by
  unfold rowsL
  rw [List.range_succ, List.map_append]
  congr 1
  · refine List.map_congr_left fun i hi => ?_
    have : i < j := by simpa using hi
    show _ = Value.slice (some ⟨if i = j then b else g i, 0, none⟩) n n
    rw [if_neg (by omega)]
  · simp

/-- j rows of n bools. -/
structure Table (w : World) (base : Nat) (v : Value) (n j : Nat) (g : Nat → Nat) (F : Nat → Nat → Bool) : Prop where
  row : w.ownsRow base 97 1 v j (rowsL g n j)
  bools : ∀ i, i < j → Bools w (g i) n (F i)
  far : ∀ i, i < j → base ≤ g i ∧ g i < w.heap.size ∧ g i ∉ own v
  once : ∀ i k, i < j → k < j → g i = g k → i = k

theorem Table.nil (w : World) (base n : Nat) (g : Nat → Nat) (F : Nat → Nat → Bool) : Table w base (.slice none 0 0) n 0 g F :=
  ⟨World.ownsRow_nil _ _ _ _, fun i hi => by omega, fun i hi => by omega, fun i k hi => by omega⟩

theorem Table.same {w w' : World} {base : Nat} {v : Value} {n j : Nat} {g : Nat → Nat} {F : Nat → Nat → Bool} (h : Table w base v n j g F) (ho : Only [] w w') : Table w' base v n j g F :=
  ⟨Row.same h.row ho, fun i hi => (h.bools i hi).only ho (by simp), fun i hi => ⟨(h.far i hi).1, Nat.lt_of_lt_of_le (h.far i hi).2.1 ho.size, (h.far i hi).2.2⟩, h.once⟩

theorem Table.form {w : World} {base : Nat} {v : Value} {n j : Nat} {g : Nat → Nat} {F : Nat → Nat → Bool} (h : Table w base v n j g F) : ∃ a cap, v = .slice a j cap ∧ j ≤ cap ∧ cap ≤ maxLen ∧ (0 < j → ∃ A, a = some ⟨A, 0, none⟩ ∧ base ≤ A ∧ A < w.heap.size) := Row.form h.row

/-- One row more, behind append. -/
theorem Table.push {W w' : World} {base : Nat} {v v' : Value} {n j b : Nat} {g : Nat → Nat} {F : Nat → Nat → Bool} {f : Nat → Bool} (h : Table W base v n j g F) (hb : Bools W b n f) (hbf : base ≤ b ∧ b < W.heap.size) (hbv : b ∉ own v) (hbg : ∀ i, i < j → g i ≠ b)
    (hrow : w'.ownsRow base 97 1 v' (j + 1) (rowsL g n j ++ [.slice (some ⟨b, 0, none⟩) n n])) (ho : Only (own v) W w') (hk : Kin W (own v) (own v')) :
    Table w' base v' n (j + 1) (fun i => if i = j then b else g i) (fun i => if i = j then f else F i) := by
  have hsz := ho.size
  have hap : ∀ x, x < W.heap.size → x ∉ own v → x ∉ own v' := fun x hx h1 h2 => by
    rcases hk x h2 with h3 | h3
    · exact h1 h3
    · omega
  refine ⟨by rw [← rowsL_push]; exact hrow, fun i hi => ?_, fun i hi => ?_, fun i k hi hk2 he => ?_⟩
  · by_cases e : i = j
    · simp only [e, if_pos]; exact hb.only ho hbv
    · simp only [e, if_false]; exact (h.bools i (by omega)).only ho (h.far i (by omega)).2.2
  · by_cases e : i = j
    · simp only [e, if_pos]; exact ⟨hbf.1, by omega, hap b hbf.2 hbv⟩
    · simp only [e, if_false]
      have := h.far i (by omega)
      exact ⟨this.1, by omega, hap _ this.2.1 this.2.2⟩
  · by_cases e : i = j <;> by_cases e2 : k = j
    · omega
    · simp only [e, e2, if_pos, if_false] at he
      exact absurd he.symm (hbg k (by omega))
    · simp only [e, e2, if_pos, if_false] at he
      exact absurd he (hbg i (by omega))
    · simp only [e, e2, if_false] at he
      exact h.once i k (by omega) (by omega) he

/-- The outer cell. -/
theorem Table.cellRow {w : World} {base A n j cap : Nat} {g : Nat → Nat} {F : Nat → Nat → Bool} (h : Table w base (.slice (some ⟨A, 0, none⟩) j cap) n j g F) (i : Nat) (hi : i < j) : w.cell? ⟨A, i, none⟩ = some (.slice (some ⟨g i, 0, none⟩) n n) := by
  rw [World.ownsRow.cellAt h.row i (by omega)]
  simp [rowsL, hi]

theorem Table.set {w : World} {base : Nat} {v : Value} {n j : Nat} {g : Nat → Nat} {F : Nat → Nat → Bool} (h : Table w base v n j g F) (i k : Nat) (hi : i < j) : Table (w.setCell ⟨g i, k, none⟩ (.bool true)) base v n j g (put2 F i k) := by
  have hset : Only [g i] w (w.setCell ⟨g i, k, none⟩ (.bool true)) := (Only.refl _ _).setCell (by simp) _
  have hsz : (w.setCell ⟨g i, k, none⟩ (.bool true)).heap.size = w.heap.size := by simp [World.setCell]
  refine ⟨Row.only h.row hset (fun x hx hx2 => ?_), fun m hm => ?_, fun m hm => ?_, h.once⟩
  · simp at hx2; subst hx2; exact (h.far i hi).2.2 hx
  · by_cases e : m = i
    · subst e
      have := (h.bools m hm).set k true
      have e2 : (fun y => if y = k then true else F m y) = put2 F m k m := by funext y; simp [put2]
      rw [← e2]; exact this
    · have := (h.bools m hm).only hset (by simp; exact fun he => e (h.once m i hm hi he))
      have e2 : put2 F i k m = F m := by funext y; simp [put2, e]
      rw [e2]; exact this
  · have := h.far m hm
    rw [hsz]; exact this

theorem Table.congr {w : World} {base : Nat} {v : Value} {n j : Nat} {g : Nat → Nat} {F G : Nat → Nat → Bool} (h : Table w base v n j g F) (he : ∀ i k, i < j → k < n → F i k = G i k) : Table w base v n j g G :=
  ⟨h.row, fun i hi k hk => by have := h.bools i hi k hk; rw [← he i k hi hk]; exact this, h.far, h.once⟩

end Go.Proofs.YtoofalchkedciaaGreatDoor
