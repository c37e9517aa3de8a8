/-
  Slices of bits: plain facts, and their cells.
-/
import Derived.Test.YtnolckhideellaaMake
namespace Go.Proofs.Ytnolckhideellaa
open Go.RowKit

/-- A bit: its step, its hand, its task. -/
structure Bt where
  step : Int
  hand : Int
  task : Int

def bitCells (b : Bt) : List Value := [.int .i64 b.step, .int .i64 b.hand, .int .i64 b.task]
def flatB (bs : List Bt) : List Value := bs.flatMap bitCells
def bitAt (bs : List Bt) (i : Nat) : Bt := bs[i]?.getD ⟨0, 0, 0⟩

theorem flatB_len (bs : List Bt) : (flatB bs).length = bs.length * 3 := by
  induction bs with
  | nil => rfl
  | cons b bs ih => simp only [flatB, List.flatMap_cons, List.length_append, List.length_cons] at ih ⊢; rw [ih]; simp [bitCells]; omega
theorem flatB_one (bs : List Bt) : ∀ y ∈ flatB bs, y.oneCell' = true := by
  intro y hy
  obtain ⟨b, _, hb⟩ := List.mem_flatMap.1 hy
  simp only [bitCells, List.mem_cons, List.not_mem_nil, or_false] at hb
  rcases hb with rfl | rfl | rfl <;> rfl
theorem flatB_push (bs : List Bt) (b : Bt) : flatB bs ++ [.int .i64 b.step, .int .i64 b.hand, .int .i64 b.task] = flatB (bs ++ [b]) := by
  simp [flatB, bitCells]
theorem flatB_get (bs : List Bt) (i t : Nat) (hi : i < bs.length) (ht : t < 3) : (flatB bs)[i * 3 + t]? = (bitCells (bitAt bs i))[t]? := by
  induction bs generalizing i with
  | nil => simp at hi
  | cons b bs ih =>
    rcases i with _ | i
    · simp only [flatB, List.flatMap_cons, bitAt]
      rw [List.getElem?_append_left (by simp [bitCells]; omega)]
      simp
    · have e : (i + 1) * 3 + t = 3 + (i * 3 + t) := by omega
      have := ih i (by simpa using hi)
      simp only [flatB, List.flatMap_cons] at this ⊢
      rw [e, List.getElem?_append_right (by simp [bitCells]), show 3 + (i * 3 + t) - (bitCells b).length = i * 3 + t by simp [bitCells], this]
      simp [bitAt]

/-- The value v is a slice of the bits bs. -/
def BitsAt (w : World) (v : Value) (bs : List Bt) : Prop := RowAt w v bs.length 3 (flatB bs)

theorem BitsAt.opt {w : World} {v : Value} {bs : List Bt} (h : BitsAt w v bs) :
    ∃ a cap, v = .slice a bs.length cap ∧ ∀ i, i < bs.length → ∃ b off, a = some ⟨b, off, none⟩ ∧
      w.cell? ⟨b, off + i * 3, none⟩ = some (.int .i64 (bitAt bs i).step) ∧ w.cell? ⟨b, off + i * 3 + 1, none⟩ = some (.int .i64 (bitAt bs i).hand) ∧ w.cell? ⟨b, off + i * 3 + 2, none⟩ = some (.int .i64 (bitAt bs i).task) := by
  obtain ⟨hl, h1, h⟩ := h
  rcases h with ⟨h0, h | ⟨x, cap, h⟩⟩ | ⟨h0, b, off, cap, h, hc⟩
  · exact ⟨none, 0, by rw [h0]; exact h, fun i hi => by omega⟩
  · exact ⟨some x, cap, by rw [h0]; exact h, fun i hi => by omega⟩
  · refine ⟨_, cap, h, fun i hi => ⟨b, off, rfl, ?_, ?_, ?_⟩⟩
    · exact hc (i * 3) _ (by rw [show i * 3 = i * 3 + 0 from rfl, flatB_get bs i 0 hi (by omega)]; rfl)
    · rw [Nat.add_assoc]; exact hc (i * 3 + 1) _ (by rw [flatB_get bs i 1 hi (by omega)]; rfl)
    · rw [Nat.add_assoc]; exact hc (i * 3 + 2) _ (by rw [flatB_get bs i 2 hi (by omega)]; rfl)

theorem BitsAt.same {w w' : World} {v : Value} {bs : List Bt} (h : BitsAt w v bs) (ho : Only [] w w') : BitsAt w' v bs := RowAt.same h ho



/-- How many bits are at a step; of a hand. -/
def atStep (bs : List Bt) (k : Nat) : Nat := bs.countP fun b => b.step == (k : Int)
def ofHand (bs : List Bt) (k : Nat) : Nat := bs.countP fun b => b.hand == (k : Int)
/-- How many steps there are. -/
def stepsOf : List Bt → Nat
  | [] => 0
  | b :: bs => max (b.step.toNat + 1) (stepsOf bs)

theorem stepsOf_append (cs bs : List Bt) : stepsOf (cs ++ bs) = max (stepsOf cs) (stepsOf bs) := by
  induction cs with
  | nil => simp [stepsOf]
  | cons a cs ih => simp only [List.cons_append, stepsOf, ih]; omega
theorem stepsOf_lt {bs : List Bt} {b : Bt} (h : b ∈ bs) : b.step.toNat < stepsOf bs := by
  induction bs with
  | nil => simp at h
  | cons a cs ih =>
    simp only [stepsOf]
    rcases List.mem_cons.1 h with rfl | h
    · omega
    · have := ih h; omega
theorem stepsOf_le {bs : List Bt} {n : Nat} (h : ∀ b ∈ bs, b.step.toNat < n) : stepsOf bs ≤ n := by
  induction bs with
  | nil => exact Nat.zero_le _
  | cons a cs ih =>
    have h1 := h a (by simp)
    have h2 := ih (fun b hb => h b (by simp [hb]))
    simp only [stepsOf]; omega
theorem atStep_zero {bs : List Bt} {k : Nat} (h0 : ∀ b ∈ bs, 0 ≤ b.step) (h : stepsOf bs ≤ k) : atStep bs k = 0 := by
  unfold atStep
  rw [List.countP_eq_zero]
  intro b hb
  have := stepsOf_lt hb
  have := h0 b hb
  simp; omega

/-- The row of steps. -/
def rowL (bs : List Bt) (n : Nat) : List Int := (List.range n).map fun (k : Nat) => (atStep bs k : Int)
theorem rowL_len (bs : List Bt) (n : Nat) : (rowL bs n).length = n := by simp [rowL]
theorem rowL_push (bs : List Bt) (n : Nat) (h : atStep bs n = 0) : rowL bs n ++ [0] = rowL bs (n + 1) := by
  unfold rowL; rw [List.range_succ, List.map_append]; simp [h]
theorem rowL_nth (bs : List Bt) (n k : Nat) (h : k < n) : nth (rowL bs n) k = (atStep bs k : Int) := by simp [nth, rowL, h]
theorem rowL_set (bs : List Bt) (b : Bt) (n k : Nat) (hk : b.step = (k : Int)) (h : k < n) : (rowL bs n).set k ((atStep bs k : Int) + 1) = rowL (bs ++ [b]) n := by
  apply List.ext_getElem?
  intro j
  by_cases e : j = k
  · subst e
    rw [List.getElem?_set_self (by rw [rowL_len]; exact h)]
    unfold rowL
    rw [List.getElem?_map, List.getElem?_range h]
    simp [atStep, List.countP_append, hk]
  · rw [List.getElem?_set_ne (Ne.symm e)]
    unfold rowL
    rw [List.getElem?_map, List.getElem?_map]
    by_cases hj : j < n
    · rw [List.getElem?_range hj]
      have : ¬ ((k : Int) = (j : Int)) := by omega
      simp [atStep, List.countP_append, hk, this]
    · rw [List.getElem?_eq_none (by simpa using hj)]; rfl

def handL (bs : List Bt) (n : Nat) : List Int := (List.range n).map fun (k : Nat) => (ofHand bs k : Int)
theorem handL_len (bs : List Bt) (n : Nat) : (handL bs n).length = n := by simp [handL]
theorem handL_nil (n : Nat) : handL [] n = List.replicate n 0 := by
  apply List.ext_getElem <;> simp [handL, ofHand]
theorem handL_nth (bs : List Bt) (n k : Nat) (h : k < n) : nth (handL bs n) k = (ofHand bs k : Int) := by simp [nth, handL, h]
theorem handL_set (bs : List Bt) (b : Bt) (n k : Nat) (hk : b.hand = (k : Int)) (h : k < n) : (handL bs n).set k ((ofHand bs k : Int) + 1) = handL (bs ++ [b]) n := by
  apply List.ext_getElem?
  intro j
  by_cases e : j = k
  · subst e
    rw [List.getElem?_set_self (by rw [handL_len]; exact h)]
    unfold handL
    rw [List.getElem?_map, List.getElem?_range h]
    simp [ofHand, List.countP_append, hk]
  · rw [List.getElem?_set_ne (Ne.symm e)]
    unfold handL
    rw [List.getElem?_map, List.getElem?_map]
    by_cases hj : j < n
    · rw [List.getElem?_range hj]
      have : ¬ ((k : Int) = (j : Int)) := by omega
      simp [ofHand, List.countP_append, hk, this]
    · rw [List.getElem?_eq_none (by simpa using hj)]; rfl

def lenOf3 : Value → Nat | .slice _ n _ => n | _ => 0
theorem take_bit (bs : List Bt) (k : Nat) (h : k < bs.length) : bs.take (k + 1) = bs.take k ++ [bitAt bs k] := by
  rw [List.take_succ_eq_append_getElem h]
  simp [bitAt, h]
theorem bitAt_mem {bs : List Bt} {k : Nat} (h : k < bs.length) : bitAt bs k ∈ bs := by simp [bitAt, h]

/-- A bit that may be. -/
def bitOk (hands : Int) (b : Bt) : Prop := 0 ≤ b.step ∧ b.step ≤ 10000 ∧ 0 ≤ b.hand ∧ b.hand < hands ∧ 0 ≤ b.task ∧ b.task < 30

end Go.Proofs.Ytnolckhideellaa
