/-
  A log in plain words: lines of tasks. No program is named here.
-/
import Derived.Test.YtloojhnhialenaaGreatDoorBase
import Derived.Test.YtloojhnhialenaaGreatDoorShelf
namespace Go.Proofs.YtloojhnhialenaaGreatDoor

/-- What a log holds: the tasks that are done, the bytes, how many are safe, the steps till it stops (below 0: it does not), whether it has stopped. -/
structure LSt where
  all : List Nat
  bytes : List UInt8
  safe : Nat
  left : Int
  stop : Bool

/-- A task's line. -/
def lineOf (i : Nat) : List UInt8 := Lib.decDigits i ++ [10]
/-- The lines of tasks. -/
def textOf (l : List Nat) : List UInt8 := l.flatMap lineOf

theorem textOf_push (l : List Nat) (i : Nat) : textOf (l ++ [i]) = textOf l ++ lineOf i := by simp [textOf]

def doneB (l : List Nat) : Nat → Bool := fun i => decide (i ∈ l)

theorem ba_app (a b : List UInt8) : (⟨a.toArray⟩ : ByteArray) ++ (⟨b.toArray⟩ : ByteArray) = ⟨(a ++ b).toArray⟩ := by
  apply ByteArray.ext
  rw [ByteArray.data_append]
  simp

theorem ba_size (a : List UInt8) : (⟨a.toArray⟩ : ByteArray).size = a.length := by simp [ByteArray.size]

theorem digits_two {i : Nat} (h : i < 100) : (Lib.decDigits i).length ≤ 2 := by
  by_cases h1 : i < 10
  · rw [Lib.decDigits_one h1]; simp
  · rw [Lib.decDigits_two h1 h]; simp

end Go.Proofs.YtloojhnhialenaaGreatDoor
