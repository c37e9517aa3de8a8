/-
  make([]bool, n).
-/
import Derived.Test.YtloojhnhialenaaGreatDoorMake
import Derived.Test.YtloojhnhialenaaGreatDoorMarks
namespace Go.Proofs.YtloojhnhialenaaGreatDoor
open Go.RowKit Go.Deep

theorem make_bools (n : Nat) (hn : n ≤ 1000000) (w : World) :
    (Instr.makeSlice 73 (.int .i64 (n : Int)) (.int .i64 (n : Int))).run Tryz.prog w = .ok (.slice (some ⟨w.heap.size, 0, none⟩) n n) (w.alloc (.cells (madeCells #[.bool false] n) 4)) :=
  run_make_row' (P := Tryz.prog) 73 4 (.bool false) 1 Tryz.underlying73 (by kernel_rfl) rfl .i64 .i64 n (by omega) (by omega) w

theorem made_bools (w : World) (n : Nat) : Bools (w.alloc (.cells (madeCells #[.bool false] n) 4)) w.heap.size n (fun _ => false) :=
  Bools.new _ _ _ _ fun i hi => by
    have e := made_list (.bool false) n
    rw [← Array.getElem?_toList, e]
    simp [hi]

end Go.Proofs.YtloojhnhialenaaGreatDoor
