/-
  What a text's reading and printing ask of the library's variables, as one fact; what Atoi does with any text.
-/
import Derived.Test.YtoofalchkedciaaDoorAtoiD
import Derived.Shelf.Vars
import Derived.Lib.ItoaMem
import Derived.Sort.Grow
namespace Go.Proofs.YtoofalchkedciaaDoor
open Go.RowKit Go.Deep

/-- The library's variables hold what they held. -/
def Std (w : World) : Prop := VarErr "strconv.ErrSyntax" w ∧ VarErr "strconv.ErrRange" w ∧ Lib.TabIs Tryd.prog w "internal/strconv.uint64pow10" .u64 Lib.pow10Tab ∧ ∃ m, w.cell? ⟨1, 0, none⟩ = some (.int .i64 m)

theorem Std.only {w w' : World} (h : Std w) (ho : Only [] w w') : Std w' := by
  obtain ⟨h1, h2, h3, m, h4⟩ := h
  exact ⟨h1.only ho, h2.only ho, var_only h3 ho, m, (ho.cell (cell_lt h4) (by simp)).trans h4⟩

theorem max_len (W : World) (h : W.ShapedOpen Tryd.prog) : ∃ m, W.cell? ⟨1, 0, none⟩ = some (.int .i64 m) :=
  cell_of_shapedOpen_int (t := 3) (zero := #[.int .i64 0]) h (of_decide_eq_true (by kernel_rfl)) (by kernel_rfl) rfl (by kernel_rfl) (by kernel_rfl) Tryd.underlying3

theorem grow_only (w : World) (os : Array Obj) : Only [] w (Sort.grow w os) :=
  ⟨rfl, rfl, rfl, by rw [Sort.size_grow]; omega, fun k hk _ => Sort.heap_grow_old w os hk⟩

/-- What Atoi does with any text. -/
theorem atoi_any (s : ByteArray) (hs : s.size ≤ 2000000) (w : World) (hstd : Std w) :
    Calls Tryd.prog 57 #[.string s] w fun e w' => ∃ (n : Int) (v : Value), e = .returned (.tuple #[.int .i64 n, v]) ∧ (-9223372036854775808 ≤ n ∧ n ≤ 9223372036854775807) ∧ Only [] w w' ∧
      ((v = .nilIface ∧ Lib.atoiAll s.data.toList = .ok n) ∨ ((∃ t N, v = .iface t (.pointer (some ⟨N, 0, none⟩))) ∧ ∀ v, Lib.atoiAll s.data.toList ≠ .ok v)) := by
  obtain ⟨hsyn, hran, _⟩ := hstd
  cases hk : Lib.atoiAll s.data.toList with
  | ok v =>
    have hbd := Lib.atoiAll_bounds hk
    refine (Tryd.strconv_Atoi_ok s (by omega) _ hk w).mono ?_
    rintro e w' ⟨rfl, hw⟩
    refine ⟨_, _, rfl, hbd, ?_, .inl ⟨rfl, rfl⟩⟩
    rcases hw with rfl | ⟨t, rfl⟩
    · exact Only.refl _ _
    · exact Only.ofBelow (Lib.below_freeze ((Below.drew (Below.refl _ w)).alloc (Nat.le_refl _) _) (p := ⟨w.heap.size, _, none⟩) (Nat.le_refl _) _)
  | range =>
    obtain ⟨tp, p, hv⟩ := hran
    refine (Tryd.strconv_Atoi_range_var s (by omega) hk tp p w hv).mono ?_
    rintro e w' ⟨N, rfl, _, _, hb⟩
    refine ⟨_, _, rfl, ?_, Only.ofBelow hb, .inr ⟨⟨_, N, rfl⟩, fun v h => by cases h⟩⟩
    unfold Lib.atoiSat
    split <;> omega
  | _ =>
    obtain ⟨tp, p, hv⟩ := hsyn
    refine (Tryd.strconv_Atoi_bad_var s (by omega) (fun v h => by rw [hk] at h; cases h) (fun h => by rw [hk] at h; cases h) tp p w hv).mono ?_
    rintro e w' ⟨N, rfl, _, _, hb⟩
    exact ⟨_, _, rfl, by omega, Only.ofBelow hb, .inr ⟨⟨_, N, rfl⟩, fun v h => by cases h⟩⟩

end Go.Proofs.YtoofalchkedciaaDoor
