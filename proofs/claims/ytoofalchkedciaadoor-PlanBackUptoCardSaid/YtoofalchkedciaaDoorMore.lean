/-
  More facts on slices of ints: a value's form as one slice, whether it is empty or not.
-/
import Derived.Test.YtoofalchkedciaaDoorInts
import Derived.Test.YtoofalchkedciaaDoorFrame
namespace Go.Proofs.YtoofalchkedciaaDoor
open Go.RowKit

theorem InInts.opt {w : World} {v : Value} {l : List Int} (h : InInts w v l) :
    ∃ a cap, v = .slice a l.length cap ∧ ∀ i, i < l.length → ∃ b off, a = some ⟨b, off, none⟩ ∧ w.cell? ⟨b, off + i, none⟩ = some (.int .i64 (nth l i)) := by
  rcases h.2 with ⟨rfl, a, cap, rfl, _⟩ | ⟨_, b, off, cap, rfl, _, _, hc⟩
  · exact ⟨a, cap, rfl, fun i hi => by simp at hi⟩
  · exact ⟨_, cap, rfl, fun i hi => ⟨b, off, rfl, hc i hi⟩⟩

theorem InInts.reads {w : World} {v : Value} {l : List Int} (h : InInts w v l) : Reads w v l := by
  rcases h.2 with ⟨rfl, a, cap, rfl, k1, k2⟩ | ⟨h0, b, off, cap, rfl, k1, k2, k3⟩
  · cases a with
    | none => rw [k2 rfl]; exact .inl ⟨rfl, .inl rfl⟩
    | some x => exact .inl ⟨rfl, .inr ⟨x, cap, rfl, k1⟩⟩
  · exact .inr ⟨h0, b, off, cap, rfl, k1, k2, k3⟩

theorem InInts.len {w : World} {v : Value} {l : List Int} (h : InInts w v l) : l.length ≤ maxLen := by
  rcases h.2 with ⟨rfl, _⟩ | ⟨_, b, off, cap, rfl, k1, k2, _⟩
  · exact Nat.zero_le _
  · omega

theorem InInts.bounds {w : World} {v : Value} {l : List Int} (h : InInts w v l) : ∀ x ∈ l, -9223372036854775808 ≤ x ∧ x ≤ 9223372036854775807 := fun x hx => bounds_i64 (h.1 x hx)

theorem Ints.opt {w : World} {base : Nat} {v : Value} {xs : List Int} (h : Ints w base v xs) :
    ∃ a cap, v = .slice a xs.length cap ∧ ∀ i, i < xs.length → ∃ g, a = some ⟨g, 0, none⟩ ∧ w.cell? ⟨g, i, none⟩ = some (.int .i64 (nth xs i)) := by
  rcases h.form with ⟨rfl, rfl⟩ | ⟨g, cap, rfl, _⟩
  · exact ⟨none, 0, rfl, fun i hi => by simp at hi⟩
  · exact ⟨_, cap, rfl, fun i hi => ⟨g, rfl, h.cell i hi⟩⟩

theorem Ints.own_lt {w : World} {base : Nat} {v : Value} {xs : List Int} (h : Ints w base v xs) : ∀ x ∈ own v, base ≤ x ∧ x < w.heap.size := fun x hx =>
  (World.ownsRow.lt h) x (by simpa [own] using hx)

/-- What was apart stays apart behind a call that keeps its blocks, or takes new ones. -/
theorem kin_apart {w : World} {fp fp' S : List Nat} (h : Kin w fp fp') (hS : ∀ x ∈ S, x < w.heap.size) (hd : ∀ x ∈ S, x ∉ fp) : ∀ x ∈ S, x ∉ fp' := fun x hx hx' => by
  rcases h x hx' with h1 | h1
  · exact hd x hx h1
  · have := hS x hx; omega

theorem apart_symm {A B : List Nat} (h : ∀ x ∈ A, x ∉ B) : ∀ x ∈ B, x ∉ A := fun x hx hx' => h x hx' hx

theorem kin_push {W : World} {v : Value} {g n cap : Nat} (h : g ∈ own v ∨ W.heap.size ≤ g) : Kin W (own v) (own (.slice (some ⟨g, 0, none⟩) n cap)) := fun x hx => by
  obtain rfl : x = g := by simpa [own, Value.ownBlock] using hx
  exact h

theorem kin_ge {w : World} {fp fp' : List Nat} {B : Nat} (h : Kin w fp fp') (h1 : ∀ x ∈ fp, B ≤ x) (h2 : B ≤ w.heap.size) : ∀ x ∈ fp', B ≤ x := fun x hx => by
  rcases h x hx with h3 | h3
  · exact h1 x h3
  · omega

theorem Only.kin {w0 w w' : World} {fp : List Nat} (h : Only [] w0 w) (k : Only fp w w') (hfp : ∀ x ∈ fp, w0.heap.size ≤ x) : Only [] w0 w' :=
  h.trans k fun x hx hl => absurd (hfp x hx) (by omega)

/-- A callee that leaves the world alone, met in a region that draws. -/
theorem quiet_eq {P : Program} {f : FuncId} {args : Array Value} {w : World} {n : Nat} {v : Value}
    (h : Calls P f args (w.drewN n) fun e w' => e = .returned v ∧ w.drewN n = w') : Calls P f args (w.drewN n) fun e w'' => e = .returned v ∧ ∃ m, w'' = w.drewN m :=
  h.mono fun _ _ ⟨he, hm⟩ => ⟨he, n, hm.symm⟩

theorem Reads.opt {w : World} {v : Value} {xs : List Int} (h : Reads w v xs) :
    ∃ a cap, v = .slice a xs.length cap ∧ ∀ i, i < xs.length → ∃ b off, a = some ⟨b, off, none⟩ ∧ w.cell? ⟨b, off + i, none⟩ = some (.int .i64 (nth xs i)) := by
  rcases h with ⟨rfl, rfl | ⟨x, cap, rfl, _⟩⟩ | ⟨_, b, off, cap, rfl, _, _, hc⟩
  · exact ⟨none, 0, rfl, fun i hi => by simp at hi⟩
  · exact ⟨_, cap, rfl, fun i hi => by simp at hi⟩
  · exact ⟨_, cap, rfl, fun i hi => ⟨b, off, rfl, hc i hi⟩⟩

theorem own_of {v : Value} {g : Nat} (h : v.ownBlock = some g) : g ∈ own v := by simp [own, h]

theorem own_slice (a : Option Addr) (n c n' c' : Nat) : own (.slice a n c) = own (.slice a n' c') := by cases a <;> rfl

theorem cell_drewN (w : World) (n : Nat) (p : Addr) : (w.drewN n).cell? p = w.cell? p := rfl

theorem size_alloc (w : World) (o : Obj) : (w.alloc o).heap.size = w.heap.size + 1 := by simp

/-- The length of a slice value. -/
def lenOfV : Value → Nat | .slice _ n _ => n | _ => 0

end Go.Proofs.YtoofalchkedciaaDoor
