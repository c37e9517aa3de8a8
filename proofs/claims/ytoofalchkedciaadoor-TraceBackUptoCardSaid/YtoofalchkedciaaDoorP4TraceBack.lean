/-
  More facts on slices of ints: a value's form as one slice, whether it is empty or not.
  Slices of structs: addresses, pairs that came in.
-/
import Derived.Test.YtoofalchkedciaaDoorP3TraceBack
import Derived.Test.YtoofalchkedciaaDoorP2TraceBack
import Derived.Deep.SlicePairs
namespace Go.Proofs.YtoofalchkedciaaDoor
open Go.RowKit

theorem InInts.opt {w : World} {v : Value} {l : List Int} (h : InInts w v l) :
    ∃ a cap, v = .slice a l.length cap ∧ ∀ i, i < l.length → ∃ b off, a = some ⟨b, off, none⟩ ∧ w.cell? ⟨b, off + i, none⟩ = some (.int .i64 (nth l i)) := by
  rcases h.2 with ⟨rfl, a, cap, rfl, _⟩ | ⟨_, b, off, cap, rfl, _, _, hc⟩
  · exact ⟨a, cap, rfl, fun i hi => by simp at hi⟩
  · exact ⟨_, cap, rfl, fun i hi => ⟨b, off, rfl, hc i hi⟩⟩

theorem InInts.reads {w : World} {v : Value} {l : List Int} (h : InInts w v l) : Reads w v l := by
  rcases h.2 with ⟨rfl, a, cap, rfl, k1, k2⟩ | ⟨h0, b, off, cap, rfl, k1, k2, k3⟩
  · cases a with
    | none => rw [k2 rfl]; exact .inl ⟨rfl, .inl rfl⟩
    | some x => exact .inl ⟨rfl, .inr ⟨x, cap, rfl, k1⟩⟩
  · exact .inr ⟨h0, b, off, cap, rfl, k1, k2, k3⟩

theorem InInts.len {w : World} {v : Value} {l : List Int} (h : InInts w v l) : l.length ≤ maxLen := by
  rcases h.2 with ⟨rfl, _⟩ | ⟨_, b, off, cap, rfl, k1, k2, _⟩
  · exact Nat.zero_le _
  · omega

theorem InInts.bounds {w : World} {v : Value} {l : List Int} (h : InInts w v l) : ∀ x ∈ l, -9223372036854775808 ≤ x ∧ x ≤ 9223372036854775807 := fun x hx => bounds_i64 (h.1 x hx)

theorem Ints.opt {w : World} {base : Nat} {v : Value} {xs : List Int} (h : Ints w base v xs) :
    ∃ a cap, v = .slice a xs.length cap ∧ ∀ i, i < xs.length → ∃ g, a = some ⟨g, 0, none⟩ ∧ w.cell? ⟨g, i, none⟩ = some (.int .i64 (nth xs i)) := by
  rcases h.form with ⟨rfl, rfl⟩ | ⟨g, cap, rfl, _⟩
  · exact ⟨none, 0, rfl, fun i hi => by simp at hi⟩
  · exact ⟨_, cap, rfl, fun i hi => ⟨g, rfl, h.cell i hi⟩⟩

theorem Ints.own_lt {w : World} {base : Nat} {v : Value} {xs : List Int} (h : Ints w base v xs) : ∀ x ∈ own v, base ≤ x ∧ x < w.heap.size := fun x hx =>
  (World.ownsRow.lt h) x (by simpa [own] using hx)

/-- What was apart stays apart behind a call that keeps its blocks, or takes new ones. -/
theorem kin_apart {w : World} {fp fp' S : List Nat} (h : Kin w fp fp') (hS : ∀ x ∈ S, x < w.heap.size) (hd : ∀ x ∈ S, x ∉ fp) : ∀ x ∈ S, x ∉ fp' := fun x hx hx' => by
  rcases h x hx' with h1 | h1
  · exact hd x hx h1
  · have := hS x hx; omega

theorem apart_symm {A B : List Nat} (h : ∀ x ∈ A, x ∉ B) : ∀ x ∈ B, x ∉ A := fun x hx hx' => h x hx' hx

theorem kin_push {W : World} {v : Value} {g n cap : Nat} (h : g ∈ own v ∨ W.heap.size ≤ g) : Kin W (own v) (own (.slice (some ⟨g, 0, none⟩) n cap)) := fun x hx => by
  obtain rfl : x = g := by simpa [own, Value.ownBlock] using hx
  exact h

theorem kin_ge {w : World} {fp fp' : List Nat} {B : Nat} (h : Kin w fp fp') (h1 : ∀ x ∈ fp, B ≤ x) (h2 : B ≤ w.heap.size) : ∀ x ∈ fp', B ≤ x := fun x hx => by
  rcases h x hx with h3 | h3
  · exact h1 x h3
  · omega

theorem Only.kin {w0 w w' : World} {fp : List Nat} (h : Only [] w0 w) (k : Only fp w w') (hfp : ∀ x ∈ fp, w0.heap.size ≤ x) : Only [] w0 w' :=
  h.trans k fun x hx hl => absurd (hfp x hx) (by omega)

/-- A callee that leaves the world alone, met in a region that draws. -/
theorem quiet_eq {P : Program} {f : FuncId} {args : Array Value} {w : World} {n : Nat} {v : Value}
    (h : Calls P f args (w.drewN n) fun e w' => e = .returned v ∧ w.drewN n = w') : Calls P f args (w.drewN n) fun e w'' => e = .returned v ∧ ∃ m, w'' = w.drewN m :=
  h.mono fun _ _ ⟨he, hm⟩ => ⟨he, n, hm.symm⟩

theorem Reads.opt {w : World} {v : Value} {xs : List Int} (h : Reads w v xs) :
    ∃ a cap, v = .slice a xs.length cap ∧ ∀ i, i < xs.length → ∃ b off, a = some ⟨b, off, none⟩ ∧ w.cell? ⟨b, off + i, none⟩ = some (.int .i64 (nth xs i)) := by
  rcases h with ⟨rfl, rfl | ⟨x, cap, rfl, _⟩⟩ | ⟨_, b, off, cap, rfl, _, _, hc⟩
  · exact ⟨none, 0, rfl, fun i hi => by simp at hi⟩
  · exact ⟨_, cap, rfl, fun i hi => by simp at hi⟩
  · exact ⟨_, cap, rfl, fun i hi => ⟨b, off, rfl, hc i hi⟩⟩

theorem own_of {v : Value} {g : Nat} (h : v.ownBlock = some g) : g ∈ own v := by simp [own, h]

theorem own_slice (a : Option Addr) (n c n' c' : Nat) : own (.slice a n c) = own (.slice a n' c') := by cases a <;> rfl

theorem cell_drewN (w : World) (n : Nat) (p : Addr) : (w.drewN n).cell? p = w.cell? p := rfl

theorem size_alloc (w : World) (o : Obj) : (w.alloc o).heap.size = w.heap.size + 1 := by simp

/-- The length of a slice value. -/
def lenOfV : Value → Nat | .slice _ n _ => n | _ => 0

end Go.Proofs.YtoofalchkedciaaDoor

namespace Go.Proofs.YtoofalchkedciaaDoor
open Go.RowKit Go.Deep Go.ChangeShapes Go.WideShapes

theorem spot_none {w : World} {x : Addr} {v : Value} (h : w.cell? (x.add 0) = some v) : x.spot = none := by
  unfold World.cell? at h
  split at h
  · cases hsp : x.spot with
    | none => rfl
    | some y => simp [Addr.add, hsp] at h
  · cases h

theorem add_flat (b off n : Nat) : ({ block := b, off := off, spot := none } : Addr).add n = ⟨b, off + n, none⟩ := by
  unfold Addr.add
  split
  · rename_i h; subst h; rfl
  · rfl

/-- The value v is a slice of n pairs; the cells of the i-th are A i, B i. -/
def Pairs (w : World) (v : Value) (n : Nat) (A B : Nat → Value) : Prop :=
  ∃ a cap, v = .slice a n cap ∧ n ≤ cap ∧ cap ≤ maxLen ∧ (a = none → cap = 0) ∧ ∀ i, i < n → ∃ b off, a = some ⟨b, off, none⟩ ∧
    w.cell? ⟨b, off + i * 2, none⟩ = some (A i) ∧ w.cell? ⟨b, off + i * 2 + 1, none⟩ = some (B i)

theorem Pairs.only {w w' : World} {v : Value} {n : Nat} {A B : Nat → Value} {S : List Nat} (h : Pairs w v n A B) (ho : Only S w w') (hS : ∀ x ∈ own v, x ∉ S) : Pairs w' v n A B := by
  obtain ⟨a, cap, rfl, h1, h2, h0, h3⟩ := h
  refine ⟨a, cap, rfl, h1, h2, h0, fun i hi => ?_⟩
  obtain ⟨b, off, rfl, c0, c1⟩ := h3 i hi
  have hb : b ∉ S := hS b (by simp [own, Value.ownBlock])
  exact ⟨b, off, rfl, (ho.cell (p := ⟨b, _, none⟩) (cell_lt c0) hb).trans c0, (ho.cell (p := ⟨b, _, none⟩) (cell_lt c1) hb).trans c1⟩

theorem Pairs.same {w w' : World} {v : Value} {n : Nat} {A B : Nat → Value} (h : Pairs w v n A B) (ho : Only [] w w') : Pairs w' v n A B := h.only ho (by simp)

set_option maxRecDepth 100000 in
/-- A slice of pairs that came in. -/
theorem open_pairs {H : Type} {enc : TypeId × Value → H} {W : World} {base : Nat} {t e : TypeId} {f0 f1 : Field} {v : Value} {d : DataW H} {p : List MemPlace}
    (ht : Tryd.prog.underlying t = some (.slice e)) (he : Tryd.prog.underlying e = some (.struct #[f0, f1]))
    (ce : Tryd.prog.cellsOf e = 2) (o0 : f0.offset = 0) (o1 : f1.offset = 1) (c0 : Tryd.prog.cellsOf f0.type = 1) (c1 : Tryd.prog.cellsOf f1.type = 1)
    (hv : Value.okWide Tryd.prog W .any base t v) (h : DataW.Trod enc Tryd.prog W 0 (fun _ => true) true t v d p) :
    ∃ (n : Nat) (A B : Nat → Value), Pairs W v n A B ∧ ∀ i, i < n → ∃ (k : Nat) (x y : DataW H × List MemPlace),
      DataW.trod enc Tryd.prog W 0 (fun _ => true) true k f0.type [A i] = some x ∧ DataW.trod enc Tryd.prog W 0 (fun _ => true) true k f1.type [B i] = some y := by
  obtain ⟨s, len, cap, rfl⟩ := okWide_slice ht hv
  obtain ⟨fuel, hf⟩ := h
  rcases open_slice_pairs ht he ce o0 o1 c0 c1 hf with ⟨hcs, _⟩ | ⟨a, len', cap', m, n, V0, V1, D0, D1, P0, P1, hcs, _, hl, hm, hmm, _, hi⟩
  · simp [Value.cells] at hcs
    obtain ⟨rfl, rfl, rfl⟩ := hcs
    exact ⟨0, fun _ => .nilIface, fun _ => .nilIface, ⟨none, 0, rfl, Nat.le_refl _, Nat.zero_le _, fun _ => rfl, fun i hi => by omega⟩, fun i hi => by omega⟩
  · simp [Value.cells] at hcs
    obtain ⟨rfl, rfl, rfl⟩ := hcs
    have hlm : len ≤ m := by rw [hmm]; simp; omega
    refine ⟨len, V0, V1, ⟨_, _, rfl, hl, hm, (fun h => by cases h), fun i hi' => ?_⟩, fun i hi' => ?_⟩
    · obtain ⟨k0, _, _, _⟩ := hi 0 (by omega)
      have hs := spot_none (x := a) (by simpa using k0)
      obtain ⟨b, off, spot⟩ := a
      obtain rfl : spot = none := hs
      obtain ⟨k0, k1, _, _⟩ := hi i (by omega)
      rw [add_flat] at k0 k1
      exact ⟨b, off, rfl, k0, by rw [Nat.add_assoc]; exact k1⟩
    · obtain ⟨_, _, k2, k3⟩ := hi i (by omega)
      exact ⟨n, _, _, k2, k3⟩

end Go.Proofs.YtoofalchkedciaaDoor
