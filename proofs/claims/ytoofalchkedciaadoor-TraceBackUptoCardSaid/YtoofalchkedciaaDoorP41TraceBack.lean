/-
  A strings.Builder of the call's own: what it holds, and the frame.
-/
import Derived.Test.YtoofalchkedciaaDoorP5TraceBack
import Derived.Test.YtoofalchkedciaaDoorP7TraceBack
namespace Go.Proofs.YtoofalchkedciaaDoor
open Go.RowKit Go.Deep

/-- The builder at b holds the bytes l; its blocks lie from B on. -/
def BuildAt (w : World) (B b : Nat) (l : List UInt8) : Prop := Lib.IsBuilderF 76 5 B b (Lib.byteCells l) w
/-- Nothing but the builder, and rows of bytes from B on, has changed. -/
def Around (B b : Nat) (w w' : World) : Prop := Below B w w' ∧ Lib.OthersKept 5 (some b) w w'

theorem build_new (w : World) : BuildAt (w.alloc (.cells #[.pointer none, .slice none 0 0] 76)) w.heap.size w.heap.size [] :=
  .inl ⟨Nat.le_refl _, .slice none 0 0, heap_alloc_new _ _, World.ownsRowF_of (World.ownsRow_nil _ _ _ _), by simp [Value.ownBlock]⟩
theorem BuildAt.alloc {w : World} {B b : Nat} {l : List UInt8} (h : BuildAt w B b l) (o : Obj) : BuildAt (w.alloc o) B b l := Lib.IsBuilderF.alloc h o
theorem BuildAt.obj {w : World} {B b : Nat} {l : List UInt8} (h : BuildAt w B b l) : B ≤ b ∧ b < w.heap.size := by
  have key : ∀ p, Lib.BuilderAtF 76 5 B b p (Lib.byteCells l) w → B ≤ b ∧ b < w.heap.size := fun p ⟨h1, v, h2, _⟩ => ⟨h1, by
    rcases Nat.lt_or_ge b w.heap.size with h' | h'
    · exact h'
    · simp [Array.getElem?_eq_none h'] at h2⟩
  rcases h with h | h
  · exact key _ h
  · exact key _ h

theorem build_write (B b : Nat) (l : List UInt8) (s : ByteArray) (w : World) (h : BuildAt w B b l) (hlen : l.length + s.size ≤ 1000000) :
    Calls Tryd.prog 31 #[.pointer (some ⟨b, 0, none⟩), .string s] w fun e w' => e = .returned (.tuple #[.int .i64 s.size, .nilIface]) ∧ BuildAt w' B b (l ++ s.data.toList) ∧ Around B b w w' := by
  refine (Tryd.Builder_WriteString_k B b _ s w h (by rw [Lib.byteCells_length]; omega) (by have := h.obj; omega)).mono ?_
  rintro e w' ⟨he, h1, h2, h3⟩
  refine ⟨he, .inr ?_, h2, h3⟩
  rw [Lib.byteCells_append]
  exact h1
theorem build_string (B b : Nat) (l : List UInt8) (w : World) (h : BuildAt w B b l) :
    Calls Tryd.prog 33 #[.pointer (some ⟨b, 0, none⟩)] w fun e w' => e = .returned (.string ⟨l.toArray⟩) ∧ BuildAt w' B b l ∧ Around B b w w' :=
  (Tryd.Builder_String_any_k B b l w h (by have := h.obj; omega)).mono fun e w' ⟨he, h1, h2, h3⟩ => ⟨he, h1, h2, h3⟩

theorem Only.around {w wk wm : World} {B b : Nat} (h : Only [] w wk) (hb : Around B b wk wm) (hB : w.heap.size ≤ B) : Only [] w wm :=
  ⟨hb.1.os.trans h.os, hb.1.tape.trans h.tape, hb.1.output.trans h.output, Nat.le_trans h.size hb.1.size, fun k hk hn => (hb.1.block k (by omega)).trans (h.block k hk hn)⟩
theorem Around.obj {B b : Nat} {w w' : World} (h : Around B b w w') {k : Nat} {cs : Array Value} {t : TypeId} (hk : w.heap[k]? = some (.cells cs t (0, 0))) (hb : k ≠ b) (ht : t ≠ 5) : w'.heap[k]? = some (.cells cs t (0, 0)) :=
  h.2 k _ hk (fun e => hb (Option.some.inj e)) (fun c fz e => ht (by injection e))
theorem obj_lt {w : World} {b : Nat} {o : Obj} (h : w.heap[b]? = some o) : b < w.heap.size := by
  rcases Nat.lt_or_ge b w.heap.size with h' | h'
  · exact h'
  · simp [Array.getElem?_eq_none h'] at h
theorem obj_only {w w' : World} {b : Nat} {o : Obj} (h : w.heap[b]? = some o) (ho : Only [] w w') : w'.heap[b]? = some o := (ho.block b (obj_lt h) (by simp)).trans h
theorem BuildAt.same {w w' : World} {B b : Nat} {l : List UInt8} (h : BuildAt w B b l) (ho : Only [] w w') : BuildAt w' B b l := by
  have key : ∀ p, Lib.BuilderAtF 76 5 B b p (Lib.byteCells l) w → Lib.BuilderAtF 76 5 B b p (Lib.byteCells l) w' := fun p ⟨h1, v, h2, h3, h4⟩ => by
    refine ⟨h1, v, obj_only h2 ho, ?_, h4⟩
    obtain ⟨q1, q2⟩ := h3
    refine ⟨q1, ?_⟩
    rcases q2 with q2 | ⟨g, cap, cur, fz, e1, e2, e3, e4⟩
    · exact .inl q2
    · exact .inr ⟨g, cap, cur, fz, e1, e2, obj_only e3 ho, e4⟩
  rcases h with h | h
  · exact .inl (key _ h)
  · exact .inr (key _ h)

end Go.Proofs.YtoofalchkedciaaDoor
