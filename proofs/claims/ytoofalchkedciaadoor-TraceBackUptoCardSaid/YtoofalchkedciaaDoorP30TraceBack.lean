/-
  Maps that the call itself made, by what they hold: a function of the key. No program is named here.
-/
import Derived.Test.YtoofalchkedciaaDoorP1TraceBack
import Derived.Maps.Own
namespace Go.Proofs.YtoofalchkedciaaDoor
open Go.RowKit Go.Maps
open Go.ChangeMaps (setBlock heap_setBlock_same heap_setBlock_other)

/-- Block b is a map of n entries, which holds f. -/
def MapOf (w : World) (P : Program) (k : TypeId) (b n : Nat) (f : Value → Option Value) : Prop :=
  ∃ (es : Array MapEntry) (clock : Nat), w.heap[b]? = some (.map es clock) ∧ es.size = n ∧ (∀ e ∈ es.toList, ∃ l, keyOf P k e.key = some l) ∧ es.toList.Pairwise (fun x y => x.key ≠ y.key) ∧
    (∀ e ∈ es.toList, f e.key = some e.val) ∧ ∀ x v, f x = some v → ∃ e ∈ es.toList, e.key = x

theorem MapOf.lt {w : World} {P : Program} {k : TypeId} {b n : Nat} {f : Value → Option Value} (h : MapOf w P k b n f) : b < w.heap.size := by
  obtain ⟨es, clock, hb, _⟩ := h
  exact (Array.getElem?_eq_some_iff.1 hb).1
theorem MapOf.only {w w' : World} {P : Program} {k : TypeId} {b n : Nat} {f : Value → Option Value} {S : List Nat} (h : MapOf w P k b n f) (ho : Only S w w') (hb : b ∉ S) : MapOf w' P k b n f := by
  have hl := h.lt
  obtain ⟨es, clock, h1, h2⟩ := h
  exact ⟨es, clock, (ho.block b hl hb).trans h1, h2⟩
theorem MapOf.congr {w : World} {P : Program} {k : TypeId} {b n : Nat} {f g : Value → Option Value} (h : MapOf w P k b n f) (e : ∀ x, f x = g x) : MapOf w P k b n g := by
  rw [← funext e]; exact h
theorem MapOf.made (w : World) (P : Program) (k : TypeId) : MapOf (w.alloc (.map #[] 0)) P k w.heap.size 0 (fun _ => none) :=
  ⟨#[], 0, heap_alloc_new w _, rfl, by simp, by simp, by simp, by simp⟩
theorem MapOf.none {w : World} {P : Program} {k : TypeId} {b n : Nat} {f : Value → Option Value} (h : MapOf w P k b n f) {x : Value} (hx : keyOf P k x = .none) : f x = .none := by
  obtain ⟨es, clock, _, _, hk, _, _, h2⟩ := h
  cases e : f x with
  | none => rfl
  | some v =>
    obtain ⟨y, hy, rfl⟩ := h2 x v e
    obtain ⟨l, hl⟩ := hk y hy
    rw [hl] at hx; cases hx

/-- Asked: 'm[x]' (c = false), 'v, ok := m[x]' (c = true). -/
theorem MapOf.look {w : World} {P : Program} {t k e : TypeId} {b n : Nat} {f : Value → Option Value} (h : MapOf w P k b n f) (c : Bool) (K : Keyed P k) (ht : P.underlying t = some (.map k e)) {z : Value} (hz : (zeroValue e).run P w = .ok z w)
    {x : Value} {l : Lit} (hx : keyOf P k x = some l) : (Instr.lookup t (.map (some b)) x c).run P w = .ok (if c then .tuple #[(f x).getD z, .bool (f x).isSome] else (f x).getD z) w := by
  obtain ⟨es, clock, hb, _, hk, _, h1, h2⟩ := h
  rcases K.find w hx es.toList hk with ⟨r1, r2⟩ | ⟨j, e0, r1, r2, r3⟩
  · have hf : f x = .none := by
      cases hv : f x with
      | none => rfl
      | some v =>
        obtain ⟨y, hy, e⟩ := h2 x v hv
        exact absurd e (r2 y hy)
    rw [hf]
    simp [Instr.lookup, run_underlying ht, MapKept.run_getObj_map hb, K.check w _ hx, r1, hz, Result.andThen]
  · have hf : f x = some e0.val := by rw [← r3]; exact h1 e0 (List.mem_of_getElem? r2)
    rw [hf]
    simp [Instr.lookup, run_underlying ht, MapKept.run_getObj_map hb, K.check w _ hx, r1, Result.andThen]

open Classical in
/-- Written: 'm[x] = v'. -/
noncomputable def updV? (f : Value → Option Value) (x v : Value) : Value → Option Value := fun y => if y = x then some v else f y

open Classical in
theorem MapOf.put {w : World} {P : Program} {t k e : TypeId} {b n : Nat} {f : Value → Option Value} (h : MapOf w P k b n f) (K : Keyed P k) (ht : P.underlying t = some (.map k e)) {x : Value} {l : Lit} (hx : keyOf P k x = some l) (v : Value) :
    ∃ w', (Instr.mapUpdate t (.map (some b)) x v).run P w = .ok () w' ∧ MapOf w' P k b (if (f x).isSome then n else n + 1) (updV? f x v) ∧ Only [b] w w' := by
  obtain ⟨es, clock, hb, hn, hk, hd, h1, h2⟩ := h
  have ho : ∀ es' clock', Only [b] w (setBlock w b (.map es' clock')) := fun es' clock' =>
    ⟨rfl, rfl, rfl, by simp [setBlock], fun i _ hi => heap_setBlock_other hb _ (fun e => hi (by simp [e]))⟩
  rcases K.find w hx es.toList hk with ⟨r1, r2⟩ | ⟨j, e0, r1, r2, r3⟩
  · have hf : f x = .none := by
      cases hv : f x with
      | none => rfl
      | some v =>
        obtain ⟨y, hy, e⟩ := h2 x v hv
        exact absurd e (r2 y hy)
    refine ⟨setBlock w b (.map (es.push ⟨x, v, clock⟩) (clock + 1)), ?_, ⟨_, _, heap_setBlock_same hb _, ?_, ?_, ?_, ?_, ?_⟩, ho _ _⟩
    · simp [Instr.mapUpdate, run_underlying ht, MapKept.run_getObj_map hb, K.check w false hx, r1, MapKept.run_setObj_map _ hb, Result.andThen, setBlock]
    · rw [hf]; simp [hn]
    · intro y hy
      simp only [Array.toList_push, List.mem_append, List.mem_singleton] at hy
      rcases hy with hy | rfl
      · exact hk y hy
      · exact ⟨l, hx⟩
    · rw [Array.toList_push, List.pairwise_append]
      exact ⟨hd, by simp, fun a ha c hc => by simp at hc; subst hc; exact r2 a ha⟩
    · intro y hy
      simp only [Array.toList_push, List.mem_append, List.mem_singleton] at hy
      unfold updV?
      rcases hy with hy | rfl
      · rw [if_neg (r2 y hy)]; exact h1 y hy
      · rw [if_pos rfl]
    · intro y u hy
      unfold updV? at hy
      by_cases e : y = x
      · exact ⟨⟨x, v, clock⟩, by simp, e.symm⟩
      · rw [if_neg e] at hy
        obtain ⟨z, hz, hze⟩ := h2 y u hy
        exact ⟨z, by simp [hz], hze⟩
  · have hm0 : e0 ∈ es.toList := List.mem_of_getElem? r2
    have hf : f x = some e0.val := by rw [← r3]; exact h1 e0 hm0
    have hj : j < es.size := by
      rcases Nat.lt_or_ge j es.size with hlt | hge
      · exact hlt
      · rw [List.getElem?_eq_none (by simpa using hge)] at r2; cases r2
    have hej : es[j]? = some e0 := by simpa using r2
    refine ⟨setBlock w b (.map (es.modify j fun e => { e with key := x, val := v }) clock), ?_, ⟨_, _, heap_setBlock_same hb _, ?_, ?_, ?_, ?_, ?_⟩, ho _ _⟩
    · simp [Instr.mapUpdate, run_underlying ht, MapKept.run_getObj_map hb, K.check w false hx, r1, hej, r3, K.stays w hx, MapKept.run_setObj_map _ hb, Result.andThen, setBlock]
    · rw [hf]; simp [hn]
    all_goals
      have hel : (es.modify j fun e => { e with key := x, val := v }).toList = es.toList.set j ⟨x, v, e0.born⟩ := by
        apply List.ext_getElem?
        intro i
        rw [Array.getElem?_toList, Array.getElem?_modify, List.getElem?_set]
        by_cases e : j = i
        · subst e
          have hgj : es[j] = e0 := by rw [Array.getElem?_eq_getElem hj] at hej; exact Option.some.inj hej
          simp [hj, hgj]
        · simp [e]
      rw [hel]
    · intro y hy
      rcases List.mem_or_eq_of_mem_set hy with hy | rfl
      · exact hk y hy
      · exact ⟨l, hx⟩
    · rw [List.pairwise_iff_getElem] at hd ⊢
      intro a c ha hc hac
      simp only [List.length_set] at ha hc
      have hjl : es.toList[j]'(by simpa using hj) = e0 := by
        have := List.getElem?_eq_getElem (l := es.toList) (i := j) (by simpa using hj)
        rw [this] at r2; exact Option.some.inj r2
      rw [List.getElem_set, List.getElem_set]
      by_cases e1 : j = a
      · rw [if_pos e1, if_neg (by omega)]
        have := hd a c ha hc hac
        simp only [← e1, hjl, r3] at this
        exact this
      · rw [if_neg e1]
        by_cases e2 : j = c
        · rw [if_pos e2]
          have := hd a c ha hc hac
          simp only [← e2, hjl, r3] at this
          exact this
        · rw [if_neg e2]
          exact hd a c ha hc hac
    · intro y hy
      unfold updV?
      obtain ⟨i, hi, rfl⟩ := List.getElem_of_mem hy
      simp only [List.length_set] at hi
      rw [List.getElem_set]
      by_cases e : j = i
      · simp [e]
      · rw [if_neg e]
        have hne : (es.toList[i]).key ≠ x := by
          have hjl : es.toList[j]'(by simpa using hj) = e0 := by
            have := List.getElem?_eq_getElem (l := es.toList) (i := j) (by simpa using hj)
            rw [this] at r2; exact Option.some.inj r2
          rw [List.pairwise_iff_getElem] at hd
          rcases Nat.lt_or_ge i j with hlt | hge
          · have := hd i j hi (by simpa using hj) hlt
            rw [hjl, r3] at this; exact this
          · have := hd j i (by simpa using hj) hi (by omega)
            rw [hjl, r3] at this; exact Ne.symm this
        rw [if_neg hne]
        exact h1 _ (List.getElem_mem hi)
    · intro y u hy
      unfold updV? at hy
      by_cases e : y = x
      · subst e
        exact ⟨⟨y, v, e0.born⟩, by
          rw [List.mem_iff_getElem?]
          exact ⟨j, by rw [List.getElem?_set_self (by simpa using hj)]⟩, rfl⟩
      · rw [if_neg e] at hy
        obtain ⟨z, hz, hze⟩ := h2 y u hy
        obtain ⟨i, hi, rfl⟩ := List.getElem_of_mem hz
        have hij : j ≠ i := fun e2 => by
          subst e2
          have := List.getElem?_eq_getElem (l := es.toList) hi
          rw [this] at r2
          rw [Option.some.inj r2, r3] at hze
          exact e hze.symm
        exact ⟨es.toList[i], by
          rw [List.mem_iff_getElem?]
          exact ⟨i, by rw [List.getElem?_set_ne hij, List.getElem?_eq_getElem hi]⟩, hze⟩

/-- How many there are. -/
theorem MapOf.size {w : World} {P : Program} {k : TypeId} {b n : Nat} {f : Value → Option Value} (h : MapOf w P k b n f) : ∃ (es : Array MapEntry) (clock : Nat), w.heap[b]? = some (.map es clock) ∧ es.size = n := by
  obtain ⟨es, clock, hb, hn, _⟩ := h
  exact ⟨es, clock, hb, hn⟩

end Go.Proofs.YtoofalchkedciaaDoor
