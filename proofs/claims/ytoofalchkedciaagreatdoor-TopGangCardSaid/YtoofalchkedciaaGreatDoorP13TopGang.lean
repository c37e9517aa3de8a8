/-
  Maps that the call itself made, by what they hold: a function of the key. No program is named here.
  Maps that the call itself made, by what they hold, and each entry's stamp. No program is named here.
-/
import Derived.Test.YtoofalchkedciaaGreatDoorP1TopGang
import Derived.Maps.Own
import Derived.WideKeyEntry
namespace Go.Proofs.YtoofalchkedciaaGreatDoor
open Go.RowKit Go.Maps
open Go.ChangeMaps (setBlock heap_setBlock_same heap_setBlock_other)

/-- Block b is a map of n entries, which holds f. -/
def MapOf (w : World) (P : Program) (k : TypeId) (b n : Nat) (f : Value → Option Value) : Prop :=
  ∃ (es : Array MapEntry) (clock : Nat), w.heap[b]? = some (.map es clock) ∧ es.size = n ∧ (∀ e ∈ es.toList, ∃ l, keyOf P k e.key = some l) ∧ es.toList.Pairwise (fun x y => x.key ≠ y.key) ∧
    (∀ e ∈ es.toList, f e.key = some e.val) ∧ ∀ x v, f x = some v → ∃ e ∈ es.toList, e.key = x

theorem MapOf.lt {w : World} {P : Program} {k : TypeId} {b n : Nat} {f : Value → Option Value} (h : MapOf w P k b n f) : b < w.heap.size := by
  obtain ⟨es, clock, hb, _⟩ := h
  exact (Array.getElem?_eq_some_iff.1 hb).1
theorem MapOf.only {w w' : World} {P : Program} {k : TypeId} {b n : Nat} {f : Value → Option Value} {S : List Nat} (h : MapOf w P k b n f) (ho : Only S w w') (hb : b ∉ S) : MapOf w' P k b n f := by
  have hl := h.lt
  obtain ⟨es, clock, h1, h2⟩ := h
  exact ⟨es, clock, (ho.block b hl hb).trans h1, h2⟩
theorem MapOf.congr {w : World} {P : Program} {k : TypeId} {b n : Nat} {f g : Value → Option Value} (h : MapOf w P k b n f) (e : ∀ x, f x = g x) : MapOf w P k b n g := by
  rw [← funext e]; exact h
theorem MapOf.made (w : World) (P : Program) (k : TypeId) : MapOf (w.alloc (.map #[] 0)) P k w.heap.size 0 (fun _ => none) :=
  ⟨#[], 0, heap_alloc_new w _, rfl, by simp, by simp, by simp, by simp⟩
theorem MapOf.none {w : World} {P : Program} {k : TypeId} {b n : Nat} {f : Value → Option Value} (h : MapOf w P k b n f) {x : Value} (hx : keyOf P k x = .none) : f x = .none := by
  obtain ⟨es, clock, _, _, hk, _, _, h2⟩ := h
  cases e : f x with
  | none => rfl
  | some v =>
    obtain ⟨y, hy, rfl⟩ := h2 x v e
    obtain ⟨l, hl⟩ := hk y hy
    rw [hl] at hx; cases hx

/-- Asked: 'm[x]' (c = false), 'v, ok := m[x]' (c = true). -/
theorem MapOf.look {w : World} {P : Program} {t k e : TypeId} {b n : Nat} {f : Value → Option Value} (h : MapOf w P k b n f) (c : Bool) (K : Keyed P k) (ht : P.underlying t = some (.map k e)) {z : Value} (hz : (zeroValue e).run P w = .ok z w)
    {x : Value} {l : Lit} (hx : keyOf P k x = some l) : (Instr.lookup t (.map (some b)) x c).run P w = .ok (if c then .tuple #[(f x).getD z, .bool (f x).isSome] else (f x).getD z) w := by
  obtain ⟨es, clock, hb, _, hk, _, h1, h2⟩ := h
  rcases K.find w hx es.toList hk with ⟨r1, r2⟩ | ⟨j, e0, r1, r2, r3⟩
  · have hf : f x = .none := by
      cases hv : f x with
      | none => rfl
      | some v =>
        obtain ⟨y, hy, e⟩ := h2 x v hv
        exact absurd e (r2 y hy)
    rw [hf]
    simp [Instr.lookup, run_underlying ht, MapKept.run_getObj_map hb, K.check w _ hx, r1, hz, Result.andThen]
  · have hf : f x = some e0.val := by rw [← r3]; exact h1 e0 (List.mem_of_getElem? r2)
    rw [hf]
    simp [Instr.lookup, run_underlying ht, MapKept.run_getObj_map hb, K.check w _ hx, r1, Result.andThen]

open Classical in
/-- Written: 'm[x] = v'. -/
noncomputable def updV? (f : Value → Option Value) (x v : Value) : Value → Option Value := fun y => if y = x then some v else f y

open Classical in
theorem MapOf.put {w : World} {P : Program} {t k e : TypeId} {b n : Nat} {f : Value → Option Value} (h : MapOf w P k b n f) (K : Keyed P k) (ht : P.underlying t = some (.map k e)) {x : Value} {l : Lit} (hx : keyOf P k x = some l) (v : Value) :
    ∃ w', (Instr.mapUpdate t (.map (some b)) x v).run P w = .ok () w' ∧ MapOf w' P k b (if (f x).isSome then n else n + 1) (updV? f x v) ∧ Only [b] w w' := by
  obtain ⟨es, clock, hb, hn, hk, hd, h1, h2⟩ := h
  have ho : ∀ es' clock', Only [b] w (setBlock w b (.map es' clock')) := fun es' clock' =>
    ⟨rfl, rfl, rfl, by simp [setBlock], fun i _ hi => heap_setBlock_other hb _ (fun e => hi (by simp [e]))⟩
  rcases K.find w hx es.toList hk with ⟨r1, r2⟩ | ⟨j, e0, r1, r2, r3⟩
  · have hf : f x = .none := by
      cases hv : f x with
      | none => rfl
      | some v =>
        obtain ⟨y, hy, e⟩ := h2 x v hv
        exact absurd e (r2 y hy)
    refine ⟨setBlock w b (.map (es.push ⟨x, v, clock⟩) (clock + 1)), ?_, ⟨_, _, heap_setBlock_same hb _, ?_, ?_, ?_, ?_, ?_⟩, ho _ _⟩
    · simp [Instr.mapUpdate, run_underlying ht, MapKept.run_getObj_map hb, K.check w false hx, r1, MapKept.run_setObj_map _ hb, Result.andThen, setBlock]
    · rw [hf]; simp [hn]
    · intro y hy
      simp only [Array.toList_push, List.mem_append, List.mem_singleton] at hy
      rcases hy with hy | rfl
      · exact hk y hy
      · exact ⟨l, hx⟩
    · rw [Array.toList_push, List.pairwise_append]
      exact ⟨hd, by simp, fun a ha c hc => by simp at hc; subst hc; exact r2 a ha⟩
    · intro y hy
      simp only [Array.toList_push, List.mem_append, List.mem_singleton] at hy
      unfold updV?
      rcases hy with hy | rfl
      · rw [if_neg (r2 y hy)]; exact h1 y hy
      · rw [if_pos rfl]
    · intro y u hy
      unfold updV? at hy
      by_cases e : y = x
      · exact ⟨⟨x, v, clock⟩, by simp, e.symm⟩
      · rw [if_neg e] at hy
        obtain ⟨z, hz, hze⟩ := h2 y u hy
        exact ⟨z, by simp [hz], hze⟩
  · have hm0 : e0 ∈ es.toList := List.mem_of_getElem? r2
    have hf : f x = some e0.val := by rw [← r3]; exact h1 e0 hm0
    have hj : j < es.size := by
      rcases Nat.lt_or_ge j es.size with hlt | hge
      · exact hlt
      · rw [List.getElem?_eq_none (by simpa using hge)] at r2; cases r2
    have hej : es[j]? = some e0 := by simpa using r2
    refine ⟨setBlock w b (.map (es.modify j fun e => { e with key := x, val := v }) clock), ?_, ⟨_, _, heap_setBlock_same hb _, ?_, ?_, ?_, ?_, ?_⟩, ho _ _⟩
    · simp [Instr.mapUpdate, run_underlying ht, MapKept.run_getObj_map hb, K.check w false hx, r1, hej, r3, K.stays w hx, MapKept.run_setObj_map _ hb, Result.andThen, setBlock]
    · rw [hf]; simp [hn]
    all_goals
      have hel : (es.modify j fun e => { e with key := x, val := v }).toList = es.toList.set j ⟨x, v, e0.born⟩ := by
        apply List.ext_getElem?
        intro i
        rw [Array.getElem?_toList, Array.getElem?_modify, List.getElem?_set]
        by_cases e : j = i
        · subst e
          have hgj : es[j] = e0 := by rw [Array.getElem?_eq_getElem hj] at hej; exact Option.some.inj hej
          simp [hj, hgj]
        · simp [e]
      rw [hel]
    · intro y hy
      rcases List.mem_or_eq_of_mem_set hy with hy | rfl
      · exact hk y hy
      · exact ⟨l, hx⟩
    · rw [List.pairwise_iff_getElem] at hd ⊢
      intro a c ha hc hac
      simp only [List.length_set] at ha hc
      have hjl : es.toList[j]'(by simpa using hj) = e0 := by
        have := List.getElem?_eq_getElem (l := es.toList) (i := j) (by simpa using hj)
        rw [this] at r2; exact Option.some.inj r2
      rw [List.getElem_set, List.getElem_set]
      by_cases e1 : j = a
      · rw [if_pos e1, if_neg (by omega)]
        have := hd a c ha hc hac
        simp only [← e1, hjl, r3] at this
        exact this
      · rw [if_neg e1]
        by_cases e2 : j = c
        · rw [if_pos e2]
          have := hd a c ha hc hac
          simp only [← e2, hjl, r3] at this
          exact this
        · rw [if_neg e2]
          exact hd a c ha hc hac
    · intro y hy
      unfold updV?
      obtain ⟨i, hi, rfl⟩ := List.getElem_of_mem hy
      simp only [List.length_set] at hi
      rw [List.getElem_set]
      by_cases e : j = i
      · simp [e]
      · rw [if_neg e]
        have hne : (es.toList[i]).key ≠ x := by
          have hjl : es.toList[j]'(by simpa using hj) = e0 := by
            have := List.getElem?_eq_getElem (l := es.toList) (i := j) (by simpa using hj)
            rw [this] at r2; exact Option.some.inj r2
          rw [List.pairwise_iff_getElem] at hd
          rcases Nat.lt_or_ge i j with hlt | hge
          · have := hd i j hi (by simpa using hj) hlt
            rw [hjl, r3] at this; exact this
          · have := hd j i (by simpa using hj) hi (by omega)
            rw [hjl, r3] at this; exact Ne.symm this
        rw [if_neg hne]
        exact h1 _ (List.getElem_mem hi)
    · intro y u hy
      unfold updV? at hy
      by_cases e : y = x
      · subst e
        exact ⟨⟨y, v, e0.born⟩, by
          rw [List.mem_iff_getElem?]
          exact ⟨j, by rw [List.getElem?_set_self (by simpa using hj)]⟩, rfl⟩
      · rw [if_neg e] at hy
        obtain ⟨z, hz, hze⟩ := h2 y u hy
        obtain ⟨i, hi, rfl⟩ := List.getElem_of_mem hz
        have hij : j ≠ i := fun e2 => by
          subst e2
          have := List.getElem?_eq_getElem (l := es.toList) hi
          rw [this] at r2
          rw [Option.some.inj r2, r3] at hze
          exact e hze.symm
        exact ⟨es.toList[i], by
          rw [List.mem_iff_getElem?]
          exact ⟨i, by rw [List.getElem?_set_ne hij, List.getElem?_eq_getElem hi]⟩, hze⟩

/-- How many there are. -/
theorem MapOf.size {w : World} {P : Program} {k : TypeId} {b n : Nat} {f : Value → Option Value} (h : MapOf w P k b n f) : ∃ (es : Array MapEntry) (clock : Nat), w.heap[b]? = some (.map es clock) ∧ es.size = n := by
  obtain ⟨es, clock, hb, hn, _⟩ := h
  exact ⟨es, clock, hb, hn⟩

end Go.Proofs.YtoofalchkedciaaGreatDoor

namespace Go.Proofs.YtoofalchkedciaaGreatDoor
open Go.RowKit Go.Maps
open Go.ChangeMaps (setBlock heap_setBlock_same heap_setBlock_other)

/-- What entries hold. -/
structure Held? (P : Program) (k : TypeId) (f : Value → Option Value) (es : Array MapEntry) (clock : Nat) : Prop where
  keys : ∀ e ∈ es.toList, ∃ l, keyOf P k e.key = some l
  apart : es.toList.Pairwise (fun x y => x.key ≠ y.key)
  have1 : ∀ e ∈ es.toList, f e.key = some e.val
  have2 : ∀ x v, f x = some v → ∃ e ∈ es.toList, e.key = x
  born : ∀ e ∈ es.toList, e.born < clock
  stamps : (es.toList.map (·.born)).Nodup

def MapB (w : World) (P : Program) (k : TypeId) (b : Nat) (f : Value → Option Value) : Prop := ∃ (es : Array MapEntry) (clock : Nat), w.heap[b]? = some (.map es clock) ∧ Held? P k f es clock

theorem MapB.lt {w : World} {P : Program} {k : TypeId} {b : Nat} {f : Value → Option Value} (h : MapB w P k b f) : b < w.heap.size := by
  obtain ⟨es, clock, hb, _⟩ := h
  exact (Array.getElem?_eq_some_iff.1 hb).1
theorem MapB.only {w w' : World} {P : Program} {k : TypeId} {b : Nat} {f : Value → Option Value} {S : List Nat} (h : MapB w P k b f) (ho : Only S w w') (hb : b ∉ S) : MapB w' P k b f := by
  have hl := h.lt
  obtain ⟨es, clock, h1, h2⟩ := h
  exact ⟨es, clock, (ho.block b hl hb).trans h1, h2⟩
theorem MapB.congr {w : World} {P : Program} {k : TypeId} {b : Nat} {f g : Value → Option Value} (h : MapB w P k b f) (e : ∀ x, f x = g x) : MapB w P k b g := by
  rw [← funext e]; exact h
theorem MapB.made (w : World) (P : Program) (k : TypeId) : MapB (w.alloc (.map #[] 0)) P k w.heap.size (fun _ => none) :=
  ⟨#[], 0, heap_alloc_new w _, ⟨by simp, by simp, by simp, by simp, by simp, by simp⟩⟩
theorem MapB.of {w : World} {P : Program} {k : TypeId} {b : Nat} {f : Value → Option Value} (h : MapB w P k b f) : ∃ n, MapOf w P k b n f := by
  obtain ⟨es, clock, hb, h⟩ := h
  exact ⟨es.size, es, clock, hb, rfl, h.keys, h.apart, h.have1, h.have2⟩
theorem MapB.look {w : World} {P : Program} {t k e : TypeId} {b : Nat} {f : Value → Option Value} (h : MapB w P k b f) (c : Bool) (K : Keyed P k) (ht : P.underlying t = some (.map k e)) {z : Value} (hz : (zeroValue e).run P w = .ok z w)
    {x : Value} {l : Lit} (hx : keyOf P k x = some l) : (Instr.lookup t (.map (some b)) x c).run P w = .ok (if c then .tuple #[(f x).getD z, .bool (f x).isSome] else (f x).getD z) w := by
  obtain ⟨n, h⟩ := h.of
  exact h.look c K ht hz hx

theorem only_block {w : World} {b : Nat} {es : Array MapEntry} {c : Nat} (hb : w.heap[b]? = some (.map es c)) (o' : Obj) : Only [b] w (setBlock w b o') :=
  ⟨rfl, rfl, rfl, by simp [setBlock], fun i _ hi => heap_setBlock_other hb _ (fun e => hi (by simp [e]))⟩

theorem Held?.none {P : Program} {k : TypeId} {f : Value → Option Value} {es : Array MapEntry} {clock : Nat} (h : Held? P k f es clock) {x : Value} (r : ∀ y ∈ es.toList, y.key ≠ x) : f x = .none := by
  cases hv : f x with
  | none => rfl
  | some v =>
    obtain ⟨y, hy, e⟩ := h.have2 x v hv
    exact absurd e (r y hy)

theorem map_set_self {α β : Type} (g : α → β) (l : List α) (j : Nat) (a b : α) (hj : l[j]? = some b) (h : g a = g b) : (l.set j a).map g = l.map g := by
  rw [List.map_set]
  apply List.ext_getElem?
  intro i
  rw [List.getElem?_set]
  split
  · rename_i e
    subst e
    have hl : j < (l.map g).length := by rw [List.length_map]; exact (List.getElem?_eq_some_iff.1 hj).1
    rw [if_pos hl, List.getElem?_map, hj, h]
    rfl
  · rfl

open Classical in
theorem Held?.push {P : Program} {k : TypeId} {f : Value → Option Value} {es : Array MapEntry} {clock : Nat} (h : Held? P k f es clock) {x : Value} {l : Lit} (hx : keyOf P k x = some l) (r : ∀ y ∈ es.toList, y.key ≠ x) (v : Value) :
    Held? P k (updV? f x v) (es.push ⟨x, v, clock⟩) (clock + 1) := by
  refine ⟨?_, ?_, ?_, ?_, ?_, ?_⟩
  · intro y hy
    simp only [Array.toList_push, List.mem_append, List.mem_singleton] at hy
    rcases hy with hy | rfl
    · exact h.keys y hy
    · exact ⟨l, hx⟩
  · rw [Array.toList_push, List.pairwise_append]
    exact ⟨h.apart, by simp, fun a ha c hc => by simp at hc; subst hc; exact r a ha⟩
  · intro y hy
    simp only [Array.toList_push, List.mem_append, List.mem_singleton] at hy
    unfold updV?
    rcases hy with hy | rfl
    · rw [if_neg (r y hy)]; exact h.have1 y hy
    · rw [if_pos rfl]
  · intro y u hy
    unfold updV? at hy
    by_cases e : y = x
    · exact ⟨⟨x, v, clock⟩, by simp, e.symm⟩
    · rw [if_neg e] at hy
      obtain ⟨z, hz, hze⟩ := h.have2 y u hy
      exact ⟨z, by simp [hz], hze⟩
  · intro y hy
    simp only [Array.toList_push, List.mem_append, List.mem_singleton] at hy
    rcases hy with hy | rfl
    · have := h.born y hy; omega
    · show clock < clock + 1; omega
  · rw [Array.toList_push, List.map_append, List.nodup_append]
    refine ⟨h.stamps, by simp, fun a ha c hc e => ?_⟩
    simp at hc
    subst hc
    obtain ⟨y, hy, hye⟩ := List.mem_map.1 ha
    have := h.born y hy
    omega

theorem modify_set {es : Array MapEntry} {j : Nat} {e0 e1 : MapEntry} {g : MapEntry → MapEntry} (hj : es[j]? = some e0) (hg : g e0 = e1) : (es.modify j g).toList = es.toList.set j e1 := by
  apply List.ext_getElem?
  intro i
  rw [Array.getElem?_toList, Array.getElem?_modify, List.getElem?_set]
  by_cases e : j = i
  · subst e
    have hlt : j < es.size := (Array.getElem?_eq_some_iff.1 hj).1
    have hgj : es[j] = e0 := (Array.getElem?_eq_some_iff.1 hj).2
    simp [hlt, hgj, hg]
  · simp [e]

open Classical in
theorem Held?.set {P : Program} {k : TypeId} {f : Value → Option Value} {es es' : Array MapEntry} {clock : Nat} (h : Held? P k f es clock) {x : Value} {j : Nat} {e0 : MapEntry} (hj : es.toList[j]? = some e0) (he : e0.key = x) (v : Value)
    (hel : es'.toList = es.toList.set j ⟨x, v, e0.born⟩) : Held? P k (updV? f x v) es' clock := by
  have hm0 : e0 ∈ es.toList := List.mem_of_getElem? hj
  have hjl : j < es.toList.length := (List.getElem?_eq_some_iff.1 hj).1
  have hje : es.toList[j] = e0 := (List.getElem?_eq_some_iff.1 hj).2
  have hd := h.apart
  have same : ∀ i, i < es.toList.length → (es.toList[i]!).key = x → i = j := by
    intro i hi hk
    rw [getElem!_pos es.toList i hi] at hk
    rw [List.pairwise_iff_getElem] at hd
    rcases Nat.lt_trichotomy i j with hlt | e | hgt
    · have := hd i j hi hjl hlt
      rw [hje, he, hk] at this; exact absurd rfl this
    · exact e
    · have := hd j i hjl hi hgt
      rw [hje, he, hk] at this; exact absurd rfl this
  refine ⟨?_, ?_, ?_, ?_, ?_, ?_⟩
  · intro y hy
    rw [hel] at hy
    rcases List.mem_or_eq_of_mem_set hy with hy | rfl
    · exact h.keys y hy
    · obtain ⟨l, hl⟩ := h.keys e0 hm0
      exact ⟨l, by rw [← he]; exact hl⟩
  · rw [hel]
    have hmap : (es.toList.set j ⟨x, v, e0.born⟩).map (·.key) = es.toList.map (·.key) := map_set_self (·.key) _ _ _ _ hj he.symm
    have h1 : (es.toList.map (·.key)).Pairwise (fun a c => a ≠ c) := List.pairwise_map.2 hd
    rw [← hmap] at h1
    exact List.pairwise_map.1 h1
  · intro y hy
    rw [hel] at hy
    unfold updV?
    obtain ⟨i, hi, rfl⟩ := List.getElem_of_mem hy
    simp only [List.length_set] at hi
    rw [List.getElem_set]
    by_cases e : j = i
    · rw [if_pos e, if_pos rfl]
    · rw [if_neg e, if_neg]
      · exact h.have1 _ (List.getElem_mem hi)
      · intro hk
        exact e (same i hi (by rw [getElem!_pos es.toList i hi]; exact hk)).symm
  · intro y u hy
    rw [hel]
    unfold updV? at hy
    by_cases e : y = x
    · subst e
      exact ⟨⟨y, v, e0.born⟩, List.mem_iff_getElem?.2 ⟨j, by rw [List.getElem?_set_self hjl]⟩, rfl⟩
    · rw [if_neg e] at hy
      obtain ⟨z, hz, hze⟩ := h.have2 y u hy
      obtain ⟨i, hi, rfl⟩ := List.getElem_of_mem hz
      have hij : j ≠ i := fun e2 => by subst e2; rw [hje, he] at hze; exact e hze.symm
      exact ⟨es.toList[i], List.mem_iff_getElem?.2 ⟨i, by rw [List.getElem?_set_ne hij, List.getElem?_eq_getElem hi]⟩, hze⟩
  · intro y hy
    rw [hel] at hy
    rcases List.mem_or_eq_of_mem_set hy with hy | rfl
    · exact h.born y hy
    · exact h.born e0 hm0
  · rw [hel]
    have hmap : (es.toList.set j ⟨x, v, e0.born⟩).map (·.born) = es.toList.map (·.born) := map_set_self (·.born) _ _ ⟨x, v, e0.born⟩ _ hj rfl
    rw [hmap]
    exact h.stamps

open Classical in
theorem MapB.put {w : World} {P : Program} {t k e : TypeId} {b : Nat} {f : Value → Option Value} (h : MapB w P k b f) (K : Keyed P k) (ht : P.underlying t = some (.map k e)) {x : Value} {l : Lit} (hx : keyOf P k x = some l) (v : Value) :
    ∃ w', (Instr.mapUpdate t (.map (some b)) x v).run P w = .ok () w' ∧ MapB w' P k b (updV? f x v) ∧ Only [b] w w' := by
  obtain ⟨es, clock, hb, h⟩ := h
  rcases K.find w hx es.toList h.keys with ⟨r1, r2⟩ | ⟨j, e0, r1, r2, r3⟩
  · refine ⟨setBlock w b (.map (es.push ⟨x, v, clock⟩) (clock + 1)), ?_, ⟨_, _, heap_setBlock_same hb _, h.push hx r2 v⟩, only_block hb _⟩
    simp [Instr.mapUpdate, run_underlying ht, MapKept.run_getObj_map hb, K.check w false hx, r1, MapKept.run_setObj_map _ hb, Result.andThen, setBlock]
  · have hej : es[j]? = some e0 := by simpa using r2
    refine ⟨setBlock w b (.map (es.modify j fun e => { e with key := x, val := v }) clock), ?_, ⟨_, _, heap_setBlock_same hb _, h.set r2 r3 v (modify_set hej rfl)⟩, only_block hb _⟩
    simp [Instr.mapUpdate, run_underlying ht, MapKept.run_getObj_map hb, K.check w false hx, r1, hej, r3, K.stays w hx, MapKept.run_setObj_map _ hb, Result.andThen, setBlock]

open Classical in
/-- Taken out. -/
noncomputable def delV? (f : Value → Option Value) (x : Value) : Value → Option Value := fun y => if y = x then none else f y

open Classical in
theorem MapB.drop {w : World} {P : Program} {t k e : TypeId} {b : Nat} {f : Value → Option Value} (h : MapB w P k b f) (K : Keyed P k) (ht : P.underlying t = some (.map k e)) (ty : TypeId) {x : Value} {l : Lit} (hx : keyOf P k x = some l) :
    ∃ w', (Builtin.delete_ #[t, k] ty #[.map (some b), x]).run P w = .ok (.tuple #[]) w' ∧ MapB w' P k b (delV? f x) ∧ Only [b] w w' := by
  obtain ⟨es, clock, hb, h⟩ := h
  rcases K.find w hx es.toList h.keys with ⟨r1, r2⟩ | ⟨j, e0, r1, r2, r3⟩
  · refine ⟨setBlock w b (.map es clock), ?_, ⟨_, _, heap_setBlock_same hb _, ?_⟩, only_block hb _⟩
    · simp [Builtin.delete_, run_underlying ht, MapKept.run_getObj_map hb, K.check w _ hx, r1, MapKept.run_setObj_map _ hb, Result.andThen, setBlock]
    · have e : delV? f x = f := by
        funext y
        unfold delV?
        by_cases hy : y = x
        · rw [if_pos hy, hy, h.none r2]
        · rw [if_neg hy]
      rw [e]; exact h
  · refine ⟨setBlock w b (.map (es.eraseIdxIfInBounds j) clock), ?_, ⟨_, _, heap_setBlock_same hb _, ?_⟩, only_block hb _⟩
    · simp [Builtin.delete_, run_underlying ht, MapKept.run_getObj_map hb, K.check w _ hx, r1, MapKept.run_setObj_map _ hb, Result.andThen, setBlock]
    · have hjl : j < es.toList.length := (List.getElem?_eq_some_iff.1 r2).1
      have hje : es.toList[j] = e0 := (List.getElem?_eq_some_iff.1 r2).2
      have hel : (es.eraseIdxIfInBounds j).toList = es.toList.eraseIdx j := by
        have hj2 : j < es.size := by simpa using hjl
        simp [Array.eraseIdxIfInBounds, hj2]
      have hsub := List.eraseIdx_sublist es.toList j
      have hd := h.apart
      refine ⟨?_, ?_, ?_, ?_, ?_, ?_⟩
      · intro y hy; rw [hel] at hy; exact h.keys y (hsub.subset hy)
      · rw [hel]; exact hd.sublist hsub
      · intro y hy
        rw [hel] at hy
        unfold delV?
        rw [if_neg]
        · exact h.have1 y (hsub.subset hy)
        · intro hk
          obtain ⟨i, hi, hiy⟩ := List.mem_eraseIdx_iff_getElem.1 hy
          obtain ⟨hil, hiy⟩ := hiy
          rw [List.pairwise_iff_getElem] at hd
          rcases Nat.lt_or_ge i j with hlt | hge
          · have := hd i j hi hjl hlt
            rw [hje, r3, hiy, hk] at this; exact absurd rfl this
          · have := hd j i hjl hi (by omega)
            rw [hje, r3, hiy, hk] at this; exact absurd rfl this
      · intro y u hy
        unfold delV? at hy
        by_cases e : y = x
        · rw [if_pos e] at hy; cases hy
        · rw [if_neg e] at hy
          obtain ⟨z, hz, hze⟩ := h.have2 y u hy
          obtain ⟨i, hi, rfl⟩ := List.getElem_of_mem hz
          refine ⟨es.toList[i], ?_, hze⟩
          rw [hel]
          refine List.mem_eraseIdx_iff_getElem.2 ⟨i, hi, ?_, rfl⟩
          intro e2
          subst e2
          rw [hje, r3] at hze
          exact e hze.symm
      · intro y hy; rw [hel] at hy; exact h.born y (hsub.subset hy)
      · rw [hel]; exact h.stamps.sublist (hsub.map _)

open Classical in
/-- 'a[x] = v' as one half of a statement that writes two: the entry first, what it holds later. -/
theorem MapB.entry {w : World} {P : Program} {t k e : TypeId} {b : Nat} {f : Value → Option Value} (h : MapB w P k b f) (K : Keyed P k) (ht : P.underlying t = some (.map k e)) {z : Value} (hz : ∀ u : World, (zeroValue e).run P u = .ok z u) {x : Value} {l : Lit} (hx : keyOf P k x = some l) :
    ∃ (v0 : Value) (st : Nat) (w1 : World), (Instr.mapEntry t (.map (some b)) x).run P w = .ok (.tuple #[v0, goInt st]) w1 ∧ Only [b] w w1 ∧ b < w1.heap.size ∧
      ∀ (w2 : World) (val : Value), w2.heap[b]? = w1.heap[b]? → ∃ w3, (Instr.entryStore t (.map (some b)) (goInt st) val).run P w2 = .ok () w3 ∧ MapB w3 P k b (updV? f x val) ∧ Only [b] w2 w3 := by
  obtain ⟨es, clock, hb, h⟩ := h
  have hbl : b < w.heap.size := (Array.getElem?_eq_some_iff.1 hb).1
  rcases K.find w hx es.toList h.keys with ⟨h1, h2⟩ | ⟨j, e0, h1, h2, h3⟩
  · refine ⟨z, clock, setBlock w b (.map (es.push ⟨x, z, clock⟩) (clock + 1)), ?_, only_block hb _, by simpa [setBlock] using hbl, fun w2 val hw2 => ?_⟩
    · simp [Instr.mapEntry, run_underlying ht, MapKept.run_getObj_map hb, K.check w false hx, h1, hz, MapKept.run_setObj_map _ hb, Result.andThen, setBlock]
    · rw [heap_setBlock_same hb] at hw2
      have hidx : (es.push ⟨x, z, clock⟩).findIdx? (fun e => ((e.born : Nat) : Int) == ((clock : Nat) : Int)) = some es.size := by
        rw [WideElems.findIdx_arr]
        exact WideElems.findIdx_born (l := (es.push ⟨x, z, clock⟩).toList) (j := es.size) (e0 := ⟨x, z, clock⟩) (by
          simp only [Array.toList_push, List.map_append, List.map_cons, List.map_nil]
          refine List.nodup_append.2 ⟨h.stamps, by simp, fun a ha c hc e1 => ?_⟩
          simp only [List.mem_singleton] at hc
          obtain ⟨y, hy, rfl⟩ := List.mem_map.1 ha
          have := h.born y hy
          omega) (by simp)
      have hmod : (es.push ⟨x, z, clock⟩).modify es.size (fun e => { e with val := val }) = es.push ⟨x, val, clock⟩ := by
        apply Array.ext'
        rw [Array.toList_modify, Array.toList_push, Array.toList_push, ← Array.length_toList, WideElems.modify_last]
      refine ⟨setBlock w2 b (.map (es.push ⟨x, val, clock⟩) (clock + 1)), ?_, ⟨_, _, heap_setBlock_same hw2 _, h.push hx h2 val⟩, only_block hw2 _⟩
      simp [Instr.entryStore, MapKept.run_getObj_map hw2, asInt, asIntOf, goInt, hidx, hmod, MapKept.run_setObj_map _ hw2, Result.andThen, setBlock]
  · have hj : es[j]? = some e0 := by simpa using h2
    have hsame : es.modify j (fun e => { e with key := x }) = es := by
      apply Array.ext'
      rw [modify_set hj (e1 := e0) (by rw [← h3])]
      exact WideElems.set_self _ _ _ h2
    refine ⟨e0.val, e0.born, setBlock w b (.map es clock), ?_, only_block hb _, by simpa [setBlock] using hbl, fun w2 val hw2 => ?_⟩
    · simp [Instr.mapEntry, run_underlying ht, MapKept.run_getObj_map hb, K.check w false hx, h1, hj, h3, K.stays w hx, hsame, MapKept.run_setObj_map _ hb, Result.andThen, setBlock]
    · rw [heap_setBlock_same hb] at hw2
      have hidx : es.findIdx? (fun e => ((e.born : Nat) : Int) == ((e0.born : Nat) : Int)) = some j := by
        rw [WideElems.findIdx_arr]
        exact WideElems.findIdx_born h.stamps h2
      refine ⟨setBlock w2 b (.map (es.modify j (fun e => { e with val := val })) clock), ?_, ⟨_, _, heap_setBlock_same hw2 _, h.set h2 h3 val (modify_set hj (by rw [← h3]))⟩, only_block hw2 _⟩
      simp [Instr.entryStore, MapKept.run_getObj_map hw2, asInt, asIntOf, goInt, hidx, MapKept.run_setObj_map _ hw2, Result.andThen, setBlock]

end Go.Proofs.YtoofalchkedciaaGreatDoor
