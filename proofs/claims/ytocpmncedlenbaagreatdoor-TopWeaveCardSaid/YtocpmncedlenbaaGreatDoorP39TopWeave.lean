/-
  Contract of judge.ready.
  Maps that the call itself made, by what they hold: a function of the key. No program is named here.
  Keys of maps that are ints.
  A map of ints to stays that the call made: the stay of each task.
  Contracts of judge.over and judge.stay.
-/
import Derived.Test.YtocpmncedlenbaaGreatDoorP38TopWeave
import Derived.Test.YtocpmncedlenbaaGreatDoorP1TopWeave
import Derived.Maps.Own
import Derived.Test.YtocpmncedlenbaaGreatDoorRows
import Derived.Test.YtocpmncedlenbaaGreatDoorP34TopWeave
namespace Go.Proofs.YtocpmncedlenbaaGreatDoor
open Go.RowKit Go.Deep

set_option maxRecDepth 100000 in
theorem judge_ready (v : Value) (p : PlanL) (hands : Int) (w : World) (h : InPlan w v p) :
    Calls Tryz.prog 64 #[v, .int .i64 hands] w fun e w' => e = .returned (errV (hErr p hands)) ∧ Only [] w w' := by
  have hr := plan_Right v p w h
  unfold hErr
  obtain ⟨f, hf⟩ : ∃ f, planFault p = f := ⟨_, rfl⟩
  rw [hf] at hr ⊢
  clear hf h
  by_cases h0 : f = 0
  · subst h0
    rw [if_pos rfl]
    rw [errV_zero] at hr
    by_cases hh : 1 ≤ hands ∧ hands ≤ 6
    · rw [if_pos hh]
      obtain ⟨h1, h6⟩ := hh
      go_enter Tryz.func64, Tryz.ntmps64
      go_wp2_with fail
      refine hr.mono ?_
      rintro e w1 ⟨rfl, ho⟩
      clear hr
      go_wp2_with (go_at_call 58; refine (hands_yes _ _ h1 h6).mono ?_; rintro e w2 ⟨rfl, rfl⟩)
      go_ret
      exact ⟨rfl, ho⟩
    · rw [if_neg hh]
      have hh2 : hands < 1 ∨ 6 < hands := by omega
      clear hh
      go_enter Tryz.func64, Tryz.ntmps64
      go_wp2_with fail
      refine hr.mono ?_
      rintro e w1 ⟨rfl, ho⟩
      clear hr
      go_wp2_with (go_at_call 58; refine (hands_no _ _ hh2).mono ?_; rintro e w2 ⟨rfl, rfl⟩)
      go_ret
      exact ⟨rfl, ho⟩
  · rw [if_neg h0]
    have hE := errV_ne h0
    rw [hE] at hr
    have HE := Lib.hid hE
    clear h0 hE
    go_enter Tryz.func64, Tryz.ntmps64
    go_wp2_with fail
    refine hr.mono ?_
    rintro e w1 ⟨rfl, ho⟩
    clear hr
    go_wp2
    go_ret
    exact ⟨by rw [HE.out]; rfl, ho⟩

end Go.Proofs.YtocpmncedlenbaaGreatDoor

namespace Go.Proofs.YtocpmncedlenbaaGreatDoor
open Go.RowKit Go.Maps
open Go.ChangeMaps (setBlock heap_setBlock_same heap_setBlock_other)

/-- Block b is a map of n entries, which holds f. -/
def MapOf (w : World) (P : Program) (k : TypeId) (b n : Nat) (f : Value → Option Value) : Prop :=
  ∃ (es : Array MapEntry) (clock : Nat), w.heap[b]? = some (.map es clock) ∧ es.size = n ∧ (∀ e ∈ es.toList, ∃ l, keyOf P k e.key = some l) ∧ es.toList.Pairwise (fun x y => x.key ≠ y.key) ∧
    (∀ e ∈ es.toList, f e.key = some e.val) ∧ ∀ x v, f x = some v → ∃ e ∈ es.toList, e.key = x

theorem MapOf.lt {w : World} {P : Program} {k : TypeId} {b n : Nat} {f : Value → Option Value} (h : MapOf w P k b n f) : b < w.heap.size := by
  obtain ⟨es, clock, hb, _⟩ := h
  exact (Array.getElem?_eq_some_iff.1 hb).1
theorem MapOf.only {w w' : World} {P : Program} {k : TypeId} {b n : Nat} {f : Value → Option Value} {S : List Nat} (h : MapOf w P k b n f) (ho : Only S w w') (hb : b ∉ S) : MapOf w' P k b n f := by
  have hl := h.lt
  obtain ⟨es, clock, h1, h2⟩ := h
  exact ⟨es, clock, (ho.block b hl hb).trans h1, h2⟩
theorem MapOf.congr {w : World} {P : Program} {k : TypeId} {b n : Nat} {f g : Value → Option Value} (h : MapOf w P k b n f) (e : ∀ x, f x = g x) : MapOf w P k b n g := by
  rw [← funext e]; exact h
theorem MapOf.made (w : World) (P : Program) (k : TypeId) : MapOf (w.alloc (.map #[] 0)) P k w.heap.size 0 (fun _ => none) :=
  ⟨#[], 0, heap_alloc_new w _, rfl, by simp, by simp, by simp, by simp⟩
theorem MapOf.none {w : World} {P : Program} {k : TypeId} {b n : Nat} {f : Value → Option Value} (h : MapOf w P k b n f) {x : Value} (hx : keyOf P k x = .none) : f x = .none := by
  obtain ⟨es, clock, _, _, hk, _, _, h2⟩ := h
  cases e : f x with
  | none => rfl
  | some v =>
    obtain ⟨y, hy, rfl⟩ := h2 x v e
    obtain ⟨l, hl⟩ := hk y hy
    rw [hl] at hx; cases hx

/-- Asked: 'm[x]' (c = false), 'v, ok := m[x]' (c = true). -/
theorem MapOf.look {w : World} {P : Program} {t k e : TypeId} {b n : Nat} {f : Value → Option Value} (h : MapOf w P k b n f) (c : Bool) (K : Keyed P k) (ht : P.underlying t = some (.map k e)) {z : Value} (hz : (zeroValue e).run P w = .ok z w)
    {x : Value} {l : Lit} (hx : keyOf P k x = some l) : (Instr.lookup t (.map (some b)) x c).run P w = .ok (if c then .tuple #[(f x).getD z, .bool (f x).isSome] else (f x).getD z) w := by
  obtain ⟨es, clock, hb, _, hk, _, h1, h2⟩ := h
  rcases K.find w hx es.toList hk with ⟨r1, r2⟩ | ⟨j, e0, r1, r2, r3⟩
  · have hf : f x = .none := by
      cases hv : f x with
      | none => rfl
      | some v =>
        obtain ⟨y, hy, e⟩ := h2 x v hv
        exact absurd e (r2 y hy)
    rw [hf]
    simp [Instr.lookup, run_underlying ht, MapKept.run_getObj_map hb, K.check w _ hx, r1, hz, Result.andThen]
  · have hf : f x = some e0.val := by rw [← r3]; exact h1 e0 (List.mem_of_getElem? r2)
    rw [hf]
    simp [Instr.lookup, run_underlying ht, MapKept.run_getObj_map hb, K.check w _ hx, r1, Result.andThen]

open Classical in
/-- Written: 'm[x] = v'. -/
noncomputable def updV? (f : Value → Option Value) (x v : Value) : Value → Option Value := fun y => if y = x then some v else f y

open Classical in
theorem MapOf.put {w : World} {P : Program} {t k e : TypeId} {b n : Nat} {f : Value → Option Value} (h : MapOf w P k b n f) (K : Keyed P k) (ht : P.underlying t = some (.map k e)) {x : Value} {l : Lit} (hx : keyOf P k x = some l) (v : Value) :
    ∃ w', (Instr.mapUpdate t (.map (some b)) x v).run P w = .ok () w' ∧ MapOf w' P k b (if (f x).isSome then n else n + 1) (updV? f x v) ∧ Only [b] w w' := by
  obtain ⟨es, clock, hb, hn, hk, hd, h1, h2⟩ := h
  have ho : ∀ es' clock', Only [b] w (setBlock w b (.map es' clock')) := fun es' clock' =>
    ⟨rfl, rfl, rfl, by simp [setBlock], fun i _ hi => heap_setBlock_other hb _ (fun e => hi (by simp [e]))⟩
  rcases K.find w hx es.toList hk with ⟨r1, r2⟩ | ⟨j, e0, r1, r2, r3⟩
  · have hf : f x = .none := by
      cases hv : f x with
      | none => rfl
      | some v =>
        obtain ⟨y, hy, e⟩ := h2 x v hv
        exact absurd e (r2 y hy)
    refine ⟨setBlock w b (.map (es.push ⟨x, v, clock⟩) (clock + 1)), ?_, ⟨_, _, heap_setBlock_same hb _, ?_, ?_, ?_, ?_, ?_⟩, ho _ _⟩
    · simp [Instr.mapUpdate, run_underlying ht, MapKept.run_getObj_map hb, K.check w false hx, r1, MapKept.run_setObj_map _ hb, Result.andThen, setBlock]
    · rw [hf]; simp [hn]
    · intro y hy
      simp only [Array.toList_push, List.mem_append, List.mem_singleton] at hy
      rcases hy with hy | rfl
      · exact hk y hy
      · exact ⟨l, hx⟩
    · rw [Array.toList_push, List.pairwise_append]
      exact ⟨hd, by simp, fun a ha c hc => by simp at hc; subst hc; exact r2 a ha⟩
    · intro y hy
      simp only [Array.toList_push, List.mem_append, List.mem_singleton] at hy
      unfold updV?
      rcases hy with hy | rfl
      · rw [if_neg (r2 y hy)]; exact h1 y hy
      · rw [if_pos rfl]
    · intro y u hy
      unfold updV? at hy
      by_cases e : y = x
      · exact ⟨⟨x, v, clock⟩, by simp, e.symm⟩
      · rw [if_neg e] at hy
        obtain ⟨z, hz, hze⟩ := h2 y u hy
        exact ⟨z, by simp [hz], hze⟩
  · have hm0 : e0 ∈ es.toList := List.mem_of_getElem? r2
    have hf : f x = some e0.val := by rw [← r3]; exact h1 e0 hm0
    have hj : j < es.size := by
      rcases Nat.lt_or_ge j es.size with hlt | hge
      · exact hlt
      · rw [List.getElem?_eq_none (by simpa using hge)] at r2; cases r2
    have hej : es[j]? = some e0 := by simpa using r2
    refine ⟨setBlock w b (.map (es.modify j fun e => { e with key := x, val := v }) clock), ?_, ⟨_, _, heap_setBlock_same hb _, ?_, ?_, ?_, ?_, ?_⟩, ho _ _⟩
    · simp [Instr.mapUpdate, run_underlying ht, MapKept.run_getObj_map hb, K.check w false hx, r1, hej, r3, K.stays w hx, MapKept.run_setObj_map _ hb, Result.andThen, setBlock]
    · rw [hf]; simp [hn]
    all_goals
      have hel : (es.modify j fun e => { e with key := x, val := v }).toList = es.toList.set j ⟨x, v, e0.born⟩ := by
        apply List.ext_getElem?
        intro i
        rw [Array.getElem?_toList, Array.getElem?_modify, List.getElem?_set]
        by_cases e : j = i
        · subst e
          have hgj : es[j] = e0 := by rw [Array.getElem?_eq_getElem hj] at hej; exact Option.some.inj hej
          simp [hj, hgj]
        · simp [e]
      rw [hel]
    · intro y hy
      rcases List.mem_or_eq_of_mem_set hy with hy | rfl
      · exact hk y hy
      · exact ⟨l, hx⟩
    · rw [List.pairwise_iff_getElem] at hd ⊢
      intro a c ha hc hac
      simp only [List.length_set] at ha hc
      have hjl : es.toList[j]'(by simpa using hj) = e0 := by
        have := List.getElem?_eq_getElem (l := es.toList) (i := j) (by simpa using hj)
        rw [this] at r2; exact Option.some.inj r2
      rw [List.getElem_set, List.getElem_set]
      by_cases e1 : j = a
      · rw [if_pos e1, if_neg (by omega)]
        have := hd a c ha hc hac
        simp only [← e1, hjl, r3] at this
        exact this
      · rw [if_neg e1]
        by_cases e2 : j = c
        · rw [if_pos e2]
          have := hd a c ha hc hac
          simp only [← e2, hjl, r3] at this
          exact this
        · rw [if_neg e2]
          exact hd a c ha hc hac
    · intro y hy
      unfold updV?
      obtain ⟨i, hi, rfl⟩ := List.getElem_of_mem hy
      simp only [List.length_set] at hi
      rw [List.getElem_set]
      by_cases e : j = i
      · simp [e]
      · rw [if_neg e]
        have hne : (es.toList[i]).key ≠ x := by
          have hjl : es.toList[j]'(by simpa using hj) = e0 := by
            have := List.getElem?_eq_getElem (l := es.toList) (i := j) (by simpa using hj)
            rw [this] at r2; exact Option.some.inj r2
          rw [List.pairwise_iff_getElem] at hd
          rcases Nat.lt_or_ge i j with hlt | hge
          · have := hd i j hi (by simpa using hj) hlt
            rw [hjl, r3] at this; exact this
          · have := hd j i (by simpa using hj) hi (by omega)
            rw [hjl, r3] at this; exact Ne.symm this
        rw [if_neg hne]
        exact h1 _ (List.getElem_mem hi)
    · intro y u hy
      unfold updV? at hy
      by_cases e : y = x
      · subst e
        exact ⟨⟨y, v, e0.born⟩, by
          rw [List.mem_iff_getElem?]
          exact ⟨j, by rw [List.getElem?_set_self (by simpa using hj)]⟩, rfl⟩
      · rw [if_neg e] at hy
        obtain ⟨z, hz, hze⟩ := h2 y u hy
        obtain ⟨i, hi, rfl⟩ := List.getElem_of_mem hz
        have hij : j ≠ i := fun e2 => by
          subst e2
          have := List.getElem?_eq_getElem (l := es.toList) hi
          rw [this] at r2
          rw [Option.some.inj r2, r3] at hze
          exact e hze.symm
        exact ⟨es.toList[i], by
          rw [List.mem_iff_getElem?]
          exact ⟨i, by rw [List.getElem?_set_ne hij, List.getElem?_eq_getElem hi]⟩, hze⟩

/-- How many there are. -/
theorem MapOf.size {w : World} {P : Program} {k : TypeId} {b n : Nat} {f : Value → Option Value} (h : MapOf w P k b n f) : ∃ (es : Array MapEntry) (clock : Nat), w.heap[b]? = some (.map es clock) ∧ es.size = n := by
  obtain ⟨es, clock, hb, hn, _⟩ := h
  exact ⟨es, clock, hb, hn⟩

end Go.Proofs.YtocpmncedlenbaaGreatDoor

namespace Go.Proofs.YtocpmncedlenbaaGreatDoor
open Go.RowKit Go.Maps

theorem key_int : Keyed Tryz.prog 3 := int_keyed Tryz.underlying3
theorem keyOf_int (k : Int) (h1 : -9223372036854775808 ≤ k) (h2 : k ≤ 9223372036854775807) : keyOf Tryz.prog 3 (.int .i64 k) = some (.int .i64 k) :=
  keyOf_int_mk Tryz.underlying3 (WalkArith.wf_i64 ⟨h1, h2⟩)
theorem zero_bool (w : World) : (zeroValue 4).run Tryz.prog w = .ok (.bool false) w := by kernel_rfl

end Go.Proofs.YtocpmncedlenbaaGreatDoor

namespace Go.Proofs.YtocpmncedlenbaaGreatDoor
open Go.RowKit Go.Maps

def stV (s : St) : Value := .agg #[.int .i64 s.hand, .int .i64 s.task, .int .i64 s.frm, .int .i64 s.til]
theorem zero_stay (w : World) : (zeroValue 120).run Tryz.prog w = .ok (stV ⟨0, 0, 0, 0⟩) w := by kernel_rfl

def stayMF (ss : List St) : Value → Option Value
  | .int .i64 k => (stayOf ss k).map stV
  | _ => none

def StayMap (w : World) (b n : Nat) (ss : List St) : Prop := MapOf w Tryz.prog 3 b n (stayMF ss)

theorem StayMap.lt {w : World} {b n : Nat} {ss : List St} (h : StayMap w b n ss) : b < w.heap.size := MapOf.lt h
theorem StayMap.only {w w' : World} {b n : Nat} {ss : List St} {S : List Nat} (h : StayMap w b n ss) (ho : Only S w w') (hb : b ∉ S) : StayMap w' b n ss := MapOf.only h ho hb
theorem StayMap.made (w : World) : StayMap (w.alloc (.map #[] 0)) w.heap.size 0 [] := (MapOf.made w _ _).congr fun x => by
  unfold stayMF
  split <;> rfl

theorem StayMap.look {w : World} {b n : Nat} {ss : List St} (h : StayMap w b n ss) (k : Int) (hk : -1000000 ≤ k ∧ k ≤ 1000000) :
    (Instr.lookup 124 (.map (some b)) (.int .i64 k) false).run Tryz.prog w = .ok (stV (stF ss k)) w := by
  have := MapOf.look h false key_int Tryz.underlying124 (zero_stay w) (keyOf_int k (by omega) (by omega))
  rw [this]
  have e : (stayMF ss (.int .i64 k)).getD (stV ⟨0, 0, 0, 0⟩) = stV (stF ss k) := by
    show ((stayOf ss k).map stV).getD _ = _
    unfold stF
    cases stayOf ss k <;> rfl
  rw [e]
  rfl

theorem StayMap.put {w : World} {b n : Nat} {ss : List St} (h : StayMap w b n ss) (s : St) (hk : -1000000 ≤ s.task ∧ s.task ≤ 1000000) (hnone : stayOf ss s.task = none) :
    ∃ w', (Instr.mapUpdate 124 (.map (some b)) (.int .i64 s.task) (stV s)).run Tryz.prog w = .ok () w' ∧ StayMap w' b (n + 1) (ss ++ [s]) ∧ Only [b] w w' := by
  obtain ⟨w', h1, h2, h3⟩ := MapOf.put h key_int Tryz.underlying124 (keyOf_int s.task (by omega) (by omega)) (stV s)
  refine ⟨w', h1, ?_, h3⟩
  have e : (stayMF ss (.int .i64 s.task)).isSome = false := by simp [stayMF, hnone]
  rw [e] at h2
  refine MapOf.congr h2 fun x => ?_
  unfold updV?
  by_cases e : x = .int .i64 s.task
  · subst e
    rw [if_pos rfl]
    simp [stayMF, stayOf_push]
  · rw [if_neg e]
    unfold stayMF
    split
    · rename_i j
      have hj : ¬ s.task = j := fun h => e (by rw [h])
      rw [stayOf_push, if_neg hj]
    · rfl

end Go.Proofs.YtocpmncedlenbaaGreatDoor

namespace Go.Proofs.YtocpmncedlenbaaGreatDoor
open Go.RowKit Go.Deep

set_option maxRecDepth 100000 in
theorem judge_over (a b c d a' b' c' d' : Int) (w : World) :
    Calls Tryz.prog 127 #[.agg #[.int .i64 a, .int .i64 b, .int .i64 c, .int .i64 d], .agg #[.int .i64 a', .int .i64 b', .int .i64 c', .int .i64 d']] w fun e w' => e = .returned (.bool (decide (c < d') && decide (c' < d))) ∧ Only [] w w' := by
  have ho := Lib.hid (((Only.refl [] w).alloc (.cells #[.int .i64 a, .int .i64 b, .int .i64 c, .int .i64 d] 120)).alloc (.cells #[.int .i64 a', .int .i64 b', .int .i64 c', .int .i64 d'] 120))
  by_cases h1 : c < d'
  · by_cases h2 : c' < d
    all_goals
      go_enter Tryz.func127, Tryz.ntmps127
      go_wp2
      go_ret
      exact ⟨by simp [h1, h2], ho.out⟩
  · have h3 : (decide (c < d') && decide (c' < d)) = false := by simp [h1]
    rw [h3]
    have h4 : d' ≤ c := by omega
    clear h3 h1
    go_enter Tryz.func127, Tryz.ntmps127
    go_wp2
    go_ret
    exact ⟨rfl, ho.out⟩

/-- Does one ahead stand in the way? -/
def clash1 (s x : St) : Bool := decide (x.task = s.task) || (decide (x.hand = s.hand) && overS x s)
theorem clashS_iff {ss : List St} {s : St} : clashS ss s = true ↔ ∃ k, k < ss.length ∧ clash1 s (stAt ss k) = true := by
  unfold clashS
  rw [List.any_eq_true]
  constructor
  · rintro ⟨x, hx, h⟩
    obtain ⟨k, hk, rfl⟩ := List.getElem_of_mem hx
    exact ⟨k, hk, by rw [show stAt ss k = ss[k] by simp [stAt, hk]]; exact h⟩
  · rintro ⟨k, hk, h⟩
    exact ⟨_, stAt_mem hk, h⟩

theorem sfault_1 {p : PlanL} {hands : Int} {ss : List St} {s : St} (h : s.hand < 0 ∨ hands ≤ s.hand ∨ s.task < 0 ∨ (p.length : Int) ≤ s.task ∨ s.frm < 0 ∨ s.til < s.frm ∨ 10000 < s.til) : stayFault p hands ss s = 1 := by
  unfold stayFault; rw [if_pos h]
theorem sfault_3 {p : PlanL} {hands : Int} {ss : List St} {s : St} (h : ¬ (s.hand < 0 ∨ hands ≤ s.hand ∨ s.task < 0 ∨ (p.length : Int) ≤ s.task ∨ s.frm < 0 ∨ s.til < s.frm ∨ 10000 < s.til)) (h3 : s.til - s.frm ≠ wkOf p s.task.toNat) : stayFault p hands ss s = 3 := by
  unfold stayFault; rw [if_neg h, if_pos h3]
theorem sfault_7 {p : PlanL} {hands : Int} {ss : List St} {s : St} (h : ¬ (s.hand < 0 ∨ hands ≤ s.hand ∨ s.task < 0 ∨ (p.length : Int) ≤ s.task ∨ s.frm < 0 ∨ s.til < s.frm ∨ 10000 < s.til)) (h3 : s.til - s.frm = wkOf p s.task.toNat) (h7 : clashS ss s = true) : stayFault p hands ss s = 7 := by
  unfold stayFault; rw [if_neg h, if_neg (by simp [h3]), if_pos h7]
theorem sfault_0 {p : PlanL} {hands : Int} {ss : List St} {s : St} (h : ¬ (s.hand < 0 ∨ hands ≤ s.hand ∨ s.task < 0 ∨ (p.length : Int) ≤ s.task ∨ s.frm < 0 ∨ s.til < s.frm ∨ 10000 < s.til)) (h3 : s.til - s.frm = wkOf p s.task.toNat) (h7 : clashS ss s = false) : stayFault p hands ss s = 0 := by
  unfold stayFault; rw [if_neg h, if_neg (by simp [h3]), if_neg (by simp [h7])]

set_option maxRecDepth 100000 in
set_option maxHeartbeats 4000000 in
theorem judge_stay (v u : Value) (p : PlanL) (hands : Int) (ss : List St) (s : St) (w : World) (h : InPlan w v p) (hs : StaysAt w u ss) (hl : ss.length ≤ 9223372036854775807) (hp : p.length ≤ 1000000) :
    Calls Tryz.prog 65 #[v, .int .i64 hands, u, .agg #[.int .i64 s.hand, .int .i64 s.task, .int .i64 s.frm, .int .i64 s.til]] w fun e w' => e = .returned (errV (stayFault p hands ss s)) ∧ Only [] w w' := by
  have HP := Lib.hid h
  obtain ⟨pa, cap, rfl, hc1, hc2, _⟩ := h.task
  obtain ⟨a, c, rfl, ha⟩ := hs.opt
  obtain ⟨n, hn⟩ : ∃ n, p.length = n := ⟨_, rfl⟩
  obtain ⟨m, hm⟩ : ∃ m, ss.length = m := ⟨_, rfl⟩
  have HL := Lib.hid hn
  have HM := Lib.hid hm
  have HA := Lib.hid ha
  have HCI := Lib.hid (clashS_iff (ss := ss) (s := s))
  rw [hn] at hc1 hp HP ⊢
  rw [hm] at HA hl HCI ⊢
  have hc1' : n ≤ 9223372036854775807 := by omega
  obtain ⟨E, hE⟩ : ∃ E, stayFault p hands ss s = E := ⟨_, rfl⟩
  have HE := Lib.hid hE
  rw [hE]
  obtain ⟨x, y, f, t⟩ := s
  clear h hs ha hn hm hE hc2
  have ho1 := (Only.refl [] w).alloc (.cells #[.int .i64 x, .int .i64 y, .int .i64 f, .int .i64 t] 120)
  by_cases hg : 0 ≤ x ∧ x < hands ∧ 0 ≤ y ∧ y < (n : Int) ∧ 0 ≤ f ∧ f ≤ t ∧ t ≤ 10000
  · have hgn : Hid (¬ ((St.mk x y f t).hand < 0 ∨ hands ≤ (St.mk x y f t).hand ∨ (St.mk x y f t).task < 0 ∨ (p.length : Int) ≤ (St.mk x y f t).task ∨ (St.mk x y f t).frm < 0 ∨ (St.mk x y f t).til < (St.mk x y f t).frm ∨ 10000 < (St.mk x y f t).til)) := by
      show ¬ (x < 0 ∨ hands ≤ x ∨ y < 0 ∨ (p.length : Int) ≤ y ∨ f < 0 ∨ t < f ∨ 10000 < t)
      rw [HL.out]; omega
    obtain ⟨g1, g2, g3, g4, g5, g6, g7⟩ := hg
    obtain ⟨y, rfl⟩ := Int.eq_ofNat_of_zero_le g3
    have hyn : y < n := by omega
    obtain ⟨pb, po, rfl⟩ := HP.out.any y (by rw [HL.out]; exact hyn)
    obtain ⟨_, _, cW, _, _⟩ := (HP.out.same ho1).at y (by rw [HL.out]; exact hyn)
    by_cases h3 : t - f = wkOf p y
    · have H3 : Hid ((St.mk x y f t).til - (St.mk x y f t).frm = wkOf p (St.mk x y f t).task.toNat) := by show t - f = wkOf p (y : Int).toNat; rw [Int.toNat_natCast]; exact h3
      rw [← h3] at cW
      have HO1 := Lib.hid ho1
      have hc0 := Lib.hid (Cells.new w #[.int .i64 x, .int .i64 y, .int .i64 f, .int .i64 t] 120)
      have hc71 : Hid (clashS ss ⟨x, y, f, t⟩ = true → E = 7) := fun h => by rw [← HE.out]; exact sfault_7 hgn.out H3.out h
      have hc70 : Hid (clashS ss ⟨x, y, f, t⟩ = false → E = 0) := fun h => by rw [← HE.out]; exact sfault_0 hgn.out H3.out h
      clear h3 ho1
      go_enter Tryz.func65, Tryz.ntmps65
      go_wp2_with fail
      go_quiet (fail)
      go_wp2_with fail
      go_loopw [67] (fun vi wr => ∃ i : Nat, i ≤ m ∧ vi = .int .i64 i ∧ (∀ k, k < i → clash1 ⟨x, y, f, t⟩ (stAt ss k) = false) ∧ Cells wr w.heap.size [.int .i64 x, .int .i64 y, .int .i64 f, .int .i64 t] ∧ Only [] w wr) (fun vi _ => m - (intOf vi).toNat)
      case atStart => exact ⟨0, Nat.zero_le _, rfl, fun k hk => by omega, hc0.out.drewN _, HO1.out.drewN _⟩
      case round =>
        obtain ⟨i, hi, rfl, hno, hC, ho⟩ := hrel
        have HNO := Lib.hid hno
        clear hno
        by_cases him : i < m
        · obtain ⟨b, off, rfl, k0, k1, k2, k3⟩ := HA.out i him
          have c0 := (ho.cell (p := ⟨b, _, none⟩) (cell_lt k0) (by simp)).trans k0
          have c1 := (ho.cell (p := ⟨b, _, none⟩) (cell_lt k1) (by simp)).trans k1
          have c2 := (ho.cell (p := ⟨b, _, none⟩) (cell_lt k2) (by simp)).trans k2
          have c3 := (ho.cell (p := ⟨b, _, none⟩) (cell_lt k3) (by simp)).trans k3
          have hyes := Lib.hid (fun (h : clash1 ⟨x, y, f, t⟩ (stAt ss i) = true) => hc71.out (HCI.out.2 ⟨i, him, h⟩))
          obtain ⟨s9, hs9⟩ : ∃ s9, stAt ss i = s9 := ⟨_, rfl⟩
          have HS9 := Lib.hid hs9
          rw [hs9] at c0 c1 c2 c3 hyes
          clear hs9
          obtain ⟨a1, b1, d1, e1⟩ := s9
          simp only at c0 c1 c2 c3
          have hcd : Hid (clash1 ⟨x, y, f, t⟩ ⟨a1, b1, d1, e1⟩ = (decide (b1 = y) || (decide (a1 = x) && (decide (d1 < t) && decide (f < e1))))) := rfl
          have hal := (Only.refl [] wr).alloc (.cells #[.int .i64 a1, .int .i64 b1, .int .i64 d1, .int .i64 e1] 120)
          have hC2 := hC.only hal (by simp)
          have q0 := hC2.cell 0 _ rfl
          have q1 := hC2.cell 1 _ rfl
          have q2 := hC2.cell 2 _ rfl
          have q3 := hC2.cell 3 _ rfl
          have HC2 := Lib.hid hC2
          have HO2 := Lib.hid (ho.trans hal (by simp))
          have hov := Lib.hid (judge_over a1 b1 d1 e1 x (y : Int) f t (wr.alloc (.cells #[.int .i64 a1, .int .i64 b1, .int .i64 d1, .int .i64 e1] 120)))
          have hnext : Hid (clash1 ⟨x, y, f, t⟩ ⟨a1, b1, d1, e1⟩ = false → ∀ k, k < i + 1 → clash1 ⟨x, y, f, t⟩ (stAt ss k) = false) := fun h k hk => by
            by_cases e : k = i
            · subst e; rw [HS9.out]; exact h
            · exact HNO.out k (by omega)
          clear k0 k1 k2 k3 hC hC2 hal ho
          by_cases hb1 : b1 = (y : Int)
          · have hf7 := Lib.hid (hyes.out (by rw [hcd.out, decide_eq_true hb1]; rfl))
            subst hb1
            go_wp2
            go_ret
            exact ⟨by rw [hf7.out]; rfl, HO2.out⟩
          · have hb1' : (b1 == (y : Int)) = false := by simpa using hb1
            by_cases ha1 : a1 = x
            · subst ha1
              obtain ⟨r, hr⟩ : ∃ r, (decide (d1 < t) && decide (f < e1)) = r := ⟨_, rfl⟩
              have hov := hov.out
              rw [hr] at hov
              have hcr : Hid (clash1 ⟨a1, y, f, t⟩ ⟨a1, b1, d1, e1⟩ = r) := by show _ = _; rw [hcd.out, hr, decide_eq_false hb1, decide_eq_true rfl]; rfl
              clear hr
              cases r with
              | true =>
                have hf7 := Lib.hid (hyes.out hcr.out)
                go_wp2_with fail
                refine hov.mono ?_
                rintro e w5 ⟨rfl, ho5⟩
                have ho5 := Lib.hid (HO2.out.trans ho5 (by simp))
                clear hov
                go_wp2
                go_ret
                exact ⟨by rw [hf7.out]; rfl, ho5.out⟩
              | false =>
                have hn2 := Lib.hid (hnext.out hcr.out)
                go_wp2_with fail
                refine hov.mono ?_
                rintro e w5 ⟨rfl, ho5⟩
                have hC5 := Lib.hid (HC2.out.only ho5 (by simp))
                have ho5 := Lib.hid (HO2.out.trans ho5 (by simp))
                clear hov
                go_wp2
                go_roundw
                case rel => exact ⟨i + 1, by omega, by go_num, hn2.out, hC5.out, ho5.out⟩
                case measure => (simp [intOf]; try omega)
            · have ha1' : (a1 == x) = false := by simpa using ha1
              have hn2 := Lib.hid (hnext.out (by rw [hcd.out, decide_eq_false hb1, decide_eq_false ha1]; rfl))
              go_wp2
              go_roundw
              case rel => exact ⟨i + 1, by omega, by go_num, hn2.out, HC2.out, HO2.out⟩
              case measure => (simp [intOf]; try omega)
        · obtain rfl : i = m := by omega
          have hf0 := Lib.hid (hc70.out (by
            cases e : clashS ss ⟨x, y, f, t⟩ with
            | false => rfl
            | true =>
              obtain ⟨k, hk, h⟩ := HCI.out.1 e
              rw [HNO.out k hk] at h; cases h))
          go_wp2
          go_ret
          exact ⟨by rw [hf0.out]; rfl, ho⟩
    · have hfa : Hid (E = 3) := by
        show _ = _
        rw [← HE.out]
        exact sfault_3 hgn.out (by show t - f ≠ wkOf p (y : Int).toNat; rw [Int.toNat_natCast]; exact h3)
      obtain ⟨k, hk⟩ : ∃ k, wkOf p y = k := ⟨_, rfl⟩
      rw [hk] at cW h3
      have HO1 := Lib.hid ho1
      clear hk ho1
      go_enter Tryz.func65, Tryz.ntmps65
      go_wp2_with fail
      go_quiet (fail)
      go_wp2
      go_ret
      exact ⟨by rw [hfa.out]; rfl, HO1.out.drewN _⟩
  · have hfa : Hid (E = 1) := by
      show _ = _
      rw [← HE.out]
      refine sfault_1 ?_
      rw [HL.out]
      show x < 0 ∨ hands ≤ x ∨ y < 0 ∨ (n : Int) ≤ y ∨ f < 0 ∨ t < f ∨ 10000 < t
      omega
    have hg2 : x < 0 ∨ (0 ≤ x ∧ hands ≤ x) ∨ (0 ≤ x ∧ x < hands ∧ y < 0) ∨ (0 ≤ x ∧ x < hands ∧ 0 ≤ y ∧ (n : Int) ≤ y) ∨ (0 ≤ x ∧ x < hands ∧ 0 ≤ y ∧ y < (n : Int) ∧ f < 0) ∨ (0 ≤ x ∧ x < hands ∧ 0 ≤ y ∧ y < (n : Int) ∧ 0 ≤ f ∧ t < f) ∨ (0 ≤ x ∧ x < hands ∧ 0 ≤ y ∧ y < (n : Int) ∧ 0 ≤ f ∧ f ≤ t ∧ 10000 < t) := by omega
    have HO1 := Lib.hid ho1
    clear hg ho1
    rcases hg2 with g1 | ⟨g1, g2⟩ | ⟨g1, g2, g3⟩ | ⟨g1, g2, g3, g4⟩ | ⟨g1, g2, g3, g4, g5⟩ | ⟨g1, g2, g3, g4, g5, g6⟩ | ⟨g1, g2, g3, g4, g5, g6, g7⟩
    all_goals
      go_enter Tryz.func65, Tryz.ntmps65
      go_wp2
      go_ret
      exact ⟨by rw [hfa.out]; rfl, HO1.out⟩

end Go.Proofs.YtocpmncedlenbaaGreatDoor
