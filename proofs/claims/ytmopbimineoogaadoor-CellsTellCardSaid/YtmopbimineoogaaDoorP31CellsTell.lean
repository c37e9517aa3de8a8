/-
  Slices of stays: plain facts, their cells, those that came in, those of the call's own.
  What is wrong with stays, in plain words. No program is named here.
-/
import Derived.Test.YtmopbimineoogaaDoorP5CellsTell
import Derived.Test.YtmopbimineoogaaDoorP28CellsTell
import Derived.Test.YtmopbimineoogaaDoorP10CellsTell
import Derived.Test.YtmopbimineoogaaDoorP30CellsTell
namespace Go.Proofs.YtmopbimineoogaaDoor
open Go.RowKit Go.Deep Go.ChangeShapes Go.WideShapes

/-- A stay: its hand, its task, from when, to when. -/
structure St where
  hand : Int
  task : Int
  frm : Int
  til : Int

def stCells (b : St) : List Value := [.int .i64 b.hand, .int .i64 b.task, .int .i64 b.frm, .int .i64 b.til]
def flatS (bs : List St) : List Value := bs.flatMap stCells
def stAt (bs : List St) (i : Nat) : St := bs[i]?.getD ⟨0, 0, 0, 0⟩
theorem take_st (bs : List St) (k : Nat) (h : k < bs.length) : bs.take (k + 1) = bs.take k ++ [stAt bs k] := by
  rw [List.take_succ_eq_append_getElem h]
  simp [stAt, h]
theorem stAt_mem {bs : List St} {k : Nat} (h : k < bs.length) : stAt bs k ∈ bs := by simp [stAt, h]

theorem flatS_len (bs : List St) : (flatS bs).length = bs.length * 4 := by
  induction bs with
  | nil => rfl
  | cons b bs ih => simp only [flatS, List.flatMap_cons, List.length_append, List.length_cons] at ih ⊢; rw [ih]; simp [stCells]; omega
theorem flatS_one (bs : List St) : ∀ y ∈ flatS bs, y.oneCell' = true := by
  intro y hy
  obtain ⟨b, _, hb⟩ := List.mem_flatMap.1 hy
  simp only [stCells, List.mem_cons, List.not_mem_nil, or_false] at hb
  rcases hb with rfl | rfl | rfl | rfl <;> rfl
theorem flatS_push (bs : List St) (b : St) : flatS bs ++ [.int .i64 b.hand, .int .i64 b.task, .int .i64 b.frm, .int .i64 b.til] = flatS (bs ++ [b]) := by
  simp [flatS, stCells]
theorem flatS_get (bs : List St) (i t : Nat) (hi : i < bs.length) (ht : t < 4) : (flatS bs)[i * 4 + t]? = (stCells (stAt bs i))[t]? := by
  induction bs generalizing i with
  | nil => simp at hi
  | cons b bs ih =>
    rcases i with _ | i
    · simp only [flatS, List.flatMap_cons, stAt]
      rw [List.getElem?_append_left (by simp [stCells]; omega)]
      simp
    · have e : (i + 1) * 4 + t = 4 + (i * 4 + t) := by omega
      have := ih i (by simpa using hi)
      simp only [flatS, List.flatMap_cons] at this ⊢
      rw [e, List.getElem?_append_right (by simp [stCells]), show 4 + (i * 4 + t) - (stCells b).length = i * 4 + t by simp [stCells], this]
      simp [stAt]

/-- The value v is a slice of the stays bs. -/
def StaysAt (w : World) (v : Value) (bs : List St) : Prop := RowAt w v bs.length 4 (flatS bs)

theorem StaysAt.opt {w : World} {v : Value} {bs : List St} (h : StaysAt w v bs) :
    ∃ a cap, v = .slice a bs.length cap ∧ ∀ i, i < bs.length → ∃ b off, a = some ⟨b, off, none⟩ ∧
      w.cell? ⟨b, off + i * 4, none⟩ = some (.int .i64 (stAt bs i).hand) ∧ w.cell? ⟨b, off + i * 4 + 1, none⟩ = some (.int .i64 (stAt bs i).task) ∧
      w.cell? ⟨b, off + i * 4 + 2, none⟩ = some (.int .i64 (stAt bs i).frm) ∧ w.cell? ⟨b, off + i * 4 + 3, none⟩ = some (.int .i64 (stAt bs i).til) := by
  obtain ⟨hl, h1, h⟩ := h
  rcases h with ⟨h0, h | ⟨x, cap, h⟩⟩ | ⟨h0, b, off, cap, h, hc⟩
  · exact ⟨none, 0, by rw [h0]; exact h, fun i hi => by omega⟩
  · exact ⟨some x, cap, by rw [h0]; exact h, fun i hi => by omega⟩
  · refine ⟨_, cap, h, fun i hi => ⟨b, off, rfl, ?_, ?_, ?_, ?_⟩⟩
    · exact hc (i * 4) _ (by rw [show i * 4 = i * 4 + 0 from rfl, flatS_get bs i 0 hi (by omega)]; rfl)
    · rw [Nat.add_assoc]; exact hc (i * 4 + 1) _ (by rw [flatS_get bs i 1 hi (by omega)]; rfl)
    · rw [Nat.add_assoc]; exact hc (i * 4 + 2) _ (by rw [flatS_get bs i 2 hi (by omega)]; rfl)
    · rw [Nat.add_assoc]; exact hc (i * 4 + 3) _ (by rw [flatS_get bs i 3 hi (by omega)]; rfl)

theorem StaysAt.same {w w' : World} {v : Value} {bs : List St} (h : StaysAt w v bs) (ho : Only [] w w') : StaysAt w' v bs := RowAt.same h ho

theorem sliceOf_stays : SliceOf 25 45 4 32 :=
  sliceOf_parts (z := .agg #[.int .i64 0, .int .i64 0, .int .i64 0, .int .i64 0]) Tryd.underlying25 (by kernel_rfl) rfl (by decide) (by decide)

/-- Stays of the call's own. -/
def OwnStays (w : World) (base : Nat) (v : Value) (bs : List St) : Prop := w.ownsRow base 45 4 v bs.length (flatS bs)
theorem OwnStays.at {w : World} {base : Nat} {v : Value} {bs : List St} (h : OwnStays w base v bs) : StaysAt w v bs := Row.at h (flatS_one bs)
theorem OwnStays.nil (w : World) (base : Nat) : OwnStays w base (.slice none 0 0) [] := World.ownsRow_nil _ _ _ _

def stWf (b : St) : Prop := (Lit.int .i64 b.hand).wf = true ∧ (Lit.int .i64 b.task).wf = true ∧ (Lit.int .i64 b.frm).wf = true ∧ (Lit.int .i64 b.til).wf = true

/-- The value v is a slice that came in, with the stays bs. -/
def InStays (w : World) (v : Value) (bs : List St) : Prop := (∀ b ∈ bs, stWf b) ∧ StaysAt w v bs ∧ bs.length ≤ maxLen ∧ ∀ a m c, v = .slice a m c → m ≤ c
theorem InStays.same {w w' : World} {v : Value} {bs : List St} (h : InStays w v bs) (ho : Only [] w w') : InStays w' v bs := ⟨h.1, h.2.1.same ho, h.2.2⟩

theorem flatS_eq (bs : List St) : flatS bs = flatV (fun i j => (stCells (stAt bs i))[j]?.getD undef) bs.length 4 := by
  apply List.ext_getElem?
  intro m
  by_cases hm : m < bs.length * 4
  · have e : m = m / 4 * 4 + m % 4 := by omega
    have h1 : m / 4 < bs.length := by omega
    rw [e, flatS_get _ _ _ h1 (by omega), flatV_get _ _ _ _ _ h1 (by omega)]
    have : m % 4 = 0 ∨ m % 4 = 1 ∨ m % 4 = 2 ∨ m % 4 = 3 := by omega
    rcases this with h | h | h | h <;> rw [h] <;> rfl
  · rw [List.getElem?_eq_none (by rw [flatS_len]; omega), List.getElem?_eq_none (by rw [flatV_len]; omega)]

set_option maxRecDepth 100000 in
theorem open_stays {H : Type} {enc : TypeId × Value → H} {W : World} {base : Nat} {v : Value} {d : DataW H} {p : List MemPlace}
    (hv : Value.okWide Tryd.prog W .any base 25 v) (h : DataW.Trod enc Tryd.prog W 0 (fun _ => true) true 25 v d p) : ∃ l, InStays W v l := by
  obtain ⟨n, V, hR, hV⟩ := open_recs (k := 4) Tryd.underlying25 Tryd.underlying45 rfl (by omega) (by kernel_rfl) (fields_ok (by kernel_rfl)) hv h
  have key : ∀ i, i < n → ∃ b : St, (V i 0 = .int .i64 b.hand ∧ V i 1 = .int .i64 b.task ∧ V i 2 = .int .i64 b.frm ∧ V i 3 = .int .i64 b.til) ∧ stWf b := by
    intro i hi
    obtain ⟨_, x0, h0⟩ := hV i hi 0 _ rfl
    obtain ⟨_, x1, h1⟩ := hV i hi 1 _ rfl
    obtain ⟨_, x2, h2⟩ := hV i hi 2 _ rfl
    obtain ⟨_, x3, h3⟩ := hV i hi 3 _ rfl
    obtain ⟨a, e0, _, wa⟩ := DataW.trod_int Tryd.underlying3 h0
    obtain ⟨b, e1, _, wb⟩ := DataW.trod_int Tryd.underlying3 h1
    obtain ⟨c, e2, _, wc⟩ := DataW.trod_int Tryd.underlying3 h2
    obtain ⟨d, e3, _, wd⟩ := DataW.trod_int Tryd.underlying3 h3
    simp at e0 e1 e2 e3
    exact ⟨⟨a, b, c, d⟩, ⟨e0, e1, e2, e3⟩, wa, wb, wc, wd⟩
  haveI : Inhabited St := ⟨⟨0, 0, 0, 0⟩⟩
  obtain ⟨q, hq⟩ := choose_lt key
  have hl : ((List.range n).map q).length = n := by simp
  have hat : ∀ i, i < n → stAt ((List.range n).map q) i = q i := fun i hi => by simp [stAt, hi]
  have hmax : n ≤ maxLen := by obtain ⟨a, cap, _, h1, h2, _⟩ := hR; omega
  refine ⟨(List.range n).map q, ?_, ?_, by rw [hl]; exact hmax, fun a m c hv => by obtain ⟨a', cap, e, h1, _⟩ := hR; rw [hv] at e; injection e with _ e2 e3; omega⟩
  · intro j hj
    obtain ⟨i, hi, rfl⟩ := List.mem_map.1 hj
    exact (hq i (List.mem_range.1 hi)).2
  · unfold StaysAt
    rw [flatS_eq, hl]
    have hR2 := hR.congr (V' := fun i j => (stCells (stAt ((List.range n).map q) i))[j]?.getD undef) (fun i j hi hj => by
      rw [hat i hi]
      obtain ⟨⟨e0, e1, e2, e3⟩, _⟩ := hq i hi
      have : j = 0 ∨ j = 1 ∨ j = 2 ∨ j = 3 := by omega
      rcases this with rfl | rfl | rfl | rfl
      · exact e0
      · exact e1
      · exact e2
      · exact e3)
    refine hR2.row (by omega) fun i j hi hj => ?_
    have : j = 0 ∨ j = 1 ∨ j = 2 ∨ j = 3 := by omega
    rcases this with rfl | rfl | rfl | rfl <;> rfl

end Go.Proofs.YtmopbimineoogaaDoor

namespace Go.Proofs.YtmopbimineoogaaDoor

/-- Have two a step in common? -/
def overS (a b : St) : Bool := decide (a.frm < b.til) && decide (b.frm < a.til)
def clashS (ss : List St) (s : St) : Bool := ss.any fun x => decide (x.task = s.task) || (decide (x.hand = s.hand) && overS x s)
/-- What is wrong with a stay, by those ahead. -/
def stayFault (p : PlanL) (hands : Int) (ahead : List St) (s : St) : Int :=
  if s.hand < 0 ∨ hands ≤ s.hand ∨ s.task < 0 ∨ (p.length : Int) ≤ s.task ∨ s.frm < 0 ∨ s.til < s.frm ∨ 10000 < s.til then 1
  else if s.til - s.frm ≠ wkOf p s.task.toNat then 3
  else if clashS ahead s = true then 7 else 0
def scanS (p : PlanL) (hands : Int) (ss : List St) (k : Nat) : Int := firstE (fun i => stayFault p hands (ss.take i) (stAt ss i)) k
/-- The stay of a task. -/
def stayOf (ss : List St) (t : Int) : Option St := ss.foldl (fun o x => if x.task = t then some x else o) none
def stF (ss : List St) (t : Int) : St := (stayOf ss t).getD ⟨0, 0, 0, 0⟩
def earlyS (p : PlanL) (ss : List St) : Bool := ss.any fun a => ss.any fun b => decide (b.task ∈ ndOf p a.task.toNat) && decide (a.frm < b.til)
def staysErr (p : PlanL) (hands : Int) (ss : List St) : Int :=
  if scanS p hands ss ss.length ≠ 0 then scanS p hands ss ss.length else if ss.length < p.length then 5 else if earlyS p ss = true then 6 else 0

theorem stayOf_push (ss : List St) (s : St) (t : Int) : stayOf (ss ++ [s]) t = if s.task = t then some s else stayOf ss t := by
  unfold stayOf; rw [List.foldl_append]; rfl
theorem stayOf_some {ss : List St} {t : Int} {s : St} (h : stayOf ss t = some s) : s ∈ ss ∧ s.task = t := by
  have : ∀ (r : List St), stayOf r.reverse t = some s → s ∈ r.reverse ∧ s.task = t := by
    intro r
    induction r with
    | nil => intro h; cases h
    | cons a r ih =>
      rw [List.reverse_cons, stayOf_push]
      intro h
      by_cases e : a.task = t
      · rw [if_pos e] at h; cases h; exact ⟨by simp, e⟩
      · rw [if_neg e] at h
        have := ih h
        exact ⟨by simp at this ⊢; exact .inl this.1, this.2⟩
  have := this ss.reverse
  rw [List.reverse_reverse] at this
  exact this h
theorem stayOf_none {ss : List St} {t : Int} (h : ∀ s ∈ ss, s.task ≠ t) : stayOf ss t = none := by
  cases e : stayOf ss t with
  | none => rfl
  | some s => have := stayOf_some e; exact absurd this.2 (h s this.1)
theorem stayOf_mem {ss : List St} (hp : ss.Pairwise (fun a b => a.task ≠ b.task)) {s : St} (h : s ∈ ss) : stayOf ss s.task = some s := by
  have : ∀ (r : List St), r.reverse.Pairwise (fun a b => a.task ≠ b.task) → s ∈ r.reverse → stayOf r.reverse s.task = some s := by
    intro r
    induction r with
    | nil => intro _ h; cases h
    | cons a r ih =>
      rw [List.reverse_cons]
      intro hp h
      rw [stayOf_push]
      have h2 := List.pairwise_append.1 hp
      rcases List.mem_append.1 h with h | h
      · rw [if_neg (fun e => h2.2.2 s h a (by simp) e.symm)]; exact ih h2.1 h
      · obtain rfl : s = a := by simpa using h
        rw [if_pos rfl]
  have := this ss.reverse
  rw [List.reverse_reverse] at this
  exact this hp h

theorem scanS_at {p : PlanL} {hands : Int} {ss : List St} {k : Nat} (h : stayFault p hands (ss.take k) (stAt ss k) = 0) :
    0 ≤ (stAt ss k).hand ∧ (stAt ss k).hand < hands ∧ 0 ≤ (stAt ss k).task ∧ (stAt ss k).task < p.length ∧ 0 ≤ (stAt ss k).frm ∧ (stAt ss k).frm ≤ (stAt ss k).til ∧ (stAt ss k).til ≤ 10000 ∧
    (stAt ss k).til - (stAt ss k).frm = wkOf p (stAt ss k).task.toNat ∧ ∀ x ∈ ss.take k, x.task ≠ (stAt ss k).task ∧ ¬ (x.hand = (stAt ss k).hand ∧ x.frm < (stAt ss k).til ∧ (stAt ss k).frm < x.til) := by
  unfold stayFault at h
  split at h
  · cases h
  · split at h
    · cases h
    · split at h
      · cases h
      · rename_i h1 h2 h3
        refine ⟨by omega, by omega, by omega, by omega, by omega, by omega, by omega, by omega, fun x hx => ?_⟩
        have h4 : clashS (ss.take k) (stAt ss k) = false := by simpa using h3
        unfold clashS at h4
        rw [List.any_eq_false] at h4
        have := h4 x hx
        simp only [overS, Bool.or_eq_true, decide_eq_true_eq, Bool.and_eq_true, not_or] at this
        exact ⟨this.1, this.2⟩

theorem scanS_pair {p : PlanL} {hands : Int} {ss : List St} {k : Nat} (h : scanS p hands ss k = 0) (hk : k ≤ ss.length) : (ss.take k).Pairwise (fun a b => a.task ≠ b.task) := by
  induction k with
  | zero => simp
  | succ k ih =>
    have h1 := scanS_at (firstE_all.1 h k (by omega))
    rw [take_st ss k (by omega), List.pairwise_append]
    refine ⟨ih (firstE_before h (by omega)) (by omega), by simp, fun a ha b hb => ?_⟩
    obtain rfl : b = stAt ss k := by simpa using hb
    exact (h1.2.2.2.2.2.2.2.2 a ha).1

theorem scanS_mem {p : PlanL} {hands : Int} {ss : List St} (h : scanS p hands ss ss.length = 0) : ∀ s ∈ ss, 0 ≤ s.hand ∧ s.hand < hands ∧ 0 ≤ s.task ∧ s.task < p.length ∧ 0 ≤ s.frm ∧ s.frm ≤ s.til ∧ s.til ≤ 10000 ∧ s.til - s.frm = wkOf p s.task.toNat := by
  intro s hs
  obtain ⟨i, hi, rfl⟩ := List.getElem_of_mem hs
  have h1 := scanS_at (firstE_all.1 h i hi)
  have e : stAt ss i = ss[i] := by simp [stAt, hi]
  rw [e] at h1
  exact ⟨h1.1, h1.2.1, h1.2.2.1, h1.2.2.2.1, h1.2.2.2.2.1, h1.2.2.2.2.2.1, h1.2.2.2.2.2.2.1, h1.2.2.2.2.2.2.2.1⟩

/-- As many different numbers below n as n are all of them. -/
theorem all_there {n : Nat} {l : List Nat} (hn : l.Nodup) (hl : ∀ x ∈ l, x < n) (hlen : n ≤ l.length) : ∀ i, i < n → i ∈ l := by
  intro i hi
  by_cases e : i ∈ l
  · exact e
  · exfalso
    have h1 := sum_ind n (i :: l) (List.nodup_cons.2 ⟨e, hn⟩) (fun x hx => by
      rcases List.mem_cons.1 hx with rfl | hx
      · exact hi
      · exact hl x hx)
    have h2 := sum_map_le (fun j => if j ∈ i :: l then 1 else 0) (fun _ => 1) (List.range n) (fun x _ => by split <;> omega)
    have h3 := sum_const (List.range n) 1
    simp only [List.length_range, List.length_cons] at h1 h2 h3
    omega

theorem stay_all {p : PlanL} {hands : Int} {ss : List St} (h : scanS p hands ss ss.length = 0) (hl : p.length ≤ ss.length) (i : Nat) (hi : i < p.length) : ∃ s ∈ ss, s.task = (i : Int) := by
  have hp := scanS_pair h (Nat.le_refl _)
  rw [List.take_length] at hp
  have hm := scanS_mem h
  have h1 := all_there (n := p.length) (l := ss.map fun s => s.task.toNat) (by
    unfold List.Nodup
    rw [List.pairwise_map]
    refine (List.pairwise_iff_getElem.2 fun a b ha hb hab => ?_)
    have := (List.pairwise_iff_getElem.1 hp) a b ha hb hab
    have h1 := hm _ (List.getElem_mem ha)
    have h2 := hm _ (List.getElem_mem hb)
    omega) (fun x hx => by
      obtain ⟨s, hs, rfl⟩ := List.mem_map.1 hx
      have := hm s hs
      omega) (by simpa using hl) i hi
  obtain ⟨s, hs, he⟩ := List.mem_map.1 h1
  have := hm s hs
  exact ⟨s, hs, by omega⟩

theorem earlyS_iff {p : PlanL} {hands : Int} {ss : List St} (h : scanS p hands ss ss.length = 0) (hl : p.length ≤ ss.length) (hn : ∀ i, ∀ k ∈ ndOf p i, 0 ≤ k ∧ k < p.length) :
    earlyS p ss = true ↔ ∃ i, i < p.length ∧ ∃ k ∈ ndOf p i, (stF ss (i : Int)).frm < (stF ss k).til := by
  have hp := scanS_pair h (Nat.le_refl _)
  rw [List.take_length] at hp
  have hm := scanS_mem h
  constructor
  · intro he
    unfold earlyS at he
    obtain ⟨a, ha, h1⟩ := List.any_eq_true.1 he
    obtain ⟨b, hb, h2⟩ := List.any_eq_true.1 h1
    simp only [Bool.and_eq_true, decide_eq_true_eq] at h2
    have := hm a ha
    refine ⟨a.task.toNat, by omega, b.task, h2.1, ?_⟩
    unfold stF
    rw [show ((a.task.toNat : Nat) : Int) = a.task by omega, stayOf_mem hp ha, stayOf_mem hp hb]
    exact h2.2
  · rintro ⟨i, hi, k, hk, h1⟩
    obtain ⟨a, ha, ea⟩ := stay_all h hl i hi
    have hkb := hn i k hk
    obtain ⟨b, hb, eb⟩ := stay_all h hl k.toNat (by omega)
    have ekb : b.task = k := by omega
    unfold stF at h1
    rw [← ea, ← ekb, stayOf_mem hp ha, stayOf_mem hp hb] at h1
    unfold earlyS
    refine List.any_eq_true.2 ⟨a, ha, List.any_eq_true.2 ⟨b, hb, ?_⟩⟩
    simp only [Bool.and_eq_true, decide_eq_true_eq]
    refine ⟨?_, h1⟩
    rw [ea, ekb]
    simpa using hk

end Go.Proofs.YtmopbimineoogaaDoor
