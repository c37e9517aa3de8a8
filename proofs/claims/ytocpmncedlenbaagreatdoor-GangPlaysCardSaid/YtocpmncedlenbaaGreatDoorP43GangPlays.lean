/-
  Contract of yardsame.Deeds, of two equal lists.
  A gang, and the document's, side by side.
  Who is above whom, by ways over tasks with small numbers only (for yardref1.Above). No program is named here.
  Tables of bools that a call made: rows of their own, each once.
  Contract of yardref1.Above.
-/
import Derived.Test.YtocpmncedlenbaaGreatDoorP12GangPlays
import Derived.Test.YtocpmncedlenbaaGreatDoorP42GangPlays
import Derived.Test.YtocpmncedlenbaaGreatDoorP33GangPlays
import Derived.Test.YtocpmncedlenbaaGreatDoorP40GangPlays
import Derived.Test.YtocpmncedlenbaaGreatDoorP41GangPlays
import Derived.Test.YtocpmncedlenbaaGreatDoorP3GangPlays
import Derived.Test.YtocpmncedlenbaaGreatDoorP2GangPlays
import Derived.Test.YtocpmncedlenbaaGreatDoorP4GangPlays
import Derived.Test.YtocpmncedlenbaaGreatDoorP6GangPlays
namespace Go.Proofs.YtocpmncedlenbaaGreatDoor
open Go.RowKit

set_option maxRecDepth 100000 in
set_option maxHeartbeats 1000000 in
theorem same_deeds (u v : Value) (bs : List Dd) (w : World) (hu : DeedsAt w u bs) (hv : DeedsAt w v bs) (hl : bs.length ≤ 9223372036854775807) :
    Calls Tryz.prog 22 #[u, v] w fun e w' => e = .returned (.bool true) ∧ ∃ n, w' = w.drewN n := by
  obtain ⟨a, ca, rfl, ha⟩ := hu.opt
  obtain ⟨b, cb, rfl, hb⟩ := hv.opt
  obtain ⟨n, hn⟩ : ∃ n, bs.length = n := ⟨_, rfl⟩
  rw [hn] at ha hb hl ⊢
  clear hu hv hn
  go_enter Tryz.func22, Tryz.ntmps22
  go_wp2_with fail
  go_loopw [5] (fun vi wr => ∃ i : Nat, i ≤ n ∧ vi = .int .i64 i ∧ ∃ m, w.drewN m = wr) (fun vi _ => n - (intOf vi).toNat)
  case atStart => exact ⟨0, Nat.zero_le _, rfl, 0, rfl⟩
  case round =>
    obtain ⟨i, hi, rfl, m, rfl⟩ := hrel
    by_cases hin : i < n
    · obtain ⟨ba, oa, rfl, k0, k0', k0'', k0'''⟩ := ha i hin
      obtain ⟨bb, ob, rfl, k1, k1', k1'', k1'''⟩ := hb i hin
      generalize ddAt bs i = b9 at *
      obtain ⟨x, y, z, t⟩ := b9
      simp only at k0 k0' k0'' k0''' k1 k1' k1'' k1'''
      clear ha hb
      go_wp2_with fail
      go_quiet (fail)
      go_wp2
      go_roundw
      case rel => exact ⟨i + 1, by omega, by go_num, _, rfl⟩
      case measure => (simp [intOf]; try omega)
    · obtain rfl : i = n := by omega
      clear ha hb
      go_wp2
      go_ret
      exact ⟨rfl, _, rfl⟩

end Go.Proofs.YtocpmncedlenbaaGreatDoor

namespace Go.Proofs.YtocpmncedlenbaaGreatDoor
open Go.RowKit Go.Deep

/-- The document's gang, seen from an earlier world. -/
theorem RGangIs.rebase {wa w0 w : World} {q : RPar} {p : PlanL} {room m : Nat} {s : GSt} {F : Nat → Prop} (h : RGangIs w0 w q p room m s F) (ho : Only [] wa w0) (hp : InPlan wa q.pv p) : RGangIs wa w q p room m s F := by
  obtain ⟨lab, vr, rp, HF, hg, hF⟩ := h
  have hs := ho.size
  obtain ⟨vf, vh, r, e, hl⟩ := hg.spill
  exact ⟨lab, vr, rp, HF, ⟨⟨vf, vh, ⟨r.cells, r.front.mono hs, r.heap.mono hs, r.n1, r.n2, r.n3⟩, e, hl⟩, hg.task, hg.left, hg.row.mono hs, hg.done, hg.ptr, hg.hands, hg.fit, fun x hx => by have := hg.lt x hx; omega, hg.l1, hg.l2, hg.l3, hg.l4, hg.l5, hg.l6, hg.lh, ho.trans hg.old (by simp), hp, hg.m1, hg.m6, hg.r1, hg.r16, hg.mc, hg.cm⟩, hF⟩

structure GP (w : World) (p : PlanL) (r m : Nat) (q : GPar) (d : RPar) (wr : World) (s : GSt) (F E : Nat → Prop) : Prop where
  gang : GangIs wr q p r m s F
  doc : RGangIs w wr d p r m s E
  inv : GInv p r m s
  far : ∀ x, F x → w.heap.size ≤ x
  apart : ∀ x, F x → ¬ E x
  only : Only [] w wr

theorem GP.move {w : World} {p : PlanL} {r m : Nat} {q : GPar} {d : RPar} {wr wr' : World} {s : GSt} {F E : Nat → Prop} {T : List Nat} (h : GP w p r m q d wr s F E) (ho : Only T wr wr') (hT : ∀ x ∈ T, wr.heap.size ≤ x) : GP w p r m q d wr' s F E := by
  have hs := h.only.size
  refine ⟨h.gang.apart ho (fun x hx hf => by have := h.gang.lt x hf; have := hT x hx; omega), h.doc.apart ho (fun x hx => ⟨fun he => by have := (h.doc.lt x he).2; have := hT x hx; omega, by have := hT x hx; omega⟩), h.inv, h.far, h.apart, h.only.trans ho (fun x hx _ => by have := hT x hx; omega)⟩
theorem GP.moved {w : World} {p : PlanL} {r m : Nat} {q : GPar} {d : RPar} {wr wr' : World} {s : GSt} {F E : Nat → Prop} {o : Obj} (h : GP w p r m q d wr s F E) (ho : Only [wr.heap.size] (wr.alloc o) wr') : GP w p r m q d wr' s F E :=
  h.move (T := [wr.heap.size]) (((Only.refl [wr.heap.size] wr).alloc o).trans ho (fun x hx _ => hx)) (by simp)
/-- Both have done a step: the document's first. -/
theorem GP.both {w : World} {p : PlanL} {r m : Nat} {q : GPar} {d : RPar} {wr wb wc : World} {s s' : GSt} {F E F' E' : Nat → Prop} (h : GP w p r m q d wr s F E) (h1 : RRel w wr E wb d p r m s' E') (h2 : GRel wb F wc q p r m s' F') (hi : GInv p r m s') : GP w p r m q d wc s' F' E' := by
  have hs := h.only.size
  have hlt := h.gang.lt
  have hEl := h.doc.lt
  have hs1 := h1.only.size
  obtain ⟨T, hT, hoT⟩ := h2.only
  refine ⟨h2.gang, h1.gang.apart hoT (fun x hx => ⟨fun he => ?_, h.far x (hT x hx)⟩), hi, fun x hx => ?_, fun x hx he => ?_, ?_⟩
  · rcases h1.kin x he with h5 | h5
    · exact h.apart x (hT x hx) h5
    · have := hlt x (hT x hx); omega
  · rcases h2.kin x hx with h5 | h5
    · exact h.far x h5
    · omega
  · rcases h2.kin x hx with h5 | h5
    · rcases h1.kin x he with h6 | h6
      · exact h.apart x h5 h6
      · have := hlt x h5; omega
    · have := (h1.gang.lt x he).2; omega
  · obtain ⟨S, hS, hoS⟩ := h1.only
    exact (h.only.trans hoS (fun x hx _ => by have := (hEl x (hS x hx)).1; omega)).trans hoT (fun x hx _ => by have := h.far x (hT x hx); omega)
/-- The gang where the document's alone has gone on. -/
theorem GP.gang' {w : World} {p : PlanL} {r m : Nat} {q : GPar} {d : RPar} {wr wb : World} {s s' : GSt} {F E E' : Nat → Prop} (h : GP w p r m q d wr s F E) (h1 : RRel w wr E wb d p r m s' E') : GangIs wb q p r m s F := by
  obtain ⟨S, hS, hoS⟩ := h1.only
  exact h.gang.apart hoS (fun x hx hf => h.apart x hf (hS x hx))

end Go.Proofs.YtocpmncedlenbaaGreatDoor

namespace Go.Proofs.YtocpmncedlenbaaGreatDoor

/-- k is needed by i over tasks below m. -/
inductive Via (p : PlanL) (m : Nat) : Nat → Nat → Prop
  | one {i k : Nat} : (k : Int) ∈ ndOf p i → Via p m i k
  | two {i j k : Nat} : j < m → Via p m i j → Via p m j k → Via p m i k

theorem Via.succ {p : PlanL} {m i k : Nat} (h : Via p (m + 1) i k) : Via p m i k ∨ (Via p m i m ∧ Via p m m k) := by
  induction h with
  | one h => exact .inl (.one h)
  | @two i j k hj _ _ h1 h2 =>
    by_cases e : j = m
    · subst e
      rcases h1 with h1 | ⟨h1, _⟩ <;> rcases h2 with h2 | ⟨_, h2⟩ <;> exact .inr ⟨h1, h2⟩
    · have hjm : j < m := by omega
      rcases h1 with h1 | ⟨h1, h1'⟩
      · rcases h2 with h2 | ⟨h2, h2'⟩
        · exact .inl (.two hjm h1 h2)
        · exact .inr ⟨.two hjm h1 h2, h2'⟩
      · rcases h2 with h2 | ⟨_, h2'⟩
        · exact .inr ⟨h1, .two hjm h1' h2⟩
        · exact .inr ⟨h1, h2'⟩

theorem Via.reach {p : PlanL} {m i k : Nat} (h : Via p m i k) : Reach p i k := by
  induction h with
  | one h => exact .one h
  | two _ _ _ h1 h2 => exact h1.trans h2

theorem Reach.via {p : PlanL} {i k : Nat} (h : Reach p i k) (hn : ∀ i, ∀ x ∈ ndOf p i, x < (p.length : Int)) : Via p p.length i k := by
  induction h with
  | one h => exact .one h
  | @more k m h1 h2 ih =>
    refine .two (j := k) ?_ ih (.one h2)
    cases h1 with
    | one h => have := hn _ _ h; omega
    | more _ h => have := hn _ _ h; omega

/-- What stands in the table is so. -/
def Sound (p : PlanL) (F : Nat → Nat → Bool) : Prop := ∀ i k, i < p.length → k < p.length → F i k = true → Reach p i k
/-- Who is above over tasks below m stands in the table. -/
def Full (p : PlanL) (m : Nat) (F : Nat → Nat → Bool) : Prop := ∀ i k, i < p.length → k < p.length → Via p m i k → F i k = true
/-- In the rows ahead of i, and in row i ahead of k, it holds for m + 1. -/
def Part (p : PlanL) (m i k : Nat) (F : Nat → Nat → Bool) : Prop := ∀ x y, x < p.length → y < p.length → (x < i ∨ (x = i ∧ y < k)) → Via p (m + 1) x y → F x y = true

/-- A cell of a table is set. -/
def put2 (F : Nat → Nat → Bool) (i k : Nat) : Nat → Nat → Bool := fun x y => if x = i ∧ y = k then true else F x y

theorem put2_ge (F : Nat → Nat → Bool) (i k x y : Nat) (h : F x y = true) : put2 F i k x y = true := by
  unfold put2; split
  · rfl
  · exact h

theorem Part.zero (p : PlanL) (m : Nat) (F : Nat → Nat → Bool) : Part p m 0 0 F := by
  intro x y _ _ h _; omega
theorem Part.row {p : PlanL} {m i : Nat} {F : Nat → Nat → Bool} (h : Part p m i p.length F) : Part p m (i + 1) 0 F := by
  intro x y hx hy h2 hv
  refine h x y hx hy ?_ hv
  rcases h2 with h2 | ⟨h2, h3⟩
  · by_cases e : x = i
    · exact .inr ⟨e, hy⟩
    · exact .inl (by omega)
  · omega
theorem Part.all {p : PlanL} {m : Nat} {F : Nat → Nat → Bool} (h : Part p m p.length 0 F) : Full p (m + 1) F := fun i k hi hk hv => h i k hi hk (.inl hi) hv

theorem Part.skip {p : PlanL} {m i k : Nat} {F : Nat → Nat → Bool} (h : Part p m i k F) (hf : Full p m F) (hi : i < p.length) (hm : m < p.length) (hn : (F i m && F m k) = false) : Part p m i (k + 1) F := by
  intro x y hx hy h2 hv
  by_cases e : x = i ∧ y = k
  · obtain ⟨rfl, rfl⟩ := e
    rcases hv.succ with h3 | ⟨h3, h4⟩
    · exact hf _ _ hx hy h3
    · rw [hf _ _ hx hm h3, hf _ _ hm hy h4] at hn
      cases hn
  · refine h x y hx hy ?_ hv
    rcases h2 with h2 | ⟨rfl, h2⟩
    · exact .inl h2
    · refine .inr ⟨rfl, ?_⟩
      have : y ≠ k := fun e2 => e ⟨rfl, e2⟩
      omega
theorem Part.put {p : PlanL} {m i k : Nat} {F : Nat → Nat → Bool} (h : Part p m i k F) : Part p m i (k + 1) (put2 F i k) := by
  intro x y hx hy h2 hv
  by_cases e : x = i ∧ y = k
  · unfold put2; rw [if_pos e]
  · refine put2_ge _ _ _ _ _ (h x y hx hy ?_ hv)
    rcases h2 with h2 | ⟨rfl, h2⟩
    · exact .inl h2
    · refine .inr ⟨rfl, ?_⟩
      have : y ≠ k := fun e2 => e ⟨rfl, e2⟩
      omega
theorem Full.put {p : PlanL} {m : Nat} {F : Nat → Nat → Bool} (h : Full p m F) (i k : Nat) : Full p m (put2 F i k) := fun x y hx hy hv => put2_ge _ _ _ _ _ (h x y hx hy hv)
theorem Sound.put {p : PlanL} {F : Nat → Nat → Bool} (h : Sound p F) {i m k : Nat} (hi : i < p.length) (hm : m < p.length) (hk : k < p.length) (h1 : (F i m && F m k) = true) : Sound p (put2 F i k) := by
  intro x y hx hy h2
  unfold put2 at h2
  split at h2
  · rename_i e
    obtain ⟨rfl, rfl⟩ := e
    rw [Bool.and_eq_true] at h1
    exact (h _ _ hi hm h1.1).trans (h _ _ hm hk h1.2)
  · exact h x y hx hy h2

/-- The table at first: who is needed. -/
def need2 (p : PlanL) : Nat → Nat → Bool := fun i k => decide ((k : Int) ∈ ndOf p i)
theorem need2_sound (p : PlanL) : Sound p (need2 p) := fun _ _ _ _ h => .one (by simpa [need2] using h)
theorem need2_full (p : PlanL) : Full p 0 (need2 p) := by
  intro i k _ _ h
  cases h with
  | one h => simpa [need2] using h
  | two h _ _ => omega

/- The table at last. -/
open Classical in
noncomputable def aboveOf (p : PlanL) : Nat → Nat → Bool := fun i k => decide (Reach p i k)
theorem above_of {p : PlanL} {F : Nat → Nat → Bool} (h1 : Sound p F) (h2 : Full p p.length F) (hn : ∀ i, ∀ x ∈ ndOf p i, x < (p.length : Int)) (i k : Nat) (hi : i < p.length) (hk : k < p.length) : F i k = aboveOf p i k := by
  unfold aboveOf
  by_cases h : Reach p i k
  · rw [h2 i k hi hk (h.via hn)]; simp [h]
  · cases e : F i k
    · simp [h]
    · exact absurd (h1 i k hi hk e) h

theorem aboveOf_iff (p : PlanL) (i k : Nat) : aboveOf p i k = true ↔ Reach p i k := by
  unfold aboveOf; simp

end Go.Proofs.YtocpmncedlenbaaGreatDoor

namespace Go.Proofs.YtocpmncedlenbaaGreatDoor
open Go.RowKit Go.Deep

theorem sliceOf_rowsB : SliceOf 165 58 1 24 :=
  sliceOf_parts (z := .slice none 0 0) Tryz.underlying165 (by kernel_rfl) rfl (by decide) (by decide)

def rowsL (g : Nat → Nat) (n j : Nat) : List Value := (List.range j).map fun i => .slice (some ⟨g i, 0, none⟩) n n
theorem rowsL_len (g : Nat → Nat) (n j : Nat) : (rowsL g n j).length = j := by simp [rowsL]
theorem rowsL_push (g : Nat → Nat) (n j b : Nat) : rowsL g n j ++ [.slice (some ⟨b, 0, none⟩) n n] = rowsL (fun i => if i = j then b else g i) n (j + 1) := by
  unfold rowsL
  rw [List.range_succ, List.map_append]
  congr 1
  · refine List.map_congr_left fun i hi => ?_
    have : i < j := by simpa using hi
    show _ = Value.slice (some ⟨if i = j then b else g i, 0, none⟩) n n
    rw [if_neg (by omega)]
  · simp

/-- j rows of n bools. -/
structure Table (w : World) (base : Nat) (v : Value) (n j : Nat) (g : Nat → Nat) (F : Nat → Nat → Bool) : Prop where
  row : w.ownsRow base 58 1 v j (rowsL g n j)
  bools : ∀ i, i < j → Bools w (g i) n (F i)
  far : ∀ i, i < j → base ≤ g i ∧ g i < w.heap.size ∧ g i ∉ own v
  once : ∀ i k, i < j → k < j → g i = g k → i = k

theorem Table.nil (w : World) (base n : Nat) (g : Nat → Nat) (F : Nat → Nat → Bool) : Table w base (.slice none 0 0) n 0 g F :=
  ⟨World.ownsRow_nil _ _ _ _, fun i hi => by omega, fun i hi => by omega, fun i k hi => by omega⟩

theorem Table.same {w w' : World} {base : Nat} {v : Value} {n j : Nat} {g : Nat → Nat} {F : Nat → Nat → Bool} (h : Table w base v n j g F) (ho : Only [] w w') : Table w' base v n j g F :=
  ⟨Row.same h.row ho, fun i hi => (h.bools i hi).only ho (by simp), fun i hi => ⟨(h.far i hi).1, Nat.lt_of_lt_of_le (h.far i hi).2.1 ho.size, (h.far i hi).2.2⟩, h.once⟩

theorem Table.form {w : World} {base : Nat} {v : Value} {n j : Nat} {g : Nat → Nat} {F : Nat → Nat → Bool} (h : Table w base v n j g F) : ∃ a cap, v = .slice a j cap ∧ j ≤ cap ∧ cap ≤ maxLen ∧ (0 < j → ∃ A, a = some ⟨A, 0, none⟩ ∧ base ≤ A ∧ A < w.heap.size) := Row.form h.row

/-- One row more, behind append. -/
theorem Table.push {W w' : World} {base : Nat} {v v' : Value} {n j b : Nat} {g : Nat → Nat} {F : Nat → Nat → Bool} {f : Nat → Bool} (h : Table W base v n j g F) (hb : Bools W b n f) (hbf : base ≤ b ∧ b < W.heap.size) (hbv : b ∉ own v) (hbg : ∀ i, i < j → g i ≠ b)
    (hrow : w'.ownsRow base 58 1 v' (j + 1) (rowsL g n j ++ [.slice (some ⟨b, 0, none⟩) n n])) (ho : Only (own v) W w') (hk : Kin W (own v) (own v')) :
    Table w' base v' n (j + 1) (fun i => if i = j then b else g i) (fun i => if i = j then f else F i) := by
  have hsz := ho.size
  have hap : ∀ x, x < W.heap.size → x ∉ own v → x ∉ own v' := fun x hx h1 h2 => by
    rcases hk x h2 with h3 | h3
    · exact h1 h3
    · omega
  refine ⟨by rw [← rowsL_push]; exact hrow, fun i hi => ?_, fun i hi => ?_, fun i k hi hk2 he => ?_⟩
  · by_cases e : i = j
    · simp only [e, if_pos]; exact hb.only ho hbv
    · simp only [e, if_false]; exact (h.bools i (by omega)).only ho (h.far i (by omega)).2.2
  · by_cases e : i = j
    · simp only [e, if_pos]; exact ⟨hbf.1, by omega, hap b hbf.2 hbv⟩
    · simp only [e, if_false]
      have := h.far i (by omega)
      exact ⟨this.1, by omega, hap _ this.2.1 this.2.2⟩
  · by_cases e : i = j <;> by_cases e2 : k = j
    · omega
    · simp only [e, e2, if_pos, if_false] at he
      exact absurd he.symm (hbg k (by omega))
    · simp only [e, e2, if_pos, if_false] at he
      exact absurd he (hbg i (by omega))
    · simp only [e, e2, if_false] at he
      exact h.once i k (by omega) (by omega) he

/-- The outer cell. -/
theorem Table.cellRow {w : World} {base A n j cap : Nat} {g : Nat → Nat} {F : Nat → Nat → Bool} (h : Table w base (.slice (some ⟨A, 0, none⟩) j cap) n j g F) (i : Nat) (hi : i < j) : w.cell? ⟨A, i, none⟩ = some (.slice (some ⟨g i, 0, none⟩) n n) := by
  rw [World.ownsRow.cellAt h.row i (by omega)]
  simp [rowsL, hi]

theorem Table.set {w : World} {base : Nat} {v : Value} {n j : Nat} {g : Nat → Nat} {F : Nat → Nat → Bool} (h : Table w base v n j g F) (i k : Nat) (hi : i < j) : Table (w.setCell ⟨g i, k, none⟩ (.bool true)) base v n j g (put2 F i k) := by
  have hset : Only [g i] w (w.setCell ⟨g i, k, none⟩ (.bool true)) := (Only.refl _ _).setCell (by simp) _
  have hsz : (w.setCell ⟨g i, k, none⟩ (.bool true)).heap.size = w.heap.size := by simp [World.setCell]
  refine ⟨Row.only h.row hset (fun x hx hx2 => ?_), fun m hm => ?_, fun m hm => ?_, h.once⟩
  · simp at hx2; subst hx2; exact (h.far i hi).2.2 hx
  · by_cases e : m = i
    · subst e
      have := (h.bools m hm).set k true
      have e2 : (fun y => if y = k then true else F m y) = put2 F m k m := by funext y; simp [put2]
      rw [← e2]; exact this
    · have := (h.bools m hm).only hset (by simp; exact fun he => e (h.once m i hm hi he))
      have e2 : put2 F i k m = F m := by funext y; simp [put2, e]
      rw [e2]; exact this
  · have := h.far m hm
    rw [hsz]; exact this

theorem Table.congr {w : World} {base : Nat} {v : Value} {n j : Nat} {g : Nat → Nat} {F G : Nat → Nat → Bool} (h : Table w base v n j g F) (he : ∀ i k, i < j → k < n → F i k = G i k) : Table w base v n j g G :=
  ⟨h.row, fun i hi k hk => by have := h.bools i hi k hk; rw [← he i k hi hk]; exact this, h.far, h.once⟩

end Go.Proofs.YtocpmncedlenbaaGreatDoor

namespace Go.Proofs.YtocpmncedlenbaaGreatDoor
open Go.RowKit Go.Deep

theorem need2_take (p : PlanL) (i k xn : Nat) (hk : k < (ndOf p i).length) (hx : nth (ndOf p i) k = (xn : Int)) :
    (fun y => if y = xn then true else decide ((y : Int) ∈ (ndOf p i).take k)) = fun (y : Nat) => decide ((y : Int) ∈ (ndOf p i).take (k + 1)) := by
  funext y
  rw [take_succ_nth _ k hk, hx]
  by_cases e : y = xn
  · subst e; simp
  · rw [if_neg e]
    apply decide_eq_decide.2
    rw [List.mem_append, List.mem_singleton]
    constructor
    · exact .inl
    · rintro (h | h)
      · exact h
      · omega

set_option maxRecDepth 100000 in
set_option maxHeartbeats 4000000 in
theorem ref_Above (v : Value) (p : PlanL) (w : World) (h : InPlan w v p) (hn : NeedsOk p) :
    Calls Tryz.prog 91 #[v] w fun e w' => ∃ v' g, e = .returned v' ∧ Table w' w.heap.size v' p.length p.length g (aboveOf p) ∧ Only [] w w' := by
  have HP := Lib.hid h
  have HN := Lib.hid hn
  obtain ⟨a, cap, rfl, hc1, hc2, _⟩ := h.task
  obtain ⟨n, hnn⟩ : ∃ n, p.length = n := ⟨_, rfl⟩
  have HL := Lib.hid hnn
  rw [hnn] at hc1 HP ⊢
  have h30 : n ≤ 30 := by rw [← hnn]; exact hn.1
  have hmk := make_bools n (by omega)
  clear h hnn hn hc2
  go_enter Tryz.func91, Tryz.ntmps91
  go_wp2_with fail
  go_loopw [3, 4, 5, 6] (fun vo vi _ _ wr => ∃ i : Nat, i ≤ n ∧ vi = .int .i64 i ∧ ∃ g, Table wr w.heap.size vo n i g (need2 p) ∧ Only [] w wr) (fun _ vi _ _ _ => n - (intOf vi).toNat)
  case atStart => exact ⟨0, Nat.zero_le _, rfl, fun _ => 0, Table.nil _ _ _ _ _, Only.refl _ _⟩
  case round =>
    obtain ⟨wo, rfl⟩ : ∃ wo : World, wo = wr := ⟨_, rfl⟩
    obtain ⟨i, hi, rfl, g, hT, ho⟩ := hrel
    obtain ⟨oa, oc, rfl, _, _, hoa⟩ := hT.form
    have HT := Lib.hid hT
    have hsz := ho.size
    by_cases hin : i < n
    · obtain ⟨b, off, rfl⟩ := HP.out.any i (by rw [HL.out]; exact hin)
      obtain ⟨m, hm⟩ : ∃ m, (ndOf p i).length = m := ⟨_, rfl⟩
      have HM := Lib.hid hm
      have hm30 : m ≤ 30 := by have := HN.out.2.2 i; rw [hm] at this; exact this
      have hB0 := made_bools wo n
      have hal := (Only.refl [] wo).alloc (.cells (madeCells #[.bool false] n) 4)
      obtain ⟨w1, hw1⟩ : ∃ w1, wo.alloc (.cells (madeCells #[.bool false] n) 4) = w1 := ⟨_, rfl⟩
      have hs1 : w1.heap.size = wo.heap.size + 1 := by rw [← hw1]; simp
      rw [hw1] at hB0 hal
      have ho1 := ho.trans hal (by simp)
      have hB1 : Bools w1 wo.heap.size n (fun y => decide ((y : Int) ∈ (ndOf p i).take 0)) := by simpa using hB0
      obtain ⟨ua, uc, _, c1, _⟩ := (HP.out.same ho1).at i (by rw [HL.out]; exact hin)
      rw [hm] at c1
      clear hT hB0 hm
      go_wp2_with fail
      go_loopw [6] (fun vk wr => ∃ k : Nat, k ≤ m ∧ vk = .int .i64 k ∧ Bools wr wo.heap.size n (fun y => decide ((y : Int) ∈ (ndOf p i).take k)) ∧ Only [wo.heap.size] w1 wr) (fun vk _ => m - (intOf vk).toNat)
      case atStart => exact ⟨0, Nat.zero_le _, rfl, hB1, Only.refl _ _⟩
      case round =>
        clear hB1 c1
        obtain ⟨k, hk, rfl, hB, hor⟩ := hrel
        have hwr : Only [] w wr := ho1.trans hor (by simp; omega)
        obtain ⟨ua2, uc2, _, c1, hrd⟩ := (HP.out.same hwr).at i (by rw [HL.out]; exact hin)
        rw [HM.out] at c1 hrd
        by_cases hlk : k < m
        · have hkl : k < (ndOf p i).length := by rw [HM.out]; exact hlk
          obtain ⟨la, lc, e, hcl⟩ := hrd.opt
          obtain ⟨lb, lo, rfl, cx⟩ := hcl k hkl
          injection e with e1 e2 e3
          subst e1
          have hx := HN.out.2.1 i (nth (ndOf p i) k) (by unfold nth; rw [List.getElem?_eq_getElem hkl]; exact List.getElem_mem hkl)
          obtain ⟨xn, hxn⟩ := Int.eq_ofNat_of_zero_le hx.1
          have hB2 := hB.set xn true
          rw [need2_take p i k xn hkl hxn] at hB2
          rw [hxn] at cx hx
          rw [HL.out] at hx
          have hxl : xn < n := by omega
          have hset : Only [wo.heap.size] wr (wr.setCell ⟨wo.heap.size, xn, none⟩ (.bool true)) := (Only.refl _ _).setCell (by simp) _
          have hor2 := Lib.hid (hor.trans hset (by simp))
          obtain ⟨cb0, fb0⟩ := hB xn hxl
          have hB2 := Lib.hid hB2
          clear hB hrd hcl hx hset hor hwr hxn
          go_wp2
          go_roundw
          case rel => exact ⟨k + 1, by omega, by go_num, hB2.out, hor2.out⟩
          case measure => (simp [intOf]; try omega)
        · obtain rfl : k = m := by omega
          have hwor : Only [] wo wr := hal.trans hor (by simp)
          have hT := HT.out.same hwor
          have hB2 : Bools wr wo.heap.size n (need2 p i) := by
            rw [List.take_of_length_le (by rw [HM.out]; exact Nat.le_refl _)] at hB
            exact hB
          have hszr := hwor.size
          have hszr2 := hor.size
          have hone : Hid (RowAt (wr.alloc (.cells #[.slice (some ⟨wo.heap.size, 0, none⟩) n n] 58)) (.slice (some ⟨wr.heap.size, 0, none⟩) 1 1) 1 1 [.slice (some ⟨wo.heap.size, 0, none⟩) n n]) :=
            RowAt.one (cs := #[.slice (some ⟨wo.heap.size, 0, none⟩) n n]) (heap_alloc_new _ _) rfl (by intro y hy; simp at hy; subst hy; rfl)
          have HT2 := Lib.hid hT
          have HR := Lib.hid hT.row
          have HB := Lib.hid hB2
          have HO := Lib.hid hwr
          have hbr : w.heap.size ≤ wr.heap.size := by omega
          have hbl : wo.heap.size < wr.heap.size := by omega
          clear hT hB hB2 hwr hor hrd hwor hlk
          go_wp2_with (at_builtin; refine wpList_append_rows sliceOf_rowsB rfl (.tmp 39) (.tmp 41) rfl wr w.heap.size _ i _ _ 1 _ HR.out hone.out (by omega) hbr rfl rfl ((Only.refl [] wr).alloc _) ?_; intro v' w' hI hOn hK)
          have hT3 : Hid (Table w' w.heap.size v' n (i + 1) (fun y => if y = i then wo.heap.size else g y) (need2 p)) := by
            refine Table.congr (HT2.out.push HB.out ⟨hsz, hbl⟩ (fun hx => ?_) (fun y hy => ?_) hI hOn hK) (fun y k hy _ => ?_)
            · have := (Row.far HT.out.row _ hx).2; omega
            · have := (HT.out.far y hy).2.1; omega
            · split
              · rename_i e; rw [e]
              · rfl
          have ho3 : Hid (Only [] w w') := HO.out.trans hOn (fun x hx hl => by have := (Row.far HR.out x hx).1; omega)
          clear hI hOn hK
          go_wp2
          go_roundw
          case rel => exact ⟨i + 1, by omega, by go_num, _, hT3.out, ho3.out⟩
          case measure => (simp [intOf]; try omega)
    · obtain rfl : i = n := by omega
      clear hin hi hmk
      go_wp2_with fail
      go_loopw [7, 8, 9] (fun vm _ _ wr => ∃ m : Nat, m ≤ i ∧ vm = .int .i64 m ∧ ∃ F, Table wr w.heap.size (.slice oa i oc) i i g F ∧ Sound p F ∧ Full p m F ∧ Only [] w wr) (fun vm _ _ _ => i - (intOf vm).toNat)
      case atStart => exact ⟨0, Nat.zero_le _, rfl, _, HT.out, need2_sound p, need2_full p, ho⟩
      case round =>
        obtain ⟨m, hm, rfl, F, hT1, hS, hF, ho1⟩ := hrel
        by_cases hmi : m < i
        · obtain ⟨A, rfl, _⟩ := hoa (by omega)
          go_wp2_with fail
          go_loopw [8, 9] (fun vi _ wr => ∃ x : Nat, x ≤ i ∧ vi = .int .i64 x ∧ ∃ F, Table wr w.heap.size (.slice (some ⟨A, 0, none⟩) i oc) i i g F ∧ Sound p F ∧ Full p m F ∧ Part p m x 0 F ∧ Only [] w wr) (fun vi _ _ => i - (intOf vi).toNat)
          case atStart => exact ⟨0, Nat.zero_le _, rfl, _, hT1, hS, hF, Part.zero _ _ _, ho1⟩
          case round =>
            clear hT1 hS hF ho1
            obtain ⟨x, hx, rfl, F, hT1, hS, hF, hPt, ho1⟩ := hrel
            by_cases hxi : x < i
            · go_wp2_with fail
              go_loopw [9] (fun vk wr => ∃ k : Nat, k ≤ i ∧ vk = .int .i64 k ∧ ∃ F, Table wr w.heap.size (.slice (some ⟨A, 0, none⟩) i oc) i i g F ∧ Sound p F ∧ Full p m F ∧ Part p m x k F ∧ Only [] w wr) (fun vk _ => i - (intOf vk).toNat)
              case atStart => exact ⟨0, Nat.zero_le _, rfl, _, hT1, hS, hF, hPt, ho1⟩
              case round =>
                clear hT1 hS hF ho1 hPt
                obtain ⟨k, hk, rfl, F, hT1, hS, hF, hPt, ho1⟩ := hrel
                by_cases hki : k < i
                · have cx := hT1.cellRow x hxi
                  have cm := hT1.cellRow m hmi
                  have bx := (hT1.bools x hxi m hmi).1
                  have bm := (hT1.bools m hmi k hki).1
                  have bk := hT1.bools x hxi k hki
                  have hpl : p.length = i := HL.out
                  cases h1 : F x m
                  · rw [h1] at bx
                    have hPt2 := Lib.hid (hPt.skip hF (by omega) (by omega) (by rw [h1]; rfl))
                    have R := Lib.hid (show _ ∧ _ ∧ _ ∧ _ from ⟨hT1, hS, hF, ho1⟩)
                    clear hT1 hS hF ho1 hPt bm bk h1 hpl
                    go_wp2
                    go_roundw
                    case rel => exact ⟨k + 1, by omega, by go_num, _, R.out.1, R.out.2.1, R.out.2.2.1, hPt2.out, R.out.2.2.2⟩
                    case measure => (simp [intOf]; try omega)
                  · cases h2 : F m k
                    · rw [h1] at bx
                      rw [h2] at bm
                      have hPt2 := Lib.hid (hPt.skip hF (by omega) (by omega) (by rw [h1, h2]; rfl))
                      have R := Lib.hid (show _ ∧ _ ∧ _ ∧ _ from ⟨hT1, hS, hF, ho1⟩)
                      clear hT1 hS hF ho1 hPt bk h1 h2 hpl
                      go_wp2
                      go_roundw
                      case rel => exact ⟨k + 1, by omega, by go_num, _, R.out.1, R.out.2.1, R.out.2.2.1, hPt2.out, R.out.2.2.2⟩
                      case measure => (simp [intOf]; try omega)
                    · rw [h1] at bx
                      rw [h2] at bm
                      obtain ⟨bk1, bk2⟩ := bk
                      have hfar := (hT1.far x hxi).1
                      have hT2 := Lib.hid (hT1.set x k hxi)
                      have hS2 := Lib.hid (hS.put (i := x) (m := m) (k := k) (by omega) (by omega) (by omega) (by rw [h1, h2]; rfl))
                      have hF2 := Lib.hid (hF.put x k)
                      have hPt2 := Lib.hid hPt.put
                      have ho2 : Hid (Only [] w (wr.setCell ⟨g x, k, none⟩ (.bool true))) := ho1.setCell (fun h => by simp at h; omega) _
                      generalize F x k = fxk at *
                      clear hT1 hS hF ho1 hPt h1 h2 hpl
                      go_wp2
                      go_roundw
                      case rel => exact ⟨k + 1, by omega, by go_num, _, hT2.out, hS2.out, hF2.out, hPt2.out, ho2.out⟩
                      case measure => (simp [intOf]; try omega)
                · obtain rfl : k = i := by omega
                  have hPt2 := Lib.hid (Part.row (by rw [HL.out]; exact hPt))
                  go_wp2
                  go_roundw
                  case rel => exact ⟨x + 1, by omega, by go_num, _, hT1, hS, hF, hPt2.out, ho1⟩
                  case measure => (simp [intOf]; try omega)
            · obtain rfl : x = i := by omega
              have hF2 := Lib.hid (Part.all (by rw [HL.out]; exact hPt))
              go_wp2
              go_roundw
              case rel => exact ⟨m + 1, by omega, by go_num, _, hT1, hS, hF2.out, ho1⟩
              case measure => (simp [intOf]; try omega)
        · obtain rfl : m = i := by omega
          have hT2 := Lib.hid (hT1.congr (G := aboveOf p) (fun y k hy hk => above_of hS (by rw [HL.out]; exact hF) (fun z x hx => (HN.out.2.1 z x hx).2) y k (by rw [HL.out]; exact hy) (by rw [HL.out]; exact hk)))
          go_wp2
          go_ret
          exact ⟨_, _, rfl, hT2.out, ho1⟩

end Go.Proofs.YtocpmncedlenbaaGreatDoor
