/-
  The document's gang in memory, and what its parts do.
-/
import Derived.Test.YtocpmncedlenbaaGreatDoorP26GangPlays
import Derived.Test.YtocpmncedlenbaaGreatDoorP34GangPlays
import Derived.Test.YtocpmncedlenbaaGreatDoorP36GangPlays
import Derived.Test.YtocpmncedlenbaaGreatDoorP11GangPlays
namespace Go.Proofs.YtocpmncedlenbaaGreatDoor
open Go.RowKit Go.Deep

theorem RefHand.put (fp : List Nat) (d room : Nat) (near : Int) (l : List Int) (n : Int) (w : World) (h : RefHandIs w fp d room near l) (hl : l.length ≤ room) (hr16 : room ≤ 16) :
    Calls Tryz.prog 77 #[.pointer (some ⟨d, 0, none⟩), .int .i64 n] w fun e w' => ∃ v fp', e = .returned v ∧ Ints w' w.heap.size v (handOut near room l) ∧ RefHandIs w' fp' d room n (handRest near room l) ∧ Only fp w w' ∧ Kin w fp fp' ∧ ∀ x ∈ own v, x ∉ fp' := by
  have hd : d ∈ fp := h.lt.1
  by_cases h0 : near < 0
  · refine (RefHand.put_first fp d room near l n w h h0).mono ?_
    rintro e w' ⟨rfl, h1, ho⟩
    refine ⟨_, fp, rfl, ?_, ?_, ho.mono (fun x hx _ => by simp at hx; rw [hx]; exact hd), Kin.refl _ _, fun x hx => by simp [own, Value.ownBlock] at hx⟩
    · unfold handOut; rw [if_pos h0]; exact Ints.nil _ _
    · unfold handRest; rw [if_pos h0]; exact h1
  · by_cases hr : l.length < room
    · refine (RefHand.put_room fp d room near l n w h (by omega) hr hr16).mono ?_
      rintro e w' ⟨fp', rfl, h1, ho, hk⟩
      refine ⟨_, fp', rfl, ?_, ?_, ho, hk, fun x hx => by simp [own, Value.ownBlock] at hx⟩
      · unfold handOut; rw [if_neg h0, if_pos hr]; exact Ints.nil _ _
      · unfold handRest; rw [if_neg h0, if_pos hr]; exact h1
    · refine (RefHand.put_full_s fp d room near l n w h (by omega) (by omega) hr16).mono ?_
      rintro e w' ⟨v, fp', rfl, hI, h1, ho, hk, hap⟩
      refine ⟨v, fp', rfl, ?_, ?_, ho.mono (fun x hx _ => by simp at hx; rw [hx]; exact hd), hk, hap⟩
      · unfold handOut; rw [if_neg h0, if_neg hr]; exact hI
      · unfold handRest; rw [if_neg h0, if_neg hr]; exact h1
theorem handRest_len (near : Int) (room : Nat) (l : List Int) (hl : l.length ≤ room) (h1 : 1 ≤ room) : (handRest near room l).length ≤ room := by
  unfold handRest halfOf
  split
  · exact hl
  · split
    · simp; omega
    · simp; omega

/-- Where it lies. -/
structure RPar where
  G : Nat
  L : Nat
  T : Nat
  U : Nat
  A : Nat
  cap : Nat
  ct : Nat
  cu : Nat
  pv : Value
  HB : Nat → Nat

def RPar.rst (q : RPar) (m n : Nat) (vr : Value) : Rst := ⟨q.pv, .slice (some ⟨q.L, 0, none⟩) m q.cap, .slice (some ⟨q.T, 0, none⟩) m q.ct, .slice (some ⟨q.U, 0, none⟩) m q.cu, vr, .slice (some ⟨q.A, 0, none⟩) n n⟩

structure RGangAt (w0 w : World) (lab : Nat → Nat) (q : RPar) (vr : Value) (rp : List Nat) (HF : Nat → List Nat) (p : PlanL) (room m : Nat) (s : GSt) : Prop where
  spill : GSp w w0.heap.size q.G (q.rst m p.length vr) rp room s.spill
  task : Nums w q.T m (fun i => (s.ws i).task)
  left : Nums w q.U m (fun i => (s.ws i).left)
  row : Ints w w0.heap.size vr s.row
  done : Bools w q.A p.length s.done
  ptr : ∀ i, i < m → w.cell? ⟨q.L, i, none⟩ = some (.pointer (some ⟨q.HB i, 0, none⟩))
  hands : ∀ i, i < m → RefHandIs w (HF i) (q.HB i) room (s.ws i).near (s.ws i).ring
  fit : ∀ i, i < m → (s.ws i).ring.length ≤ room
  lt : ∀ x, lab x ≠ 0 → w0.heap.size ≤ x ∧ x < w.heap.size
  l1 : ∀ x ∈ rp, lab x = 1
  l2 : lab q.L = 2
  l3 : lab q.T = 3
  l4 : lab q.U = 4
  l5 : ∀ x ∈ own vr, lab x = 5
  l6 : lab q.A = 6
  lh : ∀ i, i < m → ∀ x ∈ HF i, lab x = 10 + i
  old : Only [] w0 w
  plan : InPlan w0 q.pv p
  m1 : 1 ≤ m
  m6 : m ≤ 6
  r1 : 1 ≤ room
  r16 : room ≤ 16
  mc : m ≤ q.cap ∧ m ≤ q.ct ∧ m ≤ q.cu
  cm : q.cap ≤ maxLen ∧ q.ct ≤ maxLen ∧ q.cu ≤ maxLen

theorem GSp.block {w : World} {base m room : Nat} {X : Rst} {rp : List Nat} {all : List Int} (h : GSp w base m X rp room all) : m ∈ rp ∧ ∃ vf vh, Cells w m [X.a, X.b, X.c, X.d, .int .i64 room, vf, vh, X.e, X.f] := by
  obtain ⟨vf, vh, r, rfl, _⟩ := h
  exact ⟨by simp, vf, vh, r.cells⟩
/-- Those that sleep are others. -/
theorem GSp.setRow {w : World} {base m room : Nat} {X : Rst} {rp : List Nat} {all : List Int} (h : GSp w base m X rp room all) (v : Value) :
    GSp (w.setCell ⟨m, 7, none⟩ v) base m ⟨X.a, X.b, X.c, X.d, v, X.f⟩ rp room all ∧ Only [m] w (w.setCell ⟨m, 7, none⟩ v) := by
  obtain ⟨vf, vh, r, rfl, hl⟩ := h
  have ho : Only [m] w (w.setCell ⟨m, 7, none⟩ v) := (Only.refl [m] w).setCell (by simp) _
  refine ⟨⟨vf, vh, ⟨r.cells.set 7 v, r.front.only ho (fun g hg hx => r.n1 (by simp at hx; rw [← hx]; exact own_of hg)), r.heap.only ho (fun g hg hx => r.n2 (by simp at hx; rw [← hx]; exact own_of hg)), r.n1, r.n2, r.n3⟩, rfl, hl⟩, ho⟩

/-- Blocks of a list have the label c. -/
def relabL (lab : Nat → Nat) (l : List Nat) (c : Nat) : Nat → Nat := fun x => if x ∈ l then c else lab x
theorem relabL_old {lab : Nat → Nat} {l l0 : List Nat} {w : World} {c x k : Nat} (hk : Kin w l0 l) (h0 : ∀ x ∈ l0, lab x = c) (hl : x < w.heap.size) (e : lab x = k) : relabL lab l c x = k := by
  unfold relabL
  split
  · rename_i hx
    rcases hk x hx with h | h
    · rw [← e, h0 x h]
    · omega
  · exact e
theorem relabL_in {lab : Nat → Nat} {l : List Nat} {c x : Nat} (h : x ∈ l) : relabL lab l c x = c := if_pos h
theorem relabL_lt {lab : Nat → Nat} {l : List Nat} {c x : Nat} (h : relabL lab l c x ≠ 0) : x ∈ l ∨ lab x ≠ 0 := by
  unfold relabL at h
  split at h
  · rename_i hx; exact .inl hx
  · exact .inr h

/-- What one part's change leaves: all other parts. -/
theorem RGangAt.other {w0 w w' : World} {lab : Nat → Nat} {q : RPar} {vr : Value} {rp : List Nat} {HF : Nat → List Nat} {p : PlanL} {room m : Nat} {s : GSt} {S : List Nat} (h : RGangAt w0 w lab q vr rp HF p room m s) (ho : Only S w w') (c : Nat) (hS : ∀ x ∈ S, lab x = c ∧ w0.heap.size ≤ x) :
    (c ≠ 1 → GSp w' w0.heap.size q.G (q.rst m p.length vr) rp room s.spill) ∧ (c ≠ 3 → Nums w' q.T m (fun i => (s.ws i).task)) ∧ (c ≠ 4 → Nums w' q.U m (fun i => (s.ws i).left)) ∧ (c ≠ 5 → Ints w' w0.heap.size vr s.row) ∧ (c ≠ 6 → Bools w' q.A p.length s.done) ∧
      (c ≠ 2 → ∀ i, i < m → w'.cell? ⟨q.L, i, none⟩ = some (.pointer (some ⟨q.HB i, 0, none⟩))) ∧ (∀ i, i < m → c ≠ 10 + i → RefHandIs w' (HF i) (q.HB i) room (s.ws i).near (s.ws i).ring) ∧ Only [] w0 w' := by
  have nc : ∀ x, lab x ≠ c → x ∉ S := fun x h hx => h (hS x hx).1
  refine ⟨fun e => h.spill.only ho (fun x hx => nc x (by rw [h.l1 x hx]; omega)), fun e => h.task.only ho (nc _ (by rw [h.l3]; omega)), fun e => h.left.only ho (nc _ (by rw [h.l4]; omega)), fun e => h.row.only ho (fun g hg => nc g (by rw [h.l5 g (own_of hg)]; omega)),
    fun e => h.done.only ho (nc _ (by rw [h.l6]; omega)), fun e i hi => ?_, fun i hi e => (h.hands i hi).only ho (fun x hx => nc x (by rw [h.lh i hi x hx]; omega)), h.old.trans ho (fun x hx hl => by have := (hS x hx).2; omega)⟩
  have hl := cell_lt (h.ptr i hi)
  exact (ho.cell (p := ⟨q.L, i, none⟩) hl (nc _ (by rw [h.l2]; omega))).trans (h.ptr i hi)

theorem RGangAt.same {w0 w w' : World} {lab : Nat → Nat} {q : RPar} {vr : Value} {rp : List Nat} {HF : Nat → List Nat} {p : PlanL} {room m : Nat} {s : GSt} (h : RGangAt w0 w lab q vr rp HF p room m s) (ho : Only [] w w') : RGangAt w0 w' lab q vr rp HF p room m s := by
  obtain ⟨a1, a2, a3, a4, a5, a6, a7, a8⟩ := h.other ho 0 (by simp)
  exact ⟨a1 (by omega), a2 (by omega), a3 (by omega), a4 (by omega), a5 (by omega), a6 (by omega), fun i hi => a7 i hi (by omega), h.fit, fun x hx => by have := h.lt x hx; have := ho.size; omega, h.l1, h.l2, h.l3, h.l4, h.l5, h.l6, h.lh, a8, h.plan, h.m1, h.m6, h.r1, h.r16, h.mc, h.cm⟩

theorem RGangAt.setSpill {w0 w w' : World} {lab : Nat → Nat} {q : RPar} {vr : Value} {rp rp' : List Nat} {HF : Nat → List Nat} {p : PlanL} {room m : Nat} {s : GSt} (h : RGangAt w0 w lab q vr rp HF p room m s) {sp : List Int} (hs : GSp w' w0.heap.size q.G (q.rst m p.length vr) rp' room sp) (ho : Only rp w w') (hk : Kin w rp rp') :
    RGangAt w0 w' (relabL lab rp' 1) q vr rp' HF p room m ⟨s.done, sp, s.row, s.ws⟩ := by
  obtain ⟨_, a2, a3, a4, a5, a6, a7, a8⟩ := h.other ho 1 (fun x hx => ⟨h.l1 x hx, (h.lt x (by rw [h.l1 x hx]; omega)).1⟩)
  have old : ∀ {x c : Nat}, lab x = c → c ≠ 0 → relabL lab rp' 1 x = c := fun {x c} e hc => relabL_old hk h.l1 (h.lt x (by omega)).2 e
  refine ⟨hs, a2 (by omega), a3 (by omega), a4 (by omega), a5 (by omega), a6 (by omega), fun i hi => a7 i hi (by omega), h.fit, fun x hx => ?_, fun x hx => ?_, old h.l2 (by omega), old h.l3 (by omega), old h.l4 (by omega), fun x hx => old (h.l5 x hx) (by omega), old h.l6 (by omega), fun i hi x hx => old (h.lh i hi x hx) (by omega), a8, h.plan, h.m1, h.m6, h.r1, h.r16, h.mc, h.cm⟩
  · have := ho.size
    have := h.old.size
    rcases relabL_lt hx with hx | hx
    · have := hs.lt x hx
      rcases hk x hx with h1 | h1
      · have := h.lt x (by rw [h.l1 x h1]; omega); omega
      · omega
    · have := h.lt x hx; omega
  · exact relabL_in hx

theorem RGangAt.setHand {w0 w w' : World} {lab : Nat → Nat} {q : RPar} {vr : Value} {rp : List Nat} {HF : Nat → List Nat} {p : PlanL} {room m : Nat} {s : GSt} (h : RGangAt w0 w lab q vr rp HF p room m s) {i : Nat} (hi : i < m) {near : Int} {ring : List Int} {fp' S : List Nat} (hs : RefHandIs w' fp' (q.HB i) room near ring)
    (ho : Only S w w') (hS : ∀ x ∈ S, x ∈ HF i) (hk : Kin w (HF i) fp') (hf : ring.length ≤ room) :
    RGangAt w0 w' (relabL lab fp' (10 + i)) q vr rp (fun j => if j = i then fp' else HF j) p room m ⟨s.done, s.spill, s.row, upW s.ws i ⟨near, ring, (s.ws i).task, (s.ws i).left⟩⟩ := by
  obtain ⟨a1, a2, a3, a4, a5, a6, a7, a8⟩ := h.other ho (10 + i) (fun x hx => ⟨h.lh i hi x (hS x hx), (h.lt x (by rw [h.lh i hi x (hS x hx)]; omega)).1⟩)
  have old : ∀ {x c : Nat}, lab x = c → c ≠ 0 → relabL lab fp' (10 + i) x = c := fun {x c} e hc => relabL_old hk (h.lh i hi) (h.lt x (by omega)).2 e
  refine ⟨a1 (by omega), (a2 (by omega)).congr (fun j hj => ?_), (a3 (by omega)).congr (fun j hj => ?_), a4 (by omega), a5 (by omega), a6 (by omega), fun j hj => ?_, fun j hj => ?_, fun x hx => ?_, fun x hx => old (h.l1 x hx) (by omega), old h.l2 (by omega), old h.l3 (by omega), old h.l4 (by omega), fun x hx => old (h.l5 x hx) (by omega), old h.l6 (by omega), fun j hj x hx => ?_, a8, h.plan, h.m1, h.m6, h.r1, h.r16, h.mc, h.cm⟩
  · show (s.ws j).task = (upW s.ws i _ j).task
    by_cases e : j = i
    · subst e; rw [upW_same]
    · rw [upW_other _ _ _ _ e]
  · show (s.ws j).left = (upW s.ws i _ j).left
    by_cases e : j = i
    · subst e; rw [upW_same]
    · rw [upW_other _ _ _ _ e]
  · show RefHandIs w' (if j = i then fp' else HF j) (q.HB j) room (upW s.ws i _ j).near (upW s.ws i _ j).ring
    by_cases e : j = i
    · subst e; rw [upW_same, if_pos rfl]; exact hs
    · rw [upW_other _ _ _ _ e, if_neg e]; exact a7 j hj (by omega)
  · show (upW s.ws i _ j).ring.length ≤ room
    by_cases e : j = i
    · subst e; rw [upW_same]; exact hf
    · rw [upW_other _ _ _ _ e]; exact h.fit j hj
  · have := ho.size
    have := h.old.size
    rcases relabL_lt hx with hx | hx
    · have := hs.lt.2 x hx
      rcases hk x hx with h1 | h1
      · have := h.lt x (by rw [h.lh i hi x h1]; omega); omega
      · omega
    · have := h.lt x hx; omega
  · by_cases e : j = i
    · subst e
      rw [if_pos rfl] at hx
      exact relabL_in hx
    · rw [if_neg e] at hx
      exact old (h.lh j hj x hx) (by omega)

theorem RGangAt.setTask {w0 w : World} {lab : Nat → Nat} {q : RPar} {vr : Value} {rp : List Nat} {HF : Nat → List Nat} {p : PlanL} {room m : Nat} {s : GSt} (h : RGangAt w0 w lab q vr rp HF p room m s) {i : Nat} (x : Int) :
    RGangAt w0 (w.setCell ⟨q.T, i, none⟩ (.int .i64 x)) lab q vr rp HF p room m ⟨s.done, s.spill, s.row, upW s.ws i ⟨(s.ws i).near, (s.ws i).ring, x, (s.ws i).left⟩⟩ ∧ Only [q.T] w (w.setCell ⟨q.T, i, none⟩ (.int .i64 x)) := by
  have ho : Only [q.T] w (w.setCell ⟨q.T, i, none⟩ (.int .i64 x)) := (Only.refl [q.T] w).setCell (by simp) _
  obtain ⟨a1, _, a3, a4, a5, a6, a7, a8⟩ := h.other ho 3 (fun y hy => by
    obtain rfl : y = q.T := by simpa using hy
    exact ⟨h.l3, (h.lt _ (by rw [h.l3]; omega)).1⟩)
  refine ⟨⟨a1 (by omega), (h.task.set i x).congr (fun j hj => ?_), (a3 (by omega)).congr (fun j hj => ?_), a4 (by omega), a5 (by omega), a6 (by omega), fun j hj => ?_, fun j hj => ?_, fun y hy => by have := h.lt y hy; have := ho.size; omega, h.l1, h.l2, h.l3, h.l4, h.l5, h.l6, h.lh, a8, h.plan, h.m1, h.m6, h.r1, h.r16, h.mc, h.cm⟩, ho⟩
  · show updI _ i x j = (upW s.ws i _ j).task
    unfold updI
    by_cases e : j = i
    · subst e; rw [upW_same, if_pos rfl]
    · rw [upW_other _ _ _ _ e, if_neg e]
  · show (s.ws j).left = (upW s.ws i _ j).left
    by_cases e : j = i
    · subst e; rw [upW_same]
    · rw [upW_other _ _ _ _ e]
  · show RefHandIs _ (HF j) (q.HB j) room (upW s.ws i _ j).near (upW s.ws i _ j).ring
    have := a7 j hj (by omega)
    by_cases e : j = i
    · subst e; rw [upW_same]; exact this
    · rw [upW_other _ _ _ _ e]; exact this
  · show (upW s.ws i _ j).ring.length ≤ room
    have := h.fit j hj
    by_cases e : j = i
    · subst e; rw [upW_same]; exact this
    · rw [upW_other _ _ _ _ e]; exact this

theorem RGangAt.setLeft {w0 w : World} {lab : Nat → Nat} {q : RPar} {vr : Value} {rp : List Nat} {HF : Nat → List Nat} {p : PlanL} {room m : Nat} {s : GSt} (h : RGangAt w0 w lab q vr rp HF p room m s) {i : Nat} (x : Int) :
    RGangAt w0 (w.setCell ⟨q.U, i, none⟩ (.int .i64 x)) lab q vr rp HF p room m ⟨s.done, s.spill, s.row, upW s.ws i ⟨(s.ws i).near, (s.ws i).ring, (s.ws i).task, x⟩⟩ ∧ Only [q.U] w (w.setCell ⟨q.U, i, none⟩ (.int .i64 x)) := by
  have ho : Only [q.U] w (w.setCell ⟨q.U, i, none⟩ (.int .i64 x)) := (Only.refl [q.U] w).setCell (by simp) _
  obtain ⟨a1, a2, _, a4, a5, a6, a7, a8⟩ := h.other ho 4 (fun y hy => by
    obtain rfl : y = q.U := by simpa using hy
    exact ⟨h.l4, (h.lt _ (by rw [h.l4]; omega)).1⟩)
  refine ⟨⟨a1 (by omega), (a2 (by omega)).congr (fun j hj => ?_), (h.left.set i x).congr (fun j hj => ?_), a4 (by omega), a5 (by omega), a6 (by omega), fun j hj => ?_, fun j hj => ?_, fun y hy => by have := h.lt y hy; have := ho.size; omega, h.l1, h.l2, h.l3, h.l4, h.l5, h.l6, h.lh, a8, h.plan, h.m1, h.m6, h.r1, h.r16, h.mc, h.cm⟩, ho⟩
  · show (s.ws j).task = (upW s.ws i _ j).task
    by_cases e : j = i
    · subst e; rw [upW_same]
    · rw [upW_other _ _ _ _ e]
  · show updI _ i x j = (upW s.ws i _ j).left
    unfold updI
    by_cases e : j = i
    · subst e; rw [upW_same, if_pos rfl]
    · rw [upW_other _ _ _ _ e, if_neg e]
  · show RefHandIs _ (HF j) (q.HB j) room (upW s.ws i _ j).near (upW s.ws i _ j).ring
    have := a7 j hj (by omega)
    by_cases e : j = i
    · subst e; rw [upW_same]; exact this
    · rw [upW_other _ _ _ _ e]; exact this
  · show (upW s.ws i _ j).ring.length ≤ room
    have := h.fit j hj
    by_cases e : j = i
    · subst e; rw [upW_same]; exact this
    · rw [upW_other _ _ _ _ e]; exact this

theorem RGangAt.setDone {w0 w : World} {lab : Nat → Nat} {q : RPar} {vr : Value} {rp : List Nat} {HF : Nat → List Nat} {p : PlanL} {room m : Nat} {s : GSt} (h : RGangAt w0 w lab q vr rp HF p room m s) (i : Nat) :
    RGangAt w0 (w.setCell ⟨q.A, i, none⟩ (.bool true)) lab q vr rp HF p room m ⟨upB s.done i, s.spill, s.row, s.ws⟩ ∧ Only [q.A] w (w.setCell ⟨q.A, i, none⟩ (.bool true)) := by
  have ho : Only [q.A] w (w.setCell ⟨q.A, i, none⟩ (.bool true)) := (Only.refl [q.A] w).setCell (by simp) _
  obtain ⟨a1, a2, a3, a4, _, a6, a7, a8⟩ := h.other ho 6 (fun y hy => by
    obtain rfl : y = q.A := by simpa using hy
    exact ⟨h.l6, (h.lt _ (by rw [h.l6]; omega)).1⟩)
  exact ⟨⟨a1 (by omega), a2 (by omega), a3 (by omega), a4 (by omega), (h.done.set i true).congr (fun j hj => rfl), a6 (by omega), fun j hj => a7 j hj (by omega), h.fit, fun y hy => by have := h.lt y hy; have := ho.size; omega, h.l1, h.l2, h.l3, h.l4, h.l5, h.l6, h.lh, a8, h.plan, h.m1, h.m6, h.r1, h.r16, h.mc, h.cm⟩, ho⟩

/-- The row of those that sleep is another list. -/
theorem RGangAt.setRow {w0 w w2 : World} {lab : Nat → Nat} {q : RPar} {vr vr' : Value} {rp S : List Nat} {HF : Nat → List Nat} {p : PlanL} {room m : Nat} {s : GSt} {row : List Int} (h : RGangAt w0 w lab q vr rp HF p room m s) (hI : Ints w2 w0.heap.size vr' row) (ho : Only S w w2) (hS : ∀ x ∈ S, x ∈ own vr) (hk : Kin w (own vr) (own vr')) :
    RGangAt w0 (w2.setCell ⟨q.G, 7, none⟩ vr') (relabL lab (own vr') 5) q vr' rp HF p room m ⟨s.done, s.spill, row, s.ws⟩ ∧ Only (q.G :: S) w (w2.setCell ⟨q.G, 7, none⟩ vr') := by
  obtain ⟨a1, a2, a3, _, a5, a6, a7, a8⟩ := h.other ho 5 (fun x hx => ⟨h.l5 x (hS x hx), (h.lt x (by rw [h.l5 x (hS x hx)]; omega)).1⟩)
  have hgm := h.spill.block.1
  have hg1 := h.l1 q.G hgm
  obtain ⟨b1, hb⟩ := (a1 (by omega)).setRow vr'
  have hsz := ho.size
  have hsz2 : (w2.setCell ⟨q.G, 7, none⟩ vr').heap.size = w2.heap.size := by simp [World.setCell]
  have nc : ∀ x, lab x ≠ 1 → x ∉ [q.G] := fun x h hx => h (by simp at hx; rw [hx]; exact hg1)
  have hvr : ∀ x ∈ own vr', x ∉ [q.G] := fun x hx hg => by
    simp at hg
    subst hg
    rcases hk _ hx with h1 | h1
    · have := h.l5 _ h1; omega
    · have := h.spill.lt _ hgm; omega
  have old : ∀ {x c : Nat}, lab x = c → c ≠ 0 → relabL lab (own vr') 5 x = c := fun {x c} e hc => relabL_old hk h.l5 (h.lt x (by omega)).2 e
  refine ⟨⟨b1, (a2 (by omega)).only hb (nc _ (by rw [h.l3]; omega)), (a3 (by omega)).only hb (nc _ (by rw [h.l4]; omega)), hI.only hb (fun g hg => hvr g (own_of hg)), (a5 (by omega)).only hb (nc _ (by rw [h.l6]; omega)), fun i hi => ?_, fun i hi => (a7 i hi (by omega)).only hb (fun x hx => nc x (by rw [h.lh i hi x hx]; omega)), h.fit, fun x hx => ?_, fun x hx => old (h.l1 x hx) (by omega), old h.l2 (by omega), old h.l3 (by omega), old h.l4 (by omega), fun x hx => ?_, old h.l6 (by omega), fun i hi x hx => old (h.lh i hi x hx) (by omega), a8.trans hb (fun x hx hl => ?_), h.plan, h.m1, h.m6, h.r1, h.r16, h.mc, h.cm⟩, (ho.mono (fun x hx _ => by simp [hx])).trans hb (by simp)⟩
  · have hp := a6 (by omega) i hi
    exact (hb.cell (p := ⟨q.L, i, none⟩) (cell_lt hp) (nc _ (by rw [h.l2]; omega))).trans hp
  · have := h.old.size
    rw [hsz2]
    rcases relabL_lt hx with hx | hx
    · exact hI.own_lt x hx
    · have := h.lt x hx; omega
  · exact relabL_in hx
  · obtain rfl : x = q.G := by simpa using hx
    have := (h.lt _ (by rw [hg1]; omega)).1
    omega

/-- A gang, and the blocks that are its own. -/
def RGangIs (w0 w : World) (q : RPar) (p : PlanL) (room m : Nat) (s : GSt) (F : Nat → Prop) : Prop := ∃ lab vr rp HF, RGangAt w0 w lab q vr rp HF p room m s ∧ ∀ x, lab x ≠ 0 ↔ F x

theorem RGangIs.lt {w0 w : World} {q : RPar} {p : PlanL} {room m : Nat} {s : GSt} {F : Nat → Prop} (h : RGangIs w0 w q p room m s F) : ∀ x, F x → w0.heap.size ≤ x ∧ x < w.heap.size := fun x hx => by
  obtain ⟨lab, vr, rp, HF, h, hF⟩ := h
  exact h.lt x ((hF x).2 hx)
theorem RGangIs.same {w0 w w' : World} {q : RPar} {p : PlanL} {room m : Nat} {s : GSt} {F : Nat → Prop} (h : RGangIs w0 w q p room m s F) (ho : Only [] w w') : RGangIs w0 w' q p room m s F := by
  obtain ⟨lab, vr, rp, HF, h, hF⟩ := h
  exact ⟨lab, vr, rp, HF, h.same ho, hF⟩
theorem RGangIs.apart {w0 w w' : World} {q : RPar} {p : PlanL} {room m : Nat} {s : GSt} {F : Nat → Prop} {T : List Nat} (h : RGangIs w0 w q p room m s F) (ho : Only T w w') (hT : ∀ x ∈ T, ¬ F x ∧ w0.heap.size ≤ x) : RGangIs w0 w' q p room m s F := by
  obtain ⟨lab, vr, rp, HF, h, hF⟩ := h
  obtain ⟨a1, a2, a3, a4, a5, a6, a7, a8⟩ := h.other ho 0 (fun x hx => ⟨Decidable.byContradiction fun e => (hT x hx).1 ((hF x).1 e), (hT x hx).2⟩)
  exact ⟨lab, vr, rp, HF, ⟨a1 (by omega), a2 (by omega), a3 (by omega), a4 (by omega), a5 (by omega), a6 (by omega), fun i hi => a7 i hi (by omega), h.fit, fun x hx => by have := h.lt x hx; have := ho.size; omega, h.l1, h.l2, h.l3, h.l4, h.l5, h.l6, h.lh, a8, h.plan, h.m1, h.m6, h.r1, h.r16, h.mc, h.cm⟩, hF⟩

/-- A gang behind some of its operations, which began in w1. -/
structure RRel (w0 w1 : World) (F0 : Nat → Prop) (w : World) (q : RPar) (p : PlanL) (room m : Nat) (s : GSt) (F : Nat → Prop) : Prop where
  gang : RGangIs w0 w q p room m s F
  kin : ∀ x, F x → F0 x ∨ w1.heap.size ≤ x
  only : OnlyF F0 w1 w

theorem RRel.start {w0 w : World} {q : RPar} {p : PlanL} {room m : Nat} {s : GSt} {F : Nat → Prop} (h : RGangIs w0 w q p room m s F) : RRel w0 w F w q p room m s F := ⟨h, fun _ hx => .inl hx, OnlyF.refl _ _⟩
theorem RRel.same {w0 w1 w w' : World} {F0 F : Nat → Prop} {q : RPar} {p : PlanL} {room m : Nat} {s : GSt} (h : RRel w0 w1 F0 w q p room m s F) (ho : Only [] w w') : RRel w0 w1 F0 w' q p room m s F :=
  ⟨h.gang.same ho, h.kin, h.only.trans (OnlyF.same (F := F0) ho) (fun _ hx => .inl hx)⟩
theorem RRel.step {w0 w1 w w' : World} {F0 F F' : Nat → Prop} {q : RPar} {p : PlanL} {room m : Nat} {s s' : GSt} (h : RRel w0 w1 F0 w q p room m s F) (hg : RGangIs w0 w' q p room m s' F') (ho : OnlyF F w w') (hk : ∀ x, F' x → F x ∨ w.heap.size ≤ x) : RRel w0 w1 F0 w' q p room m s' F' :=
  ⟨hg, fun x hx => by
    rcases hk x hx with h1 | h1
    · exact h.kin x h1
    · right; have := h.only.size; omega, h.only.trans ho h.kin⟩
/-- .. behind a change of what is not its own. -/
theorem RRel.fresh {w0 w1 w w' : World} {F0 F : Nat → Prop} {q : RPar} {p : PlanL} {room m : Nat} {s : GSt} {T : List Nat} (h : RRel w0 w1 F0 w q p room m s F) (ho : Only T w w') (hT : ∀ x ∈ T, ¬ F x ∧ w1.heap.size ≤ x) (h01 : w0.heap.size ≤ w1.heap.size) : RRel w0 w1 F0 w' q p room m s F :=
  ⟨h.gang.apart ho (fun x hx => ⟨(hT x hx).1, by have := (hT x hx).2; omega⟩), h.kin, h.only.trans (OnlyF.of (F := fun x => w1.heap.size ≤ x) ho (fun x hx => (hT x hx).2)) (fun _ hx => .inr hx)⟩

theorem RGangAt.own {w0 w : World} {lab : Nat → Nat} {q : RPar} {vr : Value} {rp : List Nat} {HF : Nat → List Nat} {p : PlanL} {room m : Nat} {s : GSt} {F : Nat → Prop} (_h : RGangAt w0 w lab q vr rp HF p room m s) (hF : ∀ x, lab x ≠ 0 ↔ F x) {x c : Nat} (e : lab x = c) (hc : c ≠ 0) : F x := (hF x).1 (by omega)

/-- The blocks of a list have come to it. -/
def also (F : Nat → Prop) (l : List Nat) : Nat → Prop := fun x => F x ∨ x ∈ l
theorem relabL_also {lab : Nat → Nat} {F : Nat → Prop} {l : List Nat} {c : Nat} (hc : c ≠ 0) (h : ∀ x, lab x ≠ 0 ↔ F x) : ∀ x, relabL lab l c x ≠ 0 ↔ also F l x := fun x => by
  unfold relabL also
  split
  · rename_i hx
    exact ⟨fun _ => .inr hx, fun _ => hc⟩
  · rename_i hx
    rw [h x]
    exact ⟨.inl, fun h1 => by
      rcases h1 with h1 | h1
      · exact h1
      · exact absurd h1 hx⟩
theorem kin_also {w : World} {F : Nat → Prop} {l0 l : List Nat} (hk : Kin w l0 l) (h0 : ∀ x ∈ l0, F x) : Kin' w F (also F l) := fun x hx => by
  rcases hx with hx | hx
  · exact .inl hx
  · rcases hk x hx with h | h
    · exact .inl (h0 x h)
    · exact .inr h

theorem RRel.put {w0 w1 w : World} {F0 F : Nat → Prop} {q : RPar} {p : PlanL} {room m : Nat} {s : GSt} (h : RRel w0 w1 F0 w q p room m s F) {i : Nat} (hi : i < m) (x : Int) :
    Calls Tryz.prog 77 #[.pointer (some ⟨q.HB i, 0, none⟩), .int .i64 x] w fun e w' => ∃ v F', e = .returned v ∧ Ints w' w.heap.size v (handOut (s.ws i).near room (s.ws i).ring) ∧
      RRel w0 w1 F0 w' q p room m ⟨s.done, s.spill, s.row, upW s.ws i (wkPut room (s.ws i) x)⟩ F' ∧ OnlyF F w w' ∧ Kin' w F F' ∧ ∀ y ∈ own v, ¬ F' y := by
  obtain ⟨lab, vr, rp, HF, hg, hF⟩ := h.gang
  refine (RefHand.put _ _ _ _ _ x w (hg.hands i hi) (hg.fit i hi) hg.r16).mono ?_
  rintro e w' ⟨v, fp', rfl, hI, hH, ho, hk, hap⟩
  have hoF : OnlyF F w w' := OnlyF.of ho fun y hy => hg.own hF (hg.lh i hi y hy) (by omega)
  have hk' : Kin' w F (also F fp') := kin_also hk (fun y hy => hg.own hF (hg.lh i hi y hy) (by omega))
  refine ⟨v, also F fp', rfl, hI, h.step ⟨_, vr, rp, _, hg.setHand hi hH ho (fun _ h => h) hk (handRest_len _ _ _ (hg.fit i hi) hg.r1), relabL_also (by omega) hF⟩ hoF hk', hoF, hk', fun y hy hx => ?_⟩
  rcases hx with hx | hx
  · have h1 := (hI.own_lt y hy).1
    have h2 := (h.gang.lt y hx).2
    omega
  · exact hap y hy hx

theorem RRel.rob {w0 w1 w : World} {F0 F : Nat → Prop} {q : RPar} {p : PlanL} {room m : Nat} {s : GSt} (h : RRel w0 w1 F0 w q p room m s F) {i : Nat} (hi : i < m) :
    Calls Tryz.prog 82 #[.pointer (some ⟨q.HB i, 0, none⟩)] w fun e w' => ∃ v F', e = .returned v ∧ Ints w' w.heap.size v ((s.ws i).ring.take (halfOf (s.ws i).ring)) ∧
      RRel w0 w1 F0 w' q p room m ⟨s.done, s.spill, s.row, upW s.ws i ⟨(s.ws i).near, (s.ws i).ring.drop (halfOf (s.ws i).ring), (s.ws i).task, (s.ws i).left⟩⟩ F' ∧ ∀ y ∈ own v, ¬ F' y := by
  obtain ⟨lab, vr, rp, HF, hg, hF⟩ := h.gang
  refine (RefHand.rob_s _ _ _ _ _ w (hg.hands i hi)).mono ?_
  rintro e w' ⟨v, fp', rfl, hI, hH, ho, hk, hap⟩
  have hd : q.HB i ∈ HF i := (hg.hands i hi).lt.1
  have hS : ∀ x ∈ [q.HB i], x ∈ HF i := fun x hx => by
    obtain rfl : x = q.HB i := by simpa using hx
    exact hd
  refine ⟨v, also F fp', rfl, hI, h.step ⟨_, vr, rp, _, hg.setHand hi hH ho hS hk (by have := hg.fit i hi; simp; omega), relabL_also (by omega) hF⟩ (OnlyF.of ho fun y hy => hg.own hF (hg.lh i hi y (hS y hy)) (by omega)) (kin_also hk (fun y hy => hg.own hF (hg.lh i hi y hy) (by omega))), fun y hy hx => ?_⟩
  rcases hx with hx | hx
  · have h1 := (hI.own_lt y hy).1
    have h2 := (h.gang.lt y hx).2
    omega
  · exact hap y hy hx

theorem RRel.take_near {w0 w1 w : World} {F0 F : Nat → Prop} {q : RPar} {p : PlanL} {room m : Nat} {s : GSt} (h : RRel w0 w1 F0 w q p room m s F) {i : Nat} (hi : i < m) (hn : 0 ≤ (s.ws i).near) :
    Calls Tryz.prog 79 #[.pointer (some ⟨q.HB i, 0, none⟩)] w fun e w' => e = .returned (.tuple #[.int .i64 (s.ws i).near, .bool true]) ∧ ∃ F', RRel w0 w1 F0 w' q p room m ⟨s.done, s.spill, s.row, upW s.ws i ⟨-1, (s.ws i).ring, (s.ws i).task, (s.ws i).left⟩⟩ F' := by
  obtain ⟨lab, vr, rp, HF, hg, hF⟩ := h.gang
  refine (RefHand.take_near _ _ _ _ _ w (hg.hands i hi) hn).mono ?_
  rintro e w' ⟨rfl, hH, ho⟩
  have hd : q.HB i ∈ HF i := (hg.hands i hi).lt.1
  have hS : ∀ x ∈ [q.HB i], x ∈ HF i := fun x hx => by
    obtain rfl : x = q.HB i := by simpa using hx
    exact hd
  exact ⟨rfl, _, h.step ⟨_, vr, rp, _, hg.setHand hi hH ho hS (Kin.refl _ _) (hg.fit i hi), relabL_also (by omega) hF⟩ (OnlyF.of ho fun y hy => hg.own hF (hg.lh i hi y (hS y hy)) (by omega)) (kin_also (Kin.refl _ _) (fun y hy => hg.own hF (hg.lh i hi y hy) (by omega)))⟩

theorem RRel.take_ring {w0 w1 w : World} {F0 F : Nat → Prop} {q : RPar} {p : PlanL} {room m : Nat} {s : GSt} (h : RRel w0 w1 F0 w q p room m s F) {i : Nat} (hi : i < m) (hn : (s.ws i).near < 0) (hr : (s.ws i).ring ≠ []) :
    Calls Tryz.prog 79 #[.pointer (some ⟨q.HB i, 0, none⟩)] w fun e w' => e = .returned (.tuple #[.int .i64 ((s.ws i).ring.getLastD 0), .bool true]) ∧ ∃ F', RRel w0 w1 F0 w' q p room m ⟨s.done, s.spill, s.row, upW s.ws i ⟨(s.ws i).near, (s.ws i).ring.dropLast, (s.ws i).task, (s.ws i).left⟩⟩ F' := by
  obtain ⟨lab, vr, rp, HF, hg, hF⟩ := h.gang
  have hl : (s.ws i).ring.dropLast ++ [(s.ws i).ring.getLastD 0] = (s.ws i).ring := by
    have := List.dropLast_concat_getLast hr
    rw [List.getLastD_eq_getLast?, List.getLast?_eq_some_getLast hr]
    exact this
  refine (RefHand.take_ring _ _ room _ (s.ws i).ring.dropLast ((s.ws i).ring.getLastD 0) w (by rw [hl]; exact hg.hands i hi) hn).mono ?_
  rintro e w' ⟨rfl, hH, ho⟩
  have hd : q.HB i ∈ HF i := (hg.hands i hi).lt.1
  have hS : ∀ x ∈ [q.HB i], x ∈ HF i := fun x hx => by
    obtain rfl : x = q.HB i := by simpa using hx
    exact hd
  exact ⟨rfl, _, h.step ⟨_, vr, rp, _, hg.setHand hi hH ho hS (Kin.refl _ _) (by have := hg.fit i hi; rw [List.length_dropLast]; omega), relabL_also (by omega) hF⟩ (OnlyF.of ho fun y hy => hg.own hF (hg.lh i hi y (hS y hy)) (by omega)) (kin_also (Kin.refl _ _) (fun y hy => hg.own hF (hg.lh i hi y hy) (by omega)))⟩

theorem RRel.take_none {w0 w1 w : World} {F0 F : Nat → Prop} {q : RPar} {p : PlanL} {room m : Nat} {s : GSt} (h : RRel w0 w1 F0 w q p room m s F) {i : Nat} (hi : i < m) (hn : (s.ws i).near < 0) (hr : (s.ws i).ring = []) :
    Calls Tryz.prog 79 #[.pointer (some ⟨q.HB i, 0, none⟩)] w fun e w' => e = .returned (.tuple #[.int .i64 0, .bool false]) ∧ w = w' := by
  obtain ⟨lab, vr, rp, HF, hg, hF⟩ := h.gang
  exact RefHand.take_none _ _ room _ w (by rw [← hr]; exact hg.hands i hi) hn

theorem RRel.spill_put {w0 w1 w : World} {F0 F : Nat → Prop} {q : RPar} {p : PlanL} {room m : Nat} {s : GSt} (h : RRel w0 w1 F0 w q p room m s F) (v : Value) (l : List Int) (hv : Reads w v l) (hd : ∀ y ∈ own v, ¬ F y) (hf : s.spill.length + l.length ≤ 60) :
    Calls Tryz.prog 74 #[.pointer (some ⟨q.G, 4, none⟩), v] w fun e w' => e = .returned (.bool true) ∧ ∃ F', RRel w0 w1 F0 w' q p room m ⟨s.done, s.spill ++ l, s.row, s.ws⟩ F' ∧ OnlyF F w w' ∧ Kin' w F F' := by
  obtain ⟨lab, vr, rp, HF, hg, hF⟩ := h.gang
  refine (gsp_put w0.heap.size q.G room (q.rst m p.length vr) rp s.spill v l w hg.spill hg.r16 hg.old.size hv (fun _ x hx hy => hd x hx (hg.own hF (hg.l1 x hy) (by omega))) hf).mono ?_
  rintro e w' ⟨rfl, rp', hS, ho, hk⟩
  have hoF : OnlyF F w w' := OnlyF.of ho fun y hy => hg.own hF (hg.l1 y hy) (by omega)
  have hk' : Kin' w F (also F rp') := kin_also hk (fun y hy => hg.own hF (hg.l1 y hy) (by omega))
  exact ⟨rfl, also F rp', h.step ⟨_, vr, rp', HF, hg.setSpill hS ho hk, relabL_also (by omega) hF⟩ hoF hk', hoF, hk'⟩

theorem RRel.spill_get {w0 w1 w : World} {F0 F : Nat → Prop} {q : RPar} {p : PlanL} {room m : Nat} {s : GSt} (h : RRel w0 w1 F0 w q p room m s F) :
    Calls Tryz.prog 81 #[.pointer (some ⟨q.G, 4, none⟩), .int .i64 1] w fun e w' => ∃ v F', e = .returned v ∧ Ints w' w.heap.size v (s.spill.take 1) ∧
      RRel w0 w1 F0 w' q p room m ⟨s.done, s.spill.drop 1, s.row, s.ws⟩ F' := by
  obtain ⟨lab, vr, rp, HF, hg, hF⟩ := h.gang
  refine (gsp_get w0.heap.size q.G room (q.rst m p.length vr) rp s.spill 1 w hg.spill hg.r16 hg.old.size (by omega) (by omega)).mono ?_
  rintro e w' ⟨v, rfl, hI, rp', hS, ho, hk⟩
  exact ⟨v, also F rp', rfl, hI, h.step ⟨_, vr, rp', HF, hg.setSpill hS ho hk, relabL_also (by omega) hF⟩ (OnlyF.of ho fun y hy => hg.own hF (hg.l1 y hy) (by omega)) (kin_also hk (fun y hy => hg.own hF (hg.l1 y hy) (by omega)))⟩

/-- What a walk reads. -/
theorem RRel.cells {w0 w1 w : World} {F0 F : Nat → Prop} {q : RPar} {p : PlanL} {room m : Nat} {s : GSt} (h : RRel w0 w1 F0 w q p room m s F) :
    ∃ vf vh vr, Cells w q.G [q.pv, .slice (some ⟨q.L, 0, none⟩) m q.cap, .slice (some ⟨q.T, 0, none⟩) m q.ct, .slice (some ⟨q.U, 0, none⟩) m q.cu, .int .i64 room, vf, vh, vr, .slice (some ⟨q.A, 0, none⟩) p.length p.length] ∧ InPlan w q.pv p ∧
      (∀ i, i < m → w.cell? ⟨q.L, i, none⟩ = some (.pointer (some ⟨q.HB i, 0, none⟩))) ∧ Nums w q.T m (fun i => (s.ws i).task) ∧ Nums w q.U m (fun i => (s.ws i).left) ∧ Bools w q.A p.length s.done ∧ Reads w vr s.row ∧ (∀ y ∈ own vr, F y) ∧ 1 ≤ m ∧ m ≤ 6 ∧ 1 ≤ room ∧ room ≤ 16 ∧
      (m ≤ q.cap ∧ m ≤ q.ct ∧ m ≤ q.cu) ∧ (q.cap ≤ maxLen ∧ q.ct ≤ maxLen ∧ q.cu ≤ maxLen) ∧ F q.T ∧ F q.U ∧ F q.A ∧ F q.G ∧ Only [] w0 w := by
  obtain ⟨lab, vr, rp, HF, hg, hF⟩ := h.gang
  obtain ⟨hG, vf, vh, hc⟩ := hg.spill.block
  exact ⟨vf, vh, vr, hc, hg.plan.same hg.old, hg.ptr, hg.task, hg.left, hg.done, hg.row.reads, fun y hy => hg.own hF (hg.l5 y hy) (by omega), hg.m1, hg.m6, hg.r1, hg.r16, hg.mc, hg.cm, hg.own hF hg.l3 (by omega), hg.own hF hg.l4 (by omega), hg.own hF hg.l6 (by omega), hg.own hF (hg.l1 _ hG) (by omega), hg.old⟩

theorem RRel.task {w0 w1 w : World} {F0 F : Nat → Prop} {q : RPar} {p : PlanL} {room m : Nat} {s : GSt} (h : RRel w0 w1 F0 w q p room m s F) {i : Nat} (x : Int) :
    RRel w0 w1 F0 (w.setCell ⟨q.T, i, none⟩ (.int .i64 x)) q p room m ⟨s.done, s.spill, s.row, upW s.ws i ⟨(s.ws i).near, (s.ws i).ring, x, (s.ws i).left⟩⟩ F := by
  obtain ⟨lab, vr, rp, HF, hg, hF⟩ := h.gang
  obtain ⟨h1, ho⟩ := hg.setTask (i := i) x
  exact h.step ⟨_, vr, rp, HF, h1, hF⟩ (OnlyF.of ho fun y hy => by
    obtain rfl : y = q.T := by simpa using hy
    exact hg.own hF hg.l3 (by omega)) (fun _ hx => .inl hx)
theorem RRel.left {w0 w1 w : World} {F0 F : Nat → Prop} {q : RPar} {p : PlanL} {room m : Nat} {s : GSt} (h : RRel w0 w1 F0 w q p room m s F) {i : Nat} (x : Int) :
    RRel w0 w1 F0 (w.setCell ⟨q.U, i, none⟩ (.int .i64 x)) q p room m ⟨s.done, s.spill, s.row, upW s.ws i ⟨(s.ws i).near, (s.ws i).ring, (s.ws i).task, x⟩⟩ F := by
  obtain ⟨lab, vr, rp, HF, hg, hF⟩ := h.gang
  obtain ⟨h1, ho⟩ := hg.setLeft (i := i) x
  exact h.step ⟨_, vr, rp, HF, h1, hF⟩ (OnlyF.of ho fun y hy => by
    obtain rfl : y = q.U := by simpa using hy
    exact hg.own hF hg.l4 (by omega)) (fun _ hx => .inl hx)
theorem RRel.done {w0 w1 w : World} {F0 F : Nat → Prop} {q : RPar} {p : PlanL} {room m : Nat} {s : GSt} (h : RRel w0 w1 F0 w q p room m s F) (i : Nat) :
    RRel w0 w1 F0 (w.setCell ⟨q.A, i, none⟩ (.bool true)) q p room m ⟨upB s.done i, s.spill, s.row, s.ws⟩ F := by
  obtain ⟨lab, vr, rp, HF, hg, hF⟩ := h.gang
  obtain ⟨h1, ho⟩ := hg.setDone i
  exact h.step ⟨_, vr, rp, HF, h1, hF⟩ (OnlyF.of ho fun y hy => by
    obtain rfl : y = q.A := by simpa using hy
    exact hg.own hF hg.l6 (by omega)) (fun _ hx => .inl hx)

/-- The row of those that sleep, and what another row in its place leaves. -/
theorem RRel.rowed {w0 w1 w : World} {F0 F : Nat → Prop} {q : RPar} {p : PlanL} {room m : Nat} {s : GSt} (h : RRel w0 w1 F0 w q p room m s F) :
    ∃ vf vh vr, Cells w q.G [q.pv, .slice (some ⟨q.L, 0, none⟩) m q.cap, .slice (some ⟨q.T, 0, none⟩) m q.ct, .slice (some ⟨q.U, 0, none⟩) m q.cu, .int .i64 room, vf, vh, vr, .slice (some ⟨q.A, 0, none⟩) p.length p.length] ∧ Ints w w0.heap.size vr s.row ∧ q.G ∉ own vr ∧ (∀ y ∈ own vr, F y) ∧
      ∀ w2 vr' row S, Ints w2 w0.heap.size vr' row → Only S w w2 → (∀ x ∈ S, x ∈ own vr) → Kin w (own vr) (own vr') → ∃ F', RRel w0 w1 F0 (w2.setCell ⟨q.G, 7, none⟩ vr') q p room m ⟨s.done, s.spill, row, s.ws⟩ F' ∧ ∀ x, F' x → F x ∨ x ∈ own vr' := by
  obtain ⟨lab, vr, rp, HF, hg, hF⟩ := h.gang
  obtain ⟨hG, vf, vh, hc⟩ := hg.spill.block
  refine ⟨vf, vh, vr, hc, hg.row, fun hx => ?_, fun y hy => hg.own hF (hg.l5 y hy) (by omega), fun w2 vr' row S hI ho hS hk => ?_⟩
  · have h1 := hg.l5 _ hx
    have h2 := hg.l1 _ hG
    omega
  · obtain ⟨h1, ho1⟩ := hg.setRow hI ho hS hk
    refine ⟨also F (own vr'), h.step ⟨_, vr', rp, HF, h1, relabL_also (by omega) hF⟩ (OnlyF.of ho1 fun y hy => ?_) (kin_also hk (fun y hy => hg.own hF (hg.l5 y hy) (by omega))), fun x hx => hx⟩
    rcases List.mem_cons.1 hy with rfl | hy
    · exact hg.own hF (hg.l1 _ hG) (by omega)
    · exact hg.own hF (hg.l5 y (hS y hy)) (by omega)

theorem RRel.ne {w0 w1 w : World} {F0 F : Nat → Prop} {q : RPar} {p : PlanL} {room m : Nat} {s : GSt} (h : RRel w0 w1 F0 w q p room m s F) : ¬ q.U = q.G ∧ ¬ q.T = q.G ∧ ¬ q.A = q.G ∧ ¬ q.T = q.U ∧ ¬ q.A = q.T ∧ ¬ q.L = q.U := by
  obtain ⟨lab, vr, rp, HF, hg, hF⟩ := h.gang
  have hG := hg.l1 _ hg.spill.block.1
  have h2 := hg.l2
  have h3 := hg.l3
  have h4 := hg.l4
  have h6 := hg.l6
  refine ⟨?_, ?_, ?_, ?_, ?_, ?_⟩
  all_goals
    intro e
    have := congrArg lab e
    omega

end Go.Proofs.YtocpmncedlenbaaGreatDoor
