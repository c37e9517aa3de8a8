/-
  A gang in plain words: what a step does, and that no task is lost.
-/
import Derived.Test.YtoofalchkedciaaGreatDoorP5TopGang
import Derived.Test.YtoofalchkedciaaGreatDoorP9TopGang
import Derived.Test.YtoofalchkedciaaGreatDoorP10TopGang
namespace Go.Proofs.YtoofalchkedciaaGreatDoor

/-- A worker: its hand, its task, and how much of it is left. -/
structure Wk where
  near : Int
  ring : List Int
  task : Int
  left : Int

structure GSt where
  done : Nat → Bool
  spill : List Int
  row : List Int
  ws : Nat → Wk

def upW (f : Nat → Wk) (h : Nat) (k : Wk) : Nat → Wk := fun i => if i = h then k else f i
theorem upW_same (f : Nat → Wk) (h : Nat) (k : Wk) : upW f h k h = k := by simp [upW]
theorem upW_other (f : Nat → Wk) (h i : Nat) (k : Wk) (e : i ≠ h) : upW f h k i = f i := by simp [upW, e]

def wkPut (room : Nat) (k : Wk) (x : Int) : Wk := ⟨x, handRest k.near room k.ring, k.task, k.left⟩
def putF (room : Nat) (q : Wk × List Int) (x : Int) : Wk × List Int := (wkPut room q.1 x, q.2 ++ handOut q.1.near room q.1.ring)
/-- Many are put, one behind the other: the hand then, and what went out. -/
def putAll (room : Nat) (k : Wk) (l : List Int) : Wk × List Int := l.foldl (putF room) (k, [])
theorem putAll_nil (room : Nat) (k : Wk) : putAll room k [] = (k, []) := rfl
theorem putAll_snoc (room : Nat) (k : Wk) (l : List Int) (x : Int) : putAll room k (l ++ [x]) = putF room (putAll room k l) x := by simp [putAll, List.foldl_append]

def gTake (p : PlanL) (k : Wk) (x : Int) : Wk := ⟨k.near, k.ring, x, wkOf p x.toNat⟩

def gWork (p : PlanL) (room : Nat) (s : GSt) (h : Nat) : GSt × List Dd :=
  if 1 < (s.ws h).left then (⟨s.done, s.spill, s.row, upW s.ws h ⟨(s.ws h).near, (s.ws h).ring, (s.ws h).task, (s.ws h).left - 1⟩⟩, [])
  else
    let r := natL (newL p s.done (s.ws h).task.toNat)
    let q := putAll room ⟨(s.ws h).near, (s.ws h).ring, -1, (s.ws h).left - 1⟩ r
    (⟨upB s.done (s.ws h).task.toNat, s.spill ++ q.2, s.row.drop r.length, upW s.ws h q.1⟩, ⟨4, h, (s.ws h).task, 0⟩ :: (s.row.take r.length).map fun k => ⟨6, k, 0, 0⟩)

def gSleep (s : GSt) (h : Nat) : GSt × List Dd := (⟨s.done, s.spill, s.row ++ [(h : Int)], s.ws⟩, [⟨5, h, 0, 0⟩])

def gRob (p : PlanL) (room : Nat) (s : GSt) (h o : Nat) : GSt × List Dd :=
  match (s.ws o).ring.take (halfOf (s.ws o).ring) with
  | [] => gSleep s h
  | x :: xs =>
    let q := putAll room (s.ws h) xs
    (⟨s.done, s.spill ++ q.2, s.row, upW (upW s.ws o ⟨(s.ws o).near, (s.ws o).ring.drop (halfOf (s.ws o).ring), (s.ws o).task, (s.ws o).left⟩) h (gTake p q.1 x)⟩, [⟨2, h, x, o⟩])

def gFind (p : PlanL) (room m : Nat) (s : GSt) (h pick : Nat) : GSt × List Dd :=
  if 0 ≤ (s.ws h).near then (⟨s.done, s.spill, s.row, upW s.ws h (gTake p ⟨-1, (s.ws h).ring, (s.ws h).task, (s.ws h).left⟩ (s.ws h).near)⟩, [⟨1, h, (s.ws h).near, 0⟩])
  else if (s.ws h).ring ≠ [] then
    (⟨s.done, s.spill, s.row, upW s.ws h (gTake p ⟨(s.ws h).near, (s.ws h).ring.dropLast, (s.ws h).task, (s.ws h).left⟩ ((s.ws h).ring.getLastD 0))⟩, [⟨1, h, (s.ws h).ring.getLastD 0, 0⟩])
  else match s.spill with
    | x :: rest => (⟨s.done, rest, s.row, upW s.ws h (gTake p (s.ws h) x)⟩, [⟨3, h, x, 0⟩])
    | [] => if pick % m = h then gSleep s h else gRob p room s h (pick % m)

/-- A step of a hand. -/
def gStep (p : PlanL) (room m : Nat) (s : GSt) (h pick : Nat) : GSt × List Dd :=
  if (h : Int) ∈ s.row then (s, []) else if 0 ≤ (s.ws h).task then gWork p room s h else gFind p room m s h pick

/-- How it begins. -/
def gNew (p : PlanL) : GSt := ⟨fun _ => false, natL (readyL p (fun _ => false)), [], fun _ => ⟨-1, [], -1, 0⟩⟩

/-- What a worker holds. -/
def ownW (k : Wk) : List Int := k.ring ++ nearL k.near ++ nearL k.task
def workL : Nat → (Nat → Wk) → List Int
  | 0, _ => []
  | m + 1, f => workL m f ++ ownW (f m)
def heldL (m : Nat) (s : GSt) : List Int := s.spill ++ workL m s.ws

theorem nearL_neg {x : Int} (h : x < 0) : nearL x = [] := by simp [nearL, h]
theorem nearL_pos {x : Int} (h : 0 ≤ x) : nearL x = [x] := by unfold nearL; rw [if_neg (by omega)]

theorem workL_count (m : Nat) (f : Nat → Wk) (h : Nat) (k : Wk) (hm : h < m) (a : Int) : (workL m (upW f h k)).count a + (ownW (f h)).count a = (workL m f).count a + (ownW k).count a := by
  have key : ∀ m, (h < m → (workL m (upW f h k)).count a + (ownW (f h)).count a = (workL m f).count a + (ownW k).count a) ∧ (m ≤ h → workL m (upW f h k) = workL m f) := by
    intro m
    induction m with
    | zero => exact ⟨fun h => by omega, fun _ => rfl⟩
    | succ m ih =>
      refine ⟨fun hl => ?_, fun hl => ?_⟩
      · simp only [workL, List.count_append]
        by_cases e : h = m
        · subst e
          rw [upW_same, ih.2 (Nat.le_refl _)]
          omega
        · have := ih.1 (by omega)
          rw [upW_other _ _ _ _ (Ne.symm e)]
          omega
      · simp only [workL]
        rw [ih.2 (by omega), upW_other _ _ _ _ (by omega)]
  exact (key m).1 hm
theorem workL_mem {m : Nat} {f : Nat → Wk} {x : Int} : x ∈ workL m f ↔ ∃ h, h < m ∧ x ∈ ownW (f h) := by
  induction m with
  | zero => simp [workL]
  | succ m ih =>
    simp only [workL, List.mem_append, ih]
    constructor
    · rintro (⟨h, hl, hx⟩ | hx)
      · exact ⟨h, by omega, hx⟩
      · exact ⟨m, by omega, hx⟩
    · rintro ⟨h, hl, hx⟩
      by_cases e : h = m
      · subst e; exact .inr hx
      · exact .inl ⟨h, by omega, hx⟩

theorem put_count (room : Nat) (k : Wk) (x : Int) (hx : 0 ≤ x) (a : Int) : (ownW (wkPut room k x)).count a + (handOut k.near room k.ring).count a = (ownW k).count a + [x].count a := by
  unfold ownW wkPut handOut handRest
  simp only [List.count_append]
  by_cases h : k.near < 0
  · rw [if_pos h, if_pos h, nearL_neg h, nearL_pos hx]
    simp only [List.count_nil]; omega
  · rw [if_neg h, if_neg h, nearL_pos hx, nearL_pos (show 0 ≤ k.near by omega)]
    by_cases hl : k.ring.length < room
    · rw [if_pos hl, if_pos hl]
      simp only [List.count_append, List.count_nil]; omega
    · rw [if_neg hl, if_neg hl]
      have e := congrArg (List.count a) (List.take_append_drop (halfOf k.ring) k.ring)
      rw [List.count_append] at e
      simp only [List.count_append]; omega
theorem putAll_count (room : Nat) (k : Wk) (l : List Int) (hl : ∀ x ∈ l, 0 ≤ x) (a : Int) : (ownW (putAll room k l).1).count a + (putAll room k l).2.count a = (ownW k).count a + l.count a := by
  have key : ∀ (l : List Int) (q : Wk × List Int), (∀ x ∈ l, 0 ≤ x) → (ownW (l.foldl (putF room) q).1).count a + (l.foldl (putF room) q).2.count a = (ownW q.1).count a + q.2.count a + l.count a := by
    intro l
    induction l with
    | nil => intro q _; simp
    | cons x l ih =>
      intro q hl
      have h1 := ih (putF room q x) (fun y hy => hl y (by simp [hy]))
      have h2 := put_count room q.1 x (hl x (by simp)) a
      have e : (x :: l).count a = [x].count a + l.count a := by rw [show x :: l = [x] ++ l from rfl, List.count_append]
      have e2 : (putF room q x).2.count a = q.2.count a + (handOut q.1.near room q.1.ring).count a := by simp [putF]
      have e3 : (putF room q x).1 = wkPut room q.1 x := rfl
      rw [e3] at h1
      rw [List.foldl_cons]
      omega
  have := key l (k, []) hl
  simpa [putAll] using this
theorem putAll_len (room : Nat) (k : Wk) (l : List Int) (hl : ∀ x ∈ l, 0 ≤ x) : (ownW (putAll room k l).1).length + (putAll room k l).2.length = (ownW k).length + l.length := by
  have h : ((ownW (putAll room k l).1) ++ (putAll room k l).2).Perm (ownW k ++ l) := List.perm_iff_count.2 fun a => by
    rw [List.count_append, List.count_append]; exact putAll_count room k l hl a
  have := h.length_eq
  rw [List.length_append, List.length_append] at this
  omega
theorem putAll_keep (room : Nat) (k : Wk) (l : List Int) : (putAll room k l).1.task = k.task ∧ (putAll room k l).1.left = k.left := by
  have key : ∀ (l : List Int) (q : Wk × List Int), (l.foldl (putF room) q).1.task = q.1.task ∧ (l.foldl (putF room) q).1.left = q.1.left := by
    intro l
    induction l with
    | nil => intro q; exact ⟨rfl, rfl⟩
    | cons x l ih => intro q; rw [List.foldl_cons]; exact ih _
  exact key l (k, [])
theorem rest_room (room : Nat) (near : Int) (l : List Int) (h1 : 1 ≤ room) (h : l.length ≤ room) : (handRest near room l).length ≤ room := by
  unfold handRest
  split
  · exact h
  · split
    · simp; omega
    · unfold halfOf; simp; omega
theorem putAll_room (room : Nat) (k : Wk) (l : List Int) (h1 : 1 ≤ room) (h : k.ring.length ≤ room) : (putAll room k l).1.ring.length ≤ room := by
  have key : ∀ (l : List Int) (q : Wk × List Int), q.1.ring.length ≤ room → (l.foldl (putF room) q).1.ring.length ≤ room := by
    intro l
    induction l with
    | nil => intro q h; exact h
    | cons x l ih => intro q h; rw [List.foldl_cons]; exact ih _ (rest_room room _ _ h1 h)
  exact key l (k, []) h

/-- What holds of a gang at any time. -/
structure GInv (p : PlanL) (room m : Nat) (s : GSt) : Prop where
  held : (heldL m s).Perm (natL (readyL p s.done))
  clos : Closed p s.done
  row : s.row.Nodup
  rows : ∀ x ∈ s.row, ∃ h : Nat, x = (h : Int) ∧ h < m ∧ ownW (s.ws h) = []
  left : ∀ h, h < m → 0 ≤ (s.ws h).task → 1 ≤ (s.ws h).left ∧ (s.ws h).left ≤ wkOf p (s.ws h).task.toNat
  room : ∀ h, h < m → (s.ws h).ring.length ≤ room

theorem GInv.of {p : PlanL} {room m : Nat} {D : Nat → Bool} {sp row : List Int} {ws : Nat → Wk} (h1 : ∀ a, sp.count a + (workL m ws).count a = (natL (readyL p D)).count a) (h2 : Closed p D) (h3 : row.Nodup)
    (h4 : ∀ x ∈ row, ∃ h : Nat, x = (h : Int) ∧ h < m ∧ ownW (ws h) = []) (h5 : ∀ h, h < m → 0 ≤ (ws h).task → 1 ≤ (ws h).left ∧ (ws h).left ≤ wkOf p (ws h).task.toNat) (h6 : ∀ h, h < m → (ws h).ring.length ≤ room) : GInv p room m ⟨D, sp, row, ws⟩ :=
  ⟨List.perm_iff_count.2 fun a => by show (sp ++ workL m ws).count a = _; rw [List.count_append]; exact h1 a, h2, h3, h4, h5, h6⟩

theorem readyL_nodup (p : PlanL) (D : Nat → Bool) : (readyL p D).Nodup := (readyL_pair p D).imp (fun h => Nat.ne_of_lt h)
theorem newL_nodup (p : PlanL) (D : Nat → Bool) (i : Nat) : (newL p D i).Nodup := (newL_pair p D i).imp (fun h => Nat.ne_of_lt h)
theorem newL_mem {p : PlanL} {D : Nat → Bool} {i k : Nat} : k ∈ newL p D i ↔ k < p.length ∧ (i : Int) ∈ ndOf p k ∧ lackN p (upB D i) k = 0 := by
  unfold newL
  rw [List.mem_filter, afterOf_mem, beq_iff_eq, and_assoc]
theorem readyL_mem {p : PlanL} {D : Nat → Bool} {k : Nat} : k ∈ readyL p D ↔ k < p.length ∧ D k = false ∧ lackN p D k = 0 := by
  unfold readyL
  rw [List.mem_filter, List.mem_range, ready_lack]
  simp

theorem new_not {p : PlanL} (hok : PlanOk p) {D : Nat → Bool} (hc : Closed p D) {i k : Nat} (hi : D i = false) (hk : k ∈ newL p D i) : D k = false ∧ lackN p D k ≠ 0 := by
  obtain ⟨k1, k2, k3⟩ := newL_mem.1 hk
  have h1 := lack_up hok D i hi k
  rw [if_pos k2] at h1
  refine ⟨?_, by omega⟩
  cases h : D k
  · rfl
  · have := hc k k1 h; omega

/-- Who is ready when one more is done. -/
theorem ready_step {p : PlanL} (hok : PlanOk p) {D : Nat → Bool} (hc : Closed p D) {i : Nat} (hi : i ∈ readyL p D) : (readyL p (upB D i) ++ [i]).Perm (readyL p D ++ newL p D i) := by
  obtain ⟨i1, i2, i3⟩ := readyL_mem.1 hi
  refine (List.perm_ext_iff_of_nodup ?_ ?_).2 fun j => ?_
  · refine List.nodup_append.2 ⟨readyL_nodup _ _, List.nodup_cons.2 ⟨by simp, List.nodup_nil⟩, fun a ha b hb e => ?_⟩
    obtain rfl : b = i := by simpa using hb
    subst e
    have := (readyL_mem.1 ha).2.1
    simp [upB] at this
  · refine List.nodup_append.2 ⟨readyL_nodup _ _, newL_nodup _ _ _, fun a ha b hb e => ?_⟩
    subst e
    exact (new_not hok hc i2 hb).2 (readyL_mem.1 ha).2.2
  · simp only [List.mem_append, List.mem_singleton]
    have h1 := lack_up hok D i i2 j
    constructor
    · rintro (h | rfl)
      · obtain ⟨j1, j2, j3⟩ := readyL_mem.1 h
        by_cases hm : (i : Int) ∈ ndOf p j
        · exact .inr (newL_mem.2 ⟨j1, hm, j3⟩)
        · rw [if_neg hm] at h1
          refine .inl (readyL_mem.2 ⟨j1, ?_, by omega⟩)
          unfold upB at j2
          split at j2
          · cases j2
          · exact j2
      · exact .inl hi
    · rintro (h | h)
      · by_cases e : j = i
        · exact .inr e
        · obtain ⟨j1, j2, j3⟩ := readyL_mem.1 h
          exact .inl (readyL_mem.2 ⟨j1, by simp [upB, e, j2], by omega⟩)
      · obtain ⟨j1, j2, j3⟩ := newL_mem.1 h
        have hn := new_not hok hc i2 h
        by_cases e : j = i
        · exact .inr e
        · exact .inl (readyL_mem.2 ⟨j1, by simp [upB, e, hn.1], j3⟩)

theorem natL_app (a b : List Nat) : natL (a ++ b) = natL a ++ natL b := by simp [natL]
theorem ready_count {p : PlanL} (hok : PlanOk p) {D : Nat → Bool} (hc : Closed p D) {i : Nat} (hi : i ∈ readyL p D) (a : Int) :
    (natL (readyL p (upB D i))).count a + [(i : Int)].count a = (natL (readyL p D)).count a + (natL (newL p D i)).count a := by
  have h := (ready_step hok hc hi).map (fun (i : Nat) => (i : Int))
  have h2 := List.perm_iff_count.1 h a
  have e : ∀ l : List Nat, l.map (fun (i : Nat) => (i : Int)) = natL l := fun _ => rfl
  rw [e, e, natL_app, natL_app, List.count_append, List.count_append] at h2
  exact h2

theorem natL_ge {l : List Nat} : ∀ x ∈ natL l, 0 ≤ x := by
  intro x hx
  obtain ⟨i, _, rfl⟩ := List.mem_map.1 hx
  omega
theorem GInv.count {p : PlanL} {room m : Nat} {s : GSt} (h : GInv p room m s) (a : Int) : s.spill.count a + (workL m s.ws).count a = (natL (readyL p s.done)).count a := by
  have := List.perm_iff_count.1 h.held a
  rw [heldL, List.count_append] at this
  exact this
/-- Whatever is held is ready. -/
theorem GInv.mem {p : PlanL} {room m : Nat} {s : GSt} (h : GInv p room m s) {x : Int} (hx : x ∈ heldL m s) : ∃ i : Nat, x = (i : Int) ∧ i ∈ readyL p s.done := by
  have := h.held.mem_iff.1 hx
  obtain ⟨i, hi, rfl⟩ := List.mem_map.1 this
  exact ⟨i, rfl, hi⟩
theorem GInv.len {p : PlanL} {room m : Nat} {s : GSt} (h : GInv p room m s) : (heldL m s).length ≤ p.length := by
  rw [h.held.length_eq, natL_len]
  have := List.length_filter_le (readyB p s.done) (List.range p.length)
  simpa [readyL] using this
theorem GInv.spill_len {p : PlanL} {room m : Nat} {s : GSt} (h : GInv p room m s) : s.spill.length ≤ p.length := by
  have := h.len
  rw [heldL, List.length_append] at this
  omega
theorem workL_len {m : Nat} {f : Nat → Wk} {h : Nat} (hm : h < m) : (ownW (f h)).length ≤ (workL m f).length := by
  induction m with
  | zero => omega
  | succ m ih =>
    simp only [workL, List.length_append]
    by_cases e : h = m
    · subst e; omega
    · have := ih (by omega); omega
theorem GInv.own_len {p : PlanL} {room m : Nat} {s : GSt} (h : GInv p room m s) {k : Nat} (hk : k < m) : s.spill.length + (ownW (s.ws k)).length ≤ p.length := by
  have h1 := h.len
  have h2 := workL_len (f := s.ws) hk
  rw [heldL, List.length_append] at h1
  omega
theorem GInv.row_len {p : PlanL} {room m : Nat} {s : GSt} (h : GInv p room m s) : s.row.length ≤ m := by
  have h0 : ∀ x ∈ s.row, ((x.toNat : Nat) : Int) = x ∧ x.toNat < m := fun x hx => by
    obtain ⟨k, rfl, hk, _⟩ := h.rows x hx
    rw [Int.toNat_natCast]; exact ⟨rfl, hk⟩
  have h1 : (s.row.map Int.toNat).Nodup := by
    have h2 := h.row
    refine (List.pairwise_map).2 (h2.imp_of_mem (fun {a b} ha hb hab e => hab ?_))
    rw [← (h0 a ha).1, ← (h0 b hb).1, e]
  have h3 := nodup_len (s.row.map Int.toNat) m h1 (fun x hx => by
    obtain ⟨y, hy, rfl⟩ := List.mem_map.1 hx
    exact (h0 y hy).2)
  simpa using h3
theorem held_own {m : Nat} {s : GSt} {h : Nat} (hm : h < m) {x : Int} (hx : x ∈ ownW (s.ws h)) : x ∈ heldL m s := by
  unfold heldL
  exact List.mem_append.2 (.inr (workL_mem.2 ⟨h, hm, hx⟩))
theorem GInv.task {p : PlanL} {room m : Nat} {s : GSt} (h : GInv p room m s) {k : Nat} (hk : k < m) (ht : 0 ≤ (s.ws k).task) : ∃ i : Nat, (s.ws k).task = (i : Int) ∧ i ∈ readyL p s.done :=
  h.mem (held_own hk (by unfold ownW; rw [nearL_pos ht]; simp))
theorem GInv.awake {p : PlanL} {room m : Nat} {s : GSt} (h : GInv p room m s) {k : Nat} (ht : ownW (s.ws k) ≠ []) : (k : Int) ∉ s.row := by
  intro hx
  obtain ⟨j, e, _, h2⟩ := h.rows _ hx
  have : k = j := by omega
  subst this
  exact ht h2

/-- One worker, and what is behind, turn: what is held may stay as it was. -/
theorem GInv.turn {p : PlanL} {room m : Nat} {s : GSt} (H : GInv p room m s) {h : Nat} (hm : h < m) (hr : (h : Int) ∉ s.row) (k : Wk) (sp : List Int) (hc : ∀ a, (ownW k).count a + sp.count a = (ownW (s.ws h)).count a + s.spill.count a)
    (hl : 0 ≤ k.task → 1 ≤ k.left ∧ k.left ≤ wkOf p k.task.toNat) (hro : k.ring.length ≤ room) : GInv p room m ⟨s.done, sp, s.row, upW s.ws h k⟩ := by
  refine GInv.of (fun a => ?_) H.clos H.row (fun x hx => ?_) (fun i hi ht => ?_) (fun i hi => ?_)
  · have h1 := H.count a
    have h2 := workL_count m s.ws h k hm a
    have h3 := hc a
    omega
  · obtain ⟨j, rfl, j1, j2⟩ := H.rows x hx
    have e : j ≠ h := fun e => hr (by rw [← e]; exact hx)
    exact ⟨j, rfl, j1, by rw [upW_other _ _ _ _ e]; exact j2⟩
  · by_cases e : i = h
    · subst e; rw [upW_same] at ht ⊢; exact hl ht
    · rw [upW_other _ _ _ _ e] at ht ⊢; exact H.left i hi ht
  · by_cases e : i = h
    · subst e; rw [upW_same]; exact hro
    · rw [upW_other _ _ _ _ e]; exact H.room i hi

theorem GInv.unit {p : PlanL} {room m : Nat} {s : GSt} (H : GInv p room m s) {h : Nat} (hm : h < m) (hr : (h : Int) ∉ s.row) (hl : 1 < (s.ws h).left) : GInv p room m ⟨s.done, s.spill, s.row, upW s.ws h ⟨(s.ws h).near, (s.ws h).ring, (s.ws h).task, (s.ws h).left - 1⟩⟩ :=
  H.turn hm hr _ _ (fun _ => rfl) (fun ht => by
    have h1 := H.left h hm ht
    show 1 ≤ (s.ws h).left - 1 ∧ (s.ws h).left - 1 ≤ wkOf p (s.ws h).task.toNat
    omega) (H.room h hm)

theorem take_work {p : PlanL} (hok : PlanOk p) {i : Nat} (hi : i < p.length) : 1 ≤ wkOf p ((i : Int)).toNat := by
  have := hok.work i hi
  rw [Int.toNat_natCast]; omega
/-- A task is taken out of what a hand, or the spill, holds. -/
theorem GInv.take {p : PlanL} (hok : PlanOk p) {room m : Nat} {s : GSt} (H : GInv p room m s) {h : Nat} (hm : h < m) (hr : (h : Int) ∉ s.row) (ht : (s.ws h).task < 0) (k : Wk) (sp : List Int) (x : Int) (hx : x ∈ heldL m s) (hk : k.task = (s.ws h).task)
    (hc : ∀ a, (ownW k).count a + [x].count a + sp.count a = (ownW (s.ws h)).count a + s.spill.count a) (hro : k.ring.length ≤ room) : GInv p room m ⟨s.done, sp, s.row, upW s.ws h (gTake p k x)⟩ := by
  obtain ⟨i, rfl, hi⟩ := H.mem hx
  have hil := (readyL_mem.1 hi).1
  refine H.turn hm hr _ _ (fun a => ?_) (fun _ => ⟨take_work hok hil, Int.le_refl _⟩) hro
  have h1 := hc a
  have e : (ownW (gTake p k (i : Int))).count a = (ownW k).count a + [(i : Int)].count a := by
    unfold ownW gTake
    rw [hk, nearL_neg ht, nearL_pos (show (0 : Int) ≤ (i : Int) by omega)]
    simp only [List.count_append, List.count_nil]
    omega
  omega

theorem last_count (l : List Int) (h : l ≠ []) (a : Int) : l.dropLast.count a + [l.getLastD 0].count a = l.count a := by
  have e : l.dropLast ++ [l.getLastD 0] = l := by
    have := List.dropLast_concat_getLast h
    rw [List.getLastD_eq_getLast?, List.getLast?_eq_some_getLast h]
    exact this
  rw [← List.count_append, e]
theorem getLastD_mem (l : List Int) (h : l ≠ []) : l.getLastD 0 ∈ l := by
  rw [List.getLastD_eq_getLast?, List.getLast?_eq_some_getLast h]
  exact List.getLast_mem h

theorem drop_nodup {l : List Int} (h : l.Nodup) (n : Nat) : (l.drop n).Nodup := h.sublist (List.drop_sublist _ _)

theorem gWork_inv {p : PlanL} (hok : PlanOk p) {room m : Nat} (h1 : 1 ≤ room) {s : GSt} (H : GInv p room m s) {h : Nat} (hm : h < m) (hr : (h : Int) ∉ s.row) (ht : 0 ≤ (s.ws h).task) : GInv p room m (gWork p room s h).1 := by
  unfold gWork
  by_cases hl : 1 < (s.ws h).left
  · rw [if_pos hl]; exact H.unit hm hr hl
  · rw [if_neg hl]
    obtain ⟨i, hi, hir⟩ := H.task hm ht
    have hin := Int.toNat_natCast i
    obtain ⟨i1, i2, i3⟩ := readyL_mem.1 hir
    have hrb : readyB p s.done i = true := by rw [ready_lack]; simp [i2, i3]
    simp only [hi, hin]
    have hkp := putAll_keep room ⟨(s.ws h).near, (s.ws h).ring, -1, (s.ws h).left - 1⟩ (natL (newL p s.done i))
    refine GInv.of (fun a => ?_) (closed_up hok H.clos hrb) (drop_nodup H.row _) (fun x hx => ?_) (fun j hj htj => ?_) (fun j hj => ?_)
    · have c1 := H.count a
      have c2 := workL_count m s.ws h (putAll room ⟨(s.ws h).near, (s.ws h).ring, -1, (s.ws h).left - 1⟩ (natL (newL p s.done i))).1 hm a
      have c3 := putAll_count room ⟨(s.ws h).near, (s.ws h).ring, -1, (s.ws h).left - 1⟩ (natL (newL p s.done i)) natL_ge a
      have c4 := ready_count hok H.clos hir a
      have c5 : (ownW (s.ws h)).count a = (ownW ⟨(s.ws h).near, (s.ws h).ring, -1, (s.ws h).left - 1⟩).count a + [(i : Int)].count a := by
        unfold ownW
        rw [hi, nearL_pos (show (0 : Int) ≤ (i : Int) by omega), nearL_neg (show (-1 : Int) < 0 by omega)]
        simp only [List.count_append, List.count_nil]
        omega
      rw [List.count_append]
      omega
    · have hx := List.mem_of_mem_drop hx
      obtain ⟨j, rfl, j1, j2⟩ := H.rows x hx
      have e : j ≠ h := fun e => hr (by rw [← e]; exact hx)
      exact ⟨j, rfl, j1, by rw [upW_other _ _ _ _ e]; exact j2⟩
    · by_cases e : j = h
      · subst e; rw [upW_same] at htj; rw [hkp.1] at htj; exact absurd htj (by show ¬ (0 : Int) ≤ -1; omega)
      · rw [upW_other _ _ _ _ e] at htj ⊢; exact H.left j hj htj
    · by_cases e : j = h
      · subst e; rw [upW_same]; exact putAll_room room _ _ h1 (H.room j hm)
      · rw [upW_other _ _ _ _ e]; exact H.room j hj

theorem gSleep_inv {p : PlanL} {room m : Nat} {s : GSt} (H : GInv p room m s) {h : Nat} (hm : h < m) (hr : (h : Int) ∉ s.row) (ho : ownW (s.ws h) = []) : GInv p room m (gSleep s h).1 := by
  refine GInv.of H.count H.clos ?_ (fun x hx => ?_) H.left H.room
  · refine List.nodup_append.2 ⟨H.row, List.nodup_cons.2 ⟨by simp, List.nodup_nil⟩, fun a ha b hb e => ?_⟩
    obtain rfl : b = (h : Int) := by simpa using hb
    exact hr (by rw [← e]; exact ha)
  · rcases List.mem_append.1 hx with hx | hx
    · exact H.rows x hx
    · exact ⟨h, by simpa using hx, hm, ho⟩

theorem gRob_inv {p : PlanL} (hok : PlanOk p) {room m : Nat} (h1 : 1 ≤ room) {s : GSt} (H : GInv p room m s) {h o : Nat} (hm : h < m) (hom : o < m) (hne : o ≠ h) (hr : (h : Int) ∉ s.row) (ho : ownW (s.ws h) = []) (ht : (s.ws h).task < 0) : GInv p room m (gRob p room s h o).1 := by
  unfold gRob
  split
  · exact gSleep_inv H hm hr ho
  · rename_i x xs hl
    have hmem : ∀ y ∈ x :: xs, y ∈ heldL m s := fun y hy => by
      rw [← hl] at hy
      refine held_own hom ?_
      unfold ownW
      simp [List.mem_of_mem_take hy]
    have hge : ∀ y ∈ xs, 0 ≤ y := fun y hy => by
      obtain ⟨i, rfl, _⟩ := H.mem (hmem y (by simp [hy]))
      omega
    have hoa : (o : Int) ∉ s.row := H.awake (fun e => by
      have h2 : x ∈ ownW (s.ws o) := by
        have : x ∈ x :: xs := by simp
        rw [← hl] at this
        unfold ownW
        simp [List.mem_of_mem_take this]
      rw [e] at h2
      cases h2)
    have hkp := putAll_keep room (s.ws h) xs
    obtain ⟨i, rfl, hi⟩ := H.mem (hmem x (by simp))
    have hil := (readyL_mem.1 hi).1
    refine GInv.of (fun a => ?_) H.clos H.row (fun y hy => ?_) (fun j hj htj => ?_) (fun j hj => ?_)
    · have c1 := H.count a
      have c2 := workL_count m s.ws o ⟨(s.ws o).near, (s.ws o).ring.drop (halfOf (s.ws o).ring), (s.ws o).task, (s.ws o).left⟩ hom a
      have c3 := workL_count m (upW s.ws o ⟨(s.ws o).near, (s.ws o).ring.drop (halfOf (s.ws o).ring), (s.ws o).task, (s.ws o).left⟩) h (gTake p (putAll room (s.ws h) xs).1 (i : Int)) hm a
      rw [upW_other _ _ _ _ (Ne.symm hne)] at c3
      have c4 := putAll_count room (s.ws h) xs hge a
      have c5 : (ownW (s.ws o)).count a = (ownW ⟨(s.ws o).near, (s.ws o).ring.drop (halfOf (s.ws o).ring), (s.ws o).task, (s.ws o).left⟩).count a + [(i : Int)].count a + xs.count a := by
        unfold ownW
        have e := congrArg (List.count a) (List.take_append_drop (halfOf (s.ws o).ring) (s.ws o).ring)
        rw [List.count_append, hl, show (i : Int) :: xs = [(i : Int)] ++ xs from rfl, List.count_append] at e
        simp only [List.count_append]
        omega
      have c6 : (ownW (gTake p (putAll room (s.ws h) xs).1 (i : Int))).count a = (ownW (putAll room (s.ws h) xs).1).count a + [(i : Int)].count a := by
        unfold ownW gTake
        rw [hkp.1, nearL_neg ht, nearL_pos (show (0 : Int) ≤ (i : Int) by omega)]
        simp only [List.count_append, List.count_nil]
        omega
      rw [List.count_append]
      omega
    · obtain ⟨j, rfl, j1, j2⟩ := H.rows y hy
      have e : j ≠ h := fun e => hr (by rw [← e]; exact hy)
      have e2 : j ≠ o := fun e => hoa (by rw [← e]; exact hy)
      exact ⟨j, rfl, j1, by rw [upW_other _ _ _ _ e, upW_other _ _ _ _ e2]; exact j2⟩
    · by_cases e : j = h
      · subst e; rw [upW_same]; exact ⟨take_work hok hil, Int.le_refl _⟩
      · rw [upW_other _ _ _ _ e] at htj ⊢
        by_cases e2 : j = o
        · subst e2; rw [upW_same] at htj ⊢; exact H.left j hom htj
        · rw [upW_other _ _ _ _ e2] at htj ⊢; exact H.left j hj htj
    · by_cases e : j = h
      · subst e; rw [upW_same]; exact putAll_room room _ _ h1 (H.room j hm)
      · rw [upW_other _ _ _ _ e]
        by_cases e2 : j = o
        · subst e2; rw [upW_same]; have := H.room j hom; simp; omega
        · rw [upW_other _ _ _ _ e2]; exact H.room j hj

theorem gFind_inv {p : PlanL} (hok : PlanOk p) {room m : Nat} (h1 : 1 ≤ room) {s : GSt} (H : GInv p room m s) {h pick : Nat} (hm : h < m) (hr : (h : Int) ∉ s.row) (ht : (s.ws h).task < 0) : GInv p room m (gFind p room m s h pick).1 := by
  unfold gFind
  by_cases hn : 0 ≤ (s.ws h).near
  · rw [if_pos hn]
    refine H.take hok hm hr ht _ _ _ (held_own hm (by unfold ownW; rw [nearL_pos hn]; simp)) rfl (fun a => ?_) (H.room h hm)
    unfold ownW
    rw [nearL_pos hn, nearL_neg (show (-1 : Int) < 0 by omega)]
    simp only [List.count_append, List.count_nil]
    omega
  · rw [if_neg hn]
    by_cases hg : (s.ws h).ring ≠ []
    · rw [if_pos hg]
      refine H.take hok hm hr ht _ _ _ (held_own hm (by unfold ownW; exact List.mem_append.2 (.inl (List.mem_append.2 (.inl (getLastD_mem _ hg)))))) rfl (fun a => ?_) (by have := H.room h hm; simp; omega)
      have e := last_count _ hg a
      unfold ownW
      simp only [List.count_append]
      omega
    · rw [if_neg hg]
      have hg : (s.ws h).ring = [] := by simpa using hg
      have ho : ownW (s.ws h) = [] := by unfold ownW; rw [hg, nearL_neg (show (s.ws h).near < 0 by omega), nearL_neg ht]; rfl
      split
      · rename_i x rest hs
        refine H.take hok hm hr ht _ _ _ (by unfold heldL; rw [hs]; simp) rfl (fun a => ?_) (H.room h hm)
        rw [hs, show x :: rest = [x] ++ rest from rfl, List.count_append]
        omega
      · split
        · exact gSleep_inv H hm hr ho
        · rename_i hs he
          exact gRob_inv hok h1 H hm (Nat.mod_lt _ (by omega)) he hr ho ht

/-- A step leaves it so. -/
theorem gStep_inv {p : PlanL} (hok : PlanOk p) {room m : Nat} (h1 : 1 ≤ room) {s : GSt} (H : GInv p room m s) {h : Nat} (pick : Nat) (hm : h < m) : GInv p room m (gStep p room m s h pick).1 := by
  unfold gStep
  by_cases hr : (h : Int) ∈ s.row
  · rw [if_pos hr]; exact H
  · rw [if_neg hr]
    by_cases ht : 0 ≤ (s.ws h).task
    · rw [if_pos ht]; exact gWork_inv hok h1 H hm hr ht
    · rw [if_neg ht]; exact gFind_inv hok h1 H hm hr (by omega)

theorem workL_none (m : Nat) (f : Nat → Wk) (h : ∀ i, ownW (f i) = []) : workL m f = [] := by
  induction m with
  | zero => rfl
  | succ m ih => simp [workL, ih, h]
theorem gNew_inv (p : PlanL) (room m : Nat) : GInv p room m (gNew p) := by
  refine GInv.of (fun a => ?_) (closed_none p) List.nodup_nil (fun x hx => (List.not_mem_nil hx).elim) (fun h _ ht => ?_) (fun h _ => Nat.zero_le _)
  · rw [workL_none _ _ (fun _ => rfl)]; rfl
  · have ht : (0 : Int) ≤ -1 := ht
    omega

end Go.Proofs.YtoofalchkedciaaGreatDoor
