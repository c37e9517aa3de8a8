/-
  Sorting in place, stable, in plain words: rows of numbers as functions; exchanges, rotations, merging. No program is named here.
-/
import Derived.Test.YtocpmncedlenbaaGreatDoorP25TopWeave
namespace Go.Proofs.YtocpmncedlenbaaGreatDoor

/-- x stands before y: by its key, the greater first; then as they stood. -/
def ltK (T : Int → Int) (x y : Int) : Prop := T y < T x ∨ (T x = T y ∧ x < y)
theorem ltK_trans {T : Int → Int} {x y z : Int} (h : ltK T x y) (k : ltK T y z) : ltK T x z := by unfold ltK at *; omega

/-- Sorted from a to below b. -/
def SR (T : Int → Int) (f : Nat → Int) (a b : Nat) : Prop := ∀ i j, a ≤ i → i < j → j < b → ltK T (f i) (f j)
theorem SR.sub {T : Int → Int} {f : Nat → Int} {a b c d : Nat} (h : SR T f a b) (h1 : a ≤ c) (h2 : d ≤ b) : SR T f c d := fun i j h3 h4 h5 => h i j (by omega) h4 (by omega)
theorem SR.congr {T : Int → Int} {f g : Nat → Int} {a b : Nat} (h : SR T f a b) (e : ∀ i, a ≤ i → i < b → g i = f i) : SR T g a b := fun i j h1 h2 h3 => by
  rw [e i h1 (by omega), e j (by omega) h3]; exact h i j h1 h2 h3
theorem SR.join {T : Int → Int} {f : Nat → Int} {a m b : Nat} (h : SR T f a m) (k : SR T f m b) (hx : ∀ i j, a ≤ i → i < m → m ≤ j → j < b → ltK T (f i) (f j)) : SR T f a b := fun i j h1 h2 h3 => by
  by_cases e1 : j < m
  · exact h i j h1 h2 e1
  · by_cases e2 : i < m
    · exact hx i j h1 e2 (by omega) h3
    · exact k i j (by omega) h2 h3

/-- From a to below b the same numbers, maybe in another order; elsewhere nothing has changed. -/
def Re (f g : Nat → Int) (a b : Nat) : Prop := (∀ i, i < a ∨ b ≤ i → g i = f i) ∧ (∀ i, a ≤ i → i < b → ∃ j, a ≤ j ∧ j < b ∧ g i = f j) ∧ ∀ i, a ≤ i → i < b → ∃ j, a ≤ j ∧ j < b ∧ f i = g j
theorem Re.refl (f : Nat → Int) (a b : Nat) : Re f f a b := ⟨fun _ _ => rfl, fun i h1 h2 => ⟨i, h1, h2, rfl⟩, fun i h1 h2 => ⟨i, h1, h2, rfl⟩⟩
theorem Re.wide {f g : Nat → Int} {a b c d : Nat} (h : Re f g a b) (h1 : c ≤ a) (h2 : b ≤ d) : Re f g c d := by
  obtain ⟨k1, k2, k3⟩ := h
  refine ⟨fun i hi => k1 i (by omega), fun i hi hj => ?_, fun i hi hj => ?_⟩
  · by_cases e : a ≤ i ∧ i < b
    · obtain ⟨j, a1, a2, a3⟩ := k2 i e.1 e.2
      exact ⟨j, by omega, by omega, a3⟩
    · exact ⟨i, hi, hj, k1 i (by omega)⟩
  · by_cases e : a ≤ i ∧ i < b
    · obtain ⟨j, a1, a2, a3⟩ := k3 i e.1 e.2
      exact ⟨j, by omega, by omega, a3⟩
    · exact ⟨i, hi, hj, (k1 i (by omega)).symm⟩
theorem Re.trans {f g h : Nat → Int} {a b : Nat} (k : Re f g a b) (l : Re g h a b) : Re f h a b := by
  obtain ⟨k1, k2, k3⟩ := k
  obtain ⟨l1, l2, l3⟩ := l
  refine ⟨fun i hi => (l1 i hi).trans (k1 i hi), fun i hi hj => ?_, fun i hi hj => ?_⟩
  · obtain ⟨j, a1, a2, a3⟩ := l2 i hi hj
    obtain ⟨m, b1, b2, b3⟩ := k2 j a1 a2
    exact ⟨m, b1, b2, a3.trans b3⟩
  · obtain ⟨j, a1, a2, a3⟩ := k3 i hi hj
    obtain ⟨m, b1, b2, b3⟩ := l3 j a1 a2
    exact ⟨m, b1, b2, a3.trans b3⟩
theorem Re.all {f g : Nat → Int} {a b n : Nat} (h : Re f g a b) (hb : b ≤ n) {P : Int → Prop} (hP : ∀ i, i < n → P (f i)) : ∀ i, i < n → P (g i) := fun i hi => by
  by_cases e : a ≤ i ∧ i < b
  · obtain ⟨j, _, a2, a3⟩ := h.2.1 i e.1 e.2
    rw [a3]; exact hP j (by omega)
  · rw [h.1 i (by omega)]; exact hP i hi

/-- Two exchanged. -/
def swF (f : Nat → Int) (i j : Nat) : Nat → Int := fun k => if k = i then f j else if k = j then f i else f k
theorem swF_re (f : Nat → Int) {i j a b : Nat} (h1 : a ≤ i) (h2 : i < b) (h3 : a ≤ j) (h4 : j < b) : Re f (swF f i j) a b := by
  refine ⟨fun k hk => ?_, fun k hk hl => ?_, fun k hk hl => ?_⟩
  · unfold swF; rw [if_neg (by omega), if_neg (by omega)]
  · unfold swF
    by_cases e1 : k = i
    · exact ⟨j, h3, h4, by rw [if_pos e1]⟩
    · by_cases e2 : k = j
      · exact ⟨i, h1, h2, by rw [if_neg e1, if_pos e2]⟩
      · exact ⟨k, hk, hl, by rw [if_neg e1, if_neg e2]⟩
  · by_cases e1 : k = i
    · subst e1
      refine ⟨j, h3, h4, ?_⟩
      unfold swF
      by_cases e : j = k
      · subst e; simp
      · rw [if_neg e, if_pos rfl]
    · by_cases e2 : k = j
      · subst e2; exact ⟨i, h1, h2, by simp [swF]⟩
      · exact ⟨k, hk, hl, by unfold swF; rw [if_neg e1, if_neg e2]⟩

/-! ### Insertion -/

/-- While the i-th is put in its place among those from a on; it stands at j now. f: before. -/
structure InsInv (T : Int → Int) (f g : Nat → Int) (a i j : Nat) : Prop where
  lo : a ≤ j
  hi : j ≤ i
  ord : ∀ x y, a ≤ x → x < y → y ≤ i → x ≠ j → y ≠ j → ltK T (g x) (g y)
  beh : ∀ y, j < y → y ≤ i → ltK T (g j) (g y)
  val : g j = f i
  old : ∀ x, a ≤ x → x ≤ i → x ≠ j → g x < f i
  re : Re f g a (i + 1)

theorem InsInv.init {T : Int → Int} {f : Nat → Int} {a i : Nat} (ha : a ≤ i) (h : SR T f a i) (hv : ∀ x, a ≤ x → x < i → f x < f i) : InsInv T f f a i i :=
  ⟨ha, Nat.le_refl _, fun x y h1 h2 h3 _ h5 => h x y h1 h2 (by omega), fun y h1 h2 => by omega, rfl, fun x h1 h2 h3 => hv x h1 (by omega), Re.refl _ _ _⟩

theorem InsInv.step {T : Int → Int} {f g : Nat → Int} {a i j : Nat} (h : InsInv T f g a i j) (hj : a < j) (hk : T (g (j - 1)) < T (g j)) : InsInv T f (swF g j (j - 1)) a i (j - 1) := by
  have h1 := h.hi
  refine ⟨by omega, by omega, fun x y k1 k2 k3 k4 k5 => ?_, fun y k1 k2 => ?_, ?_, fun x k1 k2 k3 => ?_, h.re.trans (swF_re g (by have := h.lo; omega) (by omega) (by omega) (by omega))⟩
  · unfold swF
    by_cases e1 : x = j
    · rw [if_pos e1, if_neg (by omega), if_neg (by omega)]
      exact h.ord (j - 1) y (by omega) (by omega) k3 (by omega) (by omega)
    · rw [if_neg e1, if_neg k4]
      by_cases e2 : y = j
      · rw [if_pos e2]
        exact h.ord x (j - 1) k1 (by omega) (by omega) e1 (by omega)
      · rw [if_neg e2, if_neg k5]
        exact h.ord x y k1 k2 k3 e1 e2
  · have e0 : swF g j (j - 1) (j - 1) = g j := by unfold swF; rw [if_neg (by omega), if_pos rfl]
    rw [e0]
    unfold swF
    by_cases e2 : y = j
    · rw [if_pos e2]; exact .inl hk
    · rw [if_neg e2, if_neg (by omega)]
      exact h.beh y (by omega) k2
  · unfold swF; rw [if_neg (by omega), if_pos rfl]; exact h.val
  · unfold swF
    by_cases e1 : x = j
    · rw [if_pos e1]; exact h.old (j - 1) (by omega) (by omega) (by omega)
    · rw [if_neg e1, if_neg k3]; exact h.old x k1 k2 e1

theorem InsInv.done {T : Int → Int} {f g : Nat → Int} {a i j : Nat} (h : InsInv T f g a i j) (hk : j = a ∨ (a < j ∧ T (g j) ≤ T (g (j - 1)))) : SR T g a (i + 1) := by
  have h1 := h.hi
  intro x y k1 k2 k3
  by_cases e1 : x = j
  · subst e1; exact h.beh y k2 (by omega)
  · by_cases e2 : y = j
    · subst e2
      rcases hk with e | ⟨hj, hk⟩
      · omega
      · have hp : ltK T (g (y - 1)) (g y) := by
          have := h.old (y - 1) (by omega) (by omega) (by omega)
          have := h.val
          unfold ltK; omega
        by_cases e3 : x = y - 1
        · subst e3; exact hp
        · exact ltK_trans (h.ord x (y - 1) k1 (by omega) (by omega) e1 (by omega)) hp
    · exact h.ord x y k1 k2 (by omega) e1 e2

/-! ### Exchange of ranges; rotation -/

/-- So many from a on, and from b on, exchanged. -/
def swR (f : Nat → Int) (a b n : Nat) : Nat → Int := fun x => if a ≤ x ∧ x < a + n then f (x + b - a) else if b ≤ x ∧ x < b + n then f (x + a - b) else f x
theorem swR_zero (f : Nat → Int) (a b : Nat) : swR f a b 0 = f := by funext x; unfold swR; rw [if_neg (by omega), if_neg (by omega)]
theorem swR_succ (f : Nat → Int) (a b n : Nat) (h : a + n < b) : swF (swR f a b n) (a + n) (b + n) = swR f a b (n + 1) := by
  funext x
  unfold swF swR
  repeat' split
  all_goals first | omega | (congr 1; omega) | (exfalso; omega)

/-- Those from m to below b come first, then those from a to below m. -/
def rotF (f : Nat → Int) (a m b : Nat) : Nat → Int := fun x => if a ≤ x ∧ x < a + (b - m) then f (x + (m - a)) else if a + (b - m) ≤ x ∧ x < b then f (x - (b - m)) else f x

theorem rot_left (f : Nat → Int) (m i j : Nat) (hi : j < i) (him : i ≤ m) : rotF f (m - i) m (m + j) = rotF (swR f (m - i) m j) (m - (i - j)) m (m + j) := by
  funext x
  unfold rotF swR
  repeat' split
  all_goals first | omega | (congr 1; omega) | (exfalso; omega)

theorem rot_right (f : Nat → Int) (m i j : Nat) (hi : i < j) (him : i ≤ m) : rotF f (m - i) m (m + j) = rotF (swR f (m - i) (m + j - i) i) (m - i) m (m + (j - i)) := by
  funext x
  unfold rotF swR
  repeat' split
  all_goals first | omega | (congr 1; omega) | (exfalso; omega)

theorem rot_same (f : Nat → Int) (m i : Nat) (him : i ≤ m) : rotF f (m - i) m (m + i) = swR f (m - i) m i := by
  funext x
  unfold rotF swR
  repeat' split
  all_goals first | omega | (congr 1; omega) | (exfalso; omega)

theorem rotF_re (f : Nat → Int) {a m b : Nat} (h1 : a ≤ m) (h2 : m ≤ b) : Re f (rotF f a m b) a b := by
  refine ⟨fun k hk => ?_, fun k hk hl => ?_, fun k hk hl => ?_⟩
  · unfold rotF; rw [if_neg (by omega), if_neg (by omega)]
  · unfold rotF
    by_cases e : k < a + (b - m)
    · exact ⟨k + (m - a), by omega, by omega, by rw [if_pos (by omega)]⟩
    · exact ⟨k - (b - m), by omega, by omega, by rw [if_neg (by omega), if_pos (by omega)]⟩
  · unfold rotF
    by_cases e : k < m
    · exact ⟨k + (b - m), by omega, by omega, by rw [if_neg (by omega), if_pos (by omega)]; congr 1; omega⟩
    · exact ⟨k - (m - a), by omega, by omega, by rw [if_pos (by omega)]; congr 1; omega⟩

/-! ### Merging -/

/-- Two runs: both sorted, all of the first stood ahead of all of the second. -/
structure Runs (T : Int → Int) (f : Nat → Int) (a m b : Nat) : Prop where
  am : a < m
  mb : m < b
  left : SR T f a m
  right : SR T f m b
  ahead : ∀ i j, a ≤ i → i < m → m ≤ j → j < b → f i < f j

/-- One in front moves to its place: i is the first one behind which it need not go. -/
theorem merge_one {T : Int → Int} {f : Nat → Int} {a b i : Nat} (h : Runs T f a (a + 1) b) (h1 : a + 1 ≤ i) (h2 : i ≤ b) (hl : ∀ x, a + 1 ≤ x → x < i → T (f a) < T (f x)) (hr : ∀ x, i ≤ x → x < b → T (f x) ≤ T (f a)) :
    SR T (rotF f a (a + 1) i) a b := by
  have e : ∀ x, rotF f a (a + 1) i x = if a ≤ x ∧ x + 1 < i then f (x + 1) else if x + 1 = i then f a else f x := by
    intro x
    unfold rotF
    repeat' split
    all_goals first | omega | (congr 1; omega) | (exfalso; omega)
  intro x y k1 k2 k3
  rw [e x, e y]
  by_cases x1 : a ≤ x ∧ x + 1 < i
  · rw [if_pos x1]
    by_cases y1 : a ≤ y ∧ y + 1 < i
    · rw [if_pos y1]; exact h.right _ _ (by omega) (by omega) (by omega)
    · rw [if_neg y1]
      by_cases y2 : y + 1 = i
      · rw [if_pos y2]; exact .inl (hl _ (by omega) (by omega))
      · rw [if_neg y2]; exact h.right _ _ (by omega) (by omega) (by omega)
  · rw [if_neg x1]
    have y1 : ¬(a ≤ y ∧ y + 1 < i) := by omega
    rw [if_neg y1]
    by_cases x2 : x + 1 = i
    · have y2 : ¬(y + 1 = i) := by omega
      rw [if_pos x2, if_neg y2]
      have h3 := hr y (by omega) k3
      have h4 := h.ahead a y (Nat.le_refl _) (by omega) (by omega) k3
      unfold ltK; omega
    · rw [if_neg x2]
      by_cases y2 : y + 1 = i
      · omega
      · rw [if_neg y2]
        exact h.right _ _ (by omega) k2 k3

/-- One behind moves to its place: i is the first one ahead of which it stands. -/
theorem merge_last {T : Int → Int} {f : Nat → Int} {a m i : Nat} (h : Runs T f a m (m + 1)) (h1 : a ≤ i) (h2 : i ≤ m) (hl : ∀ x, a ≤ x → x < i → T (f m) ≤ T (f x)) (hr : ∀ x, i ≤ x → x < m → T (f x) < T (f m)) :
    SR T (rotF f i m (m + 1)) a (m + 1) := by
  have e : ∀ x, rotF f i m (m + 1) x = if x = i then f m else if i < x ∧ x ≤ m then f (x - 1) else f x := by
    intro x
    unfold rotF
    repeat' split
    all_goals first | omega | (congr 1; omega) | (exfalso; omega)
  intro x y k1 k2 k3
  rw [e x, e y]
  by_cases x1 : x = i
  · rw [if_pos x1, if_neg (by omega), if_pos (by omega)]
    exact .inl (hr _ (by omega) (by omega))
  · rw [if_neg x1]
    by_cases x2 : i < x ∧ x ≤ m
    · rw [if_pos x2, if_neg (by omega), if_pos (by omega)]
      exact h.left _ _ (by omega) (by omega) (by omega)
    · rw [if_neg x2]
      by_cases y1 : y = i
      · rw [if_pos y1]
        have h3 := hl x k1 (by omega)
        have h4 := h.ahead x m k1 (by omega) (Nat.le_refl _) (by omega)
        unfold ltK; omega
      · rw [if_neg y1]
        by_cases y2 : i < y ∧ y ≤ m
        · rw [if_pos y2]; exact h.left _ _ k1 (by omega) (by omega)
        · rw [if_neg y2]; exact h.left _ _ k1 k2 (by omega)

/-- What is found: where the runs are cut. -/
structure CutAt (T : Int → Int) (f : Nat → Int) (a m b s e : Nat) : Prop where
  lo : a ≤ s
  sm : s ≤ m
  me : m ≤ e
  eb : e ≤ b
  sum : s + e = (a + b) / 2 + m
  low : a < s → e < b → T (f e) ≤ T (f (s - 1))
  high : s < m → m < e → T (f s) < T (f (e - 1))

/-- Behind the rotation all of the first half stand before all of the second. -/
theorem cut_apart {T : Int → Int} {f : Nat → Int} {a m b s e : Nat} (h : Runs T f a m b) (c : CutAt T f a m b s e) (i j : Nat) (h1 : a ≤ i) (h2 : i < (a + b) / 2) (h3 : (a + b) / 2 ≤ j) (h4 : j < b) :
    ltK T (rotF f s m e i) (rotF f s m e j) := by
  have k1 := c.lo
  have k2 := c.sm
  have k3 := c.me
  have k4 := c.eb
  have k5 := c.sum
  have hM : s + (e - m) = (a + b) / 2 := by omega
  generalize (a + b) / 2 = M at *
  have low : a < s → e < b → ltK T (f (s - 1)) (f e) := fun x1 x2 => by
    have y1 := c.low x1 x2
    have y2 := h.ahead (s - 1) e (by omega) (by omega) k3 x2
    unfold ltK; omega
  have e1 : rotF f s m e i = if i < s then f i else f (i + (m - s)) := by
    unfold rotF
    by_cases x : i < s
    · rw [if_neg (by omega), if_neg (by omega), if_pos x]
    · rw [if_pos (by omega), if_neg x]
  have e2 : rotF f s m e j = if j < e then f (j - (e - m)) else f j := by
    unfold rotF
    by_cases x : j < e
    · rw [if_neg (by omega), if_pos (by omega), if_pos x]
    · rw [if_neg (by omega), if_neg (by omega), if_neg x]
  rw [e1, e2]
  by_cases x1 : i < s
  · rw [if_pos x1]
    by_cases x2 : j < e
    · rw [if_pos x2]; exact h.left _ _ h1 (by omega) (by omega)
    · rw [if_neg x2]
      have l := low (by omega) (by omega)
      have l1 : ltK T (f i) (f e) := by
        by_cases y : i = s - 1
        · subst y; exact l
        · exact ltK_trans (h.left i (s - 1) h1 (by omega) (by omega)) l
      by_cases y : j = e
      · subst y; exact l1
      · exact ltK_trans l1 (h.right e j k3 (by omega) h4)
  · rw [if_neg x1]
    by_cases x2 : j < e
    · rw [if_pos x2]
      have hh := c.high (by omega) (by omega)
      have l1 : ltK T (f (i + (m - s))) (f s) := by
        by_cases y : i + (m - s) = e - 1
        · rw [y]; exact .inl hh
        · exact ltK_trans (h.right _ (e - 1) (by omega) (by omega) (by omega)) (.inl hh)
      by_cases y : j - (e - m) = s
      · rw [y]; exact l1
      · exact ltK_trans l1 (h.left s _ k1 (by omega) (by omega))
    · rw [if_neg x2]; exact h.right _ _ (by omega) (by omega) h4

/-- The first half is two runs, or sorted. -/
theorem cut_left {T : Int → Int} {f : Nat → Int} {a m b s e : Nat} (h : Runs T f a m b) (c : CutAt T f a m b s e) :
    SR T (rotF f s m e) a s ∧ SR T (rotF f s m e) s ((a + b) / 2) ∧ ∀ i j, a ≤ i → i < s → s ≤ j → j < (a + b) / 2 → rotF f s m e i < rotF f s m e j := by
  have k1 := c.lo
  have k2 := c.sm
  have k3 := c.me
  have k4 := c.eb
  have k5 := c.sum
  have e1 : ∀ i, i < s → rotF f s m e i = f i := fun i x => by unfold rotF; rw [if_neg (by omega), if_neg (by omega)]
  have e2 : ∀ i, s ≤ i → i < (a + b) / 2 → rotF f s m e i = f (i + (m - s)) := fun i x y => by unfold rotF; rw [if_pos (by omega)]
  refine ⟨(h.left.sub (Nat.le_refl _) k2).congr (fun i _ x => e1 i x), fun i j x1 x2 x3 => ?_, fun i j x1 x2 x3 x4 => ?_⟩
  · rw [e2 i x1 (by omega), e2 j (by omega) x3]; exact h.right _ _ (by omega) (by omega) (by omega)
  · rw [e1 i x2, e2 j x3 x4]; exact h.ahead _ _ x1 (by omega) (by omega) (by omega)
theorem cut_right {T : Int → Int} {f : Nat → Int} {a m b s e : Nat} (h : Runs T f a m b) (c : CutAt T f a m b s e) :
    SR T (rotF f s m e) ((a + b) / 2) e ∧ SR T (rotF f s m e) e b ∧ ∀ i j, (a + b) / 2 ≤ i → i < e → e ≤ j → j < b → rotF f s m e i < rotF f s m e j := by
  have k1 := c.lo
  have k2 := c.sm
  have k3 := c.me
  have k4 := c.eb
  have k5 := c.sum
  have e1 : ∀ i, e ≤ i → rotF f s m e i = f i := fun i x => by unfold rotF; rw [if_neg (by omega), if_neg (by omega)]
  have e2 : ∀ i, (a + b) / 2 ≤ i → i < e → rotF f s m e i = f (i - (e - m)) := fun i x y => by unfold rotF; rw [if_neg (by omega), if_pos (by omega)]
  refine ⟨fun i j x1 x2 x3 => ?_, (h.right.sub k3 (Nat.le_refl _)).congr (fun i x _ => e1 i x), fun i j x1 x2 x3 x4 => ?_⟩
  · rw [e2 i x1 (by omega), e2 j (by omega) x3]; exact h.left _ _ (by omega) (by omega) (by omega)
  · rw [e2 i x1 x2, e1 j x3]; exact h.ahead _ _ (by omega) (by omega) (by omega) x4

end Go.Proofs.YtocpmncedlenbaaGreatDoor
