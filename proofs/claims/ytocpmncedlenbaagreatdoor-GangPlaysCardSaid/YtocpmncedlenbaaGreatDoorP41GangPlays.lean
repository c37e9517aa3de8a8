/-
  Contract of the document's NewGang.
-/
import Derived.Test.YtocpmncedlenbaaGreatDoorP37GangPlays
import Derived.Test.YtocpmncedlenbaaGreatDoorP32GangPlays
import Derived.Test.YtocpmncedlenbaaGreatDoorP4GangPlays
import Derived.Test.YtocpmncedlenbaaGreatDoorP30GangPlays
namespace Go.Proofs.YtocpmncedlenbaaGreatDoor
open Go.RowKit Go.Deep

theorem readyL_len' (p : PlanL) (D : Nat → Bool) : (readyL p D).length ≤ p.length := by
  have := List.length_filter_le (readyB p D) (List.range p.length)
  rw [List.length_range] at this
  exact this
theorem sliceOf_hands : SliceOf 55 147 1 8 := sliceOf_parts (z := .pointer none) Tryz.underlying55 (by kernel_rfl) rfl (by omega) (by omega)

/-- A gang while its hands come: so many rows, tasks, works. -/
structure RNewAt (w0 w : World) (lab : Nat → Nat) (G A : Nat) (pv lv tv uv : Value) (HB : Nat → Nat) (n room a b c : Nat) : Prop where
  cells : Cells w G [pv, lv, tv, uv, .int .i64 room, .slice none 0 0, .slice none 0 0, .slice none 0 0, .slice (some ⟨A, 0, none⟩) n n]
  row : w.ownsRow w0.heap.size 147 1 lv a (ptrs a HB)
  task : Ints w w0.heap.size tv (List.replicate b (-1))
  left : Ints w w0.heap.size uv (List.replicate c 0)
  done : Bools w A n (fun _ => false)
  hands : ∀ k, k < a → Cells w (HB k) [.int .i64 room, .int .i64 (-1), .slice none 0 0]
  lt : ∀ x, lab x ≠ 0 → w0.heap.size ≤ x ∧ x < w.heap.size
  l1 : lab G = 1
  l2 : ∀ x ∈ own lv, lab x = 2
  l3 : ∀ x ∈ own tv, lab x = 3
  l4 : ∀ x ∈ own uv, lab x = 4
  l6 : lab A = 6
  lh : ∀ k, k < a → lab (HB k) = 10 + k
  old : Only [] w0 w

theorem RNewAt.other {w0 w w' : World} {lab : Nat → Nat} {G A : Nat} {pv lv tv uv : Value} {HB : Nat → Nat} {n room a b c : Nat} {S : List Nat} (h : RNewAt w0 w lab G A pv lv tv uv HB n room a b c) (ho : Only S w w') (d : Nat) (hS : ∀ x ∈ S, lab x = d ∧ w0.heap.size ≤ x) :
    (d ≠ 1 → Cells w' G [pv, lv, tv, uv, .int .i64 room, .slice none 0 0, .slice none 0 0, .slice none 0 0, .slice (some ⟨A, 0, none⟩) n n]) ∧ (d ≠ 2 → w'.ownsRow w0.heap.size 147 1 lv a (ptrs a HB)) ∧ (d ≠ 3 → Ints w' w0.heap.size tv (List.replicate b (-1))) ∧ (d ≠ 4 → Ints w' w0.heap.size uv (List.replicate c 0)) ∧
      (d ≠ 6 → Bools w' A n (fun _ => false)) ∧ (∀ k, k < a → d ≠ 10 + k → Cells w' (HB k) [.int .i64 room, .int .i64 (-1), .slice none 0 0]) ∧ Only [] w0 w' := by
  have nc : ∀ x, lab x ≠ d → x ∉ S := fun x h hx => h (hS x hx).1
  exact ⟨fun e => h.cells.only ho (nc _ (by rw [h.l1]; omega)), fun e => Row.only h.row ho (fun x hx => nc x (by rw [h.l2 x hx]; omega)), fun e => h.task.only ho (fun g hg => nc g (by rw [h.l3 g (own_of hg)]; omega)), fun e => h.left.only ho (fun g hg => nc g (by rw [h.l4 g (own_of hg)]; omega)),
    fun e => h.done.only ho (nc _ (by rw [h.l6]; omega)), fun k hk e => (h.hands k hk).only ho (nc _ (by rw [h.lh k hk]; omega)), h.old.trans ho (fun x hx hl => by have := (hS x hx).2; omega)⟩

theorem RNewAt.setTask {w0 w w2 : World} {lab : Nat → Nat} {G A : Nat} {pv lv tv tv' uv : Value} {HB : Nat → Nat} {n room a b c : Nat} (h : RNewAt w0 w lab G A pv lv tv uv HB n room a b c) (ho : Only (own tv) w w2) (hI : Ints w2 w0.heap.size tv' (List.replicate (b + 1) (-1))) (hk : Kin w (own tv) (own tv')) :
    ∃ lab', RNewAt w0 (w2.setCell ⟨G, 2, none⟩ tv') lab' G A pv lv tv' uv HB n room a (b + 1) c := by
  obtain ⟨a1, a2, _, a4, a5, a6, a7⟩ := h.other ho 3 (fun x hx => ⟨h.l3 x hx, (h.lt x (by rw [h.l3 x hx]; omega)).1⟩)
  have hset : Only [G] w2 (w2.setCell ⟨G, 2, none⟩ tv') := (Only.refl [G] w2).setCell (by simp) _
  have hGl := (h.lt G (by rw [h.l1]; omega))
  have hs := ho.size
  have nc : ∀ x, lab x ≠ 1 → x ∉ [G] := fun x h1 hx => h1 (by simp at hx; rw [hx]; exact h.l1)
  have nv : ∀ x ∈ own tv', x ∉ [G] := fun x hx hg => by
    simp at hg
    subst hg
    rcases hk _ hx with h1 | h1
    · have := h.l3 _ h1; have := h.l1; omega
    · omega
  have old : ∀ {x d : Nat}, lab x = d → d ≠ 0 → relabL lab (own tv') 3 x = d := fun {x d} e hd => relabL_old hk h.l3 (h.lt x (by omega)).2 e
  refine ⟨relabL lab (own tv') 3, ⟨(a1 (by omega)).set 2 tv', Row.only (a2 (by omega)) hset (fun x hx => nc x (by rw [h.l2 x hx]; omega)), hI.only hset (fun g hg => nv g (own_of hg)), (a4 (by omega)).only hset (fun g hg => nc g (by rw [h.l4 g (own_of hg)]; omega)), (a5 (by omega)).only hset (nc _ (by rw [h.l6]; omega)), fun k hk2 => (a6 k hk2 (by omega)).only hset (nc _ (by rw [h.lh k hk2]; omega)), fun x hx => ?_, old h.l1 (by omega), fun x hx => old (h.l2 x hx) (by omega), fun x hx => relabL_in hx, fun x hx => old (h.l4 x hx) (by omega), old h.l6 (by omega), fun k hk2 => old (h.lh k hk2) (by omega), a7.trans hset (fun x hx hl => by simp at hx; omega)⟩⟩
  have hsz : (w2.setCell ⟨G, 2, none⟩ tv').heap.size = w2.heap.size := by simp [World.setCell]
  rw [hsz]
  rcases relabL_lt hx with hx | hx
  · exact hI.own_lt x hx
  · have := h.lt x hx; omega

theorem RNewAt.setLeft {w0 w w2 : World} {lab : Nat → Nat} {G A : Nat} {pv lv tv uv uv' : Value} {HB : Nat → Nat} {n room a b c : Nat} (h : RNewAt w0 w lab G A pv lv tv uv HB n room a b c) (ho : Only (own uv) w w2) (hI : Ints w2 w0.heap.size uv' (List.replicate (c + 1) 0)) (hk : Kin w (own uv) (own uv')) :
    ∃ lab', RNewAt w0 (w2.setCell ⟨G, 3, none⟩ uv') lab' G A pv lv tv uv' HB n room a b (c + 1) := by
  obtain ⟨a1, a2, a3, _, a5, a6, a7⟩ := h.other ho 4 (fun x hx => ⟨h.l4 x hx, (h.lt x (by rw [h.l4 x hx]; omega)).1⟩)
  have hset : Only [G] w2 (w2.setCell ⟨G, 3, none⟩ uv') := (Only.refl [G] w2).setCell (by simp) _
  have hGl := (h.lt G (by rw [h.l1]; omega))
  have hs := ho.size
  have nc : ∀ x, lab x ≠ 1 → x ∉ [G] := fun x h1 hx => h1 (by simp at hx; rw [hx]; exact h.l1)
  have nv : ∀ x ∈ own uv', x ∉ [G] := fun x hx hg => by
    simp at hg
    subst hg
    rcases hk _ hx with h1 | h1
    · have := h.l4 _ h1; have := h.l1; omega
    · omega
  have old : ∀ {x d : Nat}, lab x = d → d ≠ 0 → relabL lab (own uv') 4 x = d := fun {x d} e hd => relabL_old hk h.l4 (h.lt x (by omega)).2 e
  refine ⟨relabL lab (own uv') 4, ⟨(a1 (by omega)).set 3 uv', Row.only (a2 (by omega)) hset (fun x hx => nc x (by rw [h.l2 x hx]; omega)), (a3 (by omega)).only hset (fun g hg => nc g (by rw [h.l3 g (own_of hg)]; omega)), hI.only hset (fun g hg => nv g (own_of hg)), (a5 (by omega)).only hset (nc _ (by rw [h.l6]; omega)), fun k hk2 => (a6 k hk2 (by omega)).only hset (nc _ (by rw [h.lh k hk2]; omega)), fun x hx => ?_, old h.l1 (by omega), fun x hx => old (h.l2 x hx) (by omega), fun x hx => old (h.l3 x hx) (by omega), fun x hx => relabL_in hx, old h.l6 (by omega), fun k hk2 => old (h.lh k hk2) (by omega), a7.trans hset (fun x hx hl => by simp at hx; omega)⟩⟩
  have hsz : (w2.setCell ⟨G, 3, none⟩ uv').heap.size = w2.heap.size := by simp [World.setCell]
  rw [hsz]
  rcases relabL_lt hx with hx | hx
  · exact hI.own_lt x hx
  · have := h.lt x hx; omega

/-- One hand more, in block B. -/
theorem RNewAt.setHand {w0 w w1 w2 : World} {lab : Nat → Nat} {G A B : Nat} {pv lv lv' tv uv : Value} {HB : Nat → Nat} {n room a b c : Nat} (h : RNewAt w0 w lab G A pv lv tv uv HB n room a b c) (ho1 : Only [] w w1) (hB : w.heap.size ≤ B) (hC : Cells w1 B [.int .i64 room, .int .i64 (-1), .slice none 0 0])
    (ho : Only (own lv) w1 w2) (hI : w2.ownsRow w0.heap.size 147 1 lv' (a + 1) (ptrs a HB ++ [.pointer (some ⟨B, 0, none⟩)])) (hk : ∀ x ∈ own lv', x ∈ own lv ∨ (w.heap.size ≤ x ∧ x ≠ B)) :
    ∃ lab', RNewAt w0 (w2.setCell ⟨G, 1, none⟩ lv') lab' G A pv lv' tv uv (updA HB a B) n room (a + 1) b c := by
  have ho' : Only (own lv) w w2 := (ho1.mono (by simp)).trans ho (fun x hx _ => hx)
  obtain ⟨a1, _, a3, a4, a5, a6, a7⟩ := h.other ho' 2 (fun x hx => ⟨h.l2 x hx, (h.lt x (by rw [h.l2 x hx]; omega)).1⟩)
  have hset : Only [G] w2 (w2.setCell ⟨G, 1, none⟩ lv') := (Only.refl [G] w2).setCell (by simp) _
  have hGl := (h.lt G (by rw [h.l1]; omega))
  have hs1 := ho1.size
  have hs := ho.size
  have hBl := hC.lt
  have hkin : Kin w (own lv) (own lv') := fun x hx => (hk x hx).imp id (fun h => h.1)
  have nc : ∀ x, lab x ≠ 1 → x ∉ [G] := fun x h1 hx => h1 (by simp at hx; rw [hx]; exact h.l1)
  have nv : ∀ x ∈ own lv', x ∉ [G] := fun x hx hg => by
    simp at hg
    subst hg
    rcases hk _ hx with h1 | h1
    · have := h.l2 _ h1; have := h.l1; omega
    · omega
  have hBlv : B ∉ own lv := fun hx => by have := (h.lt B (by rw [h.l2 B hx]; omega)).2; omega
  have hBlv' : B ∉ own lv' := fun hx => by
    rcases hk B hx with h1 | h1
    · exact hBlv h1
    · exact h1.2 rfl
  obtain ⟨lab', hl⟩ : ∃ lab' : Nat → Nat, lab' = relabL (relabL lab (own lv') 2) [B] (10 + a) := ⟨_, rfl⟩
  have old : ∀ {x d : Nat}, lab x = d → d ≠ 0 → lab' x = d := fun {x d} e hd => by
    have hx := (h.lt x (by omega)).2
    rw [hl]
    unfold relabL
    rw [if_neg (by simp; omega)]
    exact relabL_old hkin h.l2 hx e
  refine ⟨lab', ⟨(a1 (by omega)).set 1 lv', ?_, (a3 (by omega)).only hset (fun g hg => nc g (by rw [h.l3 g (own_of hg)]; omega)), (a4 (by omega)).only hset (fun g hg => nc g (by rw [h.l4 g (own_of hg)]; omega)), (a5 (by omega)).only hset (nc _ (by rw [h.l6]; omega)), fun k hk2 => ?_, fun x hx => ?_, old h.l1 (by omega), fun x hx => ?_, fun x hx => old (h.l3 x hx) (by omega), fun x hx => old (h.l4 x hx) (by omega), old h.l6 (by omega), fun k hk2 => ?_, a7.trans hset (fun x hx hl => by simp at hx; omega)⟩⟩
  · rw [ptrs_push, ptrs_congr a _ HB (fun k hk => by simp [updA]; omega), show updA HB a B a = B by simp [updA]]
    exact Row.only hI hset nv
  · by_cases e : k = a
    · subst e
      rw [show updA HB k B k = B by simp [updA]]
      exact (hC.only ho hBlv).only hset (by simp; omega)
    · rw [show updA HB a B k = HB k by simp [updA, e]]
      exact (a6 k (by omega) (by omega)).only hset (nc _ (by rw [h.lh k (by omega)]; omega))
  · have hsz : (w2.setCell ⟨G, 1, none⟩ lv').heap.size = w2.heap.size := by simp [World.setCell]
    rw [hsz]
    rw [hl] at hx
    have h0 := h.old.size
    rcases relabL_lt hx with hx | hx
    · simp at hx; omega
    · rcases relabL_lt hx with hx | hx
      · exact Row.far hI x hx
      · have := h.lt x hx; omega
  · rw [hl]
    unfold relabL
    rw [if_neg (by simp; rintro rfl; exact hBlv' hx), if_pos hx]
  · by_cases e : k = a
    · subst e
      rw [show updA HB k B k = B by simp [updA], hl]
      exact relabL_in (by simp)
    · rw [show updA HB a B k = HB k by simp [updA, e]]
      exact old (h.lh k (by omega)) (by omega)

/-- All are there. -/
theorem RNewAt.gang {w0 w : World} {lab : Nat → Nat} {G A : Nat} {pv lv tv uv : Value} {HB : Nat → Nat} {p : PlanL} {room m : Nat} (h : RNewAt w0 w lab G A pv lv tv uv HB p.length room m m m) (hp : InPlan w0 pv p) (h1 : 1 ≤ m) (h6 : m ≤ 6) (r1 : 1 ≤ room) (r16 : room ≤ 16) :
    ∃ L T U cap ct cu, RGangAt w0 w lab ⟨G, L, T, U, A, cap, ct, cu, pv, HB⟩ (.slice none 0 0) [G] (fun k => [HB k]) p room m ⟨fun _ => false, [], [], fun _ => ⟨-1, [], -1, 0⟩⟩ := by
  obtain ⟨a, cap, rfl, hc, hm, hf⟩ := Row.form h.row
  obtain ⟨L, rfl, _, _⟩ := hf (by omega)
  have hrep : ∀ (x : Int), (List.replicate m x).length = m := fun x => by simp
  obtain ⟨T, ct, rfl, _, _⟩ := h.task.sized m (hrep _) (by omega)
  obtain ⟨U, cu, rfl, _, _⟩ := h.left.sized m (hrep _) (by omega)
  have hct' : m ≤ ct ∧ ct ≤ maxLen := by
    rcases h.task.form with ⟨e, _⟩ | ⟨g, cp, e, _, _, h8, h9⟩
    · cases e
    · injection e with _ _ e3
      simp at h8
      omega
  have hcu' : m ≤ cu ∧ cu ≤ maxLen := by
    rcases h.left.form with ⟨e, _⟩ | ⟨g, cp, e, _, _, h8, h9⟩
    · cases e
    · injection e with _ _ e3
      simp at h8
      omega
  have own1 : ∀ (B n c : Nat), own (.slice (some ⟨B, 0, none⟩) n c) = [B] := fun B n c => by simp [own, Value.ownBlock]
  have hnil : own (.slice none 0 0) = [] := by simp [own, Value.ownBlock]
  refine ⟨L, T, U, cap, ct, cu, ⟨⟨_, _, ⟨h.cells, ?_, ?_, by rw [hnil]; simp, by rw [hnil]; simp, by rw [hnil]; simp⟩, by rw [hnil]; rfl, by simp⟩, fun i hi => ⟨?_, h.task.free i⟩, fun i hi => ⟨?_, h.left.free i⟩, Ints.nil _ _, h.done, fun i hi => ?_, fun i hi => ⟨⟨_, h.hands i hi, (Ints.nil w 0).sl, by rw [hnil]; simp, by rw [hnil]⟩, by simp⟩, fun i hi => by simp, h.lt, fun x hx => ?_, h.l2 L (by rw [own1]; simp), h.l3 T (by rw [own1]; simp), h.l4 U (by rw [own1]; simp), fun x hx => by rw [hnil] at hx; simp at hx, h.l6, fun i hi x hx => ?_, h.old, hp, h1, h6, r1, r16, ⟨hc, ?_, ?_⟩, hm, ?_, ?_⟩⟩
  · rw [List.take_nil]; exact Ints.nil _ _
  · rw [List.drop_nil]; exact Ints.nil _ _
  · have := h.task.cell i (by simp; omega)
    rw [this]
    simp [nth, hi]
  · have := h.left.cell i (by simp; omega)
    rw [this]
    simp [nth, hi]
  · rw [World.ownsRow.cellAt h.row i (by omega)]
    simp [ptrs, hi]
  · obtain rfl : x = G := by simpa using hx
    exact h.l1
  · obtain rfl : x = HB i := by simpa using hx
    exact h.lh i hi
  · exact hct'.1
  · exact hcu'.1
  · exact hct'.2
  · exact hcu'.2

set_option maxRecDepth 100000 in
set_option maxHeartbeats 4000000 in
theorem ref_NewGang (v : Value) (p : PlanL) (m r : Nat) (w : World) (h : InPlan w v p) (hok : PlanOk p) (m1 : 1 ≤ m) (m6 : m ≤ 6) (r1 : 1 ≤ r) (r16 : r ≤ 16) :
    Calls Tryz.prog 19 #[v, .int .i64 m, .int .i64 r] w fun e w' => ∃ q F, e = .returned (.pointer (some ⟨q.G, 0, none⟩)) ∧ RGangIs w w' q p r m (gNew p) F ∧ Only [] w w' ∧ q.pv = v := by
  have HP := Lib.hid h
  have HOK := Lib.hid hok
  have h30 := hok.len
  obtain ⟨va, vc, rfl, _⟩ := h.task
  obtain ⟨n, hn⟩ : ∃ n, p.length = n := ⟨_, rfl⟩
  have HN := Lib.hid hn
  rw [hn] at HP h30 ⊢
  have hmk := make_bools n (by omega)
  have hB0 := made_bools w n
  obtain ⟨W1, hW1⟩ : ∃ W1, w.alloc (.cells (madeCells #[.bool false] n) 4) = W1 := ⟨_, rfl⟩
  rw [hW1] at hB0
  have ho1 : Only [] w W1 := by rw [← hW1]; exact (Only.refl [] w).alloc _
  have hz1 : W1.heap.size = w.heap.size + 1 := by rw [← hW1]; simp
  obtain ⟨W2, hW2⟩ : ∃ W2, W1.alloc (.cells #[.slice va n vc, .slice none 0 0, .slice none 0 0, .slice none 0 0, .int .i64 r, .slice none 0 0, .slice none 0 0, .slice none 0 0, .slice (some ⟨w.heap.size, 0, none⟩) n n] 60) = W2 := ⟨_, rfl⟩
  have ho2 : Only [] W1 W2 := by rw [← hW2]; exact (Only.refl [] W1).alloc _
  have hz2 : W2.heap.size = w.heap.size + 2 := by rw [← hW2]; simp [hz1]
  obtain ⟨G, hG⟩ : ∃ G, w.heap.size + 1 = G := ⟨_, rfl⟩
  have hC2 : Cells W2 G [.slice va n vc, .slice none 0 0, .slice none 0 0, .slice none 0 0, .int .i64 r, .slice none 0 0, .slice none 0 0, .slice none 0 0, .slice (some ⟨w.heap.size, 0, none⟩) n n] := by
    have := Cells.new W1 #[.slice va n vc, .slice none 0 0, .slice none 0 0, .slice none 0 0, .int .i64 r, .slice none 0 0, .slice none 0 0, .slice none 0 0, .slice (some ⟨w.heap.size, 0, none⟩) n n] 60
    rw [hW2, hz1, hG] at this
    exact this
  have hnil : own (.slice none 0 0) = [] := by simp [own, Value.ownBlock]
  have hst : RNewAt w W2 (fun x => if x = G then 1 else if x = w.heap.size then 6 else 0) G w.heap.size (.slice va n vc) (.slice none 0 0) (.slice none 0 0) (.slice none 0 0) (fun _ => 0) n r 0 0 0 := by
    refine ⟨hC2, ⟨by simp [ptrs], .inl ⟨rfl, rfl⟩⟩, Ints.nil _ _, Ints.nil _ _, hB0.only ho2 (by simp), fun k hk => by omega, fun x hx => ?_, by simp, by rw [hnil]; simp, by rw [hnil]; simp, by rw [hnil]; simp, by simp; omega, fun k hk => by omega, ho1.trans ho2 (by simp)⟩
    by_cases e : x = G
    · omega
    · rw [if_neg e] at hx
      by_cases e2 : x = w.heap.size
      · omega
      · rw [if_neg e2] at hx; exact absurd rfl hx
  have HST := Lib.hid hst
  clear h hok hn hB0 ho1 ho2 hC2 hst hnil
  go_enter Tryz.func19, Tryz.ntmps19
  go_wp2_with fail
  clear hW1 hW2 hmk hz1 hz2
  have HG := Lib.hid hG
  clear hG
  go_loopw [8] (fun vi wr => ∃ (i : Nat) (lab : Nat → Nat) (lv tv uv : Value) (HB : Nat → Nat), i ≤ m ∧ vi = .int .i64 i ∧ RNewAt w wr lab G w.heap.size (.slice va n vc) lv tv uv HB n r i i i) (fun vi _ => m - (intOf vi).toNat)
  case atStart => exact ⟨0, _, _, _, _, _, Nat.zero_le _, rfl, HST.out⟩
  case round =>
    clear HST
    obtain ⟨wo, rfl⟩ : ∃ wo : World, wo = wr := ⟨_, rfl⟩
    obtain ⟨i, lab, lv, tv, uv, HB, hi, rfl, hN⟩ := hrel
    obtain ⟨la, lc, rfl, _, _, _⟩ := Row.form hN.row
    obtain ⟨ta, tc, htv, _⟩ := hN.task.opt
    obtain ⟨ua, uc, huv, _⟩ := hN.left.opt
    rw [List.length_replicate] at htv huv
    subst htv huv
    by_cases him : i < m
    · have e1 := hN.cells.cell 1 _ rfl
      have hGl : G < wo.heap.size := hN.cells.lt
      have hsz := hN.old.size
      have hGv : G ∉ own (.slice la i lc) := fun hx => by have := hN.l2 _ hx; have := hN.l1; omega
      have hGt : G ∉ own (.slice ta i tc) := fun hx => by have := hN.l3 _ hx; have := hN.l1; omega
      have hGu : G ∉ own (.slice ua i uc) := fun hx => by have := hN.l4 _ hx; have := hN.l1; omega
      obtain ⟨W8, hW8⟩ : ∃ W8, (wo.alloc (.cells #[.int .i64 r, .int .i64 (-1), .slice none 0 0] 149)).alloc (.cells #[.pointer (some ⟨wo.heap.size, 0, none⟩)] 147) = W8 := ⟨_, rfl⟩
      have hal : Only [] wo W8 := by rw [← hW8]; exact ((Only.refl [] wo).alloc _).alloc _
      have hz8 : W8.heap.size = wo.heap.size + 2 := by rw [← hW8]; simp
      have hB8 : Cells W8 wo.heap.size [.int .i64 r, .int .i64 (-1), .slice none 0 0] := by
        rw [← hW8]
        exact (Cells.new wo #[.int .i64 r, .int .i64 (-1), .slice none 0 0] 149).only ((Only.refl [] _).alloc _) (by simp)
      have hP8 : W8.cell? ⟨wo.heap.size + 1, 0, none⟩ = some (.pointer (some ⟨wo.heap.size, 0, none⟩)) := by
        have := (Cells.new (wo.alloc (.cells #[.int .i64 r, .int .i64 (-1), .slice none 0 0] 149)) #[.pointer (some ⟨wo.heap.size, 0, none⟩)] 147).cell 0 _ rfl
        rw [hW8] at this
        simpa using this
      have e1a := (hN.cells.only hal (by simp)).cell 1 _ rfl
      have HROW := Lib.hid (Row.same hN.row hal)
      have hC8 := hN.cells.only hal (by simp)
      have hX := Lib.hid (fun g cap w7 (hI7 : w7.ownsRow w.heap.size 147 1 (.slice (some ⟨g, 0, none⟩) (i + 1) cap) (i + 1) (ptrs i HB ++ [.pointer (some ⟨wo.heap.size, 0, none⟩)])) (hO7 : Only (own (.slice la i lc)) W8 w7) (hg7 : g ∈ own (.slice la i lc) ∨ W8.heap.size ≤ g) =>
        hN.setHand hal (Nat.le_refl _) hB8 hO7 hI7 (fun x hx => by
          obtain rfl : x = g := by simpa [own, Value.ownBlock] using hx
          rcases hg7 with h | h
          · exact .inl h
          · right; omega))
      have HC8 := Lib.hid hC8
      have HT : Hid ((List.replicate i (-1 : Int)).length = i ∧ (List.replicate i (0 : Int)).length = i) := ⟨by simp, by simp⟩
      have HTS : Hid (List.replicate i (-1 : Int) ++ [-1] = List.replicate (i + 1) (-1)) := List.replicate_succ'.symm
      have HUS : Hid (List.replicate i (0 : Int) ++ [0] = List.replicate (i + 1) 0) := List.replicate_succ'.symm
      have HGT := Lib.hid (And.intro hGv (And.intro hGt hGu))
      clear hN hB8 hC8 hGv hGt hGu
      go_wp2_with (first
        | (at_builtin; refine wpList_row1 sliceOf_hands rfl (.tmp 26) (.tmp 30) rfl W8 w.heap.size _ i _ (wo.heap.size + 1) (.pointer (some ⟨wo.heap.size, 0, none⟩)) HROW.out (by omega) (by omega) rfl (by first | rfl | simp) (by first | exact Only.refl _ _ | (rw [hW8]; exact Only.refl _ _)) (by first | exact hP8 | simp) rfl ?_; intro g cap w7 hI7 hO7 hg7; have hC7 := HC8.out.only hO7 HGT.out.1; have e7 := hC7.cell 1 _ rfl; have f7 := hC7.free 1 _ rfl; have hx7 := hX.out g cap w7 hI7 hO7 hg7; obtain ⟨wA, hwA⟩ : ∃ wA, w7.setCell ⟨G, 1, none⟩ (.slice (some ⟨g, 0, none⟩) (i + 1) cap) = wA := ⟨_, rfl⟩; rw [hwA] at hx7; obtain ⟨labA, hNA⟩ := hx7; have eA := hNA.cells.cell 2 _ rfl; have hsA := hNA.old.size; have HNA := Lib.hid hNA; have HIT := Lib.hid hNA.task; have HCA := Lib.hid hNA.cells; clear hNA hI7 hO7 hg7 hC7)
        | (at_builtin; refine wpList_push rfl (.tmp 38) (.tmp 39) rfl wA w.heap.size _ _ wA.heap.size (-1) i HIT.out HT.out.1 (by omega) hsA rfl rfl ((Only.refl [] wA).alloc _) (World.cell?_alloc_at _ _ _ _ rfl) ?_; intro g2 cap2 w8 hI8 hO8 hK8; have hC9 := HCA.out.only hO8 HGT.out.2.1; have e8 := hC9.cell 2 _ rfl; have f8 := hC9.free 2 _ rfl; rw [HTS.out] at hI8; obtain ⟨labB, hNB⟩ := HNA.out.setTask hO8 hI8 (kin_push hK8); obtain ⟨wB, hwB⟩ : ∃ wB, w8.setCell ⟨G, 2, none⟩ (.slice (some ⟨g2, 0, none⟩) (i + 1) cap2) = wB := ⟨_, rfl⟩; rw [hwB] at hNB; have eB := hNB.cells.cell 3 _ rfl; have hsB := hNB.old.size; have HNB := Lib.hid hNB; have HIU := Lib.hid hNB.left; have HCB := Lib.hid hNB.cells; clear hNB hI8 hO8 hK8 hC9)
        | (at_builtin; refine wpList_push rfl (.tmp 47) (.tmp 48) rfl wB w.heap.size _ _ wB.heap.size 0 i HIU.out HT.out.2 (by omega) hsB rfl rfl ((Only.refl [] wB).alloc _) (World.cell?_alloc_at _ _ _ _ rfl) ?_; intro g3 cap3 w9 hI9 hO9 hK9; have hCC := HCB.out.only hO9 HGT.out.2.2; have e9 := hCC.cell 3 _ rfl; have f9 := hCC.free 3 _ rfl; rw [HUS.out] at hI9; obtain ⟨labC, hNC⟩ := HNB.out.setLeft hO9 hI9 (kin_push hK9); have HNC := Lib.hid hNC; clear hNC hI9 hO9 hK9 hCC))
      go_roundw
      case rel => exact ⟨i + 1, labC, _, _, _, _, by omega, by go_num, HNC.out⟩
      case measure => (simp [intOf]; try omega)
    · obtain rfl : i = m := by omega
      have hp := HP.out
      rw [← HN.out] at hN hp
      obtain ⟨L, T, U, cap, ct, cu, hG⟩ := hN.gang hp m1 m6 r1 r16
      have R := RRel.start (show RGangIs w wo _ p r i _ (fun x => lab x ≠ 0) from ⟨lab, _, _, _, hG, fun _ => Iff.rfl⟩)
      obtain ⟨_, _, _, hC, _, _, _, _, hB, _⟩ := R.cells
      have c8 := hC.cell 8 _ rfl
      have hold : Only [] w wo := hG.old
      have HRD := Lib.hid (fun (W : World) (ho : Only [] wo W) => (ref_Ready (.slice va p.length vc) p w.heap.size p.length (fun _ => false) W ((hp.same hold).same ho) HOK.out.needsOk (hB.only ho (by simp)) rfl).mono fun e w' (hx : ∃ v', e = .returned v' ∧ Ints w' W.heap.size v' (natL (readyL p (fun _ => false))) ∧ Only [] W w') => (show ∃ v', e = .returned v' ∧ Ints w' wo.heap.size v' (natL (readyL p (fun _ => false))) ∧ Only [] wo w' from by obtain ⟨v', h1, h2, h3⟩ := hx; exact ⟨v', h1, h2.mono ho.size, ho.trans h3 (by simp)⟩))
      have hlen : (natL (readyL p (fun _ => false))).length ≤ 30 := by
        rw [natL_len]
        have := readyL_len' p (fun _ => false)
        have := HN.out
        omega
      have HPUT := Lib.hid (fun (W : World) (v9 : Value) (ho : Only [] wo W) (hI : Ints W wo.heap.size v9 (natL (readyL p (fun _ => false)))) => (R.same ho).spill_put v9 _ hI.reads (fun y hy hF => by
        have h1 := (hI.own_lt y hy).1
        have h2 := (R.gang.lt y hF).2
        omega) (by simp; omega))
      rw [HN.out] at HRD
      have c8' : wo.cell? ⟨G, 8, none⟩ = some (.slice (some ⟨w.heap.size, 0, none⟩) n n) := by rw [← HN.out]; exact c8
      clear hN hp hG R hC hB c8 hold hlen hi him
      go_wp2_with fail
      go_region_law (first
        | (go_simp; go_at_call 75; refine (HRD.out _ (by first | exact Only.refl _ _ | exact (Only.refl _ _).drew | exact (Only.refl _ _).drewN _)).mono ?_; rintro e w9 ⟨v9, rfl, hI9, ho9⟩; obtain ⟨xa, xc, rfl, _⟩ := hI9.opt)
        | (go_simp; go_at_call 74; refine (HPUT.out _ _ ho9 hI9).mono ?_; rintro e wA ⟨rfl, F9, hS9, _, _⟩))
      all_goals
        have HS9 := Lib.hid hS9
        clear hS9
        go_wp2
        go_ret
        refine ⟨⟨G, L, T, U, w.heap.size, cap, ct, cu, .slice va p.length vc, HB⟩, F9, rfl, HS9.out.gang, ?_, by rw [← HN.out]⟩
        obtain ⟨_, _, _, _, _, _, _, _, _, _, _, _, _, _, _, _, _, _, _, _, _, ho⟩ := HS9.out.cells
        exact ho

end Go.Proofs.YtocpmncedlenbaaGreatDoor
