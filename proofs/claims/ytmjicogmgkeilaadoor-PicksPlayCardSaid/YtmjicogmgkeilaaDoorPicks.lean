/-
  Contracts of package picks.
-/
import Derived.Test.YtmjicogmgkeilaaDoorFnPicksNew
import Derived.Test.YtmjicogmgkeilaaDoorClone
namespace Go.Proofs.YtmjicogmgkeilaaDoor
open Go.RowKit

/-- Picks in block b: the numbers l, so many of them used. -/
structure PicksIs (w : World) (fp : List Nat) (b : Nat) (l : List Int) (used : Nat) : Prop where
  ex : ∃ lv, Cells w b [lv, .int .i64 used] ∧ Ints w 0 lv l ∧ b ∉ own lv ∧ fp = b :: own lv
  all : ∀ x ∈ l, 0 ≤ x ∧ x ≤ 9223372036854775807
  le : used ≤ l.length
  len : l.length ≤ 400

theorem PicksIs.lt {w : World} {fp : List Nat} {b used : Nat} {l : List Int} (h : PicksIs w fp b l used) : b ∈ fp ∧ ∀ x ∈ fp, x < w.heap.size := by
  obtain ⟨⟨lv, hc, hi, _, rfl⟩, _⟩ := h
  refine ⟨by simp, fun x hx => ?_⟩
  rcases List.mem_cons.1 hx with rfl | hx
  · exact hc.lt
  · exact (hi.own_lt x hx).2

theorem picks_lit_no (x : Int) (w : World) (h : 0 ≤ x) : Calls Tryd.prog 58 #[.int .i64 x] w fun e w' => e = .returned (.bool false) ∧ w = w' := by
  go_enter Tryd.func58, Tryd.ntmps58
  go_wp2
  go_ret
  exact ⟨by simp; omega, rfl⟩
theorem picks_lit_yes (x : Int) (w : World) (h : x < 0) : Calls Tryd.prog 58 #[.int .i64 x] w fun e w' => e = .returned (.bool true) ∧ w = w' := by
  go_enter Tryd.func58, Tryd.ntmps58
  go_wp2
  go_ret
  exact ⟨by simp, rfl⟩
theorem picks_lit (x : Int) (w : World) (n : Nat) : Calls Tryd.prog 58 #[.int .i64 x] (w.drewN n) fun e w' => e = .returned (.bool (decide (x < 0))) ∧ ∃ m, w' = w.drewN m := by
  by_cases h : x < 0
  · exact (picks_lit_yes x (w.drewN n) h).mono fun _ _ ⟨he, hw⟩ => ⟨by rw [he]; simp [h], n, hw.symm⟩
  · exact (picks_lit_no x (w.drewN n) (by omega)).mono fun _ _ ⟨he, hw⟩ => ⟨by rw [he]; simp; omega, n, hw.symm⟩

theorem Picks.new_full (v : Value) (l : List Int) (w : World) (h : Reads w v l) (hl : l.length ≤ maxLen) (hf : 400 < l.length) :
    Calls Tryd.prog 16 #[v] w fun e w' => e = .returned (.tuple #[.pointer none, .iface 95 (.int .i64 4)]) ∧ w = w' := by
  unfold maxLen at hl
  obtain ⟨a, c, rfl, _⟩ := h.opt
  obtain ⟨n, hn⟩ : ∃ n, l.length = n := ⟨_, rfl⟩
  rw [hn] at hl hf ⊢
  clear h hn
  go_enter Tryd.func16, Tryd.ntmps16
  go_wp2
  go_ret2
  exact ⟨rfl, rfl⟩

theorem Picks.new_bad (v : Value) (l : List Int) (w : World) (h : Reads w v l) (hl : l.length ≤ 400) (hb : ¬ ∀ x ∈ l, 0 ≤ x) :
    Calls Tryd.prog 16 #[v] w fun e w' => e = .returned (.tuple #[.pointer none, .iface 95 (.int .i64 1)]) ∧ Only [] w w' := by
  have hany : l.any (fun x => decide (x < 0)) = true := by
    by_cases e : l.any (fun x => decide (x < 0)) = true
    · exact e
    · refine absurd (fun x hx => ?_) hb
      rw [Bool.not_eq_true, List.any_eq_false] at e
      have := e x hx
      simp at this
      exact this
  have hcf := picksNew_contains v l w (fun x => decide (x < 0)) h (by omega) (fun x _ n => picks_lit x w n) true hany
  obtain ⟨a, c, rfl, _⟩ := h.opt
  obtain ⟨n, hn⟩ : ∃ n, l.length = n := ⟨_, rfl⟩
  rw [hn] at hl hcf ⊢
  clear h hn hb hany
  go_enter Tryd.func16, Tryd.ntmps16
  go_wp2_with fail
  refine hcf.mono ?_
  rintro e w1 ⟨rfl, m, rfl⟩
  clear hcf
  go_wp2
  go_ret2
  exact ⟨rfl, (Only.refl _ _).drewN m⟩

theorem Picks.new (v : Value) (l : List Int) (w : World) (h : Reads w v l) (hl : l.length ≤ 400) (hb : ∀ x ∈ l, 0 ≤ x ∧ x ≤ 9223372036854775807) :
    Calls Tryd.prog 16 #[v] w fun e w' => ∃ b fp, e = .returned (.tuple #[.pointer (some ⟨b, 0, none⟩), .nilIface]) ∧ PicksIs w' fp b l 0 ∧ Only [] w w' ∧ ∀ x ∈ fp, w.heap.size ≤ x := by
  have hany : l.any (fun x => decide (x < 0)) = false := by
    rw [List.any_eq_false]
    intro x hx
    have := (hb x hx).1
    simp; omega
  have hcf := picksNew_contains v l w (fun x => decide (x < 0)) h (by omega) (fun x _ n => picks_lit x w n) false hany
  have HB := Lib.hid hb
  have hh := h
  obtain ⟨a, c, rfl, _⟩ := h.opt
  obtain ⟨n, hn⟩ : ∃ n, l.length = n := ⟨_, rfl⟩
  have HN := Lib.hid hn
  rw [hn] at hl hcf hh ⊢
  clear h hn hb hany
  go_enter Tryd.func16, Tryd.ntmps16
  go_wp2_with fail
  refine hcf.mono ?_
  rintro e w1 ⟨rfl, m, rfl⟩
  clear hcf
  go_wp2_with fail
  refine (clone_ints _ l (w.drewN m) (hh.drewN m) (by rw [HN.out]; omega)).mono ?_
  rintro e w2 ⟨v', rfl, hI, ho⟩
  have ho2 := ((Only.refl [] w).drewN m).trans ho (by simp)
  have hP : PicksIs (w2.alloc (.cells #[v', .int .i64 0] 100)) (w2.heap.size :: own v') w2.heap.size l 0 := by
    refine ⟨⟨v', Cells.new w2 #[v', .int .i64 0] 100, (hI.mono (Nat.zero_le _)).only ((Only.refl [] w2).alloc _) (by simp), fun hx => ?_, rfl⟩, HB.out, Nat.zero_le _, by rw [HN.out]; exact hl⟩
    have := (hI.own_lt _ hx).2
    omega
  have ho3 := ho2.alloc (.cells #[v', .int .i64 0] 100)
  have hsz := ho2.size
  have hfp : Hid (∀ x ∈ w2.heap.size :: own v', w.heap.size ≤ x) := by
    show ∀ x ∈ _, _
    intro x hx
    rcases List.mem_cons.1 hx with rfl | hx
    · exact hsz
    · have := (hI.own_lt x hx).1; simpa using this
  obtain ⟨a2, c2, rfl, _⟩ := hI.opt
  clear hI hh ho ho2
  go_wp2
  go_ret2
  exact ⟨_, _, rfl, hP, ho3, hfp.out⟩

theorem Picks.used (fp : List Nat) (b : Nat) (l : List Int) (used : Nat) (w : World) (h : PicksIs w fp b l used) :
    Calls Tryd.prog 18 #[.pointer (some ⟨b, 0, none⟩)] w fun e w' => e = .returned (.int .i64 used) ∧ w = w' := by
  obtain ⟨⟨lv, hc, _⟩, _⟩ := h
  have c1 := hc.cell 1 _ rfl
  clear hc
  go_enter Tryd.func18, Tryd.ntmps18
  go_wp2
  go_ret
  exact ⟨rfl, rfl⟩

/-- What is picked; how many are used then. -/
def pickOf (l : List Int) (used : Nat) (n : Int) : Int := if used = l.length then 0 else nth l used % n
def pickUp (l : List Int) (used : Nat) : Nat := if used = l.length then used else used + 1

theorem PicksIs.only {w w' : World} {fp : List Nat} {b used : Nat} {l : List Int} {S : List Nat} (h : PicksIs w fp b l used) (ho : Only S w w') (hS : ∀ x ∈ fp, x ∉ S) : PicksIs w' fp b l used := by
  obtain ⟨⟨lv, hc, hi, hb, rfl⟩, h2, h3, h4⟩ := h
  exact ⟨⟨lv, hc.only ho (hS b (by simp)), hi.only ho (fun g hg => hS g (by simp [own, hg])), hb, rfl⟩, h2, h3, h4⟩

theorem picks_next_done (fp : List Nat) (b : Nat) (l : List Int) (used : Nat) (n : Int) (w : World) (h : PicksIs w fp b l used) (hu : used = l.length) :
    Calls Tryd.prog 60 #[.pointer (some ⟨b, 0, none⟩), .int .i64 n] w fun e w' => e = .returned (.int .i64 0) ∧ ∃ m, w' = w.drewN m := by
  obtain ⟨⟨lv, hc, hi, hb, rfl⟩, h2, h3, h4⟩ := h
  have c0 := hc.cell 0 _ rfl
  have c1 := hc.cell 1 _ rfl
  obtain ⟨a, c, rfl, _⟩ := hi.opt
  obtain ⟨k, hk⟩ : ∃ k, l.length = k := ⟨_, rfl⟩
  rw [hk] at c0 hu h4
  subst hu
  clear hc hi hb h2 h3 hk
  go_enter Tryd.func60, Tryd.ntmps60
  go_wp2_with fail
  go_quiet (fail)
  go_wp2
  go_ret
  exact ⟨rfl, _, rfl⟩

set_option maxHeartbeats 1000000 in
theorem picks_next_some (fp : List Nat) (b : Nat) (l : List Int) (used : Nat) (n : Int) (w : World) (h : PicksIs w fp b l used) (hu : used < l.length) (hn : 1 ≤ n) (hn2 : n ≤ 1000) :
    Calls Tryd.prog 60 #[.pointer (some ⟨b, 0, none⟩), .int .i64 n] w fun e w' => e = .returned (.int .i64 (nth l used % n)) ∧ PicksIs w' fp b l (used + 1) ∧ Only [b] w w' := by
  obtain ⟨⟨lv, hc, hi, hb, rfl⟩, h2, h3, h4⟩ := h
  have c0 := hc.cell 0 _ rfl
  have c1 := hc.cell 1 _ rfl
  have f1 := hc.free 1 _ rfl
  obtain ⟨a, c, rfl, hcell⟩ := hi.opt
  obtain ⟨g, rfl, hz0⟩ := hcell used hu
  have hbg : b ≠ g := fun e => hb (by subst e; simp [own, Value.ownBlock])
  have hz := h2 (nth l used) (by simp [nth, hu])
  obtain ⟨z, hze⟩ : ∃ z, nth l used = z := ⟨_, rfl⟩
  rw [hze] at hz hz0 ⊢
  have hP : Hid (∀ m, PicksIs ((w.drewN m).setCell ⟨b, 1, none⟩ (.int .i64 ((used : Int) + 1))) (b :: own (.slice (some ⟨g, 0, none⟩) l.length c)) b l (used + 1)) := by
    show ∀ m, _
    intro m
    have hset : Cells ((w.drewN m).setCell ⟨b, 1, none⟩ (.int .i64 ((used : Int) + 1))) b [.slice (some ⟨g, 0, none⟩) l.length c, .int .i64 ((used + 1 : Nat) : Int)] := (hc.drewN m).set 1 _
    have hi2 := (hi.drewN m).only (w' := (w.drewN m).setCell ⟨b, 1, none⟩ (.int .i64 ((used : Int) + 1))) ((Only.refl [b] (w.drewN m)).setCell (by simp) _) (fun g9 h9 hx => by simp [Value.ownBlock] at h9 hx; omega)
    exact ⟨⟨_, hset, hi2, hb, rfl⟩, h2, hu, h4⟩
  have hO : Hid (∀ m, Only [b] w ((w.drewN m).setCell ⟨b, 1, none⟩ (.int .i64 ((used : Int) + 1)))) := fun m => ((Only.refl [b] w).drewN m).setCell (by simp) _
  obtain ⟨k, hk⟩ : ∃ k, l.length = k := ⟨_, rfl⟩
  have hK := Lib.hid hk
  rw [hk] at c0 hu h4 ⊢
  have hneq : ((used : Int) == (k : Int)) = false := by simp; omega
  have hwr : IntKind.i64.wrap ((used : Int) + 1 - 1) = (used : Int) := by rw [IntWalk.i64_in _ (by omega)]; omega
  have hwr1 : IntKind.i64.wrap ((used : Int) + 1) = (used : Int) + 1 := IntWalk.i64_in _ (by omega)
  have htm : z.tmod n = z % n := Int.tmod_eq_emod_of_nonneg hz.1
  have hmod : 0 ≤ z % n ∧ z % n ≤ 1000 := ⟨Int.emod_nonneg _ (by omega), by have := Int.emod_lt_of_pos z (show 0 < n by omega); omega⟩
  have hwr2 : IntKind.i64.wrap (z % n) = z % n := IntWalk.i64_in _ (by omega)
  have hn0 : (n == 0) = false := by simp; omega
  clear hc hi hcell h2 h3 hk hze hb
  go_enter Tryd.func60, Tryd.ntmps60
  go_wp2_with fail
  go_quiet (fail)
  go_wp2_with fail
  go_quiet (fail)
  go_wp2
  go_ret
  have hP9 := fun m => hP.out m
  rw [hK.out] at hP9
  exact ⟨rfl, (hP9 _).only (S := []) ((Only.refl [] _).drewN _) (by simp), (hO.out _).drewN _⟩

theorem pickOf_range (l : List Int) (used : Nat) (n : Int) (_hl : ∀ x ∈ l, 0 ≤ x ∧ x ≤ 9223372036854775807) (hn : 1 ≤ n) : 0 ≤ pickOf l used n ∧ pickOf l used n < n := by
  unfold pickOf
  split
  · omega
  · exact ⟨Int.emod_nonneg _ (by omega), Int.emod_lt_of_pos _ (by omega)⟩

theorem Picks.next (fp : List Nat) (b : Nat) (l : List Int) (used : Nat) (n : Int) (w : World) (h : PicksIs w fp b l used) (hn : 1 ≤ n) (hn2 : n ≤ 1000) :
    Calls Tryd.prog 60 #[.pointer (some ⟨b, 0, none⟩), .int .i64 n] w fun e w' => e = .returned (.int .i64 (pickOf l used n)) ∧ PicksIs w' fp b l (pickUp l used) ∧ Only [b] w w' := by
  by_cases hu : used = l.length
  · refine (picks_next_done fp b l used n w h hu).mono fun e w' ⟨he, m, hw⟩ => ⟨by rw [he]; simp [pickOf, hu], ?_, ?_⟩
    · subst hw
      rw [show pickUp l used = used by simp [pickUp, hu]]
      exact h.only (S := []) ((Only.refl [] _).drewN _) (by simp)
    · subst hw; exact (Only.refl _ _).drewN m
  · have := h.le
    refine (picks_next_some fp b l used n w h (by omega) hn hn2).mono fun e w' ⟨he, h2, h3⟩ => ⟨by rw [he]; simp [pickOf, hu], ?_, h3⟩
    rw [show pickUp l used = used + 1 by simp [pickUp, hu]]
    exact h2

theorem Picks.Next_no (b : Nat) (n : Int) (w : World) (h : n < 1 ∨ 400 < n) :
    Calls Tryd.prog 17 #[.pointer (some ⟨b, 0, none⟩), .int .i64 n] w fun e w' => e = .returned (.tuple #[.int .i64 0, .iface 95 (.int .i64 1)]) ∧ w = w' := by
  rcases h with h | h
  · go_enter Tryd.func17, Tryd.ntmps17
    go_wp2
    go_ret2
    exact ⟨rfl, rfl⟩
  · have h1 : 1 ≤ n := by omega
    go_enter Tryd.func17, Tryd.ntmps17
    go_wp2
    go_ret2
    exact ⟨rfl, rfl⟩

theorem Picks.Next (fp : List Nat) (b : Nat) (l : List Int) (used : Nat) (n : Int) (w : World) (h : PicksIs w fp b l used) (hn : 1 ≤ n) (hn2 : n ≤ 400) :
    Calls Tryd.prog 17 #[.pointer (some ⟨b, 0, none⟩), .int .i64 n] w fun e w' => e = .returned (.tuple #[.int .i64 (pickOf l used n), .nilIface]) ∧ PicksIs w' fp b l (pickUp l used) ∧ Only [b] w w' := by
  go_enter Tryd.func17, Tryd.ntmps17
  go_wp2_with fail
  refine (Picks.next fp b l used n w h hn (by omega)).mono ?_
  rintro e w1 ⟨rfl, h2, h3⟩
  go_wp2
  go_ret2
  exact ⟨rfl, h2, h3⟩

/-! ### What is shuffled -/
def swapAt (xs : List Int) (i k : Nat) : List Int := (xs.set i (nth xs k)).set k (nth xs i)
theorem swapAt_len (xs : List Int) (i k : Nat) : (swapAt xs i k).length = xs.length := by simp [swapAt]
theorem swapAt_nth (xs : List Int) (i k m : Nat) (hi : i < xs.length) (hk : k < xs.length) : nth (swapAt xs i k) m = if m = k then nth xs i else if m = i then nth xs k else nth xs m := by
  unfold swapAt nth
  by_cases e : m = k
  · subst e
    rw [List.getElem?_set_self (by simpa using hk)]; simp
  · rw [List.getElem?_set_ne (Ne.symm e), if_neg e]
    by_cases e2 : m = i
    · subst e2
      rw [List.getElem?_set_self hi]; simp
    · rw [List.getElem?_set_ne (Ne.symm e2), if_neg e2]
theorem swapAt_comm (xs : List Int) (i k : Nat) : (xs.set k (nth xs i)).set i (nth xs k) = swapAt xs i k := by
  unfold swapAt
  by_cases e : i = k
  · subst e; rfl
  · rw [List.set_comm _ _ (Ne.symm e)]

/-- From place i down to the second. -/
def shufTo (l : List Int) : Nat → List Int × Nat → List Int × Nat
  | 0, p => p
  | i + 1, p => shufTo l i (swapAt p.1 (i + 1) (pickOf l p.2 ((i : Int) + 2)).toNat, pickUp l p.2)

theorem pickUp_le (l : List Int) (used : Nat) (h : used ≤ l.length) : pickUp l used ≤ l.length := by
  unfold pickUp; split <;> omega

/-- n numbers, each below n, each once. -/
def Each (n : Nat) (xs : List Int) : Prop := xs.length = n ∧ (∀ i, i < n → ∃ j : Nat, j < n ∧ nth xs i = (j : Int)) ∧ ∀ i j, i < n → j < n → nth xs i = nth xs j → i = j

theorem Each.swap {n : Nat} {xs : List Int} (h : Each n xs) (i k : Nat) (hi : i < n) (hk : k < n) : Each n (swapAt xs i k) := by
  obtain ⟨h1, h2, h3⟩ := h
  have key : ∀ m, nth (swapAt xs i k) m = nth xs (if m = k then i else if m = i then k else m) := by
    intro m
    rw [swapAt_nth _ _ _ _ (by omega) (by omega)]
    split
    · rfl
    · split <;> rfl
  refine ⟨by rw [swapAt_len]; exact h1, fun m hm => ?_, fun a b ha hb hab => ?_⟩
  · rw [key]
    refine h2 _ ?_
    split
    · exact hi
    · split <;> omega
  · rw [key, key] at hab
    have := h3 _ _ (by split; exact hi; split <;> omega) (by split; exact hi; split <;> omega) hab
    repeat' split at this
    all_goals omega

theorem shufTo_each (l : List Int) (hl : ∀ x ∈ l, 0 ≤ x ∧ x ≤ 9223372036854775807) (n i : Nat) (p : List Int × Nat) (hi : i < n) (h : Each n p.1) : Each n (shufTo l i p).1 := by
  induction i generalizing p with
  | zero => exact h
  | succ i ih =>
    unfold shufTo
    refine ih _ (by omega) (h.swap _ _ hi ?_)
    have := pickOf_range l p.2 ((i : Int) + 2) hl (by omega)
    omega

theorem shufTo_used (l : List Int) (i : Nat) (p : List Int × Nat) (h : p.2 ≤ l.length) : (shufTo l i p).2 ≤ l.length := by
  induction i generalizing p with
  | zero => exact h
  | succ i ih => unfold shufTo; exact ih _ (pickUp_le l p.2 h)

def numsTo (n : Nat) : List Int := (List.range n).map fun (j : Nat) => (j : Int)
theorem numsTo_len (n : Nat) : (numsTo n).length = n := by simp [numsTo]
theorem numsTo_push (n : Nat) : numsTo n ++ [(n : Int)] = numsTo (n + 1) := by simp [numsTo, List.range_succ]
theorem numsTo_nth (n i : Nat) (h : i < n) : nth (numsTo n) i = (i : Int) := by simp [nth, numsTo, h]
theorem numsTo_each (n : Nat) : Each n (numsTo n) :=
  ⟨numsTo_len n, fun i hi => ⟨i, hi, numsTo_nth n i hi⟩, fun i j hi hj h => by rw [numsTo_nth n i hi, numsTo_nth n j hj] at h; omega⟩

/-- All of them shuffled; how many are used then. -/
def shuf (l : List Int) (used n : Nat) : List Int × Nat := shufTo l (n - 1) (numsTo n, used)

end Go.Proofs.YtmjicogmgkeilaaDoor
