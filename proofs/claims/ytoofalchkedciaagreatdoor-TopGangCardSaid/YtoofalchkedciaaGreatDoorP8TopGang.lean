/-
  Contract of slices.Clone at []int.
  make([]int, n) and make([]bool, n): an equation for the walk, and what the new slice holds.
  Plain facts on numbers that are marked: which are not marked yet, in order; and an array of bools in memory.
  make([]bool, n).
  Slices with an offset, and room: several numbers appended.
  Contract of plan.reaches: does a task need itself?
  Contracts of plan.Check and plan.Right.
  Contracts of slices.Index and slices.Contains at []int.
-/
import Derived.Test.YtoofalchkedciaaGreatDoorP2TopGang
import Derived.Test.YtoofalchkedciaaGreatDoorP5TopGang
import Derived.Deep.OwnRows
import Derived.Test.YtoofalchkedciaaGreatDoorP1TopGang
import Derived.Test.YtoofalchkedciaaGreatDoorP7TopGang
namespace Go.Proofs.YtoofalchkedciaaGreatDoor
open Go.RowKit

set_option maxHeartbeats 400000 in
theorem clone_ints (v : Value) (l : List Int) (w : World) (h : Reads w v l) (hl : l.length ≤ 1000000000) :
    Calls Tryz.prog 101 #[v] w fun e w' => ∃ v', e = .returned v' ∧ Ints w' w.heap.size v' l ∧ Only [] w w' := by
  have hnil := fun (a : Option Addr) (n c : Nat) (w : World) => Lib.run_eql_slice_nil (P := Tryz.prog) w 31 3 a n c 0 0 Tryz.underlying31
  have hh := h
  rcases h with ⟨rfl, rfl | ⟨y, cap, rfl, hcap⟩⟩ | ⟨h0, b, off, cap, rfl, h1, h2, h3⟩
  · go_enter Tryz.func101, Tryz.ntmps101
    go_wp2
    go_ret
    exact ⟨_, rfl, Ints.nil _ _, Only.refl _ _⟩
  · have ho := (Only.refl [] w).alloc (.cells #[] 3)
    have hown : Ints (w.alloc (.cells #[] 3)) w.heap.size (.slice (some ⟨w.heap.size, 0, none⟩) 0 0) [] := ⟨by simp, .inr ⟨w.heap.size, 0, #[], rfl, Nat.le_refl _, heap_alloc_new _ _, Nat.le_refl _, by unfold maxLen; omega, rfl, rfl⟩⟩
    have hh' := hh.same ho
    go_enter Tryz.func101, Tryz.ntmps101
    go_wp2_with (at_builtin; refine wpList_append_reads rfl (.tmp 5) (.tmp 6) rfl _ w.heap.size _ [] _ _ hown hh' (by simp) (by simp) rfl rfl (Only.refl _ _) ?_; intro v' w' hI hO _)
    have ho2 := ho.pushed hown (Nat.le_refl _) hO
    clear hown hh' hO hnil
    go_wp2
    go_ret
    exact ⟨_, rfl, hI, ho2⟩
  · have ho := (Only.refl [] w).alloc (.cells #[] 3)
    have hown : Ints (w.alloc (.cells #[] 3)) w.heap.size (.slice (some ⟨w.heap.size, 0, none⟩) 0 0) [] := ⟨by simp, .inr ⟨w.heap.size, 0, #[], rfl, Nat.le_refl _, heap_alloc_new _ _, Nat.le_refl _, by unfold maxLen; omega, rfl, rfl⟩⟩
    have hh' := hh.same ho
    clear hh h3
    go_enter Tryz.func101, Tryz.ntmps101
    go_wp2_with (at_builtin; refine wpList_append_reads rfl (.tmp 5) (.tmp 6) rfl _ w.heap.size _ [] _ _ hown hh' (by simpa using hl) (by simp) rfl rfl (Only.refl _ _) ?_; intro v' w' hI hO _)
    have ho2 := ho.pushed hown (Nat.le_refl _) hO
    clear hown hh' hO hnil
    go_wp2
    go_ret
    exact ⟨_, rfl, hI, ho2⟩

end Go.Proofs.YtoofalchkedciaaGreatDoor

namespace Go.Proofs.YtoofalchkedciaaGreatDoor
open Go.RowKit Go.Deep

theorem make_ints (n : Nat) (hn : n ≤ 1000000) (w : World) :
    (Instr.makeSlice 31 (.int .i64 (n : Int)) (.int .i64 (n : Int))).run Tryz.prog w = .ok (.slice (some ⟨w.heap.size, 0, none⟩) n n) (w.alloc (.cells (madeCells #[.int .i64 0] n) 3)) :=
  run_make_row' (P := Tryz.prog) 31 3 (.int .i64 0) 8 Tryz.underlying31 (by kernel_rfl) rfl .i64 .i64 n (by omega) (by omega) w

theorem made_size (z : Value) (n : Nat) : (madeCells #[z] n).size = n := by
  simp [madeCells]

theorem made_list (z : Value) (n : Nat) : (madeCells #[z] n).toList = List.replicate n z := by
  simp [madeCells, Nat.mod_one, List.map_const']

theorem made_ints (w : World) (n : Nat) (hn : n ≤ 1000000) : Ints (w.alloc (.cells (madeCells #[.int .i64 0] n) 3)) w.heap.size (.slice (some ⟨w.heap.size, 0, none⟩) n n) (List.replicate n 0) := by
  refine ⟨by simp, .inr ⟨w.heap.size, n, madeCells #[.int .i64 0] n, by simp, Nat.le_refl _, heap_alloc_new _ _, by simp, by unfold maxLen; omega, by rw [made_size]; simp, ?_⟩⟩
  rw [made_list]
  simp

end Go.Proofs.YtoofalchkedciaaGreatDoor

namespace Go.Proofs.YtoofalchkedciaaGreatDoor
open Go.RowKit

/-- The numbers below n that are not marked, rising. -/
def U (n : Nat) (f : Nat → Bool) : List Int := ((List.range n).filter fun j => !f j).map fun (j : Nat) => (j : Int)
/-- Those of a list are marked, too. -/
def mark (f : Nat → Bool) (out : List Int) : Nat → Bool := fun j => f j || decide ((j : Int) ∈ out)

theorem U_zero (f : Nat → Bool) : U 0 f = [] := rfl
theorem mark_nil (f : Nat → Bool) : mark f [] = f := by funext j; simp [mark]

theorem mem_U {n : Nat} {f : Nat → Bool} {x : Int} : x ∈ U n f ↔ ∃ j, j < n ∧ f j = false ∧ x = j := by
  unfold U
  simp only [List.mem_map, List.mem_filter, List.mem_range, Bool.not_eq_true']
  constructor
  · rintro ⟨j, ⟨h1, h2⟩, rfl⟩; exact ⟨j, h1, h2, rfl⟩
  · rintro ⟨j, h1, h2, rfl⟩; exact ⟨j, ⟨h1, h2⟩, rfl⟩

theorem U_succ (n : Nat) (f : Nat → Bool) : U (n + 1) f = if f n then U n f else U n f ++ [(n : Int)] := by
  unfold U
  rw [List.range_succ, List.filter_append, List.map_append]
  cases h : f n <;> simp [h]

theorem U_lt (n : Nat) (f : Nat → Bool) : (U n f).Pairwise (· < ·) := by
  unfold U
  rw [List.pairwise_map]
  refine List.Pairwise.imp ?_ (List.Pairwise.filter _ (List.pairwise_lt_range (n := n)))
  intro a b h; omega

theorem U_mark (n : Nat) (f : Nat → Bool) (out : List Int) : U n (mark f out) = (U n f).filter fun x => decide (x ∉ out) := by
  unfold U mark
  rw [List.filter_map, List.filter_filter]
  congr 1
  refine List.filter_congr fun j _ => ?_
  simp [Function.comp, Bool.and_comm]

theorem filter_not_left (A B : List Int) (h : (A ++ B).Pairwise (· < ·)) : (A ++ B).filter (fun x => decide (x ∉ A)) = B := by
  rw [List.filter_append]
  have h1 : A.filter (fun x => decide (x ∉ A)) = [] := by simp [List.filter_eq_nil_iff]
  have h2 : B.filter (fun x => decide (x ∉ A)) = B := by
    rw [List.filter_eq_self]
    intro x hx
    simp only [decide_eq_true_eq]
    intro hA
    have := (List.pairwise_append.1 h).2.2 x hA x hx
    omega
  rw [h1, h2, List.nil_append]

theorem filter_not_right (A B : List Int) (h : (A ++ B).Pairwise (· < ·)) : (A ++ B).filter (fun x => decide (x ∉ B)) = A := by
  rw [List.filter_append]
  have h1 : B.filter (fun x => decide (x ∉ B)) = [] := by simp [List.filter_eq_nil_iff]
  have h2 : A.filter (fun x => decide (x ∉ B)) = A := by
    rw [List.filter_eq_self]
    intro x hx
    simp only [decide_eq_true_eq]
    intro hB
    have := (List.pairwise_append.1 h).2.2 x hx x hB
    omega
  rw [h1, h2, List.append_nil]

/-- What goes from the front. -/
theorem U_front {n : Nat} {f : Nat → Bool} {out R : List Int} (h : U n f = out ++ R) : U n (mark f out) = R := by
  rw [U_mark, h]
  exact filter_not_left out R (h ▸ U_lt n f)
/-- What goes from the end. -/
theorem U_back {n : Nat} {f : Nat → Bool} {out R : List Int} (h : U n f = R ++ out) : U n (mark f out) = R := by
  rw [U_mark, h]
  exact filter_not_right R out (h ▸ U_lt n f)

theorem nth_mem {l : List Int} {k : Nat} (h : k < l.length) : nth l k ∈ l := by
  simp [nth, h]

theorem pairwise_nth {l : List Int} (h : l.Pairwise (· < ·)) {i j : Nat} (hij : i < j) (hj : j < l.length) : nth l i < nth l j := by
  have := (List.pairwise_iff_getElem.1 h) i j (by omega) hj hij
  simpa [nth, hj, show i < l.length by omega] using this

/-- One more of a list marked. -/
theorem mark_step (f : Nat → Bool) (out : List Int) (k j : Nat) (hk : k < out.length) (hj : nth out k = j) :
    (fun i => if i = j then true else mark f (out.take k) i) = mark f (out.take (k + 1)) := by
  funext i
  have e : out.take (k + 1) = out.take k ++ [nth out k] := by
    rw [List.take_succ_eq_append_getElem hk]; simp [nth, hk]
  unfold mark
  rw [e, hj]
  by_cases h : i = j
  · subst h; simp
  · have : ¬ ((i : Int) = (j : Int)) := by omega
    simp [h, this]

/-- The k-th of a rising list is not marked yet when those ahead of it are. -/
theorem mark_fresh {n : Nat} {f : Nat → Bool} {out : List Int} (hsub : ∀ x ∈ out, x ∈ U n f) (hp : out.Pairwise (· < ·)) {k : Nat} (hk : k < out.length) :
    ∃ j : Nat, nth out k = j ∧ j < n ∧ mark f (out.take k) j = false := by
  obtain ⟨j, h1, h2, h3⟩ := mem_U.1 (hsub _ (nth_mem hk))
  refine ⟨j, h3, h1, ?_⟩
  unfold mark
  rw [h2, Bool.false_or, decide_eq_false_iff_not, ← h3]
  intro hm
  obtain ⟨i, hi, e⟩ := List.getElem_of_mem hm
  have hi' : i < k := by simp at hi; omega
  have := pairwise_nth hp hi' hk
  have e2 : nth out i = nth out k := by
    rw [List.getElem_take] at e
    rw [← e]
    simp [nth, show i < out.length by omega]
  omega

/-- An array of bools in memory. -/
def Bools (w : World) (A N : Nat) (f : Nat → Bool) : Prop := ∀ i, i < N → w.cell? ⟨A, i, none⟩ = some (.bool (f i)) ∧ w.frozen? ⟨A, i, none⟩ = false

theorem Bools.only {w w' : World} {A N : Nat} {f : Nat → Bool} {S : List Nat} (h : Bools w A N f) (ho : Only S w w') (hA : A ∉ S) : Bools w' A N f := fun i hi => by
  obtain ⟨h1, h2⟩ := h i hi
  have hl := cell_lt h1
  exact ⟨(ho.cell (p := ⟨A, i, none⟩) hl hA).trans h1, (ho.frozen (p := ⟨A, i, none⟩) hl hA).trans h2⟩

theorem Bools.set {w : World} {A N : Nat} {f : Nat → Bool} (h : Bools w A N f) (j : Nat) (x : Bool) :
    Bools (w.setCell ⟨A, j, none⟩ (.bool x)) A N (fun i => if i = j then x else f i) := fun i hi => by
  obtain ⟨h1, h2⟩ := h i hi
  refine ⟨?_, by rw [World.frozen?_setCell]; exact h2⟩
  by_cases e : i = j
  · subst e
    rw [World.cell?_setCell_same _ _ _ h1]
    simp
  · rw [World.cell?_setCell_other _ _ _ _ (fun he => e (congrArg Addr.off he).symm), h1]
    simp [e]

theorem Bools.new (w : World) (cs : Array Value) (t : TypeId) (N : Nat) (h : ∀ i, i < N → cs[i]? = some (.bool false)) : Bools (w.alloc (.cells cs t)) w.heap.size N (fun _ => false) := fun i hi => by
  exact ⟨by rw [World.cell?_alloc_new]; exact h i hi, World.frozen?_alloc_at _ _ _ _ rfl⟩

end Go.Proofs.YtoofalchkedciaaGreatDoor

namespace Go.Proofs.YtoofalchkedciaaGreatDoor
open Go.RowKit Go.Deep

theorem make_bools (n : Nat) (hn : n ≤ 1000000) (w : World) :
    (Instr.makeSlice 97 (.int .i64 (n : Int)) (.int .i64 (n : Int))).run Tryz.prog w = .ok (.slice (some ⟨w.heap.size, 0, none⟩) n n) (w.alloc (.cells (madeCells #[.bool false] n) 4)) :=
  run_make_row' (P := Tryz.prog) 97 4 (.bool false) 1 Tryz.underlying97 (by kernel_rfl) rfl .i64 .i64 n (by omega) (by omega) w

theorem made_bools (w : World) (n : Nat) : Bools (w.alloc (.cells (madeCells #[.bool false] n) 4)) w.heap.size n (fun _ => false) :=
  Bools.new _ _ _ _ fun i hi => by
    have e := made_list (.bool false) n
    rw [← Array.getElem?_toList, e]
    simp [hi]

end Go.Proofs.YtoofalchkedciaaGreatDoor

namespace Go.Proofs.YtoofalchkedciaaGreatDoor
open Go.RowKit

theorem cells_setCells {w : World} {b off : Nat} (vs : List Value) (hv : ∀ j, j < vs.length → (w.cell? ⟨b, off + j, none⟩).isSome = true) :
    (∀ j u, vs[j]? = some u → (w.setCells b off vs).cell? ⟨b, off + j, none⟩ = some u) ∧
    (∀ i, (i < off ∨ off + vs.length ≤ i) → (w.setCells b off vs).cell? ⟨b, i, none⟩ = w.cell? ⟨b, i, none⟩) ∧ Only [b] w (w.setCells b off vs) ∧ (∀ p, (w.setCells b off vs).frozen? p = w.frozen? p) := by
  induction vs generalizing w off with
  | nil => exact ⟨fun j u h => by simp at h, fun i _ => rfl, Only.refl _ _, fun _ => rfl⟩
  | cons v vs ih =>
    have hstep : w.setCells b off (v :: vs) = (w.setCell ⟨b, off, none⟩ v).setCells b (off + 1) vs := rfl
    have h0 : ∃ u, w.cell? ⟨b, off, none⟩ = some u := Option.isSome_iff_exists.1 (by simpa using hv 0 (by simp))
    obtain ⟨u0, hu0⟩ := h0
    have hother : ∀ i, i ≠ off → (w.setCell ⟨b, off, none⟩ v).cell? ⟨b, i, none⟩ = w.cell? ⟨b, i, none⟩ := fun i hi =>
      World.cell?_setCell_other _ _ _ _ (fun he => hi (congrArg Addr.off he).symm)
    obtain ⟨k1, k2, k3, k4⟩ := ih (w := w.setCell ⟨b, off, none⟩ v) (off := off + 1) (fun j hj => by
      rw [hother _ (by omega)]
      have := hv (j + 1) (by simpa using hj)
      rwa [show off + 1 + j = off + (j + 1) by omega])
    rw [hstep]
    refine ⟨fun j u hj => ?_, fun i hi => ?_, ((Only.refl [b] w).setCell (by simp) _).trans k3 (by simp), fun p => by rw [k4, World.frozen?_setCell]⟩
    · rcases j with _ | j
      · simp at hj
        subst hj
        rw [show off + 0 = off from rfl, k2 off (.inl (by omega))]
        exact World.cell?_setCell_same _ _ _ hu0
      · have := k1 j u (by simpa using hj)
        rwa [show off + 1 + j = off + (j + 1) by omega] at this
    · rw [k2 i (by simp only [List.length_cons] at hi; omega)]
      exact hother i (by simp only [List.length_cons] at hi; omega)

/-- Several numbers appended, in a plain region. -/
theorem wpList_append_sl {ops : Array Oper} {rest : List Oper} {o : Oper} {a : Act} {w : World} {Q : Exit → Act → World → Prop} (hgd : o.guard = none) (s x : Operand)
    (ho : o.op = .call { callee := .builtin .append, args := #[s, x], argTypes := #[31, 31] })
    (W : World) (v : Value) (xs : List Int) (u : Value) (ys : List Int) (hown : Sl W v xs) (hu : Reads W u ys) (hlen : xs.length + ys.length ≤ 1000000000)
    (hs : a.eval s = v) (hx : a.eval x = u) (hW : Only [] W w)
    (h : ∀ v' w', Sl w' v' (xs ++ ys) → Only (own v) W w' → Kin W (own v) (own v') →
      wpList Tryz.prog ops Q rest (a.put o.dst v') w') : wpList Tryz.prog ops Q (o :: rest) a w := by
  obtain ⟨i0, hi, hz0, hz1, hz2⟩ := info_int
  have hsz := hW.size
  have hown' := hown.only hW (by simp)
  rcases hown' with ⟨rfl, rfl⟩ | ⟨g, off, cap, rfl, h1, h2, h3, h4, h5⟩
  · refine wpList_append_reads hgd s x ho W 0 _ [] u ys (Ints.nil _ _) hu (by simpa using hlen) (Nat.zero_le _) hs hx hW ?_
    intro v' w' hI hO hK
    exact h v' w' (by simpa using hI.sl) hO hK
  · have holds : ∀ j u, (xs.map (Value.int .i64))[j]? = some u → w.cell? ⟨g, off + j, none⟩ = some u := by
      intro j u hj
      have hjl : j < xs.length := by
        rcases Nat.lt_or_ge j xs.length with h | h
        · exact h
        · rw [List.getElem?_eq_none (by simpa using h)] at hj; cases hj
      rw [h4 j hjl]
      rw [List.getElem?_map, List.getElem?_eq_getElem hjl] at hj
      simp at hj
      rw [← hj]
      simp [nth, hjl]
    have hone : ∀ u ∈ ys.map (Value.int .i64), u.oneCell' = true := by intro u hu; simp at hu; obtain ⟨n, _, rfl⟩ := hu; rfl
    have key : ∀ (ad : Addr) (c : Nat), u = .slice (some ad) ys.length c → (∀ j z, (ys.map (Value.int .i64))[j]? = some z → w.cell? (ad.add j) = some z) → wpList Tryz.prog ops Q (o :: rest) a w := by
      intro ad c hue hnews
      refine wpList_append_arg w hgd s x 31 ho 3 i0 (.int .i64 0) 1 8 Tryz.underlying31 hi hz0 hz1 hz2 rfl (by decide) g off xs.length cap (xs.map (Value.int .i64)) hs (by simp) holds ad ys.length c (ys.map (Value.int .i64)) (hx.trans hue) (by simp) hnews hone ?_ (by unfold maxLen; omega) (by omega) ?_ ?_
      · intro hr j hj
        have hj' : j < ys.length := by simpa using hj
        have := h5 (xs.length + j) (by omega)
        rw [Nat.mul_one, Nat.add_assoc]
        exact this
      · intro hr
        rw [Nat.mul_one]
        have hsp : ∀ j, j < (ys.map (Value.int .i64)).length → (w.cell? ⟨g, off + xs.length + j, none⟩).isSome = true := by
          intro j hj
          have hj' : j < ys.length := by simpa using hj
          rw [Nat.add_assoc]
          exact (h5 (xs.length + j) (by omega)).1
        obtain ⟨k1, k2, k3, k4⟩ := cells_setCells (w := w) (b := g) (off := off + xs.length) (ys.map (Value.int .i64)) hsp
        have hl : (xs ++ ys).length = xs.length + ys.length := by simp
        refine h _ _ (.inr ⟨g, off, cap, by rw [hl], by omega, h2, Nat.lt_of_lt_of_le h3 k3.size, fun i hi => ?_, fun i hi => ?_⟩) ((hW.mono (by simp)).trans k3 (by simp [own, Value.ownBlock])) (fun y hy => .inl (by simpa [own, Value.ownBlock] using hy))
        · rcases Nat.lt_or_ge i xs.length with hlt | hge
          · rw [k2 _ (.inl (by omega)), h4 i hlt]
            simp [nth, List.getElem?_append_left hlt, hlt]
          · have := k1 (i - xs.length) (.int .i64 (nth ys (i - xs.length))) (by
              have : i - xs.length < ys.length := by omega
              simp [nth, this])
            rw [show off + xs.length + (i - xs.length) = off + i by omega] at this
            rw [this]
            simp [nth, List.getElem?_append_right hge]
        · rw [k4]
          refine ⟨?_, (h5 i hi).2⟩
          by_cases hin : xs.length ≤ i ∧ i < xs.length + ys.length
          · have := k1 (i - xs.length) (.int .i64 (nth ys (i - xs.length))) (by
              have : i - xs.length < ys.length := by omega
              simp [nth, this])
            rw [show off + xs.length + (i - xs.length) = off + i by omega] at this
            rw [this]; rfl
          · rw [k2 _ (by simp; omega)]
            exact (h5 i hi).1
      · intro hgrow v' w' k1 k2
        have hI : Ints w' w.heap.size v' (xs ++ ys) := by unfold Ints; simpa using k1
        refine h v' w' hI.sl ((hW.mono (by simp)).grown k2 (by simp)) (fun y hy => .inr ?_)
        have := (hI.own_lt y hy).1
        omega
    rcases hu with ⟨rfl, rfl | ⟨y, c, rfl, hcap⟩⟩ | ⟨h0, b, o2, c, rfl, m1, m2, m3⟩
    · refine wpList_plain hgd fun K hK => ?_
      have hrun : (Builtin.append_ #[31, 31] o.type #[.slice (some ⟨g, off, none⟩) xs.length cap, .slice none 0 0]).run Tryz.prog w = .ok (.slice (some ⟨g, off, none⟩) xs.length cap) w := by
        simp [Builtin.append_, run_underlying Tryz.underlying31, sizeOf, typeInfo, hi, Builtin.lenOf, Builtin.firstCells, h1, storeCells]
      unfold Oper.wp
      simp [execOp, ho, resolve, invoke, builtin, hs, hx, hrun, Result.andThen]
      refine hK _ _ (h _ _ (by rw [List.append_nil]; exact .inr ⟨g, off, cap, rfl, h1, h2, h3, h4, h5⟩) (hW.mono (by simp)) (Kin.refl _ _))
    · exact key y c rfl (fun j z hj => by simp at hj)
    · refine key ⟨b, o2, none⟩ c rfl (fun j z hj => ?_)
      have hjl : j < ys.length := by
        rcases Nat.lt_or_ge j ys.length with h | h
        · exact h
        · rw [List.getElem?_eq_none (by simpa using h)] at hj; cases hj
      rw [List.getElem?_map, List.getElem?_eq_getElem hjl] at hj
      simp at hj
      have e2 : ({ block := b, off := o2, spot := none } : Addr).add j = ⟨b, o2 + j, none⟩ := by
        unfold Addr.add
        split
        · rename_i h; subst h; rfl
        · rfl
      rw [e2, hW.cell (p := ⟨b, o2 + j, none⟩) (cell_lt (m3 j hjl)) (by simp), m3 j hjl, ← hj]
      simp [nth, hjl]

/-- .. to a list that is not empty: the new value's form. N: its length. -/
theorem wpList_append_sl_ne {ops : Array Oper} {rest : List Oper} {o : Oper} {a : Act} {w : World} {Q : Exit → Act → World → Prop} (hgd : o.guard = none) (s x : Operand)
    (ho : o.op = .call { callee := .builtin .append, args := #[s, x], argTypes := #[31, 31] })
    (W : World) (v : Value) (xs : List Int) (u : Value) (ys : List Int) (N : Nat) (hown : Sl W v xs) (hu : Reads W u ys) (hlen : xs.length + ys.length ≤ 1000000000) (h0 : xs ≠ []) (hN : (xs ++ ys).length = N)
    (hs : a.eval s = v) (hx : a.eval x = u) (hW : Only [] W w)
    (h : ∀ g off cap w', Sl w' (.slice (some ⟨g, off, none⟩) N cap) (xs ++ ys) → N ≤ cap → cap ≤ maxLen → Only (own v) W w' → Kin W (own v) (own (.slice (some ⟨g, off, none⟩) N cap)) →
      wpList Tryz.prog ops Q rest (a.put o.dst (.slice (some ⟨g, off, none⟩) N cap)) w') : wpList Tryz.prog ops Q (o :: rest) a w := by
  refine wpList_append_sl hgd s x ho W v xs u ys hown hu hlen hs hx hW ?_
  intro v' w' hI hO hK
  have hI2 := hI
  rcases hI with ⟨_, hI⟩ | ⟨g, off, cap, rfl, s1, s2, _⟩
  · exact absurd (List.append_eq_nil_iff.1 hI).1 h0
  · rw [hN] at hI2 s1 hK ⊢
    exact h g off cap w' hI2 s1 s2 hO hK

end Go.Proofs.YtoofalchkedciaaGreatDoor

namespace Go.Proofs.YtoofalchkedciaaGreatDoor
open Go.RowKit Go.Deep

/-- What holds while the needs of needs are gone through. -/
structure ReachInv (p : PlanL) (i : Nat) (seen : Nat → Bool) (row : List Int) : Prop where
  rows : ∀ x ∈ row, 0 ≤ x ∧ x < p.length ∧ Reach p i x.toNat
  self : seen i = false
  start : ∀ k : Nat, (k : Int) ∈ ndOf p i → seen k = true ∨ (k : Int) ∈ row
  close : ∀ k m : Nat, seen k = true → (m : Int) ∈ ndOf p k → seen m = true ∨ (m : Int) ∈ row

/-- Needs are tasks, each named once, rising. -/
def NeedsOk (p : PlanL) : Prop := p.length ≤ 30 ∧ (∀ i, ∀ x ∈ ndOf p i, 0 ≤ x ∧ x < p.length) ∧ ∀ i, (ndOf p i).length ≤ 30

theorem needsOk {p : PlanL} (h : p.length ≤ 30) (hf : ∀ i, i < p.length → taskFault p.length (p[i]?.getD (0, [])) = 0) : NeedsOk p := by
  have hn : ∀ i, ∀ x ∈ ndOf p i, 0 ≤ x ∧ x < (p.length : Int) := by
    intro i x hx
    by_cases hi : i < p.length
    · exact (taskFault_zero (hf i hi)).2.2.1 x hx
    · rw [ndOf_none p i (by omega)] at hx; cases hx
  refine ⟨h, hn, fun i => ?_⟩
  by_cases hi : i < p.length
  · have := need_len (taskFault_zero (hf i hi)).2.2.2 (hn i)
    exact Nat.le_trans this h
  · rw [ndOf_none p i (by omega)]; simp
theorem PlanOk.needsOk {p : PlanL} (h : PlanOk p) : NeedsOk p := Go.Proofs.YtoofalchkedciaaGreatDoor.needsOk h.len h.fault

theorem ReachInv.init {p : PlanL} (h : NeedsOk p) (i : Nat) : ReachInv p i (fun _ => false) (ndOf p i) :=
  ⟨fun x hx => by
    have := h.2.1 i x hx
    exact ⟨this.1, this.2, .one (by rw [Int.toNat_of_nonneg this.1]; exact hx)⟩, rfl, fun _ hk => .inr hk, fun _ _ hk => by cases hk⟩

def upB (f : Nat → Bool) (j : Nat) : Nat → Bool := fun i => if i = j then true else f i

theorem ReachInv.old {p : PlanL} {i k : Nat} {seen : Nat → Bool} {row : List Int} (h : ReachInv p i seen ((k : Int) :: row)) (hs : seen k = true) : ReachInv p i seen row := by
  have drop : ∀ m : Nat, (seen m = true ∨ (m : Int) ∈ (k : Int) :: row) → seen m = true ∨ (m : Int) ∈ row := by
    intro m hm
    rcases hm with hm | hm
    · exact .inl hm
    · rcases List.mem_cons.1 hm with e | hm
      · have : m = k := by omega
        subst this; exact .inl hs
      · exact .inr hm
  exact ⟨fun x hx => h.rows x (by simp [hx]), h.self, fun m hm => drop m (h.start m hm), fun a m ha hm => drop m (h.close a m ha hm)⟩

theorem ReachInv.new {p : PlanL} {i k : Nat} {seen : Nat → Bool} {row : List Int} (hn : NeedsOk p) (h : ReachInv p i seen ((k : Int) :: row)) (hk : k ≠ i) : ReachInv p i (upB seen k) (row ++ ndOf p k) := by
  have hkr : Reach p i k := by simpa using (h.rows k (by simp)).2.2
  have drop : ∀ m : Nat, (seen m = true ∨ (m : Int) ∈ (k : Int) :: row) → upB seen k m = true ∨ (m : Int) ∈ row ++ ndOf p k := by
    intro m hm
    unfold upB
    by_cases e : m = k
    · subst e; exact .inl (by simp)
    · rw [if_neg e]
      rcases hm with hm | hm
      · exact .inl hm
      · rcases List.mem_cons.1 hm with e2 | hm
        · exact absurd (by omega) e
        · exact .inr (by simp [hm])
  refine ⟨fun x hx => ?_, ?_, fun m hm => drop m (h.start m hm), fun a m ha hm => ?_⟩
  · rcases List.mem_append.1 hx with hx | hx
    · exact h.rows x (by simp [hx])
    · have := hn.2.1 k x hx
      exact ⟨this.1, this.2, hkr.more (by rw [Int.toNat_of_nonneg this.1]; exact hx)⟩
  · unfold upB; rw [if_neg (Ne.symm hk)]; exact h.self
  · by_cases e : a = k
    · subst e; exact .inr (by simp [hm])
    · unfold upB at ha
      rw [if_neg e] at ha
      exact drop m (h.close a m ha hm)

theorem ReachInv.no {p : PlanL} {i : Nat} {seen : Nat → Bool} (h : ReachInv p i seen []) : ¬ Reach p i i := by
  have key : ∀ m, Reach p i m → seen m = true := by
    intro m hm
    induction hm with
    | one hk => simpa using h.start _ hk
    | more _ hk ih => simpa using h.close _ _ ih hk
  intro hr
  have := key i hr
  rw [h.self] at this
  cases this

theorem ReachInv.yes {p : PlanL} {i : Nat} {seen : Nat → Bool} {row : List Int} (h : ReachInv p i seen ((i : Int) :: row)) : Reach p i i := by
  simpa using (h.rows i (by simp)).2.2

/-- How many are not seen yet. -/
def unseen (n : Nat) (seen : Nat → Bool) : Nat := (List.range n).countP (fun k => !seen k)
theorem unseen_up {n k : Nat} {seen : Nat → Bool} (hk : k < n) (hs : seen k = false) : unseen n (upB seen k) < unseen n seen :=
  countP_lt _ _ _ (fun x _ hx => by
    unfold upB at hx
    by_cases e : x = k
    · simp [e] at hx
    · simpa [e] using hx) ⟨k, by simpa using hk, by simp [hs], by simp [upB]⟩
theorem unseen_le (n : Nat) (seen : Nat → Bool) : unseen n seen ≤ n := by
  unfold unseen
  have := List.countP_le_length (p := fun k => !seen k) (l := List.range n)
  simpa using this

open Classical in
set_option maxRecDepth 100000 in
set_option maxHeartbeats 2000000 in
theorem plan_reaches (v : Value) (p : PlanL) (i : Nat) (w : World) (h : InPlan w v p) (hi : i < p.length) (hn : NeedsOk p) :
    Calls Tryz.prog 49 #[v, .int .i64 i] w fun e w' => e = .returned (.bool (decide (Reach p i i))) ∧ Only [] w w' := by
  have HN := Lib.hid hn
  have HP := Lib.hid h
  obtain ⟨a, cap, rfl, hc1, hc2, ht⟩ := h.task
  obtain ⟨n, hnl⟩ : ∃ n, p.length = n := ⟨_, rfl⟩
  have HL := Lib.hid hnl
  have hn30 : n ≤ 30 := by rw [← hnl]; exact hn.1
  have hmk := make_bools n (by omega)
  have hMB := made_bools w n
  have ho1 := (Only.refl [] w).alloc (.cells (madeCells #[.bool false] n) 4)
  obtain ⟨b, off, u, rfl, c0, c1, hr⟩ := ht i hi
  have d1 := (ho1.cell (p := ⟨b, _, none⟩) (cell_lt c1) (by simp)).trans c1
  have hr1 := hr.same ho1
  rw [hnl] at hi hc1 HP ⊢
  clear h hn hnl ht c0 c1 hr
  obtain ⟨ua, ucap, rfl, _⟩ := hr1.opt
  have hcl := clone_ints _ _ _ hr1 (by have := HN.out.2.2 i; omega)
  go_enter Tryz.func49, Tryz.ntmps49
  go_wp2_with fail
  refine hcl.mono ?_
  rintro e w1 ⟨v1, rfl, hI1, ho2⟩
  clear hcl hr1 d1 hmk
  have hoo := ho1.trans ho2 (by simp)
  have hB1 := hMB.only ho2 (by simp)
  have hs1 := ho1.size
  clear hMB ho1
  have hA1 : ∀ x ∈ own v1, x ≠ w.heap.size := fun x hx e => by
    have := (hI1.own_lt x hx).1
    simp at this hs1; omega
  have hw1 : ∀ x ∈ own v1, w.heap.size ≤ x := fun x hx => by
    have := (hI1.own_lt x hx).1
    simp at this; omega
  have hinit := ReachInv.init HN.out i
  have hm0 : unseen n (fun _ => false) * 31 + (ndOf p i).length ≤ 1000 := by
    have := unseen_le n (fun _ => false)
    have := HN.out.2.2 i
    omega
  go_wp2_with fail
  go_loopg [6] (unseen n (fun _ => false) * 31 + (ndOf p i).length) (fun k vr wr => ∃ seen row, k = unseen n seen * 31 + row.length ∧ k ≤ 1000 ∧ ReachInv p i seen row ∧ Bools wr w.heap.size n seen ∧ Sl wr vr row ∧ (∀ x ∈ own vr, x ≠ w.heap.size) ∧ (∀ x ∈ own vr, w.heap.size ≤ x) ∧ Only [] w wr)
  case atStart => exact ⟨_, _, rfl, hm0, hinit, hB1, hI1.sl, hA1, hw1, hoo⟩
  case round =>
    obtain ⟨seen, row, rfl, hk, hinv, hB, hS, hA, hlo, ho⟩ := hrel
    clear hB1 hI1 hoo hinit hA1 hw1
    have HINV := Lib.hid hinv
    have hAl := cell_lt (hB i hi).1
    rcases row with _ | ⟨x, row⟩
    · have hno := Lib.hid (hinv.no)
      obtain ⟨va, vc, rfl, _⟩ := hS.opt
      clear hinv hB hS
      go_wp2
      go_ret
      exact ⟨by rw [decide_eq_false hno.out]; rfl, ho⟩
    · obtain ⟨hx0, hxn, _⟩ := hinv.rows x (by simp)
      obtain ⟨k, rfl⟩ := Int.eq_ofNat_of_zero_le hx0
      rw [HL.out] at hxn
      have hkn : k < n := by omega
      have hSS := hS
      rcases hS with ⟨_, hS⟩ | ⟨g, off, vcap, rfl, s1, s2, s3, s4, s5⟩
      · cases hS
      · have cx := s4 0 (by simp)
        replace cx : wr.cell? ⟨g, off, none⟩ = some (.int .i64 (k : Int)) := by simpa [nth] using cx
        obtain ⟨q, hq⟩ : ∃ q, row.length = q := ⟨_, rfl⟩
        have hq2 : (((k : Int)) :: row).length = q + 1 := by simp [hq]
        rw [hq2] at s1 hk
        have hoff : off + 0 = off := rfl
        clear hinv s4 s5 hx0 hxn
        by_cases hki : k = i
        · subst hki
          have hyes := Lib.hid (HINV.out.yes)
          clear hB hSS
          go_wp2
          go_ret
          exact ⟨by rw [decide_eq_true hyes.out]; rfl, ho⟩
        · have hne : (((k : Nat) : Int) == ((i : Nat) : Int)) = false := by simp; omega
          have HK := Lib.hid hki
          obtain ⟨sk, hsk⟩ : ∃ s, seen k = s := ⟨_, rfl⟩
          have cs := (hB k hkn).1
          have fs := (hB k hkn).2
          rw [hsk] at cs
          clear hki
          cases sk
          · have hinv2 := Lib.hid (HINV.out.new HN.out (by exact HK.out))
            have hcnt := unseen_up hkn hsk
            have ho' := ho.setCell (p := ⟨w.heap.size, k, none⟩) (fun hlt => by simp at hlt) (.bool true)
            have hset : Only [w.heap.size] wr (wr.setCell ⟨w.heap.size, k, none⟩ (.bool true)) := (Only.refl _ _).setCell (by simp) _
            obtain ⟨na, nc, _, cn, hrd⟩ := (HP.out.same ho').at k (by rw [HL.out]; exact hkn)
            have hlen3 := HN.out.2.2 k
            have hB2 := hB.set k true
            have hS2 := hSS.only hset (fun x hx hx2 => hA x hx (by simpa using hx2))
            clear hB hSS hset hsk
            obtain ⟨m, hm⟩ : ∃ m, (ndOf p k).length = m := ⟨_, rfl⟩
            have HM := Lib.hid hm
            rw [hm] at cn hrd hlen3
            clear hm
            have hgA : w.heap.size ∉ own (.slice (some ⟨g, off, none⟩) ((k : Int) :: row).length vcap) := fun hx => hA _ hx rfl
            have HQ := Lib.hid hq
            have HQ2 := Lib.hid hq2
            obtain ⟨z, hz⟩ : ∃ z, q + m = z := ⟨_, rfl⟩
            have HZ : Hid ((row ++ ndOf p k).length = z ∧ unseen n (upB seen k) * 31 + z < unseen n seen * 31 + (q + 1) ∧ m ≤ 30) := by
              show _ ∧ _
              refine ⟨by rw [List.length_append, HQ.out, HM.out, hz], by omega, hlen3⟩
            clear hq hq2 hcnt hlen3 hz
            go_wp2_with (at_builtin; refine wpList_append_sl_ne rfl (.tmp 36) (.tmp 41) rfl _ _ _ _ _ (z + 1) hS2 hrd (by rw [HQ2.out, HM.out]; have := HZ.out.2.2; omega) (by simp) (by rw [List.cons_append, List.length_cons, HZ.out.1]) rfl rfl (Only.refl _ _) ?_; intro g4 off4 cap4 w' hII s6 s7 hO hK; by_cases hcap : cap4 = 1)
            all_goals
              have hB3 := Lib.hid (hB2.only hO hgA)
              have hoo := ho'.trans hO (fun x hx hl => by have := hlo x hx; omega)
              have hA' : Hid (∀ x ∈ own (.slice (some ⟨g4, off4, none⟩) (z + 1) cap4), x ≠ w.heap.size ∧ w.heap.size ≤ x) := by
                show ∀ x ∈ _, _
                intro x hx
                rcases hK x hx with h | h
                · exact ⟨hA x h, hlo x h⟩
                · have h2 := ho'.size
                  have h3 : (wr.setCell ⟨w.heap.size, k, none⟩ (.bool true)).heap.size = wr.heap.size := by simp [World.setCell]
                  omega
              clear hB2 hS2 hrd cn hO hK ho'
            · subst hcap
              obtain ⟨he, ht1⟩ := hII.tail1
              replace he : row ++ ndOf p k = [] := he
              have HE := Lib.hid he
              have hz0 : z = 0 := by rw [← HZ.out.1, he]; rfl
              subst hz0
              go_roundg (unseen n (upB seen k) * 31 + 0)
              case rel => exact ⟨upB seen k, [], rfl, by have := HZ.out.2; omega, by rw [← HE.out]; exact hinv2.out, hB3.out, ht1, fun x hx => (hA'.out x hx).1, fun x hx => (hA'.out x hx).2, hoo⟩
              case measure => have := HZ.out.2; simp only [HQ.out]; omega
            · have ht1 := hII.tail z HZ.out.1.symm hcap
              go_roundg (unseen n (upB seen k) * 31 + z)
              case rel => exact ⟨upB seen k, row ++ ndOf p k, by rw [HZ.out.1], by have := HZ.out.2; omega, hinv2.out, hB3.out, ht1, fun x hx => (hA'.out x hx).1, fun x hx => (hA'.out x hx).2, hoo⟩
              case measure => have := HZ.out.2; simp only [HQ.out]; omega
          · have hinv2 := Lib.hid (HINV.out.old hsk)
            have hB' := Lib.hid hB
            clear hB hsk fs
            by_cases hcap : vcap = 1
            · subst hcap
              obtain ⟨rfl, ht1⟩ := hSS.tail1
              clear hSS
              go_wp2
              go_roundg (unseen n seen * 31)
              case rel => exact ⟨seen, [], by simp, by omega, hinv2.out, hB'.out, ht1, hA, hlo, ho⟩
              case measure => simp
            · have ht1 := hSS.tail q hq.symm hcap
              clear hSS
              go_wp2
              go_roundg (unseen n seen * 31 + q)
              case rel => exact ⟨seen, row, by rw [hq], by omega, hinv2.out, hB'.out, ht1, hA, hlo, ho⟩
              case measure => simp

end Go.Proofs.YtoofalchkedciaaGreatDoor

namespace Go.Proofs.YtoofalchkedciaaGreatDoor
open Go.RowKit

theorem errV_zero : errV 0 = .nilIface := rfl
theorem errV_ne {e : Int} (h : e ≠ 0) : errV e = .iface 98 (.int .i64 e) := by unfold errV; rw [if_neg h]

open Classical in
set_option maxRecDepth 100000 in
set_option maxHeartbeats 2000000 in
theorem plan_Check (v : Value) (p : PlanL) (w : World) (h : InPlan w v p) :
    Calls Tryz.prog 10 #[v] w fun e w' => e = .returned (.tuple #[.int .i64 (planCheck p).1, errV (planCheck p).2]) ∧ Only [] w w' := by
  have HP := Lib.hid h
  obtain ⟨a, cap, rfl, hc1, hc2, _⟩ := h.task
  obtain ⟨n, hn⟩ : ∃ n, p.length = n := ⟨_, rfl⟩
  obtain ⟨⟨pi, pe⟩, hpc⟩ : ∃ x, planCheck p = x := ⟨_, rfl⟩
  have HC := Lib.hid hpc
  have HL := Lib.hid hn
  rw [hpc]
  rw [hn] at hc1 HP ⊢
  have hc3 : n ≤ 9223372036854775807 := by unfold maxLen at hc2; omega
  clear h hn hpc hc2
  show Calls _ _ _ _ fun e w' => e = .returned (.tuple #[.int .i64 pi, errV pe]) ∧ Only [] w w'
  by_cases h30 : 30 < n
  · have hx := planCheck_full (p := p) (by rw [HL.out]; exact h30)
    rw [HC.out] at hx
    obtain ⟨rfl, rfl⟩ := Prod.mk.inj hx
    clear hx
    go_enter Tryz.func10, Tryz.ntmps10
    go_wp2
    go_ret2
    exact ⟨rfl, Only.refl _ _⟩
  · have h30' : n ≤ 30 := by omega
    clear h30
    go_enter Tryz.func10, Tryz.ntmps10
    go_wp2_with fail
    go_loopw [13] (fun vi wr => ∃ i : Nat, i ≤ n ∧ vi = .int .i64 i ∧ (∀ j, j < i → taskFault p.length (p[j]?.getD (0, [])) = 0) ∧ Only [] w wr) (fun vi _ => n - (intOf vi).toNat)
    case atStart => exact ⟨0, Nat.zero_le _, rfl, fun j hj => by omega, Only.refl _ _⟩
    case round =>
      obtain ⟨i, hi, rfl, hf, ho⟩ := hrel
      have HF := Lib.hid hf
      clear hf
      by_cases hlt : i < n
      · have ht := plan_task _ p i wr (HP.out.same ho) (by rw [HL.out]; exact hlt)
        by_cases h0 : taskFault p.length (p[i]?.getD (0, [])) = 0
        · rw [h0, errV_zero] at ht
          have H0 := Lib.hid h0
          clear h0
          go_wp2_with fail
          refine ht.mono ?_
          rintro e w1 ⟨rfl, ho1⟩
          have hoo := ho.trans ho1 (by simp)
          clear ht ho ho1
          go_wp2
          go_roundw
          case rel =>
            refine ⟨i + 1, by omega, by go_num, fun j hj => ?_, hoo⟩
            by_cases e : j = i
            · subst e; exact H0.out
            · exact HF.out j (by omega)
          case measure => (simp [intOf]; try omega)
        · have hx := planCheck_task (p := p) (by rw [HL.out]; exact h30') (by rw [HL.out]; exact hlt) HF.out rfl h0
          rw [HC.out] at hx
          obtain ⟨e1, e2⟩ := Prod.mk.inj hx
          rw [errV_ne h0, ← e2] at ht
          have H1 : Hid (pi = i ∧ pe ≠ 0) := ⟨e1, by rw [e2]; exact h0⟩
          clear h0 hx e1 e2
          go_wp2_with fail
          refine ht.mono ?_
          rintro e w1 ⟨rfl, ho1⟩
          have hoo := ho.trans ho1 (by simp)
          clear ht ho ho1
          go_wp2
          go_ret2
          exact ⟨by rw [errV_ne H1.out.2, H1.out.1]; rfl, hoo⟩
      · obtain rfl : i = n := by omega
        have hN := Lib.hid (needsOk (p := p) (by rw [HL.out]; exact h30') (fun j hj => HF.out j (by rw [HL.out] at hj; exact hj)))
        clear hlt hi
        go_wp2_with fail
        go_loopw [26] (fun vi wr2 => ∃ k : Nat, k ≤ i ∧ vi = .int .i64 k ∧ (∀ j, j < k → ¬ Reach p j j) ∧ Only [] w wr2) (fun vi _ => i - (intOf vi).toNat)
        case atStart => exact ⟨0, Nat.zero_le _, rfl, fun j hj => by omega, ho⟩
        case round =>
          obtain ⟨k, hk, rfl, hnr, ho⟩ := hrel
          have HNR := Lib.hid hnr
          clear hnr
          by_cases hlt : k < i
          · have ht := plan_reaches _ p k _ (HP.out.same ho) (by rw [HL.out]; exact hlt) hN.out
            by_cases h0 : Reach p k k
            · rw [decide_eq_true h0] at ht
              have hx := planCheck_cycle (p := p) (by rw [HL.out]; exact h30') (fun j hj => HF.out j (by rw [HL.out] at hj; exact hj)) (by rw [HL.out]; exact hlt) HNR.out h0
              rw [HC.out] at hx
              obtain ⟨rfl, rfl⟩ := Prod.mk.inj hx
              clear hx h0
              go_wp2_with fail
              refine ht.mono ?_
              rintro e w1 ⟨rfl, ho1⟩
              have hoo := ho.trans ho1 (by simp)
              clear ht ho ho1
              go_wp2
              go_ret2
              exact ⟨rfl, hoo⟩
            · rw [decide_eq_false h0] at ht
              have H0 := Lib.hid h0
              clear h0
              go_wp2_with fail
              refine ht.mono ?_
              rintro e w1 ⟨rfl, ho1⟩
              have hoo := ho.trans ho1 (by simp)
              clear ht ho ho1
              go_wp2
              go_roundw
              case rel =>
                refine ⟨k + 1, by omega, by go_num, fun j hj => ?_, hoo⟩
                by_cases e : j = k
                · subst e; exact H0.out
                · exact HNR.out j (by omega)
              case measure => (simp [intOf]; try omega)
          · obtain rfl : k = i := by omega
            have hx := planCheck_ok (p := p) ⟨by rw [HL.out]; exact h30', fun j hj => HF.out j (by rw [HL.out] at hj; exact hj), fun j hj => HNR.out j (by rw [HL.out] at hj; exact hj)⟩
            rw [HC.out] at hx
            obtain ⟨rfl, rfl⟩ := Prod.mk.inj hx
            clear hx hlt hk
            go_wp2
            go_ret2
            exact ⟨rfl, ho⟩

theorem plan_Right (v : Value) (p : PlanL) (w : World) (h : InPlan w v p) :
    Calls Tryz.prog 52 #[v] w fun e w' => e = .returned (errV (planFault p)) ∧ Only [] w w' := by
  have hc := plan_Check v p w h
  unfold planFault
  obtain ⟨⟨pi, pe⟩, hpc⟩ : ∃ x, planCheck p = x := ⟨_, rfl⟩
  rw [hpc] at hc ⊢
  replace hc : Calls _ _ _ _ fun e w' => e = .returned (.tuple #[.int .i64 pi, errV pe]) ∧ Only [] w w' := hc
  show Calls _ _ _ _ fun e w' => e = .returned (errV pe) ∧ Only [] w w'
  clear hpc h
  generalize errV pe = ev at *
  go_enter Tryz.func52, Tryz.ntmps52
  go_wp2_with fail
  refine hc.mono ?_
  rintro e w1 ⟨rfl, ho⟩
  clear hc
  go_wp2
  go_ret
  exact ⟨rfl, ho⟩

end Go.Proofs.YtoofalchkedciaaGreatDoor

namespace Go.Proofs.YtoofalchkedciaaGreatDoor
open Go.RowKit

theorem mem_nth {l : List Int} {x : Int} : x ∈ l ↔ ∃ j, j < l.length ∧ nth l j = x := by
  constructor
  · intro h
    obtain ⟨j, hj, e⟩ := List.getElem_of_mem h
    exact ⟨j, hj, by simp [nth, hj, e]⟩
  · rintro ⟨j, hj, rfl⟩
    simp [nth, hj]

set_option maxHeartbeats 400000 in
theorem index_ints (v : Value) (l : List Int) (x : Int) (w : World) (h : Reads w v l) (hl : l.length ≤ 1000000000) (r : Bool) (hr : decide (x ∈ l) = r) :
    Calls Tryz.prog 154 #[v, .int .i64 x] w fun e w' => (∃ i : Int, e = .returned (.int .i64 i) ∧ decide (0 ≤ i) = r) ∧ w = w' := by
  rcases h with ⟨rfl, hv⟩ | ⟨h0, b, off, cap, rfl, h1, h2, h3⟩
  · obtain rfl : r = false := by simpa using hr.symm
    have hv' : ∃ a c, v = .slice a 0 c := by
      rcases hv with rfl | ⟨y, c, rfl, _⟩
      · exact ⟨_, _, rfl⟩
      · exact ⟨_, _, rfl⟩
    obtain ⟨a, c, rfl⟩ := hv'
    clear hv hr
    go_enter Tryz.func154, Tryz.ntmps154
    go_wp2_with fail
    refine wp_loop_rounds 1 ?_
    rw [rounds_succ]
    go_wp2
    go_ret
    exact ⟨⟨-1, rfl, by decide⟩, rfl⟩
  · have HR := Lib.hid hr
    clear hr
    generalize hn : l.length = n at *
    have Hn := Lib.hid hn
    clear hn
    go_enter Tryz.func154, Tryz.ntmps154
    go_wp2_with fail
    go_loop [8] (fun i => ∃ k : Nat, k ≤ n ∧ i = .int .i64 k ∧ ∀ j, j < k → nth l j ≠ x) (fun i => n - (intOf i).toNat)
    case atStart => exact ⟨0, Nat.zero_le _, rfl, fun j hj => by omega⟩
    case round =>
      obtain ⟨k, hk, rfl, hno⟩ := hrel
      by_cases hlt : k < n
      · have hc := h3 k hlt
        have HNO := Lib.hid hno
        clear h3 hno
        by_cases he : x = nth l k
        · have hq : (x == nth l k) = true := by simpa using he
          have HE := Lib.hid he
          clear he
          go_wp2
          go_ret
          exact ⟨⟨k, rfl, by rw [← HR.out]; simp; exact mem_nth.2 ⟨k, by rw [Hn.out]; exact hlt, HE.out.symm⟩⟩, rfl⟩
        · have hq : (x == nth l k) = false := by simpa using he
          have HE := Lib.hid he
          clear he
          go_wp2
          go_round
          case rel =>
            refine ⟨k + 1, by omega, by go_num, fun j hj => ?_⟩
            by_cases hjk : j = k
            · subst hjk; exact fun e => HE.out e.symm
            · exact HNO.out j (by omega)
          case measure => simp [intOf]; omega
      · obtain rfl : k = n := by omega
        have HNO := Lib.hid hno
        clear h3 hno
        go_wp2
        go_ret
        refine ⟨⟨-1, rfl, ?_⟩, rfl⟩
        rw [← HR.out]
        have : x ∉ l := fun hx => by
          obtain ⟨j, hj, e⟩ := mem_nth.1 hx
          exact HNO.out j (by rw [Hn.out] at hj; exact hj) e
        simp [this]

theorem contains_ints (v : Value) (l : List Int) (x : Int) (w : World) (h : Reads w v l) (hl : l.length ≤ 1000000000) (r : Bool) (hr : decide (x ∈ l) = r) :
    Calls Tryz.prog 106 #[v, .int .i64 x] w fun e w' => e = .returned (.bool r) ∧ w = w' := by
  have HR := Lib.hid hr
  clear hr
  go_enter Tryz.func106, Tryz.ntmps106
  go_wp2_with fail
  refine (index_ints v l x w h hl r HR.out).mono ?_
  rintro e w1 ⟨⟨i, rfl, hi⟩, rfl⟩
  go_wp2
  go_ret
  exact ⟨rfl, rfl⟩

end Go.Proofs.YtoofalchkedciaaGreatDoor
