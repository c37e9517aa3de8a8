/-
  Contract of slices.Clone at []int.
  make([]int, n) and make([]bool, n): an equation for the walk, and what the new slice holds.
  Plain facts on numbers that are marked: which are not marked yet, in order; and an array of bools in memory.
  make([]bool, n).
  Slices with an offset, and room: several numbers appended.
-/
import Derived.Test.YtocpmncedlenbaaP2GangHolds
import Derived.Test.YtocpmncedlenbaaP7GangHolds
import Derived.Deep.OwnRows
import Derived.Test.YtocpmncedlenbaaP1GangHolds
import Derived.Test.YtocpmncedlenbaaP3GangHolds
namespace Go.Proofs.Ytocpmncedlenbaa
open Go.RowKit

set_option maxHeartbeats 400000 in
theorem clone_ints (v : Value) (l : List Int) (w : World) (h : Reads w v l) (hl : l.length ≤ 1000000000) :
    Calls Try.prog 37 #[v] w fun e w' => ∃ v', e = .returned v' ∧ Ints w' w.heap.size v' l ∧ Only [] w w' := by
  have hnil := fun (a : Option Addr) (n c : Nat) (w : World) => Lib.run_eql_slice_nil (P := Try.prog) w 22 3 a n c 0 0 Try.underlying22
  have hh := h
  rcases h with ⟨rfl, rfl | ⟨y, cap, rfl, hcap⟩⟩ | ⟨h0, b, off, cap, rfl, h1, h2, h3⟩
  · go_enter Try.func37, Try.ntmps37
    go_wp2
    go_ret
    exact ⟨_, rfl, Ints.nil _ _, Only.refl _ _⟩
  · have ho := (Only.refl [] w).alloc (.cells #[] 3)
    have hown : Ints (w.alloc (.cells #[] 3)) w.heap.size (.slice (some ⟨w.heap.size, 0, none⟩) 0 0) [] := ⟨by simp, .inr ⟨w.heap.size, 0, #[], rfl, Nat.le_refl _, heap_alloc_new _ _, Nat.le_refl _, by unfold maxLen; omega, rfl, rfl⟩⟩
    have hh' := hh.same ho
    go_enter Try.func37, Try.ntmps37
    go_wp2_with (at_builtin; refine wpList_append_reads rfl (.tmp 5) (.tmp 6) rfl _ w.heap.size _ [] _ _ hown hh' (by simp) (by simp) rfl rfl (Only.refl _ _) ?_; intro v' w' hI hO _)
    have ho2 := ho.pushed hown (Nat.le_refl _) hO
    clear hown hh' hO hnil
    go_wp2
    go_ret
    exact ⟨_, rfl, hI, ho2⟩
  · have ho := (Only.refl [] w).alloc (.cells #[] 3)
    have hown : Ints (w.alloc (.cells #[] 3)) w.heap.size (.slice (some ⟨w.heap.size, 0, none⟩) 0 0) [] := ⟨by simp, .inr ⟨w.heap.size, 0, #[], rfl, Nat.le_refl _, heap_alloc_new _ _, Nat.le_refl _, by unfold maxLen; omega, rfl, rfl⟩⟩
    have hh' := hh.same ho
    clear hh h3
    go_enter Try.func37, Try.ntmps37
    go_wp2_with (at_builtin; refine wpList_append_reads rfl (.tmp 5) (.tmp 6) rfl _ w.heap.size _ [] _ _ hown hh' (by simpa using hl) (by simp) rfl rfl (Only.refl _ _) ?_; intro v' w' hI hO _)
    have ho2 := ho.pushed hown (Nat.le_refl _) hO
    clear hown hh' hO hnil
    go_wp2
    go_ret
    exact ⟨_, rfl, hI, ho2⟩

end Go.Proofs.Ytocpmncedlenbaa

namespace Go.Proofs.Ytocpmncedlenbaa
open Go.RowKit Go.Deep

theorem make_ints (n : Nat) (hn : n ≤ 1000000) (w : World) :
    (Instr.makeSlice 22 (.int .i64 (n : Int)) (.int .i64 (n : Int))).run Try.prog w = .ok (.slice (some ⟨w.heap.size, 0, none⟩) n n) (w.alloc (.cells (madeCells #[.int .i64 0] n) 3)) :=
  run_make_row' (P := Try.prog) 22 3 (.int .i64 0) 8 Try.underlying22 (by kernel_rfl) rfl .i64 .i64 n (by omega) (by omega) w

theorem made_size (z : Value) (n : Nat) : (madeCells #[z] n).size = n := by
  simp [madeCells]

theorem made_list (z : Value) (n : Nat) : (madeCells #[z] n).toList = List.replicate n z := by
  simp [madeCells, Nat.mod_one, List.map_const']

theorem made_ints (w : World) (n : Nat) (hn : n ≤ 1000000) : Ints (w.alloc (.cells (madeCells #[.int .i64 0] n) 3)) w.heap.size (.slice (some ⟨w.heap.size, 0, none⟩) n n) (List.replicate n 0) := by
  refine ⟨by simp, .inr ⟨w.heap.size, n, madeCells #[.int .i64 0] n, by simp, Nat.le_refl _, heap_alloc_new _ _, by simp, by unfold maxLen; omega, by rw [made_size]; simp, ?_⟩⟩
  rw [made_list]
  simp

end Go.Proofs.Ytocpmncedlenbaa

namespace Go.Proofs.Ytocpmncedlenbaa
open Go.RowKit

/-- The numbers below n that are not marked, rising. -/
def U (n : Nat) (f : Nat → Bool) : List Int := ((List.range n).filter fun j => !f j).map fun (j : Nat) => (j : Int)
/-- Those of a list are marked, too. -/
def mark (f : Nat → Bool) (out : List Int) : Nat → Bool := fun j => f j || decide ((j : Int) ∈ out)

theorem U_zero (f : Nat → Bool) : U 0 f = [] := rfl
theorem mark_nil (f : Nat → Bool) : mark f [] = f := by funext j; simp [mark]

theorem mem_U {n : Nat} {f : Nat → Bool} {x : Int} : x ∈ U n f ↔ ∃ j, j < n ∧ f j = false ∧ x = j := by
  unfold U
  simp only [List.mem_map, List.mem_filter, List.mem_range, Bool.not_eq_true']
  constructor
  · rintro ⟨j, ⟨h1, h2⟩, rfl⟩; exact ⟨j, h1, h2, rfl⟩
  · rintro ⟨j, h1, h2, rfl⟩; exact ⟨j, ⟨h1, h2⟩, rfl⟩

theorem U_succ (n : Nat) (f : Nat → Bool) : U (n + 1) f = if f n then U n f else U n f ++ [(n : Int)] := by
  unfold U
  rw [List.range_succ, List.filter_append, List.map_append]
  cases h : f n <;> simp [h]

theorem U_lt (n : Nat) (f : Nat → Bool) : (U n f).Pairwise (· < ·) := by
  unfold U
  rw [List.pairwise_map]
  refine List.Pairwise.imp ?_ (List.Pairwise.filter _ (List.pairwise_lt_range (n := n)))
  intro a b h; omega

theorem U_mark (n : Nat) (f : Nat → Bool) (out : List Int) : U n (mark f out) = (U n f).filter fun x => decide (x ∉ out) := by
  unfold U mark
  rw [List.filter_map, List.filter_filter]
  congr 1
  refine List.filter_congr fun j _ => ?_
  simp [Function.comp, Bool.and_comm]

theorem filter_not_left (A B : List Int) (h : (A ++ B).Pairwise (· < ·)) : (A ++ B).filter (fun x => decide (x ∉ A)) = B := by
  rw [List.filter_append]
  have h1 : A.filter (fun x => decide (x ∉ A)) = [] := by simp [List.filter_eq_nil_iff]
  have h2 : B.filter (fun x => decide (x ∉ A)) = B := by
    rw [List.filter_eq_self]
    intro x hx
    simp only [decide_eq_true_eq]
    intro hA
    have := (List.pairwise_append.1 h).2.2 x hA x hx
    omega
  rw [h1, h2, List.nil_append]

theorem filter_not_right (A B : List Int) (h : (A ++ B).Pairwise (· < ·)) : (A ++ B).filter (fun x => decide (x ∉ B)) = A := by
  rw [List.filter_append]
  have h1 : B.filter (fun x => decide (x ∉ B)) = [] := by simp [List.filter_eq_nil_iff]
  have h2 : A.filter (fun x => decide (x ∉ B)) = A := by
    rw [List.filter_eq_self]
    intro x hx
    simp only [decide_eq_true_eq]
    intro hB
    have := (List.pairwise_append.1 h).2.2 x hx x hB
    omega
  rw [h1, h2, List.append_nil]

/-- What goes from the front. -/
theorem U_front {n : Nat} {f : Nat → Bool} {out R : List Int} (h : U n f = out ++ R) : U n (mark f out) = R := by
  rw [U_mark, h]
  exact filter_not_left out R (h ▸ U_lt n f)
/-- What goes from the end. -/
theorem U_back {n : Nat} {f : Nat → Bool} {out R : List Int} (h : U n f = R ++ out) : U n (mark f out) = R := by
  rw [U_mark, h]
  exact filter_not_right R out (h ▸ U_lt n f)

theorem nth_mem {l : List Int} {k : Nat} (h : k < l.length) : nth l k ∈ l := by
  simp [nth, h]

theorem pairwise_nth {l : List Int} (h : l.Pairwise (· < ·)) {i j : Nat} (hij : i < j) (hj : j < l.length) : nth l i < nth l j := by
  have := (List.pairwise_iff_getElem.1 h) i j (by omega) hj hij
  simpa [nth, hj, show i < l.length by omega] using this

/-- One more of a list marked. -/
theorem mark_step (f : Nat → Bool) (out : List Int) (k j : Nat) (hk : k < out.length) (hj : nth out k = j) :
    (fun i => if i = j then true else mark f (out.take k) i) = mark f (out.take (k + 1)) := by
  funext i
  have e : out.take (k + 1) = out.take k ++ [nth out k] := by
    rw [List.take_succ_eq_append_getElem hk]; simp [nth, hk]
  unfold mark
  rw [e, hj]
  by_cases h : i = j
  · subst h; simp
  · have : ¬ ((i : Int) = (j : Int)) := by omega
    simp [h, this]

/-- The k-th of a rising list is not marked yet when those ahead of it are. -/
theorem mark_fresh {n : Nat} {f : Nat → Bool} {out : List Int} (hsub : ∀ x ∈ out, x ∈ U n f) (hp : out.Pairwise (· < ·)) {k : Nat} (hk : k < out.length) :
    ∃ j : Nat, nth out k = j ∧ j < n ∧ mark f (out.take k) j = false := by
  obtain ⟨j, h1, h2, h3⟩ := mem_U.1 (hsub _ (nth_mem hk))
  refine ⟨j, h3, h1, ?_⟩
  unfold mark
  rw [h2, Bool.false_or, decide_eq_false_iff_not, ← h3]
  intro hm
  obtain ⟨i, hi, e⟩ := List.getElem_of_mem hm
  have hi' : i < k := by simp at hi; omega
  have := pairwise_nth hp hi' hk
  have e2 : nth out i = nth out k := by
    rw [List.getElem_take] at e
    rw [← e]
    simp [nth, show i < out.length by omega]
  omega

/-- An array of bools in memory. -/
def Bools (w : World) (A N : Nat) (f : Nat → Bool) : Prop := ∀ i, i < N → w.cell? ⟨A, i, none⟩ = some (.bool (f i)) ∧ w.frozen? ⟨A, i, none⟩ = false

theorem Bools.only {w w' : World} {A N : Nat} {f : Nat → Bool} {S : List Nat} (h : Bools w A N f) (ho : Only S w w') (hA : A ∉ S) : Bools w' A N f := fun i hi => by
  obtain ⟨h1, h2⟩ := h i hi
  have hl := cell_lt h1
  exact ⟨(ho.cell (p := ⟨A, i, none⟩) hl hA).trans h1, (ho.frozen (p := ⟨A, i, none⟩) hl hA).trans h2⟩

theorem Bools.set {w : World} {A N : Nat} {f : Nat → Bool} (h : Bools w A N f) (j : Nat) (x : Bool) :
    Bools (w.setCell ⟨A, j, none⟩ (.bool x)) A N (fun i => if i = j then x else f i) := fun i hi => by
  obtain ⟨h1, h2⟩ := h i hi
  refine ⟨?_, by rw [World.frozen?_setCell]; exact h2⟩
  by_cases e : i = j
  · subst e
    rw [World.cell?_setCell_same _ _ _ h1]
    simp
  · rw [World.cell?_setCell_other _ _ _ _ (fun he => e (congrArg Addr.off he).symm), h1]
    simp [e]

theorem Bools.new (w : World) (cs : Array Value) (t : TypeId) (N : Nat) (h : ∀ i, i < N → cs[i]? = some (.bool false)) : Bools (w.alloc (.cells cs t)) w.heap.size N (fun _ => false) := fun i hi => by
  exact ⟨by rw [World.cell?_alloc_new]; exact h i hi, World.frozen?_alloc_at _ _ _ _ rfl⟩

end Go.Proofs.Ytocpmncedlenbaa

namespace Go.Proofs.Ytocpmncedlenbaa
open Go.RowKit Go.Deep

theorem make_bools (n : Nat) (hn : n ≤ 1000000) (w : World) :
    (Instr.makeSlice 41 (.int .i64 (n : Int)) (.int .i64 (n : Int))).run Try.prog w = .ok (.slice (some ⟨w.heap.size, 0, none⟩) n n) (w.alloc (.cells (madeCells #[.bool false] n) 4)) :=
  run_make_row' (P := Try.prog) 41 4 (.bool false) 1 Try.underlying41 (by kernel_rfl) rfl .i64 .i64 n (by omega) (by omega) w

theorem made_bools (w : World) (n : Nat) : Bools (w.alloc (.cells (madeCells #[.bool false] n) 4)) w.heap.size n (fun _ => false) :=
  Bools.new _ _ _ _ fun i hi => by
    have e := made_list (.bool false) n
    rw [← Array.getElem?_toList, e]
    simp [hi]

end Go.Proofs.Ytocpmncedlenbaa

namespace Go.Proofs.Ytocpmncedlenbaa
open Go.RowKit

theorem cells_setCells {w : World} {b off : Nat} (vs : List Value) (hv : ∀ j, j < vs.length → (w.cell? ⟨b, off + j, none⟩).isSome = true) :
    (∀ j u, vs[j]? = some u → (w.setCells b off vs).cell? ⟨b, off + j, none⟩ = some u) ∧
    (∀ i, (i < off ∨ off + vs.length ≤ i) → (w.setCells b off vs).cell? ⟨b, i, none⟩ = w.cell? ⟨b, i, none⟩) ∧ Only [b] w (w.setCells b off vs) ∧ (∀ p, (w.setCells b off vs).frozen? p = w.frozen? p) := by
  induction vs generalizing w off with
  | nil => exact ⟨fun j u h => by simp at h, fun i _ => rfl, Only.refl _ _, fun _ => rfl⟩
  | cons v vs ih =>
    have hstep : w.setCells b off (v :: vs) = (w.setCell ⟨b, off, none⟩ v).setCells b (off + 1) vs := rfl
    have h0 : ∃ u, w.cell? ⟨b, off, none⟩ = some u := Option.isSome_iff_exists.1 (by simpa using hv 0 (by simp))
    obtain ⟨u0, hu0⟩ := h0
    have hother : ∀ i, i ≠ off → (w.setCell ⟨b, off, none⟩ v).cell? ⟨b, i, none⟩ = w.cell? ⟨b, i, none⟩ := fun i hi =>
      World.cell?_setCell_other _ _ _ _ (fun he => hi (congrArg Addr.off he).symm)
    obtain ⟨k1, k2, k3, k4⟩ := ih (w := w.setCell ⟨b, off, none⟩ v) (off := off + 1) (fun j hj => by
      rw [hother _ (by omega)]
      have := hv (j + 1) (by simpa using hj)
      rwa [show off + 1 + j = off + (j + 1) by omega])
    rw [hstep]
    refine ⟨fun j u hj => ?_, fun i hi => ?_, ((Only.refl [b] w).setCell (by simp) _).trans k3 (by simp), fun p => by rw [k4, World.frozen?_setCell]⟩
    · rcases j with _ | j
      · simp at hj
        subst hj
        rw [show off + 0 = off from rfl, k2 off (.inl (by omega))]
        exact World.cell?_setCell_same _ _ _ hu0
      · have := k1 j u (by simpa using hj)
        rwa [show off + 1 + j = off + (j + 1) by omega] at this
    · rw [k2 i (by simp only [List.length_cons] at hi; omega)]
      exact hother i (by simp only [List.length_cons] at hi; omega)

/-- Several numbers appended, in a plain region. -/
theorem wpList_append_sl {ops : Array Oper} {rest : List Oper} {o : Oper} {a : Act} {w : World} {Q : Exit → Act → World → Prop} (hgd : o.guard = none) (s x : Operand)
    (ho : o.op = .call { callee := .builtin .append, args := #[s, x], argTypes := #[22, 22] })
    (W : World) (v : Value) (xs : List Int) (u : Value) (ys : List Int) (hown : Sl W v xs) (hu : Reads W u ys) (hlen : xs.length + ys.length ≤ 1000000000)
    (hs : a.eval s = v) (hx : a.eval x = u) (hW : Only [] W w)
    (h : ∀ v' w', Sl w' v' (xs ++ ys) → Only (own v) W w' → Kin W (own v) (own v') →
      wpList Try.prog ops Q rest (a.put o.dst v') w') : wpList Try.prog ops Q (o :: rest) a w := by
  obtain ⟨i0, hi, hz0, hz1, hz2⟩ := info_int
  have hsz := hW.size
  have hown' := hown.only hW (by simp)
  rcases hown' with ⟨rfl, rfl⟩ | ⟨g, off, cap, rfl, h1, h2, h3, h4, h5⟩
  · refine wpList_append_reads hgd s x ho W 0 _ [] u ys (Ints.nil _ _) hu (by simpa using hlen) (Nat.zero_le _) hs hx hW ?_
    intro v' w' hI hO hK
    exact h v' w' (by simpa using hI.sl) hO hK
  · have holds : ∀ j u, (xs.map (Value.int .i64))[j]? = some u → w.cell? ⟨g, off + j, none⟩ = some u := by
      intro j u hj
      have hjl : j < xs.length := by
        rcases Nat.lt_or_ge j xs.length with h | h
        · exact h
        · rw [List.getElem?_eq_none (by simpa using h)] at hj; cases hj
      rw [h4 j hjl]
      rw [List.getElem?_map, List.getElem?_eq_getElem hjl] at hj
      simp at hj
      rw [← hj]
      simp [nth, hjl]
    have hone : ∀ u ∈ ys.map (Value.int .i64), u.oneCell' = true := by intro u hu; simp at hu; obtain ⟨n, _, rfl⟩ := hu; rfl
    have key : ∀ (ad : Addr) (c : Nat), u = .slice (some ad) ys.length c → (∀ j z, (ys.map (Value.int .i64))[j]? = some z → w.cell? (ad.add j) = some z) → wpList Try.prog ops Q (o :: rest) a w := by
      intro ad c hue hnews
      refine wpList_append_arg w hgd s x 22 ho 3 i0 (.int .i64 0) 1 8 Try.underlying22 hi hz0 hz1 hz2 rfl (by decide) g off xs.length cap (xs.map (Value.int .i64)) hs (by simp) holds ad ys.length c (ys.map (Value.int .i64)) (hx.trans hue) (by simp) hnews hone ?_ (by unfold maxLen; omega) (by omega) ?_ ?_
      · intro hr j hj
        have hj' : j < ys.length := by simpa using hj
        have := h5 (xs.length + j) (by omega)
        rw [Nat.mul_one, Nat.add_assoc]
        exact this
      · intro hr
        rw [Nat.mul_one]
        have hsp : ∀ j, j < (ys.map (Value.int .i64)).length → (w.cell? ⟨g, off + xs.length + j, none⟩).isSome = true := by
          intro j hj
          have hj' : j < ys.length := by simpa using hj
          rw [Nat.add_assoc]
          exact (h5 (xs.length + j) (by omega)).1
        obtain ⟨k1, k2, k3, k4⟩ := cells_setCells (w := w) (b := g) (off := off + xs.length) (ys.map (Value.int .i64)) hsp
        have hl : (xs ++ ys).length = xs.length + ys.length := by simp
        refine h _ _ (.inr ⟨g, off, cap, by rw [hl], by omega, h2, Nat.lt_of_lt_of_le h3 k3.size, fun i hi => ?_, fun i hi => ?_⟩) ((hW.mono (by simp)).trans k3 (by simp [own, Value.ownBlock])) (fun y hy => .inl (by simpa [own, Value.ownBlock] using hy))
        · rcases Nat.lt_or_ge i xs.length with hlt | hge
          · rw [k2 _ (.inl (by omega)), h4 i hlt]
            simp [nth, List.getElem?_append_left hlt, hlt]
          · have := k1 (i - xs.length) (.int .i64 (nth ys (i - xs.length))) (by
              have : i - xs.length < ys.length := by omega
              simp [nth, this])
            rw [show off + xs.length + (i - xs.length) = off + i by omega] at this
            rw [this]
            simp [nth, List.getElem?_append_right hge]
        · rw [k4]
          refine ⟨?_, (h5 i hi).2⟩
          by_cases hin : xs.length ≤ i ∧ i < xs.length + ys.length
          · have := k1 (i - xs.length) (.int .i64 (nth ys (i - xs.length))) (by
              have : i - xs.length < ys.length := by omega
              simp [nth, this])
            rw [show off + xs.length + (i - xs.length) = off + i by omega] at this
            rw [this]; rfl
          · rw [k2 _ (by simp; omega)]
            exact (h5 i hi).1
      · intro hgrow v' w' k1 k2
        have hI : Ints w' w.heap.size v' (xs ++ ys) := by unfold Ints; simpa using k1
        refine h v' w' hI.sl ((hW.mono (by simp)).grown k2 (by simp)) (fun y hy => .inr ?_)
        have := (hI.own_lt y hy).1
        omega
    rcases hu with ⟨rfl, rfl | ⟨y, c, rfl, hcap⟩⟩ | ⟨h0, b, o2, c, rfl, m1, m2, m3⟩
    · refine wpList_plain hgd fun K hK => ?_
      have hrun : (Builtin.append_ #[22, 22] o.type #[.slice (some ⟨g, off, none⟩) xs.length cap, .slice none 0 0]).run Try.prog w = .ok (.slice (some ⟨g, off, none⟩) xs.length cap) w := by
        simp [Builtin.append_, run_underlying Try.underlying22, sizeOf, typeInfo, hi, Builtin.lenOf, Builtin.firstCells, h1, storeCells]
      unfold Oper.wp
      simp [execOp, ho, resolve, invoke, builtin, hs, hx, hrun, Result.andThen]
      refine hK _ _ (h _ _ (by rw [List.append_nil]; exact .inr ⟨g, off, cap, rfl, h1, h2, h3, h4, h5⟩) (hW.mono (by simp)) (Kin.refl _ _))
    · exact key y c rfl (fun j z hj => by simp at hj)
    · refine key ⟨b, o2, none⟩ c rfl (fun j z hj => ?_)
      have hjl : j < ys.length := by
        rcases Nat.lt_or_ge j ys.length with h | h
        · exact h
        · rw [List.getElem?_eq_none (by simpa using h)] at hj; cases hj
      rw [List.getElem?_map, List.getElem?_eq_getElem hjl] at hj
      simp at hj
      have e2 : ({ block := b, off := o2, spot := none } : Addr).add j = ⟨b, o2 + j, none⟩ := by
        unfold Addr.add
        split
        · rename_i h; subst h; rfl
        · rfl
      rw [e2, hW.cell (p := ⟨b, o2 + j, none⟩) (cell_lt (m3 j hjl)) (by simp), m3 j hjl, ← hj]
      simp [nth, hjl]

/-- .. to a list that is not empty: the new value's form. N: its length. -/
theorem wpList_append_sl_ne {ops : Array Oper} {rest : List Oper} {o : Oper} {a : Act} {w : World} {Q : Exit → Act → World → Prop} (hgd : o.guard = none) (s x : Operand)
    (ho : o.op = .call { callee := .builtin .append, args := #[s, x], argTypes := #[22, 22] })
    (W : World) (v : Value) (xs : List Int) (u : Value) (ys : List Int) (N : Nat) (hown : Sl W v xs) (hu : Reads W u ys) (hlen : xs.length + ys.length ≤ 1000000000) (h0 : xs ≠ []) (hN : (xs ++ ys).length = N)
    (hs : a.eval s = v) (hx : a.eval x = u) (hW : Only [] W w)
    (h : ∀ g off cap w', Sl w' (.slice (some ⟨g, off, none⟩) N cap) (xs ++ ys) → N ≤ cap → cap ≤ maxLen → Only (own v) W w' → Kin W (own v) (own (.slice (some ⟨g, off, none⟩) N cap)) →
      wpList Try.prog ops Q rest (a.put o.dst (.slice (some ⟨g, off, none⟩) N cap)) w') : wpList Try.prog ops Q (o :: rest) a w := by
  refine wpList_append_sl hgd s x ho W v xs u ys hown hu hlen hs hx hW ?_
  intro v' w' hI hO hK
  have hI2 := hI
  rcases hI with ⟨_, hI⟩ | ⟨g, off, cap, rfl, s1, s2, _⟩
  · exact absurd (List.append_eq_nil_iff.1 hI).1 h0
  · rw [hN] at hI2 s1 hK ⊢
    exact h g off cap w' hI2 s1 s2 hO hK

end Go.Proofs.Ytocpmncedlenbaa
