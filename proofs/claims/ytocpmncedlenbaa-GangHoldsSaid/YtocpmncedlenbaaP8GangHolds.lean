/-
  A list put behind one of the call's own, at a step of a region that draws its order.
  Contracts of hand.All and spill.All.
-/
import Derived.Test.YtocpmncedlenbaaP7GangHolds
import Derived.Test.YtocpmncedlenbaaP5GangHolds
import Derived.Test.YtocpmncedlenbaaP6GangHolds
namespace Go.Proofs.Ytocpmncedlenbaa
open Go.RowKit Go.Deep

/-- What such an append does. -/
theorem run_reads {w : World} (ty : TypeId) (W : World) (base : Nat) (v : Value) (xs : List Int) (u : Value) (ys : List Int) (hown : Ints W base v xs) (hu : Reads W u ys) (hlen : xs.length + ys.length ≤ 1000000000) (hbase : base ≤ W.heap.size) (hW : Only [] W w) :
    ∃ v' w', (Builtin.append_ #[22, 22] ty #[v, u]).run Try.prog w = .ok v' w' ∧ Ints w' base v' (xs ++ ys) ∧ Only (own v) W w' ∧ Kin W (own v) (own v') := by
  obtain ⟨i0, hi, hz0, hz1, hz2⟩ := info_int
  have hb := hW.size
  have hown' := hown.only hW (by simp)
  rcases hu with ⟨rfl, rfl | ⟨y, cap, rfl, hcap⟩⟩ | ⟨h0, b, off, cap, rfl, h1, h2, h3⟩
  · exact ⟨v, w, run_append_owned_none (P := Try.prog) (w := w) base 22 ty 3 i0 1 Try.underlying22 hi v xs.length _ hown', by simpa using hown', hW.mono (by simp), Kin.refl _ _⟩
  · obtain ⟨v', w', hr, k1, k2, _, k4⟩ := run_append_own_at (P := Try.prog) (w := w) base 22 ty 3 i0 (.int .i64 0) 1 8 Try.underlying22 hi hz0 hz1 hz2 rfl (by decide) v xs.length _ hown' y 0 cap [] rfl (by simp) (by simp) (by unfold maxLen; simp at hlen; omega) (by simp at hlen; omega) (by omega)
    exact ⟨v', w', hr, by unfold Ints; simpa using k1, (hW.mono (by simp)).grown k2 (fun k hk _ => by simp [own, hk]), kin_of k4 hb⟩
  · obtain ⟨v', w', hr, k1, k2, _, k4⟩ := run_append_own_at (P := Try.prog) (w := w) base 22 ty 3 i0 (.int .i64 0) 1 8 Try.underlying22 hi hz0 hz1 hz2 rfl (by decide) v xs.length _ hown' ⟨b, off, none⟩ ys.length cap (ys.map (Value.int .i64)) (by simp) (fun j u hj => by
      have hjl : j < ys.length := by
        rcases Nat.lt_or_ge j ys.length with h | h
        · exact h
        · rw [List.getElem?_eq_none (by simpa using h)] at hj; cases hj
      have e : u = .int .i64 (nth ys j) := by
        rw [List.getElem?_map, List.getElem?_eq_getElem hjl] at hj
        simp at hj
        rw [← hj]
        simp [nth, hjl]
      have e2 : ({ block := b, off := off, spot := none } : Addr).add j = ⟨b, off + j, none⟩ := by
        unfold Addr.add
        split
        · rename_i h; subst h; rfl
        · rfl
      have hcell := h3 j hjl
      rw [e, e2, hW.cell (p := ⟨b, off + j, none⟩) (cell_lt hcell) (by simp)]
      exact hcell) (fun u hu => by simp at hu; obtain ⟨n, _, rfl⟩ := hu; rfl) (by unfold maxLen; omega) (by omega) (by omega)
    exact ⟨v', w', hr, by unfold Ints; simpa using k1, (hW.mono (by simp)).grown k2 (fun k hk _ => by simp [own, hk]), kin_of k4 hb⟩

theorem step_append_reads {ops : Array Oper} {o : Oper} {a : Act} {w : World} {K : Act → World → Prop} {Q : Exit → Act → World → Prop} {E : Prop} (hgd : o.guard = none) (s x : Operand)
    (ho : o.op = .call { callee := .builtin .append, args := #[s, x], argTypes := #[22, 22] })
    (W : World) (base : Nat) (v : Value) (xs : List Int) (u : Value) (ys : List Int) (hown : Ints W base v xs) (hu : Reads W u ys) (hlen : xs.length + ys.length ≤ 1000000000) (hbase : base ≤ W.heap.size)
    (hs : a.eval s = v) (hx : a.eval x = u) (hW : Only [] W w)
    (h : ∀ v' w', Ints w' base v' (xs ++ ys) → Only (own v) W w' → Kin W (own v) (own v') → K (a.put o.dst v') w') : if Region.wanted o (yielded ops a.tmps) = true then Oper.wp Try.prog o a w K Q else E := by
  rw [if_pos (by unfold Region.wanted; rw [hgd])]
  obtain ⟨v', w', hr, k1, k2, k3⟩ := run_reads (w := w) o.type W base v xs u ys hown hu hlen hbase hW
  have he : (execOp a.eval o).run Try.prog w = .ok (.value v') w' := by
    unfold execOp
    simp only [ho, resolve, invoke, builtin, Sem.run_bind, Sem.run_pure, Result.andThen_ok, List.map_toArray, List.map_cons, List.map_nil, hs, hx, hr]
  unfold Oper.wp
  rw [he]
  exact h v' w' k1 k2 k3

end Go.Proofs.Ytocpmncedlenbaa

namespace Go.Proofs.Ytocpmncedlenbaa
open Go.RowKit Go.Deep

def nearL (near : Int) : List Int := if near < 0 then [] else [near]

set_option maxRecDepth 100000 in
theorem Hand.all (b rb room : Nat) (near : Int) (l : List Int) (w : World) (h : HandIs w b rb near room l) :
    Calls Try.prog 26 #[.pointer (some ⟨b, 0, none⟩)] w fun e w' => ∃ v, e = .returned v ∧ Ints w' w.heap.size v (l ++ nearL near) ∧ Only [] w w' := by
  have c0 := h.cells.cell 0 _ rfl
  have c1 := h.cells.cell 1 _ rfl
  have hle := h.ring.le
  have hrm := h.ring.room
  have HH := Lib.hid h
  by_cases hn : near < 0
  · have e : nearL near = [] := by unfold nearL; rw [if_pos hn]
    rw [e, List.append_nil]
    have ha := Ring.all rb room l w h.ring
    clear h e
    go_enter Try.func26, Try.ntmps26
    go_wp2_with fail
    refine ha.mono ?_
    rintro e w1 ⟨v, rfl, hI, ho⟩
    clear ha
    go_wp2
    go_ret
    exact ⟨_, rfl, hI, ho⟩
  · have e : nearL near = [near] := by unfold nearL; rw [if_neg hn]
    rw [e]
    have hd : decide (near < 0) = false := by simpa using hn
    have h' := h
    clear h e
    go_enter Try.func26, Try.ntmps26
    have HR := Lib.hid h'.ring
    have HC := Lib.hid h'.cells
    obtain ⟨n, hn'⟩ : ∃ n, l.length = n := ⟨_, rfl⟩
    have hl : n ≤ 16 := by omega
    have HN := Lib.hid hn'
    clear h' c0 c1 hle hrm HH hn' hn
    have c0 := HC.out.cell 0 _ rfl
    have c1 := HC.out.cell 1 _ rfl
    have c1a := (HC.out.only ((Only.refl [] w).alloc (.cells #[.int .i64 near] 3)) (by simp)).cell 1 _ rfl
    go_wp2_with fail
    go_region_law (first
      | (go_simp; go_at_call 49; refine (Ring.all rb room l _ (by first | exact HR.out | exact HR.out.drewN _ | exact (HR.out.only ((Only.refl [] w).alloc _) (by simp)) | exact (HR.out.only ((Only.refl [] w).alloc _) (by simp)).drewN _)).mono ?_; rintro e w1 ⟨v, rfl, hI, ho⟩; obtain ⟨va, vc, rfl, _⟩ := hI.opt; rw [HN.out] at hI ⊢; have q0 := ((show Cells _ b _ by first | exact HC.out | exact HC.out.drewN _ | exact (HC.out.only ((Only.refl [] w).alloc _) (by simp)) | exact (HC.out.only ((Only.refl [] w).alloc _) (by simp)).drewN _).only ho (by simp)).cell 0 _ rfl; have HI := Lib.hid (And.intro (show Ints w1 w.heap.size (.slice va n vc) l from hI.mono (by first | exact Nat.le_refl _ | (simp))) (show Only [] w w1 by first | exact ho | exact (((Only.refl [] w).alloc _).drew).trans ho (by simp) | exact ((Only.refl [] w).alloc _).trans ho (by simp) | exact ((Only.refl [] w).drew).trans ho (by simp))))
      | (refine step_push rfl (.tmp 17) (.tmp 22) rfl w1 w.heap.size _ l w1.heap.size near n HI.out.1 HN.out (by omega) HI.out.2.size rfl rfl (by first | exact (Only.refl [] w1).alloc _ | exact ((Only.refl [] w1).alloc _).drew | exact ((Only.refl [] w1).alloc _).drewN _) (World.cell?_alloc_at _ _ _ _ rfl) ?_; intro g cap2 w5 hI5 hO5 hg5)
      | (refine step_push rfl (.tmp 17) (.tmp 22) rfl w1 w.heap.size _ l w.heap.size near n HI.out.1 HN.out (by omega) HI.out.2.size rfl rfl (by first | exact Only.refl [] w1 | exact (Only.refl [] w1).drew | exact (Only.refl [] w1).drewN _) (by first | exact (ho.cell (p := ⟨w.heap.size, 0, none⟩) (by simp) (by simp)).trans (World.cell?_alloc_at _ _ _ _ rfl)) ?_; intro g cap2 w5 hI5 hO5 hg5))
    all_goals
      have hfar := fun x (hx : x ∈ own (.slice va n vc)) => HI.out.1.own_lt x hx
      have hfin := Lib.hid (And.intro hI5 (HI.out.2.trans hO5 (fun x hx hlt => by have := hfar x hx; omega)))
      clear hI5 hO5 hg5 hfar
      go_wp2
      go_ret
      exact ⟨_, rfl, hfin.out.1, hfin.out.2⟩

set_option maxRecDepth 100000 in
theorem Spill.all (fp : List Nat) (b room : Nat) (all : List Int) (w : World) (h : SpillIs w fp b room all) :
    Calls Try.prog 25 #[.pointer (some ⟨b, 0, none⟩)] w fun e w' => ∃ v, e = .returned v ∧ Ints w' w.heap.size v all ∧ Only [] w w' := by
  obtain ⟨rb, hv, r, rfl, hl⟩ := h
  obtain ⟨A, hA⟩ : ∃ A, all.take room = A := ⟨_, rfl⟩
  obtain ⟨H, hH⟩ : ∃ H, all.drop room = H := ⟨_, rfl⟩
  have hAH : A ++ H = all := by rw [← hA, ← hH]; exact List.take_append_drop _ _
  have hlen : A.length + H.length ≤ 60 := by rw [← List.length_append, hAH]; exact hl
  rw [hA, hH] at r
  rw [← hAH]
  have c0 := r.cells.cell 0 _ rfl
  have c2 := r.cells.cell 2 _ rfl
  have HR := Lib.hid r.ring
  have HS := Lib.hid r.heap.reads
  have HC := Lib.hid r.cells
  obtain ⟨n, hn'⟩ : ∃ n, A.length = n := ⟨_, rfl⟩
  have HN := Lib.hid hn'
  have HL := Lib.hid hlen
  obtain ⟨m, hm⟩ : ∃ m, (A ++ H).length = m := ⟨_, rfl⟩
  have HM := Lib.hid hm
  obtain ⟨ha, hc, hve, _⟩ := r.heap.reads.opt
  subst hve
  obtain ⟨k, hk⟩ : ∃ k, H.length = k := ⟨_, rfl⟩
  rw [hk] at c2 HS HC
  clear r hl hA hH hAH hlen hn' hk hm
  go_enter Try.func25, Try.ntmps25
  go_wp2_with fail
  go_region_law (first
    | (go_simp; go_at_call 49; refine (Ring.all rb room A _ (by first | exact HR.out | exact HR.out.drewN _)).mono ?_; rintro e w1 ⟨v, rfl, hI, ho⟩; obtain ⟨va, vc, rfl, _⟩ := hI.opt; rw [HN.out] at hI ⊢; have q2 := ((show Cells _ b _ by first | exact HC.out | exact HC.out.drewN _).only ho (by simp)).cell 2 _ rfl; have HI := Lib.hid (And.intro (show Ints w1 w.heap.size (.slice va n vc) A from hI.mono (by first | exact Nat.le_refl _ | (simp))) (show Only [] w w1 by first | exact ho | exact ((Only.refl [] w).drew).trans ho (by simp))))
    | (refine step_append_reads rfl (.tmp 7) (.tmp 11) rfl w1 w.heap.size _ A _ H HI.out.1 (HS.out.same HI.out.2) (by have := HL.out; omega) HI.out.2.size rfl rfl (by first | exact Only.refl [] w1 | exact (Only.refl [] w1).drew | exact (Only.refl [] w1).drewN _) ?_; intro v5 w5 hI5 hO5 hg5; obtain ⟨v5a, v5c, rfl, _⟩ := hI5.opt; rw [HM.out] at hI5 ⊢))
  all_goals
    have hfar := fun x (hx : x ∈ own (.slice va n vc)) => HI.out.1.own_lt x hx
    have hfin := Lib.hid (And.intro hI5 (HI.out.2.trans hO5 (fun x hx hlt => by have := hfar x hx; omega)))
    clear hI5 hO5 hg5 hfar
    go_wp2
    go_ret
    exact ⟨_, rfl, hfin.out.1, hfin.out.2⟩

end Go.Proofs.Ytocpmncedlenbaa
