/-
  Contract of slices.IndexFunc at []int for a function literal that may make memory of its own.
  One element appended to a slice of the call's own, at a step of a region that draws its order.
  Contracts of list.yard: ready, give.
-/
import Derived.Test.YtocpmncedlenbaaGreatDoorP8TopWeave
import Derived.Test.YtocpmncedlenbaaGreatDoorP6TopWeave
import Derived.Test.YtocpmncedlenbaaGreatDoorP18TopWeave
import Derived.Test.YtocpmncedlenbaaGreatDoorP35TopWeave
import Derived.Test.YtocpmncedlenbaaGreatDoorP33TopWeave
namespace Go.Proofs.YtocpmncedlenbaaGreatDoor
open Go.RowKit

set_option maxHeartbeats 1000000 in
set_option maxRecDepth 100000 in
theorem fn_index_only (F : FuncId) (hcf : Entered F) (caps : Array Value) (v : Value) (l : List Int) (w : World) (P : Int → Bool) (h : Reads w v l) (hl : l.length ≤ 9223372036854775807)
    (hc : ∀ x, x ∈ l → ∀ w1, Only [] w w1 → Calls Tryz.prog F (#[.int .i64 x] ++ caps) w1 fun e w' => e = .returned (.bool (P x)) ∧ Only [] w1 w') :
    Calls Tryz.prog 122 #[v, .func (.func F) #[] caps] w fun e w' => e = .returned (.int .i64 (firstIdx P l)) ∧ Only [] w w' := by
  obtain ⟨a, c, rfl, ha⟩ := h.opt
  obtain ⟨n, hn⟩ : ∃ n, l.length = n := ⟨_, rfl⟩
  have HN := Lib.hid hn
  have HC := Lib.hid hc
  rw [hn] at ha hl ⊢
  clear h hn hc
  go_enter Tryz.func122, Tryz.ntmps122
  go_wp2_with fail
  go_loopw [8] (fun vi wr => ∃ i : Nat, i ≤ n ∧ vi = .int .i64 i ∧ (∀ j, j < i → P (nth l j) = false) ∧ Only [] w wr) (fun vi _ => n - (intOf vi).toNat)
  case atStart => exact ⟨0, Nat.zero_le _, rfl, fun j hj => by omega, Only.refl _ _⟩
  case round =>
    obtain ⟨i, hi, rfl, hno, ho⟩ := hrel
    have HNO := Lib.hid hno
    clear hno
    by_cases hin : i < n
    · obtain ⟨ba, oa, rfl, k0⟩ := ha i hin
      have k0 := (ho.cell (p := ⟨ba, _, none⟩) (cell_lt k0) (by simp)).trans k0
      have hcl := HC.out (nth l i) (by simp [nth, HN.out, hin]) wr ho
      obtain ⟨z, hz⟩ : ∃ z, nth l i = z := ⟨_, rfl⟩
      have HZ := Lib.hid hz
      rw [hz] at k0 hcl
      obtain ⟨pz, hpz⟩ : ∃ p, P z = p := ⟨_, rfl⟩
      have HPZ := Lib.hid hpz
      rw [hpz] at hcl
      clear ha hz hpz
      go_wp2_with fail
      rw [hcf, Oper.upon_enter]
      refine hcl.mono ?_
      rintro e w9 ⟨rfl, ho9⟩
      have ho9 := ho.trans ho9 (by simp)
      clear hcl
      cases pz
      · go_wp2
        go_roundw
        case rel =>
          refine ⟨i + 1, by omega, by go_num, fun j hj => ?_, ho9⟩
          by_cases e : j = i
          · subst e; rw [HZ.out]; exact HPZ.out
          · exact HNO.out j (by omega)
        case measure => (simp [intOf]; try omega)
      · have hf := Lib.hid (firstIdx_at P l i (by rw [HN.out]; exact hin) HNO.out (by rw [HZ.out]; exact HPZ.out))
        go_wp2
        go_ret
        exact ⟨by rw [hf.out]; rfl, ho9⟩
    · obtain rfl : i = n := by omega
      have hf := Lib.hid (firstIdx_none P l (fun j hj => HNO.out j (by rw [HN.out] at hj; exact hj)))
      clear ha
      go_wp2
      go_ret
      exact ⟨by rw [hf.out]; rfl, ho⟩

end Go.Proofs.YtocpmncedlenbaaGreatDoor

namespace Go.Proofs.YtocpmncedlenbaaGreatDoor
open Go.RowKit Go.Deep

theorem step_rows {t e : TypeId} {k bytes : Nat} (hT : SliceOf t e k bytes) {ops : Array Oper} {o : Oper} {a : Act} {w : World} {K : Act → World → Prop} {Q : Exit → Act → World → Prop} {E : Prop} (hgd : o.guard = none) (s x : Operand)
    (ho : o.op = .call { callee := .builtin .append, args := #[s, x], argTypes := #[t, t] })
    (W : World) (base : Nat) (v : Value) (n : Nat) (xs : List Value) (B : Nat) (ys : List Value) (hown : W.ownsRow base e k v n xs) (hlen : n + 1 ≤ 1000000000) (hbase : base ≤ W.heap.size)
    (hs : a.eval s = v) (hx : a.eval x = .slice (some ⟨B, 0, none⟩) 1 1) (hW : Only [] W w) (hl : ys.length = k) (hc : ∀ j u, ys[j]? = some u → w.cell? ⟨B, j, none⟩ = some u) (h1 : ∀ u ∈ ys, u.oneCell' = true)
    (h : ∀ g cap w', w'.ownsRow base e k (.slice (some ⟨g, 0, none⟩) (n + 1) cap) (n + 1) (xs ++ ys) → Only (own v) W w' → (g ∈ own v ∨ W.heap.size ≤ g) →
      K (a.put o.dst (.slice (some ⟨g, 0, none⟩) (n + 1) cap)) w') : if Region.wanted o (yielded ops a.tmps) = true then Oper.wp Tryz.prog o a w K Q else E := by
  obtain ⟨i0, z, hi, hz0, hz1, hz2, hz3⟩ := hT.info
  have hb := hW.size
  have hsm := hT.small
  have hby : (n + 1) * bytes ≤ 140737488355328 := by
    have : (n + 1) * bytes ≤ (n + 1) * 100 := Nat.mul_le_mul_left _ hsm
    omega
  refine step_append_lies w hgd s x t ho base e i0 z k bytes hT.under hi hz0 hz1 hz2 hz3 hT.pos v n xs hs (Row.same hown hW) ⟨B, 0, none⟩ 1 1 ys hx (by simpa using hl) ?_ h1 (by decide) (by unfold maxLen; omega) hby (by omega) _ rfl ?_
  · intro j u hj
    have e : ((⟨B, 0, none⟩ : Addr).add j) = ⟨B, j, none⟩ := by unfold Addr.add; split <;> simp_all
    rw [e]
    exact hc j u hj
  · intro g cap w' k1 k2 k3 _
    exact h g cap w' k1 ((hW.mono (by simp)).grown k2 (fun k hk _ => by simp [own, hk])) (k3.imp (fun e => by simp [own, e]) (fun e => by omega))

/-- .. as a writer of a region (SeqR). -/
theorem writes_rows {t e : TypeId} {k bytes : Nat} (hT : SliceOf t e k bytes) {o : Oper} {a : Act} {w : World} {K : Value → World → Prop} (s x : Operand)
    (ho : o.op = .call { callee := .builtin .append, args := #[s, x], argTypes := #[t, t] })
    (W : World) (base : Nat) (v : Value) (n : Nat) (xs : List Value) (B : Nat) (ys : List Value) (hown : W.ownsRow base e k v n xs) (hlen : n + 1 ≤ 1000000000) (hbase : base ≤ W.heap.size)
    (hs : a.eval s = v) (hx : a.eval x = .slice (some ⟨B, 0, none⟩) 1 1) (hW : Only [] W w) (hl : ys.length = k) (hc : ∀ j u, ys[j]? = some u → w.cell? ⟨B, j, none⟩ = some u) (h1 : ∀ u ∈ ys, u.oneCell' = true)
    (h : ∀ g cap w', w'.ownsRow base e k (.slice (some ⟨g, 0, none⟩) (n + 1) cap) (n + 1) (xs ++ ys) → Only (own v) W w' → (g ∈ own v ∨ W.heap.size ≤ g) → K (.slice (some ⟨g, 0, none⟩) (n + 1) cap) w') :
    ∃ v' w', Writes Tryz.prog o a w v' w' ∧ K v' w' := by
  obtain ⟨i0, z, hi, hz0, hz1, hz2, hz3⟩ := hT.info
  have hb := hW.size
  have hsm := hT.small
  have hby : (n + 1) * bytes ≤ 140737488355328 := by
    have : (n + 1) * bytes ≤ (n + 1) * 100 := Nat.mul_le_mul_left _ hsm
    omega
  obtain ⟨g, cap, w', hr, h2, h3, h4, _⟩ := run_append_lies (P := Tryz.prog) (w := w) t o.type base e i0 z k bytes hT.under hi hz0 hz1 hz2 hz3 hT.pos v n xs (Row.same hown hW) ⟨B, 0, none⟩ 1 1 ys (by simpa using hl) (fun j u hj => by
    have e : ((⟨B, 0, none⟩ : Addr).add j) = ⟨B, j, none⟩ := by unfold Addr.add; split <;> simp_all
    rw [e]
    exact hc j u hj) h1 (by decide) (by unfold maxLen; omega) hby (by omega) _ rfl
  refine ⟨_, w', .inl ?_, h g cap w' h2 ((hW.mono (by simp)).grown h3 (fun k hk _ => by simp [own, hk])) (h4.imp (fun e => by simp [own, e]) (fun e => by omega))⟩
  unfold execOp
  simp only [ho, resolve, invoke, builtin, Sem.run_bind, Sem.run_pure, Result.andThen_ok, List.map_toArray, List.map_cons, List.map_nil, hs, hx, hr]

end Go.Proofs.YtocpmncedlenbaaGreatDoor

namespace Go.Proofs.YtocpmncedlenbaaGreatDoor
open Go.RowKit Go.Deep

/-- A yard of hands: its block Y, the blocks F (when each hand is free) and E (when each task ends), its stays vo. -/
structure YdIs (w0 w : World) (base Y F E : Nat) (vp vo : Value) (hands n : Nat) (s : LS) : Prop where
  cells : Cells w Y [vp, .slice (some ⟨F, 0, none⟩) hands hands, .slice (some ⟨E, 0, none⟩) n n, vo]
  free : Nums w F hands s.free
  ends : Nums w E n s.ends
  out : OwnStays w base vo s.out
  lo : w0.heap.size ≤ Y ∧ w0.heap.size ≤ F ∧ w0.heap.size ≤ E
  hi : Y < base ∧ F < base ∧ E < base
  ne : Y ≠ F ∧ Y ≠ E ∧ F ≠ E
  le : base ≤ w.heap.size
  only : Only [] w0 w

theorem YdIs.same {w0 w w' : World} {base Y F E : Nat} {vp vo : Value} {hands n : Nat} {s : LS} (h : YdIs w0 w base Y F E vp vo hands n s) (ho : Only [] w w') : YdIs w0 w' base Y F E vp vo hands n s :=
  ⟨h.cells.only ho (by simp), h.free.only ho (by simp), h.ends.only ho (by simp), Row.only h.out ho (by simp), h.lo, h.hi, h.ne, by have := ho.size; have := h.le; omega, h.only.trans ho (by simp)⟩

set_option maxRecDepth 100000 in
theorem list_ready1 (x Y E n bY bT : Nat) (T : Int) (g : Nat → Int) (w : World) (hY : w.cell? ⟨bY, 0, none⟩ = some (.pointer (some ⟨Y, 0, none⟩))) (hT : w.cell? ⟨bT, 0, none⟩ = some (.int .i64 T))
    (hE : w.cell? ⟨Y, 2, none⟩ = some (.slice (some ⟨E, 0, none⟩) n n)) (hN : Nums w E n g) (hx : x < n) :
    Calls Tryz.prog 165 #[.int .i64 (x : Int), .pointer (some ⟨bY, 0, none⟩), .pointer (some ⟨bT, 0, none⟩)] w fun e w' => e = .returned (.bool (decide (g x < 0) || decide (T < g x))) ∧ ∃ m, w' = w.drewN m := by
  have c := (hN x hx).1
  obtain ⟨y, hy⟩ : ∃ y, g x = y := ⟨_, rfl⟩
  rw [hy] at c ⊢
  clear hN hy
  by_cases h0 : y < 0
  · rw [decide_eq_true h0]
    go_enter Tryz.func165, Tryz.ntmps165
    go_wp2_with fail
    go_quiet (fail)
    go_wp2
    go_ret
    exact ⟨rfl, _, rfl⟩
  · rw [decide_eq_false h0]
    have h0' : 0 ≤ y := by omega
    clear h0
    go_enter Tryz.func165, Tryz.ntmps165
    go_wp2_with fail
    go_quiet (fail)
    go_wp2
    go_ret
    exact ⟨by simp [show ¬ y < 0 by omega], _, rfl⟩

theorem wide_drewN {w : World} {b k : Nat} {v : Value} (h : w.cell? ⟨b, k, none⟩ = some v) (m : Nat) : (w.drewN m).cell? ⟨b, k, none⟩ = some v := h

set_option maxRecDepth 100000 in
set_option maxHeartbeats 2000000 in
theorem list_ready (w0 w : World) (base Y F E : Nat) (vp vo : Value) (p : PlanL) (hands n : Nat) (s : LS) (h : YdIs w0 w base Y F E vp vo hands n s) (hp : InPlan w0 vp p) (hn : NeedsOk p) (hl : p.length = n) (i : Nat) (hi : i < n) (T : Int) :
    Calls Tryz.prog 125 #[.pointer (some ⟨Y, 0, none⟩), .int .i64 (i : Int), .int .i64 T] w fun e w' => e = .returned (.bool (lReady p s.ends T i)) ∧ Only [] w w' := by
  have hpw := hp.same h.only
  obtain ⟨pa, cap, rfl, hc1, hc2, _⟩ := hpw.task
  obtain ⟨pb, po, rfl⟩ := hpw.any i (by omega)
  have hal := ((Only.refl [] w).alloc (.cells #[.pointer (some ⟨Y, 0, none⟩)] 115)).alloc (.cells #[.int .i64 T] 3)
  have hp2 := hpw.same hal
  obtain ⟨ua, uc, c0, c1, hrd⟩ := hp2.at i (by omega)
  have hY := h.cells.only hal (by simp)
  have hE := h.ends.only hal (by simp)
  have y0 := hY.cell 0 _ rfl
  have y2 := hY.cell 2 _ rfl
  have k1 : ((w.alloc (.cells #[.pointer (some ⟨Y, 0, none⟩)] 115)).alloc (.cells #[.int .i64 T] 3)).cell? ⟨w.heap.size, 0, none⟩ = some (.pointer (some ⟨Y, 0, none⟩)) :=
    (((Only.refl [] _).alloc (.cells #[.int .i64 T] 3)).cell (p := ⟨w.heap.size, 0, none⟩) (by simp) (by simp)).trans ((Cells.new w #[.pointer (some ⟨Y, 0, none⟩)] 115).cell 0 _ rfl)
  have k2 : ((w.alloc (.cells #[.pointer (some ⟨Y, 0, none⟩)] 115)).alloc (.cells #[.int .i64 T] 3)).cell? ⟨w.heap.size + 1, 0, none⟩ = some (.int .i64 T) := by
    have := (Cells.new (w.alloc (.cells #[.pointer (some ⟨Y, 0, none⟩)] 115)) #[.int .i64 T] 3).cell 0 _ rfl
    rw [World.size_alloc] at this
    exact this
  have e0 := (hE i hi).1
  obtain ⟨r, hr⟩ : ∃ r, (ndOf p i).any (fun k => decide (s.ends k.toNat < 0) || decide (T < s.ends k.toNat)) = r := ⟨_, rfl⟩
  have h30 := hn.2.2 i
  have hcon := fn_contains 165 (fun _ _ => by kernel_rfl) #[.pointer (some ⟨w.heap.size, 0, none⟩), .pointer (some ⟨w.heap.size + 1, 0, none⟩)] _ (ndOf p i) _ (fun k => decide (s.ends k.toNat < 0) || decide (T < s.ends k.toNat)) hrd (by omega)
    (fun x hx q => by
      have hb := hn.2.1 i x hx
      obtain ⟨x, rfl⟩ := Int.eq_ofNat_of_zero_le hb.1
      rw [Int.toNat_natCast]
      refine (list_ready1 x Y E n w.heap.size (w.heap.size + 1) T s.ends _ (wide_drewN k1 q) (wide_drewN k2 q) (wide_drewN y2 q) (fun j hj => hE j hj) (by omega)).mono ?_
      rintro e w' ⟨rfl, m, rfl⟩
      exact ⟨rfl, q + m, by simp⟩) r hr
  have hR : lReady p s.ends T i = (decide (s.ends i < 0) && !r) := by unfold lReady; rw [hr]
  rw [hR]
  obtain ⟨y, hy⟩ : ∃ y, s.ends i = y := ⟨_, rfl⟩
  rw [hy] at e0 ⊢
  have HAL := Lib.hid hal
  obtain ⟨m, hm⟩ : ∃ m, (ndOf p i).length = m := ⟨_, rfl⟩
  rw [hm] at c1 hcon
  rw [hl] at hc1 y0
  clear h hp hpw hal hp2 hrd hY hE hr h30 hR hy hm c0 hc2
  by_cases hy0 : y < 0
  · rw [decide_eq_true hy0]
    go_enter Tryz.func125, Tryz.ntmps125
    go_wp2_with fail
    refine hcon.mono ?_
    rintro e w' ⟨rfl, q, rfl⟩
    clear hcon
    go_wp2
    go_ret
    exact ⟨by cases r <;> rfl, HAL.out.drewN q⟩
  · rw [decide_eq_false hy0]
    have hy1 : 0 ≤ y := by omega
    clear hcon hy0
    go_enter Tryz.func125, Tryz.ntmps125
    go_wp2
    go_ret
    exact ⟨rfl, HAL.out⟩

set_option maxRecDepth 100000 in
theorem list_give1 (x T : Int) (bT : Nat) (w : World) (hT : w.cell? ⟨bT, 0, none⟩ = some (.int .i64 T)) :
    Calls Tryz.prog 123 #[.int .i64 x, .pointer (some ⟨bT, 0, none⟩)] w fun e w' => e = .returned (.bool (decide (x ≤ T))) ∧ ∃ m, w' = w.drewN m := by
  go_enter Tryz.func123, Tryz.ntmps123
  go_wp2
  go_ret
  exact ⟨rfl, 0, rfl⟩

set_option maxRecDepth 100000 in
theorem list_give2 (w0 w : World) (base Y F E bY bT : Nat) (vp vo : Value) (p : PlanL) (hands n : Nat) (s : LS) (h : YdIs w0 w base Y F E vp vo hands n s) (hp : InPlan w0 vp p) (hn : NeedsOk p) (hl : p.length = n) (i : Nat) (hi : i < n) (T : Int)
    (hY : w.cell? ⟨bY, 0, none⟩ = some (.pointer (some ⟨Y, 0, none⟩))) (hT : w.cell? ⟨bT, 0, none⟩ = some (.int .i64 T)) :
    Calls Tryz.prog 124 #[.int .i64 (i : Int), .pointer (some ⟨bY, 0, none⟩), .pointer (some ⟨bT, 0, none⟩)] w fun e w' => e = .returned (.bool (lReady p s.ends T i)) ∧ Only [] w w' := by
  have hr := list_ready w0 w base Y F E vp vo p hands n s h hp hn hl i hi T
  generalize lReady p s.ends T i = r at *
  clear h hp hn hl
  go_enter Tryz.func124, Tryz.ntmps124
  go_wp2_with fail
  refine hr.mono ?_
  rintro e w' ⟨rfl, ho⟩
  clear hr
  go_wp2
  go_ret
  exact ⟨rfl, ho⟩

set_option maxRecDepth 100000 in
set_option maxHeartbeats 8000000 in
theorem list_give (w0 w : World) (base Y F E : Nat) (vp vo v : Value) (p : PlanL) (hands n T : Nat) (order : List Int) (s : LS) (h : YdIs w0 w base Y F E vp vo hands n s) (hp : InPlan w0 vp p) (hok : PlanOk p) (hl : p.length = n) (hT : T ≤ 600) (hh : hands ≤ 6) (hs : s.out.length ≤ 30)
    (hv : Reads w0 v order) (ho : OrdOk n order) (hol : order.length ≤ 30) :
    Calls Tryz.prog 60 #[.pointer (some ⟨Y, 0, none⟩), v, .int .i64 (T : Int)] w fun e w' =>
      (e = .returned (.bool false) ∧ (lHand hands s.free (T : Int) < 0 ∨ lTask p order s.ends (T : Int) < 0) ∧ Only [] w w') ∨
      (∃ hd k i : Nat, ∃ vo', e = .returned (.bool true) ∧ lHand hands s.free (T : Int) = (hd : Int) ∧ lTask p order s.ends (T : Int) = (k : Int) ∧ nth order k = (i : Int) ∧ YdIs w0 w' base Y F E vp vo' hands n (lPut p s (T : Int) hd i)) := by
  have hn := hok.needsOk
  have hbl := h.le
  have hfw := Lib.hid (fun g (hg : g ∈ own vo) => (Row.far h.out g hg).2)
  have hal := ((Only.refl [] w).alloc (.cells #[.pointer (some ⟨Y, 0, none⟩)] 115)).alloc (.cells #[.int .i64 (T : Int)] 3)
  have hy2 := h.same hal
  have k1 : ((w.alloc (.cells #[.pointer (some ⟨Y, 0, none⟩)] 115)).alloc (.cells #[.int .i64 (T : Int)] 3)).cell? ⟨w.heap.size, 0, none⟩ = some (.pointer (some ⟨Y, 0, none⟩)) :=
    (((Only.refl [] _).alloc (.cells #[.int .i64 (T : Int)] 3)).cell (p := ⟨w.heap.size, 0, none⟩) (by simp) (by simp)).trans ((Cells.new w #[.pointer (some ⟨Y, 0, none⟩)] 115).cell 0 _ rfl)
  have k2 : ((w.alloc (.cells #[.pointer (some ⟨Y, 0, none⟩)] 115)).alloc (.cells #[.int .i64 (T : Int)] 3)).cell? ⟨w.heap.size + 1, 0, none⟩ = some (.int .i64 (T : Int)) := by
    have := (Cells.new (w.alloc (.cells #[.pointer (some ⟨Y, 0, none⟩)] 115)) #[.int .i64 (T : Int)] 3).cell 0 _ rfl
    rw [World.size_alloc] at this
    exact this
  have hf := fn_index 123 (fun _ _ => by kernel_rfl) #[.pointer (some ⟨w.heap.size + 1, 0, none⟩)] _ _ _ (fun t => decide (t ≤ (T : Int))) (hy2.free.reads (by omega)) (by rw [numL_len]; omega)
    (fun x _ q => by
      refine (list_give1 x T (w.heap.size + 1) _ (wide_drewN k2 q)).mono ?_
      rintro e w' ⟨rfl, m, rfl⟩
      exact ⟨rfl, q + m, by simp⟩)
  have c1 := hy2.cells.cell 1 _ rfl
  obtain ⟨w2, hw2⟩ : ∃ w2, (w.alloc (.cells #[.pointer (some ⟨Y, 0, none⟩)] 115)).alloc (.cells #[.int .i64 (T : Int)] 3) = w2 := ⟨_, rfl⟩
  rw [hw2] at hal hy2 k1 k2 hf c1
  have hfe : firstIdx (fun t => decide (t ≤ (T : Int))) (numL hands s.free) = lHand hands s.free (T : Int) := rfl
  rw [hfe] at hf
  obtain ⟨A, hA⟩ : ∃ A, lHand hands s.free (T : Int) = A := ⟨_, rfl⟩
  have HA := Lib.hid hA
  rw [hA] at hf ⊢
  have hA1 : -1 ≤ A := by rw [← hA]; exact firstIdx_ge _ _
  have hA2 : A ≤ 6 := by
    by_cases hx : 0 ≤ A
    · obtain ⟨a, ha⟩ := Int.eq_ofNat_of_zero_le hx
      rw [ha] at hA
      have := (lHand_at hA).1
      omega
    · omega
  have hB1 : -1 ≤ lTask p order s.ends (T : Int) := firstIdx_ge _ _
  have HB2 := Lib.hid (fun k (e : lTask p order s.ends (T : Int) = ((k : Nat) : Int)) => lTask_at e)
  have HAA := Lib.hid (fun k (e : lHand hands s.free (T : Int) = ((k : Nat) : Int)) => lHand_at e)
  have hsec : Hid (∀ w3, Only [] w2 w3 → Calls Tryz.prog 122 #[v, .func (.func 124) #[] #[.pointer (some ⟨w.heap.size, 0, none⟩), .pointer (some ⟨w.heap.size + 1, 0, none⟩)]] w3 fun e w' => e = .returned (.int .i64 (lTask p order s.ends (T : Int))) ∧ Only [] w3 w') := by
    show ∀ w3, _
    intro w3 h3
    refine fn_index_only 124 (fun _ _ => by kernel_rfl) _ v order w3 (fun i => lReady p s.ends (T : Int) i.toNat) ((hv.same hy2.only).same h3) (by omega) fun x hx w4 h4 => ?_
    obtain ⟨i, hi, rfl⟩ := ho.mem x hx
    rw [Int.toNat_natCast]
    have h24 := h3.trans h4 (by simp)
    exact list_give2 w0 w4 base Y F E _ _ vp vo p hands n s (hy2.same h24) hp hn hl i hi T ((h24.cell (p := ⟨w.heap.size, 0, none⟩) (cell_lt k1) (by simp)).trans k1) ((h24.cell (p := ⟨w.heap.size + 1, 0, none⟩) (cell_lt k2) (by simp)).trans k2)
  obtain ⟨oa, oc, rfl, hoc⟩ := hv.opt
  obtain ⟨pa, cap, rfl, hc1, hc2, _⟩ := hp.task
  obtain ⟨ol, hol2⟩ : ∃ ol, order.length = ol := ⟨_, rfl⟩
  have HOC := Lib.hid hoc
  have HMEM := Lib.hid (fun k (hk : k < order.length) => (by simp [nth, hk] : nth order k ∈ order))
  rw [hol2] at hol HOC HB2 HMEM
  have hsec2 := hsec.out
  rw [hol2] at hsec2 ⊢
  obtain ⟨B, hB⟩ : ∃ B, lTask p order s.ends (T : Int) = B := ⟨_, rfl⟩
  have HB := Lib.hid hB
  have HSEC := Lib.hid hsec2
  rw [hB] at hB1 HSEC ⊢
  have HY := Lib.hid hy2
  have HW0 := Lib.hid (hp.same hy2.only)
  have HP := Lib.hid hp
  have HO := Lib.hid ho
  have HOK := Lib.hid hok
  have HAL := Lib.hid hal
  have HV := Lib.hid (hv.same hy2.only)
  clear h hp hok ho hv hoc hsec hsec2 hA hB hfe hy2 hal hn hol2
  go_enter Tryz.func60, Tryz.ntmps60
  go_wp2_with fail
  refine hf.mono ?_
  rintro e w3 ⟨rfl, m, rfl⟩
  have hs3 : Only [] w2 (w2.drewN m) := (Only.refl [] w2).drewN m
  have hcall := HSEC.out _ hs3
  clear hf
  go_wp2_with fail
  refine hcall.mono ?_
  rintro e w4 ⟨rfl, ho4⟩
  have h24 := hs3.trans ho4 (by simp)
  have hw4 : Hid (Only [] w w4) := HAL.out.trans h24 (by simp)
  clear hcall HSEC hs3 ho4 hw2
  by_cases hA0 : A < 0
  · go_wp2
    go_ret
    exact .inl ⟨rfl, .inl hA0, hw4.out⟩
  · by_cases hB0 : B < 0
    · have hA1' : 0 ≤ A := by omega
      clear hA0
      go_wp2
      go_ret
      exact .inl ⟨rfl, .inr hB0, hw4.out⟩
    · obtain ⟨hd, rfl⟩ := Int.eq_ofNat_of_zero_le (show 0 ≤ A by omega)
      obtain ⟨k, rfl⟩ := Int.eq_ofNat_of_zero_le (show 0 ≤ B by omega)
      have hhd := HAA.out hd HA.out
      obtain ⟨hk, hrd⟩ := HB2.out k HB.out
      obtain ⟨ob, oo, rfl, co⟩ := HOC.out k hk
      have co := ((HY.out.only.trans h24 (by simp)).cell (p := ⟨ob, _, none⟩) (cell_lt co) (by simp)).trans co
      have hmem : nth order k ∈ order := HMEM.out k hk
      obtain ⟨i, hi, hni⟩ := HO.out.mem _ hmem
      rw [hni] at co hrd
      rw [Int.toNat_natCast] at hrd
      have HNI := Lib.hid hni
      have hy4 := HY.out.same h24
      have hpw := HP.out.same hy4.only
      have hin : i < p.length := by rw [hl]; exact hi
      obtain ⟨pb, po, rfl⟩ := hpw.any i hin
      obtain ⟨ua, uc, pc0, _, _⟩ := hpw.at i hin
      have hwk := HOK.out.work i hin
      obtain ⟨x, hx⟩ : ∃ x, wkOf p i = x := ⟨_, rfl⟩
      have HX := Lib.hid hx
      rw [hx] at pc0 hwk
      have y0 := hy4.cells.cell 0 _ rfl
      have y1 := hy4.cells.cell 1 _ rfl
      have y2 := hy4.cells.cell 2 _ rfl
      have y3 := hy4.cells.cell 3 _ rfl
      have cE := (hy4.ends i hi).1
      have fE := (hy4.ends i hi).2
      have j1 := (h24.cell (p := ⟨w.heap.size, 0, none⟩) (cell_lt k1) (by simp)).trans k1
      have j2 := (h24.cell (p := ⟨w.heap.size + 1, 0, none⟩) (cell_lt k2) (by simp)).trans k2
      have HY4 := Lib.hid hy4
      rw [hl] at y0 hc1
      have hT0 : (0 : Int) ≤ T := by omega
      have hT6 : (T : Int) ≤ 600 := by omega
      clear hA1 hA2 hB1 hA0 hB0 hmem hni hpw hx hy4 k1 k2
      have hwrap : IntKind.i64.wrap ((T : Int) + x) = (T : Int) + x := IntWalk.i64_in _ (by omega)
      have hbT : ∀ W W' : World, ∀ S, Only S W W' → Only S W W'.drew := fun _ _ _ h => h.drew
      have hiE : Hid (Nums (w4.setCell ⟨E, i, none⟩ (.int .i64 ((T : Int) + x))).drew E n (updI s.ends i ((T : Int) + x))) := HY4.out.ends.set i ((T : Int) + x)
      have hsetE : Only [E] w4 (w4.setCell ⟨E, i, none⟩ (.int .i64 ((T : Int) + x))).drew := ((Only.refl _ _).setCell (by simp) _).drew
      have hne := HY4.out.ne
      have hhi := HY4.out.hi
      have hle := HY4.out.le
      have hcY := HY4.out.cells.only hsetE (by simp; omega)
      have hcF := HY4.out.free.only hsetE (by simp; omega)
      have hcO : Hid (OwnStays (w4.setCell ⟨E, i, none⟩ (.int .i64 ((T : Int) + x))).drew base vo s.out) := Row.only HY4.out.out hsetE (fun g hg hx => by have := (Row.far HY4.out.out g hg).1; simp at hx; omega)
      have q1 := (hsetE.cell (p := ⟨w.heap.size, 0, none⟩) (cell_lt j1) (by simp; omega)).trans j1
      have q2 := (hsetE.cell (p := ⟨w.heap.size + 1, 0, none⟩) (cell_lt j2) (by simp; omega)).trans j2
      obtain ⟨w5, hw5⟩ : ∃ w5, (w4.setCell ⟨E, i, none⟩ (.int .i64 ((T : Int) + x))).drew = w5 := ⟨_, rfl⟩
      rw [hw5] at hiE hsetE hcY hcF hcO q1 q2
      have s0 := hcY.cell 0 _ rfl
      have s1 := hcY.cell 1 _ rfl
      have s2 := hcY.cell 2 _ rfl
      have s3 := hcY.cell 3 _ rfl
      have sE := (hiE.out i hi).1
      have sEE : updI s.ends i ((T : Int) + x) i = (T : Int) + x := if_pos rfl
      rw [sEE] at sE
      have fF := (hcF hd hhd.1).2
      have cF := (hcF hd hhd.1).1
      have hO5 : Hid (Only [E] w4 w5) := hsetE
      clear hbT sEE
      go_wp2_with fail
      go_still_tail 16, (by kernel_rfl)
      go_wp2_with fail
      clear hw5 y0 y1 y2 y3 cE fE j1 j2 co pc0 hwrap
      have hiF : Hid (Nums (w5.setCell ⟨F, hd, none⟩ (.int .i64 ((T : Int) + x))).drew F hands (updI s.free hd ((T : Int) + x))) := hcF.set hd ((T : Int) + x)
      have hsetF : Only [F] w5 (w5.setCell ⟨F, hd, none⟩ (.int .i64 ((T : Int) + x))).drew := ((Only.refl _ _).setCell (by simp) _).drew
      have hdY := hcY.only hsetF (by simp; omega)
      have hdE := Lib.hid (hiE.out.only hsetF (by simp; omega))
      have hdO : Hid (OwnStays (w5.setCell ⟨F, hd, none⟩ (.int .i64 ((T : Int) + x))).drew base vo s.out) := Row.only hcO.out hsetF (fun g hg hx => by have := (Row.far hcO.out g hg).1; simp at hx; omega)
      have r1 := (hsetF.cell (p := ⟨w.heap.size, 0, none⟩) (cell_lt q1) (by simp; omega)).trans q1
      have r2 := (hsetF.cell (p := ⟨w.heap.size + 1, 0, none⟩) (cell_lt q2) (by simp; omega)).trans q2
      obtain ⟨w6, hw6⟩ : ∃ w6, (w5.setCell ⟨F, hd, none⟩ (.int .i64 ((T : Int) + x))).drew = w6 := ⟨_, rfl⟩
      rw [hw6] at hiF hsetF hdY hdE hdO r1 r2
      go_still_tail 13, (by kernel_rfl)
      go_wp2_with fail
      clear hw6 s0 s1 s2 s3 sE fF cF q1 q2 hcY hcF hcO
      have t0 := hdY.cell 0 _ rfl
      have t2 := hdY.cell 2 _ rfl
      have t3 := hdY.cell 3 _ rfl
      have g3 := hdY.free 3 _ rfl
      have tE := (hdE.out i hi).1
      have sEE : updI s.ends i ((T : Int) + x) i = (T : Int) + x := if_pos rfl
      rw [sEE] at tE
      clear sEE
      have hs6 : base ≤ w6.heap.size := by have := hO5.out.size; have := hsetF.size; omega
      have hrow : Hid (∀ m : Nat, ∀ j u, [Value.int .i64 (hd : Int), .int .i64 (i : Int), .int .i64 (T : Int), .int .i64 ((T : Int) + x)][j]? = some u → ((w6.alloc (.cells #[.int .i64 (hd : Int), .int .i64 (i : Int), .int .i64 (T : Int), .int .i64 ((T : Int) + x)] 120)).drewN m).cell? ⟨w6.heap.size, j, none⟩ = some u) := by
        show ∀ m, _
        intro m j u hj
        exact (Cells.new w6 #[.int .i64 (hd : Int), .int .i64 (i : Int), .int .i64 (T : Int), .int .i64 ((T : Int) + x)] 120).cell j u hj
      have hdY6 := Lib.hid hdY
      have hown6 : w6.ownsRow base 120 4 vo s.out.length (flatS s.out) := hdO.out
      have hfar6 := Lib.hid (fun g hg => (Row.far hown6 g hg).1)
      have hslen : s.out.length + 1 ≤ 1000000000 := by omega
      obtain ⟨va, vl, vc, rfl⟩ : ∃ a l c, vo = .slice a l c := by
        obtain ⟨a, c, e, _⟩ := Row.form hown6
        exact ⟨a, _, c, e⟩
      have hal6 := (Only.refl [] w6).alloc (.cells #[.int .i64 (hd : Int), .int .i64 (i : Int), .int .i64 (T : Int), .int .i64 ((T : Int) + x)] 120)
      have u1 := (hal6.cell (p := ⟨w.heap.size, 0, none⟩) (cell_lt r1) (by simp)).trans r1
      have u2 := (hal6.cell (p := ⟨w.heap.size + 1, 0, none⟩) (cell_lt r2) (by simp)).trans r2
      have u3 := (hal6.cell (p := ⟨Y, 3, none⟩) (cell_lt t3) (by simp)).trans t3
      have u4 := (hal6.cell (p := ⟨Y, 2, none⟩) (cell_lt t2) (by simp)).trans t2
      have u5 := (hal6.cell (p := ⟨E, i, none⟩) (cell_lt tE) (by simp)).trans tE
      clear hdY hal6
      refine wp_region_seq [16, 17, 20] [[(0, 5)], [(0, 1)]] (by kernel_rfl) (by decide +kernel) (by decide +kernel) (by decide +kernel) rfl rfl ?_
      simp only [segsOf, runW, List.getElem?_cons_succ, List.getElem?_cons_zero, List.take_succ_cons, List.take_zero, List.drop_succ_cons, List.drop_zero, Nat.reduceAdd, Nat.reduceSub]
      repeat still_step
      refine wpStill_nil ?_
      refine writes_step fun K1 hK1 => ?_
      unfold writesThen
      go_simp
      refine hK1 _ _ ?_
      clear hK1 K1
      refine wpStill_nil ?_
      refine writes_rows sliceOf_stays (.tmp 62) (.tmp 74) rfl w6 base _ _ _ w6.heap.size _ hown6 hslen hs6 rfl rfl ((Only.refl [] _).alloc _).drew rfl (hrow.out 1) (by intro u hu; simp at hu; rcases hu with rfl | rfl | rfl | rfl <;> rfl) ?_
      intro g cap2 w7 hI7 hO7 hK7
      have hC7 := hdY6.out.only hO7 (fun hx => by have := hfar6.out _ hx; omega)
      have c73 := hC7.cell 3 _ rfl
      have f73 := hC7.free 3 _ rfl
      have c7b := (hO7.cell (p := ⟨w.heap.size, 0, none⟩) (cell_lt r1) (fun hx => absurd (hfw.out _ hx) (Nat.lt_irrefl _))).trans r1
      repeat still_step
      refine wpStill_nil ?_
      refine writes_step fun K1 hK1 => ?_
      unfold writesThen
      go_simp
      refine hK1 _ _ ?_
      clear hK1 K1
      simp only [lateW, List.nil_append, List.cons_append, List.drop_succ_cons, List.drop_zero, List.flatMap_cons, List.flatMap_nil, List.take_succ_cons, List.take_zero, List.append_nil, List.getElem?_cons_succ, List.getElem?_cons_zero, Option.getD_some, List.length_cons, List.length_nil, Nat.reduceAdd, and_true]
      refine ⟨⟨?_, ?_⟩, ?_⟩
      · repeat still_step
        exact wpStill_nil rfl
      · repeat still_step
        exact wpStill_nil rfl
      have hset : Only [Y] w7 (w7.setCell ⟨Y, 3, none⟩ (.slice (some ⟨g, 0, none⟩) (s.out.length + 1) cap2)) := (Only.refl _ _).setCell (by simp) _
      have hs7 := hO7.size
      have k1 := Lib.hid (hC7.set 3 (.slice (some ⟨g, 0, none⟩) (s.out.length + 1) cap2))
      have k2 := Lib.hid ((hiF.out.only hO7 (fun hx => by have := hfar6.out _ hx; omega)).only hset (by simp; omega))
      have k3 := Lib.hid ((hdE.out.only hO7 (fun hx => by have := hfar6.out _ hx; omega)).only hset (by simp; omega))
      have k4 : Hid (OwnStays (w7.setCell ⟨Y, 3, none⟩ (.slice (some ⟨g, 0, none⟩) (s.out.length + 1) cap2)) base (.slice (some ⟨g, 0, none⟩) (s.out.length + 1) cap2) (s.out ++ [⟨(hd : Int), (i : Int), T, T + x⟩])) := by
        show OwnStays _ _ _ _
        have h9 := Row.only hI7 hset (fun g9 hg9 hx => by have := (Row.far hI7 g9 hg9).1; simp at hx; omega)
        have e9 := flatS_push s.out ⟨(hd : Int), (i : Int), T, T + x⟩
        unfold OwnStays
        rw [List.length_append, List.length_singleton, ← e9]
        exact h9
      have hlo := HY4.out.lo
      have k5 : Hid (Only [] w0 (w7.setCell ⟨Y, 3, none⟩ (.slice (some ⟨g, 0, none⟩) (s.out.length + 1) cap2))) :=
        (((HY4.out.only.trans hO5.out (fun x hx hl => by simp at hx; omega)).trans hsetF (fun x hx hl => by simp at hx; omega)).trans hO7 (fun x hx hl => by have := hfar6.out _ hx; omega)).trans hset (fun x hx hl => by simp at hx; omega)
      clear hC7 c73 f73 c7b hI7 hO7 t0 t2 t3 g3 tE u1 u2 u3 u4 u5 r1 r2
      go_wp2
      go_ret
      refine .inr ⟨hd, k, i, _, rfl, rfl, rfl, HNI.out, k1.out, ?_, ?_, ?_, hlo, hhi, hne, ?_, k5.out⟩
      · show Nums _ _ _ (updI s.free hd ((T : Int) + wkOf p i))
        rw [HX.out]; exact k2.out
      · show Nums _ _ _ (updI s.ends i ((T : Int) + wkOf p i))
        rw [HX.out]; exact k3.out
      · show OwnStays _ _ _ (s.out ++ [⟨(hd : Int), (i : Int), T, T + wkOf p i⟩])
        rw [HX.out]; exact k4.out
      · have := hset.size; omega

end Go.Proofs.YtocpmncedlenbaaGreatDoor
