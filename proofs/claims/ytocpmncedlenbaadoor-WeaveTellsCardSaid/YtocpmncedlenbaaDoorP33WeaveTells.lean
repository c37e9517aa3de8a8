/-
  Contract of weave.Parse.
-/
import Derived.Test.YtocpmncedlenbaaDoorP32WeaveTells
namespace Go.Proofs.YtocpmncedlenbaaDoor
open Go.RowKit Go.Deep

theorem results_cells4 {P : Program} {fn : Func} {p q r u : Tmp} {t1 t2 t3 t4 : TypeId} (h : fn.results = #[.cell p t1, .cell q t2, .cell r t3, .cell u t4]) (tmps : Array Value) (w : World) (a b c d : Addr) (va vb vc vd : Value)
    (hp : tmps.getD p undef = .pointer (some a)) (hq : tmps.getD q undef = .pointer (some b)) (hr : tmps.getD r undef = .pointer (some c)) (hu : tmps.getD u undef = .pointer (some d))
    (l1 : (loadVar t1 a).run P w = .ok va w) (l2 : (loadVar t2 b).run P w = .ok vb w) (l3 : (loadVar t3 c).run P w = .ok vc w) (l4 : (loadVar t4 d).run P w = .ok vd w) :
    (results fn tmps).run P w = .ok (.tuple #[va, vb, vc, vd]) w := by
  have hp' : tmps[p]?.getD undef = .pointer (some a) := by simpa using hp
  have hq' : tmps[q]?.getD undef = .pointer (some b) := by simpa using hq
  have hr' : tmps[r]?.getD undef = .pointer (some c) := by simpa using hr
  have hu' : tmps[u]?.getD undef = .pointer (some d) := by simpa using hu
  simp [results, h, hp', hq', hr', hu', asAddr, l1, l2, l3, l4]

theorem load_plan (W : World) (B : Nat) {a : Option Addr} {n c : Nat} (h : Cells W B [.slice a n c]) : (loadVar 23 ⟨B, 0, none⟩).run Tryd.prog W = .ok (.slice a n c) W := by
  have c0 := h.cell 0 _ rfl
  go_simp
theorem load_num (W : World) (B : Nat) {x : Int} (h : Cells W B [.int .i64 x]) : (loadVar 3 ⟨B, 0, none⟩).run Tryd.prog W = .ok (.int .i64 x) W := by
  have c0 := h.cell 0 _ rfl
  go_simp
theorem load_err (W : World) (B : Nat) {v : Value} (h : Cells W B [v]) : (loadVar 27 ⟨B, 0, none⟩).run Tryd.prog W = .ok v W := by
  have c0 := h.cell 0 _ rfl
  go_simp

def pText (s : ByteArray) : Option (Wv × List UInt8) := pBeside (3 * s.size + 3) (rest s 0)
/-- What is wrong with a text as a weave. -/
def weaveF (s : ByteArray) : Int :=
  if 200 < s.size then 4 else match pText s with
    | none => 2
    | some (a, r) => if r ≠ [] then 2 else if ∃ i, i < cntW a ∧ 20 < wkOf (build a []) i then 1 else if 30 < cntW a then 4 else 0

/-- How Parse ends. -/
def ParsePost (s : ByteArray) (w : World) (e : Ending) (w' : World) : Prop :=
  (weaveF s ≠ 0 ∧ e = .returned (.tuple #[.slice none 0 0, .int .i64 0, .int .i64 0, .iface 66 (.int .i64 (weaveF s))]) ∧ Only [] w w') ∨
  (weaveF s = 0 ∧ ∃ a v F, pText s = some (a, []) ∧ e = .returned (.tuple #[v, .int .i64 (workW a), .int .i64 (spanW a), .nilIface]) ∧ OwnPlan w' w.heap.size F v (build a []) ∧ (∀ x, F x → w.heap.size ≤ x ∧ x < w'.heap.size) ∧ Only [] w w')

/-- The four results' variables. -/
structure Four (w W : World) (B : Nat) (v0 v1 v2 v3 : Value) : Prop where
  h0 : Cells W B [v0]
  h1 : Cells W (B + 1) [v1]
  h2 : Cells W (B + 1 + 1) [v2]
  h3 : Cells W (B + 1 + 1 + 1) [v3]
theorem Four.only {w W W' : World} {B : Nat} {v0 v1 v2 v3 : Value} {S : List Nat} (h : Four w W B v0 v1 v2 v3) (ho : Only S W W') (hS : ∀ x ∈ S, x < B ∨ B + 1 + 1 + 1 < x) : Four w W' B v0 v1 v2 v3 :=
  ⟨h.h0.only ho (fun hx => by have := hS _ hx; omega), h.h1.only ho (fun hx => by have := hS _ hx; omega), h.h2.only ho (fun hx => by have := hS _ hx; omega), h.h3.only ho (fun hx => by have := hS _ hx; omega)⟩

theorem Four.set {w W : World} {B : Nat} {v0 v1 v2 v3 : Value} (h : Four w W B v0 v1 v2 v3) (u0 u1 u2 u3 : Value) :
    Four w ((((W.setCell ⟨B, 0, none⟩ u0).setCell ⟨B + 1, 0, none⟩ u1).setCell ⟨B + 1 + 1, 0, none⟩ u2).setCell ⟨B + 1 + 1 + 1, 0, none⟩ u3) B u0 u1 u2 u3 ∧
    Only [B, B + 1, B + 1 + 1, B + 1 + 1 + 1] W ((((W.setCell ⟨B, 0, none⟩ u0).setCell ⟨B + 1, 0, none⟩ u1).setCell ⟨B + 1 + 1, 0, none⟩ u2).setCell ⟨B + 1 + 1 + 1, 0, none⟩ u3) := by
  have s := fun (V : World) (b : Nat) (u : Value) => (Only.refl [b] V).setCell (p := ⟨b, 0, none⟩) (by simp) u
  have g0 : Cells (W.setCell ⟨B, 0, none⟩ u0) B [u0] := h.h0.set 0 u0
  have g1 : Cells ((W.setCell ⟨B, 0, none⟩ u0).setCell ⟨B + 1, 0, none⟩ u1) (B + 1) [u1] := (h.h1.only (s W B u0) (by simp <;> omega)).set 0 u1
  have g2 : Cells (((W.setCell ⟨B, 0, none⟩ u0).setCell ⟨B + 1, 0, none⟩ u1).setCell ⟨B + 1 + 1, 0, none⟩ u2) (B + 1 + 1) [u2] := ((h.h2.only (s W B u0) (by simp <;> omega)).only (s _ (B + 1) u1) (by simp <;> omega)).set 0 u2
  have g3 : Cells ((((W.setCell ⟨B, 0, none⟩ u0).setCell ⟨B + 1, 0, none⟩ u1).setCell ⟨B + 1 + 1, 0, none⟩ u2).setCell ⟨B + 1 + 1 + 1, 0, none⟩ u3) (B + 1 + 1 + 1) [u3] := (((h.h3.only (s W B u0) (by simp <;> omega)).only (s _ (B + 1) u1) (by simp <;> omega)).only (s _ (B + 1 + 1) u2) (by simp <;> omega)).set 0 u3
  refine ⟨⟨((g0.only (s _ (B + 1) u1) (by simp <;> omega)).only (s _ (B + 1 + 1) u2) (by simp <;> omega)).only (s _ (B + 1 + 1 + 1) u3) (by simp <;> omega), (g1.only (s _ (B + 1 + 1) u2) (by simp <;> omega)).only (s _ (B + 1 + 1 + 1) u3) (by simp <;> omega), g2.only (s _ (B + 1 + 1 + 1) u3) (by simp <;> omega), g3⟩, ?_⟩
  exact ((((Only.refl _ W).setCell (by simp) _).setCell (by simp) _).setCell (by simp) _).setCell (by simp) _

theorem four_fresh {w Wk W8 : World} {B : Nat} (hB : w.heap.size = B) (ho : Only [] w Wk) (h8 : Only [B, B + 1, B + 1 + 1, B + 1 + 1 + 1] Wk W8) : Only [] w W8 :=
  ho.trans h8 (fun x hx hlt => by simp at hx; omega)

set_option maxRecDepth 100000 in
set_option maxHeartbeats 4000000 in
theorem weave_Parse (s : ByteArray) (w : World) (hmax : s.size ≤ 9223372036854775807) (hsyn : VarErr "strconv.ErrSyntax" w) (hran : VarErr "strconv.ErrRange" w) :
    Calls Tryd.prog 7 #[.string s] w (ParsePost s w) := by
  have hmf : ∀ (fn : Fn) (first cap : Array Value) (w : World), (Instr.makeFunc fn first cap).run Tryd.prog w = .ok (.func fn first cap) w := fun _ _ _ _ => rfl
  obtain ⟨W4, hW4⟩ : ∃ W4, (((w.alloc (.cells #[.slice none 0 0] 23)).alloc (.cells #[.int .i64 0] 3)).alloc (.cells #[.int .i64 0] 3)).alloc (.cells #[.nilIface] 27) = W4 := ⟨_, rfl⟩
  obtain ⟨B, hB⟩ : ∃ B, w.heap.size = B := ⟨_, rfl⟩
  have ho4 : Only [] w W4 := by rw [← hW4]; exact ((((Only.refl [] w).alloc _).alloc _).alloc _).alloc _
  have hs4 : W4.heap.size = B + 1 + 1 + 1 + 1 := by rw [← hW4, ← hB]; simp
  have hF4 : Four w W4 B (.slice none 0 0) (.int .i64 0) (.int .i64 0) .nilIface := by
    rw [← hW4]
    have al := fun (a : World) (o : Obj) => (Only.refl [] a).alloc o
    have q1 := Cells.new w #[.slice none 0 0] 23
    have q2 := Cells.new (w.alloc (.cells #[.slice none 0 0] 23)) #[.int .i64 0] 3
    have q3 := Cells.new ((w.alloc (.cells #[.slice none 0 0] 23)).alloc (.cells #[.int .i64 0] 3)) #[.int .i64 0] 3
    have q4 := Cells.new (((w.alloc (.cells #[.slice none 0 0] 23)).alloc (.cells #[.int .i64 0] 3)).alloc (.cells #[.int .i64 0] 3)) #[.nilIface] 27
    simp only [World.size_alloc, hB] at q1 q2 q3 q4
    exact ⟨((q1.only (al _ _) (by simp)).only (al _ _) (by simp)).only (al _ _) (by simp), (q2.only (al _ _) (by simp)).only (al _ _) (by simp), q3.only (al _ _) (by simp), q4⟩
  have c0 := hF4.h0.cell 0 _ rfl
  have c1 := hF4.h1.cell 0 _ rfl
  have c2 := hF4.h2.cell 0 _ rfl
  have c3 := hF4.h3.cell 0 _ rfl
  have f0 := hF4.h0.free 0 _ rfl
  have f1 := hF4.h1.free 0 _ rfl
  have f2 := hF4.h2.free 0 _ rfl
  have f3 := hF4.h3.free 0 _ rfl
  have HF4 := Lib.hid hF4
  have HO4 := Lib.hid ho4
  by_cases hbig : 200 < s.size
  · have hw : weaveF s = 4 := by unfold weaveF; rw [if_pos hbig]
    clear hF4 ho4 hsyn hran
    go_enter_defers Tryd.func7, Tryd.ntmps7
    have hst := HF4.out.set (.slice none 0 0) (.int .i64 0) (.int .i64 0) (.iface 66 (.int .i64 4))
    have HST := Lib.hid hst
    clear hst
    go_wp2_with fail
    exact ⟨_, results_cells4 rfl _ _ _ _ _ _ _ _ _ _ rfl rfl rfl rfl (load_plan _ _ HST.out.1.h0) (load_num _ _ HST.out.1.h1) (load_num _ _ HST.out.1.h2) (load_err _ _ HST.out.1.h3), .inl ⟨by rw [hw]; decide, by rw [hw], four_fresh hB HO4.out HST.out.2⟩⟩
  · clear hF4 ho4
    obtain ⟨W5, hW5⟩ : ∃ W5, W4.alloc (.cells #[.string s, .int .i64 0, .slice none 0 0] 71) = W5 := ⟨_, rfl⟩
    have ho5 : Only [] W4 W5 := by rw [← hW5]; exact (Only.refl [] W4).alloc _
    obtain ⟨R, hR⟩ : ∃ R, B + 1 + 1 + 1 + 1 = R := ⟨_, rfl⟩
    have hC5 : Cells W5 R [.string s, .int .i64 0, .slice none 0 0] := by
      have := Cells.new W4 #[.string s, .int .i64 0, .slice none 0 0] 71
      rw [hW5, hs4, hR] at this; exact this
    have hs5 : W5.heap.size = R + 1 := by rw [← hW5, World.size_alloc, hs4, hR]
    have hRd : RdAt W5 w.heap.size (fun _ => False) R s 0 (.slice none 0 0) [] :=
      ⟨hC5, OwnPlanN.nil _ _ _, by simp [own, Value.ownBlock], fun h => h, fun x hx => hx.elim, by omega, by omega, by simp⟩
    have hF5 := HF4.out.only ho5 (by simp)
    have ho05 := HO4.out.trans ho5 (by simp)
    have hev : ErrsAt W5 w.heap.size := (ErrsAt.of hsyn hran).low ho05 (by simp)
    have hcall := (weave_all w.heap.size R s (by omega) s.size 0 (by omega)).2.2 (3 * s.size + 3) (by omega) _ _ _ W5 hRd hev
    have HF5 := Lib.hid hF5
    have HO5 := Lib.hid ho05
    have HB := Lib.hid hB
    have hwf : Hid (weaveF s = match pText s with
      | none => 2
      | some (a, r) => if r ≠ [] then 2 else if ∃ i, i < cntW a ∧ 20 < wkOf (build a []) i then 1 else if 30 < cntW a then 4 else 0) := by
      show _ = _
      unfold weaveF; rw [if_neg hbig]
    have hpt : pBeside (3 * s.size + 3) (rest s 0) = pText s := rfl
    rw [hpt] at hcall
    clear hpt hF5 ho05 hev hRd ho5 hC5
    go_enter_defers Tryd.func7, Tryd.ntmps7
    cases hq : pText s with
    | none =>
      rw [hq] at hcall
      have hw := hwf.out
      rw [hq] at hw
      have hw : weaveF s = 2 := hw
      go_wp2_with fail
      refine hcall.mono ?_
      rintro e w5 ⟨rfl, ho5⟩
      have hF6 := HF5.out.only ho5 (by simp [own, Value.ownBlock]; omega)
      refine leaves_cons (f := 23) (args := #[.pointer (some ⟨B, 0, none⟩), .pointer (some ⟨B + 1, 0, none⟩), .pointer (some ⟨B + 1 + 1, 0, none⟩), .pointer (some ⟨B + 1 + 1 + 1, 0, none⟩)]) (by simp) (by simp [go_sem]) ?_
      refine (parse_catch B (B + 1) (B + 1 + 1) (B + 1 + 1 + 1) _ _ _ _ w5 hF6.h0 hF6.h1 hF6.h2 hF6.h3 (by omega)).mono ?_
      rintro e u' w6 ⟨rfl, rfl, g0, g1, g2, g3, ho6⟩
      refine ⟨_, results_cells4 rfl _ _ _ _ _ _ _ _ _ _ rfl rfl rfl rfl (load_plan _ _ g0) (load_num _ _ g1) (load_num _ _ g2) (load_err _ _ g3), .inl ⟨by rw [hw]; decide, by rw [hw], ?_⟩⟩
      exact four_fresh HB.out (HO5.out.trans ho5 (fun x hx hlt => by simp [own, Value.ownBlock] at hx; have := HB.out; omega)) ho6
    | some x =>
      obtain ⟨a, r⟩ := x
      rw [hq] at hcall
      have hsuf := (p_suf _).2.2.2.1 _ _ _ hq
      have hsml := (p_nums _).2.2.2.1 _ _ hq
      go_wp2_with fail
      refine hcall.mono ?_
      intro e w5 hpost
      obtain ⟨fa, fc, la, lc, rfl⟩ := rd_forms hpost
      obtain ⟨fv', lv', pv', F', he, hRd, hf, hl, ho5, hK, hFF, hfn, hln⟩ := hpost
      injection he with he
      injection he with he
      have e2 := congrArg Array.toList he
      simp at e2
      obtain ⟨rfl, rfl⟩ := e2
      have ho05 := HO5.out.trans ho5 (fun x hx hlt => by simp [own, Value.ownBlock] at hx; have := HB.out; omega)
      have hF6 := HF5.out.only ho5 (by simp [own, Value.ownBlock]; omega)
      have hs55 := ho5.size
      obtain ⟨W6, hW6⟩ : ∃ W6, w5.alloc (.cells #[.slice fa (firstW a 0).length fc, .slice la (lastW a 0).length lc, .int .i64 (workW a), .int .i64 (spanW a)] 73) = W6 := ⟨_, rfl⟩
      have ho6 : Only [] w5 W6 := by rw [← hW6]; exact (Only.refl [] w5).alloc _
      have hC6 : Cells W6 w5.heap.size [.slice fa (firstW a 0).length fc, .slice la (lastW a 0).length lc, .int .i64 (workW a), .int .i64 (spanW a)] := by
        have := Cells.new w5 #[.slice fa (firstW a 0).length fc, .slice la (lastW a 0).length lc, .int .i64 (workW a), .int .i64 (spanW a)] 73
        rw [hW6] at this; exact this
      have hRd6 := hRd.same ho6
      have hF66 := hF6.only ho6 (by simp)
      have HF6 := Lib.hid hF66
      have HO6 := Lib.hid (ho05.trans ho6 (by simp))
      have HR6 := Lib.hid hRd6
      have HC6 := Lib.hid hC6
      have r1 := hRd6.cells.cell 1 _ rfl
      have r2 := hRd6.cells.cell 2 _ rfl
      have b0 := hF66.h0.cell 0 _ rfl
      have b1 := hF66.h1.cell 0 _ rfl
      have b2 := hF66.h2.cell 0 _ rfl
      have b3 := hF66.h3.cell 0 _ rfl
      have g0 := hF66.h0.free 0 _ rfl
      have g1 := hF66.h1.free 0 _ rfl
      have g2 := hF66.h2.free 0 _ rfl
      have g3 := hF66.h3.free 0 _ rfl
      have HFF := Lib.hid hFF
      have HKK := Lib.hid hK
      clear hcall ho05 hF6 hf hl hK hFF hfn hln hRd ho6 hC6 hF66 ho5 c0 c1 c2 c3 f0 f1 f2 f3
      by_cases hr : r = []
      · subst hr
        have hw0 := hwf.out
        rw [hq] at hw0
        have hw0 : weaveF s = if ∃ i, i < cntW a ∧ 20 < wkOf (build a []) i then 1 else if 30 < cntW a then 4 else 0 := by rw [hw0]; simp
        have HW0 := Lib.hid hw0
        clear hw0
        rw [show s.size - ([] : List UInt8).length = s.size from rfl] at r1
        obtain ⟨n, hn⟩ : ∃ n, (build a []).length = n := ⟨_, rfl⟩
        have hnc : n = cntW a := by rw [← hn, build_len]; simp
        obtain ⟨g, cap, rfl⟩ := HR6.out.plan.some (by rw [hn, hnc]; exact cntW_pos a)
        rw [hn] at r2
        have HN := Lib.hid (And.intro hn hnc)
        have hlen := HR6.out.len
        have hn200 : n ≤ 200 := by have := HR6.out.hk; rw [hn] at hlen; omega
        clear hn hnc hlen hRd6
        go_wp2_with fail
        go_loopw [33] (fun vi wr => ∃ i : Nat, i ≤ n ∧ vi = .int .i64 (i : Int) ∧ (∀ j, j < i → wkOf (build a []) j ≤ 20) ∧ Only [] W6 wr) (fun vi _ => n - (intOf vi).toNat)
        case atStart => exact ⟨0, Nat.zero_le _, rfl, fun j hj => by omega, Only.refl _ _⟩
        case round =>
          clear r1 r2 b0 b1 b2 b3 g0 g1 g2 g3 hW5 hW6 hW4
          obtain ⟨wo, rfl⟩ : ∃ wo : World, wo = wr := ⟨_, rfl⟩
          obtain ⟨i, hi, rfl, hall, ho⟩ := hrel
          have HALL := Lib.hid hall
          have HOO := Lib.hid ho
          clear hall
          by_cases hin : i < n
          · obtain ⟨na, nc, k0, k1, _, _⟩ := (HR6.out.plan.own.same ho).at i (by rw [HN.out.1]; exact hin)
            have hal : Only [] wo (wo.alloc (.cells #[.int .i64 (wkOf (build a []) i), .slice na (ndOf (build a []) i).length nc] 39)) := (Only.refl [] wo).alloc _
            obtain ⟨x, hx⟩ : ∃ x, wkOf (build a []) i = x := ⟨_, rfl⟩
            rw [hx] at k0 hal
            have HX := Lib.hid hx
            have hF := HF6.out.only (ho.trans hal (by simp)) (by simp)
            have HAL := Lib.hid hal
            have b0' := hF.h0.cell 0 _ rfl
            have g0' := hF.h0.free 0 _ rfl
            have b1' := hF.h1.cell 0 _ rfl
            have g1' := hF.h1.free 0 _ rfl
            have b2' := hF.h2.cell 0 _ rfl
            have g2' := hF.h2.free 0 _ rfl
            have b3' := hF.h3.cell 0 _ rfl
            have g3' := hF.h3.free 0 _ rfl
            by_cases hbad : 20 < x
            · have hw : weaveF s = 1 := by rw [HW0.out, if_pos ⟨i, by rw [← HN.out.2]; exact hin, by rw [HX.out]; exact hbad⟩]
              have HST := Lib.hid (hF.set (.slice none 0 0) (.int .i64 0) (.int .i64 0) (.iface 66 (.int .i64 1)))
              clear hF ho hal hx
              go_wp2_with fail
              refine leaves_cons (f := 23) (args := #[.pointer (some ⟨B, 0, none⟩), .pointer (some ⟨B + 1, 0, none⟩), .pointer (some ⟨B + 1 + 1, 0, none⟩), .pointer (some ⟨B + 1 + 1 + 1, 0, none⟩)]) (by simp) (by simp [go_sem]) ?_
              refine (parse_idle _ _ _ _ _).mono ?_
              rintro e u' w9 ⟨rfl, rfl, rfl⟩
              exact ⟨_, results_cells4 rfl _ _ _ _ _ _ _ _ _ _ rfl rfl rfl rfl (load_plan _ _ HST.out.1.h0) (load_num _ _ HST.out.1.h1) (load_num _ _ HST.out.1.h2) (load_err _ _ HST.out.1.h3), .inl ⟨by rw [hw]; decide, by rw [hw], four_fresh HB.out ((HO6.out.trans HOO.out (by simp)).trans HAL.out (by simp)) HST.out.2⟩⟩
            · have hnx : Hid (∀ j, j < i + 1 → wkOf (build a []) j ≤ 20) := fun j hj => by
                by_cases e : j = i
                · subst e; rw [HX.out]; omega
                · exact HALL.out j (by omega)
              clear hF ho hal hx
              go_wp2
              go_roundw
              case rel => exact ⟨i + 1, by omega, by go_num, hnx.out, HOO.out.trans HAL.out (by simp)⟩
              case measure => (simp [intOf]; try omega)
          · obtain rfl : i = n := by omega
            have hno : ¬ ∃ j, j < cntW a ∧ 20 < wkOf (build a []) j := fun ⟨j, h1, h2⟩ => by have := HALL.out j (by rw [HN.out.2]; exact h1); omega
            have hw0 := HW0.out
            rw [if_neg hno, ← HN.out.2] at hw0
            have hR7 := HR6.out.same ho
            have r2 := hR7.cells.cell 2 _ rfl
            rw [HN.out.1] at r2
            have hF := HF6.out.only ho (by simp)
            have hC := HC6.out.only ho (by simp)
            have b0' := hF.h0.cell 0 _ rfl
            have g0' := hF.h0.free 0 _ rfl
            have b1' := hF.h1.cell 0 _ rfl
            have g1' := hF.h1.free 0 _ rfl
            have b2' := hF.h2.cell 0 _ rfl
            have g2' := hF.h2.free 0 _ rfl
            have b3' := hF.h3.cell 0 _ rfl
            have g3' := hF.h3.free 0 _ rfl
            have HR7 := Lib.hid hR7
            clear hno ho hR7
            by_cases h30 : 30 < i
            · have hw : weaveF s = 4 := by rw [hw0, if_pos h30]
              have HST := Lib.hid (hF.set (.slice none 0 0) (.int .i64 0) (.int .i64 0) (.iface 66 (.int .i64 4)))
              clear hF hC hw0
              go_wp2_with fail
              refine leaves_cons (f := 23) (args := #[.pointer (some ⟨B, 0, none⟩), .pointer (some ⟨B + 1, 0, none⟩), .pointer (some ⟨B + 1 + 1, 0, none⟩), .pointer (some ⟨B + 1 + 1 + 1, 0, none⟩)]) (by simp) (by simp [go_sem]) ?_
              refine (parse_idle _ _ _ _ _).mono ?_
              rintro e u' w9 ⟨rfl, rfl, rfl⟩
              exact ⟨_, results_cells4 rfl _ _ _ _ _ _ _ _ _ _ rfl rfl rfl rfl (load_plan _ _ HST.out.1.h0) (load_num _ _ HST.out.1.h1) (load_num _ _ HST.out.1.h2) (load_err _ _ HST.out.1.h3), .inl ⟨by rw [hw]; decide, by rw [hw], four_fresh HB.out (HO6.out.trans HOO.out (by simp)) HST.out.2⟩⟩
            · have hw : weaveF s = 0 := by rw [hw0, if_neg h30]
              have c2 := hC.cell 2 _ rfl
              have c3 := hC.cell 3 _ rfl
              clear hw0
              have hRv := HR7.out
              obtain ⟨X1, hX1⟩ : ∃ X1, (wo.setCell ⟨B, 0, none⟩ (.slice (some ⟨g, 0, none⟩) i cap)).drew = X1 := ⟨_, rfl⟩
              have o1 : Only [B] wo X1 := by rw [← hX1]; exact ((Only.refl [B] wo).setCell (by simp) _).drew
              have k10 : Cells X1 B [.slice (some ⟨g, 0, none⟩) i cap] := by rw [← hX1]; exact (hF.h0.set 0 _).drewN 1
              obtain ⟨X2, hX2⟩ : ∃ X2, X1.setCell ⟨B + 1, 0, none⟩ (.int .i64 (workW a)) = X2 := ⟨_, rfl⟩
              have o2 : Only [B + 1] X1 X2 := by rw [← hX2]; exact (Only.refl [B + 1] X1).setCell (by simp) _
              have p11 := hF.h1.only o1 (by simp)
              have p12 := hF.h2.only o1 (by simp <;> omega)
              have p13 := hF.h3.only o1 (by simp <;> omega)
              have k21 : Cells X2 (B + 1) [.int .i64 (workW a)] := by rw [← hX2]; exact p11.set 0 _
              obtain ⟨X3, hX3⟩ : ∃ X3, X2.setCell ⟨B + 1 + 1, 0, none⟩ (.int .i64 (spanW a)) = X3 := ⟨_, rfl⟩
              have o3 : Only [B + 1 + 1] X2 X3 := by rw [← hX3]; exact (Only.refl [B + 1 + 1] X2).setCell (by simp) _
              have p22 := p12.only o2 (by simp)
              have p23 := p13.only o2 (by simp <;> omega)
              have k32 : Cells X3 (B + 1 + 1) [.int .i64 (spanW a)] := by rw [← hX3]; exact p22.set 0 _
              obtain ⟨X4, hX4⟩ : ∃ X4, X3.setCell ⟨B + 1 + 1 + 1, 0, none⟩ .nilIface = X4 := ⟨_, rfl⟩
              have o4 : Only [B + 1 + 1 + 1] X3 X4 := by rw [← hX4]; exact (Only.refl [B + 1 + 1 + 1] X3).setCell (by simp) _
              have p33 := p23.only o3 (by simp)
              have k43 : Cells X4 (B + 1 + 1 + 1) [.nilIface] := by rw [← hX4]; exact p33.set 0 _
              have z1 : Only [B, B + 1, B + 1 + 1, B + 1 + 1 + 1] wo X2 := (o1.mono (by simp)).trans (o2.mono (T := [B, B + 1, B + 1 + 1, B + 1 + 1 + 1]) (by simp)) (fun x hx _ => hx)
              have z2 : Only [B, B + 1, B + 1 + 1, B + 1 + 1 + 1] wo X3 := z1.trans (o3.mono (T := [B, B + 1, B + 1 + 1, B + 1 + 1 + 1]) (by simp)) (fun x hx _ => hx)
              have z3 : Only [B, B + 1, B + 1 + 1, B + 1 + 1 + 1] wo X4 := z2.trans (o4.mono (T := [B, B + 1, B + 1 + 1, B + 1 + 1 + 1]) (by simp)) (fun x hx _ => hx)
              have hfour : Four w X4 B (.slice (some ⟨g, 0, none⟩) i cap) (.int .i64 (workW a)) (.int .i64 (spanW a)) .nilIface :=
                ⟨((k10.only o2 (by simp)).only o3 (by simp <;> omega)).only o4 (by simp <;> omega), (k21.only o3 (by simp)).only o4 (by simp <;> omega), k32.only o4 (by simp), k43⟩
              have hRB : R = B + 1 + 1 + 1 + 1 := hR.symm
              have hs5B : B + 1 + 1 + 1 + 1 < w5.heap.size := by omega
              have hRo : ∀ x ∈ [B, B + 1, B + 1 + 1, B + 1 + 1 + 1], x < R := by simp; omega
              have hRc := hRv.cells
              have m1 := (hRc.only o1 (by simp <;> omega))
              have m2 := (hRc.only z1 (fun hx => by have := hRo _ hx; omega))
              have m3 := (hRc.only z2 (fun hx => by have := hRo _ hx; omega))
              have n1 := (hC.only o1 (by simp <;> omega))
              have n2 := (hC.only z1 (fun hx => by have := hRo _ hx; omega))
              have n3 := (hC.only z2 (fun hx => by have := hRo _ hx; omega))
              have mm1 := m1.cell 2 _ rfl
              have mm2 := m2.cell 2 _ rfl
              have mm3 := m3.cell 2 _ rfl
              rw [HN.out.1] at mm1 mm2 mm3
              have nn12 := n1.cell 2 _ rfl
              have nn13 := n1.cell 3 _ rfl
              have nn22 := n2.cell 2 _ rfl
              have nn23 := n2.cell 3 _ rfl
              have nn32 := n3.cell 2 _ rfl
              have nn33 := n3.cell 3 _ rfl
              have t1 := p11.cell 0 _ rfl
              have t1' := p11.free 0 _ rfl
              have t2 := p22.cell 0 _ rfl
              have t2' := p22.free 0 _ rfl
              have t3 := p33.cell 0 _ rfl
              have t3' := p33.free 0 _ rfl
              have HP := Lib.hid (And.intro hfour (And.intro z3 hRv))
              have H1 := Lib.hid hX1
              have H2 := Lib.hid hX2
              have H3 := Lib.hid hX3
              have H4 := Lib.hid hX4
              clear hRB hX1 hX2 hX3 hX4 o1 o2 o3 o4 k10 k21 k32 k43 p11 p12 p13 p22 p23 p33 z1 z2 z3 hfour hRc m1 m2 m3 n1 n2 n3 hF hC hRv hRo
              go_wp2_with fail
              refine wp_region_seqE [8, 9, 10, 11] [[], [(0, 8)], [(0, 8)], [(0, 8)]] (by kernel_rfl) (by decide +kernel) (by decide +kernel) (by decide +kernel) rfl rfl ?_
              simp only [segsOf, runW, List.getElem?_cons_succ, List.getElem?_cons_zero, List.take_succ_cons, List.take_zero, List.drop_succ_cons, List.drop_zero, Nat.reduceAdd, Nat.reduceSub]
              repeat still_step
              refine wpStill_nil ?_
              refine writes_step fun K1 hK1 => ?_
              unfold writesThen
              go_simp
              rw [H1.out]
              refine hK1 _ _ ?_
              clear hK1 K1
              repeat still_step
              refine wpStill_nil ?_
              refine writes_step fun K1 hK1 => ?_
              unfold writesThen
              go_simp
              rw [H2.out]
              refine hK1 _ _ ?_
              clear hK1 K1
              repeat still_step
              refine wpStill_nil ?_
              refine writes_step fun K1 hK1 => ?_
              unfold writesThen
              go_simp
              rw [H3.out]
              refine hK1 _ _ ?_
              clear hK1 K1
              repeat still_step
              refine wpStill_nil ?_
              refine writes_step fun K1 hK1 => ?_
              unfold writesThen
              go_simp
              rw [H4.out]
              refine hK1 _ _ ?_
              clear hK1 K1
              simp only [lateW, List.nil_append, List.cons_append, List.drop_zero, List.flatMap_cons, List.flatMap_nil, List.take_succ_cons, List.take_zero, List.append_nil, List.getElem?_cons_succ, List.getElem?_cons_zero, Option.getD_some, List.length_cons, List.length_nil, Nat.reduceAdd, and_true]
              refine ⟨⟨?_, ?_, ?_, ?_⟩, ?_⟩
              · exact wpStill_nil rfl
              · repeat still_step
                exact wpStill_nil rfl
              · repeat still_step
                exact wpStill_nil rfl
              · repeat still_step
                exact wpStill_nil rfl
              go_wp2_with fail
              refine leaves_cons (f := 23) (args := #[.pointer (some ⟨B, 0, none⟩), .pointer (some ⟨B + 1, 0, none⟩), .pointer (some ⟨B + 1 + 1, 0, none⟩), .pointer (some ⟨B + 1 + 1 + 1, 0, none⟩)]) (by simp) (by simp [go_sem]) ?_
              refine (parse_idle _ _ _ _ _).mono ?_
              rintro e u' w9 ⟨rfl, rfl, rfl⟩
              have hsz := HP.out.2.1.size
              have hRw := HP.out.2.2
              refine ⟨_, results_cells4 rfl _ _ _ _ _ _ _ _ _ _ rfl rfl rfl rfl (load_plan _ _ HP.out.1.h0) (load_num _ _ HP.out.1.h1) (load_num _ _ HP.out.1.h2) (load_err _ _ HP.out.1.h3), .inr ⟨hw, a, _, F', hq, rfl, ?_, fun x hx => ?_, four_fresh HB.out (HO6.out.trans HOO.out (by simp)) HP.out.2.1⟩⟩
              · have hpo := hRw.plan.own
                rw [HN.out.1] at hpo
                refine hpo.only HP.out.2.1 (fun x hx hz => ?_) (fun x hx hz => ?_)
                · rcases HKK.out x hx with h1 | h1
                  · simp [own, Value.ownBlock] at h1
                  · simp at hz; omega
                · rcases HFF.out x hx with h1 | h1
                  · exact h1
                  · simp at hz; omega
              · have := hRw.b1 x hx
                omega
      · have hrl : 0 < r.length := List.length_pos_iff.2 hr
        have hrl2 : r.length ≤ s.size := by
          have := hsuf.length_le
          rw [rest_len] at this; omega
        have hw : weaveF s = 2 := by rw [hwf.out, hq]; simp [hr]
        obtain ⟨j, hj⟩ : ∃ j, s.size - r.length = j := ⟨_, rfl⟩
        have hjs : j < s.size := by omega
        rw [hj] at r1
        have HST := Lib.hid (HF6.out.set (.slice none 0 0) (.int .i64 0) (.int .i64 0) (.iface 66 (.int .i64 2)))
        clear hj hrl hrl2 hr
        go_wp2_with fail
        refine leaves_cons (f := 23) (args := #[.pointer (some ⟨B, 0, none⟩), .pointer (some ⟨B + 1, 0, none⟩), .pointer (some ⟨B + 1 + 1, 0, none⟩), .pointer (some ⟨B + 1 + 1 + 1, 0, none⟩)]) (by simp) (by simp [go_sem]) ?_
        refine (parse_idle _ _ _ _ _).mono ?_
        rintro e u' w9 ⟨rfl, rfl, rfl⟩
        exact ⟨_, results_cells4 rfl _ _ _ _ _ _ _ _ _ _ rfl rfl rfl rfl (load_plan _ _ HST.out.1.h0) (load_num _ _ HST.out.1.h1) (load_num _ _ HST.out.1.h2) (load_err _ _ HST.out.1.h3), .inl ⟨by rw [hw]; decide, by rw [hw], four_fresh HB.out HO6.out HST.out.2⟩⟩

end Go.Proofs.YtocpmncedlenbaaDoor
