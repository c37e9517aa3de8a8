/-
  Contract of the document's ReadWeave: what it tells is what Parse does.
  Contracts of yardsame.Ints (of two equal lists) .
  Contract of yardsame.Plan (of two equal plans).
-/
import Derived.Test.YtocpmncedlenbaaDoorP43WeaveTells
import Derived.Test.YtocpmncedlenbaaDoorP34WeaveTells
import Derived.Test.YtocpmncedlenbaaDoorP5WeaveTells
import Derived.Deep.CutBlock
import Derived.Deep.DeepCutAuto
import Derived.Test.YtocpmncedlenbaaDoorP7WeaveTells
namespace Go.Proofs.YtocpmncedlenbaaDoor
open Go.RowKit Go.Deep

def qText (s : ByteArray) : Option (Wv × List UInt8) := qBeside (3 * s.size + 3) (rest s 0)
theorem qText_clip (s : ByteArray) : pText s = clipO (qText s) := (clip_parse _).2.2.2.1 _
theorem works_nums (t : Wv) : (∀ n ∈ worksW t, n ≤ 20) ↔ NumsW (fun n => n ≤ 20) t := by
  induction t with
  | num n => exact ⟨fun h => h n (by simp [worksW]), fun h x hx => by
      have : x = n := by simpa [worksW] using hx
      rw [this]; exact h⟩
  | seq a b ia ib =>
    refine ⟨fun h => ⟨ia.1 (fun n hn => h n (by simp [worksW, hn])), ib.1 (fun n hn => h n (by simp [worksW, hn]))⟩, fun h n hn => ?_⟩
    rcases (by simpa [worksW] using hn : n ∈ worksW a ∨ n ∈ worksW b) with h1 | h1
    · exact ia.2 h.1 n h1
    · exact ib.2 h.2 n h1
  | par a b ia ib =>
    refine ⟨fun h => ⟨ia.1 (fun n hn => h n (by simp [worksW, hn])), ib.1 (fun n hn => h n (by simp [worksW, hn]))⟩, fun h n hn => ?_⟩
    rcases (by simpa [worksW] using hn : n ∈ worksW a ∨ n ∈ worksW b) with h1 | h1
    · exact ia.2 h.1 n h1
    · exact ib.2 h.2 n h1
theorem clip_small (t : Wv) : (∃ i, i < cntW (clipW t) ∧ 20 < wkOf (build (clipW t) []) i) ↔ ∃ i, i < cntW t ∧ 20 < wkOf (build t []) i := by
  have h := works_small (clipW t)
  have k := works_small t
  rw [works_nums, clip_nums, ← works_nums, ← k] at h
  exact Decidable.not_iff_not.1 h
theorem clip_small' (t : Wv) : (∃ i, i < cntW t ∧ 20 < wkOf (build (clipW t) []) i) ↔ ∃ i, i < cntW t ∧ 20 < wkOf (build t []) i := by
  rw [← clip_small]; simp only [clip_cnt]
theorem weaveF_q (s : ByteArray) (h : ¬ 200 < s.size) : weaveF s = match qText s with
    | none => 2
    | some (a, r) => if r ≠ [] then 2 else if ∃ i, i < cntW a ∧ 20 < wkOf (build a []) i then 1 else if 30 < cntW a then 4 else 0 := by
  unfold weaveF
  rw [if_neg h, qText_clip]
  cases hq : qText s with
  | none => rfl
  | some x =>
    obtain ⟨a, r⟩ := x
    show (if r ≠ [] then 2 else if ∃ i, i < cntW (clipW a) ∧ 20 < wkOf (build (clipW a) []) i then 1 else if 30 < cntW (clipW a) then 4 else 0 : Int) = _
    simp only [clip_small', clip_cnt]
theorem clip_none {t : Wv} (h : ¬ ∃ i, i < cntW t ∧ 20 < wkOf (build t []) i) : clipW t = t := clip_same t ((works_nums t).1 ((works_small t).1 h))

theorem results_tmp4 {fn : Func} {t u v x : Tmp} (h : fn.results = #[.tmp t, .tmp u, .tmp v, .tmp x]) (tmps : Array Value) (P : Program) (w : World) :
    (results fn tmps).run P w = .ok (.tuple #[tmps.getD t undef, tmps.getD u undef, tmps.getD v undef, tmps.getD x undef]) w := by
  simp [results, h]

/-- How ReadWeave ends. -/
def ReadPost (s : ByteArray) (w : World) (e : Ending) (w' : World) : Prop :=
  (weaveF s ≠ 0 ∧ e = .returned (.tuple #[.slice none 0 0, .int .i64 0, .int .i64 0, .int .i64 (weaveF s)]) ∧ Only [] w w') ∨
  (weaveF s = 0 ∧ ∃ a x c, pText s = some (a, []) ∧ e = .returned (.tuple #[.slice x (cntW a) c, .int .i64 (workW a), .int .i64 (spanW a), .int .i64 0]) ∧ InPlan w' (.slice x (cntW a) c) (build a []) ∧ Only [] w w')

set_option maxRecDepth 100000 in
set_option maxHeartbeats 4000000 in
theorem ref_ReadWeave (s : ByteArray) (w : World) (hmax : s.size ≤ 9223372036854775807) : Calls Tryd.prog 6 #[.string s] w (ReadPost s w) := by
  by_cases hbig : 200 < s.size
  · have hw : weaveF s = 4 := by unfold weaveF; rw [if_pos hbig]
    have hd : decide ((200 : Int) < (s.size : Int)) = true := by simp; omega
    go_enter Tryd.func6, Tryd.ntmps6
    go_wp2_with fail
    refine bodyPost_ret (results_tmp4 rfl _ _ _) rfl ?_
    exact .inl ⟨by rw [hw]; decide, by rw [hw]; rfl, Only.refl _ _⟩
  · obtain ⟨R, hR⟩ : ∃ R, w.heap.size = R := ⟨_, rfl⟩
    obtain ⟨W5, hW5⟩ : ∃ W5, w.alloc (.cells #[.string s, .int .i64 0, .slice none 0 0, .int .i64 0] 62) = W5 := ⟨_, rfl⟩
    have ho5 : Only [] w W5 := by rw [← hW5]; exact (Only.refl [] w).alloc _
    have hC5 : Cells W5 R [.string s, .int .i64 0, .slice none 0 0, .int .i64 0] := by
      have := Cells.new w #[.string s, .int .i64 0, .slice none 0 0, .int .i64 0] 62
      rw [hW5, hR] at this; exact this
    have hs5 : W5.heap.size = R + 1 := by rw [← hW5, World.size_alloc, hR]
    have hRd : QdAt W5 w.heap.size (fun _ => False) R s 0 (.slice none 0 0) [] :=
      ⟨hC5, OwnPlanN.nil _ _ _, by simp [own, Value.ownBlock], fun h => h, fun x hx => hx.elim, by omega, by omega, by simp⟩
    have hcall := (ref_all w.heap.size R s (by omega) s.size 0 (by omega)).2.2 (3 * s.size + 3) (by omega) _ _ _ W5 hRd
    have HO5 := Lib.hid ho5
    have HB := Lib.hid hR
    have hwf := Lib.hid (weaveF_q s hbig)
    have hpt : qBeside (3 * s.size + 3) (rest s 0) = qText s := rfl
    rw [hpt] at hcall
    have hd : decide ((200 : Int) < (s.size : Int)) = false := by simp; omega
    clear hpt hRd ho5 hC5
    go_enter Tryd.func6, Tryd.ntmps6
    cases hq : qText s with
    | none =>
      rw [hq] at hcall
      have hw := hwf.out
      rw [hq] at hw
      have hw : weaveF s = 2 := hw
      go_wp2_with fail
      refine hcall.mono ?_
      rintro e w5 ⟨ga, gn, gc, ka, kn, kc, xb, yb, rfl, hL⟩
      obtain ⟨W6, hW6⟩ : ∃ W6, w5.alloc (.cells #[.slice ga gn gc, .slice ka kn kc, .int .i64 xb, .int .i64 yb] 64) = W6 := ⟨_, rfl⟩
      have ho6 : Only [] w5 W6 := by rw [← hW6]; exact (Only.refl [] w5).alloc _
      obtain ⟨j, pv', hc⟩ := hL.rc
      have c3 := (hc.only ho6 (by simp)).cell 3 _ rfl
      have hfin := Lib.hid ((HO5.out.trans hL.only (fun x hx hlt => by simp [own, Value.ownBlock] at hx; have := HB.out; omega)).trans ho6 (by simp))
      clear hcall hL hc ho6
      go_wp2_with fail
      refine bodyPost_ret (results_tmp4 rfl _ _ _) rfl ?_
      exact .inl ⟨by rw [hw]; decide, by rw [hw]; rfl, hfin.out⟩
    | some x =>
      obtain ⟨a, r⟩ := x
      rw [hq] at hcall
      have hsuf := (q_suf _).2.2 _ _ _ hq
      have hsml := (q_nums _).2.2.2.1 _ _ hq
      go_wp2_with fail
      refine hcall.mono ?_
      intro e w5 hpost
      obtain ⟨fa, fc, la, lc, rfl⟩ := qd_forms hpost
      obtain ⟨fv', lv', pv', F', he, hRd, hf, hl, ho5, hK, hFF, hfn, hln⟩ := hpost
      injection he with he
      injection he with he
      have e2 := congrArg Array.toList he
      simp at e2
      obtain ⟨rfl, rfl⟩ := e2
      have ho05 := HO5.out.trans ho5 (fun x hx hlt => by simp [own, Value.ownBlock] at hx; have := HB.out; omega)
      obtain ⟨D, hD⟩ : ∃ D, w5.heap.size = D := ⟨_, rfl⟩
      obtain ⟨W6, hW6⟩ : ∃ W6, w5.alloc (.cells #[.slice fa (firstW a 0).length fc, .slice la (lastW a 0).length lc, .int .i64 (workW a), .int .i64 (spanW a)] 64) = W6 := ⟨_, rfl⟩
      have ho6 : Only [] w5 W6 := by rw [← hW6]; exact (Only.refl [] w5).alloc _
      have hC6 : Cells W6 D [.slice fa (firstW a 0).length fc, .slice la (lastW a 0).length lc, .int .i64 (workW a), .int .i64 (spanW a)] := by
        have := Cells.new w5 #[.slice fa (firstW a 0).length fc, .slice la (lastW a 0).length lc, .int .i64 (workW a), .int .i64 (spanW a)] 64
        rw [hW6, hD] at this; exact this
      have hRd6 := hRd.same ho6
      have HO6 := Lib.hid (ho05.trans ho6 (by simp))
      have HR6 := Lib.hid hRd6
      have HC6 := Lib.hid hC6
      have r1 := hRd6.cells.cell 1 _ rfl
      have r2 := hRd6.cells.cell 2 _ rfl
      have r3 := hRd6.cells.cell 3 _ rfl
      have HFF := Lib.hid hFF
      have HKK := Lib.hid hK
      clear hcall ho05 hf hl hK hFF hfn hln hRd ho6 hC6 ho5
      by_cases hr : r = []
      · subst hr
        have hw0 := hwf.out
        rw [hq] at hw0
        have hw0 : weaveF s = if ∃ i, i < cntW a ∧ 20 < wkOf (build a []) i then 1 else if 30 < cntW a then 4 else 0 := by rw [hw0]; simp
        have HW0 := Lib.hid hw0
        clear hw0
        rw [show s.size - ([] : List UInt8).length = s.size from rfl] at r1
        obtain ⟨n, hn⟩ : ∃ n, (build a []).length = n := ⟨_, rfl⟩
        have hnc : n = cntW a := by rw [← hn, build_len]; simp
        obtain ⟨g, cap, rfl⟩ := HR6.out.plan.some (by rw [hn, hnc]; exact cntW_pos a)
        rw [hn] at r2
        have HN := Lib.hid (And.intro hn hnc)
        have hlen := HR6.out.len
        have hn200 : n ≤ 200 := by have := HR6.out.hk; rw [hn] at hlen; omega
        have HQ := Lib.hid hq
        clear hn hnc hlen hRd6 hq hsml hsuf
        go_wp2_with fail
        clear hD
        go_loopw [8] (fun vi wr => ∃ i : Nat, i ≤ n ∧ vi = .int .i64 (i : Int) ∧ (∀ j, j < i → wkOf (build a []) j ≤ 20) ∧ wr = W6) (fun vi _ => n - (intOf vi).toNat)
        case atStart => exact ⟨0, Nat.zero_le _, rfl, fun j hj => by omega, rfl⟩
        case round =>
          clear hW5 hW6 r1 r3
          obtain ⟨i, hi, rfl, hall, rfl⟩ := hrel
          have HALL := Lib.hid hall
          clear hall
          by_cases hin : i < n
          · obtain ⟨na, nc, k0, k1, _, _⟩ := HR6.out.plan.own.at i (by rw [HN.out.1]; exact hin)
            obtain ⟨x, hx⟩ : ∃ x, wkOf (build a []) i = x := ⟨_, rfl⟩
            rw [hx] at k0
            have HX := Lib.hid hx
            by_cases hbad : 20 < x
            · have hw : weaveF s = 1 := by rw [HW0.out, if_pos ⟨i, by rw [← HN.out.2]; exact hin, by rw [HX.out]; exact hbad⟩]
              clear hx
              go_wp2_with fail
              refine bodyPost_ret (results_tmp4 rfl _ _ _) rfl ?_
              exact .inl ⟨by rw [hw]; decide, by rw [hw]; rfl, HO6.out⟩
            · have hnx : Hid (∀ j, j < i + 1 → wkOf (build a []) j ≤ 20) := fun j hj => by
                by_cases e : j = i
                · subst e; rw [HX.out]; omega
                · exact HALL.out j (by omega)
              clear hx
              go_wp2
              go_roundw
              case rel => exact ⟨i + 1, by omega, by go_num, hnx.out, by first | rfl | trivial⟩
              case measure => (simp [intOf]; try omega)
          · obtain rfl : i = n := by omega
            have hno : ¬ ∃ j, j < cntW a ∧ 20 < wkOf (build a []) j := fun ⟨j, h1, h2⟩ => by have := HALL.out j (by rw [HN.out.2]; exact h1); omega
            have hw0 := HW0.out
            rw [if_neg hno, ← HN.out.2] at hw0
            have HNO := Lib.hid hno
            clear hno
            by_cases h30 : 30 < i
            · have hw : weaveF s = 4 := by rw [hw0, if_pos h30]
              clear hw0
              go_wp2_with fail
              refine bodyPost_ret (results_tmp4 rfl _ _ _) rfl ?_
              exact .inl ⟨by rw [hw]; decide, by rw [hw]; rfl, HO6.out⟩
            · have hw : weaveF s = 0 := by rw [hw0, if_neg h30]
              have c2 := HC6.out.cell 2 _ rfl
              have c3 := HC6.out.cell 3 _ rfl
              have HW := Lib.hid hw
              clear hw0 hw
              go_wp2_with fail
              go_quiet (fail)
              go_wp2
              refine bodyPost_ret (results_tmp4 rfl _ _ _) rfl ?_
              have hpl := (HR6.out.plan.own.same ((Only.refl [] wr).drewN nq)).plan
              rw [HN.out.1] at hpl
              refine .inr ⟨HW.out, a, _, _, ?_, by rw [← HN.out.2]; rfl, by rw [← HN.out.2]; exact hpl, HO6.out.drewN nq⟩
              rw [qText_clip, HQ.out]
              show some (clipW a, []) = _
              rw [clip_none HNO.out]
      · have hw : weaveF s = 2 := by rw [hwf.out, hq]; simp [hr]
        have hrl : 0 < r.length := List.length_pos_iff.2 hr
        have hsl := hsuf.length_le
        rw [rest_len] at hsl
        obtain ⟨j, hj, hjl⟩ : ∃ j, s.size - r.length = j ∧ j < s.size := ⟨_, rfl, by omega⟩
        rw [hj] at r1
        have hdl : decide (j < s.size) = true := by simpa using hjl
        clear hj hrl hsl hr hsml hsuf hq hRd6 hD r2
        go_wp2_with fail
        refine bodyPost_ret (results_tmp4 rfl _ _ _) rfl ?_
        exact .inl ⟨by rw [hw]; decide, by rw [hw]; rfl, HO6.out⟩

end Go.Proofs.YtocpmncedlenbaaDoor

namespace Go.Proofs.YtocpmncedlenbaaDoor
open Go.RowKit

set_option maxHeartbeats 1000000 in
theorem same_ints (u v : Value) (xs : List Int) (w : World) (hu : Reads w u xs) (hv : Reads w v xs) (hl : xs.length ≤ 1000000) :
    Calls Tryd.prog 26 #[u, v] w fun e w' => e = .returned (.bool true) ∧ ∃ n, w' = w.drewN n := by
  obtain ⟨a, ca, rfl, ha⟩ := hu.opt
  obtain ⟨b, cb, rfl, hb⟩ := hv.opt
  obtain ⟨n, hn⟩ : ∃ n, xs.length = n := ⟨_, rfl⟩
  rw [hn] at ha hb hl ⊢
  clear hu hv hn
  go_enter Tryd.func26, Tryd.ntmps26
  go_wp2_with fail
  go_loopw [5] (fun vi wr => ∃ i : Nat, i ≤ n ∧ vi = .int .i64 i ∧ ∃ m, wr = w.drewN m) (fun vi _ => n - (intOf vi).toNat)
  case atStart => exact ⟨0, Nat.zero_le _, rfl, 0, rfl⟩
  case round =>
    obtain ⟨i, hi, rfl, m, rfl⟩ := hrel
    by_cases hin : i < n
    · obtain ⟨ba, oa, rfl, k0⟩ := ha i hin
      obtain ⟨bb, ob, rfl, k1⟩ := hb i hin
      obtain ⟨z, hz⟩ : ∃ z, nth xs i = z := ⟨_, rfl⟩
      rw [hz] at k0 k1
      clear ha hb hz
      go_wp2_with fail
      go_quiet (fail)
      go_wp2
      go_roundw
      case rel => exact ⟨i + 1, by omega, by go_num, _, rfl⟩
      case measure => (simp [intOf]; try omega)
    · obtain rfl : i = n := by omega
      clear ha hb
      go_wp2
      go_ret
      exact ⟨rfl, _, rfl⟩


end Go.Proofs.YtocpmncedlenbaaDoor

namespace Go.Proofs.YtocpmncedlenbaaDoor
open Go.RowKit Go.Deep

set_option maxRecDepth 100000 in
theorem same_plan (u v : Value) (p : PlanL) (w : World) (hu : InPlan w u p) (hv : InPlan w v p) (hl : p.length ≤ 1000) (hnd : ∀ i, i < p.length → (ndOf p i).length ≤ 1000000) :
    Calls Tryd.prog 9 #[u, v] w fun e w' => e = .returned (.bool true) ∧ Only [] w w' := by
  have HU := Lib.hid hu
  have HV := Lib.hid hv
  have HND := Lib.hid hnd
  obtain ⟨a, ca, rfl, _⟩ := hu.task
  obtain ⟨b, cb, rfl, _⟩ := hv.task
  obtain ⟨n, hn⟩ : ∃ n, p.length = n := ⟨_, rfl⟩
  have HN := Lib.hid hn
  rw [hn] at HU HV hl HND ⊢
  clear hu hv hn hnd
  go_enter Tryd.func9, Tryd.ntmps9
  go_wp2_with fail
  go_loopw [5, 6] (fun vi _ wr => ∃ i : Nat, i ≤ n ∧ vi = .int .i64 (i : Int) ∧ Only [] w wr) (fun vi _ _ => n - (intOf vi).toNat)
  case atStart => exact ⟨0, Nat.zero_le _, rfl, Only.refl _ _⟩
  case round =>
    obtain ⟨wo, rfl⟩ : ∃ wo : World, wo = wr := ⟨_, rfl⟩
    obtain ⟨i, hi, rfl, ho⟩ := hrel
    by_cases hin : i < n
    · have hip : i < p.length := by rw [HN.out]; exact hin
      obtain ⟨pb, po, rfl⟩ := HU.out.any i hip
      obtain ⟨qb, qo, rfl⟩ := HV.out.any i hip
      obtain ⟨a1, a2, k0, k1, r1⟩ := (HU.out.same ho).at i hip
      obtain ⟨b1, b2, j0, j1, r2⟩ := (HV.out.same ho).at i hip
      obtain ⟨x, hx⟩ : ∃ x, wkOf p i = x := ⟨_, rfl⟩
      obtain ⟨m, hm⟩ : ∃ m, (ndOf p i).length = m := ⟨_, rfl⟩
      have HS := Lib.hid (fun q => Calls.quiet_of (same_ints _ _ (ndOf p i) (wo.drewN q) (r1.drewN q) (r2.drewN q) (HND.out i hin)))
      rw [hx] at k0 j0
      rw [hm] at k1 j1 HS
      have HO := Lib.hid ho
      clear r1 r2 hx hm hip ho
      go_wp2_with fail
      go_quiet ((go_at_call 26; exact HS.out _))
      have k0' : (wo.drewN nq).cell? ⟨pb, po + i * 2, none⟩ = some (.int .i64 x) := k0
      have j0' : (wo.drewN nq).cell? ⟨qb, qo + i * 2, none⟩ = some (.int .i64 x) := j0
      obtain ⟨w9, hw9⟩ : ∃ w9, wo.drewN nq = w9 := ⟨_, rfl⟩
      rw [hw9] at k0' j0' ⊢
      have HO9 := Lib.hid (show Only [] w w9 by rw [← hw9]; exact HO.out.drewN nq)
      clear k0 k1 j0 j1 HS hw9 HO
      go_wp2_with fail
      go_quiet (fail)
      go_wp2
      go_roundw
      case rel => exact ⟨i + 1, by omega, by go_num, HO9.out.drewN _⟩
      case measure => (simp [intOf]; try omega)
    · obtain rfl : i = n := by omega
      go_wp2
      go_ret
      exact ⟨rfl, ho⟩

end Go.Proofs.YtocpmncedlenbaaDoor
