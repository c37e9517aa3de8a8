/-
  weave.Parse and Measure, and weaves in plain words (the texts WeaveE, F, G, T, H, U in one).
-/
import Derived.Test.YtloojhnhialenaaDoorWeaveD
import Derived.Test.YtloojhnhialenaaDoorErrV
import Derived.Test.YtloojhnhialenaaDoorSeqE
import Derived.Defers
import Derived.Recover
namespace Go.Proofs.YtloojhnhialenaaDoor

section
open Go.RowKit Go.Deep

theorem weave_all (base R : Nat) (s : ByteArray) (hs : s.size ≤ 200) : ∀ N k, s.size - k ≤ N →
    (∀ f, 3 * (s.size - k) + 1 ≤ f → ∀ F pv p w, RdAt w base F R s k pv p → ErrsAt w base → Calls Tryd.prog 75 #[.pointer (some ⟨R, 0, none⟩)] w (RdPost base F R s pv p w (pOne f (rest s k)))) ∧
    (∀ f, 3 * (s.size - k) + 2 ≤ f → ∀ F pv p w, RdAt w base F R s k pv p → ErrsAt w base → Calls Tryd.prog 55 #[.pointer (some ⟨R, 0, none⟩)] w (RdPost base F R s pv p w (pBehind f (rest s k)))) ∧
    (∀ f, 3 * (s.size - k) + 3 ≤ f → ∀ F pv p w, RdAt w base F R s k pv p → ErrsAt w base → Calls Tryd.prog 38 #[.pointer (some ⟨R, 0, none⟩)] w (RdPost base F R s pv p w (pBeside f (rest s k)))) := by
  intro N
  induction N with
  | zero =>
    intro k hk
    have h1 : ∀ k, s.size - k ≤ 0 → ∀ f, 3 * (s.size - k) + 1 ≤ f → ∀ F pv p w, RdAt w base F R s k pv p → ErrsAt w base → Calls Tryd.prog 75 #[.pointer (some ⟨R, 0, none⟩)] w (RdPost base F R s pv p w (pOne f (rest s k))) := by
      intro k hk f hf F pv p w h hv
      obtain ⟨f0, rfl⟩ : ∃ f0, f = f0 + 1 := ⟨f - 1, by omega⟩
      refine weave_one base R s hs f0 k (fun hc => ?_) F pv p w h hv
      rw [rest_end s k (by omega)] at hc; cases hc
    have h2 : ∀ k, s.size - k ≤ 0 → ∀ f, 3 * (s.size - k) + 2 ≤ f → ∀ F pv p w, RdAt w base F R s k pv p → ErrsAt w base → Calls Tryd.prog 55 #[.pointer (some ⟨R, 0, none⟩)] w (RdPost base F R s pv p w (pBehind f (rest s k))) := by
      intro k hk f hf F pv p w h hv
      obtain ⟨f0, rfl⟩ : ∃ f0, f = f0 + 1 := ⟨f - 1, by omega⟩
      exact weave_behind base R s hs f0 k (by omega) (fun k' f' hk' hf' => h1 k' (by omega) f' hf') F pv p w h hv
    refine ⟨h1 k hk, h2 k hk, ?_⟩
    intro f hf F pv p w h hv
    obtain ⟨f0, rfl⟩ : ∃ f0, f = f0 + 1 := ⟨f - 1, by omega⟩
    exact weave_beside base R s hs f0 k (by omega) (fun k' f' hk' hf' => h2 k' (by omega) f' hf') F pv p w h hv
  | succ N ih =>
    intro k hk
    have h1 : ∀ k, s.size - k ≤ N + 1 → ∀ f, 3 * (s.size - k) + 1 ≤ f → ∀ F pv p w, RdAt w base F R s k pv p → ErrsAt w base → Calls Tryd.prog 75 #[.pointer (some ⟨R, 0, none⟩)] w (RdPost base F R s pv p w (pOne f (rest s k))) := by
      intro k hk f hf F pv p w h hv
      obtain ⟨f0, rfl⟩ : ∃ f0, f = f0 + 1 := ⟨f - 1, by omega⟩
      refine weave_one base R s hs f0 k (fun hc => ?_) F pv p w h hv
      have hks : k < s.size := by
        rcases Nat.lt_or_ge k s.size with h' | h'
        · exact h'
        · rw [rest_end s k h'] at hc; cases hc
      exact (ih (k + 1) (by omega)).2.2 f0 (by omega)
    have h2 : ∀ k, s.size - k ≤ N + 1 → ∀ f, 3 * (s.size - k) + 2 ≤ f → ∀ F pv p w, RdAt w base F R s k pv p → ErrsAt w base → Calls Tryd.prog 55 #[.pointer (some ⟨R, 0, none⟩)] w (RdPost base F R s pv p w (pBehind f (rest s k))) := by
      intro k hk f hf F pv p w h hv
      obtain ⟨f0, rfl⟩ : ∃ f0, f = f0 + 1 := ⟨f - 1, by omega⟩
      exact weave_behind base R s hs f0 k (by omega) (fun k' f' hk' hf' => h1 k' (by omega) f' hf') F pv p w h hv
    refine ⟨h1 k hk, h2 k hk, ?_⟩
    intro f hf F pv p w h hv
    obtain ⟨f0, rfl⟩ : ∃ f0, f = f0 + 1 := ⟨f - 1, by omega⟩
    exact weave_beside base R s hs f0 k (by omega) (fun k' f' hk' hf' => h2 k' (by omega) f' hf') F pv p w h hv

end

section
open Go.RowKit Go.Deep

set_option maxRecDepth 100000 in
theorem parse_idle (a b c d : Value) (w : World) :
    CallsD Tryd.prog 37 #[a, b, c, d] .returning w fun e u' w' => e = .returned (.tuple #[]) ∧ u' = .returning ∧ w' = w := by
  refine callsD_of_wpS Tryd.func37 rfl fun c₀ cs hu => ?_
  apply wpS_seq
  apply wpS_region
  simp [wpOpsS, go_sem, recoverD, hu, Tryd.ntmps37, Exit.thenS]
  have ht : #[a, b, c, d] ++ (Array.replicate 12 undef).setIfInBounds 3 Value.nilIface = #[a, b, c, d, undef, undef, undef, .nilIface, undef, undef, undef, undef, undef, undef, undef, undef] := rfl
  rw [ht]
  clear ht
  refine wpS_of_wp ?_
  go_wp2
  cases c₀
  simp_all [bodyPostS, results, Tryd.results37]

theorem assert_wrong (v : Value) (w : World) : (Instr.typeAssert (.iface 87 v) 20 87 true).run Tryd.prog w = .ok (.tuple #[v, .bool true]) w := by
  have hu := Tryd.underlying87
  simp [Instr.typeAssert, run_underlying hu]

set_option maxRecDepth 100000 in
theorem parse_catch (a b c d : Nat) (x0 x1 x2 x3 : Value) (w : World) (hA : Cells w a [x0]) (hB : Cells w b [x1]) (hC : Cells w c [x2]) (hD : Cells w d [x3]) (hab : a ≠ b ∧ a ≠ c ∧ a ≠ d ∧ b ≠ c ∧ b ≠ d ∧ c ≠ d) :
    CallsD Tryd.prog 37 #[.pointer (some ⟨a, 0, none⟩), .pointer (some ⟨b, 0, none⟩), .pointer (some ⟨c, 0, none⟩), .pointer (some ⟨d, 0, none⟩)] (.panicking [{ v := .iface 87 (.agg #[.int .i64 2]), recovered := false }]) w fun e u' w' =>
      e = .returned (.tuple #[]) ∧ u' = .panicking [{ v := .iface 87 (.agg #[.int .i64 2]), recovered := true }] ∧ Cells w' a [.slice none 0 0] ∧ Cells w' b [.int .i64 0] ∧ Cells w' c [.int .i64 0] ∧ Cells w' d [.iface 80 (.int .i64 2)] ∧ Only [a, b, c, d] w w' := by
  refine callsD_of_wpS Tryd.func37 rfl fun c₀ cs hu => ?_
  apply wpS_seq
  apply wpS_region
  simp [wpOpsS, go_sem, recoverD, hu, Tryd.ntmps37, Exit.thenS]
  have ht : #[.pointer (some ⟨a, 0, none⟩), .pointer (some ⟨b, 0, none⟩), .pointer (some ⟨c, 0, none⟩), .pointer (some ⟨d, 0, none⟩)] ++ (Array.replicate 12 undef).setIfInBounds 3 (Value.iface 87 (.agg #[.int .i64 2])) = #[.pointer (some ⟨a, 0, none⟩), .pointer (some ⟨b, 0, none⟩), .pointer (some ⟨c, 0, none⟩), .pointer (some ⟨d, 0, none⟩), undef, undef, undef, .iface 87 (.agg #[.int .i64 2]), undef, undef, undef, undef, undef, undef, undef, undef] := rfl
  rw [ht]
  clear ht
  have hta := assert_wrong
  refine wpS_of_wp ?_
  obtain ⟨h1, h2, h3, h4, h5, h6⟩ := hab
  obtain ⟨W1, hW1⟩ : ∃ W1, w.alloc (.cells #[.int .i64 2] 87) = W1 := ⟨_, rfl⟩
  have ho1 : Only [] w W1 := by rw [← hW1]; exact (Only.refl [] w).alloc _
  have hE1 : Cells W1 w.heap.size [.int .i64 2] := by
    have := Cells.new w #[.int .i64 2] 87
    rw [hW1] at this; exact this
  have la := hA.lt
  have lb := hB.lt
  have lc := hC.lt
  have ld := hD.lt
  have hA1 := hA.only ho1 (by simp)
  have hB1 := hB.only ho1 (by simp)
  have hC1 := hC.only ho1 (by simp)
  have hD1 := hD.only ho1 (by simp)
  obtain ⟨W2, hW2⟩ : ∃ W2, (W1.setCell ⟨a, 0, none⟩ (.slice none 0 0)).drew = W2 := ⟨_, rfl⟩
  have ho2 : Only [a] W1 W2 := by rw [← hW2]; exact ((Only.refl [a] W1).setCell (by simp) _).drew
  obtain ⟨W3, hW3⟩ : ∃ W3, W2.setCell ⟨b, 0, none⟩ (.int .i64 0) = W3 := ⟨_, rfl⟩
  have ho3 : Only [b] W2 W3 := by rw [← hW3]; exact (Only.refl [b] W2).setCell (by simp) _
  obtain ⟨W4, hW4⟩ : ∃ W4, W3.setCell ⟨c, 0, none⟩ (.int .i64 0) = W4 := ⟨_, rfl⟩
  have ho4 : Only [c] W3 W4 := by rw [← hW4]; exact (Only.refl [c] W3).setCell (by simp) _
  have hA2 : Cells W2 a [.slice none 0 0] := by rw [← hW2]; exact (hA1.set 0 _).drewN 1
  have hB2 := hB1.only ho2 (by simp; omega)
  have hC2 := hC1.only ho2 (by simp; omega)
  have hD2 := hD1.only ho2 (by simp; omega)
  have hE2 := hE1.only ho2 (by simp; omega)
  have hB3 : Cells W3 b [.int .i64 0] := by rw [← hW3]; exact hB2.set 0 _
  have hC3 := hC2.only ho3 (by simp; omega)
  have hD3 := hD2.only ho3 (by simp; omega)
  have hE3 := hE2.only ho3 (by simp; omega)
  have hC4 : Cells W4 c [.int .i64 0] := by rw [← hW4]; exact hC3.set 0 _
  have hD4 := hD3.only ho4 (by simp; omega)
  have hE4 := hE3.only ho4 (by simp; omega)
  obtain ⟨W5, hW5⟩ : ∃ W5, W4.setCell ⟨d, 0, none⟩ (.iface 80 (.int .i64 2)) = W5 := ⟨_, rfl⟩
  have ho5 : Only [d] W4 W5 := by rw [← hW5]; exact (Only.refl [d] W4).setCell (by simp) _
  have hD5 : Cells W5 d [.iface 80 (.int .i64 2)] := by rw [← hW5]; exact hD4.set 0 _
  have HF := Lib.hid (And.intro (((hA2.only ho3 (by simp; omega)).only ho4 (by simp; omega)).only ho5 (by simp; omega)) (And.intro ((hB3.only ho4 (by simp; omega)).only ho5 (by simp; omega)) (And.intro (hC4.only ho5 (by simp; omega)) (And.intro hD5
    (((((ho1.mono (T := [a, b, c, d]) (by simp)).trans (ho2.mono (T := [a, b, c, d]) (by simp)) (fun x hx _ => hx)).trans (ho3.mono (T := [a, b, c, d]) (by simp)) (fun x hx _ => hx)).trans (ho4.mono (T := [a, b, c, d]) (by simp)) (fun x hx _ => hx)).trans (ho5.mono (T := [a, b, c, d]) (by simp)) (fun x hx _ => hx))))))
  have e1 := hE1.cell 0 _ rfl
  have e2 := hE2.cell 0 _ rfl
  have e3 := hE3.cell 0 _ rfl
  have e4 := hE4.cell 0 _ rfl
  have a1 := hA1.cell 0 _ rfl
  have a1' := hA1.free 0 _ rfl
  have b2 := hB2.cell 0 _ rfl
  have b2' := hB2.free 0 _ rfl
  have c3 := hC3.cell 0 _ rfl
  have c3' := hC3.free 0 _ rfl
  have d4 := hD4.cell 0 _ rfl
  have d4' := hD4.free 0 _ rfl
  have H2 := Lib.hid hW2
  have H3 := Lib.hid hW3
  have H4 := Lib.hid hW4
  have H5 := Lib.hid hW5
  clear hA hB hC hD hA1 hB1 hC1 hD1 hA2 hB2 hC2 hD2 hE2 hB3 hC3 hD3 hE3 hC4 hD4 hE4 hD5 hE1 ho1 ho2 ho3 ho4 ho5 hW2 hW3 hW4 hW5
  go_wp2_with fail
  clear hW1
  refine wp_region_seqE [3, 4, 5, 6] [[], [(0, 3)], [(0, 3)], [(0, 3)]] (by kernel_rfl) (by decide +kernel) (by decide +kernel) (by decide +kernel) rfl rfl ?_
  simp only [segsOf, runW, List.getElem?_cons_succ, List.getElem?_cons_zero, List.take_succ_cons, List.take_zero, List.drop_succ_cons, List.drop_zero, Nat.reduceAdd, Nat.reduceSub]
  repeat still_step
  refine wpStill_nil ?_
  refine writes_step fun K1 hK1 => ?_
  unfold writesThen
  go_simp
  rw [H2.out]
  refine hK1 _ _ ?_
  clear hK1 K1
  repeat still_step
  refine wpStill_nil ?_
  refine writes_step fun K1 hK1 => ?_
  unfold writesThen
  go_simp
  rw [H3.out]
  refine hK1 _ _ ?_
  clear hK1 K1
  repeat still_step
  refine wpStill_nil ?_
  refine writes_step fun K1 hK1 => ?_
  unfold writesThen
  go_simp
  rw [H4.out]
  refine hK1 _ _ ?_
  clear hK1 K1
  repeat still_step
  refine wpStill_nil ?_
  refine writes_step fun K1 hK1 => ?_
  unfold writesThen
  go_simp
  rw [H5.out]
  refine hK1 _ _ ?_
  clear hK1 K1
  simp only [lateW, List.nil_append, List.cons_append, List.drop_zero, List.flatMap_cons, List.flatMap_nil, List.take_succ_cons, List.take_zero, List.append_nil, List.getElem?_cons_succ, List.getElem?_cons_zero, Option.getD_some, List.length_cons, List.length_nil, Nat.reduceAdd, and_true]
  refine ⟨⟨?_, ?_, ?_, ?_⟩, ?_⟩
  · exact wpStill_nil rfl
  · repeat still_step
    exact wpStill_nil rfl
  · repeat still_step
    exact wpStill_nil rfl
  · repeat still_step
    exact wpStill_nil rfl
  refine ⟨rfl, _, rfl, .tuple #[], by simp [results, Tryd.results37], rfl, rfl, HF.out.1, HF.out.2.1, HF.out.2.2.1, HF.out.2.2.2.1, HF.out.2.2.2.2⟩

end

section
open Go.RowKit Go.Deep

theorem results_cells4 {P : Program} {fn : Func} {p q r u : Tmp} {t1 t2 t3 t4 : TypeId} (h : fn.results = #[.cell p t1, .cell q t2, .cell r t3, .cell u t4]) (tmps : Array Value) (w : World) (a b c d : Addr) (va vb vc vd : Value)
    (hp : tmps.getD p undef = .pointer (some a)) (hq : tmps.getD q undef = .pointer (some b)) (hr : tmps.getD r undef = .pointer (some c)) (hu : tmps.getD u undef = .pointer (some d))
    (l1 : (loadVar t1 a).run P w = .ok va w) (l2 : (loadVar t2 b).run P w = .ok vb w) (l3 : (loadVar t3 c).run P w = .ok vc w) (l4 : (loadVar t4 d).run P w = .ok vd w) :
    (results fn tmps).run P w = .ok (.tuple #[va, vb, vc, vd]) w := by
  have hp' : tmps[p]?.getD undef = .pointer (some a) := by simpa using hp
  have hq' : tmps[q]?.getD undef = .pointer (some b) := by simpa using hq
  have hr' : tmps[r]?.getD undef = .pointer (some c) := by simpa using hr
  have hu' : tmps[u]?.getD undef = .pointer (some d) := by simpa using hu
  simp [results, h, hp', hq', hr', hu', asAddr, l1, l2, l3, l4]

theorem load_plan (W : World) (B : Nat) {a : Option Addr} {n c : Nat} (h : Cells W B [.slice a n c]) : (loadVar 36 ⟨B, 0, none⟩).run Tryd.prog W = .ok (.slice a n c) W := by
  have c0 := h.cell 0 _ rfl
  go_simp
theorem load_num (W : World) (B : Nat) {x : Int} (h : Cells W B [.int .i64 x]) : (loadVar 3 ⟨B, 0, none⟩).run Tryd.prog W = .ok (.int .i64 x) W := by
  have c0 := h.cell 0 _ rfl
  go_simp
theorem load_err (W : World) (B : Nat) {v : Value} (h : Cells W B [v]) : (loadVar 24 ⟨B, 0, none⟩).run Tryd.prog W = .ok v W := by
  have c0 := h.cell 0 _ rfl
  go_simp

def pText (s : ByteArray) : Option (Wv × List UInt8) := pBeside (3 * s.size + 3) (rest s 0)
/-- What is wrong with a text as a weave. -/
def weaveF (s : ByteArray) : Int :=
  if 200 < s.size then 4 else match pText s with
    | none => 2
    | some (a, r) => if r ≠ [] then 2 else if ∃ i, i < cntW a ∧ 20 < wkOf (build a []) i then 1 else if 30 < cntW a then 4 else 0

/-- How Parse ends. -/
def ParsePost (s : ByteArray) (w : World) (e : Ending) (w' : World) : Prop :=
  (weaveF s ≠ 0 ∧ e = .returned (.tuple #[.slice none 0 0, .int .i64 0, .int .i64 0, .iface 80 (.int .i64 (weaveF s))]) ∧ Only [] w w') ∨
  (weaveF s = 0 ∧ ∃ a v F, pText s = some (a, []) ∧ e = .returned (.tuple #[v, .int .i64 (workW a), .int .i64 (spanW a), .nilIface]) ∧ OwnPlan w' w.heap.size F v (build a []) ∧ (∀ x, F x → w.heap.size ≤ x ∧ x < w'.heap.size) ∧ Only [] w w')

/-- The four results' variables. -/
structure Four (w W : World) (B : Nat) (v0 v1 v2 v3 : Value) : Prop where
  h0 : Cells W B [v0]
  h1 : Cells W (B + 1) [v1]
  h2 : Cells W (B + 1 + 1) [v2]
  h3 : Cells W (B + 1 + 1 + 1) [v3]
theorem Four.only {w W W' : World} {B : Nat} {v0 v1 v2 v3 : Value} {S : List Nat} (h : Four w W B v0 v1 v2 v3) (ho : Only S W W') (hS : ∀ x ∈ S, x < B ∨ B + 1 + 1 + 1 < x) : Four w W' B v0 v1 v2 v3 :=
  ⟨h.h0.only ho (fun hx => by have := hS _ hx; omega), h.h1.only ho (fun hx => by have := hS _ hx; omega), h.h2.only ho (fun hx => by have := hS _ hx; omega), h.h3.only ho (fun hx => by have := hS _ hx; omega)⟩

theorem Four.set {w W : World} {B : Nat} {v0 v1 v2 v3 : Value} (h : Four w W B v0 v1 v2 v3) (u0 u1 u2 u3 : Value) :
    Four w ((((W.setCell ⟨B, 0, none⟩ u0).setCell ⟨B + 1, 0, none⟩ u1).setCell ⟨B + 1 + 1, 0, none⟩ u2).setCell ⟨B + 1 + 1 + 1, 0, none⟩ u3) B u0 u1 u2 u3 ∧
    Only [B, B + 1, B + 1 + 1, B + 1 + 1 + 1] W ((((W.setCell ⟨B, 0, none⟩ u0).setCell ⟨B + 1, 0, none⟩ u1).setCell ⟨B + 1 + 1, 0, none⟩ u2).setCell ⟨B + 1 + 1 + 1, 0, none⟩ u3) := by
  have s := fun (V : World) (b : Nat) (u : Value) => (Only.refl [b] V).setCell (p := ⟨b, 0, none⟩) (by simp) u
  have g0 : Cells (W.setCell ⟨B, 0, none⟩ u0) B [u0] := h.h0.set 0 u0
  have g1 : Cells ((W.setCell ⟨B, 0, none⟩ u0).setCell ⟨B + 1, 0, none⟩ u1) (B + 1) [u1] := (h.h1.only (s W B u0) (by simp <;> omega)).set 0 u1
  have g2 : Cells (((W.setCell ⟨B, 0, none⟩ u0).setCell ⟨B + 1, 0, none⟩ u1).setCell ⟨B + 1 + 1, 0, none⟩ u2) (B + 1 + 1) [u2] := ((h.h2.only (s W B u0) (by simp <;> omega)).only (s _ (B + 1) u1) (by simp <;> omega)).set 0 u2
  have g3 : Cells ((((W.setCell ⟨B, 0, none⟩ u0).setCell ⟨B + 1, 0, none⟩ u1).setCell ⟨B + 1 + 1, 0, none⟩ u2).setCell ⟨B + 1 + 1 + 1, 0, none⟩ u3) (B + 1 + 1 + 1) [u3] := (((h.h3.only (s W B u0) (by simp <;> omega)).only (s _ (B + 1) u1) (by simp <;> omega)).only (s _ (B + 1 + 1) u2) (by simp <;> omega)).set 0 u3
  refine ⟨⟨((g0.only (s _ (B + 1) u1) (by simp <;> omega)).only (s _ (B + 1 + 1) u2) (by simp <;> omega)).only (s _ (B + 1 + 1 + 1) u3) (by simp <;> omega), (g1.only (s _ (B + 1 + 1) u2) (by simp <;> omega)).only (s _ (B + 1 + 1 + 1) u3) (by simp <;> omega), g2.only (s _ (B + 1 + 1 + 1) u3) (by simp <;> omega), g3⟩, ?_⟩
  exact ((((Only.refl _ W).setCell (by simp) _).setCell (by simp) _).setCell (by simp) _).setCell (by simp) _

theorem four_fresh {w Wk W8 : World} {B : Nat} (hB : w.heap.size = B) (ho : Only [] w Wk) (h8 : Only [B, B + 1, B + 1 + 1, B + 1 + 1 + 1] Wk W8) : Only [] w W8 :=
  ho.trans h8 (fun x hx hlt => by simp at hx; omega)

set_option maxRecDepth 100000 in
set_option maxHeartbeats 4000000 in
theorem weave_Parse (s : ByteArray) (w : World) (hmax : s.size ≤ 9223372036854775807) (hsyn : VarErr "strconv.ErrSyntax" w) (hran : VarErr "strconv.ErrRange" w) :
    Calls Tryd.prog 16 #[.string s] w (ParsePost s w) := by
  have hmf : ∀ (fn : Fn) (first cap : Array Value) (w : World), (Instr.makeFunc fn first cap).run Tryd.prog w = .ok (.func fn first cap) w := fun _ _ _ _ => rfl
  obtain ⟨W4, hW4⟩ : ∃ W4, (((w.alloc (.cells #[.slice none 0 0] 36)).alloc (.cells #[.int .i64 0] 3)).alloc (.cells #[.int .i64 0] 3)).alloc (.cells #[.nilIface] 24) = W4 := ⟨_, rfl⟩
  obtain ⟨B, hB⟩ : ∃ B, w.heap.size = B := ⟨_, rfl⟩
  have ho4 : Only [] w W4 := by rw [← hW4]; exact ((((Only.refl [] w).alloc _).alloc _).alloc _).alloc _
  have hs4 : W4.heap.size = B + 1 + 1 + 1 + 1 := by rw [← hW4, ← hB]; simp
  have hF4 : Four w W4 B (.slice none 0 0) (.int .i64 0) (.int .i64 0) .nilIface := by
    rw [← hW4]
    have al := fun (a : World) (o : Obj) => (Only.refl [] a).alloc o
    have q1 := Cells.new w #[.slice none 0 0] 36
    have q2 := Cells.new (w.alloc (.cells #[.slice none 0 0] 36)) #[.int .i64 0] 3
    have q3 := Cells.new ((w.alloc (.cells #[.slice none 0 0] 36)).alloc (.cells #[.int .i64 0] 3)) #[.int .i64 0] 3
    have q4 := Cells.new (((w.alloc (.cells #[.slice none 0 0] 36)).alloc (.cells #[.int .i64 0] 3)).alloc (.cells #[.int .i64 0] 3)) #[.nilIface] 24
    simp only [World.size_alloc, hB] at q1 q2 q3 q4
    exact ⟨((q1.only (al _ _) (by simp)).only (al _ _) (by simp)).only (al _ _) (by simp), (q2.only (al _ _) (by simp)).only (al _ _) (by simp), q3.only (al _ _) (by simp), q4⟩
  have c0 := hF4.h0.cell 0 _ rfl
  have c1 := hF4.h1.cell 0 _ rfl
  have c2 := hF4.h2.cell 0 _ rfl
  have c3 := hF4.h3.cell 0 _ rfl
  have f0 := hF4.h0.free 0 _ rfl
  have f1 := hF4.h1.free 0 _ rfl
  have f2 := hF4.h2.free 0 _ rfl
  have f3 := hF4.h3.free 0 _ rfl
  have HF4 := Lib.hid hF4
  have HO4 := Lib.hid ho4
  by_cases hbig : 200 < s.size
  · have hw : weaveF s = 4 := by unfold weaveF; rw [if_pos hbig]
    clear hF4 ho4 hsyn hran
    go_enter_defers Tryd.func16, Tryd.ntmps16
    have hst := HF4.out.set (.slice none 0 0) (.int .i64 0) (.int .i64 0) (.iface 80 (.int .i64 4))
    have HST := Lib.hid hst
    clear hst
    go_wp2_with fail
    exact ⟨_, results_cells4 rfl _ _ _ _ _ _ _ _ _ _ rfl rfl rfl rfl (load_plan _ _ HST.out.1.h0) (load_num _ _ HST.out.1.h1) (load_num _ _ HST.out.1.h2) (load_err _ _ HST.out.1.h3), .inl ⟨by rw [hw]; decide, by rw [hw], four_fresh hB HO4.out HST.out.2⟩⟩
  · clear hF4 ho4
    obtain ⟨W5, hW5⟩ : ∃ W5, W4.alloc (.cells #[.string s, .int .i64 0, .slice none 0 0] 90) = W5 := ⟨_, rfl⟩
    have ho5 : Only [] W4 W5 := by rw [← hW5]; exact (Only.refl [] W4).alloc _
    obtain ⟨R, hR⟩ : ∃ R, B + 1 + 1 + 1 + 1 = R := ⟨_, rfl⟩
    have hC5 : Cells W5 R [.string s, .int .i64 0, .slice none 0 0] := by
      have := Cells.new W4 #[.string s, .int .i64 0, .slice none 0 0] 90
      rw [hW5, hs4, hR] at this; exact this
    have hs5 : W5.heap.size = R + 1 := by rw [← hW5, World.size_alloc, hs4, hR]
    have hRd : RdAt W5 w.heap.size (fun _ => False) R s 0 (.slice none 0 0) [] :=
      ⟨hC5, OwnPlanN.nil _ _ _, by simp [own, Value.ownBlock], fun h => h, fun x hx => hx.elim, by omega, by omega, by simp⟩
    have hF5 := HF4.out.only ho5 (by simp)
    have ho05 := HO4.out.trans ho5 (by simp)
    have hev : ErrsAt W5 w.heap.size := (ErrsAt.of hsyn hran).low ho05 (by simp)
    have hcall := (weave_all w.heap.size R s (by omega) s.size 0 (by omega)).2.2 (3 * s.size + 3) (by omega) _ _ _ W5 hRd hev
    have HF5 := Lib.hid hF5
    have HO5 := Lib.hid ho05
    have HB := Lib.hid hB
    have hwf : Hid (weaveF s = match pText s with
      | none => 2
      | some (a, r) => if r ≠ [] then 2 else if ∃ i, i < cntW a ∧ 20 < wkOf (build a []) i then 1 else if 30 < cntW a then 4 else 0) := by
      show _ = _
      unfold weaveF; rw [if_neg hbig]
    have hpt : pBeside (3 * s.size + 3) (rest s 0) = pText s := rfl
    rw [hpt] at hcall
    clear hpt hF5 ho05 hev hRd ho5 hC5
    go_enter_defers Tryd.func16, Tryd.ntmps16
    cases hq : pText s with
    | none =>
      rw [hq] at hcall
      have hw := hwf.out
      rw [hq] at hw
      have hw : weaveF s = 2 := hw
      go_wp2_with fail
      refine hcall.mono ?_
      rintro e w5 ⟨rfl, ho5⟩
      have hF6 := HF5.out.only ho5 (by simp [own, Value.ownBlock]; omega)
      refine leaves_cons (f := 37) (args := #[.pointer (some ⟨B, 0, none⟩), .pointer (some ⟨B + 1, 0, none⟩), .pointer (some ⟨B + 1 + 1, 0, none⟩), .pointer (some ⟨B + 1 + 1 + 1, 0, none⟩)]) (by simp) (by simp [go_sem]) ?_
      refine (parse_catch B (B + 1) (B + 1 + 1) (B + 1 + 1 + 1) _ _ _ _ w5 hF6.h0 hF6.h1 hF6.h2 hF6.h3 (by omega)).mono ?_
      rintro e u' w6 ⟨rfl, rfl, g0, g1, g2, g3, ho6⟩
      refine ⟨_, results_cells4 rfl _ _ _ _ _ _ _ _ _ _ rfl rfl rfl rfl (load_plan _ _ g0) (load_num _ _ g1) (load_num _ _ g2) (load_err _ _ g3), .inl ⟨by rw [hw]; decide, by rw [hw], ?_⟩⟩
      exact four_fresh HB.out (HO5.out.trans ho5 (fun x hx hlt => by simp [own, Value.ownBlock] at hx; have := HB.out; omega)) ho6
    | some x =>
      obtain ⟨a, r⟩ := x
      rw [hq] at hcall
      have hsuf := (p_suf _).2.2.2.1 _ _ _ hq
      have hsml := (p_nums _).2.2.2.1 _ _ hq
      go_wp2_with fail
      refine hcall.mono ?_
      intro e w5 hpost
      obtain ⟨fa, fc, la, lc, rfl⟩ := rd_forms hpost
      obtain ⟨fv', lv', pv', F', he, hRd, hf, hl, ho5, hK, hFF, hfn, hln⟩ := hpost
      injection he with he
      injection he with he
      have e2 := congrArg Array.toList he
      simp at e2
      obtain ⟨rfl, rfl⟩ := e2
      have ho05 := HO5.out.trans ho5 (fun x hx hlt => by simp [own, Value.ownBlock] at hx; have := HB.out; omega)
      have hF6 := HF5.out.only ho5 (by simp [own, Value.ownBlock]; omega)
      have hs55 := ho5.size
      obtain ⟨W6, hW6⟩ : ∃ W6, w5.alloc (.cells #[.slice fa (firstW a 0).length fc, .slice la (lastW a 0).length lc, .int .i64 (workW a), .int .i64 (spanW a)] 92) = W6 := ⟨_, rfl⟩
      have ho6 : Only [] w5 W6 := by rw [← hW6]; exact (Only.refl [] w5).alloc _
      have hC6 : Cells W6 w5.heap.size [.slice fa (firstW a 0).length fc, .slice la (lastW a 0).length lc, .int .i64 (workW a), .int .i64 (spanW a)] := by
        have := Cells.new w5 #[.slice fa (firstW a 0).length fc, .slice la (lastW a 0).length lc, .int .i64 (workW a), .int .i64 (spanW a)] 92
        rw [hW6] at this; exact this
      have hRd6 := hRd.same ho6
      have hF66 := hF6.only ho6 (by simp)
      have HF6 := Lib.hid hF66
      have HO6 := Lib.hid (ho05.trans ho6 (by simp))
      have HR6 := Lib.hid hRd6
      have HC6 := Lib.hid hC6
      have r1 := hRd6.cells.cell 1 _ rfl
      have r2 := hRd6.cells.cell 2 _ rfl
      have b0 := hF66.h0.cell 0 _ rfl
      have b1 := hF66.h1.cell 0 _ rfl
      have b2 := hF66.h2.cell 0 _ rfl
      have b3 := hF66.h3.cell 0 _ rfl
      have g0 := hF66.h0.free 0 _ rfl
      have g1 := hF66.h1.free 0 _ rfl
      have g2 := hF66.h2.free 0 _ rfl
      have g3 := hF66.h3.free 0 _ rfl
      have HFF := Lib.hid hFF
      have HKK := Lib.hid hK
      clear hcall ho05 hF6 hf hl hK hFF hfn hln hRd ho6 hC6 hF66 ho5 c0 c1 c2 c3 f0 f1 f2 f3
      by_cases hr : r = []
      · subst hr
        have hw0 := hwf.out
        rw [hq] at hw0
        have hw0 : weaveF s = if ∃ i, i < cntW a ∧ 20 < wkOf (build a []) i then 1 else if 30 < cntW a then 4 else 0 := by rw [hw0]; simp
        have HW0 := Lib.hid hw0
        clear hw0
        rw [show s.size - ([] : List UInt8).length = s.size from rfl] at r1
        obtain ⟨n, hn⟩ : ∃ n, (build a []).length = n := ⟨_, rfl⟩
        have hnc : n = cntW a := by rw [← hn, build_len]; simp
        obtain ⟨g, cap, rfl⟩ := HR6.out.plan.some (by rw [hn, hnc]; exact cntW_pos a)
        rw [hn] at r2
        have HN := Lib.hid (And.intro hn hnc)
        have hlen := HR6.out.len
        have hn200 : n ≤ 200 := by have := HR6.out.hk; rw [hn] at hlen; omega
        clear hn hnc hlen hRd6
        go_wp2_with fail
        go_loopw [33] (fun vi wr => ∃ i : Nat, i ≤ n ∧ vi = .int .i64 (i : Int) ∧ (∀ j, j < i → wkOf (build a []) j ≤ 20) ∧ Only [] W6 wr) (fun vi _ => n - (intOf vi).toNat)
        case atStart => exact ⟨0, Nat.zero_le _, rfl, fun j hj => by omega, Only.refl _ _⟩
        case round =>
          clear r1 r2 b0 b1 b2 b3 g0 g1 g2 g3 hW5 hW6 hW4
          obtain ⟨wo, rfl⟩ : ∃ wo : World, wo = wr := ⟨_, rfl⟩
          obtain ⟨i, hi, rfl, hall, ho⟩ := hrel
          have HALL := Lib.hid hall
          have HOO := Lib.hid ho
          clear hall
          by_cases hin : i < n
          · obtain ⟨na, nc, k0, k1, _, _⟩ := (HR6.out.plan.own.same ho).at i (by rw [HN.out.1]; exact hin)
            have hal : Only [] wo (wo.alloc (.cells #[.int .i64 (wkOf (build a []) i), .slice na (ndOf (build a []) i).length nc] 53)) := (Only.refl [] wo).alloc _
            obtain ⟨x, hx⟩ : ∃ x, wkOf (build a []) i = x := ⟨_, rfl⟩
            rw [hx] at k0 hal
            have HX := Lib.hid hx
            have hF := HF6.out.only (ho.trans hal (by simp)) (by simp)
            have HAL := Lib.hid hal
            have b0' := hF.h0.cell 0 _ rfl
            have g0' := hF.h0.free 0 _ rfl
            have b1' := hF.h1.cell 0 _ rfl
            have g1' := hF.h1.free 0 _ rfl
            have b2' := hF.h2.cell 0 _ rfl
            have g2' := hF.h2.free 0 _ rfl
            have b3' := hF.h3.cell 0 _ rfl
            have g3' := hF.h3.free 0 _ rfl
            by_cases hbad : 20 < x
            · have hw : weaveF s = 1 := by rw [HW0.out, if_pos ⟨i, by rw [← HN.out.2]; exact hin, by rw [HX.out]; exact hbad⟩]
              have HST := Lib.hid (hF.set (.slice none 0 0) (.int .i64 0) (.int .i64 0) (.iface 80 (.int .i64 1)))
              clear hF ho hal hx
              go_wp2_with fail
              refine leaves_cons (f := 37) (args := #[.pointer (some ⟨B, 0, none⟩), .pointer (some ⟨B + 1, 0, none⟩), .pointer (some ⟨B + 1 + 1, 0, none⟩), .pointer (some ⟨B + 1 + 1 + 1, 0, none⟩)]) (by simp) (by simp [go_sem]) ?_
              refine (parse_idle _ _ _ _ _).mono ?_
              rintro e u' w9 ⟨rfl, rfl, rfl⟩
              exact ⟨_, results_cells4 rfl _ _ _ _ _ _ _ _ _ _ rfl rfl rfl rfl (load_plan _ _ HST.out.1.h0) (load_num _ _ HST.out.1.h1) (load_num _ _ HST.out.1.h2) (load_err _ _ HST.out.1.h3), .inl ⟨by rw [hw]; decide, by rw [hw], four_fresh HB.out ((HO6.out.trans HOO.out (by simp)).trans HAL.out (by simp)) HST.out.2⟩⟩
            · have hnx : Hid (∀ j, j < i + 1 → wkOf (build a []) j ≤ 20) := fun j hj => by
                by_cases e : j = i
                · subst e; rw [HX.out]; omega
                · exact HALL.out j (by omega)
              clear hF ho hal hx
              go_wp2
              go_roundw
              case rel => exact ⟨i + 1, by omega, by go_num, hnx.out, HOO.out.trans HAL.out (by simp)⟩
              case measure => (simp [intOf]; try omega)
          · obtain rfl : i = n := by omega
            have hno : ¬ ∃ j, j < cntW a ∧ 20 < wkOf (build a []) j := fun ⟨j, h1, h2⟩ => by have := HALL.out j (by rw [HN.out.2]; exact h1); omega
            have hw0 := HW0.out
            rw [if_neg hno, ← HN.out.2] at hw0
            have hR7 := HR6.out.same ho
            have r2 := hR7.cells.cell 2 _ rfl
            rw [HN.out.1] at r2
            have hF := HF6.out.only ho (by simp)
            have hC := HC6.out.only ho (by simp)
            have b0' := hF.h0.cell 0 _ rfl
            have g0' := hF.h0.free 0 _ rfl
            have b1' := hF.h1.cell 0 _ rfl
            have g1' := hF.h1.free 0 _ rfl
            have b2' := hF.h2.cell 0 _ rfl
            have g2' := hF.h2.free 0 _ rfl
            have b3' := hF.h3.cell 0 _ rfl
            have g3' := hF.h3.free 0 _ rfl
            have HR7 := Lib.hid hR7
            clear hno ho hR7
            by_cases h30 : 30 < i
            · have hw : weaveF s = 4 := by rw [hw0, if_pos h30]
              have HST := Lib.hid (hF.set (.slice none 0 0) (.int .i64 0) (.int .i64 0) (.iface 80 (.int .i64 4)))
              clear hF hC hw0
              go_wp2_with fail
              refine leaves_cons (f := 37) (args := #[.pointer (some ⟨B, 0, none⟩), .pointer (some ⟨B + 1, 0, none⟩), .pointer (some ⟨B + 1 + 1, 0, none⟩), .pointer (some ⟨B + 1 + 1 + 1, 0, none⟩)]) (by simp) (by simp [go_sem]) ?_
              refine (parse_idle _ _ _ _ _).mono ?_
              rintro e u' w9 ⟨rfl, rfl, rfl⟩
              exact ⟨_, results_cells4 rfl _ _ _ _ _ _ _ _ _ _ rfl rfl rfl rfl (load_plan _ _ HST.out.1.h0) (load_num _ _ HST.out.1.h1) (load_num _ _ HST.out.1.h2) (load_err _ _ HST.out.1.h3), .inl ⟨by rw [hw]; decide, by rw [hw], four_fresh HB.out (HO6.out.trans HOO.out (by simp)) HST.out.2⟩⟩
            · have hw : weaveF s = 0 := by rw [hw0, if_neg h30]
              have c2 := hC.cell 2 _ rfl
              have c3 := hC.cell 3 _ rfl
              clear hw0
              have hRv := HR7.out
              obtain ⟨X1, hX1⟩ : ∃ X1, (wo.setCell ⟨B, 0, none⟩ (.slice (some ⟨g, 0, none⟩) i cap)).drew = X1 := ⟨_, rfl⟩
              have o1 : Only [B] wo X1 := by rw [← hX1]; exact ((Only.refl [B] wo).setCell (by simp) _).drew
              have k10 : Cells X1 B [.slice (some ⟨g, 0, none⟩) i cap] := by rw [← hX1]; exact (hF.h0.set 0 _).drewN 1
              obtain ⟨X2, hX2⟩ : ∃ X2, X1.setCell ⟨B + 1, 0, none⟩ (.int .i64 (workW a)) = X2 := ⟨_, rfl⟩
              have o2 : Only [B + 1] X1 X2 := by rw [← hX2]; exact (Only.refl [B + 1] X1).setCell (by simp) _
              have p11 := hF.h1.only o1 (by simp)
              have p12 := hF.h2.only o1 (by simp <;> omega)
              have p13 := hF.h3.only o1 (by simp <;> omega)
              have k21 : Cells X2 (B + 1) [.int .i64 (workW a)] := by rw [← hX2]; exact p11.set 0 _
              obtain ⟨X3, hX3⟩ : ∃ X3, X2.setCell ⟨B + 1 + 1, 0, none⟩ (.int .i64 (spanW a)) = X3 := ⟨_, rfl⟩
              have o3 : Only [B + 1 + 1] X2 X3 := by rw [← hX3]; exact (Only.refl [B + 1 + 1] X2).setCell (by simp) _
              have p22 := p12.only o2 (by simp)
              have p23 := p13.only o2 (by simp <;> omega)
              have k32 : Cells X3 (B + 1 + 1) [.int .i64 (spanW a)] := by rw [← hX3]; exact p22.set 0 _
              obtain ⟨X4, hX4⟩ : ∃ X4, X3.setCell ⟨B + 1 + 1 + 1, 0, none⟩ .nilIface = X4 := ⟨_, rfl⟩
              have o4 : Only [B + 1 + 1 + 1] X3 X4 := by rw [← hX4]; exact (Only.refl [B + 1 + 1 + 1] X3).setCell (by simp) _
              have p33 := p23.only o3 (by simp)
              have k43 : Cells X4 (B + 1 + 1 + 1) [.nilIface] := by rw [← hX4]; exact p33.set 0 _
              have z1 : Only [B, B + 1, B + 1 + 1, B + 1 + 1 + 1] wo X2 := (o1.mono (by simp)).trans (o2.mono (T := [B, B + 1, B + 1 + 1, B + 1 + 1 + 1]) (by simp)) (fun x hx _ => hx)
              have z2 : Only [B, B + 1, B + 1 + 1, B + 1 + 1 + 1] wo X3 := z1.trans (o3.mono (T := [B, B + 1, B + 1 + 1, B + 1 + 1 + 1]) (by simp)) (fun x hx _ => hx)
              have z3 : Only [B, B + 1, B + 1 + 1, B + 1 + 1 + 1] wo X4 := z2.trans (o4.mono (T := [B, B + 1, B + 1 + 1, B + 1 + 1 + 1]) (by simp)) (fun x hx _ => hx)
              have hfour : Four w X4 B (.slice (some ⟨g, 0, none⟩) i cap) (.int .i64 (workW a)) (.int .i64 (spanW a)) .nilIface :=
                ⟨((k10.only o2 (by simp)).only o3 (by simp <;> omega)).only o4 (by simp <;> omega), (k21.only o3 (by simp)).only o4 (by simp <;> omega), k32.only o4 (by simp), k43⟩
              have hRB : R = B + 1 + 1 + 1 + 1 := hR.symm
              have hs5B : B + 1 + 1 + 1 + 1 < w5.heap.size := by omega
              have hRo : ∀ x ∈ [B, B + 1, B + 1 + 1, B + 1 + 1 + 1], x < R := by simp; omega
              have hRc := hRv.cells
              have m1 := (hRc.only o1 (by simp <;> omega))
              have m2 := (hRc.only z1 (fun hx => by have := hRo _ hx; omega))
              have m3 := (hRc.only z2 (fun hx => by have := hRo _ hx; omega))
              have n1 := (hC.only o1 (by simp <;> omega))
              have n2 := (hC.only z1 (fun hx => by have := hRo _ hx; omega))
              have n3 := (hC.only z2 (fun hx => by have := hRo _ hx; omega))
              have mm1 := m1.cell 2 _ rfl
              have mm2 := m2.cell 2 _ rfl
              have mm3 := m3.cell 2 _ rfl
              rw [HN.out.1] at mm1 mm2 mm3
              have nn12 := n1.cell 2 _ rfl
              have nn13 := n1.cell 3 _ rfl
              have nn22 := n2.cell 2 _ rfl
              have nn23 := n2.cell 3 _ rfl
              have nn32 := n3.cell 2 _ rfl
              have nn33 := n3.cell 3 _ rfl
              have t1 := p11.cell 0 _ rfl
              have t1' := p11.free 0 _ rfl
              have t2 := p22.cell 0 _ rfl
              have t2' := p22.free 0 _ rfl
              have t3 := p33.cell 0 _ rfl
              have t3' := p33.free 0 _ rfl
              have HP := Lib.hid (And.intro hfour (And.intro z3 hRv))
              have H1 := Lib.hid hX1
              have H2 := Lib.hid hX2
              have H3 := Lib.hid hX3
              have H4 := Lib.hid hX4
              clear hRB hX1 hX2 hX3 hX4 o1 o2 o3 o4 k10 k21 k32 k43 p11 p12 p13 p22 p23 p33 z1 z2 z3 hfour hRc m1 m2 m3 n1 n2 n3 hF hC hRv hRo
              go_wp2_with fail
              refine wp_region_seqE [8, 9, 10, 11] [[], [(0, 8)], [(0, 8)], [(0, 8)]] (by kernel_rfl) (by decide +kernel) (by decide +kernel) (by decide +kernel) rfl rfl ?_
              simp only [segsOf, runW, List.getElem?_cons_succ, List.getElem?_cons_zero, List.take_succ_cons, List.take_zero, List.drop_succ_cons, List.drop_zero, Nat.reduceAdd, Nat.reduceSub]
              repeat still_step
              refine wpStill_nil ?_
              refine writes_step fun K1 hK1 => ?_
              unfold writesThen
              go_simp
              rw [H1.out]
              refine hK1 _ _ ?_
              clear hK1 K1
              repeat still_step
              refine wpStill_nil ?_
              refine writes_step fun K1 hK1 => ?_
              unfold writesThen
              go_simp
              rw [H2.out]
              refine hK1 _ _ ?_
              clear hK1 K1
              repeat still_step
              refine wpStill_nil ?_
              refine writes_step fun K1 hK1 => ?_
              unfold writesThen
              go_simp
              rw [H3.out]
              refine hK1 _ _ ?_
              clear hK1 K1
              repeat still_step
              refine wpStill_nil ?_
              refine writes_step fun K1 hK1 => ?_
              unfold writesThen
              go_simp
              rw [H4.out]
              refine hK1 _ _ ?_
              clear hK1 K1
              simp only [lateW, List.nil_append, List.cons_append, List.drop_zero, List.flatMap_cons, List.flatMap_nil, List.take_succ_cons, List.take_zero, List.append_nil, List.getElem?_cons_succ, List.getElem?_cons_zero, Option.getD_some, List.length_cons, List.length_nil, Nat.reduceAdd, and_true]
              refine ⟨⟨?_, ?_, ?_, ?_⟩, ?_⟩
              · exact wpStill_nil rfl
              · repeat still_step
                exact wpStill_nil rfl
              · repeat still_step
                exact wpStill_nil rfl
              · repeat still_step
                exact wpStill_nil rfl
              go_wp2_with fail
              refine leaves_cons (f := 37) (args := #[.pointer (some ⟨B, 0, none⟩), .pointer (some ⟨B + 1, 0, none⟩), .pointer (some ⟨B + 1 + 1, 0, none⟩), .pointer (some ⟨B + 1 + 1 + 1, 0, none⟩)]) (by simp) (by simp [go_sem]) ?_
              refine (parse_idle _ _ _ _ _).mono ?_
              rintro e u' w9 ⟨rfl, rfl, rfl⟩
              have hsz := HP.out.2.1.size
              have hRw := HP.out.2.2
              refine ⟨_, results_cells4 rfl _ _ _ _ _ _ _ _ _ _ rfl rfl rfl rfl (load_plan _ _ HP.out.1.h0) (load_num _ _ HP.out.1.h1) (load_num _ _ HP.out.1.h2) (load_err _ _ HP.out.1.h3), .inr ⟨hw, a, _, F', hq, rfl, ?_, fun x hx => ?_, four_fresh HB.out (HO6.out.trans HOO.out (by simp)) HP.out.2.1⟩⟩
              · have hpo := hRw.plan.own
                rw [HN.out.1] at hpo
                refine hpo.only HP.out.2.1 (fun x hx hz => ?_) (fun x hx hz => ?_)
                · rcases HKK.out x hx with h1 | h1
                  · simp [own, Value.ownBlock] at h1
                  · simp at hz; omega
                · rcases HFF.out x hx with h1 | h1
                  · exact h1
                  · simp at hz; omega
              · have := hRw.b1 x hx
                omega
      · have hrl : 0 < r.length := List.length_pos_iff.2 hr
        have hrl2 : r.length ≤ s.size := by
          have := hsuf.length_le
          rw [rest_len] at this; omega
        have hw : weaveF s = 2 := by rw [hwf.out, hq]; simp [hr]
        obtain ⟨j, hj⟩ : ∃ j, s.size - r.length = j := ⟨_, rfl⟩
        have hjs : j < s.size := by omega
        rw [hj] at r1
        have HST := Lib.hid (HF6.out.set (.slice none 0 0) (.int .i64 0) (.int .i64 0) (.iface 80 (.int .i64 2)))
        clear hj hrl hrl2 hr
        go_wp2_with fail
        refine leaves_cons (f := 37) (args := #[.pointer (some ⟨B, 0, none⟩), .pointer (some ⟨B + 1, 0, none⟩), .pointer (some ⟨B + 1 + 1, 0, none⟩), .pointer (some ⟨B + 1 + 1 + 1, 0, none⟩)]) (by simp) (by simp [go_sem]) ?_
        refine (parse_idle _ _ _ _ _).mono ?_
        rintro e u' w9 ⟨rfl, rfl, rfl⟩
        exact ⟨_, results_cells4 rfl _ _ _ _ _ _ _ _ _ _ rfl rfl rfl rfl (load_plan _ _ HST.out.1.h0) (load_num _ _ HST.out.1.h1) (load_num _ _ HST.out.1.h2) (load_err _ _ HST.out.1.h3), .inl ⟨by rw [hw]; decide, by rw [hw], four_fresh HB.out HO6.out HST.out.2⟩⟩

end

section
open Go.RowKit Go.Deep

theorem wrap_text {f : Nat} {s : List UInt8} {a : Wv} (h : pBeside f s = some (a, [])) : pBeside (f + 3) (40 :: (s ++ [41])) = some (a, []) := by
  have hsh : Shut [41] := fun c hc => by
    simp at hc
    subst hc
    exact ⟨by decide, by decide, by decide⟩
  have h1 := (p_app [41] f).2.2.2.1 s a [] h (fun _ => hsh)
  have h2 : pOne (f + 1) (40 :: (s ++ [41])) = some (a, []) := by
    rw [pOne, if_pos (by simp [isC])]
    show (pBeside f (s ++ [41])).bind _ = _
    rw [h1]
    rfl
  have h3 : pBehind (f + 2) (40 :: (s ++ [41])) = some (a, []) := by
    rw [pBehind, h2]
    show pSemi (f + 1) a [] = _
    rw [pSemi_succ]
    rfl
  rw [pBeside, h3]
  show pBar (f + 2) a [] = _
  rw [pBar_succ]
  rfl

theorem ba_one (c : UInt8) : (⟨#[c]⟩ : ByteArray).data.toList = [c] := rfl
theorem wrap_list (s : ByteArray) : ((⟨#[40]⟩ : ByteArray) ++ s ++ (⟨#[41]⟩ : ByteArray)).data.toList = 40 :: (s.data.toList ++ [41]) := by
  rw [ByteArray.data_append, ByteArray.data_append]
  simp
theorem wrap_size (s : ByteArray) : ((⟨#[40]⟩ : ByteArray) ++ s ++ (⟨#[41]⟩ : ByteArray)).size = s.size + 2 := by
  rw [ByteArray.size_append, ByteArray.size_append]
  show 1 + s.size + 1 = _
  omega
theorem wrap_pText (s : ByteArray) (a : Wv) (h : pText s = some (a, [])) : pText ((⟨#[40]⟩ : ByteArray) ++ s ++ (⟨#[41]⟩ : ByteArray)) = some (a, []) := by
  unfold pText at h ⊢
  rw [wrap_size]
  unfold rest at h ⊢
  rw [wrap_list, List.drop_zero]
  rw [List.drop_zero] at h
  exact pBeside_more (by omega) (wrap_text h)
/-- A text so many times in signs. -/
def wrapN (s : ByteArray) : Nat → ByteArray
  | 0 => s
  | n + 1 => (⟨#[40]⟩ : ByteArray) ++ wrapN s n ++ (⟨#[41]⟩ : ByteArray)
theorem wrapN_size (s : ByteArray) (n : Nat) : (wrapN s n).size = s.size + 2 * n := by
  induction n with
  | zero => rfl
  | succ n ih => show ((⟨#[40]⟩ : ByteArray) ++ wrapN s n ++ (⟨#[41]⟩ : ByteArray)).size = _; rw [wrap_size, ih]; omega
theorem wrapN_pText (s : ByteArray) (a : Wv) (h : pText s = some (a, [])) (n : Nat) : pText (wrapN s n) = some (a, []) := by
  induction n with
  | zero => exact h
  | succ n ih => exact wrap_pText _ _ ih
theorem weaveF_ok {s : ByteArray} (h : weaveF s = 0) : s.size ≤ 200 ∧ ∃ a, pText s = some (a, []) ∧ (¬ ∃ i, i < cntW a ∧ 20 < wkOf (build a []) i) ∧ cntW a ≤ 30 := by
  unfold weaveF at h
  split at h
  · simp at h
  · rename_i h200
    cases hq : pText s with
    | none => rw [hq] at h; simp at h
    | some x =>
      obtain ⟨a, r⟩ := x
      rw [hq] at h
      simp only at h
      split at h
      · simp at h
      · rename_i hr
        split at h
        · simp at h
        · rename_i h20
          split at h
          · simp at h
          · rename_i h30
            have hr : r = [] := by simpa using hr
            subst hr
            exact ⟨by omega, a, rfl, h20, by omega⟩
theorem weaveF_of {s : ByteArray} {a : Wv} (h : s.size ≤ 200) (hp : pText s = some (a, [])) (h20 : ¬ ∃ i, i < cntW a ∧ 20 < wkOf (build a []) i) (h30 : cntW a ≤ 30) : weaveF s = 0 := by
  unfold weaveF
  rw [if_neg (by omega), hp]
  simp only [ne_eq, not_true_eq_false, if_false]
  rw [if_neg h20, if_neg (by omega)]

theorem Parse_no (s : ByteArray) (w : World) (hmax : s.size ≤ 9223372036854775807) (hsyn : VarErr "strconv.ErrSyntax" w) (hran : VarErr "strconv.ErrRange" w) (h : weaveF s ≠ 0) :
    Calls Tryd.prog 16 #[.string s] w fun e w' => e = .returned (.tuple #[.slice none 0 0, .int .i64 0, .int .i64 0, .iface 80 (.int .i64 (weaveF s))]) ∧ Only [] w w' := by
  refine (weave_Parse s w hmax hsyn hran).mono fun e w' hp => ?_
  rcases hp with ⟨_, h1, h2⟩ | ⟨h0, _⟩
  · exact ⟨h1, h2⟩
  · exact absurd h0 h
theorem Parse_ok (s : ByteArray) (w : World) (hsyn : VarErr "strconv.ErrSyntax" w) (hran : VarErr "strconv.ErrRange" w) (a : Wv) (h200 : s.size ≤ 200) (hp : pText s = some (a, [])) (h20 : ¬ ∃ i, i < cntW a ∧ 20 < wkOf (build a []) i) (h30 : cntW a ≤ 30) :
    Calls Tryd.prog 16 #[.string s] w fun e w' => ∃ x c, e = .returned (.tuple #[.slice x (cntW a) c, .int .i64 (workW a), .int .i64 (spanW a), .nilIface]) ∧ InPlan w' (.slice x (cntW a) c) (build a []) ∧ Only [] w w' := by
  refine (weave_Parse s w (by omega) hsyn hran).mono fun e w' hq => ?_
  rcases hq with ⟨h, _⟩ | ⟨_, a', v, F, h1, h2, h3, _, h5⟩
  · exact absurd (weaveF_of h200 hp h20 h30) h
  · rw [hp] at h1
    injection h1 with h1
    injection h1 with h1 _
    subst h1
    obtain ⟨x, c, rfl, _⟩ := h3.form
    have hl : (build a []).length = cntW a := by rw [build_len]; simp
    rw [hl] at h2 h3
    exact ⟨x, c, h2, h3.plan, h5⟩
theorem pText_two : pText ⟨#[50]⟩ = some (.num 2, []) := by kernel_rfl
theorem text_ok {s : ByteArray} {a : Wv} (h : pText s = some (a, [])) : NumsW (fun n => 1 ≤ n ∧ n ≤ 21) a := (p_nums _).2.2.2.1 _ _ h

end

section
open Go.RowKit Go.Deep

set_option maxRecDepth 100000 in
theorem Measure_no (s : ByteArray) (w : World) (hmax : s.size ≤ 9223372036854775807) (hsyn : VarErr "strconv.ErrSyntax" w) (hran : VarErr "strconv.ErrRange" w) (h : weaveF s ≠ 0) :
    Calls Tryd.prog 19 #[.string s] w fun e w' => e = .returned (.tuple #[.int .i64 0, .int .i64 0, .iface 80 (.int .i64 (weaveF s))]) ∧ Only [] w w' := by
  have hp := Parse_no s w hmax hsyn hran h
  generalize weaveF s = f at *
  clear hsyn hran h
  go_enter Tryd.func19, Tryd.ntmps19
  go_wp2_with fail
  refine hp.mono ?_
  rintro e w1 ⟨rfl, ho⟩
  clear hp
  go_wp2
  go_ret3
  exact ⟨rfl, ho⟩

set_option maxRecDepth 100000 in
theorem Measure_ok (s : ByteArray) (w : World) (hsyn : VarErr "strconv.ErrSyntax" w) (hran : VarErr "strconv.ErrRange" w) (a : Wv) (h200 : s.size ≤ 200) (hp : pText s = some (a, [])) (h20 : ¬ ∃ i, i < cntW a ∧ 20 < wkOf (build a []) i) (h30 : cntW a ≤ 30) :
    Calls Tryd.prog 19 #[.string s] w fun e w' => e = .returned (.tuple #[.int .i64 (workW a), .int .i64 (spanW a), .nilIface]) ∧ Only [] w w' := by
  have hp := Parse_ok s w hsyn hran a h200 hp h20 h30
  generalize workW a = x at *
  generalize spanW a = y at *
  clear hsyn hran h20
  go_enter Tryd.func19, Tryd.ntmps19
  go_wp2_with fail
  refine hp.mono ?_
  rintro e w1 ⟨_, _, rfl, _, ho⟩
  clear hp
  go_wp2
  go_ret3
  exact ⟨rfl, ho⟩

end

section
open Go.RowKit Go.Deep

theorem pOne_succ (f : Nat) (s : List UInt8) : pOne (f + 1) s = if isC 40 s then (pBeside f s.tail).bind (fun x => if isC 41 x.2 then some (x.1, x.2.tail) else none) else pNum s := by rw [pOne]
theorem pBehind_succ (f : Nat) (s : List UInt8) : pBehind (f + 1) s = (pOne f s).bind (fun x => pSemi f x.1 x.2) := by rw [pBehind]
theorem pBeside_succ (f : Nat) (s : List UInt8) : pBeside (f + 1) s = (pBehind f s).bind (fun x => pBar f x.1 x.2) := by rw [pBeside]

/-- So much fuel is enough. -/
theorem p_enough : ∀ g : Nat, (∀ s x, pOne g s = some x → ∀ f, 3 * s.length + 1 ≤ f → pOne f s = some x) ∧ (∀ s x, pBehind g s = some x → ∀ f, 3 * s.length + 2 ≤ f → pBehind f s = some x) ∧
    (∀ b s x, pSemi g b s = some x → ∀ f, 3 * s.length + 1 ≤ f → pSemi f b s = some x) ∧ (∀ s x, pBeside g s = some x → ∀ f, 3 * s.length + 3 ≤ f → pBeside f s = some x) ∧ (∀ b s x, pBar g b s = some x → ∀ f, 3 * s.length + 1 ≤ f → pBar f b s = some x) := by
  intro g
  induction g with
  | zero => exact ⟨by simp [pOne], by simp [pBehind], by simp [pSemi], by simp [pBeside], by simp [pBar]⟩
  | succ g ih =>
    obtain ⟨i1, i2, i3, i4, i5⟩ := ih
    refine ⟨?_, ?_, ?_, ?_, ?_⟩
    · intro s x h f hf
      obtain ⟨f, rfl⟩ : ∃ f', f = f' + 1 := ⟨f - 1, by omega⟩
      rw [pOne_succ] at h ⊢
      by_cases hc : isC 40 s = true
      · rw [if_pos hc] at h ⊢
        obtain ⟨y, h1, h2⟩ := bind_some h
        have := isC_len hc
        rw [i4 _ _ h1 f (by omega)]
        exact h2
      · rw [if_neg hc] at h ⊢; exact h
    · intro s x h f hf
      obtain ⟨f, rfl⟩ : ∃ f', f = f' + 1 := ⟨f - 1, by omega⟩
      rw [pBehind_succ] at h ⊢
      obtain ⟨y, h1, h2⟩ := bind_some h
      have := (p_len g).1 _ _ _ h1
      rw [i1 _ _ h1 f (by omega)]
      exact i3 _ _ _ h2 f (by omega)
    · intro b s x h f hf
      obtain ⟨f, rfl⟩ : ∃ f', f = f' + 1 := ⟨f - 1, by omega⟩
      rw [pSemi_succ] at h ⊢
      by_cases hc : isC 59 s = true
      · rw [if_pos hc] at h ⊢
        obtain ⟨y, h1, h2⟩ := bind_some h
        have := isC_len hc
        have := (p_len g).1 _ _ _ h1
        rw [i1 _ _ h1 f (by omega)]
        exact i3 _ _ _ h2 f (by omega)
      · rw [if_neg hc] at h ⊢; exact h
    · intro s x h f hf
      obtain ⟨f, rfl⟩ : ∃ f', f = f' + 1 := ⟨f - 1, by omega⟩
      rw [pBeside_succ] at h ⊢
      obtain ⟨y, h1, h2⟩ := bind_some h
      have := (p_len g).2.1 _ _ _ h1
      rw [i2 _ _ h1 f (by omega)]
      exact i5 _ _ _ h2 f (by omega)
    · intro b s x h f hf
      obtain ⟨f, rfl⟩ : ∃ f', f = f' + 1 := ⟨f - 1, by omega⟩
      rw [pBar_succ] at h ⊢
      by_cases hc : isC 124 s = true
      · rw [if_pos hc] at h ⊢
        obtain ⟨y, h1, h2⟩ := bind_some h
        have := isC_len hc
        have := (p_len g).2.1 _ _ _ h1
        rw [i2 _ _ h1 f (by omega)]
        exact i5 _ _ _ h2 f (by omega)
      · rw [if_neg hc] at h ⊢; exact h

theorem pText_of {f : Nat} {s : ByteArray} {x : Wv × List UInt8} (h : pBeside f s.data.toList = some x) : pText s = some x := by
  unfold pText rest
  rw [List.drop_zero]
  have hl : s.data.toList.length = s.size := Array.length_toList
  exact (p_enough f).2.2.2.1 _ _ h _ (by omega)
theorem pText_list {s : ByteArray} {x : Wv × List UInt8} (h : pText s = some x) : ∃ f, pBeside f s.data.toList = some x := by
  unfold pText rest at h
  rw [List.drop_zero] at h
  exact ⟨_, h⟩

/-- In signs, whatever stands behind. -/
theorem one_signs {f : Nat} {s t : List UInt8} {a : Wv} (h : pBeside f s = some (a, [])) : pOne (f + 1) (40 :: (s ++ 41 :: t)) = some (a, t) := by
  have hsh : Shut (41 :: t) := fun c hc => by
    simp at hc
    subst hc
    exact ⟨by decide, by decide, by decide⟩
  have h1 := (p_app (41 :: t) f).2.2.2.1 s a [] h (fun _ => hsh)
  rw [pOne_succ, if_pos (by simp [isC])]
  show (pBeside f (s ++ 41 :: t)).bind _ = _
  rw [h1]
  rfl
/-- One behind the other, both in signs. -/
theorem two_signs {f g : Nat} {s t : List UInt8} {a b : Wv} (h : pBeside f s = some (a, [])) (k : pBeside g t = some (b, [])) : ∃ F, pBeside F (40 :: (s ++ 41 :: 59 :: 40 :: (t ++ [41]))) = some (.seq a b, []) := by
  obtain ⟨m, hf, hg⟩ : ∃ m, f ≤ m ∧ g ≤ m := ⟨max f g, by omega, by omega⟩
  have h1 := one_signs (t := 59 :: 40 :: (t ++ [41])) (pBeside_more hf h)
  have h2 := one_signs (t := []) (pBeside_more hg k)
  have h1' := (p_more (m + 1)).1 _ _ h1
  refine ⟨m + 4, ?_⟩
  rw [pBeside_succ, pBehind_succ, h1']
  show ((pSemi (m + 1 + 1) a (59 :: 40 :: (t ++ [41])))).bind _ = _
  rw [pSemi_succ, if_pos (by simp [isC])]
  show (((pOne (m + 1) (40 :: (t ++ [41]))).bind _)).bind _ = _
  rw [h2]
  show (pSemi (m + 1) (.seq a b) []).bind _ = _
  rw [pSemi_succ]
  show pBar (m + 3) (.seq a b) [] = _
  rw [pBar_succ]
  rfl

/-- What stands beside: the same, whatever it stands beside. -/
theorem pBar_fold : ∀ (f : Nat) (c : Wv) (s : List UInt8) (x : Wv) (r : List UInt8), pBar f c s = some (x, r) → ∃ l : List Wv, x = l.foldl .par c ∧ ∀ c', pBar f c' s = some (l.foldl .par c', r) := by
  intro f
  induction f with
  | zero => intro c s x r h; simp [pBar] at h
  | succ f ih =>
    intro c s x r h
    rw [pBar_succ] at h
    by_cases hc : isC 124 s = true
    · rw [if_pos hc] at h
      obtain ⟨y, h1, h2⟩ := bind_some h
      obtain ⟨l, hx, hl⟩ := ih _ _ _ _ h2
      refine ⟨y.1 :: l, hx, fun c' => ?_⟩
      rw [pBar_succ, if_pos hc, h1]
      exact hl (.par c' y.1)
    · rw [if_neg hc] at h
      injection h with h
      injection h with h1 h2
      refine ⟨[], h1.symm, fun c' => ?_⟩
      rw [pBar_succ, if_neg hc, h2]
      rfl

theorem pBar_on (u : List UInt8) (y : Wv × List UInt8) (hu : ∀ c, u.head? = some c → isDig c = false ∧ c ≠ 59) : ∀ (f : Nat) (c : Wv) (s : List UInt8) (x : Wv), pBar f c s = some (x, []) → (∃ g, pBar g x u = some y) → ∃ g, pBar g c (s ++ u) = some y := by
  intro f
  induction f with
  | zero => intro c s x h; simp [pBar] at h
  | succ f ih =>
    intro c s x h hy
    rw [pBar_succ] at h
    by_cases hc : isC 124 s = true
    · rw [if_pos hc] at h
      obtain ⟨z, h1, h2⟩ := bind_some h
      obtain ⟨g, hg⟩ := ih _ _ _ h2 hy
      have hne := isC_ne hc
      have h3 := (p_app u f).2.1 _ _ _ h1 (fun _ => hu)
      refine ⟨max f g + 1, ?_⟩
      rw [pBar_succ, isC_app u hne, if_pos hc, tail_app u hne]
      have h4 : pBehind (max f g) (s.tail ++ u) = some (z.1, z.2 ++ u) := by
        obtain ⟨k, hk⟩ : ∃ k, max f g = f + k := ⟨max f g - f, by omega⟩
        rw [hk]
        clear hk
        induction k with
        | zero => exact h3
        | succ k ihk => exact (p_more (f + k)).2.1 _ _ ihk
      rw [h4]
      exact pBar_more (by omega) hg
    · rw [if_neg hc] at h
      injection h with h
      injection h with h1 h2
      rw [h1, h2]
      exact hy

theorem pBehind_more {f g : Nat} (hg : f ≤ g) {s : List UInt8} {x : Wv × List UInt8} (h : pBehind f s = some x) : pBehind g s = some x := by
  obtain ⟨k, rfl⟩ : ∃ k, g = f + k := ⟨g - f, by omega⟩
  clear hg
  induction k with
  | zero => exact h
  | succ k ih => exact (p_more (f + k)).2.1 _ _ ih

/-- All the numbers, as they stand. -/
def worksW : Wv → List Int
  | .num n => [n]
  | .seq a b => worksW a ++ worksW b
  | .par a b => worksW a ++ worksW b
theorem addN_wks (x : List Int) (p : PlanL) (i : Nat) : (addN x p i).map (·.1) = p.map (·.1) := by
  apply List.ext_getElem?
  intro j
  unfold addN
  rw [List.getElem?_map, List.getElem?_map]
  by_cases e : i = j
  · subst e
    by_cases hi : i < p.length
    · rw [List.getElem?_set_self hi, List.getElem?_eq_getElem hi]
      simp [wkOf, hi]
    · rw [List.getElem?_eq_none (by simp; omega), List.getElem?_eq_none (by omega)]
  · rw [List.getElem?_set_ne e]
theorem links_wks (p : PlanL) (l : List Nat) (x : List Int) : (links p l x).map (·.1) = p.map (·.1) := by
  unfold links
  induction l generalizing p with
  | nil => rfl
  | cons a l ih => rw [List.foldl_cons, ih, addN_wks]
theorem build_wks (t : Wv) (p : PlanL) : (build t p).map (·.1) = p.map (·.1) ++ worksW t := by
  induction t generalizing p with
  | num n => simp [build, worksW]
  | seq a b ia ib => show (links _ _ _).map _ = _; rw [links_wks, ib, ia]; simp [worksW]
  | par a b ia ib => show (build b (build a p)).map _ = _; rw [ib, ia]; simp [worksW]
theorem works_small (t : Wv) : (¬ ∃ i, i < cntW t ∧ 20 < wkOf (build t []) i) ↔ ∀ n ∈ worksW t, n ≤ 20 := by
  have h1 := build_wks t []
  simp only [List.map_nil, List.nil_append] at h1
  have hl : (build t []).length = cntW t := by rw [build_len]; simp
  have hw : ∀ i, i < cntW t → (worksW t)[i]? = some (wkOf (build t []) i) := fun i hi => by
    rw [← h1, List.getElem?_map, List.getElem?_eq_getElem (by omega)]
    simp [wkOf, hl, hi]
  have hwl : (worksW t).length = cntW t := by rw [← h1, List.length_map, hl]
  constructor
  · intro h n hn
    obtain ⟨i, hi, rfl⟩ := List.getElem_of_mem hn
    have h2 := hw i (by omega)
    rw [List.getElem?_eq_getElem hi] at h2
    rw [Option.some.inj h2]
    by_cases h3 : 20 < wkOf (build t []) i
    · exact absurd ⟨i, by omega, h3⟩ h
    · omega
  · rintro h ⟨i, hi, h2⟩
    have h3 := hw i hi
    have := h _ (List.mem_of_getElem? h3)
    omega

/-- c' is a, and c beside it. -/
structure Beside (a c c' : Wv) : Prop where
  work : workW c' = workW a + workW c
  span : spanW c' = max (spanW a) (spanW c)
  cnt : cntW c' = cntW a + cntW c
  works : worksW c' = worksW a ++ worksW c
theorem beside_fold (a : Wv) (l : List Wv) : ∀ c c', Beside a c c' → Beside a (l.foldl .par c) (l.foldl .par c') := by
  induction l with
  | nil => intro c c' h; exact h
  | cons d l ih =>
    intro c c' h
    refine ih _ _ ⟨?_, ?_, ?_, ?_⟩
    · show workW c' + workW d = workW a + (workW c + workW d); rw [h.work]; omega
    · show max (spanW c') (spanW d) = max (spanW a) (max (spanW c) (spanW d)); rw [h.span]; omega
    · show cntW c' + cntW d = cntW a + (cntW c + cntW d); rw [h.cnt]; omega
    · show worksW c' ++ worksW d = worksW a ++ (worksW c ++ worksW d); rw [h.works, List.append_assoc]

/-- Two texts beside each other. -/
theorem two_beside {f g : Nat} {s t : List UInt8} {a b : Wv} (h : pBeside f s = some (a, [])) (k : pBeside g t = some (b, [])) : ∃ F x, pBeside F (s ++ 124 :: t) = some (x, []) ∧ Beside a b x := by
  obtain ⟨f, rfl⟩ : ∃ f', f = f' + 1 := by
    cases f with
    | zero => simp [pBeside] at h
    | succ f => exact ⟨f, rfl⟩
  obtain ⟨g, rfl⟩ : ∃ g', g = g' + 1 := by
    cases g with
    | zero => simp [pBeside] at k
    | succ g => exact ⟨g, rfl⟩
  rw [pBeside_succ] at h k
  obtain ⟨y, h1, h2⟩ := bind_some h
  obtain ⟨z, k1, k2⟩ := bind_some k
  obtain ⟨l, hb, hl⟩ := pBar_fold _ _ _ _ _ k2
  have hu : ∀ c, (124 :: t).head? = some c → isDig c = false ∧ c ≠ 59 := fun c hc => by
    simp at hc
    subst hc
    exact ⟨by decide, by decide⟩
  have hon : ∃ m, pBar m a (124 :: t) = some (l.foldl .par (.par a z.1), []) := by
    refine ⟨g + 1, ?_⟩
    rw [pBar_succ, if_pos (by simp [isC])]
    show ((pBehind g t).bind _) = _
    rw [k1]
    exact hl _
  obtain ⟨m, hm⟩ := pBar_on (124 :: t) _ hu f y.1 y.2 a h2 hon
  have h3 := (p_app (124 :: t) f).2.1 _ _ _ h1 (fun _ => hu)
  refine ⟨max f m + 1, l.foldl .par (.par a z.1), ?_, ?_⟩
  · rw [pBeside_succ, pBehind_more (by omega) h3]
    exact pBar_more (by omega) hm
  · rw [hb]
    exact beside_fold a l _ _ ⟨rfl, rfl, rfl, rfl⟩

end

end Go.Proofs.YtloojhnhialenaaDoor
