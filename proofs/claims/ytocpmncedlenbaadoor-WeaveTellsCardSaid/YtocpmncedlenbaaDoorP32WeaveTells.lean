/-
  Contracts of weave's readers, all together.
  Contracts of weave.Parse's deferred closure.
-/
import Derived.Test.YtocpmncedlenbaaDoorP31WeaveTells
import Derived.Test.YtocpmncedlenbaaDoorP13WeaveTells
import Derived.Test.YtocpmncedlenbaaDoorP27WeaveTells
import Derived.Defers
import Derived.Recover
namespace Go.Proofs.YtocpmncedlenbaaDoor
open Go.RowKit Go.Deep

theorem weave_all (base R : Nat) (s : ByteArray) (hs : s.size ≤ 200) : ∀ N k, s.size - k ≤ N →
    (∀ f, 3 * (s.size - k) + 1 ≤ f → ∀ F pv p w, RdAt w base F R s k pv p → ErrsAt w base → Calls Tryd.prog 68 #[.pointer (some ⟨R, 0, none⟩)] w (RdPost base F R s pv p w (pOne f (rest s k)))) ∧
    (∀ f, 3 * (s.size - k) + 2 ≤ f → ∀ F pv p w, RdAt w base F R s k pv p → ErrsAt w base → Calls Tryd.prog 48 #[.pointer (some ⟨R, 0, none⟩)] w (RdPost base F R s pv p w (pBehind f (rest s k)))) ∧
    (∀ f, 3 * (s.size - k) + 3 ≤ f → ∀ F pv p w, RdAt w base F R s k pv p → ErrsAt w base → Calls Tryd.prog 24 #[.pointer (some ⟨R, 0, none⟩)] w (RdPost base F R s pv p w (pBeside f (rest s k)))) := by
  intro N
  induction N with
  | zero =>
    intro k hk
    have h1 : ∀ k, s.size - k ≤ 0 → ∀ f, 3 * (s.size - k) + 1 ≤ f → ∀ F pv p w, RdAt w base F R s k pv p → ErrsAt w base → Calls Tryd.prog 68 #[.pointer (some ⟨R, 0, none⟩)] w (RdPost base F R s pv p w (pOne f (rest s k))) := by
      intro k hk f hf F pv p w h hv
      obtain ⟨f0, rfl⟩ : ∃ f0, f = f0 + 1 := ⟨f - 1, by omega⟩
      refine weave_one base R s hs f0 k (fun hc => ?_) F pv p w h hv
      rw [rest_end s k (by omega)] at hc; cases hc
    have h2 : ∀ k, s.size - k ≤ 0 → ∀ f, 3 * (s.size - k) + 2 ≤ f → ∀ F pv p w, RdAt w base F R s k pv p → ErrsAt w base → Calls Tryd.prog 48 #[.pointer (some ⟨R, 0, none⟩)] w (RdPost base F R s pv p w (pBehind f (rest s k))) := by
      intro k hk f hf F pv p w h hv
      obtain ⟨f0, rfl⟩ : ∃ f0, f = f0 + 1 := ⟨f - 1, by omega⟩
      exact weave_behind base R s hs f0 k (by omega) (fun k' f' hk' hf' => h1 k' (by omega) f' hf') F pv p w h hv
    refine ⟨h1 k hk, h2 k hk, ?_⟩
    intro f hf F pv p w h hv
    obtain ⟨f0, rfl⟩ : ∃ f0, f = f0 + 1 := ⟨f - 1, by omega⟩
    exact weave_beside base R s hs f0 k (by omega) (fun k' f' hk' hf' => h2 k' (by omega) f' hf') F pv p w h hv
  | succ N ih =>
    intro k hk
    have h1 : ∀ k, s.size - k ≤ N + 1 → ∀ f, 3 * (s.size - k) + 1 ≤ f → ∀ F pv p w, RdAt w base F R s k pv p → ErrsAt w base → Calls Tryd.prog 68 #[.pointer (some ⟨R, 0, none⟩)] w (RdPost base F R s pv p w (pOne f (rest s k))) := by
      intro k hk f hf F pv p w h hv
      obtain ⟨f0, rfl⟩ : ∃ f0, f = f0 + 1 := ⟨f - 1, by omega⟩
      refine weave_one base R s hs f0 k (fun hc => ?_) F pv p w h hv
      have hks : k < s.size := by
        rcases Nat.lt_or_ge k s.size with h' | h'
        · exact h'
        · rw [rest_end s k h'] at hc; cases hc
      exact (ih (k + 1) (by omega)).2.2 f0 (by omega)
    have h2 : ∀ k, s.size - k ≤ N + 1 → ∀ f, 3 * (s.size - k) + 2 ≤ f → ∀ F pv p w, RdAt w base F R s k pv p → ErrsAt w base → Calls Tryd.prog 48 #[.pointer (some ⟨R, 0, none⟩)] w (RdPost base F R s pv p w (pBehind f (rest s k))) := by
      intro k hk f hf F pv p w h hv
      obtain ⟨f0, rfl⟩ : ∃ f0, f = f0 + 1 := ⟨f - 1, by omega⟩
      exact weave_behind base R s hs f0 k (by omega) (fun k' f' hk' hf' => h1 k' (by omega) f' hf') F pv p w h hv
    refine ⟨h1 k hk, h2 k hk, ?_⟩
    intro f hf F pv p w h hv
    obtain ⟨f0, rfl⟩ : ∃ f0, f = f0 + 1 := ⟨f - 1, by omega⟩
    exact weave_beside base R s hs f0 k (by omega) (fun k' f' hk' hf' => h2 k' (by omega) f' hf') F pv p w h hv

end Go.Proofs.YtocpmncedlenbaaDoor

namespace Go.Proofs.YtocpmncedlenbaaDoor
open Go.RowKit Go.Deep

set_option maxRecDepth 100000 in
theorem parse_idle (a b c d : Value) (w : World) :
    CallsD Tryd.prog 23 #[a, b, c, d] .returning w fun e u' w' => e = .returned (.tuple #[]) ∧ u' = .returning ∧ w' = w := by
  refine callsD_of_wpS Tryd.func23 rfl fun c₀ cs hu => ?_
  apply wpS_seq
  apply wpS_region
  simp [wpOpsS, go_sem, recoverD, hu, Tryd.ntmps23, Exit.thenS]
  have ht : #[a, b, c, d] ++ (Array.replicate 12 undef).setIfInBounds 3 Value.nilIface = #[a, b, c, d, undef, undef, undef, .nilIface, undef, undef, undef, undef, undef, undef, undef, undef] := rfl
  rw [ht]
  clear ht
  refine wpS_of_wp ?_
  go_wp2
  cases c₀
  simp_all [bodyPostS, results, Tryd.results23]

theorem assert_wrong (v : Value) (w : World) : (Instr.typeAssert (.iface 68 v) 20 68 true).run Tryd.prog w = .ok (.tuple #[v, .bool true]) w := by
  have hu := Tryd.underlying68
  simp [Instr.typeAssert, run_underlying hu]

set_option maxRecDepth 100000 in
theorem parse_catch (a b c d : Nat) (x0 x1 x2 x3 : Value) (w : World) (hA : Cells w a [x0]) (hB : Cells w b [x1]) (hC : Cells w c [x2]) (hD : Cells w d [x3]) (hab : a ≠ b ∧ a ≠ c ∧ a ≠ d ∧ b ≠ c ∧ b ≠ d ∧ c ≠ d) :
    CallsD Tryd.prog 23 #[.pointer (some ⟨a, 0, none⟩), .pointer (some ⟨b, 0, none⟩), .pointer (some ⟨c, 0, none⟩), .pointer (some ⟨d, 0, none⟩)] (.panicking [{ v := .iface 68 (.agg #[.int .i64 2]), recovered := false }]) w fun e u' w' =>
      e = .returned (.tuple #[]) ∧ u' = .panicking [{ v := .iface 68 (.agg #[.int .i64 2]), recovered := true }] ∧ Cells w' a [.slice none 0 0] ∧ Cells w' b [.int .i64 0] ∧ Cells w' c [.int .i64 0] ∧ Cells w' d [.iface 66 (.int .i64 2)] ∧ Only [a, b, c, d] w w' := by
  refine callsD_of_wpS Tryd.func23 rfl fun c₀ cs hu => ?_
  apply wpS_seq
  apply wpS_region
  simp [wpOpsS, go_sem, recoverD, hu, Tryd.ntmps23, Exit.thenS]
  have ht : #[.pointer (some ⟨a, 0, none⟩), .pointer (some ⟨b, 0, none⟩), .pointer (some ⟨c, 0, none⟩), .pointer (some ⟨d, 0, none⟩)] ++ (Array.replicate 12 undef).setIfInBounds 3 (Value.iface 68 (.agg #[.int .i64 2])) = #[.pointer (some ⟨a, 0, none⟩), .pointer (some ⟨b, 0, none⟩), .pointer (some ⟨c, 0, none⟩), .pointer (some ⟨d, 0, none⟩), undef, undef, undef, .iface 68 (.agg #[.int .i64 2]), undef, undef, undef, undef, undef, undef, undef, undef] := rfl
  rw [ht]
  clear ht
  have hta := assert_wrong
  refine wpS_of_wp ?_
  obtain ⟨h1, h2, h3, h4, h5, h6⟩ := hab
  obtain ⟨W1, hW1⟩ : ∃ W1, w.alloc (.cells #[.int .i64 2] 68) = W1 := ⟨_, rfl⟩
  have ho1 : Only [] w W1 := by rw [← hW1]; exact (Only.refl [] w).alloc _
  have hE1 : Cells W1 w.heap.size [.int .i64 2] := by
    have := Cells.new w #[.int .i64 2] 68
    rw [hW1] at this; exact this
  have la := hA.lt
  have lb := hB.lt
  have lc := hC.lt
  have ld := hD.lt
  have hA1 := hA.only ho1 (by simp)
  have hB1 := hB.only ho1 (by simp)
  have hC1 := hC.only ho1 (by simp)
  have hD1 := hD.only ho1 (by simp)
  obtain ⟨W2, hW2⟩ : ∃ W2, (W1.setCell ⟨a, 0, none⟩ (.slice none 0 0)).drew = W2 := ⟨_, rfl⟩
  have ho2 : Only [a] W1 W2 := by rw [← hW2]; exact ((Only.refl [a] W1).setCell (by simp) _).drew
  obtain ⟨W3, hW3⟩ : ∃ W3, W2.setCell ⟨b, 0, none⟩ (.int .i64 0) = W3 := ⟨_, rfl⟩
  have ho3 : Only [b] W2 W3 := by rw [← hW3]; exact (Only.refl [b] W2).setCell (by simp) _
  obtain ⟨W4, hW4⟩ : ∃ W4, W3.setCell ⟨c, 0, none⟩ (.int .i64 0) = W4 := ⟨_, rfl⟩
  have ho4 : Only [c] W3 W4 := by rw [← hW4]; exact (Only.refl [c] W3).setCell (by simp) _
  have hA2 : Cells W2 a [.slice none 0 0] := by rw [← hW2]; exact (hA1.set 0 _).drewN 1
  have hB2 := hB1.only ho2 (by simp; omega)
  have hC2 := hC1.only ho2 (by simp; omega)
  have hD2 := hD1.only ho2 (by simp; omega)
  have hE2 := hE1.only ho2 (by simp; omega)
  have hB3 : Cells W3 b [.int .i64 0] := by rw [← hW3]; exact hB2.set 0 _
  have hC3 := hC2.only ho3 (by simp; omega)
  have hD3 := hD2.only ho3 (by simp; omega)
  have hE3 := hE2.only ho3 (by simp; omega)
  have hC4 : Cells W4 c [.int .i64 0] := by rw [← hW4]; exact hC3.set 0 _
  have hD4 := hD3.only ho4 (by simp; omega)
  have hE4 := hE3.only ho4 (by simp; omega)
  obtain ⟨W5, hW5⟩ : ∃ W5, W4.setCell ⟨d, 0, none⟩ (.iface 66 (.int .i64 2)) = W5 := ⟨_, rfl⟩
  have ho5 : Only [d] W4 W5 := by rw [← hW5]; exact (Only.refl [d] W4).setCell (by simp) _
  have hD5 : Cells W5 d [.iface 66 (.int .i64 2)] := by rw [← hW5]; exact hD4.set 0 _
  have HF := Lib.hid (And.intro (((hA2.only ho3 (by simp; omega)).only ho4 (by simp; omega)).only ho5 (by simp; omega)) (And.intro ((hB3.only ho4 (by simp; omega)).only ho5 (by simp; omega)) (And.intro (hC4.only ho5 (by simp; omega)) (And.intro hD5
    (((((ho1.mono (T := [a, b, c, d]) (by simp)).trans (ho2.mono (T := [a, b, c, d]) (by simp)) (fun x hx _ => hx)).trans (ho3.mono (T := [a, b, c, d]) (by simp)) (fun x hx _ => hx)).trans (ho4.mono (T := [a, b, c, d]) (by simp)) (fun x hx _ => hx)).trans (ho5.mono (T := [a, b, c, d]) (by simp)) (fun x hx _ => hx))))))
  have e1 := hE1.cell 0 _ rfl
  have e2 := hE2.cell 0 _ rfl
  have e3 := hE3.cell 0 _ rfl
  have e4 := hE4.cell 0 _ rfl
  have a1 := hA1.cell 0 _ rfl
  have a1' := hA1.free 0 _ rfl
  have b2 := hB2.cell 0 _ rfl
  have b2' := hB2.free 0 _ rfl
  have c3 := hC3.cell 0 _ rfl
  have c3' := hC3.free 0 _ rfl
  have d4 := hD4.cell 0 _ rfl
  have d4' := hD4.free 0 _ rfl
  have H2 := Lib.hid hW2
  have H3 := Lib.hid hW3
  have H4 := Lib.hid hW4
  have H5 := Lib.hid hW5
  clear hA hB hC hD hA1 hB1 hC1 hD1 hA2 hB2 hC2 hD2 hE2 hB3 hC3 hD3 hE3 hC4 hD4 hE4 hD5 hE1 ho1 ho2 ho3 ho4 ho5 hW2 hW3 hW4 hW5
  go_wp2_with fail
  clear hW1
  refine wp_region_seqE [3, 4, 5, 6] [[], [(0, 3)], [(0, 3)], [(0, 3)]] (by kernel_rfl) (by decide +kernel) (by decide +kernel) (by decide +kernel) rfl rfl ?_
  simp only [segsOf, runW, List.getElem?_cons_succ, List.getElem?_cons_zero, List.take_succ_cons, List.take_zero, List.drop_succ_cons, List.drop_zero, Nat.reduceAdd, Nat.reduceSub]
  repeat still_step
  refine wpStill_nil ?_
  refine writes_step fun K1 hK1 => ?_
  unfold writesThen
  go_simp
  rw [H2.out]
  refine hK1 _ _ ?_
  clear hK1 K1
  repeat still_step
  refine wpStill_nil ?_
  refine writes_step fun K1 hK1 => ?_
  unfold writesThen
  go_simp
  rw [H3.out]
  refine hK1 _ _ ?_
  clear hK1 K1
  repeat still_step
  refine wpStill_nil ?_
  refine writes_step fun K1 hK1 => ?_
  unfold writesThen
  go_simp
  rw [H4.out]
  refine hK1 _ _ ?_
  clear hK1 K1
  repeat still_step
  refine wpStill_nil ?_
  refine writes_step fun K1 hK1 => ?_
  unfold writesThen
  go_simp
  rw [H5.out]
  refine hK1 _ _ ?_
  clear hK1 K1
  simp only [lateW, List.nil_append, List.cons_append, List.drop_zero, List.flatMap_cons, List.flatMap_nil, List.take_succ_cons, List.take_zero, List.append_nil, List.getElem?_cons_succ, List.getElem?_cons_zero, Option.getD_some, List.length_cons, List.length_nil, Nat.reduceAdd, and_true]
  refine ⟨⟨?_, ?_, ?_, ?_⟩, ?_⟩
  · exact wpStill_nil rfl
  · repeat still_step
    exact wpStill_nil rfl
  · repeat still_step
    exact wpStill_nil rfl
  · repeat still_step
    exact wpStill_nil rfl
  refine ⟨rfl, _, rfl, .tuple #[], by simp [results, Tryd.results23], rfl, rfl, HF.out.1, HF.out.2.1, HF.out.2.2.1, HF.out.2.2.2.1, HF.out.2.2.2.2⟩

end Go.Proofs.YtocpmncedlenbaaDoor
