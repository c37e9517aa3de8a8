/-
  The statement ParkWakes: of hands that fell asleep one behind the other as many wake as are called, in that order, and no others. No condition.
-/
import Derived.Test.YtcdnnklbbnojpaaFrame
import Derived.Test.YtcdnnklbbnojpaaPark
import Derived.Test.YtcdnnklbbnojpaaMore
namespace Go.Proofs.Ytcdnnklbbnojpaa.parkWakes
open Go.ChangeShapes Go.WideShapes Go.ChangeAt Go.RowKit
open Go.ChangeMaps (open_string shut_string)
set_option linter.unusedVariables false

theorem nodup_inj {R : List Int} (h : R.Nodup) {i j : Nat} (hi : i < R.length) (hj : j < R.length) (e : nth R i = nth R j) : i = j := by
  have k : ∀ a b, a < b → b < R.length → nth R a ≠ nth R b := by
    intro a b hab hb
    have := (List.pairwise_iff_getElem.1 h) a b (by omega) hb hab
    simpa [nth, hb, show a < R.length by omega] using this
  rcases Nat.lt_trichotomy i j with h1 | h1 | h1
  · exact absurd e (k i j h1 hj)
  · exact h1
  · exact absurd e.symm (k j i h1 hi)

theorem nodup_drop {R : List Int} (h : R.Nodup) {i : Nat} (hi : i < R.length) (n : Nat) : nth R i ∈ R.drop n ↔ n ≤ i := by
  have hn : ∀ j, nth (R.drop n) j = nth R (n + j) := fun j => by simp [nth]
  rw [mem_nth]
  constructor
  · rintro ⟨j, hj, e⟩
    rw [List.length_drop] at hj
    rw [hn] at e
    have := nodup_inj h (by omega) hi e
    omega
  · intro hni
    exact ⟨i - n, by rw [List.length_drop]; omega, by rw [hn]; congr 1; omega⟩

theorem park_mem {w : World} {fp : List Nat} {b hands : Nat} {row : List Int} (h : ParkIs w fp b hands row) : b ∈ fp := by
  obtain ⟨⟨rv, hc, hi, rfl, hb⟩, _⟩ := h
  simp

theorem park_lt {w : World} {fp : List Nat} {b hands : Nat} {row : List Int} (h : ParkIs w fp b hands row) : ∀ x ∈ fp, x < w.heap.size := by
  obtain ⟨⟨rv, hc, hi, rfl, hb⟩, h1, h6, hl⟩ := h
  intro x hx
  rcases List.mem_cons.1 hx with rfl | hx
  · exact hc.lt
  · exact (hi.own_lt x hx).2

set_option maxHeartbeats 1000000 in
set_option maxRecDepth 100000 in
theorem walk (a0 : Int) (v1 : Value) (l1 : List Int) (a2 : Int) (w : World) (w0 : (Lit.int .i64 a0).wf = true) (w1 : InInts w v1 l1) (w2 : (Lit.int .i64 a2).wf = true) :
    Calls Try.prog 8 #[.int .i64 a0, v1, .int .i64 a2] w fun e w' => e = .returned (.bool true) ∧ Below w.heap.size w w' := by
  have HA := w1
  clear w1
  have bd0 := bounds_i64 w0
  have bd2 := bounds_i64 w2
  clear w0 w2
  go_enter Try.func8, Try.ntmps8
  go_wp2_with fail
  refine (Park.new _ _ (by omega) (by omega)).mono ?_
  rintro e w1 ⟨rfl, hp, ho1⟩
  replace hp : ParkIs w1 [w.heap.size] w.heap.size 3 [] := hp
  go_wp2_with fail
  refine (Park.sleep _ _ _ _ _ _ hp (by omega) (by omega) (by simp) (by simp)).mono ?_
  rintro e w2 ⟨rfl, fp2, hp2, ho2, hk2⟩
  replace hp2 : ParkIs w2 fp2 w.heap.size 3 [2] := hp2
  have hoo := ho1.fresh ho2 (Nat.le_refl _)
  have hfp2 : ∀ x ∈ fp2, w.heap.size ≤ x := fun x hx => by
    rcases hk2 x hx with h | h
    · simp at h; omega
    · have := ho1.size; omega
  clear hp ho1 ho2 hk2
  go_wp2_with fail
  refine (Park.sleep _ _ _ _ _ _ hp2 (by omega) (by omega) (by simp) (by simp)).mono ?_
  rintro e w3 ⟨rfl, fp3, hp3, ho3, hk3⟩
  replace hp3 : ParkIs w3 fp3 w.heap.size 3 [2, 0] := hp3
  have hoo2 := hoo.trans ho3 (fun x hx hl => absurd (hfp2 x hx) (by omega))
  clear hp2 ho3 hk3 hoo hfp2
  go_wp2_with fail
  refine (Park.wake _ _ _ _ _ _ hp3 (by omega) (by omega)).mono ?_
  rintro e w4 ⟨v, rfl, hv, fp4, hp4, ho4, _, _⟩
  replace hv : Ints w4 w3.heap.size v [2] := hv
  replace hp4 : ParkIs w4 fp4 w.heap.size 3 [0] := hp4
  have hoo3 := hoo2.fresh ho4 (Nat.le_refl _)
  obtain ⟨g, cap, rfl, _, _⟩ := hv.sized 1 rfl (by omega)
  have hc := hv.cell 0 (by simp)
  replace hc : w4.cell? ⟨g, 0, none⟩ = some (.int .i64 2) := hc
  clear hp3 ho4 hv hoo2
  go_wp2_with fail
  refine (Park.many _ _ _ _ _ hp4).mono ?_
  rintro e w5 ⟨rfl, rfl⟩
  clear hp4 hc
  go_wp2_with fail
  by_cases hr : 1 ≤ a0 ∧ a0 ≤ 6
  · obtain ⟨hands, rfl⟩ := Int.eq_ofNat_of_zero_le (show 0 ≤ a0 by omega)
    refine (Park.new _ _ hr.1 hr.2).mono ?_
    rintro e w5 ⟨rfl, hp, ho5⟩
    rw [Int.toNat_natCast] at hp
    have ho := hoo3.trans ho5 (by simp)
    have hB := hoo3.size
    obtain ⟨a1, cap1, rfl, hin⟩ := HA.opt
    clear hoo3 ho5 HA
    go_wp2_with fail
    go_loopw [12, 13] (fun v i wr => ∃ (k : Nat) (R : List Int) (fp : List Nat), k ≤ l1.length ∧ k ≤ 40 ∧ i = .int .i64 k ∧ R.length ≤ k ∧ ParkIs wr fp w4.heap.size hands R ∧ Ints wr w.heap.size v R ∧ (∀ x ∈ own v, x ∉ fp) ∧ (∀ x ∈ fp, w.heap.size ≤ x) ∧ Only [] w wr ∧ R.Nodup ∧ ∀ x ∈ R, 0 ≤ x ∧ x < hands)
      (fun _ i _ => 40 - (intOf i).toNat)
    case atStart => exact ⟨0, [], _, Nat.zero_le _, by omega, rfl, by simp, hp, Ints.nil _ _, by simp [own, Value.ownBlock], by simpa using hB, ho, List.nodup_nil, by simp⟩
    case round =>
      obtain ⟨k, R, fp, hk, hk40, rfl, hRk, hp, hv, hdis, hfp, ho, hnd, hrng⟩ := hrel
      by_cases hlt : k < l1.length ∧ k < 40
      · obtain ⟨hlt, hlt40⟩ := hlt
        obtain ⟨b, off, rfl, hc0⟩ := hin k hlt
        have hlt0 := cell_lt hc0
        have hc : wr.cell? ⟨b, off + k, none⟩ = some (.int .i64 (nth l1 k)) := (ho.cell (p := ⟨b, off + k, none⟩) hlt0 (by simp)).trans hc0
        clear hin
        have hsz := ho.size
        by_cases hgood : (0 ≤ nth l1 k ∧ nth l1 k < hands) ∧ nth l1 k ∉ R
        · have HS := Lib.hid (Park.sleep _ _ _ _ _ _ hp hgood.1.1 hgood.1.2 hgood.2 (by omega))
          have HG := Lib.hid hgood
          clear hgood
          go_wp2_with fail
          refine HS.out.mono ?_
          rintro e w6 ⟨rfl, fp2, hp2, ho6, hk6⟩
          have hv6 := hv.only ho6 (fun g hg hx => hdis g (by simp [own, hg]) hx)
          have hd6 := kin_apart hk6 (fun x hx => (hv.own_lt x hx).2) hdis
          have hfp6 := kin_ge hk6 hfp hsz
          have ho7 := ho.kin ho6 hfp
          have hsz7 := ho7.size
          have hc7 : w6.cell? ⟨b, off + k, none⟩ = some (.int .i64 (nth l1 k)) := (ho7.cell (p := ⟨b, off + k, none⟩) hlt0 (by simp)).trans hc0
          clear hc HS hp hv ho6 hk6 hdis hfp ho hsz
          go_wp2_with (at_builtin; refine wpList_push rfl (.tmp 87) (.tmp 92) rfl w6 w.heap.size u12 R w6.heap.size (nth l1 k) R.length hv6 rfl (by omega) hsz7 rfl rfl ((Only.refl [] w6).alloc _) (World.cell?_alloc_at _ _ _ _ rfl) ?_; intro g cap w8 hv8 hO8 hK8)
          have ho9 := ho7.kin hO8 (fun x hx => (hv6.own_lt x hx).1)
          have hp9 := hp2.only hO8 (apart_symm hd6)
          have hd9 := apart_symm (kin_apart (kin_push (n := R.length + 1) (cap := cap) hK8) (park_lt hp2) (apart_symm hd6))
          have hrel : Hid ((R ++ [nth l1 k]).length ≤ k + 1 ∧ (R ++ [nth l1 k]).Nodup ∧ ∀ x ∈ R ++ [nth l1 k], 0 ≤ x ∧ x < (hands : Int)) := by
            refine ⟨by simp; omega, ?_, ?_⟩
            · rw [List.nodup_append]
              exact ⟨hnd, by simp, fun a ha b hb => by simp at hb; subst hb; exact fun e => HG.out.2 (e ▸ ha)⟩
            · intro x hx
              rcases List.mem_append.1 hx with hx | hx
              · exact hrng x hx
              · simp at hx; subst hx; exact HG.out.1
          clear hv6 hO8 hK8 hp2 hd6 ho7 hc7 hc0 hnd hrng
          go_wp2
          go_roundw
          case rel => exact ⟨k + 1, _, _, by omega, by omega, by go_num, hrel.out.1, hp9, hv8, hd9, hfp6, ho9, hrel.out.2.1, hrel.out.2.2⟩
          case measure => simp [intOf]; omega
        · have hS : ∃ c : Int, Calls Try.prog 24 #[.pointer (some ⟨w4.heap.size, 0, none⟩), .int .i64 (nth l1 k)] wr fun e w' => e = .returned (.iface 23 (.int .i64 c)) ∧ wr = w' := by
            by_cases h1 : 0 ≤ nth l1 k ∧ nth l1 k < hands
            · have h2 : nth l1 k ∈ R := by
                by_cases h3 : nth l1 k ∈ R
                · exact h3
                · exact absurd ⟨h1, h3⟩ hgood
              exact ⟨6, Park.sleep_in _ _ _ _ _ _ hp h1.1 h1.2 h2⟩
            · exact ⟨1, Park.sleep_no _ _ _ _ _ _ hp (by omega)⟩
          obtain ⟨c, hS⟩ := hS
          have HS := Lib.hid hS
          clear hS hgood
          go_wp2_with fail
          refine HS.out.mono ?_
          rintro e w6 ⟨rfl, rfl⟩
          go_wp2
          go_roundw
          case rel => exact ⟨k + 1, R, fp, by omega, by omega, by go_num, by omega, hp, hv, hdis, hfp, ho, hnd, hrng⟩
          case measure => simp [intOf]; omega
      · have hout : l1.length ≤ k ∨ (k < l1.length ∧ 40 ≤ k) := by omega
        clear hlt hin
        rcases hout with hout | ⟨hout, hout2⟩
        all_goals
          obtain ⟨va, vcap, rfl, hva⟩ := hv.opt
          go_wp2_with fail
          refine (Park.many _ _ _ _ _ hp).mono ?_
          rintro e w6 ⟨rfl, rfl⟩
          go_wp2_with fail
          by_cases hn : a2 < 0
          · refine (Park.wake_no _ _ _ _ _ _ hp hn).mono ?_
            rintro e w6 ⟨rfl, rfl⟩
            clear hva
            go_wp2
            go_ret
            exact ⟨rfl, ho.below (Nat.le_refl _) (by simp)⟩
          · obtain ⟨n, rfl⟩ := Int.eq_ofNat_of_zero_le (show 0 ≤ a2 by omega)
            refine (Park.wake _ _ _ _ _ _ hp (by omega) (by omega)).mono ?_
            rintro e w6 ⟨vw, rfl, hvw, fp2, hp2, ho6, hk6, _⟩
            rw [Int.toNat_natCast] at hvw hp2
            have ho7 := ho.fresh ho6 (by omega)
            have hmem := park_mem hp
            have hv6 := hv.only ho6 (fun g hg hx => hdis g (by simp [own, hg]) (by simp at hx; rw [hx]; exact hmem))
            have hrow : ∀ i, i < R.length → ∃ g, va = some ⟨g, 0, none⟩ ∧ w6.cell? ⟨g, i, none⟩ = some (.int .i64 (nth R i)) := fun i hi => by
              obtain ⟨g, e, _⟩ := hva i hi
              subst e
              exact ⟨g, rfl, hv6.cell i hi⟩
            obtain ⟨wa, wcap, rfl, hwa⟩ := hvw.opt
            have HND := Lib.hid hnd
            clear hva hv hv6 hp ho ho6 hk6 hdis hvw hnd
            by_cases hcase : n < R.length
            · have hd0 : decide (R.length < n) = false := by simp; omega
              have hM : (R.take n).length = n := by simp; omega
              have hD : (((R.drop n).length : Nat) : Int) = (R.length : Int) - n := by simp; omega
              have hMany := Park.many _ _ _ _ _ hp2
              rw [hD] at hMany
              rw [hM] at hwa ⊢
              have hw : ∀ i, i < n → ∃ g, wa = some ⟨g, 0, none⟩ ∧ w6.cell? ⟨g, i, none⟩ = some (.int .i64 (nth R i)) := fun i hi => by
                obtain ⟨g, e, h⟩ := hwa i hi
                exact ⟨g, e, by rw [h]; simp [nth, hi]⟩
              have HMany := Lib.hid hMany
              clear hM hD hMany hwa
              go_wp2_with fail
              refine HMany.out.mono ?_
              rintro e w7 ⟨rfl, rfl⟩
              clear HMany
              go_wp2_with fail
              go_loopw [15] (fun i wr => ∃ k : Nat, k ≤ R.length ∧ i = .int .i64 k ∧ ∃ m, wr = w6.drewN m) (fun i _ => R.length - (intOf i).toNat)
              case atStart => exact ⟨0, Nat.zero_le _, rfl, 0, rfl⟩
              case round =>
                obtain ⟨k, hk, rfl, m, rfl⟩ := hrel
                by_cases hlt : k < R.length
                · have hin := nodup_drop HND.out hlt n
                  obtain ⟨g1, rfl, hc1⟩ := hrow k hlt
                  have hr1 := hrng _ (mem_nth.2 ⟨k, hlt, rfl⟩)
                  by_cases hkM : k < n
                  · obtain ⟨g2, rfl, hc2⟩ := hw k hkM
                    have hA := Lib.hid (Park.awake _ _ _ _ _ _ (hp2.only ((Only.refl [] w6).drewN m) (by simp)) hr1.1 hr1.2 false (by simp [hin]; omega))
                    clear hrow hw hin
                    have hdec : decide ((k : Int) < ((n : Nat) : Int)) = true := by simp; omega
                    go_wp2_with fail
                    refine hA.out.mono ?_
                    rintro e w7 ⟨rfl, rfl⟩
                    clear hA
                    go_wp2_with fail
                    go_quiet (fail)
                    go_wp2
                    go_roundw
                    case rel => first | exact ⟨k + 1, by omega, by go_num, _, rfl⟩ | ((repeat apply Exists.intro); exact ⟨⟨k + 1, by omega, by go_num, _, rfl⟩, rfl⟩)
                    case measure => simp [intOf]; omega
                  · have hA := Lib.hid (Park.awake _ _ _ _ _ _ (hp2.only ((Only.refl [] w6).drewN m) (by simp)) hr1.1 hr1.2 true (by simp [hin]; omega))
                    clear hrow hw hin
                    have hdec : decide ((k : Int) < ((n : Nat) : Int)) = false := by simp; omega
                    go_wp2_with fail
                    refine hA.out.mono ?_
                    rintro e w7 ⟨rfl, rfl⟩
                    clear hA
                    go_wp2_with fail
                    go_quiet (fail)
                    go_wp2
                    go_roundw
                    case rel => first | exact ⟨k + 1, by omega, by go_num, _, rfl⟩ | ((repeat apply Exists.intro); exact ⟨⟨k + 1, by omega, by go_num, _, rfl⟩, rfl⟩)
                    case measure => simp [intOf]; omega
                · obtain rfl : k = R.length := by omega
                  clear hrow hw
                  go_wp2
                  go_ret
                  exact ⟨rfl, (ho7.drewN m).below (Nat.le_refl _) (by simp)⟩
            · have hM : (R.take n).length = R.length := by simp; omega
              have hD : (((R.drop n).length : Nat) : Int) = (R.length : Int) - R.length := by simp; omega
              have hMany := Park.many _ _ _ _ _ hp2
              rw [hD] at hMany
              rw [hM] at hwa ⊢
              have hw : ∀ i, i < R.length → ∃ g, wa = some ⟨g, 0, none⟩ ∧ w6.cell? ⟨g, i, none⟩ = some (.int .i64 (nth R i)) := fun i hi => by
                obtain ⟨g, e, h⟩ := hwa i hi
                exact ⟨g, e, by rw [h]; simp [nth, show i < n by omega]⟩
              have HMany := Lib.hid hMany
              clear hM hD hMany hwa
              go_wp2_with fail
              refine HMany.out.mono ?_
              rintro e w7 ⟨rfl, rfl⟩
              clear HMany
              go_wp2_with fail
              go_loopw [15] (fun i wr => ∃ k : Nat, k ≤ R.length ∧ i = .int .i64 k ∧ ∃ m, wr = w6.drewN m) (fun i _ => R.length - (intOf i).toNat)
              case atStart => exact ⟨0, Nat.zero_le _, rfl, 0, rfl⟩
              case round =>
                obtain ⟨k, hk, rfl, m, rfl⟩ := hrel
                by_cases hlt : k < R.length
                · have hin := nodup_drop HND.out hlt n
                  obtain ⟨g1, rfl, hc1⟩ := hrow k hlt
                  have hr1 := hrng _ (mem_nth.2 ⟨k, hlt, rfl⟩)
                  by_cases hkM : k < R.length
                  · obtain ⟨g2, rfl, hc2⟩ := hw k hkM
                    have hA := Lib.hid (Park.awake _ _ _ _ _ _ (hp2.only ((Only.refl [] w6).drewN m) (by simp)) hr1.1 hr1.2 false (by simp [hin]; omega))
                    clear hrow hw hin
                    have hdec : decide ((k : Int) < ((R.length : Nat) : Int)) = true := by simp; omega
                    go_wp2_with fail
                    refine hA.out.mono ?_
                    rintro e w7 ⟨rfl, rfl⟩
                    clear hA
                    go_wp2_with fail
                    go_quiet (fail)
                    go_wp2
                    go_roundw
                    case rel => first | exact ⟨k + 1, by omega, by go_num, _, rfl⟩ | ((repeat apply Exists.intro); exact ⟨⟨k + 1, by omega, by go_num, _, rfl⟩, rfl⟩)
                    case measure => simp [intOf]; omega
                  · exact absurd hlt hkM
                · obtain rfl : k = R.length := by omega
                  clear hrow hw
                  go_wp2
                  go_ret
                  exact ⟨rfl, (ho7.drewN m).below (Nat.le_refl _) (by simp)⟩
  · have hr' : a0 < 1 ∨ 6 < a0 := by omega
    refine (park_new_no _ _ hr').mono ?_
    rintro e w5 ⟨rfl, rfl⟩
    rcases hr' with hr' | hr'
    · go_wp2
      go_ret
      exact ⟨by simp, hoo3.below (Nat.le_refl _) (by simp)⟩
    · have hr2 : ¬ a0 < 1 := by omega
      go_wp2
      go_ret
      exact ⟨by simp, hoo3.below (Nat.le_refl _) (by simp)⟩

end Go.Proofs.Ytcdnnklbbnojpaa.parkWakes
