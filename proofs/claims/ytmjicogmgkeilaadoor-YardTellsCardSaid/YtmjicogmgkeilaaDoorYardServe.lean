/-
  Contract of yard.Serve.
-/
import Derived.Test.YtmjicogmgkeilaaDoorYard
namespace Go.Proofs.YtmjicogmgkeilaaDoor
open Go.RowKit

theorem OwnJobs.only {w w' : World} {base : Nat} {v : Value} {n : Nat} {W S : Nat → Nat} {T : List Nat} (h : OwnJobs w base v n W S) (ho : Only T w w') (hS : ∀ x ∈ own v, x ∉ T) : OwnJobs w' base v n W S := Row.only h ho hS

theorem OwnJobs.cells {w : World} {base g cap : Nat} {n : Nat} {W S : Nat → Nat} (h : OwnJobs w base (.slice (some ⟨g, 0, none⟩) n cap) n W S) (i : Nat) (hi : i < n) :
    w.cell? ⟨g, i * 2, none⟩ = some (.int .i64 (W i)) ∧ w.cell? ⟨g, i * 2 + 1, none⟩ = some (.int .i64 (S i)) ∧ w.frozen? ⟨g, i * 2 + 1, none⟩ = false :=
  ⟨by rw [World.ownsRow.cellAt h _ (by omega), flatJ_0 _ _ _ _ hi], by rw [World.ownsRow.cellAt h _ (by omega), flatJ_1 _ _ _ _ hi], World.ownsRow.frozenAt h _⟩

theorem OwnJobs.set {w : World} {base g cap : Nat} {n : Nat} {W S : Nat → Nat} (h : OwnJobs w base (.slice (some ⟨g, 0, none⟩) n cap) n W S) (i : Nat) (hi : i < n) (x : Nat) :
    OwnJobs (w.setCell ⟨g, i * 2 + 1, none⟩ (.int .i64 x)) base (.slice (some ⟨g, 0, none⟩) n cap) n W (upd S i x) := by
  have := (World.ownsRow.stored h (i * 2 + 1) (.int .i64 x)).1
  rw [flatJ_set _ _ _ _ _ hi] at this
  exact this

theorem Row.mono {w : World} {base base' : Nat} {e : TypeId} {k : Nat} {v : Value} {n : Nat} {xs : List Value} (h : w.ownsRow base e k v n xs) (hb : base' ≤ base) : w.ownsRow base' e k v n xs := by
  obtain ⟨h1, h2⟩ := h
  refine ⟨h1, ?_⟩
  rcases h2 with h2 | ⟨g, cap, cur, hv, hg, hh, r⟩
  · exact .inl h2
  · exact .inr ⟨g, cap, cur, hv, by omega, hh, r⟩

theorem push_same (l : List Int) (x : Int) (c : Nat) : l ++ List.replicate c x ++ [x] = l ++ List.replicate (c + 1) x := by
  rw [List.append_assoc, List.replicate_succ']

theorem give_eq {most : Nat} {W : Nat → Nat} {i c : Nat} {o : List Int} {S : Nat → Nat} (hc : gives most W S i o.length = c) : give most W i (o, S) = (o ++ List.replicate c (i : Int), upd S i (S i - c)) := by
  unfold give; simp only [hc]

theorem roundTo_full {most : Nat} {W : Nat → Nat} {p : List Int × (Nat → Nat)} {i n : Nat} (hi : i ≤ n) (h : (roundTo most W i p).1.length = most) : roundTo most W n p = roundTo most W i p := by
  induction n with
  | zero => obtain rfl : i = 0 := by omega
            rfl
  | succ n ih =>
    by_cases e : i = n + 1
    · subst e; rfl
    · rw [roundTo, ih (by omega)]
      exact give_still (by unfold gives; omega)

def lenV : Value → Nat
  | .slice _ k _ => k
  | _ => 0
theorem lenV_slice (a : Option Addr) (n c : Nat) : lenV (.slice a n c) = n := rfl

set_option maxHeartbeats 8000000 in
theorem yard_serve (v : Value) (l : List (Int × Int)) (n : Nat) (W S0 : Nat → Nat) (most : Nat) (w : World) (h : InJobs w v l) (hn : l.length = n) (h6 : n ≤ 6)
    (hWS : ∀ i, i < n → l[i]?.getD (0, 0) = ((W i : Int), (S0 i : Int))) (hok : ∀ j ∈ l, jobOk j) (hW : ∀ i, i < n → 1 ≤ W i ∧ W i ≤ 20) (hS : ∀ i, i < n → S0 i ≤ 10000) (hm : most ≤ 1000) :
    Calls Tryd.prog 43 #[v, .int .i64 most] w fun e w' => ∃ r vo vl, e = .returned (.tuple #[vo, vl, .nilIface]) ∧ Served most n (iter most W n r ([], S0)) ∧
      Ints w' w.heap.size vo (iter most W n r ([], S0)).1 ∧ OwnJobs w' w.heap.size vl n W (iter most W n r ([], S0)).2 ∧ Only [] w w' := by
  have hat := h.at hn hWS
  have HW := Lib.hid hW
  have HS := Lib.hid hS
  clear hWS hW hS
  go_enter Tryd.func43, Tryd.ntmps43
  go_wp2_with fail
  refine (yard_check_ok v l w h (by omega) hok).mono ?_
  rintro e w1 ⟨rfl, ho1⟩
  have hat1 := hat.same ho1
  clear hat h hok hn
  go_wp2_with fail
  refine (clone_jobs v n W S0 w1 hat1 (by omega)).mono ?_
  rintro e w2 ⟨vl, rfl, hJ, ho2⟩
  have ho := ho1.trans ho2 (by simp)
  have hsz1 := ho1.size
  have hsz2 := ho2.size
  obtain ⟨a, cap, rfl, hc1, hc2, hg⟩ := Row.form hJ
  have hfar := Row.far hJ
  clear hat1 ho1 ho2
  go_wp2_with fail
  go_loopw [8] (fun vo wr => ∃ (r : Nat) (o : List Int) (S : Nat → Nat), (o, S) = iter most W n r ([], S0) ∧ Ints wr w2.heap.size vo o ∧ OwnJobs wr w1.heap.size (.slice a n cap) n W S ∧ Only [] w wr ∧ o.length ≤ most ∧ w2.heap.size ≤ wr.heap.size)
    (fun vo _ => most - lenV vo)
  case atStart => exact ⟨0, [], S0, rfl, Ints.nil _ _, hJ, ho, Nat.zero_le _, Nat.le_refl _⟩
  case round =>
    obtain ⟨wo, rfl⟩ : ∃ wo : World, wo = wr := ⟨_, rfl⟩
    obtain ⟨r, o, S, hp, hI, hJr, hor, hlen, hszr⟩ := hrel
    have HP := Lib.hid hp
    obtain ⟨m, hmo⟩ : ∃ m, o.length = m := ⟨_, rfl⟩
    have HMO := Lib.hid hmo
    obtain ⟨oa, ocap, rfl, _⟩ := hI.opt
    rw [hmo] at hI hlen ⊢
    clear hp hmo hJ ho
    go_wp2_with fail
    go_loopw [8, 29] (fun vo vi wr => ∃ (i : Nat) (o1 : List Int) (S1 : Nat → Nat), i ≤ n ∧ vi = .int .i64 i ∧ (o1, S1) = roundTo most W i (o, S) ∧ Ints wr w2.heap.size vo o1 ∧ OwnJobs wr w1.heap.size (.slice a n cap) n W S1 ∧ Only [] w wr ∧ o1.length ≤ most ∧ w2.heap.size ≤ wr.heap.size)
      (fun _ vi _ => n - (intOf vi).toNat)
    case atStart => exact ⟨0, o, S, Nat.zero_le _, rfl, rfl, hI, hJr, hor, by rw [HMO.out]; exact hlen, hszr⟩
    case round =>
      obtain ⟨wi, rfl⟩ : ∃ wi : World, wi = wr := ⟨_, rfl⟩
      obtain ⟨i, o1, S1, hi, rfl, hp1, hI1, hJ1, ho1, hlen1, hsz1'⟩ := hrel
      have HP1 := Lib.hid hp1
      clear hp1 hI hJr hor
      by_cases hin : i < n
      · obtain ⟨g, rfl, hgb, hgl⟩ := hg (by omega)
        obtain ⟨c0, c1, f1⟩ := hJ1.cells i hin
        have hWi := HW.out i hin
        obtain ⟨T, hT⟩ : ∃ T, min (W i) (S1 i) = T := ⟨_, rfl⟩
        have hT1 : T ≤ W i ∧ T ≤ S1 i ∧ T ≤ 20 := by omega
        have HT := Lib.hid hT
        have hTi : min ((W i : Nat) : Int) ((S1 i : Nat) : Int) = (T : Int) := by omega
        obtain ⟨m1, hm1⟩ : ∃ m1, o1.length = m1 := ⟨_, rfl⟩
        have HM1 := Lib.hid hm1
        rw [hm1] at hlen1
        clear hg hT hTi hm1
        go_wp2_with fail
        go_quiet (fail)
        go_wp2_with fail
        all_goals
          have hTT := HT.out
          first
          | (have e : S1 i = T := by omega
             rw [e]; clear e)
          | (have e : W i = T := by omega
             rw [e]; clear e)
          clear hTT
          have hI1' := hI1.drewN nq
          have hJ1' : OwnJobs (wi.drewN nq) w1.heap.size (.slice (some ⟨g, 0, none⟩) n cap) n W S1 := hJ1
          have ho1' := ho1.drewN nq
          have hsz2' : w2.heap.size ≤ (wi.drewN nq).heap.size := hsz1'
          clear c0 c1 f1 hI1 hJ1 ho1 hsz1'
          go_loopw [8, 43] (fun vo vc wr => ∃ (c : Nat), c ≤ T ∧ vc = .int .i64 c ∧ Ints wr w2.heap.size vo (o1 ++ List.replicate c (i : Int)) ∧ OwnJobs wr w1.heap.size (.slice (some ⟨g, 0, none⟩) n cap) n W (upd S1 i (S1 i - c)) ∧ Only [] w wr ∧ m1 + c ≤ most ∧ w2.heap.size ≤ wr.heap.size)
            (fun _ vc _ => T - (intOf vc).toNat)
          case atStart => exact ⟨0, Nat.zero_le _, rfl, by simpa using hI1', by rw [Nat.sub_zero, upd_id]; exact hJ1', ho1', hlen1, hsz2'⟩
          case round =>
            obtain ⟨wc, rfl⟩ : ∃ wc : World, wc = wr := ⟨_, rfl⟩
            obtain ⟨c, hcT, rfl, hI2, hJ2, ho2, hlen2, hsz3⟩ := hrel
            clear hI1' hJ1' ho1' hsz2'
            obtain ⟨a2, cap2, rfl, _⟩ := hI2.opt
            have hl2 : Hid ((o1 ++ List.replicate c (i : Int)).length = m1 + c) := by show _ = _; rw [List.length_append, HM1.out, List.length_replicate]
            rw [hl2.out] at hI2 ⊢
            by_cases hcl : c < T
            · by_cases hfull : m1 + c = most
              · have hfl : (((m1 + c : Nat) : Int) == (most : Int)) = true := by rw [hfull]; simp
                have hgv : gives most W S1 i o1.length = c := by
                  have := HT.out
                  unfold gives; rw [HM1.out]; omega
                have hend : iter most W n (r + 1) ([], S0) = (o1 ++ List.replicate c (i : Int), upd S1 i (S1 i - c)) := by
                  have e1 : roundTo most W (i + 1) (o, S) = (o1 ++ List.replicate c (i : Int), upd S1 i (S1 i - c)) := by
                    rw [roundTo, ← HP1.out]; exact give_eq hgv
                  rw [iter, ← HP.out, roundTo_full (i := i + 1) (by omega) (by rw [e1]; show (o1 ++ List.replicate c (i : Int)).length = most; rw [hl2.out]; exact hfull), e1]
                have Hend := Lib.hid hend
                have Hfull := Lib.hid hfull
                clear hfull hgv hend
                go_wp2
                go_ret3
                refine ⟨r + 1, _, _, rfl, ?_⟩
                rw [Hend.out]
                exact ⟨.inl (by rw [hl2.out]; exact Hfull.out), hI2.mono (by omega), Row.mono hJ2 hsz1, ho2⟩
              · have hfl : (((m1 + c : Nat) : Int) == (most : Int)) = false := by simp; omega
                have hle : m1 + c + 1 ≤ most := by omega
                have hgo : w1.heap.size ≤ g ∧ g < w2.heap.size := hfar g (by simp [own, Value.ownBlock])
                obtain ⟨q, hq⟩ : ∃ q, S1 i - c = q + 1 := ⟨S1 i - c - 1, by omega⟩
                have Hq := Lib.hid hq
                have hq5 : q ≤ 10000 := by
                  have hk : Kept n S0 (o1, S1) := by
                    rw [HP1.out, HP.out]; exact roundTo_kept (iter_kept (kept_start n S0) r) i hi
                  have := hk.all i hin
                  have := HS.out i hin
                  simp only at *
                  omega
                have hu1 : Hid (upd (upd S1 i (S1 i - c)) i q = upd S1 i (S1 i - (c + 1))) := by
                  show _ = _; rw [upd_upd]; congr 1; omega
                clear hfull hq
                go_wp2_with (at_builtin; refine wpList_push rfl (.tmp 51) (.tmp 53) rfl wc w2.heap.size _ _ wc.heap.size i (m1 + c) hI2 hl2.out (by omega) hsz3 rfl rfl ((Only.refl [] wc).alloc _) (World.cell?_alloc_at _ _ _ _ rfl) ?_; intro g3 cap3 w3 hI3 hO3 hK3; have hng : g ∉ own (Value.slice a2 (m1 + c) cap2) := (fun hx => by have := (hI2.own_lt _ hx).1; omega); have hJ3 := hJ2.only hO3 (by intro x hx hx2; simp [own, Value.ownBlock] at hx; subst hx; exact hng hx2); have hc3 := (hJ3.cells i hin).2.1; have hf3 := (hJ3.cells i hin).2.2; rw [upd_same, Hq.out] at hc3; simp only [Int.natCast_add, Int.cast_ofNat_Int] at hc3; have hset := Lib.hid (hJ3.set i hin q); rw [push_same] at hI3; have ho3 := Lib.hid (ho2.trans hO3 (by intro x hx hl; have := (hI2.own_lt _ hx).1; omega)); have hs3 := hO3.size; have hI4 := Lib.hid (hI3.only (w' := w3.setCell ⟨g, i * 2 + 1, none⟩ (.int .i64 (q : Int))) ((Only.refl [g] w3).setCell (by simp) _) (by intro g9 hg9 hx9; simp [Value.ownBlock] at hg9 hx9; subst hg9; subst hx9; rcases hK3 with hK3 | hK3 <;> first | exact hng hK3 | omega)); clear hI2 hJ2 ho2 hO3 hJ3 hI3 hK3 hng)
                rw [hu1.out] at hset
                go_roundw
                case rel => exact ⟨c + 1, by omega, by go_num, hI4.out, hset.out, ho3.out.setCell (fun hlt => by simp at hlt; omega) _, by omega, by simp; omega⟩
                case measure => (simp [intOf]; try omega)
            · obtain rfl : c = T := by omega
              have hgv : gives most W S1 i o1.length = c := by
                have := HT.out
                unfold gives; rw [HM1.out]; omega
              have hend : Hid ((o1 ++ List.replicate c (i : Int), upd S1 i (S1 i - c)) = roundTo most W (i + 1) (o, S)) := by
                show _ = _
                rw [roundTo, ← HP1.out]; exact (give_eq hgv).symm
              clear hgv
              go_wp2_with fail
              go_roundw
              case rel => exact ⟨i + 1, _, _, by omega, by go_num, hend.out, hI2, hJ2, ho2, by rw [hl2.out]; exact hlen2, hsz3⟩
              case measure => (simp [intOf]; try omega)
      · obtain rfl : i = n := by omega
        obtain ⟨m1, hm1⟩ : ∃ m1, o1.length = m1 := ⟨_, rfl⟩
        have HM1 := Lib.hid hm1
        obtain ⟨a1, cap1, rfl, _⟩ := hI1.opt
        rw [hm1] at hI1 hlen1 ⊢
        clear hm1
        have hmm1 : m ≤ m1 := by
          have := roundTo_len most W i (o, S)
          rw [← HP1.out] at this
          simp only [HM1.out, HMO.out] at this
          exact this
        have hend : Hid ((o1, S1) = iter most W i (r + 1) ([], S0)) := by
          show _ = _
          rw [iter, ← HP.out]; exact HP1.out
        by_cases hmm : m1 = m
        · have hfl : ((m1 : Int) == (m : Int)) = true := by rw [hmm]; simp
          have hserved : Hid (Served most i (o1, S1)) := by
            show Served most i (o1, S1)
            rw [HP1.out]
            exact round_still (by rw [HMO.out]; exact hlen) (fun j hj => (HW.out j hj).1) (by rw [← HP1.out]; show o1.length = o.length; rw [HM1.out, HMO.out, hmm])
          clear hmm
          go_wp2
          go_ret3
          refine ⟨r + 1, _, _, rfl, ?_⟩
          rw [← hend.out]
          exact ⟨hserved.out, hI1.mono (by omega), Row.mono hJ1 hsz1, ho1⟩
        · have hfl : ((m1 : Int) == (m : Int)) = false := by simp; omega
          go_wp2_with fail
          go_roundw
          case rel => exact ⟨r + 1, o1, S1, hend.out, hI1, hJ1, ho1, by rw [HM1.out]; exact hlen1, hsz1'⟩
          case measure => (simp [lenV_slice]; omega)

end Go.Proofs.YtmjicogmgkeilaaDoor
