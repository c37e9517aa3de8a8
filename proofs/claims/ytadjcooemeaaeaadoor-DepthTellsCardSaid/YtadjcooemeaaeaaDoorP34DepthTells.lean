/-
  Keys of maps that are ints.
  A map of ints to bools that the call made: which numbers were seen.
  Contract of depth.Reaches.
-/
import Derived.Test.YtadjcooemeaaeaaDoorP33DepthTells
import Derived.Test.YtadjcooemeaaeaaDoorRows
import Derived.Test.YtadjcooemeaaeaaDoorP14DepthTells
import Derived.Test.YtadjcooemeaaeaaDoorP15DepthTells
import Derived.Carry
namespace Go.Proofs.YtadjcooemeaaeaaDoor
open Go.RowKit Go.Maps

theorem key_int : Keyed Tryd.prog 3 := int_keyed Tryd.underlying3
theorem keyOf_int (k : Int) (h1 : -9223372036854775808 ≤ k) (h2 : k ≤ 9223372036854775807) : keyOf Tryd.prog 3 (.int .i64 k) = some (.int .i64 k) :=
  keyOf_int_mk Tryd.underlying3 (WalkArith.wf_i64 ⟨h1, h2⟩)
theorem zero_bool (w : World) : (zeroValue 4).run Tryd.prog w = .ok (.bool false) w := by kernel_rfl

end Go.Proofs.YtadjcooemeaaeaaDoor

namespace Go.Proofs.YtadjcooemeaaeaaDoor
open Go.RowKit Go.Maps

/-- What a map of what was seen holds. -/
def seenF (s : Nat → Bool) : Value → Option Value
  | .int .i64 k => if 0 ≤ k ∧ s k.toNat = true then some (.bool true) else none
  | _ => none

def SeenMap (w : World) (b : Nat) (s : Nat → Bool) : Prop := ∃ n, MapOf w Tryd.prog 3 b n (seenF s)

theorem SeenMap.lt {w : World} {b : Nat} {s : Nat → Bool} (h : SeenMap w b s) : b < w.heap.size := by obtain ⟨n, h⟩ := h; exact h.lt
theorem SeenMap.only {w w' : World} {b : Nat} {s : Nat → Bool} {S : List Nat} (h : SeenMap w b s) (ho : Only S w w') (hb : b ∉ S) : SeenMap w' b s := by obtain ⟨n, h⟩ := h; exact ⟨n, h.only ho hb⟩
theorem SeenMap.made (w : World) : SeenMap (w.alloc (.map #[] 0)) w.heap.size (fun _ => false) := ⟨0, (MapOf.made w _ _).congr fun x => by
  unfold seenF
  split
  · simp
  · rfl⟩

theorem SeenMap.look {w : World} {b : Nat} {s : Nat → Bool} (h : SeenMap w b s) (k : Nat) (hk : k ≤ 1000000) : (Instr.lookup 140 (.map (some b)) (.int .i64 (k : Int)) false).run Tryd.prog w = .ok (.bool (s k)) w := by
  obtain ⟨n, h⟩ := h
  have := h.look false key_int Tryd.underlying140 (zero_bool w) (keyOf_int k (by omega) (by omega))
  rw [this]
  have e : (seenF s (.int .i64 (k : Int))).getD (.bool false) = .bool (s k) := by
    unfold seenF
    simp only [Int.toNat_natCast]
    by_cases hs : s k = true
    · simp [hs]
    · simp at hs; simp [hs]
  rw [e]
  rfl

theorem SeenMap.put {w : World} {b : Nat} {s : Nat → Bool} (h : SeenMap w b s) (k : Nat) (hk : k ≤ 1000000) :
    ∃ w', (Instr.mapUpdate 140 (.map (some b)) (.int .i64 (k : Int)) (.bool true)).run Tryd.prog w = .ok () w' ∧ SeenMap w' b (upB s k) ∧ Only [b] w w' := by
  obtain ⟨n, h⟩ := h
  obtain ⟨w', h1, h2, h3⟩ := h.put key_int Tryd.underlying140 (keyOf_int k (by omega) (by omega)) (.bool true)
  refine ⟨w', h1, ⟨_, h2.congr fun x => ?_⟩, h3⟩
  unfold updV?
  by_cases e : x = .int .i64 (k : Int)
  · subst e
    rw [if_pos rfl]
    simp [seenF, upB]
  · rw [if_neg e]
    unfold seenF
    split
    · rename_i j
      have hj : j ≠ (k : Int) := fun h => e (by rw [h])
      by_cases h0 : 0 ≤ j
      · have : j.toNat ≠ k := by omega
        simp [upB, this]
      · simp [h0]
    · rfl

end Go.Proofs.YtadjcooemeaaeaaDoor

namespace Go.Proofs.YtadjcooemeaaeaaDoor
open Go.RowKit Go.Deep

/-- What holds while the needs of needs of s are gone through, in search of t. -/
structure FindInv (p : PlanL) (s t : Nat) (seen : Nat → Bool) (row : List Int) : Prop where
  rows : ∀ x ∈ row, 0 ≤ x ∧ x < p.length ∧ Reach p s x.toNat
  self : seen t = false
  start : ∀ k : Nat, (k : Int) ∈ ndOf p s → seen k = true ∨ (k : Int) ∈ row
  close : ∀ k m : Nat, seen k = true → (m : Int) ∈ ndOf p k → seen m = true ∨ (m : Int) ∈ row

theorem FindInv.init {p : PlanL} (h : NeedsOk p) (s t : Nat) : FindInv p s t (fun _ => false) (ndOf p s) :=
  ⟨fun x hx => by
    have := h.2.1 s x hx
    exact ⟨this.1, this.2, .one (by rw [Int.toNat_of_nonneg this.1]; exact hx)⟩, rfl, fun _ hk => .inr hk, fun _ _ hk => by cases hk⟩

theorem FindInv.old {p : PlanL} {s t k : Nat} {seen : Nat → Bool} {row : List Int} (h : FindInv p s t seen ((k : Int) :: row)) (hs : seen k = true) : FindInv p s t seen row := by
  have drop : ∀ m : Nat, (seen m = true ∨ (m : Int) ∈ (k : Int) :: row) → seen m = true ∨ (m : Int) ∈ row := by
    intro m hm
    rcases hm with hm | hm
    · exact .inl hm
    · rcases List.mem_cons.1 hm with e | hm
      · have : m = k := by omega
        subst this; exact .inl hs
      · exact .inr hm
  exact ⟨fun x hx => h.rows x (by simp [hx]), h.self, fun m hm => drop m (h.start m hm), fun a m ha hm => drop m (h.close a m ha hm)⟩

theorem FindInv.new {p : PlanL} {s t k : Nat} {seen : Nat → Bool} {row : List Int} (hn : NeedsOk p) (h : FindInv p s t seen ((k : Int) :: row)) (hk : k ≠ t) : FindInv p s t (upB seen k) (row ++ ndOf p k) := by
  have hkr : Reach p s k := by simpa using (h.rows k (by simp)).2.2
  have drop : ∀ m : Nat, (seen m = true ∨ (m : Int) ∈ (k : Int) :: row) → upB seen k m = true ∨ (m : Int) ∈ row ++ ndOf p k := by
    intro m hm
    unfold upB
    by_cases e : m = k
    · subst e; exact .inl (by simp)
    · rw [if_neg e]
      rcases hm with hm | hm
      · exact .inl hm
      · rcases List.mem_cons.1 hm with e2 | hm
        · exact absurd (by omega) e
        · exact .inr (by simp [hm])
  refine ⟨fun x hx => ?_, ?_, fun m hm => drop m (h.start m hm), fun a m ha hm => ?_⟩
  · rcases List.mem_append.1 hx with hx | hx
    · exact h.rows x (by simp [hx])
    · have := hn.2.1 k x hx
      exact ⟨this.1, this.2, hkr.more (by rw [Int.toNat_of_nonneg this.1]; exact hx)⟩
  · unfold upB; rw [if_neg (Ne.symm hk)]; exact h.self
  · by_cases e : a = k
    · subst e; exact .inr (by simp [hm])
    · unfold upB at ha
      rw [if_neg e] at ha
      exact drop m (h.close a m ha hm)

theorem FindInv.no {p : PlanL} {s t : Nat} {seen : Nat → Bool} (h : FindInv p s t seen []) : ¬ Reach p s t := by
  have key : ∀ m, Reach p s m → seen m = true := by
    intro m hm
    induction hm with
    | one hk => simpa using h.start _ hk
    | more _ hk ih => simpa using h.close _ _ ih hk
  intro hr
  have := key t hr
  rw [h.self] at this
  cases this

theorem FindInv.yes {p : PlanL} {s t : Nat} {seen : Nat → Bool} {row : List Int} (h : FindInv p s t seen ((t : Int) :: row)) : Reach p s t := by
  simpa using (h.rows t (by simp)).2.2

open Classical in
set_option maxRecDepth 100000 in
set_option maxHeartbeats 4000000 in
theorem depth_Reaches (v : Value) (p : PlanL) (t s : Nat) (w : World) (h : InPlan w v p) (hok : PlanOk p) (ht : t < p.length) (hs : s < p.length) :
    Calls Tryd.prog 68 #[v, .int .i64 t, .int .i64 s] w fun e w' => e = .returned (.tuple #[.bool (decide (Reach p s t)), .nilIface]) ∧ Only [] w w' := by
  have hr := plan_Right v p w h
  rw [(planOk_iff p).1 hok, errV_zero] at hr
  have HN := Lib.hid hok.needsOk
  have HP := Lib.hid h
  obtain ⟨a, cap, rfl, hc1, hc2, _⟩ := h.task
  obtain ⟨n, hnl⟩ : ∃ n, p.length = n := ⟨_, rfl⟩
  have HL := Lib.hid hnl
  have hn30 : n ≤ 30 := by rw [← hnl]; exact hok.len
  rw [hnl] at ht hs hc1 HP hr ⊢
  have hmm := @run_makeMap Tryd.prog
  have dt : decide ((t : Int) < 0) = false := by simp
  have ds : decide ((s : Int) < 0) = false := by simp
  clear h hok hnl
  go_enter Tryd.func68, Tryd.ntmps68
  go_wp2_with fail
  refine hr.mono ?_
  rintro e w0 ⟨rfl, ho0⟩
  clear hr
  obtain ⟨b, off, rfl⟩ := HP.out.any s (by rw [HL.out]; exact hs)
  obtain ⟨ua, uc, _, c1, hrd⟩ := (HP.out.same ho0).at s (by rw [HL.out]; exact hs)
  have hcl := clone_ints _ _ _ hrd (by have := HN.out.2.2 s; omega)
  generalize (ndOf p s).length = z at c1 hcl
  go_wp2_with fail
  refine hcl.mono ?_
  rintro e w1 ⟨v1, rfl, hI1, ho1⟩
  clear hcl hrd c1
  have hoo1 := ho0.trans ho1 (by simp)
  have hM1 := SeenMap.made w1
  have hal := (Only.refl [] w1).alloc (.map #[] 0)
  have hoo := hoo1.alloc (.map #[] 0)
  have hIm := hI1.only hal (by simp)
  have hA1 : ∀ x ∈ own v1, x ≠ w1.heap.size := fun x hx e => by
    have := (hI1.own_lt x hx).2
    omega
  have hw1 : ∀ x ∈ own v1, w.heap.size ≤ x := fun x hx => by
    have := (hI1.own_lt x hx).1
    have := ho0.size
    omega
  have hB1 : w.heap.size ≤ w1.heap.size := hoo1.size
  have hinit := FindInv.init HN.out s t
  have hm0 : unseen n (fun _ => false) * 31 + (ndOf p s).length ≤ 1000 := by
    have := unseen_le n (fun _ => false)
    have := HN.out.2.2 s
    omega
  clear ho0 ho1 hal hoo1 hI1
  go_wp2_with fail
  go_loopg [9] (unseen n (fun _ => false) * 31 + (ndOf p s).length) (fun k vr wr => ∃ seen row, k = unseen n seen * 31 + row.length ∧ k ≤ 1000 ∧ FindInv p s t seen row ∧ SeenMap wr w1.heap.size seen ∧ Sl wr vr row ∧ (∀ x ∈ own vr, x ≠ w1.heap.size) ∧ (∀ x ∈ own vr, w.heap.size ≤ x) ∧ Only [] w wr)
  case atStart => exact ⟨_, _, rfl, hm0, hinit, hM1, hIm.sl, hA1, hw1, hoo⟩
  case round =>
    obtain ⟨seen, row, rfl, hk, hinv, hB, hS, hA, hlo, ho⟩ := hrel
    clear hM1 hIm hoo hinit hA1 hw1 hmm
    have HINV := Lib.hid hinv
    rcases row with _ | ⟨x, row⟩
    · have hno := Lib.hid (hinv.no)
      obtain ⟨va, vc, rfl, _⟩ := hS.opt
      clear hinv hB hS
      go_wp2
      go_ret2
      exact ⟨by rw [decide_eq_false hno.out]; rfl, ho⟩
    · obtain ⟨hx0, hxn, _⟩ := hinv.rows x (by simp)
      obtain ⟨k, rfl⟩ := Int.eq_ofNat_of_zero_le hx0
      rw [HL.out] at hxn
      have hkn : k < n := by omega
      have hSS := hS
      rcases hS with ⟨_, hS⟩ | ⟨g, off2, vcap, rfl, s1, s2, s3, s4, s5⟩
      · cases hS
      · have cx := s4 0 (by simp)
        replace cx : wr.cell? ⟨g, off2, none⟩ = some (.int .i64 (k : Int)) := by simpa [nth] using cx
        obtain ⟨q, hq⟩ : ∃ q, row.length = q := ⟨_, rfl⟩
        have hq2 : (((k : Int)) :: row).length = q + 1 := by simp [hq]
        rw [hq2] at s1 hk
        have hoff : off2 + 0 = off2 := rfl
        clear hinv s4 s5 hx0 hxn
        by_cases hki : k = t
        · subst hki
          have hyes := Lib.hid (HINV.out.yes)
          clear hB hSS
          go_wp2
          go_ret2
          exact ⟨by rw [decide_eq_true hyes.out]; rfl, ho⟩
        · have hne : (((k : Nat) : Int) == ((t : Nat) : Int)) = false := by simp; omega
          have HK := Lib.hid hki
          obtain ⟨sk, hsk⟩ : ∃ s, seen k = s := ⟨_, rfl⟩
          have hlk := hB.look k (by omega)
          rw [hsk] at hlk
          clear hki
          cases sk
          · have hinv2 := Lib.hid (HINV.out.new HN.out (by exact HK.out))
            have hcnt := unseen_up hkn hsk
            obtain ⟨w2, hup, hB2, hset⟩ := hB.put k (by omega)
            have ho' := ho.trans hset (fun x hx hl => by simp at hx; omega)
            obtain ⟨na, nc, _, cn, hrd⟩ := (HP.out.same ho').at k (by rw [HL.out]; exact hkn)
            have hlen3 := HN.out.2.2 k
            have hS2 := hSS.only hset (fun x hx hx2 => hA x hx (by simpa using hx2))
            have cx2 := (hset.cell (p := ⟨g, off2, none⟩) (cell_lt cx) (by simp; exact hA g (by simp [own, Value.ownBlock]))).trans cx
            clear hB hSS hset hsk
            obtain ⟨m, hm⟩ : ∃ m, (ndOf p k).length = m := ⟨_, rfl⟩
            have HM := Lib.hid hm
            rw [hm] at cn hrd hlen3
            clear hm
            have hgA : w1.heap.size ∉ own (.slice (some ⟨g, off2, none⟩) ((k : Int) :: row).length vcap) := fun hx => hA _ hx rfl
            have HQ := Lib.hid hq
            have HQ2 := Lib.hid hq2
            obtain ⟨z, hz⟩ : ∃ z, q + m = z := ⟨_, rfl⟩
            have HZ : Hid ((row ++ ndOf p k).length = z ∧ unseen n (upB seen k) * 31 + z < unseen n seen * 31 + (q + 1) ∧ m ≤ 30) := by
              show _ ∧ _
              refine ⟨by rw [List.length_append, HQ.out, HM.out, hz], by omega, hlen3⟩
            clear hq hq2 hcnt hlen3 hz
            go_wp2_with (at_builtin; refine wpList_append_sl_ne rfl (.tmp 62) (.tmp 69) rfl _ _ _ _ _ (z + 1) hS2 hrd (by rw [HQ2.out, HM.out]; have := HZ.out.2.2; omega) (by simp) (by rw [List.cons_append, List.length_cons, HZ.out.1]) rfl rfl (Only.refl _ _) ?_; intro g4 off4 cap4 w' hII s6 s7 hO hK; by_cases hcap : cap4 = 1)
            all_goals
              have hB3 := Lib.hid (hB2.only hO hgA)
              have hoo := ho'.trans hO (fun x hx hl => by have := hlo x hx; omega)
              have hA' : Hid (∀ x ∈ own (.slice (some ⟨g4, off4, none⟩) (z + 1) cap4), x ≠ w1.heap.size ∧ w.heap.size ≤ x) := by
                show ∀ x ∈ _, _
                intro x hx
                rcases hK x hx with h | h
                · exact ⟨hA x h, hlo x h⟩
                · have h2 := ho'.size
                  have h3 := hB2.lt
                  omega
              clear hB2 hS2 hrd cn hO hK ho'
            · subst hcap
              obtain ⟨he, ht1⟩ := hII.tail1
              replace he : row ++ ndOf p k = [] := he
              have HE := Lib.hid he
              have hz0 : z = 0 := by rw [← HZ.out.1, he]; rfl
              subst hz0
              go_roundg (unseen n (upB seen k) * 31 + 0)
              case rel => exact ⟨upB seen k, [], rfl, by have := HZ.out.2; omega, by rw [← HE.out]; exact hinv2.out, hB3.out, ht1, fun x hx => (hA'.out x hx).1, fun x hx => (hA'.out x hx).2, hoo⟩
              case measure => (have h1 := HZ.out.2; have h2 := HQ.out; simp only [List.length_cons]; omega)
            · have ht1 := hII.tail z HZ.out.1.symm hcap
              go_roundg (unseen n (upB seen k) * 31 + z)
              case rel => exact ⟨upB seen k, row ++ ndOf p k, by rw [HZ.out.1], by have := HZ.out.2; omega, hinv2.out, hB3.out, ht1, fun x hx => (hA'.out x hx).1, fun x hx => (hA'.out x hx).2, hoo⟩
              case measure => (have h1 := HZ.out.2; have h2 := HQ.out; simp only [List.length_cons]; omega)
          · have hinv2 := Lib.hid (HINV.out.old hsk)
            have hB' := Lib.hid hB
            clear hB hsk
            by_cases hcap : vcap = 1
            · subst hcap
              obtain ⟨rfl, ht1⟩ := hSS.tail1
              clear hSS
              go_wp2
              go_roundg (unseen n seen * 31)
              case rel => exact ⟨seen, [], by simp, by omega, hinv2.out, hB'.out, ht1, hA, hlo, ho⟩
              case measure => simp
            · have ht1 := hSS.tail q hq.symm hcap
              clear hSS
              go_wp2
              go_roundg (unseen n seen * 31 + q)
              case rel => exact ⟨seen, row, by rw [hq], by omega, hinv2.out, hB'.out, ht1, hA, hlo, ho⟩
              case measure => (simp only [List.length_cons]; omega)

end Go.Proofs.YtadjcooemeaaeaaDoor
