/-
  The statement TopKept: tasks that are done as they become ready, with a crash on the way, are all done at last, each once; along their order all come to what they come to. No condition but the listed variables'.
-/
import Derived.Test.YtloojhnhialenaaGreatDoorP1TopKept
import Derived.Test.YtloojhnhialenaaGreatDoorP2TopKept
import Derived.Test.YtloojhnhialenaaGreatDoorP16TopKept
import Derived.Test.YtloojhnhialenaaGreatDoorP21TopKept
import Derived.Test.YtloojhnhialenaaGreatDoorP26TopKept
import Derived.Test.YtloojhnhialenaaGreatDoorP27TopKept
import Derived.Test.YtloojhnhialenaaGreatDoorP30TopKept
import Derived.Test.YtloojhnhialenaaGreatDoorP15TopKept
namespace Go.Proofs.YtloojhnhialenaaGreatDoor.topKept
open Go.ChangeShapes Go.WideShapes Go.ChangeAt Go.RowKit
open Go.ChangeMaps (open_string shut_string)
set_option linter.unusedVariables false


theorem ord_full {p : PlanL} (hok : PlanOk p) {l : List Nat} (h : OrdOk p l) (hr : readyL p (doneB l) = []) : l.Perm (List.range p.length) := by
  refine (List.perm_ext_iff_of_nodup h.nodup List.nodup_range).2 fun x => ⟨fun hx => List.mem_range.2 (h.lt x hx), fun hx => ?_⟩
  refine Decidable.byContradiction fun hn => ?_
  obtain ⟨i, hi, hri⟩ := exists_ready hok (doneB l) ⟨x, List.mem_range.1 hx, by simp [doneB, hn]⟩
  have : i ∈ readyL p (doneB l) := by simp [readyL, hi, hri]
  rw [hr] at this
  cases this
theorem full_perm {p : PlanL} {l : List Nat} (h : OrdOk p l) (hl : l.length = p.length) : l.Perm (List.range p.length) := by
  refine (List.perm_ext_iff_of_nodup h.nodup List.nodup_range).2 fun x => ⟨fun hx => List.mem_range.2 (h.lt x hx), fun hx => ?_⟩
  refine Decidable.byContradiction fun hn => ?_
  have := nodup_le p.length (x :: l) (List.nodup_cons.2 ⟨hn, h.nodup⟩) (fun y hy => by
    rcases List.mem_cons.1 hy with rfl | hy
    · exact List.mem_range.1 hx
    · exact h.lt y hy)
  simp at this
  omega
theorem ord_order {p : PlanL} {l : List Nat} (h : OrdOk p l) (hp : l.Perm (List.range p.length)) : orderOk p l := by
  refine ⟨h.nodup, fun k hk x hx => ?_, fun i hi => hp.mem_iff.2 (List.mem_range.2 hi)⟩
  have := (h k hk).2
  have e : l[k]?.getD 0 = l[k] := by rw [List.getElem?_eq_getElem hk]; rfl
  rw [e] at hx
  unfold readyB at this
  simp only [Bool.and_eq_true, List.all_eq_true] at this
  have := this.2 x hx
  simpa [doneB] using this
theorem ord_along {p : PlanL} {ops : List Opn} {l : List Nat} (h0 : allFault p ops = 0) (h : OrdOk p l) (hp : l.Perm (List.range p.length)) : alongFault p ops (natL l) = 0 := by
  unfold alongFault
  have h1 : EachOf p.length (natL l) := by
    unfold EachOf natL
    exact List.Perm.map _ hp
  rw [if_neg (by simp [h0]), if_neg (by simpa using h1), if_neg (by rw [natL_toNat]; simpa using (ord_order h hp).2.1)]
theorem full_none {p : PlanL} {l : List Nat} (hp : l.Perm (List.range p.length)) : readyL p (doneB l) = [] := by
  unfold readyL
  rw [List.filter_eq_nil_iff]
  intro i hi
  have hm : i ∈ l := hp.mem_iff.2 hi
  simp [readyB, doneB, hm]

theorem readyL_len (p : PlanL) (D : Nat → Bool) : (natL (readyL p D)).length ≤ p.length := by
  rw [natL_len]
  have := List.length_filter_le (readyB p D) (List.range p.length)
  simpa [readyL] using this
theorem rowCl_keep {w w' : World} {A n : Nat} {f : Nat → Ce} {S : List Nat} (h : RowCl w A n f) (ho : Only S w w') (hA : 0 < n → A ∉ S) : RowCl w' A n f := by
  by_cases h0 : 0 < n
  · exact h.only ho (hA h0)
  · intro i hi; omega
theorem logIs_g {w : World} {S : List Nat} {F : Nat → Prop} {G : Nat} {p : PlanL} {s : LSt} (h : LogIs w S F G p s) : G ∈ S := by
  obtain ⟨_, _, _, _, _, _, _, rfl, _⟩ := h
  simp
theorem text_short (l : List Nat) (h : ∀ i ∈ l, i < 100) : (textOf l).length ≤ 3 * l.length := by
  induction l with
  | nil => simp [textOf]
  | cons i l ih =>
    have h1 := ih (fun j hj => h j (by simp [hj]))
    have h2 := digits_two (h i (by simp))
    have e : textOf (i :: l) = lineOf i ++ textOf l := by simp [textOf]
    rw [e]
    simp [lineOf]
    omega

/-- How the log stands ahead of a round. -/
structure Kp (w wr : World) (G A n : Nat) (f : Nat → Ce) (p : PlanL) (i : Nat) (S : List Nat) (F : Nat → Prop) (l : List Nat) (sf c : Nat) : Prop where
  ord : OrdOk p l
  log : LogIs wr S F G p ⟨l, textOf l, sf, -1, false⟩
  safe : sf ≤ (textOf l).length
  far : ∀ x ∈ S, w.heap.size ≤ x ∧ (0 < n → x ≠ A)
  only : Only [] w wr
  at_ : 0 < n → A < wr.heap.size
  row : RowCl wr A n f
  cs : c ≤ 2 * n + 1 ∧ c ≤ i
  prog : i ≤ c + l.length ∨ l.length = n

theorem Kp.short {w wr : World} {G A n : Nat} {f : Nat → Ce} {p : PlanL} {i : Nat} {S : List Nat} {F : Nat → Prop} {l : List Nat} {sf c : Nat} (h : Kp w wr G A n f p i S F l sf c) (hn : p.length = n) (h30 : n ≤ 30) : l.length ≤ 30 ∧ (textOf l).length ≤ 90 := by
  have h1 := nodup_le _ _ h.ord.nodup h.ord.lt
  have h2 := text_short l (fun i hi => by have := h.ord.lt i hi; omega)
  omega
/-- .. behind what left it alone. -/
theorem Kp.same {w wr wq : World} {G A n : Nat} {f : Nat → Ce} {p : PlanL} {i : Nat} {S : List Nat} {F : Nat → Prop} {l : List Nat} {sf c : Nat} (h : Kp w wr G A n f p i S F l sf c) (ho : Only [] wr wq) : Kp w wq G A n f p i S F l sf c :=
  ⟨h.ord, h.log.same ho, h.safe, h.far, h.only.trans ho (by simp), fun h0 => by have := h.at_ h0; have := ho.size; omega, rowCl_keep h.row ho (by simp), h.cs, h.prog⟩
theorem Kp.step {w wr wq : World} {G A n : Nat} {f : Nat → Ce} {p : PlanL} {i : Nat} {S : List Nat} {F : Nat → Prop} {l : List Nat} {sf c : Nat} (h : Kp w wr G A n f p i S F l sf c) {S' : List Nat} {F' : Nat → Prop} {l' : List Nat} {sf' c' i' : Nat}
    (ho : OrdOk p l') (hlog : LogIs wq S' F' G p ⟨l', textOf l', sf', -1, false⟩) (hs : sf' ≤ (textOf l').length) (hk : Kin wr S S') (hon : Only S wr wq) (hc : c' ≤ 2 * n + 1 ∧ c' ≤ i') (hp : i' ≤ c' + l'.length ∨ l'.length = n) : Kp w wq G A n f p i' S' F' l' sf' c' := by
  refine ⟨ho, hlog, hs, fun x hx => ?_, h.only.kin hon (fun x hx => (h.far x hx).1), fun h0 => by have := h.at_ h0; have := hon.size; omega, rowCl_keep h.row hon (fun h0 hx => (h.far A hx).2 h0 rfl), hc, hp⟩
  rcases hk x hx with hx | hx
  · exact h.far x hx
  · refine ⟨by have := h.only.size; omega, fun h0 e => ?_⟩
    have := h.at_ h0
    omega
theorem Kp.all {w wr : World} {G A n : Nat} {f : Nat → Ce} {p : PlanL} {i : Nat} {S : List Nat} {F : Nat → Prop} {l : List Nat} {sf c : Nat} (h : Kp w wr G A n f p i S F l sf c) (hok : PlanOk p) (hn : p.length = n) (he : readyL p (doneB l) = []) : Kp w wr G A n f p (i + 1) S F l sf c :=
  ⟨h.ord, h.log, h.safe, h.far, h.only, h.at_, h.row, ⟨h.cs.1, by have := h.cs.2; omega⟩, .inr (by have := (ord_full hok h.ord he).length_eq; rw [List.length_range] at this; omega)⟩

set_option maxHeartbeats 8000000 in
set_option maxRecDepth 100000 in
theorem walk (v0 : Value) (l0 : PlanL) (v1 : Value) (l1 : List Opn) (a2 : Int) (a3 : Int) (a4 : Int) (w : World) (hrange : VarErr "strconv.ErrRange" w) (hsyn : VarErr "strconv.ErrSyntax" w) (w0 : ArgPlan w v0 l0) (w1 : InOps w v1 l1) (w2 : (Lit.int .i64 a2).wf = true) (w3 : (Lit.int .i64 a3).wf = true) (w4 : (Lit.int .i64 a4).wf = true) :
    Calls Tryz.prog 3 #[v0, v1, .int .i64 a2, .int .i64 a3, .int .i64 a4] w fun e w' => e = .returned (.bool true) ∧ Below w.heap.size w w' := by
  have bd2 := bounds_i64 w2
  have bd3 := bounds_i64 w3
  have bd4 := bounds_i64 w4
  have HP := Lib.hid w0.2
  have HU := Lib.hid w1.2.1
  have hu9 : l1.length ≤ 9223372036854775807 := by have := w1.2.2; unfold maxLen at this; omega
  obtain ⟨pa, pc, rfl, _⟩ := w0.2.task
  obtain ⟨ua, uc, rfl, _⟩ := w1.2.1.opt
  have hone := top_one w
  have HALL := Lib.hid (fun W (ho : Only [] w W) => cells_All _ _ l0 l1 W (HP.out.same ho) (HU.out.same ho) hu9)
  have HALO := Lib.hid (fun W (ho : Only [] w W) v l (hr : Reads W v l) (hl : l.length ≤ 17592186044416) => cells_Along _ _ v l0 l1 l W (HP.out.same ho) (HU.out.same ho) hu9 hr hl)
  obtain ⟨n, hn⟩ : ∃ n, l0.length = n := ⟨_, rfl⟩
  obtain ⟨m, hm⟩ : ∃ m, l1.length = m := ⟨_, rfl⟩
  have HN := Lib.hid hn
  rw [hn, hm] at HALL HALO
  rw [hn, hm]
  clear w0 w1 w2 w3 w4 hm hu9
  by_cases h0 : planFault l0 = 0
  · have hok := (planOk_iff l0).2 h0
    have h30 := hok.len
    rw [hn] at h30
    have HOK := Lib.hid hok
    have hnew := Lib.hid (fun W (ho : Only [] w W) => Log.new _ l0 W (HP.out.same ho) hok)
    rw [hn] at hnew
    clear hn hok h0
    go_enter Tryz.func3, Tryz.ntmps3
    go_wp2_with fail
    refine hone.mono ?_
    rintro e w1 ⟨rfl, ho1⟩
    have hn1 := hnew.out w1 ho1
    clear hone hnew
    go_wp2_with fail
    refine hn1.mono ?_
    rintro e w2 ⟨G, S, F, rfl, hJ, hS, hF, ho2⟩
    have hoo := ho1.trans ho2 (by simp)
    have hS2 : ∀ x ∈ S, w.heap.size ≤ x := fun x hx => by have := (hS x hx).1; have := ho1.size; omega
    have hall := HALL.out w2 hoo
    clear hn1 ho1 ho2 hF HALL
    by_cases hA0 : allFault l0 l1 = 0
    · rw [hA0, errV_zero] at hall
      go_wp2_with fail
      refine hall.mono ?_
      rintro e w3 ⟨v3, rfl, ho3, hx⟩
      rcases hx with ⟨hx, _⟩ | ⟨_, A, rfl, hAw, hR⟩
      · exact absurd rfl hx
      have hoo3 := hoo.trans ho3 (by simp)
      have hJ3 := hJ.same ho3
      have HR := Lib.hid hR
      have HS := Lib.hid hS2
      have hK0 : Kp w w3 G A n (foldA l0 l1 (orderOf l0)) l0 0 S F [] 0 0 := by
        refine ⟨OrdOk.nil _, hJ3, by simp, fun x hx => ⟨hS2 x hx, fun h0 e => ?_⟩, hoo3, fun h0 => ?_, hR, by omega, .inl (by omega)⟩
        · have := (hS x hx).2; omega
        · exact cell_lt (hR.at 0 h0).1
      obtain ⟨f, hf⟩ : ∃ f, foldA l0 l1 (orderOf l0) = f := ⟨_, rfl⟩
      rw [hf] at hK0
      have HF := Lib.hid hf
      clear hall hoo ho3 hJ hR hS2 hJ3 hoo3 HR HS hf hS
      have hw4 : IntKind.i64.wrap (4 * (n : Int)) = 4 * n := IntWalk.i64_in _ (by omega)
      have hw44 : IntKind.i64.wrap (4 * (n : Int) + 4) = 4 * n + 4 := IntWalk.i64_in _ (by omega)
      have hw2 : IntKind.i64.wrap (2 * (n : Int)) = 2 * n := IntWalk.i64_in _ (by omega)
      go_wp2_with fail
      go_loopw [16] (fun vi wr => ∃ (i : Nat) (S : List Nat) (F : Nat → Prop) (l : List Nat) (sf c : Nat), i ≤ 4 * n + 4 ∧ vi = .int .i64 i ∧ Kp w wr G A n f l0 i S F l sf c) (fun vi _ => 4 * n + 4 - (intOf vi).toNat)
      case atStart => exact ⟨0, S, F, [], 0, 0, by omega, rfl, hK0⟩
      case round =>
        clear hK0
        obtain ⟨wq, rfl⟩ : ∃ wq : World, wq = wr := ⟨_, rfl⟩
        obtain ⟨i, S, F, l, sf, c, hi, rfl, hK⟩ := hrel
        have hsh := hK.short HN.out h30
        have hrd := Log.ready S F G l0 _ wq hK.log
        have HK := Lib.hid hK
        clear hK
        by_cases hlt : i < 4 * n + 4
        · go_wp2_with fail
          refine hrd.mono ?_
          rintro e wa ⟨v, rfl, hI, hoa⟩
          have hKa := Lib.hid (HK.out.same hoa)
          have hI : Ints wa wq.heap.size v (natL (readyL l0 (doneB l))) := hI
          have hml := readyL_len l0 (doneB l)
          rw [HN.out] at hml
          obtain ⟨va, vc, rfl, _⟩ := hI.opt
          obtain ⟨m2, hm2⟩ : ∃ m2, (natL (readyL l0 (doneB l))).length = m2 := ⟨_, rfl⟩
          rw [hm2] at hml ⊢
          rw [hm2] at hI
          have HM := Lib.hid hm2
          have HI := Lib.hid hI
          clear hrd hoa hm2 hI HK
          go_upto_region 12 with (fail)
          go_cut [64] (fun vb wx => vb = .bool false ∧ ∃ (S : List Nat) (F : Nat → Prop) (l : List Nat), Kp w wx G A n f l0 (i + 1) S F l sf c)
          case first =>
            as_aux_lemma =>
              by_cases hm0 : m2 = 0
              · subst hm0
                have he : readyL l0 (doneB l) = [] := List.length_eq_zero_iff.1 (by rw [← natL_len]; exact HM.out)
                have hfin := Lib.hid (hKa.out.all HOK.out HN.out he)
                clear he
                go_wp2
                go_meet
                exact ⟨rfl, S, F, l, hfin.out⟩
              · obtain ⟨k, rfl⟩ : ∃ k, m2 = k + 1 := ⟨m2 - 1, by omega⟩
                have hkl : k < (readyL l0 (doneB l)).length := by rw [← natL_len, HM.out]; omega
                obtain ⟨x, hx⟩ : ∃ x, (readyL l0 (doneB l))[k] = x := ⟨_, rfl⟩
                have hxm : x ∈ readyL l0 (doneB l) := by rw [← hx]; exact List.getElem_mem hkl
                obtain ⟨hx1, hx2⟩ := ready_of_lack hxm
                obtain ⟨g, cap, hv, _, _⟩ := HI.out.sized (k + 1) HM.out (by omega)
                injection hv with e1 _ e2
                subst e1 e2
                have cx := HI.out.cell k (by rw [HM.out]; omega)
                rw [natL_nth _ _ hkl, hx] at cx
                have hwr : IntKind.i64.wrap ((k : Int) + 1 - 1) = (k : Int) := by rw [IntWalk.i64_in _ (by omega)]; omega
                have hd := Log.done_ok S F G l0 _ x wa hKa.out.log rfl hx1 hx2 (by show (-1 : Int) ≠ 0; omega) (by show (-1 : Int) ≤ -1; omega) (by show (-1 : Int) ≤ _; omega) (by show l.length ≤ 1000; omega) (by show (textOf l).length ≤ 1000; omega)
                have hfin := Lib.hid (fun wb S2 (hJ2 : LogIs wb S2 F G l0 ⟨l ++ [x], textOf (l ++ [x]), sf, -1, false⟩) (hK2 : Kin wa S S2) (ho2 : Only S wa wb) => hKa.out.step (i' := i + 1) (c' := c) (hKa.out.ord.push hx1 hx2) hJ2 (by rw [textOf_push, List.length_append]; have := hKa.out.safe; omega) hK2 ho2 ⟨hKa.out.cs.1, by have := hKa.out.cs.2; omega⟩ (by
                  rcases hKa.out.prog with h | h
                  · left; rw [List.length_append]; simp; omega
                  · exfalso
                    rw [full_none (full_perm hKa.out.ord (by rw [h, HN.out]))] at hkl
                    simp at hkl))
                clear hx hxm hkl hx1 hx2
                go_wp2_with fail
                refine hd.mono ?_
                rintro e wb ⟨rfl, S2, hJ2, hK2, ho2⟩
                have hps : LSt.push ⟨l, textOf l, sf, -1, false⟩ x = ⟨l ++ [x], textOf (l ++ [x]), sf, -1, false⟩ := by rw [textOf_push]; rfl
                rw [hps] at hJ2
                have hfin2 := Lib.hid (hfin.out wb S2 hJ2 hK2 ho2)
                clear hd hps hJ2 hK2 ho2 hfin
                go_wp2
                go_meet
                exact ⟨rfl, S2, F, l ++ [x], hfin2.out⟩
          case rest =>
          obtain ⟨rfl, S2, F2, l2, hK2⟩ := hcut
          have hsh2 := hK2.short HN.out h30
          have HK2 := Lib.hid hK2
          clear hK2 hKa HI HM hsh
          go_upto_region 14 with (fail)
          go_cut [72] (fun vb wx => vb = .bool false ∧ ∃ (sf : Nat), Kp w wx G A n f l0 (i + 1) S2 F2 l2 sf c)
          case first =>
            as_aux_lemma =>
              by_cases ha : a2 = (i : Int)
              · subst ha
                have hs := Log.sync S2 F2 G l0 _ _ HK2.out.log rfl (by show (-1 : Int) ≠ 0; omega) (by show (-1 : Int) ≤ -1; omega) (by show (-1 : Int) ≤ _; omega)
                go_wp2_with fail
                refine hs.mono ?_
                rintro e wb ⟨rfl, hJ2, ho2⟩
                have hps : LSt.synced ⟨l2, textOf l2, sf, -1, false⟩ = ⟨l2, textOf l2, (textOf l2).length, -1, false⟩ := rfl
                rw [hps] at hJ2
                have hfin := Lib.hid (HK2.out.step (i' := i + 1) (c' := c) HK2.out.ord hJ2 (Nat.le_refl _) (Kin.refl _ _) (ho2.mono (fun x hx _ => by simp at hx; subst hx; exact logIs_g hJ2)) HK2.out.cs HK2.out.prog)
                clear hs hps hJ2 ho2
                go_wp2
                go_meet
                exact ⟨rfl, _, hfin.out⟩
              · have hne : ((i : Int) == a2) = false := by simp; omega
                go_wp2
                go_meet
                exact ⟨rfl, _, HK2.out⟩
          case rest =>
          obtain ⟨rfl, sf2, hK3⟩ := hcut
          have HK3 := Lib.hid hK3
          clear hK3 HK2
          by_cases hc : a3 = (i : Int) ∧ i ≤ 2 * n
          · obtain ⟨rfl, hi2⟩ := hc
            have hcr := Log.crash S2 F2 G l0 _ a4 [] _ HK3.out.log HK3.out.ord (by simp) (by simp) HK3.out.safe (by show (textOf l2).length ≤ 1000; omega) bd4
            go_wp2_with fail
            refine hcr.mono ?_
            rintro e wb ⟨rfl, S3, F3, hJ3, hK3, hF3, ho3⟩
            have hfin := Lib.hid (HK3.out.step (i' := i + 1) (c' := i + 1) (HK3.out.ord.take _) hJ3 (Nat.le_refl _) hK3 ho3 ⟨by omega, by omega⟩ (.inl (by omega)))
            clear hcr hJ3 hK3 hF3 ho3
            go_wp2
            go_roundw
            case rel => exact ⟨i + 1, S3, F3, _, _, i + 1, by omega, by go_num, hfin.out⟩
            case measure => (simp [intOf]; try omega)
          · have hor : a3 < (i : Int) ∨ (i : Int) < a3 ∨ (a3 = (i : Int) ∧ 2 * n < i) := by omega
            clear hc
            rcases hor with h | h | ⟨rfl, h⟩
            all_goals
              go_wp2
              go_roundw
              case rel => exact ⟨i + 1, S2, F2, _, _, c, by omega, by go_num, HK3.out⟩
              case measure => (simp [intOf]; try omega)
        · obtain rfl : i = 4 * n + 4 := by omega
          have hln : l.length = n := by
            have h1 := nodup_le _ _ HK.out.ord.nodup HK.out.ord.lt
            rw [HN.out] at h1
            have := HK.out.cs
            rcases HK.out.prog with h | h <;> omega
          have hpm := full_perm HK.out.ord (by rw [hln, HN.out])
          have hal := ord_along hA0 HK.out.ord hpm
          have hall := Log.all S F G l0 _ wq HK.out.log (by show l.length ≤ 1000; omega)
          have hrn := full_none hpm
          have hco := comes_one HOK.out (foldA_comes l1 (ord_order HK.out.ord hpm)) (foldA_comes l1 (orderOf_ok HOK.out))
          rw [HN.out, HF.out] at hco
          have HCO := Lib.hid hco
          clear hlt hi hrd hpm hco
          go_wp2_with fail
          refine hall.mono ?_
          rintro e wa ⟨v, rfl, hI, hoa⟩
          have hKa := Lib.hid (HK.out.same hoa)
          have hI : Ints wa wq.heap.size v (natL l) := hI
          have halo := HALO.out wa hKa.out.only v (natL l) hI.reads (by rw [natL_len]; omega)
          rw [hal, errV_zero, natL_toNat] at halo
          obtain ⟨va, vc, rfl, _⟩ := hI.opt
          obtain ⟨m2, hm2⟩ : ∃ m2, (natL l).length = m2 := ⟨_, rfl⟩
          rw [hm2] at halo ⊢
          clear hall hoa hI HK hm2 hal
          go_wp2_with fail
          refine halo.mono ?_
          rintro e wb ⟨vb, rfl, hob, hx⟩
          rcases hx with ⟨hx, _⟩ | ⟨_, A2, rfl, _, hR2⟩
          · exact absurd rfl hx
          have hKb := Lib.hid (hKa.out.same hob)
          have hR3 := hR2.congr HCO.out
          have hsame := same_kells _ _ _ wb (hR3.list n) (hKb.out.row.list n) (by unfold listCl; simp; omega)
          clear halo hob hR2 hR3 hKa
          go_wp2_with fail
          refine hsame.mono ?_
          rintro e wc ⟨rfl, nq, rfl⟩
          have hKc := Lib.hid (hKb.out.same ((Only.refl [] wb).drewN nq))
          have hrd := Log.ready S F G l0 _ _ hKc.out.log
          clear hsame hKb
          go_wp2_with fail
          refine hrd.mono ?_
          rintro e wd ⟨v5, rfl, hI5, ho5⟩
          have hI5 : Ints wd _ v5 (natL (readyL l0 (doneB l))) := hI5
          rw [hrn] at hI5
          obtain ⟨va5, vc5, rfl, _⟩ := hI5.opt
          have hfin := Lib.hid (hKc.out.same ho5)
          clear hrd hI5 ho5 hKc
          go_wp2
          go_ret
          exact ⟨rfl, hfin.out.only.below (Nat.le_refl _) (by simp)⟩
    · rw [errV_ne hA0] at hall
      go_wp2_with fail
      refine hall.mono ?_
      rintro e w3 ⟨v3, rfl, ho3, hx⟩
      have ho := hoo.trans ho3 (by simp)
      rcases hx with ⟨_, rfl⟩ | ⟨hx, _⟩
      · clear hall hoo ho3
        go_wp2
        go_ret
        exact ⟨rfl, ho.below (Nat.le_refl _) (by simp)⟩
      · exact absurd hx hA0
  · have hno := Lib.hid (fun W (ho : Only [] w W) => Log.new_no _ l0 W (HP.out.same ho) h0)
    rw [hn] at hno
    obtain ⟨E, hE⟩ : ∃ E, allFault l0 l1 = E := ⟨_, rfl⟩
    rw [hE] at HALL
    have hE0 : E ≠ 0 := fun e => h0 ((planOk_iff l0).1 (allFault_zero (hE.trans e)).1)
    rw [errV_ne hE0] at HALL
    generalize planFault l0 = PF at *
    clear hn
    go_enter Tryz.func3, Tryz.ntmps3
    go_wp2_with fail
    refine hone.mono ?_
    rintro e w1 ⟨rfl, ho1⟩
    have hn1 := hno.out w1 ho1
    clear hone hno
    go_wp2_with fail
    refine hn1.mono ?_
    rintro e w2 ⟨rfl, ho2⟩
    have hoo := ho1.trans ho2 (by simp)
    have hall := HALL.out w2 hoo
    clear hn1 ho1 ho2 HALL
    go_wp2_with fail
    refine hall.mono ?_
    rintro e w3 ⟨v3, rfl, ho3, hx⟩
    have ho := hoo.trans ho3 (by simp)
    rcases hx with ⟨_, rfl⟩ | ⟨hx, _⟩
    · clear hall hoo ho3
      go_wp2
      go_ret
      exact ⟨rfl, ho.below (Nat.le_refl _) (by simp)⟩
    · exact absurd hx hE0

end Go.Proofs.YtloojhnhialenaaGreatDoor.topKept
