/-
  What the document's reading of a weave gives, in plain words.
  A list put behind one of the call's own, at a step of a region that draws its order.
-/
import Derived.Test.YtocpmncedlenbaaDoorP35WeaveTells
import Derived.Test.YtocpmncedlenbaaDoorP5WeaveTells
namespace Go.Proofs.YtocpmncedlenbaaDoor

theorem sat_step (l : List UInt8) (c : UInt8) : satV (l ++ [c]) = if satV l < 1000 then satV l * 10 + (c.toNat - 48) else satV l := by
  unfold satV
  rw [List.foldl_append]
  rfl
theorem sat_bound (l : List UInt8) (h : l.all isDig = true) : satV l ≤ 10300 := sat_le l 0 (by omega) h
theorem qNum_nums {s r : List UInt8} {a : Wv} (h : qNum s = some (a, r)) : NumsW (fun n => 1 ≤ n ∧ n ≤ 10300) a := by
  have h1 := pNum_nums (s := s) (a := clipW a) (r := r) (by rw [clip_num, h]; rfl)
  unfold qNum at h
  split at h
  · cases h
  · injection h with h
    injection h with h2 h3
    subst h2
    have h4 : 1 ≤ clip (satV (s.takeWhile isDig)) := h1.1
    have h5 : satV (s.takeWhile isDig) ≤ 10300 := sat_bound _ (all_takeWhile _ _)
    show 1 ≤ (satV (s.takeWhile isDig) : Int) ∧ (satV (s.takeWhile isDig) : Int) ≤ 10300
    unfold clip at h4
    split at h4 <;> omega
theorem q_nums : ∀ f : Nat, (∀ s x, qOne f s = some x → NumsW (fun n => 1 ≤ n ∧ n ≤ 10300) x.1) ∧ (∀ s x, qBehind f s = some x → NumsW (fun n => 1 ≤ n ∧ n ≤ 10300) x.1) ∧
    (∀ b s x, NumsW (fun n => 1 ≤ n ∧ n ≤ 10300) b → qSemi f b s = some x → NumsW (fun n => 1 ≤ n ∧ n ≤ 10300) x.1) ∧ (∀ s x, qBeside f s = some x → NumsW (fun n => 1 ≤ n ∧ n ≤ 10300) x.1) ∧
    (∀ b s x, NumsW (fun n => 1 ≤ n ∧ n ≤ 10300) b → qBar f b s = some x → NumsW (fun n => 1 ≤ n ∧ n ≤ 10300) x.1) := by
  intro f
  induction f with
  | zero => exact ⟨by simp [qOne], by simp [qBehind], by simp [qSemi], by simp [qBeside], by simp [qBar]⟩
  | succ f ih =>
    obtain ⟨i1, i2, i3, i4, i5⟩ := ih
    refine ⟨?_, ?_, ?_, ?_, ?_⟩
    · intro s x h
      unfold qOne at h
      split at h
      · obtain ⟨y, h1, h2⟩ := bind_some h
        split at h2
        · injection h2 with h2
          have h3 := i4 _ _ h1
          rw [← h2]; exact h3
        · cases h2
      · exact qNum_nums (r := x.2) h
    · intro s x h
      unfold qBehind at h
      obtain ⟨y, h1, h2⟩ := bind_some h
      exact i3 _ _ _ (i1 _ _ h1) h2
    · intro b s x hb h
      unfold qSemi at h
      split at h
      · obtain ⟨y, h1, h2⟩ := bind_some h
        exact i3 _ _ _ (show NumsW _ (.seq b y.1) from And.intro hb (i1 _ _ h1)) h2
      · injection h with h
        rw [← h]; exact hb
    · intro s x h
      unfold qBeside at h
      obtain ⟨y, h1, h2⟩ := bind_some h
      exact i5 _ _ _ (i2 _ _ h1) h2
    · intro b s x hb h
      unfold qBar at h
      split at h
      · obtain ⟨y, h1, h2⟩ := bind_some h
        exact i5 _ _ _ (show NumsW _ (.par b y.1) from And.intro hb (i2 _ _ h1)) h2
      · injection h with h
        rw [← h]; exact hb


theorem q_len (f : Nat) : (∀ s a r, qOne f s = some (a, r) → r.length < s.length) ∧ (∀ s a r, qBehind f s = some (a, r) → r.length < s.length) ∧ (∀ s a r, qBeside f s = some (a, r) → r.length < s.length) :=
  ⟨fun s a r h => (p_len f).1 s (clipW a) r (by rw [(clip_parse f).1, h]; rfl), fun s a r h => (p_len f).2.1 s (clipW a) r (by rw [(clip_parse f).2.1, h]; rfl), fun s a r h => (p_len f).2.2.2.1 s (clipW a) r (by rw [(clip_parse f).2.2.2.1, h]; rfl)⟩
theorem q_suf (f : Nat) : (∀ s a r, qOne f s = some (a, r) → r <:+ s) ∧ (∀ s a r, qBehind f s = some (a, r) → r <:+ s) ∧ (∀ s a r, qBeside f s = some (a, r) → r <:+ s) :=
  ⟨fun s a r h => (p_suf f).1 s (clipW a) r (by rw [(clip_parse f).1, h]; rfl), fun s a r h => (p_suf f).2.1 s (clipW a) r (by rw [(clip_parse f).2.1, h]; rfl), fun s a r h => (p_suf f).2.2.2.1 s (clipW a) r (by rw [(clip_parse f).2.2.2.1, h]; rfl)⟩

abbrev Big (t : Wv) : Prop := NumsW (fun n => 1 ≤ n ∧ n ≤ 10300) t
theorem big_work (t : Wv) (h : Big t) : 0 ≤ spanW t ∧ spanW t ≤ workW t ∧ workW t ≤ 10300 * cntW t := by
  induction t with
  | num n => exact ⟨by have := h.1; show 0 ≤ n; omega, Int.le_refl _, by have := h.2; show n ≤ 10300 * ((1 : Nat) : Int); omega⟩
  | seq a b ia ib =>
    obtain ⟨a1, a2, a3⟩ := ia h.1
    obtain ⟨b1, b2, b3⟩ := ib h.2
    show 0 ≤ spanW a + spanW b ∧ spanW a + spanW b ≤ workW a + workW b ∧ workW a + workW b ≤ 10300 * ((cntW a + cntW b : Nat) : Int)
    omega
  | par a b ia ib =>
    obtain ⟨a1, a2, a3⟩ := ia h.1
    obtain ⟨b1, b2, b3⟩ := ib h.2
    show 0 ≤ max (spanW a) (spanW b) ∧ max (spanW a) (spanW b) ≤ workW a + workW b ∧ workW a + workW b ≤ 10300 * ((cntW a + cntW b : Nat) : Int)
    omega
theorem qBar_succ (f : Nat) (a : Wv) (s : List UInt8) : qBar (f + 1) a s = if isC 124 s then (qBehind f s.tail).bind (fun x => qBar f (.par a x.1) x.2) else some (a, s) := by rw [qBar]
theorem qSemi_succ (f : Nat) (a : Wv) (s : List UInt8) : qSemi (f + 1) a s = if isC 59 s then (qOne f s.tail).bind (fun x => qSemi f (.seq a x.1) x.2) else some (a, s) := by rw [qSemi]

end Go.Proofs.YtocpmncedlenbaaDoor

namespace Go.Proofs.YtocpmncedlenbaaDoor
open Go.RowKit Go.Deep

/-- What such an append does. -/
theorem run_reads {w : World} (ty : TypeId) (W : World) (base : Nat) (v : Value) (xs : List Int) (u : Value) (ys : List Int) (hown : Ints W base v xs) (hu : Reads W u ys) (hlen : xs.length + ys.length ≤ 1000000000) (hbase : base ≤ W.heap.size) (hW : Only [] W w) :
    ∃ v' w', (Builtin.append_ #[37, 37] ty #[v, u]).run Tryd.prog w = .ok v' w' ∧ Ints w' base v' (xs ++ ys) ∧ Only (own v) W w' ∧ Kin W (own v) (own v') := by
  obtain ⟨i0, hi, hz0, hz1, hz2⟩ := info_int
  have hb := hW.size
  have hown' := hown.only hW (by simp)
  rcases hu with ⟨rfl, rfl | ⟨y, cap, rfl, hcap⟩⟩ | ⟨h0, b, off, cap, rfl, h1, h2, h3⟩
  · exact ⟨v, w, run_append_owned_none (P := Tryd.prog) (w := w) base 37 ty 3 i0 1 Tryd.underlying37 hi v xs.length _ hown', by simpa using hown', hW.mono (by simp), Kin.refl _ _⟩
  · obtain ⟨v', w', hr, k1, k2, _, k4⟩ := run_append_own_at (P := Tryd.prog) (w := w) base 37 ty 3 i0 (.int .i64 0) 1 8 Tryd.underlying37 hi hz0 hz1 hz2 rfl (by decide) v xs.length _ hown' y 0 cap [] rfl (by simp) (by simp) (by unfold maxLen; simp at hlen; omega) (by simp at hlen; omega) (by omega)
    exact ⟨v', w', hr, by unfold Ints; simpa using k1, (hW.mono (by simp)).grown k2 (fun k hk _ => by simp [own, hk]), kin_of k4 hb⟩
  · obtain ⟨v', w', hr, k1, k2, _, k4⟩ := run_append_own_at (P := Tryd.prog) (w := w) base 37 ty 3 i0 (.int .i64 0) 1 8 Tryd.underlying37 hi hz0 hz1 hz2 rfl (by decide) v xs.length _ hown' ⟨b, off, none⟩ ys.length cap (ys.map (Value.int .i64)) (by simp) (fun j u hj => by
      have hjl : j < ys.length := by
        rcases Nat.lt_or_ge j ys.length with h | h
        · exact h
        · rw [List.getElem?_eq_none (by simpa using h)] at hj; cases hj
      have e : u = .int .i64 (nth ys j) := by
        rw [List.getElem?_map, List.getElem?_eq_getElem hjl] at hj
        simp at hj
        rw [← hj]
        simp [nth, hjl]
      have e2 : ({ block := b, off := off, spot := none } : Addr).add j = ⟨b, off + j, none⟩ := by
        unfold Addr.add
        split
        · rename_i h; subst h; rfl
        · rfl
      have hcell := h3 j hjl
      rw [e, e2, hW.cell (p := ⟨b, off + j, none⟩) (cell_lt hcell) (by simp)]
      exact hcell) (fun u hu => by simp at hu; obtain ⟨n, _, rfl⟩ := hu; rfl) (by unfold maxLen; omega) (by omega) (by omega)
    exact ⟨v', w', hr, by unfold Ints; simpa using k1, (hW.mono (by simp)).grown k2 (fun k hk _ => by simp [own, hk]), kin_of k4 hb⟩

theorem step_append_reads {ops : Array Oper} {o : Oper} {a : Act} {w : World} {K : Act → World → Prop} {Q : Exit → Act → World → Prop} {E : Prop} (hgd : o.guard = none) (s x : Operand)
    (ho : o.op = .call { callee := .builtin .append, args := #[s, x], argTypes := #[37, 37] })
    (W : World) (base : Nat) (v : Value) (xs : List Int) (u : Value) (ys : List Int) (hown : Ints W base v xs) (hu : Reads W u ys) (hlen : xs.length + ys.length ≤ 1000000000) (hbase : base ≤ W.heap.size)
    (hs : a.eval s = v) (hx : a.eval x = u) (hW : Only [] W w)
    (h : ∀ v' w', Ints w' base v' (xs ++ ys) → Only (own v) W w' → Kin W (own v) (own v') → K (a.put o.dst v') w') : if Region.wanted o (yielded ops a.tmps) = true then Oper.wp Tryd.prog o a w K Q else E := by
  rw [if_pos (by unfold Region.wanted; rw [hgd])]
  obtain ⟨v', w', hr, k1, k2, k3⟩ := run_reads (w := w) o.type W base v xs u ys hown hu hlen hbase hW
  have he : (execOp a.eval o).run Tryd.prog w = .ok (.value v') w' := by
    unfold execOp
    simp only [ho, resolve, invoke, builtin, Sem.run_bind, Sem.run_pure, Result.andThen_ok, List.map_toArray, List.map_cons, List.map_nil, hs, hx, hr]
  unfold Oper.wp
  rw [he]
  exact h v' w' k1 k2 k3

end Go.Proofs.YtocpmncedlenbaaDoor
