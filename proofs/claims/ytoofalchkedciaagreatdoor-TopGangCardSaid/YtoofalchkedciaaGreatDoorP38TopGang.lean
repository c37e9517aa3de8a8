/-
  A range over a function whose iterator keeps a state of its own in cells: the loop's law. After the library's law for iterators without one. No program is named here.
  Contract of strings.Lines.
  Deeds as text, in plain words: what a text of deeds is read as.
-/
import Derived.Test.YtoofalchkedciaaGreatDoorP31TopGang
import Derived.Test.YtoofalchkedciaaGreatDoorP36TopGang
import Derived.Lib.IndexLaws
import Derived.StillTailTactics
import Derived.Test.YtoofalchkedciaaGreatDoorP37TopGang
namespace Go.Proofs.YtoofalchkedciaaGreatDoor
open Go.RowKit

variable {F : Fence} {n : Nat} {P : Program}

/-- An iterator's contract: between two rounds it takes steps of its own; they are told, and what the rounds say must stand them. -/
def StopsQ {α : Type} (F : Fence) (n : Nat) (P : Program) (g : Nat) (lb : Array Value) (encs : α → Array Value) (Kp St : World → World → Prop) (S Sp : List α → Prop) (N : Nat) (w : World) : Prop :=
  ∀ (l : Nat) (J Jx : List α → World → Prop) (W : World), Below w.heap.size w W → (∀ s A B, J s A → St A B → J s B) → (∀ s A B, Jx s A → St A B → Jx s B) →
    (∀ pre x W1, J pre W1 → pre.length < N → YieldAt F (n - 1) P l (encs x) W1 fun e W' =>
      (e = .returned (.bool true) ∧ J (pre ++ [x]) W' ∧ Kp W1 W') ∨ (e = .returned (.bool false) ∧ Jx (pre ++ [x]) W')) →
    J [] W →
    CallsIn F n P g (#[.func (.yield l) #[] #[]] ++ lb) W fun e W' => (∃ v, e = .returned v) ∧ ((∃ xs, S xs ∧ J xs W') ∨ (∃ pre, Sp pre ∧ Jx pre W'))

theorem wpIn_rangeFunc_ownQ {α : Type} {g : Operand} {ps : Array Tmp} {assign body : Code} {Q : Exit → Act → World → Prop} {a : Act} {w : World}
    (hro : F.round = none) (h1 : 1 ≤ n) {gf : Nat} {lb : Array Value} (hg : a.eval g = .func (.func gf) #[] lb) (hFg : F.fn gf) (eg : ∀ args w, (callFunc gf args).run P w = .ok (.enter gf args) w)
    {encs : α → Array Value} {Kp St : World → World → Prop} {S Sp : List α → Prop} {N : Nat} {w0 : World} (hseq : StopsQ F (n - 1) P gf lb encs Kp St S Sp N w0)
    (hSt : ∀ A B k o, St A B → w.heap.size ≤ k → A.heap[k]? = some o → o.isCells = false → B.heap[k]? = some o)
    (hKt : ∀ {A B C : World}, Kp A B → Kp B C → Kp A C) (hKb : ∀ (W : World) (l : Nat) (o o' : Obj), w.heap.size ≤ l → W.heap[l]? = some o → o.isCells = false → o.isWalk = false → Kp W (W.putObj l o')) (hb0 : Below w0.heap.size w0 w) (hps : ∀ x, (encs x).size = ps.size)
    (I : List α → World → Prop) (Ix : Code → List α → World → Prop) (hI : OwnFrom w.heap.size I) (hIx : ∀ c, OwnFrom w.heap.size (Ix c)) (hIS : ∀ s A B, I s A → St A B → I s B) (hIxS : ∀ c s A B, Ix c s A → St A B → Ix c s B) (h0 : I [] w) (a₁ : α → Act)
    (hassign : ∀ (l : Nat) (x : α) (W : World) (K : Act → World → Prop), K (a₁ x) W →
      assign.wpIn (F.inRound l) (n - 1 - 1) P (Exit.then K (fun _ _ _ => False)) { tmps := (ps.zip (encs x)).foldl (fun t (p, v) => t.setIfInBounds p v) a.tmps, defers := [] } W)
    (hbody : ∀ (l : Nat) (pre : List α) (x : α) (W : World), I pre W → pre.length < N → body.wpIn (F.inRound l) (n - 1 - 1) P (ownPostG w.heap.size Kp I Ix (pre ++ [x]) W) (a₁ x) W)
    (hdone : ∀ (D : Nat) (xs : List α) (W : World), w.heap.size ≤ D → S xs → I xs W → W.heap[D]? = some (.deferred (some [])) → Q .normal { a with defers := { target := .collected D, args := #[] } :: a.defers } W)
    (hstop : ∀ (D : Nat) (c : Code) (pre : List α) (W : World), w.heap.size ≤ D → Sp pre → Ix c pre W → W.heap[D]? = some (.deferred (some [])) → c.wpIn F n P Q { a with defers := { target := .collected D, args := #[] } :: a.defers } W) :
    (Code.rangeFunc g ps assign body).wpIn F n P Q a w := by
  refine wpIn_rangeFunc fun fn hfn => ?_
  rw [hro]
  obtain ⟨rec, hrec⟩ : ∃ rec : LoopState → Option Code → Loop, rec = fun st pe => { state := st, pending := pe, fn, tmps := a.tmps, params := ps, assign, body, defers := w.heap.size } := ⟨_, rfl⟩
  -- the two blocks of the loop's own
  obtain ⟨V, hV⟩ : ∃ V, (w.alloc (.deferred (some []))).alloc (.loop (rec .ready none)) = V := ⟨_, rfl⟩
  have lRec : V.heap[w.heap.size + 1]? = some (.loop (rec .ready none)) := by
    have := World.alloc_heap_new (w.alloc (.deferred (some []))) (.loop (rec .ready none))
    rw [hV, World.size_alloc] at this
    exact this
  have lDef : V.heap[w.heap.size]? = some (.deferred (some [])) := by
    rw [← hV]
    exact (Below.heap_alloc _ _ _ (by simp)).trans (World.alloc_heap_new w _)
  have iV : I [] V := by
    rw [← hV]
    exact hI.alloc _ (hI.alloc _ h0)
  have bV : Below w0.heap.size w0 V := by
    rw [← hV]
    exact hb0.trans ((((Below.refl _ w).alloc (Nat.le_refl _) _).alloc (by simp) _).mono hb0.size)
  refine ⟨w.heap.size + 1, [{ target := .collected w.heap.size, args := #[] }], V, { target := .fn (.func gf) lb, args := #[.func (.yield (w.heap.size + 1)) #[] #[]] }, V, gf,
    #[.func (.yield (w.heap.size + 1)) #[] #[]] ++ lb, V, ?enter, ?resolve, ?leads, ?invoke, fun _ => h1, ?run⟩
  case enter => rw [← hV, hrec]; exact run_enterLoop_outer _ _ _ _ _
  case resolve =>
    simp only [resolve, hg]
    simp [go_sem]
  case leads =>
    intro f' hf'
    simp [Target.leads] at hf'
    subst hf'
    exact hFg
  case invoke => simp [invoke, go_sem, eg]
  case run =>
    refine (hseq (w.heap.size + 1)
      (fun pre W => I pre W ∧ W.heap[w.heap.size + 1]? = some (.loop (rec .ready none)) ∧ W.heap[w.heap.size]? = some (.deferred (some [])))
      (fun pre W => ∃ c, Ix c pre W ∧ W.heap[w.heap.size + 1]? = some (.loop (rec .done (some c))) ∧ W.heap[w.heap.size]? = some (.deferred (some [])))
      V bV
      (fun s A B hs hst => ⟨hIS s A B hs.1 hst, hSt A B _ _ hst (by omega) hs.2.1 rfl, hSt A B _ _ hst (Nat.le_refl _) hs.2.2 rfl⟩)
      (fun s A B hs hst => by
        obtain ⟨c, hc, hl, hk⟩ := hs
        exact ⟨c, hIxS c s A B hc hst, hSt A B _ _ hst (by omega) hl rfl, hSt A B _ _ hst (Nat.le_refl _) hk rfl⟩)
      ?round ⟨iV, lRec, lDef⟩).mono ?after
    case round =>
      rintro pre x W ⟨hi, hl, hk⟩ hlen
      have hlt : w.heap.size + 1 < W.heap.size := (Array.getElem?_eq_some_iff.1 hl).1
      have hy := run_yield (P := P) (args := encs x) hl (by rw [hrec]; exact hps x)
      rw [hrec] at hy
      refine ⟨fn, _, assign, body, hy, roundIn_of_wpIn hfn (hassign _ x W _ ⟨_, run_beginRound hl (by rw [hrec]), ?_⟩)⟩
      obtain ⟨U, hU⟩ : ∃ U, W.putObj (w.heap.size + 1) (.loop { rec .ready none with state := .busy }) = U := ⟨_, rfl⟩
      have uRec : U.heap[w.heap.size + 1]? = some (.loop { rec .ready none with state := .busy }) := by rw [← hU]; exact World.putObj_heap_same hlt
      have uDef : U.heap[w.heap.size]? = some (.deferred (some [])) := by rw [← hU]; exact (World.putObj_heap_other (by omega)).trans hk
      have uKp : Kp W U := by rw [← hU]; exact hKb _ _ _ _ (by omega) hl rfl rfl
      have uI : I pre U := by rw [← hU]; exact hI.putObj _ hi (by omega) hl rfl
      rw [hU]
      have fin : ∀ (jump : Option Code) (Z : World), KeepsFrom w.heap.size U Z →
          (Instr.endRound (w.heap.size + 1) jump).run P Z = .ok (.bool jump.isNone) (Z.putObj (w.heap.size + 1) (.loop (rec (if jump.isNone then .ready else .done) jump))) ∧
          Z.heap[w.heap.size + 1]? = some (.loop { rec .ready none with state := .busy }) ∧
          (Z.putObj (w.heap.size + 1) (.loop (rec (if jump.isNone then .ready else .done) jump))).heap[w.heap.size + 1]? = some (.loop (rec (if jump.isNone then .ready else .done) jump)) ∧
          (Z.putObj (w.heap.size + 1) (.loop (rec (if jump.isNone then .ready else .done) jump))).heap[w.heap.size]? = some (.deferred (some [])) := fun jump Z hz => by
        have zl := hz.same _ _ (by omega) uRec rfl
        have := run_endRound (P := P) jump zl
        rw [hrec] at this ⊢
        exact ⟨this, by rw [hrec] at zl; exact zl, World.putObj_heap_same (Array.getElem?_eq_some_iff.1 zl).1, (World.putObj_heap_other (by omega)).trans (hz.same _ _ (Nat.le_refl _) uDef rfl)⟩
      have leave : ∀ (c : Code) (Z : World), KeepsFrom w.heap.size U Z → Ix c (pre ++ [x]) Z → ∃ (u : World), (Instr.endRound (w.heap.size + 1) (some c)).run P Z = .ok (.bool false) u ∧
          Ix c (pre ++ [x]) u ∧ u.heap[w.heap.size + 1]? = some (.loop (rec .done (some c))) ∧ u.heap[w.heap.size]? = some (.deferred (some [])) := fun c Z hz hi => by
        obtain ⟨q1, q2, q3, q4⟩ := fin (some c) Z hz
        exact ⟨_, q1, (hIx _).putObj _ hi (by omega) q2 rfl, q3, q4⟩
      refine wpIn_mono (hbody _ pre x _ uI hlen) fun e b Z hp => ?_
      cases e with
      | normal =>
        obtain ⟨hz, hkp, hi3⟩ := hp
        obtain ⟨q1, q2, q3, q4⟩ := fin none Z hz
        exact ⟨_, _, q1, .inl ⟨rfl, ⟨hI.putObj _ hi3 (by omega) q2 rfl, q3, q4⟩, hKt (hKt uKp hkp) (hKb _ _ _ _ (by omega) q2 rfl rfl)⟩⟩
      | ret => obtain ⟨u, q1, q2, q3, q4⟩ := leave _ Z hp.1 hp.2; exact ⟨_, _, q1, .inr ⟨rfl, _, q2, q3, q4⟩⟩
      | exit id => obtain ⟨u, q1, q2, q3, q4⟩ := leave _ Z hp.1 hp.2; exact ⟨_, _, q1, .inr ⟨rfl, _, q2, q3, q4⟩⟩
      | goto t => obtain ⟨u, q1, q2, q3, q4⟩ := leave _ Z hp.1 hp.2; exact ⟨_, _, q1, .inr ⟨rfl, _, q2, q3, q4⟩⟩
      | panic ch => exact hp.elim
      | outgrown => exact hp.elim
    case after =>
      rintro e W2 ⟨⟨v, rfl⟩, (⟨xs, hS, hi, hl, hk⟩ | ⟨pre, hSp, c, hi, hl, hk⟩)⟩
      · refine ⟨none, _, by have := run_endLoop (P := P) hl (by rw [hrec]; simp); rw [hrec] at this; exact this, ?_⟩
        exact hdone _ xs _ (Nat.le_refl _) hS (hI.putObj _ hi (by omega) hl rfl) ((World.putObj_heap_other (by omega)).trans hk)
      · refine ⟨some c, _, by have := run_endLoop (P := P) hl (by rw [hrec]; simp); rw [hrec] at this; exact this, ?_⟩
        exact hstop _ c pre _ (Nat.le_refl _) hSp ((hIx c).putObj _ hi (by omega) hl rfl) ((World.putObj_heap_other (by omega)).trans hk)

end Go.Proofs.YtoofalchkedciaaGreatDoor

namespace Go.Proofs.YtoofalchkedciaaGreatDoor
open Go.RowKit
attribute [local go_sem] Oper.semAt_some

/-- The lines of a text, each with its end. -/
def linesOf : List UInt8 → List (List UInt8)
  | [] => []
  | c :: l => if c = 10 then [10] :: linesOf l else match linesOf l with
    | [] => [[c]]
    | x :: xs => (c :: x) :: xs

theorem lines_some : ∀ (l : List UInt8) (i : Nat), Lib.indexByte l 10 = (i : Int) → linesOf l = l.take (i + 1) :: linesOf (l.drop (i + 1)) ∧ i < l.length := by
  intro l
  induction l with
  | nil => intro i h; simp [Lib.indexByte] at h
  | cons c l ih =>
    intro i h
    by_cases hc : c = 10
    · subst hc
      simp [Lib.indexByte] at h
      have h0 : i = 0 := by omega
      subst h0
      simp [linesOf]
    · have hc' : (c == 10) = false := by simpa using hc
      have hge := Lib.indexByte_ge l 10
      unfold Lib.indexByte at h
      rw [hc'] at h
      by_cases hn : Lib.indexByte l 10 = -1
      · simp [hn] at h
      · have hn' : (Lib.indexByte l 10 == -1) = false := by simpa using hn
        rw [hn'] at h
        simp only [Bool.false_eq_true, if_false] at h
        obtain ⟨j, hj⟩ := Int.eq_ofNat_of_zero_le (show 0 ≤ Lib.indexByte l 10 by omega)
        have hij : i = j + 1 := by omega
        subst hij
        obtain ⟨h1, h2⟩ := ih j hj
        refine ⟨?_, by simp; omega⟩
        rw [linesOf, if_neg hc, h1]
        simp

theorem lines_none : ∀ (l : List UInt8), l ≠ [] → Lib.indexByte l 10 = -1 → linesOf l = [l] := by
  intro l
  induction l with
  | nil => intro h; exact absurd rfl h
  | cons c l ih =>
    intro _ h
    by_cases hc : c = 10
    · subst hc
      simp [Lib.indexByte] at h
    · have hc' : (c == 10) = false := by simpa using hc
      have hge := Lib.indexByte_ge l 10
      unfold Lib.indexByte at h
      rw [hc'] at h
      by_cases hn : Lib.indexByte l 10 = -1
      · rw [linesOf, if_neg hc]
        by_cases h0 : l = []
        · subst h0; simp [linesOf]
        · rw [ih h0 hn]
      · have hn' : (Lib.indexByte l 10 == -1) = false := by simpa using hn
        rw [hn'] at h
        simp only [Bool.false_eq_true, if_false] at h
        omega

theorem lines_mk (n : Nat) (s : ByteArray) (w : World) :
    CallsIn Fence.wide n Tryz.prog 68 #[.string s] w fun e w' => e = .returned (.func (.func 112) #[] #[.pointer (some ⟨w.heap.size, 0, none⟩)]) ∧ w' = w.alloc (.cells #[.string s] 9) := by
  refine callsIn_of_wp Tryz.func68 rfl trivial ?_ rfl
  simp only [Tryz.ntmps68, List.size_toArray, List.length_cons, List.length_nil, Nat.reduceAdd, Nat.reduceSub, Array.replicate_succ, Array.replicate_zero, List.push_toArray, List.append_toArray, List.nil_append, List.cons_append]
  gi_wp2
  go_ret
  exact ⟨rfl, rfl⟩

theorem cells_block {W W' : World} {b : Nat} {vs : List Value} (h : Cells W b vs) (hk : W'.heap[b]? = W.heap[b]?) : Cells W' b vs := fun i v hv =>
  ⟨(World.cell?_of_block (w := W) (a := ⟨b, i, none⟩) hk).trans (h i v hv).1, (World.frozen?_of_block (w := W) (a := ⟨b, i, none⟩) hk).trans (h i v hv).2⟩

/-- What the iterator does between two rounds. -/
def LineStep (B : Nat) (W W' : World) : Prop := Only [B] W W'

set_option maxRecDepth 100000 in
set_option maxHeartbeats 2000000 in
theorem lines_run {α : Type} (encs : α → Array Value) (g : Nat → α) (n l Bs n0 : Nat) (S : List Nat) (bytes : List UInt8) (J Jx : List α → World → Prop) (hlen : bytes.length ≤ 1000000000)
    (hBS : Bs < n0 ∧ Bs ∉ S) (hg : ∀ j x, (linesOf bytes)[j]? = some x → encs (g j) = #[.string ⟨x.toArray⟩]) (hJ : ∀ s A B, J s A → LineStep Bs A B → J s B)
    (hY : ∀ pre x W, J pre W → pre.length < (linesOf bytes).length → YieldAt Fence.wide (n - 1) Tryz.prog l (encs x) W fun e W' =>
      (e = .returned (.bool true) ∧ J (pre ++ [x]) W' ∧ KeepW n0 S W W') ∨ (e = .returned (.bool false) ∧ Jx (pre ++ [x]) W'))
    (W : World) (hBs : Cells W Bs [.string ⟨bytes.toArray⟩]) (h0 : J [] W) :
    CallsIn Fence.wide n Tryz.prog 112 #[.func (.yield l) #[] #[], .pointer (some ⟨Bs, 0, none⟩)] W fun e W' => (∃ v, e = .returned v) ∧
      ((∃ ys, ys = upto g (linesOf bytes).length ∧ J ys W') ∨ (∃ pre, (∃ k, k ≤ (linesOf bytes).length ∧ pre = upto g k) ∧ Jx pre W')) := by
  have HG := Lib.hid hg
  have HJ := Lib.hid hJ
  have HBS := Lib.hid hBS
  clear hg hJ
  refine callsIn_of_wp Tryz.func112 rfl trivial ?_ rfl
  simp only [Tryz.ntmps112, List.size_toArray, List.length_cons, List.length_nil, Nat.reduceAdd, Nat.reduceSub, Array.replicate_succ, Array.replicate_zero, List.push_toArray, List.append_toArray, List.nil_append, List.cons_append]
  gi_wp2
  gi_loopw [3, 4] (fun _ _ wr => ∃ (k : Nat) (r : List UInt8), linesOf r = (linesOf bytes).drop k ∧ r.length ≤ bytes.length ∧ k ≤ (linesOf bytes).length ∧ J (upto g k) wr ∧ Cells wr Bs [.string ⟨r.toArray⟩])
    (fun _ _ wr => match wr.cell? ⟨Bs, 0, none⟩ with | some (.string r) => r.size | _ => 0)
  case atStart => exact ⟨0, bytes, by simp, Nat.le_refl _, Nat.zero_le _, h0, hBs⟩
  case round =>
    obtain ⟨k, r, hr, hrl, hk, hJs, hC⟩ := hrel
    have c0 := hC.cell 0 _ rfl
    have f0 := hC.free 0 _ rfl
    have hz : (⟨r.toArray⟩ : ByteArray).size = r.length := by simp [ByteArray.size]
    have hdl : (⟨r.toArray⟩ : ByteArray).data.toList = r := by simp
    obtain ⟨rb, hrb⟩ : ∃ rb : ByteArray, (⟨r.toArray⟩ : ByteArray) = rb := ⟨_, rfl⟩
    rw [hrb] at c0 hz hdl hC
    have HRB := Lib.hid hrb
    clear hrb
    by_cases hr0 : r = []
    · have hk2 : k = (linesOf bytes).length := by
        rw [hr0] at hr
        have := congrArg List.length hr
        simp [linesOf] at this
        omega
      have hz0 : ¬ 0 < rb.size := by rw [hz, hr0]; simp
      have HK := Lib.hid hk2
      clear hz hdl hr hk2 hr0 hC hrl
      gi_wp2
      go_end0
      exact ⟨⟨_, rfl⟩, .inl ⟨_, rfl, by rw [← HK.out]; exact hJs⟩⟩
    · have hpos : 0 < rb.size := by rw [hz]; exact List.length_pos_iff.2 hr0
      have hklt : k < (linesOf bytes).length := by
        rcases Nat.lt_or_ge k (linesOf bytes).length with h | h
        · exact h
        · rw [List.drop_of_length_le h] at hr
          cases r with
          | nil => exact absurd rfl hr0
          | cons a b =>
            unfold linesOf at hr
            split at hr
            · cases hr
            · split at hr <;> cases hr
      obtain ⟨ix, hix⟩ : ∃ ix, Lib.indexByte r 10 = ix := ⟨_, rfl⟩
      have hge := Lib.indexByte_ge r 10
      rw [hix] at hge
      have hcall : ∀ W, Calls Tryz.prog 113 #[.string rb, .int .u8 10] W fun e w' => e = .returned (.int .i64 ix) ∧ w' = W := fun W => by
        have := Tryz.strings_IndexByte rb 10 W
        rw [hdl, show ((10 : Int).toNat.toUInt8) = (10 : UInt8) from rfl, hix] at this
        exact this
      have HL := Lib.hid (And.intro hr (And.intro hix (And.intro hrl (And.intro hdl hz))))
      have HC := Lib.hid hC
      clear hr hrl hdl hz hC hix
      gi_wp2_with fail
      refine ⟨trivial, fun h => (by simp [Fence.wide] at h), ?_⟩
      refine (callsIn_wide.2 (hcall _)).mono ?_
      rintro e w2 ⟨rfl, rfl⟩
      clear hcall
      by_cases hneg : ix = -1
      · subst hneg
        have hl1 := lines_none r hr0 HL.out.2.1
        have hdrop : (linesOf bytes).drop k = [r] := by rw [← HL.out.1, hl1]
        have hget : (linesOf bytes)[k]? = some r := by
          have := congrArg (fun l => l[0]?) hdrop
          simpa using this
        have hnext : (linesOf bytes).drop (k + 1) = [] := by
          have := congrArg (fun l => l.drop 1) hdrop
          simpa using this
        have hst : LineStep Bs w2 (w2.setCell ⟨Bs, 0, none⟩ (.string ⟨#[]⟩)) := (Only.refl [Bs] w2).setCell (by simp) _
        have hJ1 := HJ.out _ _ _ hJs hst
        obtain ⟨fn, tmps, assign, body, hy, hR⟩ := hY _ (g k) _ hJ1 (by rw [upto_length]; exact hklt)
        rw [HG.out k r hget, HRB.out] at hy
        have hC1 := HC.out.set 0 (.string ⟨#[]⟩)
        have HN := Lib.hid (And.intro hnext hC1)
        clear hl1 hdrop hget hnext hst hJ1 hC1
        gi_wp2_with fail
        refine ⟨fun h => (by simp [Fence.wide] at h), ?_⟩
        refine hR.mono ?_
        rintro e W3 (⟨rfl, hJ3, hk3⟩ | ⟨rfl, hJx3⟩)
        · have hC3 := cells_block HN.out.2 (hk3 Bs hBS.1 hBS.2)
          have m3 := hC3.cell 0 _ rfl
          have HC3 := Lib.hid (And.intro hC3 m3)
          clear hC3 m3
          gi_wp2
          go_roundw
          case rel => exact ⟨k + 1, [], by rw [HN.out.1]; rfl, Nat.zero_le _, by omega, by rw [upto_succ]; exact hJ3, HC3.out.1⟩
          case measure =>
            rw [HC3.out.2, c0]
            exact hpos
        · gi_wp2
          refine bodyPost_ret (results_none rfl _ _ _) rfl ?_
          exact ⟨⟨_, rfl⟩, .inr ⟨_, ⟨k + 1, by omega, (upto_succ _ _).symm⟩, hJx3⟩⟩
      · obtain ⟨i, rfl⟩ := Int.eq_ofNat_of_zero_le (show 0 ≤ ix by omega)
        obtain ⟨hl1, hil⟩ := lines_some r i HL.out.2.1
        have hil : i < rb.size := by rw [HL.out.2.2.2.2]; exact hil
        obtain ⟨x1, hx1⟩ : ∃ x1 : ByteArray, rb.extract 0 (i + 1) = x1 := ⟨_, rfl⟩
        obtain ⟨x2, hx2⟩ : ∃ x2 : ByteArray, rb.extract (i + 1) rb.size = x2 := ⟨_, rfl⟩
        have e1 : x1 = ⟨(r.take (i + 1)).toArray⟩ := by
          rw [← hx1]
          apply ByteArray.ext
          rw [ByteArray.data_extract, ← HRB.out]
          simp
        have e2 : x2 = ⟨(r.drop (i + 1)).toArray⟩ := by
          rw [← hx2]
          apply ByteArray.ext
          rw [ByteArray.data_extract, ← HRB.out]
          simp [ByteArray.size]
          exact List.take_of_length_le (by rw [List.length_drop]; exact Nat.le_refl _)
        have hdrop : (linesOf bytes).drop k = r.take (i + 1) :: linesOf (r.drop (i + 1)) := by rw [← HL.out.1, hl1]
        have hget : (linesOf bytes)[k]? = some (r.take (i + 1)) := by
          have := congrArg (fun l => l[0]?) hdrop
          simpa using this
        have hnext : linesOf (r.drop (i + 1)) = (linesOf bytes).drop (k + 1) := by
          have := congrArg (fun l => l.drop 1) hdrop
          simpa using this.symm
        have hst : LineStep Bs w2 ((w2.setCell ⟨Bs, 0, none⟩ (.string x2)).drew) := ((Only.refl [Bs] w2).setCell (by simp) _).drew
        have hJ1 := HJ.out _ _ _ hJs hst
        obtain ⟨fn, tmps, assign, body, hy, hR⟩ := hY _ (g k) _ hJ1 (by rw [upto_length]; exact hklt)
        rw [HG.out k _ hget, ← e1] at hy
        have hC1 : Cells ((w2.setCell ⟨Bs, 0, none⟩ (.string x2)).drew) Bs [.string x2] := HC.out.set 0 (.string x2)
        have hszx : x2.size < rb.size := by rw [← hx2, ByteArray.size_extract]; omega
        have HN := Lib.hid (And.intro hnext (And.intro hC1 (And.intro e2 hszx)))
        have HX := Lib.hid (And.intro hx1 hx2)
        have hi1 : (i : Int) + 1 ≤ rb.size := by omega
        have hi0 : (0 : Int) ≤ (i : Int) + 1 := by omega
        have hwr : IntKind.i64.wrap ((i : Int) + 1) = (i : Int) + 1 := IntWalk.i64_in _ (by have := HL.out.2.2.1; have := HL.out.2.2.2.2; omega)
        clear hl1 hdrop hget hnext hst hJ1 hC1 e1 e2 hx1 hx2 hszx
        gi_wp2_with fail
        refine wpIn_wide.2 ?_
        go_still_tail 9, (by kernel_rfl)
        rw [HX.out.1, HX.out.2]
        change wpList _ _ _ _ _ w2.drew
        go_wp2_with fail
        gi_wp2_with fail
        refine ⟨fun h => (by simp [Fence.wide] at h), ?_⟩
        refine hR.mono ?_
        rintro e W3 (⟨rfl, hJ3, hk3⟩ | ⟨rfl, hJx3⟩)
        · have hC3 := cells_block HN.out.2.1 (hk3 Bs hBS.1 hBS.2)
          have m3 := hC3.cell 0 _ rfl
          have HC3 := Lib.hid (And.intro hC3 m3)
          clear hC3 m3
          gi_wp2
          go_roundw
          case rel => exact ⟨k + 1, r.drop (i + 1), HN.out.1, by have := HL.out.2.2.1; simp; omega, by omega, by rw [upto_succ]; exact hJ3, by rw [← HN.out.2.2.1]; exact HC3.out.1⟩
          case measure =>
            rw [HC3.out.2, c0]
            exact HN.out.2.2.2
        · gi_wp2
          refine bodyPost_ret (results_none rfl _ _ _) rfl ?_
          exact ⟨⟨_, rfl⟩, .inr ⟨_, ⟨k + 1, by omega, (upto_succ _ _).symm⟩, hJx3⟩⟩

theorem lines_stops {α : Type} (encs : α → Array Value) (g : Nat → α) (n Bs n0 : Nat) (S : List Nat) (bytes : List UInt8) (w : World) (hlen : bytes.length ≤ 1000000000) (hBS : Bs < n0 ∧ Bs ∉ S)
    (hg : ∀ j x, (linesOf bytes)[j]? = some x → encs (g j) = #[.string ⟨x.toArray⟩]) (hBs : Cells w Bs [.string ⟨bytes.toArray⟩]) :
    StopsQ Fence.wide n Tryz.prog 112 #[.pointer (some ⟨Bs, 0, none⟩)] encs (KeepW n0 S) (LineStep Bs) (fun ys => ys = upto g (linesOf bytes).length) (fun pre => ∃ k, k ≤ (linesOf bytes).length ∧ pre = upto g k) (linesOf bytes).length w := fun l J Jx W hW hJ _ hY h0 =>
  lines_run encs g n l Bs n0 S bytes J Jx hlen hBS hg hJ hY W (cells_block hBs (hW.block Bs hBs.lt)) h0

theorem lineStep_keeps {w : World} {B : Nat} (hB : B < w.heap.size) (X Y : World) (k : Nat) (o : Obj) (h : LineStep B X Y) (hk : w.heap.size ≤ k) (ho : X.heap[k]? = some o) (_ : o.isCells = false) : Y.heap[k]? = some o :=
  (h.block k (Array.getElem?_eq_some_iff.1 ho).1 (by simp; omega)).trans ho

end Go.Proofs.YtoofalchkedciaaGreatDoor

namespace Go.Proofs.YtoofalchkedciaaGreatDoor

/-- Which word it is; 0: none. -/
def wordNo (x : List UInt8) : Nat :=
  if x = wordB 1 then 1 else if x = wordB 2 then 2 else if x = wordB 3 then 3 else if x = wordB 4 then 4 else if x = wordB 5 then 5 else if x = wordB 6 then 6 else 0
theorem wordNo_word : ∀ k, 1 ≤ k → k ≤ 6 → wordNo (wordB k) = k
  | 0, h, _ => by omega
  | 1, _, _ => by decide
  | 2, _, _ => by decide
  | 3, _, _ => by decide
  | 4, _, _ => by decide
  | 5, _, _ => by decide
  | 6, _, _ => by decide
  | n + 7, _, h => by omega
theorem word_of {x : List UInt8} (h : wordNo x ≠ 0) : wordB (wordNo x) = x ∧ 1 ≤ wordNo x ∧ wordNo x ≤ 6 := by
  unfold wordNo at h ⊢
  by_cases h1 : x = wordB 1
  · rw [if_pos h1]; exact ⟨h1.symm, by omega, by omega⟩
  rw [if_neg h1] at h ⊢
  by_cases h2 : x = wordB 2
  · rw [if_pos h2]; exact ⟨h2.symm, by omega, by omega⟩
  rw [if_neg h2] at h ⊢
  by_cases h3 : x = wordB 3
  · rw [if_pos h3]; exact ⟨h3.symm, by omega, by omega⟩
  rw [if_neg h3] at h ⊢
  by_cases h4 : x = wordB 4
  · rw [if_pos h4]; exact ⟨h4.symm, by omega, by omega⟩
  rw [if_neg h4] at h ⊢
  by_cases h5 : x = wordB 5
  · rw [if_pos h5]; exact ⟨h5.symm, by omega, by omega⟩
  rw [if_neg h5] at h ⊢
  by_cases h6 : x = wordB 6
  · rw [if_pos h6]; exact ⟨h6.symm, by omega, by omega⟩
  rw [if_neg h6] at h
  exact absurd rfl h
theorem wordNo_le (x : List UInt8) : wordNo x ≤ 6 := by
  by_cases h : wordNo x = 0
  · omega
  · exact (word_of h).2.2
theorem wordNo_iff {x : List UInt8} {k : Nat} (h1 : 1 ≤ k) (h6 : k ≤ 6) : wordNo x = k ↔ x = wordB k := by
  constructor
  · intro h
    have := (word_of (x := x) (by omega)).1
    rw [h] at this
    exact this.symm
  · rintro rfl
    exact wordNo_word k h1 h6
theorem wordB_no32 (k : Nat) : (32 : UInt8) ∉ wordB k := by
  unfold wordB
  match k with
  | 0 | 1 | 2 | 3 | 4 | 5 | 6 => decide
  | n + 7 => simp

/-- The deed of a word and numbers. -/
def ddOf (k : Nat) (ns : List Nat) : Dd := ⟨(k : Int), ((ns[0]?.getD 0 : Nat) : Int), ((ns[1]?.getD 0 : Nat) : Int), ((ns[2]?.getD 0 : Nat) : Int)⟩
/-- What a line comes to. -/
def readD (l : List UInt8) : Option Dd := match cutL 32 l with
  | [] => none
  | x :: r => if wordNo x ≠ 0 ∧ r.length = (ddPlaces (wordNo x : Int)).length ∧ r.all (numOk 2) = true then some (ddOf (wordNo x) (r.map digV)) else none
/-- A deed's line, without its end. -/
def lineD (d : Dd) : List UInt8 := wordB d.what.toNat ++ (ddNums d).flatMap numB
theorem ddText_line (d : Dd) : ddText d = lineD d ++ [10] := rfl

theorem dec_num2 {n : Nat} (h : n < 100) : numOk 2 (Lib.decDigits n) = true ∧ digV (Lib.decDigits n) = n := dec_num rfl (digits_le h)
theorem dec_no (n : Nat) {c : UInt8} (hc : isDig c = false) : c ∉ Lib.decDigits n := dig_not (digV_dec n).2.1 hc

theorem cut_line (d : Dd) : cutL 32 (lineD d) = wordB d.what.toNat :: (ddNums d).map Lib.decDigits := by
  have h := cutL_join 32 ((ddNums d).map Lib.decDigits) (wordB d.what.toNat) (wordB_no32 _) (fun y hy => by
    obtain ⟨n, _, rfl⟩ := List.mem_map.1 hy
    exact dec_no n (by decide))
  rw [List.flatMap_map] at h
  exact h
/-- The fields of a deed that is right say what it is. -/
theorem ddOf_nums {d : Dd} (h : ddFault d = 0) : ddOf d.what.toNat (ddNums d) = d := by
  have hr := dd_right h
  obtain ⟨a, b, c, e⟩ := d
  simp only at hr
  unfold ddNums ddPlaces ddOf
  simp only
  by_cases h5 : a = 5 ∨ a = 6
  · rw [if_pos h5]
    have hc : c = 0 := by omega
    have he : e = 0 := by omega
    subst hc he
    simp [ddField]
    try omega
  · rw [if_neg h5]
    by_cases h2 : a = 2
    · rw [if_pos h2]
      simp [ddField]
      try omega
    · rw [if_neg h2]
      have he : e = 0 := by omega
      subst he
      simp [ddField]
      try omega
/-- What is printed is read as it was. -/
theorem read_line {d : Dd} (h : ddFault d = 0) : readD (lineD d) = some d := by
  have hr := dd_right h
  have hn := ddNums_lt h
  unfold readD
  rw [cut_line]
  have hw : wordNo (wordB d.what.toNat) = d.what.toNat := wordNo_word _ (by omega) (by omega)
  have ha : ((ddNums d).map Lib.decDigits).all (numOk 2) = true := by
    rw [List.all_eq_true]
    intro x hx
    obtain ⟨n, hm, rfl⟩ := List.mem_map.1 hx
    exact (dec_num2 (by have := hn n hm; omega)).1
  have hv : ((ddNums d).map Lib.decDigits).map digV = ddNums d := by
    rw [List.map_map]
    have : ∀ l : List Nat, (∀ n ∈ l, n < 30) → l.map (digV ∘ Lib.decDigits) = l := by
      intro l
      induction l with
      | nil => intro _; rfl
      | cons n l ih =>
        intro hl
        rw [List.map_cons, ih (fun x hx => hl x (by simp [hx]))]
        show digV (Lib.decDigits n) :: l = n :: l
        rw [(dec_num2 (n := n) (by have := hl n (by simp); omega)).2]
    exact this _ hn
  simp only
  have hlen : ((ddNums d).map Lib.decDigits).length = (ddPlaces ((d.what.toNat : Nat) : Int)).length := by
    rw [show ((d.what.toNat : Nat) : Int) = d.what by omega]
    simp [ddNums]
  rw [hw, hv, ddOf_nums h, if_pos ⟨by omega, hlen, ha⟩]
theorem ddOf_nums_of {k : Nat} {ns : List Nat} (hl : ns.length = (ddPlaces (k : Int)).length) : ddNums (ddOf k ns) = ns := by
  have hp : ddNums (ddOf k ns) = (ddPlaces (k : Int)).map (ddField (ddOf k ns)) := rfl
  rw [hp]
  have hc : ddPlaces (k : Int) = [1] ∨ ddPlaces (k : Int) = [1, 2, 3] ∨ ddPlaces (k : Int) = [1, 2] := by
    unfold ddPlaces
    split
    · exact .inl rfl
    · split
      · exact .inr (.inl rfl)
      · exact .inr (.inr rfl)
  rcases hc with hc | hc | hc
  · rw [hc] at hl ⊢
    match ns, hl with
    | [a], _ => simp [ddField, ddOf]
  · rw [hc] at hl ⊢
    match ns, hl with
    | [a, b, c], _ => simp [ddField, ddOf]
  · rw [hc] at hl ⊢
    match ns, hl with
    | [a, b], _ => simp [ddField, ddOf]
/-- .. and what is read is printed as it was. -/
theorem text_line {l : List UInt8} {d : Dd} (h : readD l = some d) : lineD d = l := by
  unfold readD at h
  cases hc : cutL 32 l with
  | nil => exact absurd hc (cutL_ne _ _)
  | cons x r =>
    rw [hc] at h
    simp only at h
    split at h
    · rename_i hx
      obtain ⟨w0, wl, wa⟩ := hx
      obtain rfl := Option.some.inj h
      obtain ⟨e1, e2, e3⟩ := word_of w0
      have hj := join_cutL 32 l x r hc
      unfold lineD
      rw [ddOf_nums_of (by rw [List.length_map]; exact wl)]
      show wordB ((wordNo x : Int)).toNat ++ _ = _
      rw [show ((wordNo x : Int)).toNat = wordNo x by omega, e1, hj]
      congr 1
      rw [List.flatMap_map]
      have : ∀ q : List (List UInt8), q.all (numOk 2) = true → (q.flatMap fun y => numB (digV y)) = q.flatMap fun y => 32 :: y := by
        intro q
        induction q with
        | nil => intro _; rfl
        | cons y q ih =>
          intro hq
          simp only [List.all_cons, Bool.and_eq_true] at hq
          rw [List.flatMap_cons, List.flatMap_cons, ih hq.2]
          unfold numB
          rw [num_dec hq.1]
      exact this _ wa
    · cases h
theorem read_bounds {l : List UInt8} {d : Dd} (h : readD l = some d) : ddWf d := by
  unfold readD at h
  cases hc : cutL 32 l with
  | nil => exact absurd hc (cutL_ne _ _)
  | cons x r =>
    rw [hc] at h
    simp only at h
    split at h
    · rename_i hx
      obtain ⟨w0, _, wa⟩ := hx
      obtain rfl := Option.some.inj h
      obtain ⟨_, e2, e3⟩ := word_of w0
      have hb : ∀ i : Nat, ((r.map digV)[i]?.getD 0) < 100 := by
        intro i
        by_cases hi : i < (r.map digV).length
        · rw [List.getElem?_eq_getElem hi]
          simp only [Option.getD_some, List.getElem_map]
          have hm : r[i]'(by simpa using hi) ∈ r := List.getElem_mem _
          obtain ⟨_, k2, k3, _⟩ := numOk_iff.1 (List.all_eq_true.1 wa _ hm)
          have k4 := digV_pow _ k3
          have k5 : 10 ^ (r[i]'(by simpa using hi)).length ≤ 10 ^ 2 := Nat.pow_le_pow_right (by omega) k2
          omega
        · rw [List.getElem?_eq_none (by omega)]; simp
      have h0 := hb 0
      have h1 := hb 1
      have h2 := hb 2
      have key : ∀ n : Nat, n < 100 → (Lit.int .i64 (n : Int)).wf = true := by
        intro n hn
        have e1 : IntKind.i64.min = -9223372036854775808 := rfl
        have e2 : IntKind.i64.max = 9223372036854775807 := rfl
        simp only [Lit.wf, Bool.and_eq_true, decide_eq_true_eq, e1, e2]
        omega
      exact ⟨key _ (by omega), key _ h0, key _ h1, key _ h2⟩
    · cases h

/-- A line with its end. -/
def readE (l : List UInt8) : Option Dd := if l.getLast? = some 10 then readD l.dropLast else none
theorem readE_line (l : List UInt8) : readE (l ++ [10]) = readD l := by simp [readE]
def readDs : List (List UInt8) → Option (List Dd)
  | [] => some []
  | x :: r => match readE x, readDs r with
    | some d, some q => some (d :: q)
    | _, _ => none
theorem readDs_snoc : ∀ {l : List (List UInt8)} {q : List Dd} {x : List UInt8} {d : Dd}, readDs l = some q → readE x = some d → readDs (l ++ [x]) = some (q ++ [d])
  | [], q, x, d, h, hx => by
    obtain rfl := Option.some.inj h
    show readDs [x] = _
    unfold readDs
    rw [hx]
    rfl
  | y :: l, q, x, d, h, hx => by
    unfold readDs at h
    split at h
    · rename_i a b h1 h2
      obtain rfl := Option.some.inj h
      rw [List.cons_append]
      unfold readDs
      rw [h1, readDs_snoc h2 hx]
      rfl
    · cases h
theorem readDs_none : ∀ {l : List (List UInt8)} {x : List UInt8}, x ∈ l → readE x = none → readDs l = none
  | y :: l, x, h, hx => by
    unfold readDs
    rcases List.mem_cons.1 h with rfl | h
    · rw [hx]
    · rw [readDs_none h hx]
      cases readE y <;> rfl
theorem text_readE {l : List UInt8} {d : Dd} (h : readE l = some d) : ddText d = l ∧ ddWf d := by
  unfold readE at h
  split at h
  · rename_i hl
    refine ⟨?_, read_bounds h⟩
    rw [ddText_line, text_line h]
    obtain ⟨ys, hy⟩ := List.getLast?_eq_some_iff.1 hl
    rw [hy]
    simp
  · cases h
theorem text_readDs : ∀ {r : List (List UInt8)} {q : List Dd}, readDs r = some q → q.map ddText = r ∧ (∀ d ∈ q, ddWf d) ∧ q.length = r.length
  | [], q, h => by
    obtain rfl := Option.some.inj h
    exact ⟨rfl, by simp, rfl⟩
  | x :: r, q, h => by
    unfold readDs at h
    split at h
    · rename_i d b h1 h2
      obtain rfl := Option.some.inj h
      obtain ⟨a1, a2⟩ := text_readE h1
      obtain ⟨b1, b2, b3⟩ := text_readDs h2
      refine ⟨by rw [List.map_cons, a1, b1], fun y hy => ?_, by simp [b3]⟩
      rcases List.mem_cons.1 hy with rfl | hy
      · exact a2
      · exact b2 y hy
    · cases h
theorem flat_lines : ∀ (l : List UInt8), (linesOf l).flatten = l
  | [] => rfl
  | c :: l => by
    have ih := flat_lines l
    unfold linesOf
    split
    · rename_i h
      rw [List.flatten_cons, ih, h]
      rfl
    · cases hl : linesOf l with
      | nil =>
        rw [hl] at ih
        simp only [List.flatten_nil] at ih
        rw [← ih]
        rfl
      | cons x xs =>
        rw [hl] at ih
        simp only [List.flatten_cons] at ih ⊢
        rw [List.cons_append, ih]
/-- What a text of deeds is read as. -/
def readDT (t : List UInt8) : Option (List Dd) := readDs (linesOf t)
theorem text_readDT {t : List UInt8} {q : List Dd} (h : readDT t = some q) : ddsText q = t ∧ (∀ d ∈ q, ddWf d) ∧ q.length = (linesOf t).length := by
  obtain ⟨h1, h2, h3⟩ := text_readDs h
  refine ⟨?_, h2, h3⟩
  have := flat_lines t
  rw [← h1] at this
  rw [← this]
  unfold ddsText
  rw [List.flatMap_def]
theorem line_cons' (d : List UInt8) (h : (10 : UInt8) ∉ d) (r : List UInt8) : linesOf (d ++ 10 :: r) = (d ++ [10]) :: linesOf r := by
  induction d with
  | nil => simp [linesOf]
  | cons a d ih =>
    have ha : a ≠ 10 := fun e => h (by simp [e])
    have := ih (fun hm => h (by simp [hm]))
    show linesOf (a :: (d ++ 10 :: r)) = _
    rw [linesOf, if_neg ha, this]
    simp
theorem lineD_no10 (d : Dd) : (10 : UInt8) ∉ lineD d := by
  unfold lineD
  intro h
  rcases List.mem_append.1 h with h | h
  · exact wordB_no10 _ h
  · obtain ⟨n, _, hn⟩ := List.mem_flatMap.1 h
    rcases List.mem_cons.1 hn with hn | hn
    · revert hn; decide
    · exact dec_no n (by decide) hn
theorem lines_dds : ∀ (l : List Dd), linesOf (ddsText l) = l.map ddText
  | [] => rfl
  | d :: l => by
    have e : ddsText (d :: l) = lineD d ++ 10 :: ddsText l := by simp [ddsText, ddText_line]
    rw [e, line_cons' _ (lineD_no10 d), lines_dds l]
    rfl
theorem read_dds {l : List Dd} (h : ∀ d ∈ l, ddFault d = 0) : readDT (ddsText l) = some l := by
  unfold readDT
  rw [lines_dds]
  induction l with
  | nil => rfl
  | cons d l ih =>
    rw [List.map_cons]
    unfold readDs
    rw [ddText_line, readE_line, read_line (h d (by simp)), ih (fun x hx => h x (by simp [hx]))]

/-- A text's lines are what it is cut into. -/
theorem lines_cut : ∀ (l : List UInt8), linesOf l = ((cutL 10 l).dropLast.map (· ++ [10])) ++ (if (cutL 10 l).getLast (cutL_ne 10 l) = [] then [] else [(cutL 10 l).getLast (cutL_ne 10 l)])
  | [] => by simp [linesOf, cutL]
  | c :: l => by
    have ih := lines_cut l
    have hne := cutL_ne 10 l
    by_cases hc : c = 10
    · have e : cutL 10 (c :: l) = [] :: cutL 10 l := by
        conv => lhs; unfold cutL
        rw [if_pos hc]
      rw [linesOf, if_pos hc, ih]
      have e1 : (cutL 10 (c :: l)).dropLast = [] :: (cutL 10 l).dropLast := by rw [e, List.dropLast_cons_of_ne_nil hne]
      have e2 : (cutL 10 (c :: l)).getLast (cutL_ne 10 (c :: l)) = (cutL 10 l).getLast hne := by
        simp only [e]
        exact List.getLast_cons hne
      rw [e1, e2]
      rfl
    · obtain ⟨p, r, hpr⟩ : ∃ p r, cutL 10 l = p :: r := by
        cases hx : cutL 10 l with
        | nil => exact absurd hx hne
        | cons p r => exact ⟨p, r, rfl⟩
      have e : cutL 10 (c :: l) = (c :: p) :: r := by
        conv => lhs; unfold cutL
        rw [if_neg hc, hpr]
      rw [linesOf, if_neg hc]
      simp only [hpr] at ih
      simp only [e]
      cases r with
      | nil =>
        have e1 : linesOf l = if p = [] then [] else [p] := by
          rw [ih]
          by_cases hp : p = []
          · rw [if_pos hp, if_pos (by simpa using hp)]; rfl
          · rw [if_neg hp, if_neg (by simpa using hp)]; rfl
        have e2 : (if [c :: p].getLast (by simp) = [] then ([] : List (List UInt8)) else [[c :: p].getLast (by simp)]) = [c :: p] := by
          rw [if_neg (by simp)]; rfl
        rw [e1, e2]
        by_cases hp : p = []
        · subst hp; rfl
        · rw [if_neg hp]; rfl
      | cons a r =>
        rw [List.dropLast_cons_of_ne_nil (by simp), List.getLast_cons (by simp)] at ih ⊢
        rw [ih]
        rfl
theorem readDs_map (r : List (List UInt8)) : readDs (r.map (· ++ [10])) = r.mapM readD := by
  induction r with
  | nil => rfl
  | cons x r ih =>
    rw [List.map_cons, List.mapM_cons]
    unfold readDs
    rw [readE_line, ih]
    cases readD x with
    | none => rfl
    | some d => cases r.mapM readD <;> rfl
/-- .. so that a text is read piece by piece. -/
theorem readDT_cut (t : List UInt8) : readDT t = if (cutL 10 t).getLast (cutL_ne 10 t) = [] then (cutL 10 t).dropLast.mapM readD else none := by
  unfold readDT
  rw [lines_cut]
  split
  · rw [List.append_nil, readDs_map]
  · rename_i h
    refine readDs_none (x := (cutL 10 t).getLast (cutL_ne 10 t)) (by simp) ?_
    unfold readE
    rw [if_neg]
    intro e
    exact cutL_free 10 t _ (List.getLast_mem (cutL_ne 10 t)) (List.mem_of_getLast? e)

/-- What Parse answers. -/
def dparseF (t : List UInt8) : Int := match readDT t with
  | none => 2
  | some q => ddsFault q
theorem dparseF_some {t : List UInt8} {q : List Dd} (h : readDT t = some q) : dparseF t = ddsFault q := by unfold dparseF; rw [h]
theorem dparseF_none {t : List UInt8} (h : readDT t = none) : dparseF t = 2 := by unfold dparseF; rw [h]

end Go.Proofs.YtoofalchkedciaaGreatDoor
