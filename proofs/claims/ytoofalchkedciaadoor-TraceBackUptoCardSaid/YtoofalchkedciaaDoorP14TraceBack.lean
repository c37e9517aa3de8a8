/-
  Contract of strings.Lines.
-/
import Derived.Test.YtoofalchkedciaaDoorP13TraceBack
import Derived.Test.YtoofalchkedciaaDoorP7TraceBack
import Derived.Lib.IndexLaws
import Derived.StillTailTactics
namespace Go.Proofs.YtoofalchkedciaaDoor
open Go.RowKit
attribute [local go_sem] Oper.semAt_some

/-- The lines of a text, each with its end. -/
def linesOf : List UInt8 → List (List UInt8)
  | [] => []
  | c :: l => if c = 10 then [10] :: linesOf l else match linesOf l with
    | [] => [[c]]
    | x :: xs => (c :: x) :: xs

theorem lines_some : ∀ (l : List UInt8) (i : Nat), Lib.indexByte l 10 = (i : Int) → linesOf l = l.take (i + 1) :: linesOf (l.drop (i + 1)) ∧ i < l.length := by
  intro l
  induction l with
  | nil => intro i h; simp [Lib.indexByte] at h
  | cons c l ih =>
    intro i h
    by_cases hc : c = 10
    · subst hc
      simp [Lib.indexByte] at h
      have h0 : i = 0 := by omega
      subst h0
      simp [linesOf]
    · have hc' : (c == 10) = false := by simpa using hc
      have hge := Lib.indexByte_ge l 10
      unfold Lib.indexByte at h
      rw [hc'] at h
      by_cases hn : Lib.indexByte l 10 = -1
      · simp [hn] at h
      · have hn' : (Lib.indexByte l 10 == -1) = false := by simpa using hn
        rw [hn'] at h
        simp only [Bool.false_eq_true, if_false] at h
        obtain ⟨j, hj⟩ := Int.eq_ofNat_of_zero_le (show 0 ≤ Lib.indexByte l 10 by omega)
        have hij : i = j + 1 := by omega
        subst hij
        obtain ⟨h1, h2⟩ := ih j hj
        refine ⟨?_, by simp; omega⟩
        rw [linesOf, if_neg hc, h1]
        simp

theorem lines_none : ∀ (l : List UInt8), l ≠ [] → Lib.indexByte l 10 = -1 → linesOf l = [l] := by
  intro l
  induction l with
  | nil => intro h; exact absurd rfl h
  | cons c l ih =>
    intro _ h
    by_cases hc : c = 10
    · subst hc
      simp [Lib.indexByte] at h
    · have hc' : (c == 10) = false := by simpa using hc
      have hge := Lib.indexByte_ge l 10
      unfold Lib.indexByte at h
      rw [hc'] at h
      by_cases hn : Lib.indexByte l 10 = -1
      · rw [linesOf, if_neg hc]
        by_cases h0 : l = []
        · subst h0; simp [linesOf]
        · rw [ih h0 hn]
      · have hn' : (Lib.indexByte l 10 == -1) = false := by simpa using hn
        rw [hn'] at h
        simp only [Bool.false_eq_true, if_false] at h
        omega

theorem lines_mk (n : Nat) (s : ByteArray) (w : World) :
    CallsIn Fence.wide n Tryd.prog 27 #[.string s] w fun e w' => e = .returned (.func (.func 47) #[] #[.pointer (some ⟨w.heap.size, 0, none⟩)]) ∧ w' = w.alloc (.cells #[.string s] 9) := by
  refine callsIn_of_wp Tryd.func27 rfl trivial ?_ rfl
  simp only [Tryd.ntmps27, List.size_toArray, List.length_cons, List.length_nil, Nat.reduceAdd, Nat.reduceSub, Array.replicate_succ, Array.replicate_zero, List.push_toArray, List.append_toArray, List.nil_append, List.cons_append]
  gi_wp2
  go_ret
  exact ⟨rfl, rfl⟩

theorem cells_block {W W' : World} {b : Nat} {vs : List Value} (h : Cells W b vs) (hk : W'.heap[b]? = W.heap[b]?) : Cells W' b vs := fun i v hv =>
  ⟨(World.cell?_of_block (w := W) (a := ⟨b, i, none⟩) hk).trans (h i v hv).1, (World.frozen?_of_block (w := W) (a := ⟨b, i, none⟩) hk).trans (h i v hv).2⟩

/-- What the iterator does between two rounds. -/
def LineStep (B : Nat) (W W' : World) : Prop := Only [B] W W'

set_option maxRecDepth 100000 in
set_option maxHeartbeats 2000000 in
theorem lines_run {α : Type} (encs : α → Array Value) (g : Nat → α) (n l Bs n0 : Nat) (S : List Nat) (bytes : List UInt8) (J Jx : List α → World → Prop) (hlen : bytes.length ≤ 1000000000)
    (hBS : Bs < n0 ∧ Bs ∉ S) (hg : ∀ j x, (linesOf bytes)[j]? = some x → encs (g j) = #[.string ⟨x.toArray⟩]) (hJ : ∀ s A B, J s A → LineStep Bs A B → J s B)
    (hY : ∀ pre x W, J pre W → pre.length < (linesOf bytes).length → YieldAt Fence.wide (n - 1) Tryd.prog l (encs x) W fun e W' =>
      (e = .returned (.bool true) ∧ J (pre ++ [x]) W' ∧ KeepW n0 S W W') ∨ (e = .returned (.bool false) ∧ Jx (pre ++ [x]) W'))
    (W : World) (hBs : Cells W Bs [.string ⟨bytes.toArray⟩]) (h0 : J [] W) :
    CallsIn Fence.wide n Tryd.prog 47 #[.func (.yield l) #[] #[], .pointer (some ⟨Bs, 0, none⟩)] W fun e W' => (∃ v, e = .returned v) ∧
      ((∃ ys, ys = upto g (linesOf bytes).length ∧ J ys W') ∨ (∃ pre, (∃ k, k ≤ (linesOf bytes).length ∧ pre = upto g k) ∧ Jx pre W')) := by
  have HG := Lib.hid hg
  have HJ := Lib.hid hJ
  have HBS := Lib.hid hBS
  clear hg hJ
  refine callsIn_of_wp Tryd.func47 rfl trivial ?_ rfl
  simp only [Tryd.ntmps47, List.size_toArray, List.length_cons, List.length_nil, Nat.reduceAdd, Nat.reduceSub, Array.replicate_succ, Array.replicate_zero, List.push_toArray, List.append_toArray, List.nil_append, List.cons_append]
  gi_wp2
  gi_loopw [3, 4] (fun _ _ wr => ∃ (k : Nat) (r : List UInt8), linesOf r = (linesOf bytes).drop k ∧ r.length ≤ bytes.length ∧ k ≤ (linesOf bytes).length ∧ J (upto g k) wr ∧ Cells wr Bs [.string ⟨r.toArray⟩])
    (fun _ _ wr => match wr.cell? ⟨Bs, 0, none⟩ with | some (.string r) => r.size | _ => 0)
  case atStart => exact ⟨0, bytes, by simp, Nat.le_refl _, Nat.zero_le _, h0, hBs⟩
  case round =>
    obtain ⟨k, r, hr, hrl, hk, hJs, hC⟩ := hrel
    have c0 := hC.cell 0 _ rfl
    have f0 := hC.free 0 _ rfl
    have hz : (⟨r.toArray⟩ : ByteArray).size = r.length := by simp [ByteArray.size]
    have hdl : (⟨r.toArray⟩ : ByteArray).data.toList = r := by simp
    obtain ⟨rb, hrb⟩ : ∃ rb : ByteArray, (⟨r.toArray⟩ : ByteArray) = rb := ⟨_, rfl⟩
    rw [hrb] at c0 hz hdl hC
    have HRB := Lib.hid hrb
    clear hrb
    by_cases hr0 : r = []
    · have hk2 : k = (linesOf bytes).length := by
        rw [hr0] at hr
        have := congrArg List.length hr
        simp [linesOf] at this
        omega
      have hz0 : ¬ 0 < rb.size := by rw [hz, hr0]; simp
      have HK := Lib.hid hk2
      clear hz hdl hr hk2 hr0 hC hrl
      gi_wp2
      go_end0
      exact ⟨⟨_, rfl⟩, .inl ⟨_, rfl, by rw [← HK.out]; exact hJs⟩⟩
    · have hpos : 0 < rb.size := by rw [hz]; exact List.length_pos_iff.2 hr0
      have hklt : k < (linesOf bytes).length := by
        rcases Nat.lt_or_ge k (linesOf bytes).length with h | h
        · exact h
        · rw [List.drop_of_length_le h] at hr
          cases r with
          | nil => exact absurd rfl hr0
          | cons a b =>
            unfold linesOf at hr
            split at hr
            · cases hr
            · split at hr <;> cases hr
      obtain ⟨ix, hix⟩ : ∃ ix, Lib.indexByte r 10 = ix := ⟨_, rfl⟩
      have hge := Lib.indexByte_ge r 10
      rw [hix] at hge
      have hcall : ∀ W, Calls Tryd.prog 48 #[.string rb, .int .u8 10] W fun e w' => e = .returned (.int .i64 ix) ∧ w' = W := fun W => by
        have := Tryd.strings_IndexByte rb 10 W
        rw [hdl, show ((10 : Int).toNat.toUInt8) = (10 : UInt8) from rfl, hix] at this
        exact this
      have HL := Lib.hid (And.intro hr (And.intro hix (And.intro hrl (And.intro hdl hz))))
      have HC := Lib.hid hC
      clear hr hrl hdl hz hC hix
      gi_wp2_with fail
      refine ⟨trivial, fun h => (by simp [Fence.wide] at h), ?_⟩
      refine (callsIn_wide.2 (hcall _)).mono ?_
      rintro e w2 ⟨rfl, rfl⟩
      clear hcall
      by_cases hneg : ix = -1
      · subst hneg
        have hl1 := lines_none r hr0 HL.out.2.1
        have hdrop : (linesOf bytes).drop k = [r] := by rw [← HL.out.1, hl1]
        have hget : (linesOf bytes)[k]? = some r := by
          have := congrArg (fun l => l[0]?) hdrop
          simpa using this
        have hnext : (linesOf bytes).drop (k + 1) = [] := by
          have := congrArg (fun l => l.drop 1) hdrop
          simpa using this
        have hst : LineStep Bs w2 (w2.setCell ⟨Bs, 0, none⟩ (.string ⟨#[]⟩)) := (Only.refl [Bs] w2).setCell (by simp) _
        have hJ1 := HJ.out _ _ _ hJs hst
        obtain ⟨fn, tmps, assign, body, hy, hR⟩ := hY _ (g k) _ hJ1 (by rw [upto_length]; exact hklt)
        rw [HG.out k r hget, HRB.out] at hy
        have hC1 := HC.out.set 0 (.string ⟨#[]⟩)
        have HN := Lib.hid (And.intro hnext hC1)
        clear hl1 hdrop hget hnext hst hJ1 hC1
        gi_wp2_with fail
        refine ⟨fun h => (by simp [Fence.wide] at h), ?_⟩
        refine hR.mono ?_
        rintro e W3 (⟨rfl, hJ3, hk3⟩ | ⟨rfl, hJx3⟩)
        · have hC3 := cells_block HN.out.2 (hk3 Bs hBS.1 hBS.2)
          have m3 := hC3.cell 0 _ rfl
          have HC3 := Lib.hid (And.intro hC3 m3)
          clear hC3 m3
          gi_wp2
          go_roundw
          case rel => exact ⟨k + 1, [], by rw [HN.out.1]; rfl, Nat.zero_le _, by omega, by rw [upto_succ]; exact hJ3, HC3.out.1⟩
          case measure =>
            rw [HC3.out.2, c0]
            exact hpos
        · gi_wp2
          refine bodyPost_ret (results_none rfl _ _ _) rfl ?_
          exact ⟨⟨_, rfl⟩, .inr ⟨_, ⟨k + 1, by omega, (upto_succ _ _).symm⟩, hJx3⟩⟩
      · obtain ⟨i, rfl⟩ := Int.eq_ofNat_of_zero_le (show 0 ≤ ix by omega)
        obtain ⟨hl1, hil⟩ := lines_some r i HL.out.2.1
        have hil : i < rb.size := by rw [HL.out.2.2.2.2]; exact hil
        obtain ⟨x1, hx1⟩ : ∃ x1 : ByteArray, rb.extract 0 (i + 1) = x1 := ⟨_, rfl⟩
        obtain ⟨x2, hx2⟩ : ∃ x2 : ByteArray, rb.extract (i + 1) rb.size = x2 := ⟨_, rfl⟩
        have e1 : x1 = ⟨(r.take (i + 1)).toArray⟩ := by
          rw [← hx1]
          apply ByteArray.ext
          rw [ByteArray.data_extract, ← HRB.out]
          simp
        have e2 : x2 = ⟨(r.drop (i + 1)).toArray⟩ := by
          rw [← hx2]
          apply ByteArray.ext
          rw [ByteArray.data_extract, ← HRB.out]
          simp [ByteArray.size]
          exact List.take_of_length_le (by rw [List.length_drop]; exact Nat.le_refl _)
        have hdrop : (linesOf bytes).drop k = r.take (i + 1) :: linesOf (r.drop (i + 1)) := by rw [← HL.out.1, hl1]
        have hget : (linesOf bytes)[k]? = some (r.take (i + 1)) := by
          have := congrArg (fun l => l[0]?) hdrop
          simpa using this
        have hnext : linesOf (r.drop (i + 1)) = (linesOf bytes).drop (k + 1) := by
          have := congrArg (fun l => l.drop 1) hdrop
          simpa using this.symm
        have hst : LineStep Bs w2 ((w2.setCell ⟨Bs, 0, none⟩ (.string x2)).drew) := ((Only.refl [Bs] w2).setCell (by simp) _).drew
        have hJ1 := HJ.out _ _ _ hJs hst
        obtain ⟨fn, tmps, assign, body, hy, hR⟩ := hY _ (g k) _ hJ1 (by rw [upto_length]; exact hklt)
        rw [HG.out k _ hget, ← e1] at hy
        have hC1 : Cells ((w2.setCell ⟨Bs, 0, none⟩ (.string x2)).drew) Bs [.string x2] := HC.out.set 0 (.string x2)
        have hszx : x2.size < rb.size := by rw [← hx2, ByteArray.size_extract]; omega
        have HN := Lib.hid (And.intro hnext (And.intro hC1 (And.intro e2 hszx)))
        have HX := Lib.hid (And.intro hx1 hx2)
        have hi1 : (i : Int) + 1 ≤ rb.size := by omega
        have hi0 : (0 : Int) ≤ (i : Int) + 1 := by omega
        have hwr : IntKind.i64.wrap ((i : Int) + 1) = (i : Int) + 1 := IntWalk.i64_in _ (by have := HL.out.2.2.1; have := HL.out.2.2.2.2; omega)
        clear hl1 hdrop hget hnext hst hJ1 hC1 e1 e2 hx1 hx2 hszx
        gi_wp2_with fail
        refine wpIn_wide.2 ?_
        go_still_tail 9, (by kernel_rfl)
        rw [HX.out.1, HX.out.2]
        change wpList _ _ _ _ _ w2.drew
        go_wp2_with fail
        gi_wp2_with fail
        refine ⟨fun h => (by simp [Fence.wide] at h), ?_⟩
        refine hR.mono ?_
        rintro e W3 (⟨rfl, hJ3, hk3⟩ | ⟨rfl, hJx3⟩)
        · have hC3 := cells_block HN.out.2.1 (hk3 Bs hBS.1 hBS.2)
          have m3 := hC3.cell 0 _ rfl
          have HC3 := Lib.hid (And.intro hC3 m3)
          clear hC3 m3
          gi_wp2
          go_roundw
          case rel => exact ⟨k + 1, r.drop (i + 1), HN.out.1, by have := HL.out.2.2.1; simp; omega, by omega, by rw [upto_succ]; exact hJ3, by rw [← HN.out.2.2.1]; exact HC3.out.1⟩
          case measure =>
            rw [HC3.out.2, c0]
            exact HN.out.2.2.2
        · gi_wp2
          refine bodyPost_ret (results_none rfl _ _ _) rfl ?_
          exact ⟨⟨_, rfl⟩, .inr ⟨_, ⟨k + 1, by omega, (upto_succ _ _).symm⟩, hJx3⟩⟩

theorem lines_stops {α : Type} (encs : α → Array Value) (g : Nat → α) (n Bs n0 : Nat) (S : List Nat) (bytes : List UInt8) (w : World) (hlen : bytes.length ≤ 1000000000) (hBS : Bs < n0 ∧ Bs ∉ S)
    (hg : ∀ j x, (linesOf bytes)[j]? = some x → encs (g j) = #[.string ⟨x.toArray⟩]) (hBs : Cells w Bs [.string ⟨bytes.toArray⟩]) :
    StopsQ Fence.wide n Tryd.prog 47 #[.pointer (some ⟨Bs, 0, none⟩)] encs (KeepW n0 S) (LineStep Bs) (fun ys => ys = upto g (linesOf bytes).length) (fun pre => ∃ k, k ≤ (linesOf bytes).length ∧ pre = upto g k) (linesOf bytes).length w := fun l J Jx W hW hJ _ hY h0 =>
  lines_run encs g n l Bs n0 S bytes J Jx hlen hBS hg hJ hY W (cells_block hBs (hW.block Bs hBs.lt)) h0

theorem lineStep_keeps {w : World} {B : Nat} (hB : B < w.heap.size) (X Y : World) (k : Nat) (o : Obj) (h : LineStep B X Y) (hk : w.heap.size ≤ k) (ho : X.heap[k]? = some o) (_ : o.isCells = false) : Y.heap[k]? = some o :=
  (h.block k (Array.getElem?_eq_some_iff.1 ho).1 (by simp; omega)).trans ho

end Go.Proofs.YtoofalchkedciaaDoor
