/-
  The library's symMerge, whole; its stable sort of at most 40.
  The library's stable sort of at most 30, by way of list.Urgent's comparison.
  Contract of slices.SortStableFunc, of at most 30 ints, by way of list.Urgent's comparison.
  slices.SortStableFunc of an empty row.
  Ranges over functions: what a round keeps; the imports of such walks. No program is named here.
  Contract of slices.Backward over a slice of ints.
  Regions that draw their order, in a round of a range over a function: reads first, then one thing that writes. No program is named here.
-/
import Derived.Test.YtocpmncedlenbaaGreatDoorP28TopWeave
import Derived.Test.YtocpmncedlenbaaGreatDoorP1TopWeave
import Derived.RangeFuncNested
import Derived.RangeFuncBound
import Derived.RangeFuncCalls
import Derived.RangeFuncLeaves
import Derived.RangeFuncBox
import Derived.Shelf.Abstract
import Derived.Shelf.RegionOpen
import Derived.OwnWalkIn
import Derived.TacticsInMore
import Derived.LoopNIn
import Derived.LoopIn
import Derived.Test.YtocpmncedlenbaaGreatDoorP6TopWeave
import Derived.StillTailTactics
import Derived.OrdersIn
namespace Go.Proofs.YtocpmncedlenbaaGreatDoor
open Go.RowKit Go.Deep

theorem sym_merge (G c n tb A : Nat) (T : Nat → Int) (hn : n ≤ 1000) (k : Nat) : ∀ (a m b : Nat) (f : Nat → Int) (w : World), b - a ≤ k → b ≤ n → Nums w G n f → Tasks n f → Runs (tt T) f a m b → SortAt w G n tb A T →
    Calls Tryz.prog 162 #[.slice (some ⟨G, 0, none⟩) n c, .int .i64 (a : Int), .int .i64 (m : Int), .int .i64 (b : Int), cvU tb] w fun e w' => e = .returned (.tuple #[]) ∧ ∃ g, Nums w' G n g ∧ SR (tt T) g a b ∧ Re f g a b ∧ Only [G] w w' := by
  induction k with
  | zero =>
    intro a m b f w hk hb hN hf hr hS
    have := hr.am
    have := hr.mb
    omega
  | succ k ih =>
    intro a m b f w hk hb hN hf hr hS
    have h1 := hr.am
    have h2 := hr.mb
    by_cases hm : m = a + 1
    · exact sym_front G c n a m b tb A f T w hm hN hf hr hS hb hn
    · by_cases hm2 : b = m + 1
      · exact sym_back G c n a m b tb A f T w hm2 (by omega) hN hf hr hS hb hn
      · exact sym_gen G c n a m b tb A f T w (by omega) (by omega) hN hf hr hS hb hn (fun a' m' b' f' w' h => ih a' m' b' f' w' (by omega))

end Go.Proofs.YtocpmncedlenbaaGreatDoor

namespace Go.Proofs.YtocpmncedlenbaaGreatDoor
open Go.RowKit Go.Deep

set_option maxRecDepth 100000 in
set_option maxHeartbeats 8000000 in
theorem stable_sort (G c n tb A : Nat) (f T : Nat → Int) (w : World) (hN : Nums w G n f) (hf : Tasks n f) (hv : ∀ x y, x < y → y < n → f x < f y) (hS : SortAt w G n tb A T) (hn : n ≤ 30) :
    Calls Tryz.prog 118 #[.slice (some ⟨G, 0, none⟩) n c, .int .i64 (n : Int), cvU tb] w fun e w' => e = .returned (.tuple #[]) ∧ ∃ g, Nums w' G n g ∧ SR (tt T) g 0 n ∧ Re f g 0 n ∧ Only [G] w w' := by
  have HIns := Lib.hid (fun a b g w' hN hf hv hS hb ha => insertion_sort G c n a b tb A g T w' hN hf hv hS hb ha (by omega))
  have HSym := Lib.hid (fun a m b g w' hb hN hf hr hS => sym_merge G c n tb A T (by omega) (b - a) a m b g w' (Nat.le_refl _) hb hN hf hr hS)
  unfold cvU at HIns HSym ⊢
  have HV := Lib.hid hv
  have HF := Lib.hid hf
  have HS := Lib.hid hS
  have HN := Lib.hid hN
  clear hv hf hS hN
  by_cases h20 : 20 ≤ n
  · go_enter Tryz.func118, Tryz.ntmps118
    go_wp2_with fail
    go_loopw [7, 8] (fun va vb wr => (va = .int .i64 0 ∧ vb = .int .i64 20 ∧ w = wr) ∨ (va = .int .i64 20 ∧ vb = .int .i64 40 ∧ ∃ g, Nums wr G n g ∧ SR (tt T) g 0 20 ∧ Re f g 0 20 ∧ Only [G] w wr)) (fun va _ _ => 20 - (intOf va).toNat)
    case atStart => exact .inl ⟨rfl, rfl, rfl⟩
    case round =>
      rcases hrel with ⟨rfl, rfl, rfl⟩ | ⟨rfl, rfl, g, hN1, hs1, hr1, ho1⟩
      · have hc := HIns.out 0 20 f w HN.out HF.out (fun x y _ h2 h3 => HV.out x y h2 (by omega)) HS.out h20 (by omega)
        go_wp2_with fail
        refine hc.mono ?_
        rintro e w1 ⟨rfl, g, hN1, hs1, hr1, ho1⟩
        have S1 := Lib.hid hs1
        have R1 := Lib.hid hr1
        clear hc hs1 hr1
        go_wp2
        go_roundw
        case rel => exact .inr ⟨rfl, rfl, g, hN1, S1.out, R1.out, ho1⟩
        case measure => (simp [intOf]; try omega)
      · have hgf : ∀ i, 20 ≤ i → g i = f i := fun i hi => hr1.1 i (.inr hi)
        have hT1 : Hid (Tasks n g) := Tasks.re HF.out hr1 h20
        have hc := HIns.out 20 n g wr hN1 hT1.out (fun x y h1 h2 h3 => by rw [hgf x h1, hgf y (by omega)]; exact HV.out x y h2 h3) (HS.out.only ho1) (Nat.le_refl _) h20
        have S1 := Lib.hid hs1
        have R1 := Lib.hid hr1
        have HO1 := Lib.hid ho1
        clear hgf hs1 hr1 ho1 hN1
        go_wp2_with fail
        refine hc.mono ?_
        rintro e w2 ⟨rfl, g2, hN2, hs2, hr2, ho2⟩
        have ho2 := HO1.out.trans ho2 (by simp)
        have hrun : Hid (20 < n → Runs (tt T) g2 0 20 n) := fun h => ⟨by omega, h, S1.out.congr (fun i _ hi => hr2.1 i (.inl hi)), hs2, fun i j _ i2 j1 j2 => by
          rw [hr2.1 i (.inl i2)]
          obtain ⟨i', _, a2, a3⟩ := R1.out.2.1 i (Nat.zero_le _) i2
          obtain ⟨j', b1, b2, b3⟩ := hr2.2.1 j j1 j2
          rw [a3, b3, R1.out.1 j' (.inr b1)]
          exact HV.out i' j' (by omega) b2⟩
        have hre2 : Hid (Re f g2 0 n) := (R1.out.wide (Nat.le_refl _) h20).trans (hr2.wide (by omega) (Nat.le_refl _))
        have hT2 : Hid (Tasks n g2) := Tasks.re HF.out hre2.out (Nat.le_refl _)
        have hend : Hid (¬ 20 < n → SR (tt T) g2 0 n) := fun h => by
          rw [show n = 20 by omega]
          exact S1.out.congr (fun i _ hi => hr2.1 i (.inl hi))
        have HN2 := Lib.hid hN2
        have HO2 := Lib.hid ho2
        clear hc hs2 hr2 hN2 ho2
        go_wp2_with fail
        go_loopw [6] (fun vs wx => (vs = .int .i64 20 ∧ w2 = wx) ∨ (vs = .int .i64 40 ∧ ∃ g3, Nums wx G n g3 ∧ SR (tt T) g3 0 n ∧ Re f g3 0 n ∧ Only [G] w wx)) (fun vs _ => 40 - (intOf vs).toNat)
        case atStart => exact .inl ⟨rfl, rfl⟩
        case round =>
          rcases hrel with ⟨rfl, rfl⟩ | ⟨rfl, g3, hN3, hs3, hr3, ho3⟩
          · by_cases h21 : 20 < n
            · have hc := HSym.out 0 20 n g2 w2 (Nat.le_refl _) HN2.out hT2.out (hrun.out h21) (HS.out.only HO2.out)
              go_wp2_with fail
              go_loopw [7, 8] (fun va vb wy => va = .int .i64 0 ∧ vb = .int .i64 40 ∧ w2 = wy) (fun _ _ _ => 0)
              case atStart => exact ⟨rfl, rfl, rfl⟩
              case round =>
                obtain ⟨rfl, rfl, rfl⟩ := hrel
                go_wp2_with fail
                refine hc.mono ?_
                rintro e w3 ⟨rfl, g3, hN3, hs3, hr3, ho3⟩
                have ho3 := HO2.out.trans ho3 (by simp)
                have S3 := Lib.hid hs3
                have R3 : Hid (Re f g3 0 n) := hre2.out.trans hr3
                clear hc hs3 hr3
                go_wp2
                go_roundw
                case rel => exact .inr ⟨rfl, g3, hN3, S3.out, R3.out, ho3⟩
                case measure => (simp [intOf]; try omega)
            · go_wp2
              go_end0
              exact ⟨rfl, g2, HN2.out, hend.out h21, hre2.out, HO2.out⟩
          · go_wp2
            go_end0
            exact ⟨rfl, g3, hN3, hs3, hr3, ho3⟩
  · have hc := HIns.out 0 n f w HN.out HF.out (fun x y _ h2 h3 => HV.out x y h2 h3) HS.out (Nat.le_refl _) (Nat.zero_le _)
    go_enter Tryz.func118, Tryz.ntmps118
    go_wp2_with fail
    go_loopw [7, 8] (fun va vb wr => va = .int .i64 0 ∧ vb = .int .i64 20 ∧ w = wr) (fun _ _ _ => 0)
    case atStart => exact ⟨rfl, rfl, rfl⟩
    case round =>
      obtain ⟨rfl, rfl, rfl⟩ := hrel
      go_wp2_with fail
      refine hc.mono ?_
      rintro e w1 ⟨rfl, g, hN1, hs1, hr1, ho1⟩
      have S1 := Lib.hid hs1
      have R1 := Lib.hid hr1
      clear hc hs1 hr1
      go_wp2_with fail
      go_loopw [6] (fun vs wx => vs = .int .i64 20 ∧ w1 = wx) (fun _ _ => 0)
      case atStart => exact ⟨rfl, rfl⟩
      case round =>
        obtain ⟨rfl, rfl⟩ := hrel
        go_wp2
        go_end0
        exact ⟨rfl, g, hN1, S1.out, R1.out, ho1⟩

end Go.Proofs.YtocpmncedlenbaaGreatDoor

namespace Go.Proofs.YtocpmncedlenbaaGreatDoor
open Go.RowKit Go.Deep

set_option maxRecDepth 100000 in
theorem sort_stable (G c n tb A : Nat) (f T : Nat → Int) (w : World) (hN : Nums w G n f) (hf : Tasks n f) (hv : ∀ x y, x < y → y < n → f x < f y) (hS : SortAt w G n tb A T) (hn : n ≤ 30) :
    Calls Tryz.prog 55 #[.slice (some ⟨G, 0, none⟩) n c, cvU tb] w fun e w' => e = .returned (.tuple #[]) ∧ ∃ g, Nums w' G n g ∧ SR (tt T) g 0 n ∧ Re f g 0 n ∧ Only [G] w w' := by
  have hc := stable_sort G c n tb A f T w hN hf hv hS hn
  unfold cvU at hc ⊢
  clear hN hf hv hS
  go_enter Tryz.func55, Tryz.ntmps55
  go_wp2_with fail
  refine hc.mono ?_
  rintro e w1 ⟨rfl, g, h1, h2, h3, h4⟩
  have S := Lib.hid h2
  have R := Lib.hid h3
  clear h2 h3 hc
  go_wp2
  go_end0
  exact ⟨rfl, g, h1, S.out, R.out, h4⟩

end Go.Proofs.YtocpmncedlenbaaGreatDoor

namespace Go.Proofs.YtocpmncedlenbaaGreatDoor
open Go.RowKit Go.Deep

set_option maxRecDepth 100000 in
theorem insert_none (cv : Value) (w : World) :
    Calls Tryz.prog 161 #[.slice none 0 0, .int .i64 0, .int .i64 0, cv] w fun e w' => e = .returned (.tuple #[]) ∧ w = w' := by
  go_enter Tryz.func161, Tryz.ntmps161
  go_wp2_with fail
  go_loopw [8] (fun vi wr => vi = .int .i64 1 ∧ w = wr) (fun _ _ => 0)
  case atStart => exact ⟨rfl, rfl⟩
  case round =>
    obtain ⟨rfl, rfl⟩ := hrel
    go_wp2
    go_end0
    exact ⟨rfl, rfl⟩

set_option maxRecDepth 100000 in
theorem stable_none (cv : Value) (w : World) :
    Calls Tryz.prog 118 #[.slice none 0 0, .int .i64 0, cv] w fun e w' => e = .returned (.tuple #[]) ∧ w = w' := by
  go_enter Tryz.func118, Tryz.ntmps118
  go_wp2_with fail
  go_loopw [7, 8] (fun va vb wr => va = .int .i64 0 ∧ vb = .int .i64 20 ∧ w = wr) (fun _ _ _ => 0)
  case atStart => exact ⟨rfl, rfl, rfl⟩
  case round =>
    obtain ⟨rfl, rfl, rfl⟩ := hrel
    go_wp2_with fail
    refine (insert_none cv w).mono ?_
    rintro e w1 ⟨rfl, rfl⟩
    go_wp2_with fail
    go_loopw [6] (fun vs wx => vs = .int .i64 20 ∧ w = wx) (fun _ _ => 0)
    case atStart => exact ⟨rfl, rfl⟩
    case round =>
      obtain ⟨rfl, rfl⟩ := hrel
      go_wp2
      go_end0
      exact ⟨rfl, rfl⟩

set_option maxRecDepth 100000 in
theorem sortStable_none (cv : Value) (w : World) :
    Calls Tryz.prog 55 #[.slice none 0 0, cv] w fun e w' => e = .returned (.tuple #[]) ∧ w = w' := by
  go_enter Tryz.func55, Tryz.ntmps55
  go_wp2_with fail
  refine (stable_none cv w).mono ?_
  rintro e w1 ⟨rfl, rfl⟩
  go_wp2
  go_end0
  exact ⟨rfl, rfl⟩

end Go.Proofs.YtocpmncedlenbaaGreatDoor

namespace Go.Proofs.YtocpmncedlenbaaGreatDoor
open Go.RowKit

/-- Of the blocks below n0 at most those of S have changed. -/
def KeepW (n0 : Nat) (S : List Nat) (W W' : World) : Prop := ∀ k, k < n0 → k ∉ S → W'.heap[k]? = W.heap[k]?

theorem KeepW.refl (n0 : Nat) (S : List Nat) (W : World) : KeepW n0 S W W := fun _ _ _ => rfl
theorem keepW_t {n0 : Nat} {S : List Nat} {A B C : World} (h : KeepW n0 S A B) (k : KeepW n0 S B C) : KeepW n0 S A C := fun i hi hs => (k i hi hs).trans (h i hi hs)
theorem keepW_b {n0 : Nat} {S : List Nat} {w : World} (hn : n0 ≤ w.heap.size) (W : World) (l : Nat) (o o' : Obj) (hl : w.heap.size ≤ l) (_ : W.heap[l]? = some o) (_ : o.isCells = false) (_ : o.isWalk = false) : KeepW n0 S W (W.putObj l o') :=
  fun k hk _ => World.putObj_heap_other (by omega)
theorem KeepW.cell {n0 : Nat} {S : List Nat} {W W' : World} (h : KeepW n0 S W W') {p : Addr} (hp : p.block < n0) (hn : p.block ∉ S) : W'.cell? p = W.cell? p := World.cell?_of_block (w := W) (h p.block hp hn)
theorem Only.keepW {n0 : Nat} {S T : List Nat} {W W' : World} (h : Only T W W') (hn : n0 ≤ W.heap.size) (hT : ∀ x ∈ T, x < n0 → x ∈ S) : KeepW n0 S W W' := fun k hk hs => h.block k (by omega) (fun hx => hs (hT k hx hk))

/-- What is below B at most: the rounds' own things stay. -/
theorem Only.keepsFrom {B : Nat} {T : List Nat} {W W' : World} (h : Only T W W') (hT : ∀ x ∈ T, x < B ∨ ∃ o : Obj, W.heap[x]? = some o ∧ o.isCells = true) : KeepsFrom B W W' :=
  ⟨h.size, fun k o hk ho hc => by
    have hl := (Array.getElem?_eq_some_iff.1 ho).1
    rw [h.block k hl (fun hx => by
      rcases hT k hx with h1 | ⟨o', h1, h2⟩
      · omega
      · rw [ho] at h1; injection h1 with h1; subst h1; rw [hc] at h2; cases h2)]
    exact ho⟩

/-- A relation on what was there when the call began abides the rounds' own things. -/
theorem ownFrom_only {β : Type} {w : World} {B : Nat} {S : List Nat} (hB : w.heap.size ≤ B) : OwnFrom B (fun (_ : β) W => Only S w W) :=
  fun _ W W' row h hg hr => h.grown hg (fun k hk hlt => by have := (hr k hk).1; omega)

theorem Cells.abides {w w' : World} {b : Nat} {vs : List Value} {row : Option Nat} (h : Cells w b vs) (hg : w.grownBy w' row) (hr : ∀ r, row = some r → ∃ o : Obj, w.heap[r]? = some o ∧ o.isCells = false) : Cells w' b vs := fun i v hv =>
  ⟨cell_kept (h i v hv).1 hg hr, (frozen_kept (h i v hv).1 hg hr).trans (h i v hv).2⟩

/-- So many things, in order. -/
def upto {α : Type} (f : Nat → α) (k : Nat) : List α := (List.range k).map f
theorem upto_succ {α : Type} (f : Nat → α) (k : Nat) : upto f (k + 1) = upto f k ++ [f k] := by simp [upto, List.range_succ]
theorem upto_length {α : Type} (f : Nat → α) (k : Nat) : (upto f k).length = k := by simp [upto]

/-- The block of deferred calls is shut at the return. -/
theorem Only.shut {w W : World} {D : Nat} {o o' : Obj} (h : Only [] w W) (hD : w.heap.size ≤ D) (_ : W.heap[D]? = some o) : Only [] w (W.putObj D o') :=
  h.grown (grownBy_putObj' W D o') (fun k hk hlt => by cases hk; omega)

end Go.Proofs.YtocpmncedlenbaaGreatDoor

namespace Go.Proofs.YtocpmncedlenbaaGreatDoor
open Go.RowKit
attribute [local go_sem] Oper.semAt_some

theorem backward_mk (n : Nat) (a : Option Addr) (len cap : Nat) (w : World) :
    CallsIn Fence.wide n Tryz.prog 117 #[.slice a len cap] w fun e w' => e = .returned (.func (.func 160) #[] #[.pointer (some ⟨w.heap.size, 0, none⟩)]) ∧ w' = w.alloc (.cells #[.slice a len cap] 32) := by
  refine callsIn_of_wp Tryz.func117 rfl trivial ?_ rfl
  simp only [Tryz.ntmps117, List.size_toArray, List.length_cons, List.length_nil, Nat.reduceAdd, Nat.reduceSub, Array.replicate_succ, Array.replicate_zero, List.push_toArray, List.append_toArray, List.nil_append, List.cons_append]
  gi_wp2
  go_ret
  exact ⟨rfl, rfl⟩

set_option maxRecDepth 100000 in
set_option maxHeartbeats 2000000 in
theorem backward_run {α : Type} (encs : α → Array Value) (g : Nat → α) (n : Nat) (l Bs n0 : Nat) (S : List Nat) (sv : Value) (zs : List Int) (J Jx : List α → World → Prop)
    (hreach : zs.length ≤ 1000000000) (hb : ∀ x ∈ own sv, x < n0 ∧ x ∉ S) (hBS : Bs < n0 ∧ Bs ∉ S) (hg : ∀ j, j < zs.length → encs (g j) = #[.int .i64 ((zs.length - 1 - j : Nat) : Int), .int .i64 (nth zs (zs.length - 1 - j))])
    (hY : ∀ pre x W, J pre W → pre.length < zs.length → YieldAt Fence.wide (n - 1) Tryz.prog l (encs x) W fun e W' =>
      (e = .returned (.bool true) ∧ J (pre ++ [x]) W' ∧ KeepW n0 S W W') ∨ (e = .returned (.bool false) ∧ Jx (pre ++ [x]) W'))
    (W : World) (hBs : W.cell? ⟨Bs, 0, none⟩ = some sv) (hr : Reads W sv zs) (h0 : J [] W) :
    CallsIn Fence.wide n Tryz.prog 160 #[.func (.yield l) #[] #[], .pointer (some ⟨Bs, 0, none⟩)] W fun e W' => (∃ v, e = .returned v) ∧
      ((∃ ys, ys = upto g zs.length ∧ J ys W') ∨ (∃ pre, (∃ k, k ≤ zs.length ∧ pre = upto g k) ∧ Jx pre W')) := by
  obtain ⟨a, cap, rfl, hcell⟩ := hr.opt
  have HG := Lib.hid hg
  have HC := Lib.hid hcell
  have HB := Lib.hid hb
  obtain ⟨len, hl⟩ : ∃ len, zs.length = len := ⟨_, rfl⟩
  rw [hl] at hreach HG HC HB hBs hY ⊢
  clear hg hr hcell hl hb
  refine callsIn_of_wp Tryz.func160 rfl trivial ?_ rfl
  simp only [Tryz.ntmps160, List.size_toArray, List.length_cons, List.length_nil, Nat.reduceAdd, Nat.reduceSub, Array.replicate_succ, Array.replicate_zero, List.push_toArray, List.append_toArray, List.nil_append, List.cons_append]
  gi_wp2
  gi_loopw [3] (fun i wr => ∃ k : Nat, k ≤ len ∧ i = .int .i64 ((len : Int) - 1 - k) ∧ J (upto g k) wr ∧ KeepW n0 S W wr)
    (fun i _ => (intOf i + 1).toNat)
  case atStart => exact ⟨0, Nat.zero_le _, by simp, h0, KeepW.refl _ _ _⟩
  case round =>
    obtain ⟨k, hk, rfl, hJs, hnx⟩ := hrel
    have hcB : wr.cell? ⟨Bs, 0, none⟩ = some (.slice a len cap) := (hnx.cell (p := ⟨Bs, 0, none⟩) hBS.1 hBS.2).trans hBs
    by_cases hlt : k < len
    · obtain ⟨b, off, rfl, hc0⟩ := HC.out (len - 1 - k) (by omega)
      have hbb := HB.out b (by simp [own, Value.ownBlock])
      have hcx : wr.cell? ⟨b, off + (len - 1 - k), none⟩ = some (.int .i64 (nth zs (len - 1 - k))) := (hnx.cell (p := ⟨b, off + (len - 1 - k), none⟩) hbb.1 hbb.2).trans hc0
      obtain ⟨fn, tmps, assign, body, hy, hR⟩ := hY _ (g k) wr hJs (by rw [upto_length]; exact hlt)
      rw [HG.out k hlt] at hy
      obtain ⟨m, hm⟩ : ∃ m, len - 1 - k = m := ⟨_, rfl⟩
      have e1 : ((len : Int) - 1 - k) = (m : Int) := by omega
      have hml : m < len := by omega
      rw [hm] at hcx hy
      rw [e1]
      have HM := Lib.hid hm
      clear hm e1 hc0
      gi_wp2
      refine ⟨fun h => (by simp [Fence.wide] at h), ?_⟩
      refine hR.mono ?_
      rintro e W3 (⟨rfl, hJ3, hk3⟩ | ⟨rfl, hJx3⟩)
      · gi_wp2
        go_roundw
        case rel => 
          have hm := HM.out
          have e2 : (m : Int) - 1 = (len : Int) - 1 - ((k + 1 : Nat) : Int) := by omega
          exact ⟨k + 1, hlt, by rw [e2], by rw [upto_succ]; exact hJ3, keepW_t hnx hk3⟩
        case measure => (simp [intOf]; try omega)
      · gi_wp2
        refine bodyPost_ret (results_none rfl _ _ _) rfl ?_
        exact ⟨⟨_, rfl⟩, .inr ⟨_, ⟨k + 1, by omega, (upto_succ _ _).symm⟩, hJx3⟩⟩
    · obtain rfl : k = len := by omega
      have e1 : ((k : Int) - 1 - k) = -1 := by omega
      rw [e1]
      clear e1
      gi_wp2
      go_end0
      exact ⟨⟨_, rfl⟩, .inl ⟨_, rfl, hJs⟩⟩

theorem backward_stops {α : Type} (encs : α → Array Value) (g : Nat → α) (n : Nat) (Bs n0 : Nat) (S : List Nat) (sv : Value) (zs : List Int) (w : World) (hreach : zs.length ≤ 1000000000)
    (hb : ∀ x ∈ own sv, x < n0 ∧ x ∉ S) (hBS : Bs < n0 ∧ Bs ∉ S) (hg : ∀ j, j < zs.length → encs (g j) = #[.int .i64 ((zs.length - 1 - j : Nat) : Int), .int .i64 (nth zs (zs.length - 1 - j))])
    (hBs : w.cell? ⟨Bs, 0, none⟩ = some sv) (hr : Reads w sv zs) :
    SeqStopsK Fence.wide n Tryz.prog 160 #[.pointer (some ⟨Bs, 0, none⟩)] encs (KeepW n0 S) (fun ys => ys = upto g zs.length) (fun pre => ∃ k, k ≤ zs.length ∧ pre = upto g k) zs.length w := fun l J Jx W hW _ _ hY h0 => by
  have hBw := (hW.cell (p := ⟨Bs, 0, none⟩) (cell_lt hBs)).trans hBs
  exact backward_run encs g n l Bs n0 S sv zs J Jx hreach hb hBS hg hY W hBw (hr.cells fun b o x hx _ => (hW.cell (p := ⟨b, o, none⟩) (cell_lt hx)).trans hx) h0

end Go.Proofs.YtocpmncedlenbaaGreatDoor

namespace Go.Proofs.YtocpmncedlenbaaGreatDoor
open Go.RowKit

/-- No 'defer' statement among these. -/
def noDefer (l : List Oper) : Bool := l.all fun o => match o.op with | .defer _ => false | _ => true

theorem noDefer_at {l : List Oper} (h : noDefer l = true) {o : Oper} (ho : o ∈ l) : ∀ c, o.op ≠ .defer c := fun c hc => by
  have := (List.all_eq_true.1 h) o ho
  rw [hc] at this
  cases this

/-- What is left when no panic, and no lack of memory, is let by. -/
def onlyNormal (Q : Exit → Act → World → Prop) : Exit → Act → World → Prop := fun e a w => e = .normal ∧ Q .normal a w

theorem onlyNormal_out (Q : Exit → Act → World → Prop) : ¬ LetsOut (onlyNormal Q) := fun ⟨_, _, h, _⟩ => by cases h

theorem wpIn_round {P : Program} {l n : Nat} {o : Oper} {a : Act} {w : World} {K K' : Act → World → Prop} {Q : Exit → Act → World → Prop} (hd : ∀ c, o.op ≠ .defer c) (hK : ∀ a w, K a w → K' a w)
    (h : o.wp P a w K (onlyNormal Q)) : o.wpIn (Fence.wide.inRound l) n P a w K' Q := by
  refine ⟨fun _ _ => trivial, ?_⟩
  rw [Oper.semAt_eq _ _ _ hd]
  unfold Oper.wp at h
  generalize (execOp a.eval o).run P w = r at *
  cases r with
  | ok x w' =>
    cases x with
    | value v => exact hK _ _ h
    | skip => exact hK _ _ h
    | defer d => exact hK _ _ h
    | enter f args =>
      refine ⟨fun h => (by cases h), (CallsIn.inRound l (callsIn_wide.2 (show Calls P f args w' _ from h))).mono fun e w'' he => ?_⟩
      cases e with
      | returned v => exact hK _ _ he
      | panicked c => obtain ⟨h, _⟩ := he; cases h
      | outgrown => exact (onlyNormal_out Q he).elim
    | row rw' args =>
      refine ⟨fun h => (by cases h), fun c cs _ => ?_⟩
      obtain ⟨v, w'', hr, hs⟩ := (show Rows P rw' args w' _ from h) c cs
      exact ⟨v, w'', hK _ _ hr, by rw [fenced_inRound]; exact stepsIn_wide.2 hs⟩
    | _ => exact (show False from h).elim
  | halt x w' =>
    cases x <;> simp only [Oper.upon, Oper.uponIn] at h ⊢
    obtain ⟨h, _⟩ := h
    cases h

theorem wpAny_round {P : Program} {l n : Nat} {md : Region.Mode} {ops : Array Oper} {Q : Exit → Act → World → Prop} (hd : noDefer ops.toList = true) :
    ∀ (fuel : Nat) (listed : Array Bool) (a : Act) (w : World), wpAny P md ops (onlyNormal Q) fuel listed a w → wpAnyIn (Fence.wide.inRound l) n P md ops Q fuel listed a w := by
  intro fuel
  induction fuel with
  | zero => exact fun listed a w h => ⟨h.1, h.2.2⟩
  | succ fuel ih =>
    intro listed a w h
    refine ⟨fun h0 => (h.1 h0).2, fun i hi => ?_⟩
    have h1 := h.2 i hi
    unfold wpOp at h1
    unfold wpOpIn
    cases ho : ops[i]? with
    | none => rw [ho] at h1; exact ih _ _ _ h1
    | some o =>
      rw [ho] at h1
      have hm : o ∈ ops.toList := Array.mem_toList_iff.2 (Array.mem_of_getElem? ho)
      simp only at h1 ⊢
      split at h1
      · rename_i hw
        rw [if_pos hw]
        rcases h1 with h1 | ⟨_, h1⟩
        · exact wpIn_round (noDefer_at hd hm) (fun a w => ih _ a w) h1
        · exact (onlyNormal_out Q h1).elim
      · rename_i hw
        rw [if_neg hw]
        exact ⟨fun _ _ => trivial, ih _ _ _ h1⟩

/-- Reads, then the last n' things one behind the other. -/
theorem round_still_tail {P : Program} {r m : Nat} {id : Nat} {Q : Exit → Act → World → Prop} {a : Act} {w : World} {l : List Oper} (n : Nat) (hm : P.follows .mixedOrders = true) (hd : noDefer l = true) (hB : Region.lexTailB .any l.toArray n = true)
    (h : wpStill P l.toArray { w with drawn := w.drawn + 1 } (fun a' => wpList P l.toArray (onlyNormal Q) (l.drop n) a' { w with drawn := w.drawn + 1 }) (l.take n) a) : (Code.region id l.toArray true).wpIn (Fence.wide.inRound r) m P Q a w := by
  simp only [Region.lexTailB, Bool.and_eq_true, decide_eq_true_eq] at hB
  obtain ⟨⟨⟨⟨hsel, hn⟩, hs⟩, hc⟩, hlex⟩ := hB
  have hn' : n < l.length := by simpa using hn
  have htl : (l.take n).length = n := by simp; omega
  have hdl : (l.drop n).length = l.toArray.size - n := by simp
  have inv0 : HeadInv .any l.toArray n (Array.replicate l.toArray.size false) :=
    ⟨by simp, fun j oj _ hl => (by rw [getD_replicate_false] at hl; cases hl), fun t _ ht => getD_in (by simpa using ht) (getD_replicate_false _ _)⟩
  have H := wpAnyL_lex (md := .any) (g := l.toArray.size - n) hsel hs hc hn (l.take n) 0 _ a (fun j hj => by
    have hj' : j < n := by rw [htl] at hj; exact hj
    simp [hj']) (by simpa using htl) inv0 (by rw [htl]; exact hlex) h
  refine wpIn_region_any hm (wpAny_round (by simpa using hd) _ _ _ _ ?_)
  have := wpAny_of_head (Q' := onlyNormal Q) (g := l.toArray.size - n) (fun listed a' hL => by
    have := wpAny_of_seq (md := .any) (Q' := onlyNormal Q) (l.drop n) n listed a' { w with drawn := w.drawn + 1 } (fun j => by simp [List.getElem?_drop]) (by rw [hdl]; exact hL.1) hL.2
    rwa [hdl] at this) _ _ _ H
  rw [htl, show n + (l.toArray.size - n) = l.toArray.size by omega] at this
  exact this

end Go.Proofs.YtocpmncedlenbaaGreatDoor
