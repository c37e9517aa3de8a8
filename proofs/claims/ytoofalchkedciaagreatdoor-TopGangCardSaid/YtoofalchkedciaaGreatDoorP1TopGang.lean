/-
  Frames: which blocks of memory may have changed. No program is named here.
  What a law's walk is told of the arguments that came in.
  Contracts of errors.As at *api.Errno, of plain.Told and of yardsame.Error. Their lines are those of the kit's worked proof 'toyas', turned to api.Errno.
  What the listed variables of a tied card give a walk; a world in which all of them hold what the text lays.
  A world that meets all listed variables, those of unicode/utf8 too; what the bound of an Upto row gives of a text.
-/
import Derived.Below
import Derived.Carry
import Derived.WalkKit
import Derived.WalkLawsBesides
import Derived.WalkSpells
import Derived.BigQuiet
import Derived.Deep.QuietTactic
import Derived.Lib.Hide
import Derived.Deep.RegionWith
import Derived.Deep.RegionLaw
import Derived.Deep.AppendLies
import Derived.StillTailTactics
import Derived.Deep.RegionHeld3
import Derived.Deep.LoopGhost
import Derived.Deep.DeepCutAuto
import Derived.Deep.DeepFit
import Derived.Deep.DeepMust
import Derived.Handy
import Derived.WalkSmall
import Derived.Laws.AppendOwnNone
import Derived.Test.YtoofalchkedciaaGreatDoorRows
import Derived.ProofKit
import Derived.OpenShut
import Derived.ShutString
import Derived.ChangeOld
import Derived.LaidEql
import Derived.Stop.Asserts
import Derived.RowKitTokens
import Derived.ChangeSame
import Derived.ChangeVars
import Derived.JoinedOf
import Derived.RowKit
import Derived.LaidLaws
import Derived.LaidHandle
import Derived.Stop.Joined
import Derived.Stop.LaidErr
import Derived.Deep.DeepHandedRow
import Derived.Lib.LaidTab
import Derived.Lib.ItoaMem
namespace Go.Proofs.YtoofalchkedciaaGreatDoor
open Go.RowKit

/-- Of what was there, at most the blocks of S have changed; the streams are as they were. -/
structure Only (S : List Nat) (w w' : World) : Prop where
  os : w'.os = w.os
  tape : w'.tape = w.tape
  output : w'.output = w.output
  size : w.heap.size ≤ w'.heap.size
  block : ∀ k, k < w.heap.size → k ∉ S → w'.heap[k]? = w.heap[k]?

theorem Only.refl (S : List Nat) (w : World) : Only S w w := ⟨rfl, rfl, rfl, Nat.le_refl _, fun _ _ _ => rfl⟩

theorem Only.trans {S T : List Nat} {a b c : World} (h : Only S a b) (k : Only T b c) (hT : ∀ x ∈ T, x < a.heap.size → x ∈ S) : Only S a c :=
  ⟨k.os.trans h.os, k.tape.trans h.tape, k.output.trans h.output, Nat.le_trans h.size k.size, fun i hi hs =>
    (k.block i (Nat.lt_of_lt_of_le hi h.size) (fun hx => hs (hT i hx hi))).trans (h.block i hi hs)⟩

theorem Only.mono {S T : List Nat} {a b : World} (h : Only S a b) (hs : ∀ x ∈ S, x < a.heap.size → x ∈ T) : Only T a b :=
  ⟨h.os, h.tape, h.output, h.size, fun k hk hn => h.block k hk (fun hx => hn (hs k hx hk))⟩

theorem Only.drew {S : List Nat} {a w : World} (h : Only S a w) : Only S a w.drew := ⟨h.os, h.tape, h.output, h.size, h.block⟩
theorem Only.drewN {S : List Nat} {a w : World} (h : Only S a w) (n : Nat) : Only S a (w.drewN n) := ⟨h.os, h.tape, h.output, h.size, h.block⟩

theorem Only.alloc {S : List Nat} {a w : World} (h : Only S a w) (o : Obj) : Only S a (w.alloc o) :=
  h.trans (T := []) ⟨rfl, rfl, rfl, by simp, fun k hk _ => Below.heap_alloc _ _ _ (by omega)⟩ (by simp)

theorem Only.setCell {S : List Nat} {a w : World} (h : Only S a w) {p : Addr} (hp : p.block < a.heap.size → p.block ∈ S) (u : Value) : Only S a (w.setCell p u) :=
  h.trans (T := [p.block]) ⟨rfl, rfl, rfl, by simp [World.setCell], fun k hk hn => Below.heap_setCell _ _ _ _ (by simpa using hn)⟩ (by simpa using hp)

theorem Only.grown {S : List Nat} {a w w' : World} {row : Option Nat} (h : Only S a w) (hg : w.grownBy w' row) (hr : ∀ k, row = some k → k < a.heap.size → k ∈ S) : Only S a w' := by
  refine h.trans (T := row.toList) ⟨hg.os, hg.tape, hg.output, hg.size, fun k hk hn => hg.block k (by omega) (fun e => hn (by simp [← e]))⟩ ?_
  intro x hx hlt
  exact hr x (by simpa using hx) hlt

theorem Only.fresh {S : List Nat} {B : Nat} {a b c : World} (h : Only S a b) (k : Only [B] b c) (hB : a.heap.size ≤ B) : Only S a c :=
  h.trans k fun x hx hlt => by simp at hx; omega

theorem Only.below {S : List Nat} {B : Nat} {a w : World} (h : Only S a w) (hB : B ≤ a.heap.size) (hS : ∀ x ∈ S, B ≤ x) : Below B a w :=
  ⟨h.os, h.tape, h.output, h.size, fun k hk => h.block k (by omega) (fun hx => by have := hS k hx; omega)⟩

theorem Only.ofBelow {w w' : World} (h : Below w.heap.size w w') : Only [] w w' := ⟨h.os, h.tape, h.output, h.size, fun k hk _ => h.block k hk⟩

theorem Only.cell {S : List Nat} {w w' : World} (h : Only S w w') {p : Addr} (hp : p.block < w.heap.size) (hn : p.block ∉ S) : w'.cell? p = w.cell? p :=
  World.cell?_of_block (w := w) (h.block p.block hp hn)

theorem Only.frozen {S : List Nat} {w w' : World} (h : Only S w w') {p : Addr} (hp : p.block < w.heap.size) (hn : p.block ∉ S) : w'.frozen? p = w.frozen? p :=
  World.frozen?_of_block (w := w) (h.block p.block hp hn)

theorem heap_alloc_new (w : World) (o : Obj) : (w.alloc o).heap[w.heap.size]? = some o := by
  show (w.heap.push o)[w.heap.size]? = some o
  simp

/-- The i-th number of a list; 0, if there is none. -/
def nth (l : List Int) (i : Nat) : Int := l[i]?.getD 0

/-- A cell that reads as something lies in a block that is there. -/
theorem cell_lt {w : World} {p : Addr} {v : Value} (h : w.cell? p = some v) : p.block < w.heap.size := by
  unfold World.cell? at h
  split at h
  · rename_i c _ _ hb
    by_cases hl : p.block < w.heap.size
    · exact hl
    · rw [Array.getElem?_eq_none (by omega)] at hb; cases hb
  · cases h

/-- The blocks of a thing behind a call: those that it had, or new ones. -/
def Kin (w : World) (fp fp' : List Nat) : Prop := ∀ x ∈ fp', x ∈ fp ∨ w.heap.size ≤ x

theorem Kin.refl (w : World) (fp : List Nat) : Kin w fp fp := fun _ h => .inl h
theorem Kin.trans {w w' : World} {a b c : List Nat} (h : Kin w a b) (k : Kin w' b c) (hs : w.heap.size ≤ w'.heap.size) : Kin w a c := fun x hx => by
  rcases k x hx with h1 | h1
  · exact h x h1
  · exact .inr (by omega)

/-- A block of plain cells, all of them known, none frozen. -/
def Cells (w : World) (b : Nat) (vs : List Value) : Prop := ∀ i v, vs[i]? = some v → w.cell? ⟨b, i, none⟩ = some v ∧ w.frozen? ⟨b, i, none⟩ = false

theorem Cells.cell {w : World} {b : Nat} {vs : List Value} (h : Cells w b vs) (i : Nat) (v : Value) (hv : vs[i]? = some v) : w.cell? ⟨b, i, none⟩ = some v := (h i v hv).1
theorem Cells.free {w : World} {b : Nat} {vs : List Value} (h : Cells w b vs) (i : Nat) (v : Value) (hv : vs[i]? = some v) : w.frozen? ⟨b, i, none⟩ = false := (h i v hv).2
theorem Cells.lt {w : World} {b : Nat} {v : Value} {vs : List Value} (h : Cells w b (v :: vs)) : b < w.heap.size := cell_lt (h.cell 0 v rfl)

theorem Cells.drewN {w : World} {b : Nat} {vs : List Value} (h : Cells w b vs) (n : Nat) : Cells (w.drewN n) b vs := h

theorem Cells.only {w w' : World} {b : Nat} {vs : List Value} {S : List Nat} (h : Cells w b vs) (ho : Only S w w') (hb : b ∉ S) : Cells w' b vs := by
  intro i v hv
  have hc := h.cell i v hv
  have hlt := cell_lt hc
  exact ⟨(ho.cell (p := ⟨b, i, none⟩) hlt hb).trans hc, (ho.frozen (p := ⟨b, i, none⟩) hlt hb).trans (h.free i v hv)⟩

theorem Cells.set {w : World} {b : Nat} {vs : List Value} (h : Cells w b vs) (j : Nat) (x : Value) : Cells (w.setCell ⟨b, j, none⟩ x) b (vs.set j x) := by
  intro i v hv
  by_cases e : i = j
  · subst e
    by_cases hi : i < vs.length
    · rw [List.getElem?_set_self hi] at hv
      injection hv with hv
      subst hv
      have hx : vs[i]? = some vs[i] := List.getElem?_eq_getElem hi
      exact ⟨World.cell?_setCell_same _ _ _ (h.cell i _ hx), by rw [World.frozen?_setCell]; exact h.free i _ hx⟩
    · rw [List.getElem?_eq_none (by simp; omega)] at hv
      cases hv
  · rw [List.getElem?_set_ne (Ne.symm e)] at hv
    exact ⟨(World.cell?_setCell_other _ _ _ _ (fun he => e (congrArg Addr.off he).symm)).trans (h.cell i v hv), by rw [World.frozen?_setCell]; exact h.free i v hv⟩

theorem Cells.new (w : World) (cs : Array Value) (t : TypeId) : Cells (w.alloc (.cells cs t)) w.heap.size cs.toList := by
  intro i v hv
  exact ⟨by rw [World.cell?_alloc_new]; simpa using hv, World.frozen?_alloc_at _ _ _ _ rfl⟩

theorem Cells.draws {w : World} {b : Nat} {vs : List Value} (h : Cells w b vs) (n : Nat) : Cells (w.drewN n) b vs := h

end Go.Proofs.YtoofalchkedciaaGreatDoor

namespace Go.Proofs.YtoofalchkedciaaGreatDoor
open Go.ChangeShapes Go.WideShapes Go.ChangeAt Go.RowKit

theorem own_knob : ownKnob Tryz.prog.godebug = none := by kernel_rfl
theorem laid_out : laidOutB Tryz.prog = true := by kernel_rfl

/-- A slice of integers that came in: it is nil; or it leads to a row of 'cap' cells, the numbers 'zs' (the first 'len' are its elements), each fitting its kind. -/
def IsRow (k : IntKind) (w : World) (a : Option Addr) (len cap : Nat) (zs : List Int) : Prop :=
  (a = none ∧ len = 0 ∧ cap = 0 ∧ zs = []) ∨
  ∃ x, a = some x ∧ len ≤ cap ∧ cap ≤ maxLen ∧ zs.length = cap ∧ (∀ i, i < zs.length → w.cell? (x.add i) = some (.int k (zs.getD i 0))) ∧ ∀ n ∈ zs, (Lit.int k n).wf = true

/-- The value v is a slice that came in, with the numbers l. -/
def InInts (w : World) (v : Value) (l : List Int) : Prop :=
  (∀ n ∈ l, (Lit.int .i64 n).wf = true) ∧
  ((l = [] ∧ ∃ a cap, v = .slice a 0 cap ∧ cap ≤ maxLen ∧ (a = none → cap = 0)) ∨
   (0 < l.length ∧ ∃ b off cap, v = .slice (some ⟨b, off, none⟩) l.length cap ∧ l.length ≤ cap ∧ cap ≤ maxLen ∧ ∀ i, i < l.length → w.cell? ⟨b, off + i, none⟩ = some (.int .i64 (nth l i))))

theorem inInts_of_row {w : World} {a : Option Addr} {len cap : Nat} {zs : List Int} (h : IsRow .i64 w a len cap zs) : InInts w (.slice a len cap) (zs.take len) := by
  rcases h with ⟨rfl, rfl, rfl, rfl⟩ | ⟨x, rfl, hl, hm, hz, hc, hw⟩
  · exact ⟨by simp, .inl ⟨rfl, _, _, rfl, by unfold maxLen; omega, fun _ => rfl⟩⟩
  · have hlen : (zs.take len).length = len := by simp; omega
    refine ⟨fun n hn => hw n (List.mem_of_mem_take hn), ?_⟩
    by_cases h0 : len = 0
    · subst h0
      exact .inl ⟨by simp, _, _, rfl, hm, fun h => by cases h⟩
    · refine .inr ⟨by omega, ?_⟩
      have hs : x.spot = none := by
        have h1 := hc 0 (by omega)
        unfold World.cell? at h1
        split at h1
        · rename_i c _ _ _
          cases hsp : x.spot with
          | none => rfl
          | some y => simp [Addr.add, hsp] at h1
        · cases h1
      obtain ⟨b, off, spot⟩ := x
      obtain rfl : spot = none := hs
      refine ⟨b, off, cap, by rw [hlen], by omega, hm, fun i hi => ?_⟩
      have h1 := hc i (by omega)
      have h2 : nth (zs.take len) i = zs.getD i 0 := by
        rw [hlen] at hi
        simp [nth, hi]
      rw [h2]
      have e : ({ block := b, off := off, spot := none } : Addr).add i = ⟨b, off + i, none⟩ := by
        unfold Addr.add
        split
        · rename_i h; subst h; rfl
        · rfl
      rw [← e]
      exact h1

/-- What came in stays while nothing that was there changes. -/
theorem InInts.below {w w' : World} {v : Value} {l : List Int} (h : InInts w v l) (hb : Below w.heap.size w w') : InInts w' v l := by
  obtain ⟨h1, h2⟩ := h
  refine ⟨h1, ?_⟩
  rcases h2 with h2 | ⟨h3, b, off, cap, hv, hl, hm, hc⟩
  · exact .inl h2
  · refine .inr ⟨h3, b, off, cap, hv, hl, hm, fun i hi => ?_⟩
    rw [hb.cell (p := ⟨b, off + i, none⟩) (cell_lt (hc i hi))]
    exact hc i hi

theorem InInts.only {w w' : World} {v : Value} {l : List Int} (h : InInts w v l) (ho : Only [] w w') : InInts w' v l :=
  h.below (ho.below (Nat.le_refl _) (by simp))

end Go.Proofs.YtoofalchkedciaaGreatDoor

namespace Go.Proofs.YtoofalchkedciaaGreatDoor
open Go.RowKit Go.Extern.Stop Go.Stop Go.Extern

/-- The variable errors.errorType holds the handle of the type 'error'. -/
def Glob (w : World) : Prop := w.cell? ⟨1, 0, none⟩ = some (.iface 277 (.agg #[.pointer (some ⟨11, 27, none⟩)]))

theorem Glob.only {w w' : World} (h : Glob w) (ho : Only [] w w') : Glob w' := (ho.cell (p := ⟨1, 0, none⟩) (cell_lt h) (by simp)).trans h

theorem as_nil (t : Value) (w : World) :
    Calls Tryz.prog 102 #[.nilIface, t] w fun e w' => e = .returned (.bool false) ∧ w' = w := by
  go_enter Tryz.func102, Tryz.ntmps102
  go_wp2
  go_ret
  exact ⟨rfl, rfl⟩

theorem told_valueOfP (t : Addr) (w : World) : (ReflectliteValue.unpack (.iface 195 (.pointer (some t)))).run Tryz.prog w
    = .ok (.agg #[.pointer (some ⟨11, 195, none⟩), .pointer (some ⟨w.heap.size, 0, none⟩), .int .u64 150]) (w.alloc (.cells #[.pointer (some t)] 195)) := by kernel_rfl
theorem told_typeP (a : Addr) (w : World) : (ReflectliteValue.methodAny (ReflectliteValue.valueError "reflectlite.Value.Type" 0) (fun t _ _ _ => ReflectliteType.toType t) #[.agg #[.pointer (some ⟨11, 195, none⟩), .pointer (some a), .int .u64 150]]).run Tryz.prog w
    = .ok (.iface 277 (.agg #[.pointer (some ⟨11, 195, none⟩)])) w := by kernel_rfl
theorem told_methodKind (h : Value) (w : World) : (Go.method 249 277 (.agg #[h]) "Kind").run Tryz.prog w = .ok (275, h) w := by kernel_rfl
theorem told_kindP (w : World) : ((ReflectliteType.abiMethod fun t => (fun a : Nat => Value.int IntKind.u8 (a : Int)) <$> Rtype.kind t) #[.pointer (some ⟨11, 195, none⟩)]).run Tryz.prog w = .ok (.int .u8 22) w := by kernel_rfl
theorem told_kindE (w : World) : ((ReflectliteType.abiMethod fun t => (fun a : Nat => Value.int IntKind.u8 (a : Int)) <$> Rtype.kind t) #[.pointer (some ⟨11, 98, none⟩)]).run Tryz.prog w = .ok (.int .u8 2) w := by kernel_rfl
theorem told_rlm (z : Sem Value) (f : TypeId → Addr → Nat → Nat → Sem Value) (v : Value) :
    ReflectliteValue.method z f #[v] = (do match ← ReflectliteValue.parts v with | none => z | some (t, a, fl) => f t a fl (fl % 32)) := rfl
theorem told_partsP (a : Addr) (w : World) : (ReflectliteValue.parts (.agg #[.pointer (some ⟨11, 195, none⟩), .pointer (some a), .int .u64 150])).run Tryz.prog w = .ok (some (195, a, 150)) w := by kernel_rfl
theorem told_isNil (a p : Addr) (W : World) (ha : W.cell? a = some (.pointer (some p))) :
    (ReflectliteValue.method (ReflectliteValue.valueError "reflectlite.Value.IsNil" 0) ReflectliteValue.isNil #[.agg #[.pointer (some ⟨11, 195, none⟩), .pointer (some a), .int .u64 150]]).run Tryz.prog W = .ok (.bool false) W := by
  rw [told_rlm]
  simp only [Sem.run_bind, told_partsP, Result.andThen]
  simp [ReflectliteValue.isNil, loadVar, isAgg, underlying, Tryz.underlying195, ha, Result.andThen]
theorem told_methodElem (h : Value) (w : World) : (Go.method 249 277 (.agg #[h]) "Elem").run Tryz.prog w = .ok (288, .agg #[h]) w := by kernel_rfl
theorem told_methodImplements (h : Value) (w : World) : (Go.method 249 277 (.agg #[h]) "Implements").run Tryz.prog w = .ok (289, .agg #[h]) w := by kernel_rfl
theorem told_methodAssignableTo (h : Value) (w : World) : (Go.method 249 277 (.agg #[h]) "AssignableTo").run Tryz.prog w = .ok (286, .agg #[h]) w := by kernel_rfl
theorem told_elemP (w : World) : (ReflectliteType.method ReflectliteType.elem #[.agg #[.pointer (some ⟨11, 195, none⟩)]]).run Tryz.prog w = .ok (.iface 277 (.agg #[.pointer (some ⟨11, 98, none⟩)])) w := by kernel_rfl
theorem told_implements (w : World) : (ReflectliteType.relation "Implements" ReflectliteType.implements_ #[.agg #[.pointer (some ⟨11, 98, none⟩)], .iface 277 (.agg #[.pointer (some ⟨11, 27, none⟩)])]).run Tryz.prog w = .ok (.bool true) w := by kernel_rfl
theorem told_typeOf (v : Value) (w : World) : (ReflectliteType.typeOf #[.iface 98 v]).run Tryz.prog w = .ok (.iface 277 (.agg #[.pointer (some ⟨11, 98, none⟩)])) w := by kernel_rfl
theorem told_assignable (w : World) : (ReflectliteType.relation "AssignableTo" ReflectliteType.assignableTo #[.agg #[.pointer (some ⟨11, 98, none⟩)], .iface 277 (.agg #[.pointer (some ⟨11, 98, none⟩)])]).run Tryz.prog w = .ok (.bool true) w := by kernel_rfl
theorem told_valueOfE (n : Int) (w : World) : (ReflectliteValue.unpack (.iface 98 (.int .i64 n))).run Tryz.prog w
    = .ok (.agg #[.pointer (some ⟨11, 98, none⟩), .pointer (some ⟨w.heap.size, 0, none⟩), .int .u64 130]) (w.alloc (.cells #[.int .i64 n] 98)) := by kernel_rfl
theorem told_elemOf (w : World) : (Rtype.elem? 195).run Tryz.prog w = .ok (some 98) w := by kernel_rfl
theorem told_mkE (p : Addr) (w : World) : (ReflectliteValue.mk 98 p ReflectliteValue.flagAddr).run Tryz.prog w = .ok (.agg #[.pointer (some ⟨11, 98, none⟩), .pointer (some p), .int .u64 386]) w := by kernel_rfl
theorem told_elemV (a p : Addr) (W : World) (ha : W.cell? a = some (.pointer (some p))) :
    (ReflectliteValue.method (ReflectliteValue.valueError "reflectlite.Value.Elem" 0) ReflectliteValue.elem #[.agg #[.pointer (some ⟨11, 195, none⟩), .pointer (some a), .int .u64 150]]).run Tryz.prog W
      = .ok (.agg #[.pointer (some ⟨11, 98, none⟩), .pointer (some p), .int .u64 386]) W := by
  rw [told_rlm]
  simp only [Sem.run_bind, told_partsP, Result.andThen]
  simp [ReflectliteValue.elem, loadVar, isAgg, underlying, Tryz.underlying195, ha, Result.andThen, told_elemOf, told_mkE]
theorem told_rls (v x : Value) : ReflectliteValue.set #[v, x] = (do
    let (some (dst, a, fl), some (src, b, _)) := (← ReflectliteValue.parts v, ← ReflectliteValue.parts x)
      | unsupported (.noEntry "extern/(internal/reflectlite.Value).Set.zeroValue")
    if fl / ReflectliteValue.flagAddr % 2 == 0 then unsupported (.noEntry "extern/(internal/reflectlite.Value).Set.unaddressable")
    let val ← loadVar src b
    if ← Rtype.directlyAssignable dst src then storeVar dst a val
    else if ← Rtype.implements dst src then
      if (← Rtype.kind src) == 20 then
        match val with
        | .nilIface => unsupported (.noEntry "extern/reflectlite: a nil value of one interface type handed on as a value of another")
        | _ => storeVar dst a val
      else storeVar dst a (.iface src val)
    else panicString ("reflectlite.Set: value of type " ++ (← Rtype.spelt src) ++ " is not assignable to type " ++ (← Rtype.spelt dst))
    pure (.tuple #[])) := rfl
theorem told_partsEa (a : Addr) (w : World) : (ReflectliteValue.parts (.agg #[.pointer (some ⟨11, 98, none⟩), .pointer (some a), .int .u64 386])).run Tryz.prog w = .ok (some (98, a, 386)) w := by kernel_rfl
theorem told_partsE (a : Addr) (w : World) : (ReflectliteValue.parts (.agg #[.pointer (some ⟨11, 98, none⟩), .pointer (some a), .int .u64 130])).run Tryz.prog w = .ok (some (98, a, 130)) w := by kernel_rfl
theorem told_direct (w : World) : (Rtype.directlyAssignable 98 98).run Tryz.prog w = .ok true w := by kernel_rfl
theorem told_set (ta b : Addr) (n : Int) (old : Value) (W : World) (hb : W.cell? b = some (.int .i64 n)) (ht : W.cell? ta = some old) (hf : W.frozen? ta = false) :
    (ReflectliteValue.set #[.agg #[.pointer (some ⟨11, 98, none⟩), .pointer (some ta), .int .u64 386], .agg #[.pointer (some ⟨11, 98, none⟩), .pointer (some b), .int .u64 130]]).run Tryz.prog W
      = .ok (.tuple #[]) (W.setCell ta (.int .i64 n)) := by
  rw [told_rls]
  simp only [Sem.run_bind, told_partsEa, told_partsE, Result.andThen]
  simp [ReflectliteValue.flagAddr, loadVar, isAgg, underlying, Tryz.underlying98, hb, Result.andThen, told_direct, storeVar, Value.cells, storeCells, Addr.add]
  rw [run_store Tryz.prog W ta _ _ (by rfl)]
  simp [ht, hf]

set_option maxHeartbeats 4000000 in
theorem as_hit (n : Int) (t : Addr) (old : Value) (w : World) (hg : Glob w) (ht0 : w.cell? t = some old) (hf0 : w.frozen? t = false) :
    Calls Tryz.prog 102 #[.iface 98 (.int .i64 n), .iface 195 (.pointer (some t))] w fun ev w' => ev = .returned (.bool true) ∧ w' = ((((w.alloc (.cells #[.pointer (some t)] 195)).alloc (.cells #[.pointer (some ⟨11, 195, none⟩), .pointer (some ⟨w.heap.size, 0, none⟩), .int .u64 150] 246)).alloc (.cells #[.pointer (some ⟨11, 195, none⟩), .pointer (some ⟨w.heap.size, 0, none⟩), .int .u64 150] 246)).alloc (.cells #[.int .i64 n] 98)).setCell t (.int .i64 n) := by
  have h6 := @run_callFunc_extern Tryz.prog 148 _ (fun args => ReflectliteValue.unpack (args.getD 0 (.tuple #[]))) Tryz.func148 (by kernel_rfl) (by kernel_rfl) (by kernel_rfl) (by kernel_rfl)
  have h7 := @run_callFunc_extern Tryz.prog 149 _ (ReflectliteValue.methodAny (ReflectliteValue.valueError "reflectlite.Value.Type" 0) (fun t _ _ _ => ReflectliteType.toType t)) Tryz.func149 (by kernel_rfl) (by kernel_rfl) (by kernel_rfl) (by kernel_rfl)
  have h8 := @run_callFunc_extern Tryz.prog 150 _ (ReflectliteValue.method (ReflectliteValue.valueError "reflectlite.Value.IsNil" 0) ReflectliteValue.isNil) Tryz.func150 (by kernel_rfl) (by kernel_rfl) (by kernel_rfl) (by kernel_rfl)
  have h27 := @run_callFunc_extern Tryz.prog 275 _ (ReflectliteType.abiMethod fun t => do pure (.int .u8 (← Rtype.kind t))) Tryz.func275 (by kernel_rfl) (by kernel_rfl) (by kernel_rfl) (by kernel_rfl)
  have h37 := @run_callFunc_extern Tryz.prog 288 _ (ReflectliteType.method ReflectliteType.elem) Tryz.func288 (by kernel_rfl) (by kernel_rfl) (by kernel_rfl) (by kernel_rfl)
  have h38 := @run_callFunc_extern Tryz.prog 289 _ (ReflectliteType.relation "Implements" ReflectliteType.implements_) Tryz.func289 (by kernel_rfl) (by kernel_rfl) (by kernel_rfl) (by kernel_rfl)
  have h10 := @run_callFunc_extern Tryz.prog 188 _ ReflectliteType.typeOf Tryz.func188 (by kernel_rfl) (by kernel_rfl) (by kernel_rfl) (by kernel_rfl)
  have h35 := @run_callFunc_extern Tryz.prog 286 _ (ReflectliteType.relation "AssignableTo" ReflectliteType.assignableTo) Tryz.func286 (by kernel_rfl) (by kernel_rfl) (by kernel_rfl) (by kernel_rfl)
  have h11 := @run_callFunc_extern Tryz.prog 189 _ (ReflectliteValue.method (ReflectliteValue.valueError "reflectlite.Value.Elem" 0) ReflectliteValue.elem) Tryz.func189 (by kernel_rfl) (by kernel_rfl) (by kernel_rfl) (by kernel_rfl)
  have h12 := @run_callFunc_extern Tryz.prog 190 _ ReflectliteValue.set Tryz.func190 (by kernel_rfl) (by kernel_rfl) (by kernel_rfl) (by kernel_rfl)
  have tO := told_typeOf
  have mA := told_methodAssignableTo
  have a25 := told_assignable
  have v25 := told_valueOfE
  have f6 := told_valueOfP
  have f7 := told_typeP
  have mK := told_methodKind
  have mE := told_methodElem
  have mI := told_methodImplements
  have k27 := told_kindP
  have k25 := told_kindE
  have e27 := told_elemP
  have i25 := told_implements
  have n8 := told_isNil ⟨w.heap.size, 0, none⟩ t ((w.alloc (.cells #[.pointer (some t)] 195)).alloc (.cells #[.pointer (some ⟨11, 195, none⟩), .pointer (some ⟨w.heap.size, 0, none⟩), .int .u64 150] 246)) (by simp)
  have hlt : 1 < w.heap.size := cell_lt hg
  have hg2 : ((w.alloc (.cells #[.pointer (some t)] 195)).alloc (.cells #[.pointer (some ⟨11, 195, none⟩), .pointer (some ⟨w.heap.size, 0, none⟩), .int .u64 150] 246)).cell? ⟨1, 0, none⟩ = some (.iface 277 (.agg #[.pointer (some ⟨11, 27, none⟩)])) := by
    rw [World.cell?_alloc_lt _ _ ⟨1, 0, none⟩ (by simp; try omega), World.cell?_alloc_lt _ _ ⟨1, 0, none⟩ hlt]; exact hg
  have htl : t.block < w.heap.size := by
    rcases Nat.lt_or_ge t.block w.heap.size with h | h
    · exact h
    · simp [World.cell?, Array.getElem?_eq_none h] at ht0
  have el := told_elemV ⟨w.heap.size, 0, none⟩ t (((w.alloc (.cells #[.pointer (some t)] 195)).alloc (.cells #[.pointer (some ⟨11, 195, none⟩), .pointer (some ⟨w.heap.size, 0, none⟩), .int .u64 150] 246)).alloc (.cells #[.pointer (some ⟨11, 195, none⟩), .pointer (some ⟨w.heap.size, 0, none⟩), .int .u64 150] 246)) (by rw [World.cell?_alloc_lt _ _ ⟨w.heap.size, 0, none⟩ (by simp; omega)]; simp)
  have st := told_set t ⟨w.heap.size + 1 + 1 + 1, 0, none⟩ n old ((((w.alloc (.cells #[.pointer (some t)] 195)).alloc (.cells #[.pointer (some ⟨11, 195, none⟩), .pointer (some ⟨w.heap.size, 0, none⟩), .int .u64 150] 246)).alloc (.cells #[.pointer (some ⟨11, 195, none⟩), .pointer (some ⟨w.heap.size, 0, none⟩), .int .u64 150] 246)).alloc (.cells #[.int .i64 n] 98))
    (by rw [World.cell?_alloc_at _ _ _ _ (by simp)]; rfl)
    (by rw [World.cell?_alloc_lt _ _ t (by simp; omega), World.cell?_alloc_lt _ _ t (by simp; omega), World.cell?_alloc_lt _ _ t (by simp; omega), World.cell?_alloc_lt _ _ t htl]; exact ht0)
    (by rw [World.frozen?_alloc_old _ _ t (by simp; omega), World.frozen?_alloc_old _ _ t (by simp; omega), World.frozen?_alloc_old _ _ t (by simp; omega), World.frozen?_alloc_old _ _ t (Nat.ne_of_lt htl)]; exact hf0)
  clear hg
  go_enter Tryz.func102, Tryz.ntmps102
  go_wp2
  refine wp_loop_rounds 1 ?_
  rw [rounds_succ]
  go_wp2
  go_ret
  exact ⟨rfl, rfl⟩

theorem told_nil (w : World) : Calls Tryz.prog 50 #[.nilIface] w fun e w' => e = .returned (.int .i64 0) ∧ w = w' := by
  go_enter Tryz.func50, Tryz.ntmps50
  go_wp2
  go_ret
  exact ⟨rfl, rfl⟩

set_option maxHeartbeats 1000000 in
theorem told_err (n : Int) (w : World) (hg : Glob w) :
    Calls Tryz.prog 50 #[.iface 98 (.int .i64 n)] w fun e w' => e = .returned (.int .i64 n) ∧ Only [] w w' := by
  have hg1 : Glob (w.alloc (.cells #[.int .i64 0] 98)) := hg.only ((Only.refl [] w).alloc _)
  have hA := as_hit n ⟨w.heap.size, 0, none⟩ (.int .i64 0) (w.alloc (.cells #[.int .i64 0] 98)) hg1 (by simp) (World.frozen?_alloc_at _ _ _ _ rfl)
  clear hg hg1
  go_enter Tryz.func50, Tryz.ntmps50
  go_wp2_with fail
  refine hA.mono ?_
  rintro e w1 ⟨rfl, rfl⟩
  clear hA
  go_wp2
  go_ret
  exact ⟨rfl, (((((Only.refl [] w).alloc _).alloc _).alloc _).alloc _).alloc _⟩

theorem same_nil (n : Int) (w : World) (b : Bool) (hb : decide (n = 0) = b) : Calls Tryz.prog 11 #[.nilIface, .int .i64 n] w fun e w' => e = .returned (.bool b) ∧ w = w' := by
  have hb2 : ((0 : Int) == n) = b := by rw [← hb]; by_cases h : n = 0 <;> simp [h]; exact fun e => h e.symm
  clear hb
  go_enter Tryz.func11, Tryz.ntmps11
  go_wp2_with fail
  refine (told_nil _).mono ?_
  rintro e w1 ⟨rfl, rfl⟩
  go_wp2
  go_ret
  exact ⟨by simp, rfl⟩

theorem same_err (k n : Int) (w : World) (hg : Glob w) (b : Bool) (hb : decide (k = n) = b) : Calls Tryz.prog 11 #[.iface 98 (.int .i64 k), .int .i64 n] w fun e w' => e = .returned (.bool b) ∧ Only [] w w' := by
  have hb2 : (k == n) = b := by rw [← hb]; by_cases h : k = n <;> simp [h]
  clear hb
  go_enter Tryz.func11, Tryz.ntmps11
  go_wp2_with fail
  refine (told_err k _ hg).mono ?_
  rintro e w1 ⟨rfl, ho⟩
  go_wp2
  go_ret
  exact ⟨by simp, ho⟩

end Go.Proofs.YtoofalchkedciaaGreatDoor

namespace Go.Proofs.YtoofalchkedciaaGreatDoor
open Go.ChangeShapes Go.WideShapes Go.RowKit

theorem lay_et : Tryz.prog.globalNamed "errors.errorType" = some 1 := by kernel_rfl
theorem lay_rt : (Tryz.prog.cutTypes.find? (·.1 == "internal/reflectlite.rtype")).map (·.2) = some 277 := by kernel_rfl
theorem lay_one : ((List.range Tryz.prog.types.size).filter fun t => Tryz.prog.rowNamed t [101, 114, 114, 111, 114]) = [27] := by kernel_rfl

theorem glob_of_handles {W : World} (h : handlesMet Tryz.prog [("errors.errorType", Rows.laid_errors_errorType)] W) : Glob W := by
  obtain ⟨name, u, ty, e1, e2, e3, e4, e5⟩ := h _ (List.mem_singleton.2 rfl)
  have en : name = [101, 114, 114, 111, 114] := (Option.some.inj e1).symm
  subst en
  obtain rfl := Option.some.inj (lay_rt.symm.trans e2)
  have hm : ty ∈ (List.range Tryz.prog.types.size).filter fun t => Tryz.prog.rowNamed t [101, 114, 114, 111, 114] := List.mem_filter.2 ⟨List.mem_range.2 e3, e4⟩
  rw [lay_one] at hm
  obtain rfl := List.mem_singleton.1 hm
  have hh : typeHandle Tryz.prog 27 = .pointer (some ⟨11, 27, none⟩) := by kernel_rfl
  rw [hh] at e5
  unfold Glob
  simpa using World.var?_cell lay_et e5 0

/-- A package-level variable that holds an error. -/
def VarErr (n : String) (w : World) : Prop := ∃ tp p, w.var? Tryz.prog n = some #[.iface tp p]

theorem var_only {w w' : World} {n : String} {cs : Array Value} (h : w.var? Tryz.prog n = some cs) (ho : Only [] w w') : w'.var? Tryz.prog n = some cs := by
  unfold World.var? at h ⊢
  cases hg : Tryz.prog.globalNamed n with
  | none => simp [hg] at h
  | some g =>
    simp only [hg, Option.bind_some] at h ⊢
    have hlt : g < w.heap.size := by
      rcases Nat.lt_or_ge g w.heap.size with h' | h'
      · exact h'
      · simp [Array.getElem?_eq_none h'] at h
    rw [ho.block g hlt (by simp)]
    exact h
theorem VarErr.low {n : String} {w w' : World} {S : List Nat} {g : Nat} (h : VarErr n w) (ho : Only S w w') (hg : Tryz.prog.globalNamed n = some g) (hS : g ∉ S) : VarErr n w' := by
  obtain ⟨tp, p, h⟩ := h
  refine ⟨tp, p, ?_⟩
  unfold World.var? at h ⊢
  simp only [hg, Option.bind_some] at h ⊢
  have hlt : g < w.heap.size := by
    rcases Nat.lt_or_ge g w.heap.size with h' | h'
    · exact h'
    · simp [Array.getElem?_eq_none h'] at h
  rw [ho.block g hlt hS]
  exact h
theorem VarErr.lt {n : String} {w : World} {g : Nat} (h : VarErr n w) (hg : Tryz.prog.globalNamed n = some g) : g < w.heap.size := by
  obtain ⟨tp, p, h⟩ := h
  unfold World.var? at h
  simp only [hg, Option.bind_some] at h
  rcases Nat.lt_or_ge g w.heap.size with h' | h'
  · exact h'
  · simp [Array.getElem?_eq_none h'] at h
theorem VarErr.only {n : String} {w w' : World} (h : VarErr n w) (ho : Only [] w w') : VarErr n w' := by
  obtain ⟨tp, p, h⟩ := h
  exact ⟨tp, p, var_only h ho⟩

theorem lay_star : "*errors.errorString" = "*" ++ "errors.errorString" := by decide
theorem lay_row (u : TypeId) (h : Tryz.prog.typeName? 3 u = some "*errors.errorString") : u = 355 :=
  typeName_ptr_named (nm := "errors.errorString") (by rw [← lay_star]; kernel_rfl) (by kernel_rfl) (by decide) u (by rw [← lay_star]; exact h)
theorem varErr_of {n : String} {text : List UInt8} {r : List (String × DataW Unit)} {W : World} {g : Nat} (h : laidMet Tryz.prog ((n, .iface "*errors.errorString" (.ptr (.agg [.lit (.string text)]))) :: r) W)
    (hg : Tryz.prog.globalNamed n = some g) (ht : (Tryz.prog.globals[g]?).map (·.type) = some 27) : VarErr n W := by
  obtain ⟨a, s, hv, _⟩ := laid_sentinel (tp := 355) (te := 357) (ts := 9) h hg ht Tryz.underlying27 lay_row Tryz.underlying355 Tryz.underlying357 rfl rfl Tryz.underlying9 (by kernel_rfl) (by kernel_rfl)
  exact ⟨_, _, hv⟩

/-- strconv's two errors, and where they lie. -/
def ErrsAt (w : World) (base : Nat) : Prop := VarErr "strconv.ErrSyntax" w ∧ VarErr "strconv.ErrRange" w ∧ 7 < base ∧ 8 < base
theorem ErrsAt.low {w w' : World} {base : Nat} {S : List Nat} (h : ErrsAt w base) (ho : Only S w w') (hS : ∀ x ∈ S, base ≤ x) : ErrsAt w' base :=
  ⟨h.1.low (g := 7) ho (by kernel_rfl) (fun hx => by have := hS _ hx; have := h.2.2.1; omega), h.2.1.low (g := 8) ho (by kernel_rfl) (fun hx => by have := hS _ hx; have := h.2.2.2; omega), h.2.2⟩
theorem ErrsAt.of {w : World} (h1 : VarErr "strconv.ErrSyntax" w) (h2 : VarErr "strconv.ErrRange" w) : ErrsAt w w.heap.size := ⟨h1, h2, h1.lt (by kernel_rfl), h2.lt (by kernel_rfl)⟩

/-- The cells of a table. -/
def datumCells : DataW Unit → Array Value
  | .agg ps => (ps.map fun | .lit l => l.value | _ => undef).toArray
  | _ => #[]
/-- A variable set to hold such cells. -/
def setVar (w : World) (g : Nat) (cs : Array Value) : World := { w with heap := w.heap.modify g fun
  | .cells _ t frozen => .cells cs t frozen
  | o => o }

noncomputable def laidLow : Nat := (World.holding Tryz.prog default ⟨#[], #[], []⟩).heap.size
/-- The settled world, every listed variable laid. -/
noncomputable def laidAll (os : Os) : World :=
  let w0 := World.holding Tryz.prog os ⟨#[.cells #[.string ⟨#[105, 110, 118, 97, 108, 105, 100, 32, 115, 121, 110, 116, 97, 120]⟩] 357, .cells #[.string ⟨#[118, 97, 108, 117, 101, 32, 111, 117, 116, 32, 111, 102, 32, 114, 97, 110, 103, 101]⟩] 357], #[], []⟩
  let w0 := setVar w0 1 #[.iface 277 (.agg #[.pointer (some ⟨11, 27, none⟩)])]
  let w0 := setVar w0 7 #[.iface 355 (.pointer (some ⟨laidLow, 0, none⟩))]
  let w0 := setVar w0 8 #[.iface 355 (.pointer (some ⟨laidLow + 1, 0, none⟩))]
  let w0 := setVar w0 3 (datumCells Rows.laid_internal_strconv_uint64pow10)
  let w0 := setVar w0 9 (datumCells Rows.laid_math_bits_deBruijn32tab)
  let w0 := setVar w0 10 (datumCells Rows.laid_math_bits_deBruijn64tab)
  let w0 := setVar w0 0 (datumCells Rows.laid_yardgang_trace_words)
  w0

end Go.Proofs.YtoofalchkedciaaGreatDoor

namespace Go.Proofs.YtoofalchkedciaaGreatDoor
open Go.RowKit

/-- The cells of a table of structs. -/
def datumCells2 : DataW Unit → Array Value
  | .agg ps => (ps.flatMap fun | .agg qs => qs.map (fun | .lit l => l.value | _ => undef) | _ => []).toArray
  | _ => #[]
noncomputable def laidUp (os : Os) : World :=
  setVar (setVar (laidAll os) 5 (datumCells Rows.laid_unicode_utf8_first)) 6 (datumCells2 Rows.laid_unicode_utf8_acceptRanges)

theorem tab_of {r : List (String × DataW Unit)} {W : World} (h : laidMet Tryz.prog (("internal/strconv.uint64pow10", Rows.laid_internal_strconv_uint64pow10) :: r) W) : Lib.TabIs Tryz.prog W "internal/strconv.uint64pow10" .u64 Lib.pow10Tab :=
  Lib.tabIs_of_head (g := 3) (e := 291) (n := 20) (by kernel_rfl) (by kernel_rfl) Tryz.underlying309 Tryz.underlying291 (by kernel_rfl) (by kernel_rfl) h

theorem bulk_part {H : Type} {d : DataW H} {l : List (DataW H)} (h : d ∈ l) : Rows.uptoBulk d ≤ Rows.uptoBulkAll l := by
  induction l with
  | nil => cases h
  | cons x r ih =>
    simp only [Rows.uptoBulkAll]
    rcases List.mem_cons.1 h with e | e
    · subst e; omega
    · have := ih e; omega
theorem bulk_text {H : Type} {l : List (DataW H)} {b : List UInt8} (h : Rows.uptoSmall H l = true) (hb : DataW.lit (.string b) ∈ l) : b.length ≤ 1048576 := by
  have h1 := bulk_part hb
  have h2 : Rows.uptoBulkAll l ≤ 1048576 := of_decide_eq_true h
  simp only [Rows.uptoBulk] at h1
  omega

end Go.Proofs.YtoofalchkedciaaGreatDoor
