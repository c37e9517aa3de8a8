/-
  Contracts of errors.As at *api.Errno, of plain.Told and of yardsame.Error. Their lines are those of the kit's worked proof 'toyas', turned to api.Errno.
-/
import Derived.Test.YtoofalchkedciaaGreatDoorP1PlanTells
import Derived.Test.YtoofalchkedciaaGreatDoorRows
import Derived.LaidEql
import Derived.Stop.Asserts
import Derived.RowKitTokens
namespace Go.Proofs.YtoofalchkedciaaGreatDoor
open Go.RowKit Go.Extern.Stop Go.Stop Go.Extern

/-- The variable errors.errorType holds the handle of the type 'error'. -/
def Glob (w : World) : Prop := w.cell? ⟨1, 0, none⟩ = some (.iface 277 (.agg #[.pointer (some ⟨11, 27, none⟩)]))

theorem Glob.only {w w' : World} (h : Glob w) (ho : Only [] w w') : Glob w' := (ho.cell (p := ⟨1, 0, none⟩) (cell_lt h) (by simp)).trans h

theorem as_nil (t : Value) (w : World) :
    Calls Tryz.prog 102 #[.nilIface, t] w fun e w' => e = .returned (.bool false) ∧ w' = w := by
  go_enter Tryz.func102, Tryz.ntmps102
  go_wp2
  go_ret
  exact ⟨rfl, rfl⟩

theorem told_valueOfP (t : Addr) (w : World) : (ReflectliteValue.unpack (.iface 195 (.pointer (some t)))).run Tryz.prog w
    = .ok (.agg #[.pointer (some ⟨11, 195, none⟩), .pointer (some ⟨w.heap.size, 0, none⟩), .int .u64 150]) (w.alloc (.cells #[.pointer (some t)] 195)) := by kernel_rfl
theorem told_typeP (a : Addr) (w : World) : (ReflectliteValue.methodAny (ReflectliteValue.valueError "reflectlite.Value.Type" 0) (fun t _ _ _ => ReflectliteType.toType t) #[.agg #[.pointer (some ⟨11, 195, none⟩), .pointer (some a), .int .u64 150]]).run Tryz.prog w
    = .ok (.iface 277 (.agg #[.pointer (some ⟨11, 195, none⟩)])) w := by kernel_rfl
theorem told_methodKind (h : Value) (w : World) : (Go.method 249 277 (.agg #[h]) "Kind").run Tryz.prog w = .ok (275, h) w := by kernel_rfl
theorem told_kindP (w : World) : ((ReflectliteType.abiMethod fun t => (fun a : Nat => Value.int IntKind.u8 (a : Int)) <$> Rtype.kind t) #[.pointer (some ⟨11, 195, none⟩)]).run Tryz.prog w = .ok (.int .u8 22) w := by kernel_rfl
theorem told_kindE (w : World) : ((ReflectliteType.abiMethod fun t => (fun a : Nat => Value.int IntKind.u8 (a : Int)) <$> Rtype.kind t) #[.pointer (some ⟨11, 98, none⟩)]).run Tryz.prog w = .ok (.int .u8 2) w := by kernel_rfl
theorem told_rlm (z : Sem Value) (f : TypeId → Addr → Nat → Nat → Sem Value) (v : Value) :
    ReflectliteValue.method z f #[v] = (do match ← ReflectliteValue.parts v with | none => z | some (t, a, fl) => f t a fl (fl % 32)) := rfl
theorem told_partsP (a : Addr) (w : World) : (ReflectliteValue.parts (.agg #[.pointer (some ⟨11, 195, none⟩), .pointer (some a), .int .u64 150])).run Tryz.prog w = .ok (some (195, a, 150)) w := by kernel_rfl
theorem told_isNil (a p : Addr) (W : World) (ha : W.cell? a = some (.pointer (some p))) :
    (ReflectliteValue.method (ReflectliteValue.valueError "reflectlite.Value.IsNil" 0) ReflectliteValue.isNil #[.agg #[.pointer (some ⟨11, 195, none⟩), .pointer (some a), .int .u64 150]]).run Tryz.prog W = .ok (.bool false) W := by
  rw [told_rlm]
  simp only [Sem.run_bind, told_partsP, Result.andThen]
  simp [ReflectliteValue.isNil, loadVar, isAgg, underlying, Tryz.underlying195, ha, Result.andThen]
theorem told_methodElem (h : Value) (w : World) : (Go.method 249 277 (.agg #[h]) "Elem").run Tryz.prog w = .ok (288, .agg #[h]) w := by kernel_rfl
theorem told_methodImplements (h : Value) (w : World) : (Go.method 249 277 (.agg #[h]) "Implements").run Tryz.prog w = .ok (289, .agg #[h]) w := by kernel_rfl
theorem told_methodAssignableTo (h : Value) (w : World) : (Go.method 249 277 (.agg #[h]) "AssignableTo").run Tryz.prog w = .ok (286, .agg #[h]) w := by kernel_rfl
theorem told_elemP (w : World) : (ReflectliteType.method ReflectliteType.elem #[.agg #[.pointer (some ⟨11, 195, none⟩)]]).run Tryz.prog w = .ok (.iface 277 (.agg #[.pointer (some ⟨11, 98, none⟩)])) w := by kernel_rfl
theorem told_implements (w : World) : (ReflectliteType.relation "Implements" ReflectliteType.implements_ #[.agg #[.pointer (some ⟨11, 98, none⟩)], .iface 277 (.agg #[.pointer (some ⟨11, 27, none⟩)])]).run Tryz.prog w = .ok (.bool true) w := by kernel_rfl
theorem told_typeOf (v : Value) (w : World) : (ReflectliteType.typeOf #[.iface 98 v]).run Tryz.prog w = .ok (.iface 277 (.agg #[.pointer (some ⟨11, 98, none⟩)])) w := by kernel_rfl
theorem told_assignable (w : World) : (ReflectliteType.relation "AssignableTo" ReflectliteType.assignableTo #[.agg #[.pointer (some ⟨11, 98, none⟩)], .iface 277 (.agg #[.pointer (some ⟨11, 98, none⟩)])]).run Tryz.prog w = .ok (.bool true) w := by kernel_rfl
theorem told_valueOfE (n : Int) (w : World) : (ReflectliteValue.unpack (.iface 98 (.int .i64 n))).run Tryz.prog w
    = .ok (.agg #[.pointer (some ⟨11, 98, none⟩), .pointer (some ⟨w.heap.size, 0, none⟩), .int .u64 130]) (w.alloc (.cells #[.int .i64 n] 98)) := by kernel_rfl
theorem told_elemOf (w : World) : (Rtype.elem? 195).run Tryz.prog w = .ok (some 98) w := by kernel_rfl
theorem told_mkE (p : Addr) (w : World) : (ReflectliteValue.mk 98 p ReflectliteValue.flagAddr).run Tryz.prog w = .ok (.agg #[.pointer (some ⟨11, 98, none⟩), .pointer (some p), .int .u64 386]) w := by kernel_rfl
theorem told_elemV (a p : Addr) (W : World) (ha : W.cell? a = some (.pointer (some p))) :
    (ReflectliteValue.method (ReflectliteValue.valueError "reflectlite.Value.Elem" 0) ReflectliteValue.elem #[.agg #[.pointer (some ⟨11, 195, none⟩), .pointer (some a), .int .u64 150]]).run Tryz.prog W
      = .ok (.agg #[.pointer (some ⟨11, 98, none⟩), .pointer (some p), .int .u64 386]) W := by
  rw [told_rlm]
  simp only [Sem.run_bind, told_partsP, Result.andThen]
  simp [ReflectliteValue.elem, loadVar, isAgg, underlying, Tryz.underlying195, ha, Result.andThen, told_elemOf, told_mkE]
theorem told_rls (v x : Value) : ReflectliteValue.set #[v, x] = (do
    let (some (dst, a, fl), some (src, b, _)) := (← ReflectliteValue.parts v, ← ReflectliteValue.parts x)
      | unsupported (.noEntry "extern/(internal/reflectlite.Value).Set.zeroValue")
    if fl / ReflectliteValue.flagAddr % 2 == 0 then unsupported (.noEntry "extern/(internal/reflectlite.Value).Set.unaddressable")
    let val ← loadVar src b
    if ← Rtype.directlyAssignable dst src then storeVar dst a val
    else if ← Rtype.implements dst src then
      if (← Rtype.kind src) == 20 then
        match val with
        | .nilIface => unsupported (.noEntry "extern/reflectlite: a nil value of one interface type handed on as a value of another")
        | _ => storeVar dst a val
      else storeVar dst a (.iface src val)
    else panicString ("reflectlite.Set: value of type " ++ (← Rtype.spelt src) ++ " is not assignable to type " ++ (← Rtype.spelt dst))
    pure (.tuple #[])) := rfl
theorem told_partsEa (a : Addr) (w : World) : (ReflectliteValue.parts (.agg #[.pointer (some ⟨11, 98, none⟩), .pointer (some a), .int .u64 386])).run Tryz.prog w = .ok (some (98, a, 386)) w := by kernel_rfl
theorem told_partsE (a : Addr) (w : World) : (ReflectliteValue.parts (.agg #[.pointer (some ⟨11, 98, none⟩), .pointer (some a), .int .u64 130])).run Tryz.prog w = .ok (some (98, a, 130)) w := by kernel_rfl
theorem told_direct (w : World) : (Rtype.directlyAssignable 98 98).run Tryz.prog w = .ok true w := by kernel_rfl
theorem told_set (ta b : Addr) (n : Int) (old : Value) (W : World) (hb : W.cell? b = some (.int .i64 n)) (ht : W.cell? ta = some old) (hf : W.frozen? ta = false) :
    (ReflectliteValue.set #[.agg #[.pointer (some ⟨11, 98, none⟩), .pointer (some ta), .int .u64 386], .agg #[.pointer (some ⟨11, 98, none⟩), .pointer (some b), .int .u64 130]]).run Tryz.prog W
      = .ok (.tuple #[]) (W.setCell ta (.int .i64 n)) := by
  rw [told_rls]
  simp only [Sem.run_bind, told_partsEa, told_partsE, Result.andThen]
  simp [ReflectliteValue.flagAddr, loadVar, isAgg, underlying, Tryz.underlying98, hb, Result.andThen, told_direct, storeVar, Value.cells, storeCells, Addr.add]
  rw [run_store Tryz.prog W ta _ _ (by rfl)]
  simp [ht, hf]

set_option maxHeartbeats 4000000 in
theorem as_hit (n : Int) (t : Addr) (old : Value) (w : World) (hg : Glob w) (ht0 : w.cell? t = some old) (hf0 : w.frozen? t = false) :
    Calls Tryz.prog 102 #[.iface 98 (.int .i64 n), .iface 195 (.pointer (some t))] w fun ev w' => ev = .returned (.bool true) ∧ w' = ((((w.alloc (.cells #[.pointer (some t)] 195)).alloc (.cells #[.pointer (some ⟨11, 195, none⟩), .pointer (some ⟨w.heap.size, 0, none⟩), .int .u64 150] 246)).alloc (.cells #[.pointer (some ⟨11, 195, none⟩), .pointer (some ⟨w.heap.size, 0, none⟩), .int .u64 150] 246)).alloc (.cells #[.int .i64 n] 98)).setCell t (.int .i64 n) := by
  have h6 := @run_callFunc_extern Tryz.prog 148 _ (fun args => ReflectliteValue.unpack (args.getD 0 (.tuple #[]))) Tryz.func148 (by kernel_rfl) (by kernel_rfl) (by kernel_rfl) (by kernel_rfl)
  have h7 := @run_callFunc_extern Tryz.prog 149 _ (ReflectliteValue.methodAny (ReflectliteValue.valueError "reflectlite.Value.Type" 0) (fun t _ _ _ => ReflectliteType.toType t)) Tryz.func149 (by kernel_rfl) (by kernel_rfl) (by kernel_rfl) (by kernel_rfl)
  have h8 := @run_callFunc_extern Tryz.prog 150 _ (ReflectliteValue.method (ReflectliteValue.valueError "reflectlite.Value.IsNil" 0) ReflectliteValue.isNil) Tryz.func150 (by kernel_rfl) (by kernel_rfl) (by kernel_rfl) (by kernel_rfl)
  have h27 := @run_callFunc_extern Tryz.prog 275 _ (ReflectliteType.abiMethod fun t => do pure (.int .u8 (← Rtype.kind t))) Tryz.func275 (by kernel_rfl) (by kernel_rfl) (by kernel_rfl) (by kernel_rfl)
  have h37 := @run_callFunc_extern Tryz.prog 288 _ (ReflectliteType.method ReflectliteType.elem) Tryz.func288 (by kernel_rfl) (by kernel_rfl) (by kernel_rfl) (by kernel_rfl)
  have h38 := @run_callFunc_extern Tryz.prog 289 _ (ReflectliteType.relation "Implements" ReflectliteType.implements_) Tryz.func289 (by kernel_rfl) (by kernel_rfl) (by kernel_rfl) (by kernel_rfl)
  have h10 := @run_callFunc_extern Tryz.prog 188 _ ReflectliteType.typeOf Tryz.func188 (by kernel_rfl) (by kernel_rfl) (by kernel_rfl) (by kernel_rfl)
  have h35 := @run_callFunc_extern Tryz.prog 286 _ (ReflectliteType.relation "AssignableTo" ReflectliteType.assignableTo) Tryz.func286 (by kernel_rfl) (by kernel_rfl) (by kernel_rfl) (by kernel_rfl)
  have h11 := @run_callFunc_extern Tryz.prog 189 _ (ReflectliteValue.method (ReflectliteValue.valueError "reflectlite.Value.Elem" 0) ReflectliteValue.elem) Tryz.func189 (by kernel_rfl) (by kernel_rfl) (by kernel_rfl) (by kernel_rfl)
  have h12 := @run_callFunc_extern Tryz.prog 190 _ ReflectliteValue.set Tryz.func190 (by kernel_rfl) (by kernel_rfl) (by kernel_rfl) (by kernel_rfl)
  have tO := told_typeOf
  have mA := told_methodAssignableTo
  have a25 := told_assignable
  have v25 := told_valueOfE
  have f6 := told_valueOfP
  have f7 := told_typeP
  have mK := told_methodKind
  have mE := told_methodElem
  have mI := told_methodImplements
  have k27 := told_kindP
  have k25 := told_kindE
  have e27 := told_elemP
  have i25 := told_implements
  have n8 := told_isNil ⟨w.heap.size, 0, none⟩ t ((w.alloc (.cells #[.pointer (some t)] 195)).alloc (.cells #[.pointer (some ⟨11, 195, none⟩), .pointer (some ⟨w.heap.size, 0, none⟩), .int .u64 150] 246)) (by simp)
  have hlt : 1 < w.heap.size := cell_lt hg
  have hg2 : ((w.alloc (.cells #[.pointer (some t)] 195)).alloc (.cells #[.pointer (some ⟨11, 195, none⟩), .pointer (some ⟨w.heap.size, 0, none⟩), .int .u64 150] 246)).cell? ⟨1, 0, none⟩ = some (.iface 277 (.agg #[.pointer (some ⟨11, 27, none⟩)])) := by
    rw [World.cell?_alloc_lt _ _ ⟨1, 0, none⟩ (by simp; try omega), World.cell?_alloc_lt _ _ ⟨1, 0, none⟩ hlt]; exact hg
  have htl : t.block < w.heap.size := by
    rcases Nat.lt_or_ge t.block w.heap.size with h | h
    · exact h
    · simp [World.cell?, Array.getElem?_eq_none h] at ht0
  have el := told_elemV ⟨w.heap.size, 0, none⟩ t (((w.alloc (.cells #[.pointer (some t)] 195)).alloc (.cells #[.pointer (some ⟨11, 195, none⟩), .pointer (some ⟨w.heap.size, 0, none⟩), .int .u64 150] 246)).alloc (.cells #[.pointer (some ⟨11, 195, none⟩), .pointer (some ⟨w.heap.size, 0, none⟩), .int .u64 150] 246)) (by rw [World.cell?_alloc_lt _ _ ⟨w.heap.size, 0, none⟩ (by simp; omega)]; simp)
  have st := told_set t ⟨w.heap.size + 1 + 1 + 1, 0, none⟩ n old ((((w.alloc (.cells #[.pointer (some t)] 195)).alloc (.cells #[.pointer (some ⟨11, 195, none⟩), .pointer (some ⟨w.heap.size, 0, none⟩), .int .u64 150] 246)).alloc (.cells #[.pointer (some ⟨11, 195, none⟩), .pointer (some ⟨w.heap.size, 0, none⟩), .int .u64 150] 246)).alloc (.cells #[.int .i64 n] 98))
    (by rw [World.cell?_alloc_at _ _ _ _ (by simp)]; rfl)
    (by rw [World.cell?_alloc_lt _ _ t (by simp; omega), World.cell?_alloc_lt _ _ t (by simp; omega), World.cell?_alloc_lt _ _ t (by simp; omega), World.cell?_alloc_lt _ _ t htl]; exact ht0)
    (by rw [World.frozen?_alloc_old _ _ t (by simp; omega), World.frozen?_alloc_old _ _ t (by simp; omega), World.frozen?_alloc_old _ _ t (by simp; omega), World.frozen?_alloc_old _ _ t (Nat.ne_of_lt htl)]; exact hf0)
  clear hg
  go_enter Tryz.func102, Tryz.ntmps102
  go_wp2
  refine wp_loop_rounds 1 ?_
  rw [rounds_succ]
  go_wp2
  go_ret
  exact ⟨rfl, rfl⟩

theorem told_nil (w : World) : Calls Tryz.prog 50 #[.nilIface] w fun e w' => e = .returned (.int .i64 0) ∧ w = w' := by
  go_enter Tryz.func50, Tryz.ntmps50
  go_wp2
  go_ret
  exact ⟨rfl, rfl⟩

set_option maxHeartbeats 1000000 in
theorem told_err (n : Int) (w : World) (hg : Glob w) :
    Calls Tryz.prog 50 #[.iface 98 (.int .i64 n)] w fun e w' => e = .returned (.int .i64 n) ∧ Only [] w w' := by
  have hg1 : Glob (w.alloc (.cells #[.int .i64 0] 98)) := hg.only ((Only.refl [] w).alloc _)
  have hA := as_hit n ⟨w.heap.size, 0, none⟩ (.int .i64 0) (w.alloc (.cells #[.int .i64 0] 98)) hg1 (by simp) (World.frozen?_alloc_at _ _ _ _ rfl)
  clear hg hg1
  go_enter Tryz.func50, Tryz.ntmps50
  go_wp2_with fail
  refine hA.mono ?_
  rintro e w1 ⟨rfl, rfl⟩
  clear hA
  go_wp2
  go_ret
  exact ⟨rfl, (((((Only.refl [] w).alloc _).alloc _).alloc _).alloc _).alloc _⟩

theorem same_nil (n : Int) (w : World) (b : Bool) (hb : decide (n = 0) = b) : Calls Tryz.prog 11 #[.nilIface, .int .i64 n] w fun e w' => e = .returned (.bool b) ∧ w = w' := by
  have hb2 : ((0 : Int) == n) = b := by rw [← hb]; by_cases h : n = 0 <;> simp [h]; exact fun e => h e.symm
  clear hb
  go_enter Tryz.func11, Tryz.ntmps11
  go_wp2_with fail
  refine (told_nil _).mono ?_
  rintro e w1 ⟨rfl, rfl⟩
  go_wp2
  go_ret
  exact ⟨by simp, rfl⟩

theorem same_err (k n : Int) (w : World) (hg : Glob w) (b : Bool) (hb : decide (k = n) = b) : Calls Tryz.prog 11 #[.iface 98 (.int .i64 k), .int .i64 n] w fun e w' => e = .returned (.bool b) ∧ Only [] w w' := by
  have hb2 : (k == n) = b := by rw [← hb]; by_cases h : k = n <;> simp [h]
  clear hb
  go_enter Tryz.func11, Tryz.ntmps11
  go_wp2_with fail
  refine (told_err k _ hg).mono ?_
  rintro e w1 ⟨rfl, ho⟩
  go_wp2
  go_ret
  exact ⟨by simp, ho⟩

end Go.Proofs.YtoofalchkedciaaGreatDoor
