/-
  Contracts of yardref1.Order and yardref1.Work.
  An op that came in.
  A list of ints that came in, no longer than what a machine holds (the form's own reach).
  yardsame.Error at an error and its own number.
-/
import Derived.Test.YtmopbimineoogaaDoorP24CellsTell
import Derived.Test.YtmopbimineoogaaDoorP17CellsTell
import Derived.Test.YtmopbimineoogaaDoorP33CellsTell
import Derived.Test.YtmopbimineoogaaDoorP18CellsTell
import Derived.ChangeSame
import Derived.Deep.CutBlock
import Derived.Test.YtmopbimineoogaaDoorP1CellsTell
import Derived.SizedLaws
import Derived.Test.YtmopbimineoogaaDoorP5CellsTell
import Derived.Test.YtmopbimineoogaaDoorP16CellsTell
import Derived.Test.YtmopbimineoogaaDoorP2CellsTell
namespace Go.Proofs.YtmopbimineoogaaDoor
open Go.RowKit Go.Deep


set_option maxRecDepth 100000 in
set_option maxHeartbeats 4000000 in
theorem ref_Order (v : Value) (p : PlanL) (w : World) (h : InPlan w v p) (hok : PlanOk p) :
    Calls Tryd.prog 20 #[v] w fun e w' => ∃ v', e = .returned v' ∧ Ints w' w.heap.size v' (natL (orderOf p)) ∧ Only [] w w' := by
  have HP := Lib.hid h
  have HO := Lib.hid hok
  have HN := Lib.hid hok.needsOk
  obtain ⟨a, cap, rfl, hc1, hc2, _⟩ := h.task
  obtain ⟨n, hn⟩ : ∃ n, p.length = n := ⟨_, rfl⟩
  have HL := Lib.hid hn
  rw [hn] at hc1 HP ⊢
  have h30 : n ≤ 30 := by rw [← hn]; exact hok.len
  have hmk := make_bools n (by omega)
  have hB1 := made_bools w n
  have ho1 := (Only.refl [] w).alloc (.cells (madeCells #[.bool false] n) 4)
  have hI1 : Ints (w.alloc (.cells (madeCells #[.bool false] n) 4)) (w.heap.size + 1) (.slice none 0 0) (natL (topo p 0)) := Ints.nil _ _
  clear h hn hok
  go_enter Tryd.func20, Tryd.ntmps20
  go_wp2_with fail
  go_loopw [4, 5, 6] (fun vo _ _ wr => ∃ k : Nat, k ≤ n ∧ Ints wr (w.heap.size + 1) vo (natL (topo p k)) ∧ Bools wr w.heap.size n (fun j => (topo p k).contains j) ∧ Only [] w wr ∧ w.heap.size < wr.heap.size) (fun vo _ _ _ => n - (lenOfV vo))
  case atStart => exact ⟨0, Nat.zero_le _, hI1, hB1, ho1, by simp⟩
  case round =>
    obtain ⟨wo, rfl⟩ : ∃ wo : World, wo = wr := ⟨_, rfl⟩
    clear hI1 hB1 ho1
    obtain ⟨k, hk, hI, hB, ho, hgt⟩ := hrel
    have htl := topo_len HO.out k (by rw [HL.out]; exact hk)
    obtain ⟨va, vc, rfl, _⟩ := hI.opt
    rw [natL_len, htl] at hI ⊢
    by_cases hkn : k < n
    · go_wp2_with fail
      go_loopw [4, 5, 6] (fun vo vi _ wr => ∃ i : Nat, i ≤ n ∧ vo = .slice va k vc ∧ vi = .int .i64 i ∧ (∀ j, j < i → readyB p (fun j => (topo p k).contains j) j = false) ∧ wo = wr) (fun _ vi _ _ => n - (intOf vi).toNat)
      case atStart => exact ⟨0, Nat.zero_le _, rfl, rfl, fun j hj => by omega, rfl⟩
      case round =>
        obtain ⟨i, hi, rfl, rfl, hnr, rfl⟩ := hrel
        have HNR := Lib.hid hnr
        clear hnr
        by_cases hin : i < n
        · have hF := ref_Free _ p i w.heap.size n (fun j => (topo p k).contains j) wo (HP.out.same ho) HN.out hB (by rw [HL.out]; exact hin) HL.out
          have cA : wo.cell? ⟨w.heap.size, i, none⟩ = some (.bool ((topo p k).contains i)) := (hB i hin).1
          have fA := (hB i hin).2
          have hre := ready_free p (fun j => (topo p k).contains j) i
          obtain ⟨fr, hfr⟩ : ∃ b, freeB p (fun j => (topo p k).contains j) i = b := ⟨_, rfl⟩
          obtain ⟨fi, hfi⟩ : ∃ b, (topo p k).contains i = b := ⟨_, rfl⟩
          rw [hfr] at hF hre
          rw [hfi] at cA
          simp only [hfi] at hre
          have HRE := Lib.hid hre
          clear hfr hfi hre
          by_cases hr : fi = false ∧ fr = true
          · obtain ⟨rfl, rfl⟩ := hr
            have hst : Hid (topo p (k + 1) = topo p k ++ [i]) := by
              show _ = _
              obtain ⟨i2, h1, h2, h3, h4⟩ := topo_step HO.out k (by rw [HL.out]; exact hkn) htl
              have : i2 = i := by
                rcases Nat.lt_trichotomy i2 i with hl | hl | hl
                · have := HNR.out i2 hl; rw [this] at h2; cases h2
                · exact hl
                · have := h3 i hl
                  rw [HRE.out] at this; cases this
              rw [h4, this]
            have hset : Only [w.heap.size] wo (wo.setCell ⟨w.heap.size, i, none⟩ (.bool true)) := (Only.refl _ _).setCell (by simp) _
            have hIw := hI.only hset (fun g hg hx => by have h1 := (hI.own_lt g (own_of hg)).1; simp at hx; omega)
            have hBw : Bools (wo.setCell ⟨w.heap.size, i, none⟩ (.bool true)) w.heap.size n (fun j => (topo p (k + 1)).contains j) := by
              have h1 := hB.set i true
              have e : (fun j => if j = i then true else (topo p k).contains j) = fun j => (topo p (k + 1)).contains j := by
                funext j
                rw [hst.out]
                by_cases e : j = i
                · subst e; simp
                · simp [e]
              rw [e] at h1
              exact h1
            have hwW : Only [] w (wo.setCell ⟨w.heap.size, i, none⟩ (.bool true)) := ho.trans hset (by simp)
            have hszW : w.heap.size + 1 ≤ (wo.setCell ⟨w.heap.size, i, none⟩ (.bool true)).heap.size := by simp; omega
            have hlk := natL_len (topo p k)
            clear hset hI hB ho
            obtain ⟨W, hW⟩ : ∃ W, wo.setCell ⟨w.heap.size, i, none⟩ (.bool true) = W := ⟨_, rfl⟩
            rw [hW] at hIw hBw hwW hszW
            go_wp2_with fail
            refine hF.mono ?_
            rintro e w1 ⟨rfl, hw1⟩
            subst hw1
            clear hF
            go_wp2_with (at_builtin; refine wpList_push rfl (.tmp 36) (.tmp 38) rfl W (w.heap.size + 1) _ _ W.heap.size i k hIw (by rw [hlk, htl]) (by omega) hszW rfl rfl ((Only.refl [] W).alloc _) (World.cell?_alloc_at _ _ _ _ rfl) ?_; intro g cap3 w3 hI3 hO3 hK3)
            rw [← natL_push, ← hst.out] at hI3
            have hB4 := Lib.hid (hBw.only hO3 (fun hx => by have := (hIw.own_lt _ hx).1; omega))
            have ho4 := Lib.hid (hwW.trans hO3 (fun x hx hl => by have := (hIw.own_lt _ hx).1; omega))
            have hs4 : Hid (w.heap.size < w3.heap.size) := by show _ < _; have := hO3.size; omega
            clear hIw hBw hO3 hwW hW
            go_roundw
            case rel => exact ⟨k + 1, by omega, hI3, hB4.out, ho4.out, hs4.out⟩
            case measure => (simp [lenOfV]; omega)
          · have hf : Hid (readyB p (fun j => (topo p k).contains j) i = false) := by
              show _ = _
              rw [HRE.out]
              cases fi <;> cases fr <;> simp at hr ⊢
            cases fi
            · cases fr
              · go_wp2_with fail
                refine hF.mono ?_
                rintro e w1 ⟨rfl, hw1⟩
                subst hw1
                clear hF
                go_wp2
                go_roundw
                case rel =>
                  refine ⟨i + 1, by omega, rfl, by go_num, fun j hj => ?_, trivial⟩
                  by_cases e : j = i
                  · subst e; exact hf.out
                  · exact HNR.out j (by omega)
                case measure => (simp [intOf]; try omega)
              · exact absurd ⟨rfl, rfl⟩ hr
            · clear hr
              cases fr
              all_goals
                go_wp2_with fail
                refine hF.mono ?_
                rintro e w1 ⟨rfl, hw1⟩
                subst hw1
                clear hF
                go_wp2
                go_roundw
                case rel =>
                  refine ⟨i + 1, by omega, rfl, by go_num, fun j hj => ?_, trivial⟩
                  by_cases e : j = i
                  · subst e; exact hf.out
                  · exact HNR.out j (by omega)
                case measure => (simp [intOf]; try omega)
        · obtain rfl : i = n := by omega
          exfalso
          obtain ⟨i0, h1, h2⟩ := exists_ready HO.out (fun j => (topo p k).contains j) (exists_notin (topo p k) p.length (by rw [htl, HL.out]; exact hkn))
          rw [HNR.out i0 (by rw [← HL.out]; exact h1)] at h2
          cases h2
    · obtain rfl : k = n := by omega
      clear hB
      go_wp2
      go_ret
      refine ⟨_, rfl, ?_, ho⟩
      have e : orderOf p = topo p k := by unfold orderOf; rw [HL.out]
      rw [e]
      exact hI.mono (by omega)

end Go.Proofs.YtmopbimineoogaaDoor

namespace Go.Proofs.YtmopbimineoogaaDoor
open Go.RowKit Go.Deep Go.ChangeShapes Go.WideShapes

/-- The value v is the op o, that came in. -/
def IsOp (_ : World) (v : Value) (o : Opn) : Prop := v = opV o ∧ opWf o

set_option maxRecDepth 100000 in
theorem open_op1 {H : Type} {enc : TypeId × Value → H} {W : World} {base : Nat} {v : Value} {d : DataW H} {p : List MemPlace}
    (hv : Value.okWide Tryd.prog W .any base 48 v) (h : DataW.Trod enc Tryd.prog W 0 (fun _ => true) true 48 v d p) : ∃ o, IsOp W v o := by
  obtain ⟨cs, rfl, hsz⟩ := okWide_struct Tryd.underlying48 hv
  obtain ⟨fuel, hf⟩ := h
  have hc : Tryd.prog.cellsOf 48 = 2 := by kernel_rfl
  have hci : Tryd.prog.cellsOf 3 = 1 := by kernel_rfl
  rw [hc] at hsz
  obtain ⟨c0, c1, hcs⟩ : ∃ c0 c1, cs = #[c0, c1] := by
    match cs, hsz with
    | ⟨[a, b]⟩, _ => exact ⟨a, b, rfl⟩
  subst hcs
  obtain ⟨y0, y1, n, _, _, h0, h1⟩ := trod_struct2 Tryd.underlying48 hf
  simp [Value.cells, hci] at h0 h1
  obtain ⟨a, e0, _, wa⟩ := DataW.trod_int Tryd.underlying3 h0
  obtain ⟨b, e1, _, wb⟩ := DataW.trod_int Tryd.underlying3 h1
  simp at e0 e1
  exact ⟨⟨a, b⟩, by rw [e0, e1]; rfl, wa, wb⟩

end Go.Proofs.YtmopbimineoogaaDoor

namespace Go.Proofs.YtmopbimineoogaaDoor
open Go.RowKit Go.Deep Go.ChangeShapes Go.WideShapes

theorem bytes_intS : Tryd.prog.bytesOf 3 = 8 := by kernel_rfl

theorem sized_ints {H : Type} {ts : List TypeId} {ds : List (DataW H)} (h : (DataW.weightsEach Tryd.prog ts ds).all (· ≤ reachBytes) = true) (j : Nat) {d : DataW H} (ht : ts[j]? = some 27) (hd : ds[j]? = some d) :
    ∀ elems spare, d = .slice elems spare → (elems.length + spare.length) * 8 ≤ 140737488351232 := by
  rintro elems spare rfl
  have := sized_slice h ht hd Tryd.underlying27
  rw [bytes_intS] at this
  exact this

def SizedInts (w : World) (v : Value) (l : List Int) : Prop := InInts w v l ∧ l.length ≤ 17592186043904

set_option maxRecDepth 100000 in
theorem open_sints {H : Type} {enc : TypeId × Value → H} {W : World} {base : Nat} {v : Value} {d : DataW H} {p : List MemPlace}
    (hv : Value.okWide Tryd.prog W .any base 27 v) (h : DataW.Trod enc Tryd.prog W 0 (fun _ => true) true 27 v d p)
    (hz : ∀ elems spare, d = .slice elems spare → (elems.length + spare.length) * 8 ≤ 140737488351232) : ∃ l, SizedInts W v l := by
  obtain ⟨s, len, cap, rfl⟩ := okWide_slice Tryd.underlying27 hv
  obtain ⟨fuel, hf⟩ := h
  rcases open_ints Tryd.underlying27 Tryd.underlying3 (by kernel_rfl) hf with ⟨hcs, _⟩ | ⟨x, l, c, zs, hcs, _, hl, hm, hzs, hx, hcell, hwz⟩
  · simp [Value.cells] at hcs
    obtain ⟨rfl, rfl, rfl⟩ := hcs
    exact ⟨_, inInts_of_row (.inl ⟨rfl, rfl, rfl, rfl⟩), by simp⟩
  · simp [Value.cells] at hcs
    obtain ⟨rfl, rfl, rfl⟩ := hcs
    have hd := (Prod.mk.inj hx).1
    have hb := hz _ _ hd
    refine ⟨_, inInts_of_row (.inr ⟨_, rfl, hl, hm, by simpa using hzs, hcell, hwz⟩), ?_⟩
    have e1 : (lits .i64 (zs.take len) (H := H)).length = (zs.take len).length := by simp [lits]
    rw [e1] at hb
    omega

theorem SizedInts.only {w w' : World} {v : Value} {l : List Int} (h : SizedInts w v l) (ho : Only [] w w') : SizedInts w' v l := ⟨h.1.only ho, h.2⟩

end Go.Proofs.YtmopbimineoogaaDoor

namespace Go.Proofs.YtmopbimineoogaaDoor
open Go.RowKit

theorem same_errV (n : Int) (w : World) (hg : Glob w) : Calls Tryd.prog 8 #[errV n, .int .i64 n] w fun e w' => e = .returned (.bool true) ∧ Only [] w w' := by
  by_cases h : n = 0
  · subst h
    rw [errV_zero]
    refine (same_nil 0 w true rfl).mono ?_
    rintro e w' ⟨he, rfl⟩
    exact ⟨he, Only.refl _ _⟩
  · rw [errV_ne h]
    exact same_err n n w hg true (by simp)

end Go.Proofs.YtmopbimineoogaaDoor
