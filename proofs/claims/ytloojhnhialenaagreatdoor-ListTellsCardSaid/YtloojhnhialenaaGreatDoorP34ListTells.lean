/-
  Contract of yardref1.In.
  Contract of yardref2.Each.
  Contracts of yardsame.Stays (of two equal lists) and of yardref2.Ends.
  Contracts of yardsame.Ints (of two equal lists) .
  A list of ints that came in, no longer than what a machine holds (the form's own reach).
-/
import Derived.Test.YtloojhnhialenaaGreatDoorP9ListTells
import Derived.Test.YtloojhnhialenaaGreatDoorP3ListTells
import Derived.Test.YtloojhnhialenaaGreatDoorP20ListTells
import Derived.Test.YtloojhnhialenaaGreatDoorP14ListTells
import Derived.Test.YtloojhnhialenaaGreatDoorP13ListTells
import Derived.Test.YtloojhnhialenaaGreatDoorP15ListTells
import Derived.Deep.CutBlock
import Derived.Deep.DeepCutAuto
import Derived.Test.YtloojhnhialenaaGreatDoorP1ListTells
import Derived.SizedLaws
namespace Go.Proofs.YtloojhnhialenaaGreatDoor
open Go.RowKit

set_option maxHeartbeats 400000 in
theorem ref_in (v : Value) (l : List Int) (x : Int) (w : World) (h : Reads w v l) (hl : l.length ≤ 1000000000) (r : Bool) (hr : decide (x ∈ l) = r) :
    Calls Tryz.prog 74 #[v, .int .i64 x] w fun e w' => e = .returned (.bool r) ∧ w = w' := by
  obtain ⟨a, c, rfl, ha⟩ := h.opt
  obtain ⟨n, hn⟩ : ∃ n, l.length = n := ⟨_, rfl⟩
  have HN := Lib.hid hn
  have HR := Lib.hid hr
  rw [hn] at ha hl ⊢
  clear h hn hr
  go_enter Tryz.func74, Tryz.ntmps74
  go_wp2_with fail
  go_loopw [5] (fun vi wr => ∃ i : Nat, i ≤ n ∧ vi = .int .i64 i ∧ (∀ j, j < i → nth l j ≠ x) ∧ w = wr) (fun vi _ => n - (intOf vi).toNat)
  case atStart => exact ⟨0, Nat.zero_le _, rfl, fun j hj => by omega, rfl⟩
  case round =>
    obtain ⟨i, hi, rfl, hno, rfl⟩ := hrel
    have HNO := Lib.hid hno
    clear hno
    by_cases hin : i < n
    · obtain ⟨b, off, rfl, k0⟩ := ha i hin
      obtain ⟨z, hz⟩ : ∃ z, nth l i = z := ⟨_, rfl⟩
      have HZ := Lib.hid hz
      rw [hz] at k0
      clear ha hz
      by_cases he : z = x
      · have hq : (z == x) = true := by simpa using he
        have hres : Hid (r = true) := by
          show _ = _
          rw [← HR.out, decide_eq_true_eq]
          exact mem_nth.2 ⟨i, by rw [HN.out]; exact hin, by rw [HZ.out]; exact he⟩
        clear he
        go_wp2
        go_ret
        exact ⟨by rw [hres.out]; rfl, rfl⟩
      · have hq : (z == x) = false := by simpa using he
        have HE := Lib.hid he
        clear he
        go_wp2
        go_roundw
        case rel =>
          refine ⟨i + 1, by omega, by go_num, fun j hj => ?_, by trivial⟩
          by_cases e : j = i
          · subst e; rw [HZ.out]; exact HE.out
          · exact HNO.out j (by omega)
        case measure => (simp [intOf]; try omega)
    · obtain rfl : n = i := by omega
      have hres : Hid (r = false) := by
        show _ = _
        rw [← HR.out, decide_eq_false_iff_not]
        intro hm
        obtain ⟨j, hj, e⟩ := mem_nth.1 hm
        exact HNO.out j (by rw [← HN.out]; exact hj) e
      clear ha
      go_wp2
      go_ret
      exact ⟨by rw [hres.out]; rfl, rfl⟩

end Go.Proofs.YtloojhnhialenaaGreatDoor

namespace Go.Proofs.YtloojhnhialenaaGreatDoor
open Go.RowKit Go.Deep

theorem natL_nodup (n : Nat) : (natL (List.range n)).Nodup := by
  unfold natL List.Nodup
  rw [List.pairwise_map]
  exact List.nodup_range.imp (fun {a b} h e => h (by omega))
theorem EachOf.nodup {n : Nat} {l : List Int} (h : EachOf n l) : l.Nodup := (h.nodup_iff).2 (natL_nodup n)
theorem EachOf.rng {n : Nat} {l : List Int} (h : EachOf n l) : ∀ x ∈ l, 0 ≤ x ∧ x < n := fun x hx => by
  have := (h.mem_iff (a := x)).1 hx
  unfold natL at this
  obtain ⟨j, hj, rfl⟩ := List.mem_map.1 this
  have : j < n := by simpa using hj
  omega
theorem each_of {n : Nat} {l : List Int} (h1 : l.length = n) (h2 : ∀ i, i < n → 0 ≤ nth l i ∧ nth l i < n) (h3 : ∀ i, i < n → nth l i ∉ l.take i) : EachOf n l := by
  have hnd : l.Nodup := by
    unfold List.Nodup
    refine List.pairwise_iff_getElem.2 fun i j hi hj hij he => ?_
    refine h3 j (by omega) ?_
    have e : nth l j = l[j] := by simp [nth, hj]
    rw [e, ← he]
    have : (l.take j)[i]'(by rw [List.length_take]; omega) = l[i] := List.getElem_take
    rw [← this]; exact List.getElem_mem _
  have hrg : ∀ x ∈ l, 0 ≤ x ∧ x < n := fun x hx => by
    obtain ⟨i, hi, rfl⟩ := List.getElem_of_mem hx
    have := h2 i (by omega)
    simpa [nth, hi] using this
  refine (List.perm_ext_iff_of_nodup hnd (natL_nodup n)).2 fun a => ⟨fun ha => ?_, fun ha => ?_⟩
  · have := hrg a ha
    unfold natL
    exact List.mem_map.2 ⟨a.toNat, by simp; omega, by omega⟩
  · unfold natL at ha
    obtain ⟨j, hj, rfl⟩ := List.mem_map.1 ha
    have hj : j < n := by simpa using hj
    have := all_there (n := n) (l := l.map Int.toNat) (by
      unfold List.Nodup
      rw [List.pairwise_map]
      refine List.Pairwise.imp_of_mem ?_ hnd
      intro a b ha hb hab he
      have h1 := hrg a ha
      have h2 := hrg b hb
      exact hab (by omega)) (fun x hx => by
        obtain ⟨y, hy, rfl⟩ := List.mem_map.1 hx
        have := hrg y hy
        omega) (by simp; omega) j hj
    obtain ⟨y, hy, he⟩ := List.mem_map.1 this
    have := hrg y hy
    have e : y = (j : Int) := by omega
    rwa [e] at hy

theorem Reads.first {w : World} {a : Option Addr} {n c : Nat} {l : List Int} (h : Reads w (.slice a n c) l) (i : Nat) (hi : i < l.length) : Reads w (.slice a i c) (l.take i) := by
  have hl : (l.take i).length = i := by simp; omega
  rcases h with ⟨h0, _⟩ | ⟨h0, b, off, cap, he, h1, h2, h3⟩
  · subst h0; simp at hi
  · injection he with e1 e2 e3
    subst e1 e2 e3
    by_cases hi0 : i = 0
    · subst hi0
      exact .inl ⟨by simp, .inr ⟨_, c, rfl, h2⟩⟩
    · refine .inr ⟨by omega, b, off, c, by rw [hl], by rw [hl]; omega, h2, fun j hj => ?_⟩
      rw [hl] at hj
      rw [h3 j (by omega)]
      simp [nth, hj]

theorem Reads.room {w : World} {a : Option Addr} {n c : Nat} {l : List Int} (h : Reads w (.slice a n c) l) : n ≤ c := by
  rcases h with ⟨_, h | ⟨x, cap, h, _⟩⟩ | ⟨_, b, off, cap, he, h1, _⟩
  · injection h with _ e _; omega
  · injection h with _ e _; omega
  · injection he with _ e2 e3
    omega

set_option maxRecDepth 100000 in
set_option maxHeartbeats 4000000 in
theorem ref_Each (n : Nat) (v : Value) (l : List Int) (w : World) (h : Reads w v l) (hl : l.length ≤ 9223372036854775807) (hn : n ≤ 1000) :
    Calls Tryz.prog 26 #[.int .i64 (n : Int), v] w fun e w' => e = .returned (.bool (decide (EachOf n l))) ∧ Only [] w w' := by
  obtain ⟨R, hR⟩ : ∃ R, decide (EachOf n l) = R := ⟨_, rfl⟩
  have HR := Lib.hid hR
  rw [hR]
  have HT := Lib.hid h
  obtain ⟨a, cap, rfl, hcell⟩ := h.opt
  by_cases hln : l.length = n
  · have HC := Lib.hid hcell
    have HLN := Lib.hid hln
    have hno : Hid (¬ EachOf n l → R = false) := fun h => by rw [← HR.out]; exact decide_eq_false h
    have hye : Hid (EachOf n l → R = true) := fun h => by rw [← HR.out]; exact decide_eq_true h
    rw [hln] at hl HC HT ⊢
    have hcp := HT.out.room
    clear h hcell hR hln
    go_enter Tryz.func26, Tryz.ntmps26
    go_wp2_with fail
    go_loopw [5, 6] (fun vi _ wr => ∃ i : Nat, i ≤ n ∧ vi = .int .i64 i ∧ (∀ j, j < i → (0 ≤ nth l j ∧ nth l j < n) ∧ nth l j ∉ l.take j) ∧ Only [] w wr) (fun vi _ _ => n - (intOf vi).toNat)
    case atStart => exact ⟨0, Nat.zero_le _, rfl, fun j hj => by omega, Only.refl _ _⟩
    case round =>
      obtain ⟨wo, rfl⟩ : ∃ wo : World, wo = wr := ⟨_, rfl⟩
      obtain ⟨i, hi, rfl, hgood, ho⟩ := hrel
      have HG := Lib.hid hgood
      clear hgood
      by_cases hin : i < n
      · have hil : i < l.length := by rw [HLN.out]; exact hin
        obtain ⟨b, off, rfl, k0⟩ := HC.out i hin
        have c0 := (ho.cell (p := ⟨b, _, none⟩) (cell_lt k0) (by simp)).trans k0
        have hmem : Hid (nth l i ∈ l) := by show _ ∈ _; simp [nth, hil]
        have hrd := (HT.out.same ho).first i hil
        obtain ⟨r, hr⟩ : ∃ r, decide (nth l i ∈ l.take i) = r := ⟨_, rfl⟩
        have HRR := Lib.hid hr
        have HIN := Lib.hid (fun q => ref_in _ (l.take i) (nth l i) (wo.drewN q) (hrd.drewN q) (by rw [List.length_take]; omega) r hr)
        have hrng := Lib.hid (fun (h : EachOf n l) => h.rng _ hmem.out)
        have hndp := Lib.hid (fun (h : EachOf n l) (hm : nth l i ∈ l.take i) => (by
          have h1 := h.nodup
          obtain ⟨j, hj, he⟩ := List.getElem_of_mem hm
          rw [List.length_take] at hj
          rw [List.getElem_take] at he
          have e : nth l i = l[i] := by simp [nth, hil]
          rw [e] at he
          exact (List.pairwise_iff_getElem.1 h1) j i (by omega) hil (by omega) he : False))
        have hnx : Hid (0 ≤ nth l i ∧ nth l i < n → nth l i ∉ l.take i → ∀ j, j < i + 1 → (0 ≤ nth l j ∧ nth l j < n) ∧ nth l j ∉ l.take j) := fun h1 h2 j hj => by
          by_cases e : j = i
          · subst e; exact ⟨h1, h2⟩
          · exact HG.out j (by omega)
        obtain ⟨x, hx⟩ : ∃ x, nth l i = x := ⟨_, rfl⟩
        rw [hx] at c0 HIN HRR hrng hndp hnx
        have HO := Lib.hid ho
        clear hrd hr hx k0 ho
        by_cases hx0 : 0 ≤ x ∧ x < n
        · obtain ⟨x0, x1⟩ := hx0
          cases r with
          | true =>
            have hf : Hid (R = false) := hno.out (fun h => hndp.out h (of_decide_eq_true HRR.out))
            go_wp2_with fail
            go_quiet ((go_at_call 74; exact quiet_eq (HIN.out _)))
            go_wp2
            go_ret
            exact ⟨by rw [hf.out]; rfl, HO.out.drewN _⟩
          | false =>
            have hn2 := Lib.hid (hnx.out ⟨x0, x1⟩ (of_decide_eq_false HRR.out))
            go_wp2_with fail
            go_quiet ((go_at_call 74; exact quiet_eq (HIN.out _)))
            go_wp2
            go_roundw
            case rel => exact ⟨i + 1, by omega, by go_num, hn2.out, HO.out.drewN _⟩
            case measure => (simp [intOf]; try omega)
        · have hf : Hid (R = false) := hno.out (fun h => hx0 (hrng.out h))
          have hcs : x < 0 ∨ (0 ≤ x ∧ (n : Int) ≤ x) := by omega
          clear hx0
          rcases hcs with g1 | ⟨g1, g2⟩
          all_goals
            go_wp2
            go_ret
            exact ⟨by rw [hf.out]; rfl, HO.out⟩
      · obtain rfl : i = n := by omega
        have ht : Hid (R = true) := hye.out (each_of HLN.out (fun j hj => (HG.out j hj).1) (fun j hj => (HG.out j hj).2))
        go_wp2
        go_ret
        exact ⟨by rw [ht.out]; rfl, ho⟩
  · have hf : Hid (R = false) := by
      show _ = _
      rw [← HR.out]
      exact decide_eq_false (fun h => hln (by have := h.length_eq; simpa [natL] using this))
    obtain ⟨m, hm⟩ : ∃ m, l.length = m := ⟨_, rfl⟩
    rw [hm] at hl hln ⊢
    have hne : ((m : Int) == (n : Int)) = false := beq_eq_false_iff_ne.2 (by omega)
    clear h hcell hm hR hln
    go_enter Tryz.func26, Tryz.ntmps26
    go_wp2
    go_ret
    exact ⟨by rw [hf.out]; rfl, Only.refl _ _⟩

end Go.Proofs.YtloojhnhialenaaGreatDoor

namespace Go.Proofs.YtloojhnhialenaaGreatDoor
open Go.RowKit

set_option maxRecDepth 100000 in
set_option maxHeartbeats 1000000 in
theorem same_stays (u v : Value) (bs : List St) (w : World) (hu : StaysAt w u bs) (hv : StaysAt w v bs) (hl : bs.length ≤ 9223372036854775807) :
    Calls Tryz.prog 29 #[u, v] w fun e w' => e = .returned (.bool true) ∧ ∃ n, w' = w.drewN n := by
  obtain ⟨a, ca, rfl, ha⟩ := hu.opt
  obtain ⟨b, cb, rfl, hb⟩ := hv.opt
  obtain ⟨n, hn⟩ : ∃ n, bs.length = n := ⟨_, rfl⟩
  rw [hn] at ha hb hl ⊢
  clear hu hv hn
  go_enter Tryz.func29, Tryz.ntmps29
  go_wp2_with fail
  go_loopw [5] (fun vi wr => ∃ i : Nat, i ≤ n ∧ vi = .int .i64 i ∧ ∃ m, w.drewN m = wr) (fun vi _ => n - (intOf vi).toNat)
  case atStart => exact ⟨0, Nat.zero_le _, rfl, 0, rfl⟩
  case round =>
    obtain ⟨i, hi, rfl, m, rfl⟩ := hrel
    by_cases hin : i < n
    · obtain ⟨ba, oa, rfl, k0, k0', k0'', k0'''⟩ := ha i hin
      obtain ⟨bb, ob, rfl, k1, k1', k1'', k1'''⟩ := hb i hin
      generalize stAt bs i = b9 at *
      obtain ⟨x, y, z, t⟩ := b9
      simp only at k0 k0' k0'' k0''' k1 k1' k1'' k1'''
      clear ha hb
      go_wp2_with fail
      go_quiet (fail)
      go_wp2
      go_roundw
      case rel => exact ⟨i + 1, by omega, by go_num, _, rfl⟩
      case measure => (simp [intOf]; try omega)
    · obtain rfl : i = n := by omega
      clear ha hb
      go_wp2
      go_ret
      exact ⟨rfl, _, rfl⟩

theorem lLong_take {ss : List St} {i : Nat} (h : i < ss.length) : lLong (ss.take (i + 1)) = max (lLong (ss.take i)) (stAt ss i).til := by
  rw [take_st ss i h, lLong_push]

set_option maxRecDepth 100000 in
set_option maxHeartbeats 1000000 in
theorem ref_Ends (v : Value) (bs : List St) (w : World) (hv : StaysAt w v bs) (hl : bs.length ≤ 9223372036854775807) :
    Calls Tryz.prog 30 #[v] w fun e w' => e = .returned (.int .i64 (lLong bs)) ∧ ∃ n, w' = w.drewN n := by
  obtain ⟨a, ca, rfl, ha⟩ := hv.opt
  have HT := Lib.hid (fun i (h : i < bs.length) => lLong_take h)
  have h0 : lLong (bs.take 0) = 0 := rfl
  have hA : bs.take bs.length = bs := List.take_length
  obtain ⟨n, hn⟩ : ∃ n, bs.length = n := ⟨_, rfl⟩
  rw [hn] at ha hl hA HT ⊢
  have hA := Lib.hid hA
  clear hv hn
  go_enter Tryz.func30, Tryz.ntmps30
  go_wp2_with fail
  go_loopw [3, 4] (fun vn vi wr => ∃ i : Nat, i ≤ n ∧ vi = .int .i64 i ∧ vn = .int .i64 (lLong (bs.take i)) ∧ ∃ m, w.drewN m = wr) (fun _ vi _ => n - (intOf vi).toNat)
  case atStart => exact ⟨0, Nat.zero_le _, rfl, by rw [h0], 0, rfl⟩
  case round =>
    obtain ⟨i, hi, rfl, rfl, m, rfl⟩ := hrel
    by_cases hin : i < n
    · obtain ⟨ba, oa, rfl, k0, k0', k0'', k0'''⟩ := ha i hin
      have ht := HT.out i hin
      generalize stAt bs i = b9 at *
      generalize lLong (bs.take i) = q at *
      have ht := Lib.hid ht
      obtain ⟨x, y, z, t⟩ := b9
      simp only at k0 k0' k0'' k0'''
      clear ha h0
      by_cases hq : q < t
      · have hq' : max q t = t := by omega
        rw [hq'] at ht
        go_wp2
        go_roundw
        case rel => exact ⟨i + 1, by omega, by go_num, by rw [ht.out], _, rfl⟩
        case measure => (simp [intOf]; try omega)
      · have hq' : max q t = q := by omega
        rw [hq'] at ht
        have hq2 : t ≤ q := by omega
        go_wp2
        go_roundw
        case rel => exact ⟨i + 1, by omega, by go_num, by rw [ht.out], _, rfl⟩
        case measure => (simp [intOf]; try omega)
    · obtain rfl : i = n := by omega
      clear ha
      go_wp2
      go_ret
      exact ⟨by first | rfl | simp [hA.out], _, rfl⟩

end Go.Proofs.YtloojhnhialenaaGreatDoor

namespace Go.Proofs.YtloojhnhialenaaGreatDoor
open Go.RowKit

set_option maxHeartbeats 1000000 in
theorem same_ints (u v : Value) (xs : List Int) (w : World) (hu : Reads w u xs) (hv : Reads w v xs) (hl : xs.length ≤ 1000000) :
    Calls Tryz.prog 32 #[u, v] w fun e w' => e = .returned (.bool true) ∧ ∃ n, w' = w.drewN n := by
  obtain ⟨a, ca, rfl, ha⟩ := hu.opt
  obtain ⟨b, cb, rfl, hb⟩ := hv.opt
  obtain ⟨n, hn⟩ : ∃ n, xs.length = n := ⟨_, rfl⟩
  rw [hn] at ha hb hl ⊢
  clear hu hv hn
  go_enter Tryz.func32, Tryz.ntmps32
  go_wp2_with fail
  go_loopw [5] (fun vi wr => ∃ i : Nat, i ≤ n ∧ vi = .int .i64 i ∧ ∃ m, wr = w.drewN m) (fun vi _ => n - (intOf vi).toNat)
  case atStart => exact ⟨0, Nat.zero_le _, rfl, 0, rfl⟩
  case round =>
    obtain ⟨i, hi, rfl, m, rfl⟩ := hrel
    by_cases hin : i < n
    · obtain ⟨ba, oa, rfl, k0⟩ := ha i hin
      obtain ⟨bb, ob, rfl, k1⟩ := hb i hin
      obtain ⟨z, hz⟩ : ∃ z, nth xs i = z := ⟨_, rfl⟩
      rw [hz] at k0 k1
      clear ha hb hz
      go_wp2_with fail
      go_quiet (fail)
      go_wp2
      go_roundw
      case rel => exact ⟨i + 1, by omega, by go_num, _, rfl⟩
      case measure => (simp [intOf]; try omega)
    · obtain rfl : i = n := by omega
      clear ha hb
      go_wp2
      go_ret
      exact ⟨rfl, _, rfl⟩


end Go.Proofs.YtloojhnhialenaaGreatDoor

namespace Go.Proofs.YtloojhnhialenaaGreatDoor
open Go.RowKit Go.Deep Go.ChangeShapes Go.WideShapes

theorem bytes_intS : Tryz.prog.bytesOf 3 = 8 := by kernel_rfl

theorem sized_ints {H : Type} {ts : List TypeId} {ds : List (DataW H)} (h : (DataW.weightsEach Tryz.prog ts ds).all (· ≤ reachBytes) = true) (j : Nat) {d : DataW H} (ht : ts[j]? = some 34) (hd : ds[j]? = some d) :
    ∀ elems spare, d = .slice elems spare → (elems.length + spare.length) * 8 ≤ 140737488351232 := by
  rintro elems spare rfl
  have := sized_slice h ht hd Tryz.underlying34
  rw [bytes_intS] at this
  exact this

def SizedInts (w : World) (v : Value) (l : List Int) : Prop := InInts w v l ∧ l.length ≤ 17592186043904

set_option maxRecDepth 100000 in
theorem open_sints {H : Type} {enc : TypeId × Value → H} {W : World} {base : Nat} {v : Value} {d : DataW H} {p : List MemPlace}
    (hv : Value.okWide Tryz.prog W .any base 34 v) (h : DataW.Trod enc Tryz.prog W 0 (fun _ => true) true 34 v d p)
    (hz : ∀ elems spare, d = .slice elems spare → (elems.length + spare.length) * 8 ≤ 140737488351232) : ∃ l, SizedInts W v l := by
  obtain ⟨s, len, cap, rfl⟩ := okWide_slice Tryz.underlying34 hv
  obtain ⟨fuel, hf⟩ := h
  rcases open_ints Tryz.underlying34 Tryz.underlying3 (by kernel_rfl) hf with ⟨hcs, _⟩ | ⟨x, l, c, zs, hcs, _, hl, hm, hzs, hx, hcell, hwz⟩
  · simp [Value.cells] at hcs
    obtain ⟨rfl, rfl, rfl⟩ := hcs
    exact ⟨_, inInts_of_row (.inl ⟨rfl, rfl, rfl, rfl⟩), by simp⟩
  · simp [Value.cells] at hcs
    obtain ⟨rfl, rfl, rfl⟩ := hcs
    have hd := (Prod.mk.inj hx).1
    have hb := hz _ _ hd
    refine ⟨_, inInts_of_row (.inr ⟨_, rfl, hl, hm, by simpa using hzs, hcell, hwz⟩), ?_⟩
    have e1 : (lits .i64 (zs.take len) (H := H)).length = (zs.take len).length := by simp [lits]
    rw [e1] at hb
    omega

theorem SizedInts.only {w w' : World} {v : Value} {l : List Int} (h : SizedInts w v l) (ho : Only [] w w') : SizedInts w' v l := ⟨h.1.only ho, h.2⟩

end Go.Proofs.YtloojhnhialenaaGreatDoor
