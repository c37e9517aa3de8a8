/-
  Contract of yardref1.Cutting.
-/
import Derived.Test.YtadjcooemeaaeaaDoorMore
namespace Go.Proofs.YtadjcooemeaaeaaDoor
open Go.RowKit

theorem cut_lt_take (xs : List Int) (i k : Nat) (z : Int) (h : xs.take (i + 1) = xs.take i ++ [z]) (hl : (xs.take i).length = i) (hik : i < k) : (xs.take i).take k ++ [z] = (xs.take (i + 1)).take k := by
  rw [h]
  generalize xs.take i = ys at *
  rw [List.take_of_length_le (by omega), List.take_of_length_le (by simp; omega)]
theorem cut_lt_drop (xs : List Int) (i k : Nat) (z : Int) (h : xs.take (i + 1) = xs.take i ++ [z]) (hl : (xs.take i).length = i) (hik : i < k) : (xs.take i).drop k = (xs.take (i + 1)).drop k := by
  rw [h]
  generalize xs.take i = ys at *
  rw [List.drop_eq_nil_of_le (by omega), List.drop_eq_nil_of_le (by simp; omega)]
theorem cut_ge_drop (xs : List Int) (i k : Nat) (z : Int) (h : xs.take (i + 1) = xs.take i ++ [z]) (hl : (xs.take i).length = i) (hik : k ≤ i) : (xs.take i).drop k ++ [z] = (xs.take (i + 1)).drop k := by
  rw [h]
  generalize xs.take i = ys at *
  rw [List.drop_append_of_le_length (by omega)]
theorem cut_ge_take (xs : List Int) (i k : Nat) (z : Int) (h : xs.take (i + 1) = xs.take i ++ [z]) (hl : (xs.take i).length = i) (hik : k ≤ i) : (xs.take i).take k = (xs.take (i + 1)).take k := by
  rw [h]
  generalize xs.take i = ys at *
  rw [List.take_append_of_le_length (by omega)]

set_option maxHeartbeats 2000000 in
theorem cutting_apart (v : Value) (xs : List Int) (k : Nat) (w : World) (hv : Reads w v xs) (hl : xs.length ≤ 1000000) (hk : k ≤ 9223372036854775807) :
    Calls Tryd.prog 71 #[v, .int .i64 k] w fun e w' => ∃ va vb, e = .returned (.tuple #[va, vb]) ∧ Ints w' w.heap.size va (xs.take k) ∧ Ints w' w.heap.size vb (xs.drop k) ∧ Only [] w w' ∧ ∀ x ∈ own va, x ∉ own vb := by
  obtain ⟨a, ca, rfl, ha⟩ := hv.opt
  obtain ⟨n, hn⟩ : ∃ n, xs.length = n := ⟨_, rfl⟩
  have HN := Lib.hid hn
  rw [hn] at ha hl ⊢
  clear hv hn
  go_enter Tryd.func71, Tryd.ntmps71
  go_wp2_with fail
  go_loopw [6, 7, 8] (fun vp vq vi wr => ∃ i : Nat, i ≤ n ∧ vi = .int .i64 i ∧ Ints wr w.heap.size vp ((xs.take i).take k) ∧ Ints wr w.heap.size vq ((xs.take i).drop k) ∧ Only [] w wr ∧ (∀ x ∈ own vp, x ∉ own vq)) (fun _ _ vi _ => n - (intOf vi).toNat)
  case atStart => exact ⟨0, Nat.zero_le _, rfl, by simp; exact Ints.nil _ _, by simp; exact Ints.nil _ _, Only.refl _ _, by simp [own, Value.ownBlock]⟩
  case round =>
    obtain ⟨i, hi, rfl, hI, hJ, ho, hd⟩ := hrel
    have hsz := ho.size
    by_cases hin : i < n
    · obtain ⟨ba, oa, rfl, k0⟩ := ha i hin
      have c0 := (ho.cell (p := ⟨ba, _, none⟩) (cell_lt k0) (by simp)).trans k0
      have hst := take_succ_nth xs i (by rw [HN.out]; exact hin)
      have hti : (xs.take i).length = i := by rw [List.length_take, HN.out]; omega
      obtain ⟨z, hz⟩ : ∃ z, nth xs i = z := ⟨_, rfl⟩
      rw [hz] at c0 hst
      obtain ⟨pa, pc, rfl, _⟩ := hI.opt
      obtain ⟨qa, qc, rfl, _⟩ := hJ.opt
      have HD := Lib.hid hd
      obtain ⟨p, hp⟩ : ∃ p, ((xs.take i).take k).length = p := ⟨_, rfl⟩
      obtain ⟨q, hq⟩ : ∃ q, ((xs.take i).drop k).length = q := ⟨_, rfl⟩
      have hpi : p ≤ i := by rw [← hp, List.length_take, hti]; omega
      have hqi : q ≤ i := by rw [← hq, List.length_drop, hti]; omega
      have HP := Lib.hid hp
      have HQ := Lib.hid hq
      rw [hp] at hI HD ⊢
      rw [hq] at hJ HD ⊢
      by_cases hik : i < k
      · have hpl : Hid (p = i) := by show _ = _; rw [← hp, List.length_take, hti]; omega
        have e1 := Lib.hid (cut_lt_take xs i k z hst hti hik)
        have e2 := Lib.hid (cut_lt_drop xs i k z hst hti hik)
        rw [hpl.out] at hI HD HP ⊢
        clear ha k0 hst hti hz hd hp hq
        go_wp2_with (at_builtin; refine wpList_push rfl (.tmp 18) (.tmp 23) rfl wr w.heap.size _ _ _ z i hI HP.out (by omega) hsz rfl rfl ((Only.refl [] wr).alloc _) (World.cell?_alloc_at _ _ _ _ rfl) ?_; intro g cap w3 hI3 hO3 hK3)
        rw [e1.out] at hI3
        have hJ3 := hJ.only hO3 (fun g9 h9 hx => HD.out g9 hx (own_of h9))
        rw [e2.out] at hJ3
        have ho3 := Lib.hid (ho.pushed hI (Nat.le_refl _) hO3)
        have hd3 : Hid (∀ x ∈ own (Value.slice (some ⟨g, 0, none⟩) (i + 1) cap), x ∉ own (Value.slice qa q qc)) := by
          show ∀ x ∈ _, _
          intro x hx hx2
          obtain rfl : x = g := by simpa [own, Value.ownBlock] using hx
          rcases hK3 with h | h
          · exact HD.out _ h hx2
          · have := (hJ.own_lt _ hx2).2; omega
        go_roundw
        case rel => exact ⟨i + 1, by omega, by go_num, hI3, hJ3, ho3.out, hd3.out⟩
        case measure => (simp [intOf]; try omega)
      · have hki : k ≤ i := by omega
        have e1 := Lib.hid (cut_ge_drop xs i k z hst hti (by omega))
        have e2 := Lib.hid (cut_ge_take xs i k z hst hti (by omega))
        clear ha k0 hst hti hz hd hp hq
        go_wp2_with (at_builtin; refine wpList_push rfl (.tmp 25) (.tmp 30) rfl wr w.heap.size _ _ _ z q hJ HQ.out (by omega) hsz rfl rfl ((Only.refl [] wr).alloc _) (World.cell?_alloc_at _ _ _ _ rfl) ?_; intro g cap w3 hJ3 hO3 hK3)
        rw [e1.out] at hJ3
        have hI3 := hI.only hO3 (fun g9 h9 hx => HD.out g9 (own_of h9) hx)
        rw [e2.out] at hI3
        have ho3 := Lib.hid (ho.pushed hJ (Nat.le_refl _) hO3)
        have hd3 : Hid (∀ x ∈ own (Value.slice pa p pc), x ∉ own (Value.slice (some ⟨g, 0, none⟩) (q + 1) cap)) := by
          show ∀ x ∈ _, _
          intro x hx hx2
          obtain rfl : x = g := by simpa [own, Value.ownBlock] using hx2
          rcases hK3 with h | h
          · exact HD.out _ hx h
          · have := (hI.own_lt _ hx).2; omega
        go_roundw
        case rel => exact ⟨i + 1, by omega, by go_num, hI3, hJ3, ho3.out, hd3.out⟩
        case measure => (simp [intOf]; try omega)
    · obtain rfl : i = n := by omega
      rw [show xs.take i = xs from List.take_of_length_le (by rw [HN.out]; exact Nat.le_refl _)] at hI hJ
      clear ha
      go_wp2
      go_ret2
      exact ⟨_, _, rfl, hI, hJ, ho, hd⟩

theorem cutting (v : Value) (xs : List Int) (k : Nat) (w : World) (hv : Reads w v xs) (hl : xs.length ≤ 1000000) (hk : k ≤ 9223372036854775807) :
    Calls Tryd.prog 71 #[v, .int .i64 k] w fun e w' => ∃ va vb, e = .returned (.tuple #[va, vb]) ∧ Ints w' w.heap.size va (xs.take k) ∧ Ints w' w.heap.size vb (xs.drop k) ∧ Only [] w w' :=
  (cutting_apart v xs k w hv hl hk).mono fun _ _ ⟨va, vb, h1, h2, h3, h4, _⟩ => ⟨va, vb, h1, h2, h3, h4⟩

end Go.Proofs.YtadjcooemeaaeaaDoor
