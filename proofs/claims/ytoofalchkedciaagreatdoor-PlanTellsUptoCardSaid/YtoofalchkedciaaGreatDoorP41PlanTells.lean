/-
  Contract of yardref1.Above.
-/
import Derived.Test.YtoofalchkedciaaGreatDoorP40PlanTells
import Derived.Test.YtoofalchkedciaaGreatDoorP14PlanTells
namespace Go.Proofs.YtoofalchkedciaaGreatDoor
open Go.RowKit Go.Deep

theorem need2_take (p : PlanL) (i k xn : Nat) (hk : k < (ndOf p i).length) (hx : nth (ndOf p i) k = (xn : Int)) :
    (fun y => if y = xn then true else decide ((y : Int) ∈ (ndOf p i).take k)) = fun (y : Nat) => decide ((y : Int) ∈ (ndOf p i).take (k + 1)) := by
  funext y
  rw [take_succ_nth _ k hk, hx]
  by_cases e : y = xn
  · subst e; simp
  · rw [if_neg e]
    apply decide_eq_decide.2
    rw [List.mem_append, List.mem_singleton]
    constructor
    · exact .inl
    · rintro (h | h)
      · exact h
      · omega

set_option maxRecDepth 100000 in
set_option maxHeartbeats 4000000 in
theorem ref_Above (v : Value) (p : PlanL) (w : World) (h : InPlan w v p) (hn : NeedsOk p) :
    Calls Tryz.prog 47 #[v] w fun e w' => ∃ v' g, e = .returned v' ∧ Table w' w.heap.size v' p.length p.length g (aboveOf p) ∧ Only [] w w' := by
  have HP := Lib.hid h
  have HN := Lib.hid hn
  obtain ⟨a, cap, rfl, hc1, hc2, _⟩ := h.task
  obtain ⟨n, hnn⟩ : ∃ n, p.length = n := ⟨_, rfl⟩
  have HL := Lib.hid hnn
  rw [hnn] at hc1 HP ⊢
  have h30 : n ≤ 30 := by rw [← hnn]; exact hn.1
  have hmk := make_bools n (by omega)
  clear h hnn hn hc2
  go_enter Tryz.func47, Tryz.ntmps47
  go_wp2_with fail
  go_loopw [3, 4, 5, 6] (fun vo vi _ _ wr => ∃ i : Nat, i ≤ n ∧ vi = .int .i64 i ∧ ∃ g, Table wr w.heap.size vo n i g (need2 p) ∧ Only [] w wr) (fun _ vi _ _ _ => n - (intOf vi).toNat)
  case atStart => exact ⟨0, Nat.zero_le _, rfl, fun _ => 0, Table.nil _ _ _ _ _, Only.refl _ _⟩
  case round =>
    obtain ⟨wo, rfl⟩ : ∃ wo : World, wo = wr := ⟨_, rfl⟩
    obtain ⟨i, hi, rfl, g, hT, ho⟩ := hrel
    obtain ⟨oa, oc, rfl, _, _, hoa⟩ := hT.form
    have HT := Lib.hid hT
    have hsz := ho.size
    by_cases hin : i < n
    · obtain ⟨b, off, rfl⟩ := HP.out.any i (by rw [HL.out]; exact hin)
      obtain ⟨m, hm⟩ : ∃ m, (ndOf p i).length = m := ⟨_, rfl⟩
      have HM := Lib.hid hm
      have hm30 : m ≤ 30 := by have := HN.out.2.2 i; rw [hm] at this; exact this
      have hB0 := made_bools wo n
      have hal := (Only.refl [] wo).alloc (.cells (madeCells #[.bool false] n) 4)
      obtain ⟨w1, hw1⟩ : ∃ w1, wo.alloc (.cells (madeCells #[.bool false] n) 4) = w1 := ⟨_, rfl⟩
      have hs1 : w1.heap.size = wo.heap.size + 1 := by rw [← hw1]; simp
      rw [hw1] at hB0 hal
      have ho1 := ho.trans hal (by simp)
      have hB1 : Bools w1 wo.heap.size n (fun y => decide ((y : Int) ∈ (ndOf p i).take 0)) := by simpa using hB0
      obtain ⟨ua, uc, _, c1, _⟩ := (HP.out.same ho1).at i (by rw [HL.out]; exact hin)
      rw [hm] at c1
      clear hT hB0 hm
      go_wp2_with fail
      go_loopw [6] (fun vk wr => ∃ k : Nat, k ≤ m ∧ vk = .int .i64 k ∧ Bools wr wo.heap.size n (fun y => decide ((y : Int) ∈ (ndOf p i).take k)) ∧ Only [wo.heap.size] w1 wr) (fun vk _ => m - (intOf vk).toNat)
      case atStart => exact ⟨0, Nat.zero_le _, rfl, hB1, Only.refl _ _⟩
      case round =>
        clear hB1 c1
        obtain ⟨k, hk, rfl, hB, hor⟩ := hrel
        have hwr : Only [] w wr := ho1.trans hor (by simp; omega)
        obtain ⟨ua2, uc2, _, c1, hrd⟩ := (HP.out.same hwr).at i (by rw [HL.out]; exact hin)
        rw [HM.out] at c1 hrd
        by_cases hlk : k < m
        · have hkl : k < (ndOf p i).length := by rw [HM.out]; exact hlk
          obtain ⟨la, lc, e, hcl⟩ := hrd.opt
          obtain ⟨lb, lo, rfl, cx⟩ := hcl k hkl
          injection e with e1 e2 e3
          subst e1
          have hx := HN.out.2.1 i (nth (ndOf p i) k) (by unfold nth; rw [List.getElem?_eq_getElem hkl]; exact List.getElem_mem hkl)
          obtain ⟨xn, hxn⟩ := Int.eq_ofNat_of_zero_le hx.1
          have hB2 := hB.set xn true
          rw [need2_take p i k xn hkl hxn] at hB2
          rw [hxn] at cx hx
          rw [HL.out] at hx
          have hxl : xn < n := by omega
          have hset : Only [wo.heap.size] wr (wr.setCell ⟨wo.heap.size, xn, none⟩ (.bool true)) := (Only.refl _ _).setCell (by simp) _
          have hor2 := Lib.hid (hor.trans hset (by simp))
          obtain ⟨cb0, fb0⟩ := hB xn hxl
          have hB2 := Lib.hid hB2
          clear hB hrd hcl hx hset hor hwr hxn
          go_wp2
          go_roundw
          case rel => exact ⟨k + 1, by omega, by go_num, hB2.out, hor2.out⟩
          case measure => (simp [intOf]; try omega)
        · obtain rfl : k = m := by omega
          have hwor : Only [] wo wr := hal.trans hor (by simp)
          have hT := HT.out.same hwor
          have hB2 : Bools wr wo.heap.size n (need2 p i) := by
            rw [List.take_of_length_le (by rw [HM.out]; exact Nat.le_refl _)] at hB
            exact hB
          have hszr := hwor.size
          have hszr2 := hor.size
          have hone : Hid (RowAt (wr.alloc (.cells #[.slice (some ⟨wo.heap.size, 0, none⟩) n n] 97)) (.slice (some ⟨wr.heap.size, 0, none⟩) 1 1) 1 1 [.slice (some ⟨wo.heap.size, 0, none⟩) n n]) :=
            RowAt.one (cs := #[.slice (some ⟨wo.heap.size, 0, none⟩) n n]) (heap_alloc_new _ _) rfl (by intro y hy; simp at hy; subst hy; rfl)
          have HT2 := Lib.hid hT
          have HR := Lib.hid hT.row
          have HB := Lib.hid hB2
          have HO := Lib.hid hwr
          have hbr : w.heap.size ≤ wr.heap.size := by omega
          have hbl : wo.heap.size < wr.heap.size := by omega
          clear hT hB hB2 hwr hor hrd hwor hlk
          go_wp2_with (at_builtin; refine wpList_append_rows sliceOf_rowsB rfl (.tmp 39) (.tmp 41) rfl wr w.heap.size _ i _ _ 1 _ HR.out hone.out (by omega) hbr rfl rfl ((Only.refl [] wr).alloc _) ?_; intro v' w' hI hOn hK)
          have hT3 : Hid (Table w' w.heap.size v' n (i + 1) (fun y => if y = i then wo.heap.size else g y) (need2 p)) := by
            refine Table.congr (HT2.out.push HB.out ⟨hsz, hbl⟩ (fun hx => ?_) (fun y hy => ?_) hI hOn hK) (fun y k hy _ => ?_)
            · have := (Row.far HT.out.row _ hx).2; omega
            · have := (HT.out.far y hy).2.1; omega
            · split
              · rename_i e; rw [e]
              · rfl
          have ho3 : Hid (Only [] w w') := HO.out.trans hOn (fun x hx hl => by have := (Row.far HR.out x hx).1; omega)
          clear hI hOn hK
          go_wp2
          go_roundw
          case rel => exact ⟨i + 1, by omega, by go_num, _, hT3.out, ho3.out⟩
          case measure => (simp [intOf]; try omega)
    · obtain rfl : i = n := by omega
      clear hin hi hmk
      go_wp2_with fail
      go_loopw [7, 8, 9] (fun vm _ _ wr => ∃ m : Nat, m ≤ i ∧ vm = .int .i64 m ∧ ∃ F, Table wr w.heap.size (.slice oa i oc) i i g F ∧ Sound p F ∧ Full p m F ∧ Only [] w wr) (fun vm _ _ _ => i - (intOf vm).toNat)
      case atStart => exact ⟨0, Nat.zero_le _, rfl, _, HT.out, need2_sound p, need2_full p, ho⟩
      case round =>
        obtain ⟨m, hm, rfl, F, hT1, hS, hF, ho1⟩ := hrel
        by_cases hmi : m < i
        · obtain ⟨A, rfl, _⟩ := hoa (by omega)
          go_wp2_with fail
          go_loopw [8, 9] (fun vi _ wr => ∃ x : Nat, x ≤ i ∧ vi = .int .i64 x ∧ ∃ F, Table wr w.heap.size (.slice (some ⟨A, 0, none⟩) i oc) i i g F ∧ Sound p F ∧ Full p m F ∧ Part p m x 0 F ∧ Only [] w wr) (fun vi _ _ => i - (intOf vi).toNat)
          case atStart => exact ⟨0, Nat.zero_le _, rfl, _, hT1, hS, hF, Part.zero _ _ _, ho1⟩
          case round =>
            clear hT1 hS hF ho1
            obtain ⟨x, hx, rfl, F, hT1, hS, hF, hPt, ho1⟩ := hrel
            by_cases hxi : x < i
            · go_wp2_with fail
              go_loopw [9] (fun vk wr => ∃ k : Nat, k ≤ i ∧ vk = .int .i64 k ∧ ∃ F, Table wr w.heap.size (.slice (some ⟨A, 0, none⟩) i oc) i i g F ∧ Sound p F ∧ Full p m F ∧ Part p m x k F ∧ Only [] w wr) (fun vk _ => i - (intOf vk).toNat)
              case atStart => exact ⟨0, Nat.zero_le _, rfl, _, hT1, hS, hF, hPt, ho1⟩
              case round =>
                clear hT1 hS hF ho1 hPt
                obtain ⟨k, hk, rfl, F, hT1, hS, hF, hPt, ho1⟩ := hrel
                by_cases hki : k < i
                · have cx := hT1.cellRow x hxi
                  have cm := hT1.cellRow m hmi
                  have bx := (hT1.bools x hxi m hmi).1
                  have bm := (hT1.bools m hmi k hki).1
                  have bk := hT1.bools x hxi k hki
                  have hpl : p.length = i := HL.out
                  cases h1 : F x m
                  · rw [h1] at bx
                    have hPt2 := Lib.hid (hPt.skip hF (by omega) (by omega) (by rw [h1]; rfl))
                    have R := Lib.hid (show _ ∧ _ ∧ _ ∧ _ from ⟨hT1, hS, hF, ho1⟩)
                    clear hT1 hS hF ho1 hPt bm bk h1 hpl
                    go_wp2
                    go_roundw
                    case rel => exact ⟨k + 1, by omega, by go_num, _, R.out.1, R.out.2.1, R.out.2.2.1, hPt2.out, R.out.2.2.2⟩
                    case measure => (simp [intOf]; try omega)
                  · cases h2 : F m k
                    · rw [h1] at bx
                      rw [h2] at bm
                      have hPt2 := Lib.hid (hPt.skip hF (by omega) (by omega) (by rw [h1, h2]; rfl))
                      have R := Lib.hid (show _ ∧ _ ∧ _ ∧ _ from ⟨hT1, hS, hF, ho1⟩)
                      clear hT1 hS hF ho1 hPt bk h1 h2 hpl
                      go_wp2
                      go_roundw
                      case rel => exact ⟨k + 1, by omega, by go_num, _, R.out.1, R.out.2.1, R.out.2.2.1, hPt2.out, R.out.2.2.2⟩
                      case measure => (simp [intOf]; try omega)
                    · rw [h1] at bx
                      rw [h2] at bm
                      obtain ⟨bk1, bk2⟩ := bk
                      have hfar := (hT1.far x hxi).1
                      have hT2 := Lib.hid (hT1.set x k hxi)
                      have hS2 := Lib.hid (hS.put (i := x) (m := m) (k := k) (by omega) (by omega) (by omega) (by rw [h1, h2]; rfl))
                      have hF2 := Lib.hid (hF.put x k)
                      have hPt2 := Lib.hid hPt.put
                      have ho2 : Hid (Only [] w (wr.setCell ⟨g x, k, none⟩ (.bool true))) := ho1.setCell (fun h => by simp at h; omega) _
                      generalize F x k = fxk at *
                      clear hT1 hS hF ho1 hPt h1 h2 hpl
                      go_wp2
                      go_roundw
                      case rel => exact ⟨k + 1, by omega, by go_num, _, hT2.out, hS2.out, hF2.out, hPt2.out, ho2.out⟩
                      case measure => (simp [intOf]; try omega)
                · obtain rfl : k = i := by omega
                  have hPt2 := Lib.hid (Part.row (by rw [HL.out]; exact hPt))
                  go_wp2
                  go_roundw
                  case rel => exact ⟨x + 1, by omega, by go_num, _, hT1, hS, hF, hPt2.out, ho1⟩
                  case measure => (simp [intOf]; try omega)
            · obtain rfl : x = i := by omega
              have hF2 := Lib.hid (Part.all (by rw [HL.out]; exact hPt))
              go_wp2
              go_roundw
              case rel => exact ⟨m + 1, by omega, by go_num, _, hT1, hS, hF2.out, ho1⟩
              case measure => (simp [intOf]; try omega)
        · obtain rfl : m = i := by omega
          have hT2 := Lib.hid (hT1.congr (G := aboveOf p) (fun y k hy hk => above_of hS (by rw [HL.out]; exact hF) (fun z x hx => (HN.out.2.1 z x hx).2) y k (by rw [HL.out]; exact hy) (by rw [HL.out]; exact hk)))
          go_wp2
          go_ret
          exact ⟨_, _, rfl, hT2.out, ho1⟩

end Go.Proofs.YtoofalchkedciaaGreatDoor
