/-
  Contract of depth.Longest.
-/
import Derived.Test.YtadjcooemeaaeaaDoorP19DepthTells
import Derived.Test.YtadjcooemeaaeaaDoorP10DepthTells
namespace Go.Proofs.YtadjcooemeaaeaaDoor
open Go.RowKit Go.Deep

set_option maxRecDepth 100000 in
theorem depth_longest1 (k : Nat) (tb lb A n : Nat) (f : Nat → Int) (left : Int) (w : World) (ht : w.cell? ⟨tb, 0, none⟩ = some (.slice (some ⟨A, 0, none⟩) n n)) (hl : w.cell? ⟨lb, 0, none⟩ = some (.int .i64 left)) (hB : Nums w A n f) (hk : k < n) (b : Bool) (hb : (f k == left) = b) :
    Calls Tryd.prog 102 #[.int .i64 (k : Int), .pointer (some ⟨tb, 0, none⟩), .pointer (some ⟨lb, 0, none⟩)] w fun e w' => e = .returned (.bool b) ∧ ∃ m, w' = w.drewN m := by
  have c := (hB k hk).1
  have h1 : (0 : Int) ≤ (k : Int) := by omega
  have h2 : (k : Int) < (n : Int) := by omega
  generalize f k = fk at *
  clear hB
  go_enter Tryd.func102, Tryd.ntmps102
  go_wp2_with fail
  go_quiet (fail)
  go_wp2
  go_ret
  exact ⟨rfl, _, rfl⟩

theorem range_snoc (k : Nat) : natL (List.range (k + 1)) = natL (List.range k) ++ [(k : Int)] := by rw [List.range_succ, natL_push]

set_option maxRecDepth 100000 in
set_option maxHeartbeats 4000000 in
theorem depth_Longest (v : Value) (p : PlanL) (w : World) (h : InPlan w v p) (hok : PlanOk p) :
    Calls Tryd.prog 67 #[v] w fun e w' => ∃ v', e = .returned (.tuple #[v', .nilIface]) ∧ Ints w' w.heap.size v' (natL (wayOf p)) ∧ Only [] w w' := by
  have hr := plan_Right v p w h
  rw [(planOk_iff p).1 hok, errV_zero] at hr
  have HP := Lib.hid h
  have HO := Lib.hid hok
  obtain ⟨a, cap, rfl, hc1, hc2, _⟩ := h.task
  obtain ⟨n, hn⟩ : ∃ n, p.length = n := ⟨_, rfl⟩
  have HL := Lib.hid hn
  rw [hn] at hc1 HP hr
  rw [hn]
  have h30 : n ≤ 30 := by rw [← hn]; exact hok.len
  clear h hn hok
  go_enter Tryd.func67, Tryd.ntmps67
  go_wp2_with fail
  refine hr.mono ?_
  rintro e w1 ⟨rfl, ho1⟩
  clear hr
  have ht := depth_TailsOf _ p w1 (HP.out.same ho1) HO.out
  rw [HL.out] at ht
  go_wp2_with fail
  refine ht.mono ?_
  rintro e w2 ⟨v', rfl, ⟨A, rfl, hAw, hB2⟩, ho2⟩
  clear ht
  have hoo2 := ho1.trans ho2 (by simp)
  have hs1 := ho1.size
  have hAl : A < w2.heap.size ∨ n = 0 := by
    by_cases h0 : n = 0
    · exact .inr h0
    · exact .inl (cell_lt (hB2 0 (by omega)).1)
  have hoa := hoo2.alloc (.cells #[.slice (some ⟨A, 0, none⟩) n n] 30)
  have hsp := depth_SpanOf _ p _ (HP.out.same hoa) HO.out
  have hT3 := Cells.new w2 #[.slice (some ⟨A, 0, none⟩) n n] 30
  have hB3 := hB2.only ((Only.refl [] _).alloc (.cells #[.slice (some ⟨A, 0, none⟩) n n] 30)) (by simp)
  go_wp2_with fail
  refine hsp.mono ?_
  rintro e w3 ⟨rfl, ho3⟩
  clear hsp ho1 ho2 hB2
  have hT4 := hT3.only ho3 (by simp)
  have hB4 := hB3.only ho3 (by simp)
  have hoo3 := hoa.trans ho3 (by simp)
  have hs3 := ho3.size
  rw [World.size_alloc] at hs3
  obtain ⟨T, hTe⟩ : ∃ T, w2.heap.size = T := ⟨_, rfl⟩
  rw [hTe] at hT4 hs3 hAl ⊢
  clear hoa hoo2 hT3 hB3 ho3 hTe
  have hT5 := hT4.only ((Only.refl [] _).alloc (.cells #[.int .i64 (spanF p)] 3)) (by simp)
  have hB5 := hB4.only ((Only.refl [] _).alloc (.cells #[.int .i64 (spanF p)] 3)) (by simp)
  have hL5 := Cells.new w3 #[.int .i64 (spanF p)] 3
  have hoo5 := hoo3.alloc (.cells #[.int .i64 (spanF p)] 3)
  obtain ⟨w5, hw5⟩ : ∃ w5, w3.alloc (.cells #[.int .i64 (spanF p)] 3) = w5 := ⟨_, rfl⟩
  have hs5 : w3.heap.size < w5.heap.size := by rw [← hw5]; simp
  rw [hw5] at hT5 hB5 hL5 hoo5
  obtain ⟨L, hLe⟩ : ∃ L, w3.heap.size = L := ⟨_, rfl⟩
  rw [hLe] at hL5 hs3 hs5
  have HW5 := Lib.hid hw5
  have HLE := Lib.hid hLe
  clear hT4 hB4 hoo3 hw5 hLe
  go_wp2_with fail
  rw [HW5.out, HLE.out]
  go_loopw [8, 22] (fun vc vi wr => ∃ k : Nat, k ≤ n ∧ vi = .int .i64 k ∧ Ints wr w5.heap.size vc (natL (List.range k)) ∧ Only [] w5 wr) (fun _ vi _ => n - (intOf vi).toNat)
  case atStart => exact ⟨0, Nat.zero_le _, rfl, Ints.nil _ _, Only.refl _ _⟩
  case round =>
    obtain ⟨k, hk, rfl, hI, ho⟩ := hrel
    have hsz := ho.size
    by_cases hkn : k < n
    · obtain ⟨q, hq⟩ : ∃ q, (natL (List.range k)).length = q := ⟨_, rfl⟩
      have hqk : q = k := by rw [← hq, natL_len]; simp
      subst hqk
      have HQ := Lib.hid hq
      clear hq
      go_wp2_with (at_builtin; refine wpList_push rfl (.tmp 25) (.tmp 27) rfl wr w5.heap.size _ _ wr.heap.size q q hI HQ.out (by omega) hsz rfl rfl ((Only.refl [] wr).alloc _) (World.cell?_alloc_at _ _ _ _ rfl) ?_; intro g cap3 w6 hI4 hO4 hK4)
      rw [← range_snoc] at hI4
      have ho4 := Lib.hid (ho.pushed hI (Nat.le_refl _) hO4)
      clear hI ho hO4
      go_roundw
      case rel => exact ⟨q + 1, by omega, by go_num, hI4, ho4.out⟩
      case measure => (simp [intOf]; try omega)
    · obtain rfl : n = k := by omega
      clear hkn hk
      have hd : decide ((n : Int) < (n : Int)) = false := by simp
      have hTL := hT5.only ho (by simp)
      have hBL := hB5.only ho (by simp)
      have hLL := hL5.only ho (by simp)
      have hooL := hoo5.trans ho (by simp)
      have hs5' : w.heap.size ≤ w5.heap.size := hoo5.size
      obtain ⟨wl, rfl⟩ : ∃ wl : World, wl = wr := ⟨_, rfl⟩
      have hrl : Hid ((List.range n).map (tailF p) = (List.range p.length).map (tailF p)) := by show _ = _; rw [HL.out]
      have hsb := spanF_bd HO.out
      clear hT5 hB5 hL5 hoo5 ho
      go_wp2_with fail
      go_loopg [7, 8] 600 (fun f vo vc wr => ∃ (F : Nat) (out can : List Nat), F = f ∧ out ++ wayF p f can = wayOf p ∧ maxL (can.map (tailF p)) ≤ f ∧ (∀ i ∈ can, i < n) ∧ can.length ≤ n ∧ Ints wr w5.heap.size vo (natL out) ∧ Ints wr w5.heap.size vc (natL can) ∧ (∀ x ∈ own vo, x ∉ own vc) ∧
        Nums wr A n (tailF p) ∧ Cells wr T [.slice (some ⟨A, 0, none⟩) n n] ∧ Cells wr L [.int .i64 (maxL (can.map (tailF p)))] ∧ Only [] w wr)
      case atStart =>
        refine ⟨600, [], List.range n, rfl, by unfold wayOf; rw [HL.out]; rfl, ?_, by simp, by simp, Ints.nil _ _, hI, by simp [own, Value.ownBlock], hBL, hTL, ?_, hooL⟩
        · rw [hrl.out]; exact hsb.2
        · rw [hrl.out]; exact hLL
      case round =>
        clear hI hTL hBL hLL hooL
        obtain ⟨wo, rfl⟩ : ∃ wo : World, wo = wr := ⟨_, rfl⟩
        obtain ⟨F, out, can, hF, hway, hmf, hcn, hcl, hIo, hIc, hdis, hB, hT, hL, ho⟩ := hrel
        subst hF
        obtain ⟨ml, hml⟩ : ∃ ml, maxL (can.map (tailF p)) = ml := ⟨_, rfl⟩
        have h0 : 0 ≤ ml := by rw [← hml]; exact maxL_ge _
        have h600 : ml ≤ 600 := by
          rw [← hml]
          exact maxL_le (by omega) (fun y hy => by
            obtain ⟨z, hz, rfl⟩ := List.mem_map.1 hy
            exact (tailF_le HO.out (by rw [HL.out]; exact hcn z hz)).2)
        rw [hml] at hmf hL
        have HWAY := Lib.hid hway
        have hql : out.length ≤ 600 := by
          have h1 := wayF_len p 600 (List.range p.length)
          have h2 : (wayOf p).length = out.length + (wayF p F can).length := by rw [← hway, List.length_append]
          unfold wayOf at h2
          omega
        have cL := hL.cell 0 _ rfl
        have fL := hL.free 0 _ rfl
        have cT := hT.cell 0 _ rfl
        obtain ⟨oa, oc, rfl, _⟩ := hIo.opt
        obtain ⟨ca, cc, rfl, hcc⟩ := hIc.opt
        have hqo := natL_len out
        have hzo := natL_len can
        rw [hzo] at hcc hIc ⊢
        obtain ⟨q, hq⟩ : ∃ q, out.length = q := ⟨_, rfl⟩
        rw [hqo, hq] at hIo ⊢
        rw [hq] at hql hqo
        have HQO := Lib.hid hqo
        obtain ⟨z, hz⟩ : ∃ z, can.length = z := ⟨_, rfl⟩
        rw [hz] at hcl hcc hIc ⊢
        have HZ := Lib.hid hz
        clear hway hz hq hqo hzo
        by_cases hpos : 0 < ml
        · obtain ⟨k, hk, e1, e2⟩ := find_max (p := p) can (by rw [hml]; exact hpos)
          have hwst := Lib.hid (fun f => wayF_some p f can k hk (by rw [hml]; exact hpos) e1 e2)
          rw [hml] at e1 e2
          have hiq : (can[k] : Nat) < n := hcn _ (List.getElem_mem hk)
          have hfi : firstIdx (fun x => tailF p x.toNat == ml) (natL can) = k := firstIdx_at _ _ k (by rw [natL_len]; exact hk) (fun j hj => by
            rw [natL_nth _ _ (by omega)]
            have := e2 j hj
            simpa using this) (by
            rw [natL_nth _ _ hk]
            simpa using e1)
          have hcx := fn_index 102 (fun _ _ => by kernel_rfl) #[.pointer (some ⟨T, 0, none⟩), .pointer (some ⟨L, 0, none⟩)] _ (natL can) wo (fun x => tailF p x.toNat == ml) hIc.reads (by rw [natL_len, HZ.out]; omega)
            (fun x hx dn => by
              obtain ⟨y, hy, rfl⟩ := List.mem_map.1 hx
              exact (depth_longest1 y T L A n (tailF p) ml (wo.drewN dn) cT cL hB (hcn y hy) _ rfl).mono fun e w' ⟨h1, d, h2⟩ => ⟨h1, dn + d, by rw [h2]; exact World.drewN_drewN _ _ _⟩)
          rw [hfi] at hcx
          have hkz : k < z := by rw [← HZ.out]; exact hk
          obtain ⟨cg, rfl, hck⟩ := hcc k hkz
          rw [natL_nth _ _ hk] at hck
          generalize hi : can[k] = i at *
          have HE1 := Lib.hid e1
          have HML := Lib.hid hml
          clear hfi e1 e2 hml hcc hcn hcl hi
          go_wp2_with fail
          refine hcx.mono ?_
          rintro e w6 ⟨rfl, dn, rfl⟩
          clear hcx
          obtain ⟨W, hW⟩ : ∃ W, wo.drewN dn = W := ⟨_, rfl⟩
          have hoW : Only [] w W := by rw [← hW]; exact ho.drewN dn
          have hIoW : Ints W w5.heap.size (.slice oa q oc) (natL out) := by rw [← hW]; exact hIo
          have hIcW : Ints W w5.heap.size (.slice (some ⟨cg, 0, none⟩) z cc) (natL can) := by rw [← hW]; exact hIc
          have hTW : Cells W T [.slice (some ⟨A, 0, none⟩) n n] := by rw [← hW]; exact hT
          have hLW : Cells W L [.int .i64 ml] := by rw [← hW]; exact hL
          have hBW : Nums W A n (tailF p) := by rw [← hW]; exact hB
          have hckW : W.cell? ⟨cg, k, none⟩ = some (.int .i64 i) := by rw [← hW]; exact hck
          rw [hW]
          have hsW : w5.heap.size ≤ W.heap.size := by
            have := (hIcW.own_lt cg (by simp [own, Value.ownBlock])); omega
          clear hW hB hT hL hIo hIc hck ho cL fL cT
          go_wp2_with (at_builtin; refine wpList_push rfl (.tmp 38) (.tmp 40) rfl W w5.heap.size _ _ W.heap.size i q hIoW HQO.out (by omega) hsW rfl rfl ((Only.refl [] W).alloc _) (World.cell?_alloc_at _ _ _ _ rfl) ?_; intro g cap3 w6 hI6 hO6 hK6)
          rw [← natL_push] at hI6
          have hfo := fun x (hx : x ∈ own (.slice oa q oc)) => (hIoW.own_lt x hx).1
          have hL6 := hLW.only hO6 (fun hx => by have := hfo _ hx; omega)
          have hT6 := hTW.only hO6 (fun hx => by have := hfo _ hx; omega)
          have hB6 := hBW.only hO6 (fun hx => by have := hfo _ hx; omega)
          have ho6 := hoW.pushed hIoW hs5' hO6
          have hpx := HP.out.same ho6
          obtain ⟨b, off, rfl⟩ := hpx.any i (by rw [HL.out]; exact hiq)
          obtain ⟨_, _, cW, _, _⟩ := hpx.at i (by rw [HL.out]; exact hiq)
          have hwk := HO.out.work i (by rw [HL.out]; exact hiq)
          have hte := Lib.hid (tailF_eq HO.out (i := i) (by rw [HL.out]; exact hiq))
          have htl := (tailF_le HO.out (i := i) (by rw [HL.out]; exact hiq)).1
          rw [HE1.out] at htl
          obtain ⟨wi, hwi⟩ : ∃ wi, wkOf p i = wi := ⟨_, rfl⟩
          have HWI := Lib.hid hwi
          rw [hwi] at cW hwk htl
          have cL6 := hL6.cell 0 _ rfl
          have fL6 := hL6.free 0 _ rfl
          have hgL : L < g := by
            rcases hK6 with h | h
            · have := hfo g h; omega
            · omega
          have hLset : Only [L] w6 ((w6.setCell ⟨L, 0, none⟩ (.int .i64 (ml - wi))).drewN 1) := ((Only.refl [L] w6).setCell (by simp) _).drewN 1
          have hL7 : Cells ((w6.setCell ⟨L, 0, none⟩ (.int .i64 (ml - wi))).drewN 1) L [.int .i64 (ml - wi)] := hL6.set 0 (.int .i64 (ml - wi))
          have hT7 := hT6.only hLset (by simp; omega)
          have hB7 := hB6.only hLset (by simp; omega)
          have hI7 := hI6.only hLset (fun g9 h9 hx => by have := (hI6.own_lt g9 (own_of h9)).1; simp at hx; omega)
          have hoL7 : Only [] w ((w6.setCell ⟨L, 0, none⟩ (.int .i64 (ml - wi))).drewN 1) := ho6.trans hLset (fun x hx hl => by simp at hx; omega)
          have haf := Lib.hid (plan_AfterOf _ p (i : Int) _ (HP.out.same hoL7) HO.out)
          have HL7 := Lib.hid hL7
          have HT7 := Lib.hid hT7
          have HB7 := Lib.hid hB7
          have HI7 := Lib.hid hI7
          have HOL7 := Lib.hid hoL7
          have HS7 := Lib.hid hI6.own_lt
          have hs6 : w5.heap.size ≤ w6.heap.size := by have := hO6.size; omega
          clear hL7 hT7 hB7 hI7 hoL7 hLset hL6 hT6 hB6 hI6 hO6 hIoW hIcW hTW hLW hBW hckW hoW hpx hwi ho6
          go_wp2_with fail
          go_still_tail 7, (by kernel_rfl)
          go_wp2_with fail
          refine (haf.out).mono ?_
          rintro e w8 ⟨va, rfl, hIa, ho8⟩
          have hW7s : w6.heap.size ≤ ((w6.setCell ⟨L, 0, none⟩ (.int .i64 (ml - wi))).drewN 1).heap.size := by simp [World.setCell]
          have hIa5 := hIa.mono (base' := w5.heap.size) (by omega)
          have hd8 : ∀ x ∈ own (.slice (some ⟨g, 0, none⟩) (q + 1) cap3), x ∉ own va := fun x hx hx2 => by
            have h1 := (HS7.out x hx).2
            have h2 := (hIa.own_lt x hx2).1
            omega
          have hm8 : maxL ((afterOf p (i : Int)).map (tailF p)) = ml - wi := by have h1 := hte.out; rw [HE1.out, HWI.out] at h1; omega
          obtain ⟨f', rfl⟩ : ∃ f', F = f' + 1 := ⟨F - 1, by omega⟩
          have hway8 : Hid ((out ++ [i]) ++ wayF p f' (afterOf p (i : Int)) = wayOf p) := by
            show _ = _
            rw [List.append_assoc, List.singleton_append, ← hwst.out f', HWAY.out]
          have hL8 := Lib.hid (HL7.out.only ho8 (by simp))
          have hT8 := Lib.hid (HT7.out.only ho8 (by simp))
          have hB8 := Lib.hid (HB7.out.only ho8 (by simp))
          have hI8 := Lib.hid (HI7.out.only ho8 (by simp))
          have hO8 := Lib.hid (HOL7.out.trans ho8 (by simp))
          have hM8 := Lib.hid hm8
          have HI5 := Lib.hid hIa5
          clear hIa hm8 ho8 hIa5
          go_wp2
          go_roundg f'
          case rel => exact ⟨f', out ++ [i], afterOf p (i : Int), rfl, hway8.out, by rw [hM8.out]; omega, fun x hx => by have := (mem_after.1 hx).1; rw [HL.out] at this; exact this, by have := afterK_len p (i : Int) p.length; rw [afterK_all, HL.out] at this; exact this, hI8.out, HI5.out, hd8, hB8.out, hT8.out, by rw [hM8.out]; exact hL8.out, hO8.out⟩
          case measure => omega
        · obtain rfl : ml = 0 := by omega
          have hway8 := Lib.hid (show out = wayOf p by rw [← HWAY.out, wayF_none p F can hml, List.append_nil])
          have HIO := Lib.hid (hIo.mono (base' := w.heap.size) hs5')
          clear hml hmf hdis hIc hcc hB hT hL
          go_wp2
          go_ret2
          exact ⟨_, rfl, by rw [← hway8.out]; exact HIO.out, ho⟩

end Go.Proofs.YtadjcooemeaaeaaDoor
