/-
  Contract of a gang's find: the walk.
-/
import Derived.Test.YtoofalchkedciaaGreatDoorP25TopGang
namespace Go.Proofs.YtoofalchkedciaaGreatDoor
open Go.RowKit Go.Deep

theorem results_cellM {P : Program} {fn : Func} {a p u : Tmp} {ty : TypeId} (h : fn.results = #[.tmp a, .cell p ty, .tmp u]) (tmps : Array Value) (w : World) (ad : Addr) (v : Value)
    (hp : tmps.getD p undef = .pointer (some ad)) (hl : (loadVar ty ad).run P w = .ok v w) : (results fn tmps).run P w = .ok (.tuple #[tmps.getD a undef, v, tmps.getD u undef]) w := by
  have hp' : tmps[p]?.getD undef = .pointer (some ad) := by simpa using hp
  simp [results, h, hp', asAddr, hl]

theorem load_deed (W : World) (B : Nat) (a b c d : Int) (h : Cells W B [.int .i64 a, .int .i64 b, .int .i64 c, .int .i64 d]) : (loadVar 53 ⟨B, 0, none⟩).run Tryz.prog W = .ok (.agg #[.int .i64 a, .int .i64 b, .int .i64 c, .int .i64 d]) W := by
  have c0 := h.cell 0 _ rfl
  have c1 := h.cell 1 _ rfl
  have c2 := h.cell 2 _ rfl
  have c3 := h.cell 3 _ rfl
  go_simp

def set4 (W : World) (B : Nat) (a b c d : Int) : World := (((W.setCell ⟨B, 0, none⟩ (.int .i64 a)).setCell ⟨B, 1, none⟩ (.int .i64 b)).setCell ⟨B, 2, none⟩ (.int .i64 c)).setCell ⟨B, 3, none⟩ (.int .i64 d)
theorem set4_cells {W : World} {B : Nat} {x y u v : Value} (a b c d : Int) (h : Cells W B [x, y, u, v]) : Cells (set4 W B a b c d) B [.int .i64 a, .int .i64 b, .int .i64 c, .int .i64 d] :=
  (((h.set 0 _).set 1 _).set 2 _).set 3 _
theorem set4_only (W : World) (B : Nat) (a b c d : Int) : Only [B] W (set4 W B a b c d) := ((((Only.refl [B] W).setCell (by simp) _).setCell (by simp) _).setCell (by simp) _).setCell (by simp) _

theorem upW_self (f : Nat → Wk) (h : Nat) : upW f h (f h) = f := by
  funext i; unfold upW; split
  · rename_i e; rw [e]
  · rfl
theorem wk_drop (k : Wk) (n : Nat) (h : k.ring = []) : (⟨k.near, k.ring.drop n, k.task, k.left⟩ : Wk) = k := by
  cases k with
  | mk a b c d =>
    simp only at h
    subst h
    simp
theorem take_half_nil {l : List Int} (h : l.take (halfOf l) = []) : l = [] := by
  cases l with
  | nil => rfl
  | cons a l =>
    have := congrArg List.length h
    unfold halfOf at this
    simp at this
    omega

theorem find_end {w W0 wX : World} {F F1 : Nat → Prop} {q : GPar} {p : PlanL} {room m : Nat} {s s1 : GSt} {vs : List Value} (h : GRel w F W0 q p room m s F) (hl : ∀ x, F x → x < w.heap.size) (hz : w.heap.size < W0.heap.size)
    (hB : Cells W0 w.heap.size vs) (hS : GRel W0 F wX q p room m s1 F1) : Cells wX w.heap.size vs ∧ GRel w F wX q p room m s1 F1 ∧ ¬ F1 w.heap.size := by
  refine ⟨?_, h.trans hS, fun hx => ?_⟩
  · obtain ⟨T, hT, ho⟩ := hS.only
    exact hB.only ho (fun hx => by have := hl _ (hT _ hx); omega)
  · rcases hS.kin _ hx with h1 | h1
    · have := hl _ h1; omega
    · omega

theorem find_ret {w wX : World} {F F1 : Nat → Prop} {q : GPar} {p : PlanL} {room m : Nat} {s1 : GSt} {x y u v : Value} (hB : Cells wX w.heap.size [x, y, u, v]) (hG : GRel w F wX q p room m s1 F1) (hF : ¬ F1 w.heap.size) (a d : Int) :
    (loadVar 53 ⟨w.heap.size, 0, none⟩).run Tryz.prog (set4 wX w.heap.size a 0 0 d) = .ok (.agg #[.int .i64 a, .int .i64 0, .int .i64 0, .int .i64 d]) (set4 wX w.heap.size a 0 0 d) ∧ GRel w F (set4 wX w.heap.size a 0 0 d) q p room m s1 F1 := by
  refine ⟨load_deed _ _ _ _ _ _ (set4_cells a 0 0 d hB), hG.fresh (set4_only _ _ _ _ _ _) fun x hx => ?_⟩
  obtain rfl : x = w.heap.size := by simpa using hx
  exact ⟨hF, Nat.le_refl _⟩

set_option maxRecDepth 100000 in
set_option maxHeartbeats 4000000 in
theorem gang_find {w : World} {F : Nat → Prop} {q : GPar} {p : PlanL} {room m : Nat} {s : GSt} (h : GangIs w q p room m s F) (H : GInv p room m s) {i : Nat} (hi : i < m) (pick : Nat) :
    Calls Tryz.prog 96 #[.pointer (some ⟨q.G, 0, none⟩), .int .i64 i, .int .i64 pick] w fun e w' => ∃ F', e = .returned (.tuple #[.int .i64 (gPick room m s i pick).x, .agg #[.int .i64 (gPick room m s i pick).what, .int .i64 0, .int .i64 0, .int .i64 (gPick room m s i pick).other], .nilIface]) ∧
      GRel w F w' q p room m (gPick room m s i pick).s F' := by
  have hl := h.lt
  obtain ⟨W0, hW0⟩ : ∃ W0, w.alloc (.cells #[.int .i64 0, .int .i64 0, .int .i64 0, .int .i64 0] 53) = W0 := ⟨_, rfl⟩
  have R0 : GRel w F W0 q p room m s F := (GRel.start h).same (by rw [← hW0]; exact (Only.refl [] w).alloc _)
  have hB0 : Cells W0 w.heap.size [.int .i64 0, .int .i64 0, .int .i64 0, .int .i64 0] := by rw [← hW0]; exact Cells.new w _ _
  have hz : w.heap.size < W0.heap.size := by rw [← hW0]; simp
  have HEND := Lib.hid (fun wX s1 F1 (hS : GRel W0 F wX q p room m s1 F1) => find_end R0 hl hz hB0 hS)
  obtain ⟨hC, _, hrow, hwk, hFW, m1, m6, mc, cm, r1, r16, hok⟩ := R0.cells
  have c4 := hC.cell 4 _ rfl
  have cr := hrow i hi
  have d0 := (hwk i hi).cell 0 _ rfl
  rw [← hW0] at c4 cr d0
  have K0 := GRel.start R0.gang
  have HK := Lib.hid K0
  have HH := Lib.hid H
  have HL := Lib.hid hl
  have HW0 := Lib.hid hW0
  have HC := Lib.hid (And.intro hC (And.intro hrow hwk))
  by_cases hn : 0 ≤ (s.ws i).near
  · have htk := K0.take_near hi hn
    rw [gPick_near hn]
    clear h H hl hW0 R0 hB0 hC hrow hwk K0 hn
    go_enter Tryz.func96, Tryz.ntmps96
    go_wp2_with fail
    rw [HW0.out]
    refine htk.mono ?_
    rintro e w1 ⟨rfl, hS⟩
    obtain ⟨hB, hG, hF⟩ := HEND.out _ _ _ hS
    have b0 := hB.cell 0 _ rfl
    have b1 := hB.cell 1 _ rfl
    have b2 := hB.cell 2 _ rfl
    have b3 := hB.cell 3 _ rfl
    have f0 := hB.free 0 _ rfl
    have f1 := hB.free 1 _ rfl
    have f2 := hB.free 2 _ rfl
    have f3 := hB.free 3 _ rfl
    have HE := Lib.hid (find_ret hB hG hF 1 0)
    clear hB hG hF
    clear hS
    go_wp2_with fail
    refine bodyPost_ret (results_cellM rfl _ _ _ _ rfl HE.out.1) rfl ?_
    exact ⟨_, rfl, HE.out.2⟩
  · have hn' : (s.ws i).near < 0 := by omega
    by_cases hg : (s.ws i).ring = []
    · have htk := K0.take_none hi hn' hg
      have hgt := K0.spill_get
      have c2 := hC.cell 2 _ rfl
      have HGE := Lib.hid (And.intro hn' hg)
      cases hs : s.spill with
      | cons x rest =>
        rw [gPick_spill hn' hg hs]
        rw [hs] at hgt
        clear h H hl hW0 R0 hB0 hC hrow hwk K0 hn hn' hg hs
        go_enter Tryz.func96, Tryz.ntmps96
        go_wp2_with fail
        rw [HW0.out]
        refine htk.mono ?_
        rintro e w1 ⟨rfl, rfl⟩
        clear htk
        go_wp2_with fail
        refine hgt.mono ?_
        rintro e w1 ⟨v, rfl, hI, hS, hd⟩
        have hI : Ints w1 W0.heap.size v [x] := hI
        obtain ⟨va, vc, rfl, _⟩ := hI.opt
        have hI : Ints w1 W0.heap.size (.slice va 1 vc) [x] := hI
        obtain ⟨W2, hW2⟩ : ∃ W2, (w1.alloc (.cells #[.int .i64 (-1)] 3)).alloc (.cells #[.slice va 1 vc, .slice (some ⟨w1.heap.size, 0, none⟩) 1 1] 31) = W2 := ⟨_, rfl⟩
        have ho2 : Only [] w1 W2 := by rw [← hW2]; exact ((Only.refl [] w1).alloc _).alloc _
        have hB2 : Cells W2 (w1.heap.size + 1) [.slice va 1 vc, .slice (some ⟨w1.heap.size, 0, none⟩) 1 1] := by
          have := Cells.new (w1.alloc (.cells #[.int .i64 (-1)] 3)) #[.slice va 1 vc, .slice (some ⟨w1.heap.size, 0, none⟩) 1 1] 31
          rw [hW2] at this
          simpa using this
        have hM2 : Reads W2 (.slice (some ⟨w1.heap.size, 0, none⟩) 1 1) [-1] := by
          have h1 := Cells.new w1 #[.int .i64 (-1)] 3
          have h2 := h1.only ((Only.refl [] (w1.alloc (.cells #[.int .i64 (-1)] 3))).alloc (.cells #[.slice va 1 vc, .slice (some ⟨w1.heap.size, 0, none⟩) 1 1] 31)) (by simp)
          rw [hW2] at h2
          refine .inr ⟨by simp, w1.heap.size, 0, 1, rfl, by simp, by unfold maxLen; omega, fun j hj => ?_⟩
          obtain rfl : j = 0 := by simpa using hj
          exact h2.cell 0 _ rfl
        have hcc := concat_two _ _ _ _ _ x (-1) W2 hB2 (hI.reads.same ho2) hM2
        have HS := Lib.hid (hS.same ho2)
        have HW2 := Lib.hid hW2
        clear hgt hS hI hd hW2 ho2 hB2 hM2
        go_wp2_with fail
        rw [HW2.out]
        refine hcc.mono ?_
        rintro e w3 ⟨v3, rfl, hI3, ho3⟩
        obtain ⟨a3, k3, rfl, hc3⟩ := hI3.opt
        obtain ⟨g3, rfl, hg3⟩ := hc3 0 (by simp)
        have hg3 : w3.cell? ⟨g3, 0, none⟩ = some (.int .i64 x) := hg3
        obtain ⟨hB, hG, hF⟩ := HEND.out _ _ _ (HS.out.same ho3)
        have b0 := hB.cell 0 _ rfl
        have b1 := hB.cell 1 _ rfl
        have b2 := hB.cell 2 _ rfl
        have b3 := hB.cell 3 _ rfl
        have f0 := hB.free 0 _ rfl
        have f1 := hB.free 1 _ rfl
        have f2 := hB.free 2 _ rfl
        have f3 := hB.free 3 _ rfl
        have HE := Lib.hid (find_ret hB hG hF 3 0)
        clear hB hG hF
        clear hI3 ho3 hc3 hcc
        go_wp2_with fail
        refine bodyPost_ret (results_cellM rfl _ _ _ _ rfl HE.out.1) rfl ?_
        exact ⟨_, rfl, HE.out.2⟩
      | nil =>
        rw [hs] at hgt
        have hms : (⟨s.done, ([] : List Int).drop 1, s.row, s.ws⟩ : GSt) = s := by
          obtain ⟨a1, a2, a3, a4⟩ := s
          have : a2 = [] := hs
          rw [this]; rfl
        rw [hms] at hgt
        have hmod : ((pick : Int)).tmod (m : Int) = ((pick % m : Nat) : Int) := by rw [Int.ofNat_tmod]
        have hol : pick % m < m := Nat.mod_lt _ (by omega)
        have HS0 := Lib.hid hs
        have HG := Lib.hid (And.intro hn' hg)
        clear h H hl hW0 R0 hB0 hC hrow hwk K0 hn hn' hg hs hms
        go_enter Tryz.func96, Tryz.ntmps96
        go_wp2_with fail
        rw [HW0.out]
        refine htk.mono ?_
        rintro e w1 ⟨rfl, rfl⟩
        clear htk
        go_wp2_with fail
        refine hgt.mono ?_
        rintro e w1 ⟨v, rfl, hI, hS, hd⟩
        have hI : Ints w1 W0.heap.size v [] := hI
        obtain ⟨va, vc, rfl, _⟩ := hI.opt
        have hC1 := hS.cells
        have c14 := hC1.1.cell 4 _ rfl
        have HS := Lib.hid hS
        have HC1 := Lib.hid hC1
        clear hgt hI hd hC1
        by_cases hh : pick % m = i
        · have HHH := Lib.hid hh
          obtain ⟨hB, hG, hF⟩ := HEND.out _ _ _ hS
          have b0 := hB.cell 0 _ rfl
          have b1 := hB.cell 1 _ rfl
          have b2 := hB.cell 2 _ rfl
          have b3 := hB.cell 3 _ rfl
          have f0 := hB.free 0 _ rfl
          have f1 := hB.free 1 _ rfl
          have f2 := hB.free 2 _ rfl
          have f3 := hB.free 3 _ rfl
          have HE := Lib.hid (find_ret hB hG hF 0 0)
          clear hB hG hF
          clear hS
          rw [hh] at hmod
          clear hh hol
          go_wp2_with fail
          refine bodyPost_ret (results_cellM rfl _ _ _ _ rfl HE.out.1) rfl ?_
          rw [gPick_self HG.out.1 HG.out.2 HS0.out HHH.out]
          exact ⟨_, rfl, HE.out.2⟩
        · obtain ⟨o, hoe⟩ : ∃ o, pick % m = o := ⟨_, rfl⟩
          rw [hoe] at hmod hol hh
          have HOE := Lib.hid hoe
          have hro := HC1.out.2.2.1 o hol
          have hdo := (HC1.out.2.2.2.1 o hol).cell 0 _ rfl
          have hrob := hS.rob hol
          have hneq : ((o : Int) == (i : Int)) = false := by simp; omega
          obtain ⟨T, hT⟩ : ∃ T, (s.ws o).ring.take (halfOf (s.ws o).ring) = T := ⟨_, rfl⟩
          rw [hT] at hrob
          cases T with
          | nil =>
            have hRO := take_half_nil hT
            have hself : upW s.ws o ⟨(s.ws o).near, (s.ws o).ring.drop (halfOf (s.ws o).ring), (s.ws o).task, (s.ws o).left⟩ = s.ws := by
              have := wk_drop (s.ws o) (halfOf (s.ws o).ring) hRO
              rw [this, upW_self]
            rw [hself] at hrob
            have HTT := Lib.hid (And.intro hT hh)
            clear hoe hT hRO hself hS
            go_wp2_with fail
            refine hrob.mono ?_
            rintro e w2 ⟨v2, rfl, hI2, hS2, hd2⟩
            obtain ⟨v2a, v2c, rfl, _⟩ := hI2.opt
            have hS2 : GRel W0 F w2 q p room m s F := hS2
            obtain ⟨hB, hG, hF⟩ := HEND.out _ _ _ hS2
            have b0 := hB.cell 0 _ rfl
            have b1 := hB.cell 1 _ rfl
            have b2 := hB.cell 2 _ rfl
            have b3 := hB.cell 3 _ rfl
            have f0 := hB.free 0 _ rfl
            have f1 := hB.free 1 _ rfl
            have f2 := hB.free 2 _ rfl
            have f3 := hB.free 3 _ rfl
            have HE := Lib.hid (find_ret hB hG hF 0 0)
            clear hB hG hF
            clear hrob hI2 hd2 hS2 hh
            go_wp2_with fail
            refine bodyPost_ret (results_cellM rfl _ _ _ _ rfl HE.out.1) rfl ?_
            rw [gPick_none HG.out.1 HG.out.2 HS0.out (by rw [HOE.out]; exact HTT.out.2) (by rw [HOE.out]; exact HTT.out.1)]
            exact ⟨_, rfl, HE.out.2⟩
          | cons x xs =>
            have hge : ∀ y ∈ x :: xs, 0 ≤ y := fun y hy => by
              rw [← hT] at hy
              obtain ⟨j, e, _⟩ := HH.out.mem (held_own hol (show y ∈ ownW (s.ws o) by unfold ownW; simp [List.mem_of_mem_take hy]))
              omega
            have hx16 : xs.length ≤ 16 := by
              have h1 := HH.out.room o hol
              have h2 := congrArg List.length hT
              rw [List.length_take, List.length_cons] at h2
              omega
            obtain ⟨ko, hko⟩ : ∃ ko : Wk, ko = ⟨(s.ws o).near, (s.ws o).ring.drop (halfOf (s.ws o).ring), (s.ws o).task, (s.ws o).left⟩ := ⟨_, rfl⟩
            rw [← hko] at hrob
            have hoi : upW s.ws o ko i = s.ws i := upW_other _ _ _ _ (fun e => hh e.symm)
            have HTT := Lib.hid (And.intro hT hh)
            have HKO := Lib.hid hko
            have HOI := Lib.hid hoi
            have HGE2 := Lib.hid hge
            clear hoe hT hS hge hko hoi
            go_wp2_with fail
            refine hrob.mono ?_
            rintro e w2 ⟨v2, rfl, hI2, hS2, hd2⟩
            obtain ⟨v2a, v2c, rfl, hc2⟩ := hI2.opt
            obtain ⟨g, rfl, hg0⟩ := hc2 0 (by simp)
            rw [List.length_cons] at hI2 hd2 ⊢
            obtain ⟨n1, hn1⟩ : ∃ n1, xs.length = n1 := ⟨_, rfl⟩
            rw [hn1] at hI2 hd2 hx16 ⊢
            have hcap : n1 + 1 ≤ v2c := by
              obtain ⟨a, c, e, h1, _⟩ := Row.form hI2
              rw [List.length_cons, hn1] at h1
              injection e with _ _ e
              omega
            have HN1 := Lib.hid hn1
            have HS2 := Lib.hid hS2
            have HI2 := Lib.hid hI2
            have HD2 := Lib.hid hd2
            clear hI2 hS2 hd2 hc2 hg0 hrob hn1
            have HLC := Lib.hid (fun (j : Nat) (hj : j < n1) (W : World) (F2 : Nat → Prop) s2 (h2 : GRel w2 F W q p room m s2 F2) => (by
              have h1 := (HI2.out.onlyF h2.only HD2.out).cell (j + 1) (by rw [List.length_cons, HN1.out]; omega)
              have e : nth (x :: xs) (j + 1) = nth xs j := by simp [nth]
              rw [e] at h1
              exact h1 : W.cell? ⟨g, j + 1, none⟩ = some (.int .i64 (nth xs j))))
            have HL0 := Lib.hid (fun (W : World) (F2 : Nat → Prop) s2 (h2 : GRel w2 F W q p room m s2 F2) => (by
              have h1 := (HI2.out.onlyF h2.only HD2.out).cell 0 (by rw [List.length_cons]; omega)
              exact h1 : W.cell? ⟨g, 0, none⟩ = some (.int .i64 x)))
            have hself2 : upW (upW s.ws o ko) i (s.ws i) = upW s.ws o ko := by rw [← HOI.out, upW_self]
            have HST := Lib.hid (show GRel w2 F w2 q p room m ⟨s.done, s.spill ++ (putAll room (s.ws i) (xs.take 0)).2, s.row, upW (upW s.ws o ko) i (putAll room (s.ws i) (xs.take 0)).1⟩ F by
              rw [List.take_zero, putAll_nil, List.append_nil, hself2]; exact GRel.start HS2.out.gang)
            have HLEN := Lib.hid (fun j (hj : j < n1) => (by
              have h1 := putAll_len room (s.ws i) (xs.take j) (fun y hy => HGE2.out y (List.mem_cons_of_mem _ (List.mem_of_mem_take hy)))
              have h2 := HH.out.own_len hi
              have h3 : (xs.take j).length ≤ n1 := by rw [List.length_take, HN1.out]; omega
              have h4 := hok.len
              rw [HS0.out] at h2
              simp at h2
              omega : (ownW (putAll room (s.ws i) (xs.take j)).1).length + (putAll room (s.ws i) (xs.take j)).2.length ≤ 46))
            clear hself2
            have hz1 : ((n1 : Int) + 1 == 0) = false := by simp; omega
            by_cases hc1 : v2c = 1
            · go_wp2_with fail
              go_loopw [16, 17, 89] (fun _ _ vi wr => ∃ (j : Nat) (Fj : Nat → Prop), j ≤ n1 ∧ vi = .int .i64 j ∧ GRel w2 F wr q p room m ⟨s.done, s.spill ++ (putAll room (s.ws i) (xs.take j)).2, s.row, upW (upW s.ws o ko) i (putAll room (s.ws i) (xs.take j)).1⟩ Fj) (fun _ _ vi _ => n1 - (intOf vi).toNat)
              case atStart => exact ⟨0, F, Nat.zero_le _, rfl, HST.out⟩
              case round =>
                obtain ⟨j, Fj, hj, rfl, Q⟩ := hrel
                by_cases hjn : j < n1
                · omega
                · obtain rfl : j = n1 := by omega
                  have htk : xs.take j = xs := List.take_of_length_le (by rw [HN1.out]; exact Nat.le_refl _)
                  rw [htk] at Q
                  have hg0 := HL0.out _ _ _ Q
                  obtain ⟨hB, hG, hF⟩ := HEND.out _ _ _ (HS2.out.trans Q)
                  have b0 := hB.cell 0 _ rfl
                  have b1 := hB.cell 1 _ rfl
                  have b2 := hB.cell 2 _ rfl
                  have b3 := hB.cell 3 _ rfl
                  have f0 := hB.free 0 _ rfl
                  have f1 := hB.free 1 _ rfl
                  have f2 := hB.free 2 _ rfl
                  have f3 := hB.free 3 _ rfl
                  have HE := Lib.hid (find_ret hB hG hF 2 o)
                  clear hB hG hF
                  clear Q htk
                  go_wp2_with fail
                  refine bodyPost_ret (results_cellM rfl _ _ _ _ rfl HE.out.1) rfl ?_
                  rw [gPick_rob HG.out.1 HG.out.2 HS0.out (by rw [HOE.out]; exact HTT.out.2) (by rw [HOE.out]; exact HTT.out.1), HOE.out, ← HKO.out]
                  exact ⟨_, rfl, HE.out.2⟩
            · go_wp2_with fail
              go_loopw [16, 17, 89] (fun _ _ vi wr => ∃ (j : Nat) (Fj : Nat → Prop), j ≤ n1 ∧ vi = .int .i64 j ∧ GRel w2 F wr q p room m ⟨s.done, s.spill ++ (putAll room (s.ws i) (xs.take j)).2, s.row, upW (upW s.ws o ko) i (putAll room (s.ws i) (xs.take j)).1⟩ Fj) (fun _ _ vi _ => n1 - (intOf vi).toNat)
              case atStart => exact ⟨0, F, Nat.zero_le _, rfl, HST.out⟩
              case round =>
                obtain ⟨j, Fj, hj, rfl, Q⟩ := hrel
                by_cases hjn : j < n1
                · obtain ⟨wo, rfl⟩ : ∃ wo : World, wo = wr := ⟨_, rfl⟩
                  have hx0 : 0 ≤ nth xs j := HGE2.out _ (List.mem_cons_of_mem _ (by simp [nth, List.getElem?_eq_getElem (show j < xs.length by rw [HN1.out]; exact hjn)]))
                  have hnx : putAll room (s.ws i) (xs.take (j + 1)) = (wkPut room (putAll room (s.ws i) (xs.take j)).1 (nth xs j), (putAll room (s.ws i) (xs.take j)).2 ++ handOut (putAll room (s.ws i) (xs.take j)).1.near room (putAll room (s.ws i) (xs.take j)).1.ring) := by
                    rw [take_succ_nth xs j (by rw [HN1.out]; exact hjn), putAll_snoc]; rfl
                  have hg := HLC.out j hjn _ _ _ Q
                  have hlen := HLEN.out j hjn
                  obtain ⟨y, hy⟩ : ∃ y, nth xs j = y := ⟨_, rfl⟩
                  obtain ⟨K, hK⟩ : ∃ K, (putAll room (s.ws i) (xs.take j)).1 = K := ⟨_, rfl⟩
                  obtain ⟨O, hO⟩ : ∃ O, (putAll room (s.ws i) (xs.take j)).2 = O := ⟨_, rfl⟩
                  rw [hK, hO] at Q hnx hlen
                  rw [hy] at hg hx0 hnx
                  have hol2 : (handOut K.near room K.ring).length ≤ K.ring.length := by
                    unfold handOut; split
                    · simp
                    · split
                      · simp
                      · simp; omega
                  have hfit : (s.spill ++ O).length + (handOut K.near room K.ring).length ≤ 60 := by
                    have h1 : K.ring.length ≤ (ownW K).length := by unfold ownW; simp only [List.length_append]; omega
                    rw [HS0.out, List.nil_append]; omega
                  have HNX := Lib.hid hnx
                  have hC := Q.cells
                  have e2 := hC.1.cell 2 _ rfl
                  have e0 := (hC.2.2.2.1 i hi).cell 0 _ rfl
                  have HPUT := Lib.hid (fun (W : World) (h : Only [] wo W) => (Q.same h).put hi y)
                  simp only [upW_same, upW_up] at HPUT
                  have hg1 : wo.cell? ⟨g, 1 + j, none⟩ = some (.int .i64 y) := by rw [Nat.add_comm]; exact hg
                  clear hC hnx Q hK hO hy hlen hol2
                  go_wp2_with fail
                  go_region_law (first | (go_simp; go_at_call 139; refine (HPUT.out _ (by first | exact Only.refl _ _ | exact (Only.refl _ _).drew | exact (Only.refl _ _).drewN _)).mono ?_; rintro e w7 ⟨v7, rfl, hI7, hS7, hd7⟩; have c7 := hS7.cells.1.cell 2 _ rfl) | (go_simp; go_at_call 89; refine (hS7.spill_put _ _ hI7.reads hd7 hfit).mono ?_; rintro e w8 ⟨rfl, F8, hS8, hk8⟩))
                  all_goals
                    have hS9 : Hid (GRel w2 F w8 q p room m ⟨s.done, s.spill ++ (putAll room (s.ws i) (xs.take (j + 1))).2, s.row, upW (upW s.ws o ko) i (putAll room (s.ws i) (xs.take (j + 1))).1⟩ F8) := by
                      show GRel _ _ _ _ _ _ _ _ _
                      rw [HNX.out, ← List.append_assoc]
                      exact hS8
                    clear hS8 hS7 hI7 hd7 hk8 c7
                    go_wp2_with fail
                    go_roundw
                    case rel => exact ⟨j + 1, F8, by omega, by go_num, hS9.out⟩
                    case measure => (simp [intOf]; try omega)
                · obtain rfl : j = n1 := by omega
                  have htk : xs.take j = xs := List.take_of_length_le (by rw [HN1.out]; exact Nat.le_refl _)
                  rw [htk] at Q
                  have hg0 := HL0.out _ _ _ Q
                  obtain ⟨hB, hG, hF⟩ := HEND.out _ _ _ (HS2.out.trans Q)
                  have b0 := hB.cell 0 _ rfl
                  have b1 := hB.cell 1 _ rfl
                  have b2 := hB.cell 2 _ rfl
                  have b3 := hB.cell 3 _ rfl
                  have f0 := hB.free 0 _ rfl
                  have f1 := hB.free 1 _ rfl
                  have f2 := hB.free 2 _ rfl
                  have f3 := hB.free 3 _ rfl
                  have HE := Lib.hid (find_ret hB hG hF 2 o)
                  clear hB hG hF
                  clear Q htk
                  go_wp2_with fail
                  refine bodyPost_ret (results_cellM rfl _ _ _ _ rfl HE.out.1) rfl ?_
                  rw [gPick_rob HG.out.1 HG.out.2 HS0.out (by rw [HOE.out]; exact HTT.out.2) (by rw [HOE.out]; exact HTT.out.1), HOE.out, ← HKO.out]
                  exact ⟨_, rfl, HE.out.2⟩
    · have htk := K0.take_ring hi hn' hg
      rw [gPick_ring hn' hg]
      generalize (s.ws i).ring.getLastD 0 = X at htk ⊢
      clear h H hl hW0 R0 hB0 hC hrow hwk K0 hn hn' hg
      go_enter Tryz.func96, Tryz.ntmps96
      go_wp2_with fail
      rw [HW0.out]
      refine htk.mono ?_
      rintro e w1 ⟨rfl, hS⟩
      obtain ⟨hB, hG, hF⟩ := HEND.out _ _ _ hS
      have b0 := hB.cell 0 _ rfl
      have b1 := hB.cell 1 _ rfl
      have b2 := hB.cell 2 _ rfl
      have b3 := hB.cell 3 _ rfl
      have f0 := hB.free 0 _ rfl
      have f1 := hB.free 1 _ rfl
      have f2 := hB.free 2 _ rfl
      have f3 := hB.free 3 _ rfl
      have HE := Lib.hid (find_ret hB hG hF 1 0)
      clear hB hG hF
      clear hS
      go_wp2_with fail
      refine bodyPost_ret (results_cellM rfl _ _ _ _ rfl HE.out.1) rfl ?_
      exact ⟨_, rfl, HE.out.2⟩

end Go.Proofs.YtoofalchkedciaaGreatDoor
