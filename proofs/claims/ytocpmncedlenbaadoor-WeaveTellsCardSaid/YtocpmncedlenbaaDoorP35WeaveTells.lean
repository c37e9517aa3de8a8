/-
  Contracts of the document's reading of a weave: next, one.
-/
import Derived.Test.YtocpmncedlenbaaDoorP24WeaveTells
import Derived.Test.YtocpmncedlenbaaDoorP34WeaveTells
namespace Go.Proofs.YtocpmncedlenbaaDoor
open Go.RowKit Go.Deep

/-- The reader in block R, over the text s, at k; its plan is p. -/
structure QdAt (w : World) (base : Nat) (F : Nat → Prop) (R : Nat) (s : ByteArray) (k : Nat) (pv : Value) (p : PlanL) : Prop where
  cells : Cells w R [.string s, .int .i64 k, pv, .int .i64 0]
  plan : OwnPlanN w base F pv p
  n1 : R ∉ own pv
  n2 : ¬ F R
  b1 : ∀ x, F x → base ≤ x ∧ x < w.heap.size
  b2 : base ≤ R
  hk : k ≤ s.size
  len : p.length ≤ k

/-- A fault has been told: what stands of the cloth. -/
structure Lost (mm : Nat) (w w' : World) (R : Nat) (s : ByteArray) (pv : Value) (fa : Option Addr) (fn fc : Nat) (la : Option Addr) (ln lc : Nat) (x y : Int) : Prop where
  rc : ∃ (j : Int) (pv' : Value), Cells w' R [.string s, .int .i64 j, pv', .int .i64 2]
  only : Only (R :: own pv) w w'
  lf : ∃ l, Reads w' (.slice fa fn fc) l ∧ l.length ≤ 200 * mm
  ll : ∃ l, Reads w' (.slice la ln lc) l ∧ l.length ≤ 200 * mm
  bx : -2500000 * (mm : Int) ≤ x ∧ x ≤ 2500000 * (mm : Int)
  bz : -2500000 * (mm : Int) ≤ y ∧ y ≤ 2500000 * (mm : Int)
  af : ∀ z ∈ own (.slice fa fn fc), w.heap.size ≤ z ∧ z < w'.heap.size
  al : ∀ z ∈ own (.slice la ln lc), w.heap.size ≤ z ∧ z < w'.heap.size

theorem Lost.only' {mm : Nat} {w w1 w2 : World} {R : Nat} {s : ByteArray} {pv : Value} {fa la : Option Addr} {fn fc ln lc : Nat} {x y : Int} {S : List Nat} (h : Lost mm w w1 R s pv fa fn fc la ln lc x y) (ho : Only S w1 w2)
    (hS : ∀ z ∈ S, w.heap.size ≤ z) (h1 : R ∉ S) (hf : ∀ z ∈ own (.slice fa fn fc), z ∉ S) (hl : ∀ z ∈ own (.slice la ln lc), z ∉ S) : Lost mm w w2 R s pv fa fn fc la ln lc x y := by
  obtain ⟨j, pv', hr⟩ := h.rc
  obtain ⟨l1, r1, n1⟩ := h.lf
  obtain ⟨l2, r2, n2⟩ := h.ll
  have hs := ho.size
  exact ⟨⟨j, pv', hr.only ho h1⟩, h.only.trans ho (fun z hz hlt => by have := hS z hz; omega), ⟨l1, r1.only ho (fun g hg => hf g (own_of hg)), n1⟩, ⟨l2, r2.only ho (fun g hg => hl g (own_of hg)), n2⟩, h.bx, h.bz, fun z hz => by have := h.af z hz; omega, fun z hz => by have := h.al z hz; omega⟩
theorem Lost.up {mm mn : Nat} {w w1 : World} {R : Nat} {s : ByteArray} {pv : Value} {fa la : Option Addr} {fn fc ln lc : Nat} {x y : Int} (h : Lost mm w w1 R s pv fa fn fc la ln lc x y) (hm : mm ≤ mn) : Lost mn w w1 R s pv fa fn fc la ln lc x y := by
  obtain ⟨l1, r1, n1⟩ := h.lf
  obtain ⟨l2, r2, n2⟩ := h.ll
  have hx := h.bx
  have hy := h.bz
  exact ⟨h.rc, h.only, ⟨l1, r1, by omega⟩, ⟨l2, r2, by omega⟩, by omega, by omega, h.af, h.al⟩
/-- The reading began later. -/
theorem Lost.before {mm : Nat} {w w0 w1 : World} {R : Nat} {s : ByteArray} {pv : Value} {fa la : Option Addr} {fn fc ln lc : Nat} {x y : Int} {S : List Nat} (h : Lost mm w0 w1 R s pv fa fn fc la ln lc x y) (ho : Only S w w0) (hS : ∀ z ∈ S, z ∈ R :: own pv) : Lost mm w w1 R s pv fa fn fc la ln lc x y := by
  have hs := ho.size
  exact ⟨h.rc, (ho.mono (fun z hz _ => hS z hz)).trans h.only (fun z hz _ => hz), h.lf, h.ll, h.bx, h.bz, fun z hz => by have := h.af z hz; omega, fun z hz => by have := h.al z hz; omega⟩
/-- Nothing stands. -/
theorem lost_zero {w w1 : World} {R : Nat} {s : ByteArray} {pv pv' : Value} {j : Int} (mm : Nat) (ho : Only (R :: own pv) w w1) (hr : Cells w1 R [.string s, .int .i64 j, pv', .int .i64 2]) : Lost mm w w1 R s pv none 0 0 none 0 0 0 0 :=
  ⟨⟨j, pv', hr⟩, ho, ⟨[], .inl ⟨rfl, .inl rfl⟩, by simp⟩, ⟨[], .inl ⟨rfl, .inl rfl⟩, by simp⟩, by omega, by omega, fun z hz => by simp [own, Value.ownBlock] at hz, fun z hz => by simp [own, Value.ownBlock] at hz⟩

/-- How a reading ends: a fault, or a cloth. -/
def QdPost (mm base : Nat) (F : Nat → Prop) (R : Nat) (s : ByteArray) (pv : Value) (p : PlanL) (w : World) : Option (Wv × List UInt8) → Ending → World → Prop
  | none, e, w' => ∃ fa fn fc la ln lc x y, e = .returned (.agg #[.slice fa fn fc, .slice la ln lc, .int .i64 x, .int .i64 y]) ∧ Lost mm w w' R s pv fa fn fc la ln lc x y
  | some (a, r), e, w' => ∃ fv lv pv' F', e = .returned (.agg #[fv, lv, .int .i64 (workW a), .int .i64 (spanW a)]) ∧ QdAt w' base F' R s (s.size - r.length) pv' (build a p) ∧
      Arm w' base R pv' fv (firstW a p.length) ∧ Arm w' base R pv' lv (lastW a p.length) ∧ Only (R :: own pv) w w' ∧ Kin w (own pv) (own pv') ∧ (∀ x, F' x → F x ∨ w.heap.size ≤ x) ∧ (∀ x ∈ own fv, w.heap.size ≤ x) ∧ ∀ x ∈ own lv, w.heap.size ≤ x

theorem load_Cloth (W : World) (B : Nat) {ao bo : Option Addr} {n m c d : Nat} (x y : Int) (h : Cells W B [.slice ao n c, .slice bo m d, .int .i64 x, .int .i64 y]) : (loadVar 64 ⟨B, 0, none⟩).run Tryd.prog W = .ok (.agg #[.slice ao n c, .slice bo m d, .int .i64 x, .int .i64 y]) W := by
  have c0 := h.cell 0 _ rfl
  have c1 := h.cell 1 _ rfl
  have c2 := h.cell 2 _ rfl
  have c3 := h.cell 3 _ rfl
  go_simp

theorem qnum_end {mm base : Nat} {F : Nat → Prop} {R : Nat} {s : ByteArray} {k j m cap cap3 : Nat} {a a3 : Option Addr} {p : PlanL} {w w3 : World} (x : Int) (h : QdAt w base F R s k (.slice a p.length cap) p) (hm : p.length = m)
    (hC3 : Cells w3 R [.string s, .int .i64 j, .slice a m cap, .int .i64 0]) (hjk : k < j) (hj : j ≤ s.size) (ho3 : Only (R :: own (.slice a p.length cap)) w w3) (hP3 : OwnPlanN w3 base F (.slice a3 (m + 1) cap3) (p ++ [(x, [])]))
    (hK3 : ∀ y ∈ own (.slice a3 (m + 1) cap3), y ∈ own (.slice a p.length cap) ∨ w.heap.size + 1 ≤ y) (hsz3 : w.heap.size + 1 ≤ w3.heap.size) (hZ : Cells w3 w.heap.size [.slice none 0 0, .slice none 0 0, .int .i64 0, .int .i64 0]) (W8 : World)
    (hW8 : W8 = ((((((w3.setCell ⟨R, 2, none⟩ (.slice a3 (m + 1) cap3)).alloc (.cells #[.int .i64 (m : Int)] 3)).setCell ⟨w.heap.size, 0, none⟩ (.slice (some ⟨w3.heap.size, 0, none⟩) 1 1)).setCell ⟨w.heap.size, 1, none⟩ (.slice (some ⟨w3.heap.size, 0, none⟩) 1 1)).setCell ⟨w.heap.size, 2, none⟩ (.int .i64 x)).setCell ⟨w.heap.size, 3, none⟩ (.int .i64 x))) :
    Cells W8 w.heap.size [.slice (some ⟨w3.heap.size, 0, none⟩) 1 1, .slice (some ⟨w3.heap.size, 0, none⟩) 1 1, .int .i64 x, .int .i64 x] ∧
    QdPost mm base F R s (.slice a p.length cap) p w (some (.num x, rest s j)) (.returned (.agg #[.slice (some ⟨w3.heap.size, 0, none⟩) 1 1, .slice (some ⟨w3.heap.size, 0, none⟩) 1 1, .int .i64 x, .int .i64 x])) W8 := by
  have hRl := h.cells.lt
  have hZl := hZ.lt
  have hfar := h.plan.far
  have hfar3 := hP3.far
  obtain ⟨W6, hW6⟩ : ∃ W6, w3.setCell ⟨R, 2, none⟩ (.slice a3 (m + 1) cap3) = W6 := ⟨_, rfl⟩
  have ho6 : Only [R] w3 W6 := by rw [← hW6]; exact (Only.refl [R] w3).setCell (by simp) _
  have hs6 : W6.heap.size = w3.heap.size := by rw [← hW6]; simp [World.setCell]
  have hC6 : Cells W6 R [.string s, .int .i64 j, .slice a3 (m + 1) cap3, .int .i64 0] := by rw [← hW6]; exact hC3.set 2 _
  have hZ6 := hZ.only ho6 (by simp; omega)
  rw [hW6] at hW8
  obtain ⟨W7, hW7⟩ : ∃ W7, W6.alloc (.cells #[.int .i64 (m : Int)] 3) = W7 := ⟨_, rfl⟩
  have ho7 : Only [] W6 W7 := by rw [← hW7]; exact (Only.refl [] W6).alloc _
  have hs7 : W7.heap.size = w3.heap.size + 1 := by rw [← hW7]; simp [hs6]
  have hB7 : Cells W7 w3.heap.size [.int .i64 (m : Int)] := by
    have := Cells.new W6 #[.int .i64 (m : Int)] 3
    rw [hW7, hs6] at this; exact this
  rw [hW7] at hW8
  have hZ8 := (hZ6.only ho7 (by simp)).set4 (x := .slice (some ⟨w3.heap.size, 0, none⟩) 1 1) (y := .slice (some ⟨w3.heap.size, 0, none⟩) 1 1) (u := .int .i64 x) (v := .int .i64 x)
  rw [← hW8] at hZ8
  have ho8 : Only [w.heap.size] W7 W8 := by
    rw [hW8]
    exact ((((Only.refl [w.heap.size] W7).setCell (by simp) _).setCell (by simp) _).setCell (by simp) _).setCell (by simp) _
  have hs8 : w3.heap.size + 1 ≤ W8.heap.size := by have := ho8.size; omega
  have hall : Only [R] w3 W7 := ho6.trans ho7 (by simp)
  have hv3 : ∀ y ∈ own (Value.slice a3 (m + 1) cap3), y ≠ R ∧ y ≠ w.heap.size := fun y hy => by
    rcases hK3 y hy with h1 | h1
    · exact ⟨fun e => h.n1 (by rw [← e]; exact h1), by have := hfar y h1; omega⟩
    · omega
  have hF : ∀ y, F y → y ≠ R ∧ y ≠ w.heap.size := fun y hy => ⟨fun e => h.n2 (by rw [← e]; exact hy), by have := h.b1 y hy; omega⟩
  refine ⟨hZ8, ?_⟩
  have hP8 : OwnPlanN W8 base F (.slice a3 (m + 1) cap3) (p ++ [(x, [])]) := (hP3.only hall (fun y hy hx => by simp at hx; exact (hv3 y hy).1 hx) (fun y hy hx => by simp at hx; exact (hF y hy).1 hx)).only ho8 (fun y hy hx => by simp at hx; exact (hv3 y hy).2 hx) (fun y hy hx => by simp at hx; exact (hF y hy).2 hx)
  have hC8 := (hC6.only ho7 (by simp)).only ho8 (by simp; omega)
  have hB8 := hB7.only ho8 (by simp; omega)
  have hsz3' := ho3.size
  have ho38 : Only [R, w.heap.size] w3 W8 := (hall.mono (by simp)).trans ho8 (by simp)
  have hpos : s.size - (rest s j).length = j := by rw [rest_len]; omega
  have hbase : base ≤ w3.heap.size := by have := h.b2; omega
  have hArm : Arm W8 base R (.slice a3 (m + 1) cap3) (.slice (some ⟨w3.heap.size, 0, none⟩) 1 1) [p.length] := by
    refine ⟨.inr ⟨by simp [natL], w3.heap.size, 0, 1, rfl, by simp [natL], by unfold maxLen; omega, fun i hi => ?_⟩, fun y hy => ?_⟩
    · obtain rfl : i = 0 := by simpa [natL] using hi
      rw [hm]
      exact hB8.cell 0 _ rfl
    · obtain rfl : y = w3.heap.size := by simpa [own, Value.ownBlock] using hy
      refine ⟨hbase, by omega, fun hx => ?_, by omega⟩
      have := (hfar3 _ hx).2
      omega
  refine ⟨_, _, .slice a3 (m + 1) cap3, F, rfl, ⟨?_, hP8, fun hx => (hv3 R hx).1 rfl, h.n2, fun y hy => ?_, h.b2, ?_, ?_⟩, hArm, hArm, ?_, ?_, fun y hy => .inl hy, ?_, ?_⟩
  · rw [hpos]; exact hC8
  · have := h.b1 y hy; omega
  · rw [hpos]; exact hj
  · show (p ++ [(x, [])]).length ≤ _
    rw [hpos]
    have := h.len
    simp; omega
  · exact ho3.trans ho38 (fun y hy hlt => by
      simp only [List.mem_cons, List.not_mem_nil, or_false] at hy
      rcases hy with rfl | rfl
      · simp
      · omega)
  · intro y hy
    rcases hK3 y hy with h1 | h1
    · exact .inl h1
    · right; omega
  all_goals
    intro y hy
    obtain rfl : y = w3.heap.size := by simpa [own, Value.ownBlock] using hy
    omega

theorem QdAt.same {w w' : World} {base : Nat} {F : Nat → Prop} {R : Nat} {s : ByteArray} {k : Nat} {pv : Value} {p : PlanL} (h : QdAt w base F R s k pv p) (ho : Only [] w w') : QdAt w' base F R s k pv p :=
  ⟨h.cells.only ho (by simp), h.plan.same ho, h.n1, h.n2, fun x hx => by have := h.b1 x hx; have := ho.size; omega, h.b2, h.hk, h.len⟩
theorem QdAt.only {w w' : World} {base : Nat} {F : Nat → Prop} {R : Nat} {s : ByteArray} {k : Nat} {pv : Value} {p : PlanL} {S : List Nat} (h : QdAt w base F R s k pv p) (ho : Only S w w') (h1 : R ∉ S) (h2 : ∀ x ∈ own pv, x ∉ S) (h3 : ∀ x, F x → x ∉ S) : QdAt w' base F R s k pv p :=
  ⟨h.cells.only ho h1, h.plan.only ho h2 h3, h.n1, h.n2, fun x hx => by have := h.b1 x hx; have := ho.size; omega, h.b2, h.hk, h.len⟩
/-- The reader goes on by one. -/
theorem QdAt.step {w : World} {base : Nat} {F : Nat → Prop} {R : Nat} {s : ByteArray} {k : Nat} {pv : Value} {p : PlanL} (h : QdAt w base F R s k pv p) (hk : k < s.size) :
    QdAt (w.setCell ⟨R, 1, none⟩ (.int .i64 ((k + 1 : Nat) : Int))) base F R s (k + 1) pv p ∧ Only [R] w (w.setCell ⟨R, 1, none⟩ (.int .i64 ((k + 1 : Nat) : Int))) := by
  have ho : Only [R] w (w.setCell ⟨R, 1, none⟩ (.int .i64 ((k + 1 : Nat) : Int))) := (Only.refl [R] w).setCell (by simp) _
  refine ⟨⟨h.cells.set 1 _, h.plan.only ho (fun x hx hx2 => by simp at hx2; subst hx2; exact h.n1 hx) (fun x hx hx2 => by simp at hx2; subst hx2; exact h.n2 hx), h.n1, h.n2, fun x hx => ?_, h.b2, hk, by have := h.len; omega⟩, ho⟩
  have := h.b1 x hx
  have := ho.size
  omega
/-- What a reading of one leaves, behind a store into a block Z that is none of it. -/
theorem qd_stored {mm base : Nat} {F : Nat → Prop} {R : Nat} {s : ByteArray} {pv : Value} {p : PlanL} {w W0 w5 W8 : World} {a : Wv} {r : List UInt8} {fv lv : Value} {Z : Nat} (ho0 : Only [] w W0) (hZ0 : w.heap.size ≤ Z) (hZ1 : Z < W0.heap.size)
    (hpv : ∀ x ∈ own pv, x < w.heap.size) (hF : ∀ x, F x → x < w.heap.size) (hR : R < w.heap.size)
    (h : QdPost mm base F R s pv p W0 (some (a, r)) (.returned (.agg #[fv, lv, .int .i64 (workW a), .int .i64 (spanW a)])) w5) (ho8 : Only [Z] w5 W8) :
    QdPost mm base F R s pv p w (some (a, r)) (.returned (.agg #[fv, lv, .int .i64 (workW a), .int .i64 (spanW a)])) W8 := by
  obtain ⟨fv', lv', pv', F', he, hRd, hf, hl, ho, hK, hFF, hfn, hln⟩ := h
  injection he with he
  injection he with he
  have e := congrArg Array.toList he
  simp at e
  obtain ⟨rfl, rfl⟩ := e
  have hs0 := ho0.size
  have hpz : ∀ x ∈ own pv', x ∉ [Z] := fun x hx hz => by
    simp at hz
    subst hz
    rcases hK x hx with h | h
    · have := hpv x h; omega
    · omega
  have hfz : ∀ x, F' x → x ∉ [Z] := fun x hx hz => by
    simp at hz
    subst hz
    rcases hFF x hx with h | h
    · have := hF x h; omega
    · omega
  refine ⟨fv, lv, pv', F', rfl, hRd.only ho8 (by simp; omega) hpz hfz, hf.only ho8 (fun x hx hz => by simp at hz; have := hfn x hx; omega) (Kin.refl _ _), hl.only ho8 (fun x hx hz => by simp at hz; have := hln x hx; omega) (Kin.refl _ _), ?_, ?_, ?_, ?_, ?_⟩
  · exact ((ho0.mono (T := R :: own pv) (by simp)).trans ho (fun x hx _ => hx)).trans ho8 (fun x hx hlt => by simp at hx; omega)
  · intro x hx
    rcases hK x hx with h | h
    · exact .inl h
    · exact .inr (by omega)
  · intro x hx
    rcases hFF x hx with h | h
    · exact .inl h
    · exact .inr (by omega)
  · intro x hx; have := hfn x hx; omega
  · intro x hx; have := hln x hx; omega

theorem qd_after {mm base : Nat} {F F' : Nat → Prop} {R Z j' : Nat} {s : ByteArray} {pv pv' fv lv : Value} {p : PlanL} {w W2 w5 w8 : World} {a : Wv} {r' : List UInt8} (hR : QdAt w8 base F' R s j' pv' (build a p)) (hj : s.size - r'.length = j')
    (hf : Arm w5 base R pv' fv (firstW a p.length)) (hl : Arm w5 base R pv' lv (lastW a p.length)) (ho5 : Only (R :: own pv) W2 w5) (hK : Kin W2 (own pv) (own pv')) (hFF : ∀ x, F' x → F x ∨ W2.heap.size ≤ x)
    (hfn : ∀ x ∈ own fv, W2.heap.size ≤ x) (hln : ∀ x ∈ own lv, W2.heap.size ≤ x) (ho2 : Only [R] w W2) (ho8 : Only [R, Z] w5 w8) (hZ : w.heap.size ≤ Z) (hZ2 : Z < W2.heap.size) :
    QdPost mm base F R s pv p w (some (a, r')) (.returned (.agg #[fv, lv, .int .i64 (workW a), .int .i64 (spanW a)])) w8 := by
  have hs2 := ho2.size
  refine ⟨fv, lv, pv', F', rfl, by rw [hj]; exact hR, hf.only ho8 (fun x hx hz => ?_) (Kin.refl _ _), hl.only ho8 (fun x hx hz => ?_) (Kin.refl _ _), ?_, ?_, ?_, ?_, ?_⟩
  · simp at hz
    rcases hz with rfl | rfl
    · exact (hf.apart _ hx).2.1 rfl
    · have := hfn _ hx; omega
  · simp at hz
    rcases hz with rfl | rfl
    · exact (hl.apart _ hx).2.1 rfl
    · have := hln _ hx; omega
  · exact ((ho2.mono (T := R :: own pv) (by simp)).trans ho5 (fun x hx _ => hx)).trans ho8 (fun x hx hlt => by
      simp at hx
      rcases hx with rfl | rfl
      · simp
      · omega)
  · intro x hx
    rcases hK x hx with h | h
    · exact .inl h
    · exact .inr (by omega)
  · intro x hx
    rcases hFF x hx with h | h
    · exact .inl h
    · exact .inr (by omega)
  · intro x hx; have := hfn x hx; omega
  · intro x hx; have := hln x hx; omega

/-- A reading's end, its two lists in their forms. -/
theorem qd_forms {mm base : Nat} {F : Nat → Prop} {R : Nat} {s : ByteArray} {pv : Value} {p : PlanL} {w w' : World} {a : Wv} {r : List UInt8} {e : Ending} (h : QdPost mm base F R s pv p w (some (a, r)) e w') :
    ∃ fa fc la lc, e = .returned (.agg #[.slice fa (firstW a p.length).length fc, .slice la (lastW a p.length).length lc, .int .i64 (workW a), .int .i64 (spanW a)]) := by
  obtain ⟨fv, lv, pv', F', rfl, _, hf, hl, _⟩ := h
  obtain ⟨fa, fc, rfl, _⟩ := hf.reads.opt
  obtain ⟨la, lc, rfl, _⟩ := hl.reads.opt
  exact ⟨fa, fc, la, lc, by rw [natL_len, natL_len]⟩


set_option maxRecDepth 100000 in
theorem ref_next (R : Nat) (s : ByteArray) (k : Nat) (pv : Value) (c : UInt8) (cz : Int) (hcz : cz = (c.toNat : Int)) (w : World) (h : Cells w R [.string s, .int .i64 k, pv, .int .i64 0]) (b : Bool) (hb : isC c (rest s k) = b) :
    Calls Tryd.prog 47 #[.pointer (some ⟨R, 0, none⟩), .int .u8 cz] w fun e w' => e = .returned (.bool b) ∧ ∃ n, w' = w.drewN n := by
  have c0 := h.cell 0 _ rfl
  have c1 := h.cell 1 _ rfl
  have c3 := h.cell 3 _ rfl
  clear h
  by_cases hlt : k < s.size
  · rw [isC_rest s k c hlt, ← hcz] at hb
    clear hcz
    have hd : decide (k < s.size) = true := by simpa using hlt
    go_enter Tryd.func47, Tryd.ntmps47
    go_wp2_with fail
    go_quiet (fail)
    go_wp2
    go_ret
    exact ⟨rfl, nq, rfl⟩
  · rw [rest_end s k (by omega)] at hb
    have hb : b = false := hb.symm
    subst hb
    have hd : decide (k < s.size) = false := by simpa using hlt
    go_enter Tryd.func47, Tryd.ntmps47
    go_wp2_with fail
    go_quiet (fail)
    go_wp2
    go_ret
    exact ⟨rfl, nq, rfl⟩

set_option maxRecDepth 100000 in
theorem ref_next_no (R : Nat) (a b pv : Value) (cz : Int) (w : World) (h : Cells w R [a, b, pv, .int .i64 2]) :
    Calls Tryd.prog 47 #[.pointer (some ⟨R, 0, none⟩), .int .u8 cz] w fun e w' => e = .returned (.bool false) ∧ ∃ n, w' = w.drewN n := by
  have c3 := h.cell 3 _ rfl
  clear h
  go_enter Tryd.func47, Tryd.ntmps47
  go_wp2_with fail
  go_quiet (fail)
  go_wp2
  go_ret
  exact ⟨rfl, nq, rfl⟩

end Go.Proofs.YtocpmncedlenbaaDoor
