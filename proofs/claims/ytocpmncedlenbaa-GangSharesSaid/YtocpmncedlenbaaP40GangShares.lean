/-
  Contract of a gang's find.
-/
import Derived.Test.YtocpmncedlenbaaP38GangShares
import Derived.Test.YtocpmncedlenbaaP39GangShares
namespace Go.Proofs.Ytocpmncedlenbaa
open Go.RowKit Go.Deep

/-- What a hand finds: a task (-1: none), how, of whom; and how all stands then. -/
structure Found where
  x : Int
  what : Int
  other : Int
  s : GSt

def gPick (room m : Nat) (s : GSt) (h pick : Nat) : Found :=
  if 0 ≤ (s.ws h).near then ⟨(s.ws h).near, 1, 0, ⟨s.done, s.spill, s.row, upW s.ws h ⟨-1, (s.ws h).ring, (s.ws h).task, (s.ws h).left⟩⟩⟩
  else if (s.ws h).ring ≠ [] then ⟨(s.ws h).ring.getLastD 0, 1, 0, ⟨s.done, s.spill, s.row, upW s.ws h ⟨(s.ws h).near, (s.ws h).ring.dropLast, (s.ws h).task, (s.ws h).left⟩⟩⟩
  else match s.spill with
    | x :: rest => ⟨x, 3, 0, ⟨s.done, rest, s.row, s.ws⟩⟩
    | [] => if pick % m = h then ⟨-1, 0, 0, s⟩ else
      match (s.ws (pick % m)).ring.take (halfOf (s.ws (pick % m)).ring) with
      | [] => ⟨-1, 0, 0, s⟩
      | x :: xs => ⟨x, 2, ((pick % m : Nat) : Int), ⟨s.done, s.spill ++ (putAll room (s.ws h) xs).2, s.row, upW (upW s.ws (pick % m) ⟨(s.ws (pick % m)).near, (s.ws (pick % m)).ring.drop (halfOf (s.ws (pick % m)).ring), (s.ws (pick % m)).task, (s.ws (pick % m)).left⟩) h (putAll room (s.ws h) xs).1⟩⟩

/-- .. and has it. -/
def gHave (p : PlanL) (s : GSt) (h : Nat) (r : Found) : GSt × List Dd :=
  if r.x < 0 then gSleep s h else (⟨r.s.done, r.s.spill, r.s.row, upW r.s.ws h (gTake p (r.s.ws h) r.x)⟩, [⟨r.what, h, r.x, r.other⟩])

section
variable {p : PlanL} {room m : Nat} {s : GSt} {h pick : Nat}

theorem gPick_near (hn : 0 ≤ (s.ws h).near) : gPick room m s h pick = ⟨(s.ws h).near, 1, 0, ⟨s.done, s.spill, s.row, upW s.ws h ⟨-1, (s.ws h).ring, (s.ws h).task, (s.ws h).left⟩⟩⟩ := by
  unfold gPick; rw [if_pos hn]
theorem gPick_ring (hn : (s.ws h).near < 0) (hg : (s.ws h).ring ≠ []) : gPick room m s h pick = ⟨(s.ws h).ring.getLastD 0, 1, 0, ⟨s.done, s.spill, s.row, upW s.ws h ⟨(s.ws h).near, (s.ws h).ring.dropLast, (s.ws h).task, (s.ws h).left⟩⟩⟩ := by
  unfold gPick; rw [if_neg (by omega), if_pos hg]
theorem gPick_spill (hn : (s.ws h).near < 0) (hg : (s.ws h).ring = []) {x : Int} {rest : List Int} (hs : s.spill = x :: rest) : gPick room m s h pick = ⟨x, 3, 0, ⟨s.done, rest, s.row, s.ws⟩⟩ := by
  unfold gPick; rw [if_neg (by omega), if_neg (by simp [hg]), hs]
theorem gPick_self (hn : (s.ws h).near < 0) (hg : (s.ws h).ring = []) (hs : s.spill = []) (hh : pick % m = h) : gPick room m s h pick = ⟨-1, 0, 0, s⟩ := by
  unfold gPick; rw [if_neg (by omega), if_neg (by simp [hg]), hs]; simp only; rw [if_pos hh]
theorem gPick_none (hn : (s.ws h).near < 0) (hg : (s.ws h).ring = []) (hs : s.spill = []) (hh : pick % m ≠ h) (hl : (s.ws (pick % m)).ring.take (halfOf (s.ws (pick % m)).ring) = []) : gPick room m s h pick = ⟨-1, 0, 0, s⟩ := by
  unfold gPick; rw [if_neg (by omega), if_neg (by simp [hg]), hs]; simp only; rw [if_neg hh, hl]
theorem gPick_rob (hn : (s.ws h).near < 0) (hg : (s.ws h).ring = []) (hs : s.spill = []) (hh : pick % m ≠ h) {x : Int} {xs : List Int} (hl : (s.ws (pick % m)).ring.take (halfOf (s.ws (pick % m)).ring) = x :: xs) :
    gPick room m s h pick = ⟨x, 2, ((pick % m : Nat) : Int), ⟨s.done, s.spill ++ (putAll room (s.ws h) xs).2, s.row, upW (upW s.ws (pick % m) ⟨(s.ws (pick % m)).near, (s.ws (pick % m)).ring.drop (halfOf (s.ws (pick % m)).ring), (s.ws (pick % m)).task, (s.ws (pick % m)).left⟩) h (putAll room (s.ws h) xs).1⟩⟩ := by
  unfold gPick; rw [if_neg (by omega), if_neg (by simp [hg]), hs]; simp only; rw [if_neg hh, hl]

theorem gFind_pick (H : GInv p room m s) (hm : h < m) : gFind p room m s h pick = gHave p s h (gPick room m s h pick) := by
  have ge : ∀ x ∈ heldL m s, ¬ x < 0 := fun x hx => by obtain ⟨i, e, _⟩ := H.mem hx; omega
  by_cases hn : 0 ≤ (s.ws h).near
  · rw [gPick_near hn]
    unfold gHave gFind
    rw [if_pos hn, if_neg (show ¬ (s.ws h).near < 0 by omega)]
    simp only [upW_same, upW_up]
  · have hn' : (s.ws h).near < 0 := by omega
    by_cases hg : (s.ws h).ring = []
    · cases hs : s.spill with
      | cons x rest =>
        rw [gPick_spill hn' hg hs]
        unfold gHave gFind
        rw [if_neg hn, if_neg (by simp [hg]), hs, if_neg (ge x (by unfold heldL; rw [hs]; simp))]
      | nil =>
        by_cases hh : pick % m = h
        · rw [gPick_self hn' hg hs hh]
          unfold gHave gFind
          rw [if_neg hn, if_neg (by simp [hg]), hs, if_pos (show (-1 : Int) < 0 by omega)]
          simp only
          rw [if_pos hh]
        · cases hl : (s.ws (pick % m)).ring.take (halfOf (s.ws (pick % m)).ring) with
          | nil =>
            rw [gPick_none hn' hg hs hh hl]
            unfold gHave gFind
            rw [if_neg hn, if_neg (by simp [hg]), hs, if_pos (show (-1 : Int) < 0 by omega)]
            simp only
            rw [if_neg hh]
            unfold gRob
            rw [hl]
          | cons x xs =>
            rw [gPick_rob hn' hg hs hh hl]
            unfold gHave gFind
            rw [if_neg hn, if_neg (by simp [hg]), hs, if_neg (ge x (held_own (Nat.mod_lt pick (by omega)) (show x ∈ ownW (s.ws (pick % m)) by
              have : x ∈ x :: xs := by simp
              rw [← hl] at this
              unfold ownW
              simp [List.mem_of_mem_take this])))]
            simp only
            rw [if_neg hh]
            unfold gRob
            rw [hl]
            simp only [upW_same, upW_up, hs]
    · rw [gPick_ring hn' hg]
      unfold gHave gFind
      rw [if_neg hn, if_pos hg, if_neg (ge _ (held_own hm (show (s.ws h).ring.getLastD 0 ∈ ownW (s.ws h) from List.mem_append.2 (.inl (List.mem_append.2 (.inl (getLastD_mem _ hg)))))))]
      simp only [upW_same, upW_up]
end

end Go.Proofs.Ytocpmncedlenbaa
