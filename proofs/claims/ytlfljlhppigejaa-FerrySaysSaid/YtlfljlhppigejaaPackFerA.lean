/-
  What the ferry carries, in plain Lean. Who is born in a tick has a number of the board.
-/
import Derived.Test.YtlfljlhppigejaaPackPure
namespace Go.Proofs.Ytlfljlhppigejaa

def oddU (u : U) : Bool := u.kind == 5 || u.kind == 3
/-- Would the newer game go on as the elder one? -/
def fitsB (g : G) : Bool := !g.us.any oddU && (g.g0 != 40 && g.g1 != 40)
theorem fits_odd {g : G} {k : Nat} (hk : k < g.us.length) {u : U} (hu : g.us.getD k zeroU = u) (h : oddU u = true) : fitsB g = false := by
  have : g.us.any oddU = true := by
    rw [List.any_eq_true]
    exact ⟨g.us[k], List.getElem_mem hk, by rw [← hu] at h; simpa [List.getD, hk] using h⟩
  unfold fitsB
  rw [this]
  rfl
theorem fits_even {g : G} (h : ∀ j, j < g.us.length → oddU (g.us.getD j zeroU) = false) : fitsB g = (g.g0 != 40 && g.g1 != 40) := by
  have : g.us.any oddU = false := by
    rw [List.any_eq_false]
    intro v hv
    obtain ⟨j, hj, rfl⟩ := List.mem_iff_getElem.1 hv
    have := h j hj
    simp [List.getD, hj] at this
    simp [this]
  unfold fitsB
  rw [this]
  rfl
/-- Who has an ID, counted from 1; 0: nobody. -/
def whoT (us : List U) (id : Int) : Nat := match whoIx us id with | some i => i + 1 | none => 0
def carryU (us : List U) (tick : Int) (i : Nat) (u : U) : U := { u with id := ((i : Int) + 1), target := (whoT us u.target : Nat), since := tick }
/-- The first k of those that are carried. -/
def carryL (us : List U) (tick : Int) (k : Nat) : List U := (List.range k).map fun i => carryU us tick i (us.getD i zeroU)
theorem carryL_length (us : List U) (tick : Int) (k : Nat) : (carryL us tick k).length = k := by simp [carryL]
theorem carryL_next (us : List U) (tick : Int) (k : Nat) : carryL us tick (k + 1) = carryL us tick k ++ [carryU us tick k (us.getD k zeroU)] := by
  unfold carryL
  rw [List.range_succ, List.map_append]
  rfl
/-- What is carried. -/
def carryG (g : G) : G := ⟨true, g.tick, g.g0, g.g1, (g.us.length : Int) + 1, [], carryL g.us g.tick g.us.length⟩
/-- The numbers of the first k. -/
def idF (us : List U) : Nat → Int → Option Int
  | 0, _ => none
  | k + 1, j => if j = (us.getD k zeroU).id then some ((k : Int) + 1) else idF us k j
theorem idF_some {us : List U} (hs : us.Pairwise fun a b => a.id < b.id) : ∀ k, k ≤ us.length → ∀ i, i < k → idF us k (us.getD i zeroU).id = some ((i : Int) + 1) := by
  intro k
  induction k with
  | zero => intro _ i hi; cases hi
  | succ k ih =>
    intro hk i hi
    unfold idF
    by_cases e : i = k
    · subst e; rw [if_pos rfl]
    · have hik : i < k := by omega
      have hlt : (us.getD i zeroU).id < (us.getD k zeroU).id := by
        have h1 : i < us.length := by omega
        have h2 : k < us.length := by omega
        have := (List.pairwise_iff_getElem.1 hs) i k h1 h2 hik
        simpa [List.getD, h1, h2] using this
      rw [if_neg (by omega)]
      exact ih (by omega) i hik
theorem idF_none {us : List U} {j : Int} (h : ∀ i, i < us.length → (us.getD i zeroU).id ≠ j) : ∀ k, k ≤ us.length → idF us k j = none := by
  intro k
  induction k with
  | zero => intro _; rfl
  | succ k ih =>
    intro hk
    unfold idF
    rw [if_neg (fun e => h k (by omega) e.symm)]
    exact ih (by omega)
theorem idF_who {us : List U} (hs : us.Pairwise fun a b => a.id < b.id) (j : Int) : (idF us us.length j).getD 0 = (whoT us j : Nat) := by
  unfold whoT whoIx
  cases h : us.findIdx? fun u => u.id == j with
  | none =>
    rw [idF_none (fun i hi => ?_) _ (Nat.le_refl _)]
    · rfl
    · have := List.findIdx?_eq_none_iff.1 h us[i] (List.getElem_mem hi)
      simp [List.getD, hi]
      simpa using this
  | some i =>
    obtain ⟨hi, h1, -⟩ := List.findIdx?_eq_some_iff_getElem.1 h
    have e : (us.getD i zeroU).id = j := by simpa [List.getD, hi] using h1
    rw [← e, idF_some hs _ (Nat.le_refl _) i hi]
    simp
theorem fits_gold {g : G} (h : g.g0 = 40 ∨ g.g1 = 40) : fitsB g = false := by
  unfold fitsB
  rcases h with h | h <;> rw [h] <;> simp
end Go.Proofs.Ytlfljlhppigejaa
namespace Go.Proofs.Ytlfljlhppigejaa

theorem Track.born {g : G} {s : GB} (h : Track g s) {i : Int} (hi : i ∈ s.2) : i ∈ idsOf s.1.us := by
  refine Classical.byContradiction fun hni => ?_
  have hn := ids_nodup (byId_iff.1 h.going.right.sorted)
  have hs : idsOf s.1.us ⊆ s.2.erase i ++ idsOf g.us := by
    intro x hx
    obtain ⟨v, hv, rfl⟩ := List.mem_map.1 hx
    rw [List.mem_append]
    rcases h.here v hv with ⟨h1, -⟩ | ⟨u, hu, hk⟩
    · refine Or.inl ((List.mem_erase_of_ne (fun e => hni ?_)).2 h1)
      rw [← e]
      exact hx
    · refine Or.inr (List.mem_map.2 ⟨u, hu, ?_⟩)
      first
        | exact hk.same.id
        | exact hk.same.id.symm
  have h1 := hn.length_le_of_subset hs
  rw [List.length_append, List.length_erase_of_mem hi] at h1
  have h2 := h.many
  have h3 : 0 < s.2.length := List.length_pos_of_mem hi
  simp only [idsOf, List.length_map] at h1
  omega
theorem born_fit {g : G} (hn : g.new = false) {l : List Cm} (h : stepFault g l = 0) : (∀ i ∈ (stepE g l).2, 1 ≤ i ∧ i ≤ 200) ∧ (stepE g l).2.length ≤ 20 := by
  have hg : Right g := (right_iff g).1 (by unfold stepFault at h; by_cases h1 : faultOf g ≠ 0; rw [if_pos h1] at h; exact absurd h h1; omega)
  have T := (Track.start hg (fun x => by rw [hn] at x; cases x)).cmds l
  refine ⟨fun i hi => ?_, ?_⟩
  · obtain ⟨v, hv, rfl⟩ := List.mem_map.1 (T.born hi)
    have h1 := (one_iff _ _ _).1 (T.going.right.one v hv)
    have h2 := h1.idT
    rw [T.going.new, hn] at h2
    exact ⟨h1.id1, h2⟩
  · have h1 := T.many
    have h2 := T.going.right.few
    show (l.foldl cmdF (g, [])).2.length ≤ 20
    omega
theorem stepFault_take {g : G} {l : List Cm} (h : stepFault g l = 0) (k : Nat) : stepFault g (l.take k) = 0 := by
  unfold stepFault at *
  by_cases h1 : faultOf g ≠ 0
  · rw [if_pos h1] at h; exact absurd h h1
  · rw [if_neg h1] at *
    by_cases h2 : 8 < l.length ∨ g.tick = 60
    · rw [if_pos h2] at h; cases h
    · rw [if_neg]
      rintro (h3 | h3)
      · rw [List.length_take] at h3
        exact h2 (Or.inl (by omega))
      · exact h2 (Or.inr h3)
end Go.Proofs.Ytlfljlhppigejaa
