/-
  Plain laws on what is wrong with a state of the elder game, as its check goes over it. No program in sight.
-/
import Derived.Test.YtlfljlhppigejabGamePure
namespace Go.Proofs.Ytlfljlhppigejab

theorem oneFault_old (t : Int) (u : U) : oneFault false t u = oneFault false 0 u := by simp [oneFault]

def headBad (g : G) : Prop := g.tick < 0 ∨ 60 < g.tick ∨ g.next < 1 ∨ topOf g.new + 1 < g.next ∨ g.g0 < 0 ∨ richOf g.new < g.g0 ∨ g.g1 < 0 ∨ richOf g.new < g.g1
theorem fault_head {g : G} (h : headBad g) : faultOf g = 1 := by
  unfold headBad at h; unfold faultOf; rw [if_pos h]
theorem head_old {g : G} (hn : g.new = false) : headBad g ↔ (g.tick < 0 ∨ 60 < g.tick ∨ g.next < 1 ∨ 201 < g.next ∨ g.g0 < 0 ∨ 40 < g.g0 ∨ g.g1 < 0 ∨ 40 < g.g1) := by
  unfold headBad topOf richOf; rw [hn]; rfl
theorem head_newer {g : G} (hn : g.new = true) : headBad g ↔ (g.tick < 0 ∨ 60 < g.tick ∨ g.next < 1 ∨ 2001 < g.next ∨ g.g0 < 0 ∨ 1000 < g.g0 ∨ g.g1 < 0 ∨ 1000 < g.g1) := by
  unfold headBad topOf richOf; rw [hn]; rfl
theorem fault_many {g : G} (h : ¬ headBad g) (hm : 20 < g.us.length ∨ 200 < g.free.length) : faultOf g = 2 := by
  unfold headBad at h; unfold faultOf; rw [if_neg h, if_pos hm]
theorem fault_rest {g : G} (h : ¬ headBad g) (hm : ¬ (20 < g.us.length ∨ 200 < g.free.length)) :
    faultOf g = if eachFault g.new g.tick g.next [] g.us ≠ 0 then eachFault g.new g.tick g.next [] g.us
      else if g.us.all (aimsOk g.new g.us) = false then 3
      else if g.new = false ∧ freeOk g.next g.free g.us = false then 3
      else 0 := by
  unfold headBad at h; unfold faultOf; rw [if_neg h, if_neg hm]

theorem oneFault_id {n : Bool} {t : Int} {u : U} (h : oneFault n t u = 0) : 1 ≤ u.id := by
  apply Int.not_lt.1
  intro hx
  unfold oneFault at h
  rw [if_pos (Or.inr (Or.inl hx))] at h
  cases h
theorem fault_each {g : G} (h : ¬ headBad g) (hm : ¬ (20 < g.us.length ∨ 200 < g.free.length)) {f : Nat} (he : eachFault g.new g.tick g.next [] g.us = f) (hf : f ≠ 0) : faultOf g = f := by
  rw [fault_rest h hm, if_pos (by rw [he]; exact hf), he]
/-! ### Over the units -/
/-- What the check has found out, k units on. -/
def eachUpTo (n : Bool) (tick next : Int) (us : List U) (k : Nat) : Prop :=
  eachFault n tick next [] us = eachFault n tick next (us.take k) (us.drop k) ∧ sortedU (us.take k) ∧ ∀ j, j < k → oneFault n tick (us.getD j zeroU) = 0 ∧ (us.getD j zeroU).id < next
theorem eachUpTo_zero (n : Bool) (tick next : Int) (us : List U) : eachUpTo n tick next us 0 :=
  ⟨by simp, fun i j _ h => by simp at h, fun j h => absurd h (by omega)⟩
theorem drop_at {us : List U} {k : Nat} (hk : k < us.length) : us.drop k = us.getD k zeroU :: us.drop (k + 1) := by
  rw [List.drop_eq_getElem_cons hk, getD_lt hk]
theorem take_at {us : List U} {k : Nat} (hk : k < us.length) : us.take (k + 1) = us.take k ++ [us.getD k zeroU] := by
  rw [List.take_succ_eq_append_getElem hk, getD_lt hk]
theorem getD_take {us : List U} {k j : Nat} (h : j < k) : (us.take k).getD j zeroU = us.getD j zeroU := by
  simp [List.getD, h]
theorem last_take {us : List U} {k : Nat} (hk : k < us.length) (h0 : 0 < k) : (us.take k).getLast? = some (us.getD (k - 1) zeroU) := by
  rw [List.getLast?_eq_getElem?, List.length_take, Nat.min_eq_left (by omega), List.getElem?_take, if_pos (by omega), List.getElem?_eq_getElem (by omega), getD_lt (by omega)]
/-- One by itself is wrong. -/
theorem each_one {n : Bool} {tick next : Int} {us : List U} {k : Nat} (h : eachUpTo n tick next us k) (hk : k < us.length) {u : U} (hu : us.getD k zeroU = u) (hf : oneFault n tick u ≠ 0) : eachFault n tick next [] us = oneFault n tick u := by
  rw [h.1, drop_at hk, hu]
  simp only [eachFault]
  rw [if_pos hf]
/-- It is not shaped. -/
def misfit (next : Int) (us : List U) (k : Nat) (u : U) : Prop := next ≤ u.id ∨ (0 < k ∧ u.id ≤ (us.getD (k - 1) zeroU).id) ∨ standsAt (us.take k) u.x u.y = true
theorem misfit_iff {next : Int} {us : List U} {k : Nat} {u : U} (hk : k < us.length) : (next ≤ u.id ∨ (∃ p, (us.take k).getLast? = some p ∧ u.id ≤ p.id) ∨ standsAt (us.take k) u.x u.y = true) ↔ misfit next us k u := by
  unfold misfit
  by_cases h0 : 0 < k
  · rw [last_take hk h0]; simp [h0]
  · obtain rfl : k = 0 := by omega
    simp
theorem each_shape {n : Bool} {tick next : Int} {us : List U} {k : Nat} (h : eachUpTo n tick next us k) (hk : k < us.length) {u : U} (hu : us.getD k zeroU = u) (hf : oneFault n tick u = 0) (hm : misfit next us k u) : eachFault n tick next [] us = 3 := by
  rw [h.1, drop_at hk, hu]
  simp only [eachFault]
  rw [if_neg (by simp [hf]), if_pos ((misfit_iff hk).2 hm)]
theorem each_next {n : Bool} {tick next : Int} {us : List U} {k : Nat} (h : eachUpTo n tick next us k) (hk : k < us.length) {u : U} (hu : us.getD k zeroU = u) (hf : oneFault n tick u = 0) (hm : ¬ misfit next us k u) : eachUpTo n tick next us (k + 1) := by
  refine ⟨?_, ?_, ?_⟩
  · rw [h.1, drop_at hk, hu, take_at hk, hu]
    conv => lhs; simp only [eachFault]
    rw [if_neg (by simp [hf]), if_neg (fun x => hm ((misfit_iff hk).1 x))]
  · intro i j hij hj
    have hl : (us.take (k + 1)).length = k + 1 := by rw [List.length_take]; omega
    rw [hl] at hj
    rw [getD_take (by omega), getD_take (by omega)]
    have hs : ∀ i j, i < j → j < k → (us.getD i zeroU).id < (us.getD j zeroU).id := by
      intro a b hab hb
      have := h.2.1 a b hab (by rw [List.length_take]; omega)
      rw [getD_take (by omega), getD_take (by omega)] at this
      exact this
    by_cases hjk : j < k
    · exact hs i j hij hjk
    · obtain rfl : j = k := by omega
      have hlast : (us.getD (j - 1) zeroU).id < u.id := by
        have : ¬ (0 < j ∧ u.id ≤ (us.getD (j - 1) zeroU).id) := fun x => hm (Or.inr (Or.inl x))
        omega
      rw [hu]
      by_cases hi : i = j - 1
      · rw [hi]; exact hlast
      · have := hs i (j - 1) (by omega) (by omega); omega
  · intro j hj
    by_cases hjk : j < k
    · exact h.2.2 j hjk
    · obtain rfl : j = k := by omega
      rw [hu]
      have : ¬ next ≤ u.id := fun x => hm (Or.inl x)
      exact ⟨hf, by omega⟩
theorem each_all {n : Bool} {tick next : Int} {us : List U} {k : Nat} (h : eachUpTo n tick next us k) (hk : k = us.length) : eachFault n tick next [] us = 0 ∧ sortedU us ∧ ∀ j, j < us.length → oneFault n tick (us.getD j zeroU) = 0 ∧ (us.getD j zeroU).id < next := by
  subst hk
  obtain ⟨h1, h2, h3⟩ := h
  simp only [List.take_length, List.drop_length, eachFault] at h1 h2
  exact ⟨h1, h2, h3⟩

/-! ### Who is there -/
def hasId (us : List U) (id : Int) : Bool := us.any fun u => u.id == id
theorem hasId_snoc (us : List U) (u : U) (id : Int) : hasId (us ++ [u]) id = (hasId us id || u.id == id) := by simp [hasId]
theorem stands_snoc (us : List U) (u : U) (x y : Int) : standsAt (us ++ [u]) x y = (standsAt us x y || (u.x == x && u.y == y)) := by simp [standsAt]
theorem hasId_new {n : Bool} {tick next : Int} {us : List U} {k : Nat} (h : eachUpTo n tick next us (k + 1)) (hk : k < us.length) : hasId (us.take k) (us.getD k zeroU).id = false := by
  unfold hasId
  rw [List.any_eq_false]
  intro v hv
  obtain ⟨i, hi, rfl⟩ := List.mem_iff_getElem.1 hv
  rw [List.length_take] at hi
  have := h.2.1 i k (by omega) (by rw [List.length_take]; omega)
  rw [getD_take (by omega), getD_take (by omega)] at this
  rw [List.getElem_take, ← getD_lt (by omega)]
  simp only [beq_iff_eq]
  omega
end Go.Proofs.Ytlfljlhppigejab
