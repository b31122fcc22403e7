/-
  The newer game's raise: a place of the board is free; the plain parts.
-/
import Derived.Test.YtlfljlhppigejaaNewSet
import Derived.Test.YtlfljlhppigejaaPackRef
namespace Go.Proofs.Ytlfljlhppigejaa
open Go.RowKit

theorem spot_num {x y a b : Int} (hx : 0 ≤ x ∧ x < 12) (hy : 0 ≤ y ∧ y < 12) (ha : 0 ≤ a ∧ a < 12) (hb : 0 ≤ b ∧ b < 12) : (y * 12 + x).toNat = (b * 12 + a).toNat ↔ a = x ∧ b = y := by
  constructor
  · intro h; omega
  · rintro ⟨rfl, rfl⟩; rfl
theorem grid_zero {us : List U} (hok : ∀ u ∈ us, 0 ≤ u.x ∧ u.x < 12 ∧ 0 ≤ u.y ∧ u.y < 12 ∧ 1 ≤ u.id) {x y : Int} (hx : 0 ≤ x ∧ x < 12) (hy : 0 ≤ y ∧ y < 12) : gridF us (y * 12 + x).toNat = 0 ↔ standsAt us x y = false := by
  have key : ∀ k, k ≤ us.length → (gridF (us.take k) (y * 12 + x).toNat = 0 ↔ standsAt (us.take k) x y = false) := by
    intro k
    induction k with
    | zero => intro _; simp [gridF, standsAt]
    | succ k ih =>
      intro hk
      obtain ⟨u, hu⟩ : ∃ u, us.getD k zeroU = u := ⟨_, rfl⟩
      have hum : u ∈ us := by rw [← hu, getD_lt (by omega)]; exact List.getElem_mem _
      obtain ⟨h1, h2, h3, h4, h5⟩ := hok u hum
      rw [grid_succ us k (by omega) u hu, stands_next (by omega) hu]
      unfold gridStep
      by_cases e : (y * 12 + x).toNat = (u.y * 12 + u.x).toNat
      · rw [if_pos e]
        obtain ⟨e1, e2⟩ := (spot_num hx hy ⟨h1, h2⟩ ⟨h3, h4⟩).1 e
        have : (u.x == x && u.y == y) = true := by simp [e1, e2]
        rw [this]
        simp
        omega
      · rw [if_neg e, ih (by omega)]
        have : (u.x == x && u.y == y) = false := by
          rw [Bool.and_eq_false_iff]
          simp only [beq_eq_false_iff_ne, ne_eq]
          by_cases e1 : u.x = x
          · by_cases e2 : u.y = y
            · exact absurd ((spot_num hx hy ⟨h1, h2⟩ ⟨h3, h4⟩).2 ⟨e1, e2⟩) e
            · exact Or.inr e2
          · exact Or.inl e1
        rw [this]
        simp
  have := key us.length (Nat.le_refl _)
  rwa [List.take_length] at this
end Go.Proofs.Ytlfljlhppigejaa
