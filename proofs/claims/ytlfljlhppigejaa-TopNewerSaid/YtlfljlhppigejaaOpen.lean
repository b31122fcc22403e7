/-
  What an argument that reads as data looks like in memory: slices of whatever elements, by cells. No program in sight.
-/
import Derived.Test.YtlfljlhppigejaaPackBase
import Derived.ProofKit
import Derived.Deep.Slices
import Derived.ChangeOld
namespace Go.Proofs.Ytlfljlhppigejaa
open Go.RowKit

section
variable {H : Type} {enc : TypeId × Value → H} {P : Program} {w : World}

theorem cell_in {w : World} {a : Addr} {v : Value} (h : w.cell? a = some v) : a.block < w.heap.size := by
  rcases Nat.lt_or_ge a.block w.heap.size with h1 | h1
  · exact h1
  · simp [World.cell?, Array.getElem?_eq_none h1] at h

/-- A slice whose elements have s cells each. -/
theorem open_rows {t e s fuel : Nat} {a : Option Addr} {len cap : Nat} {x : DataW H × List MemPlace} (ht : P.underlying t = some (.slice e)) (hc : P.cellsOf e = s) (hs : 0 < s)
    (h : DataW.trod enc P w 0 (fun _ => true) true fuel t [.slice a len cap] = some x) :
    len ≤ cap ∧ cap ≤ maxLen ∧ (a = none → len = 0) ∧ ∃ n, ∀ i, i < len → ∃ b o cs, a = some ⟨b, o, none⟩ ∧ b < w.heap.size ∧ cs.length = s ∧
      (∀ j, j < s → w.cell? ⟨b, o + i * s + j, none⟩ = cs[j]?) ∧ ∃ y, DataW.trod enc P w 0 (fun _ => true) true n e cs = some y := by
  rcases Deep.open_slice ht h with ⟨h1, _⟩ | ⟨a0, len0, cap0, m, n, D, Pl, h1, _, hl, hm, hmm, _, hx⟩
  · simp at h1
    obtain ⟨rfl, rfl, rfl⟩ := h1
    exact ⟨Nat.le_refl _, by unfold maxLen; omega, fun _ => rfl, 0, fun i hi => absurd hi (by omega)⟩
  · simp at h1
    obtain ⟨rfl, rfl, rfl⟩ := h1
    refine ⟨hl, hm, (fun h => by cases h), n, fun i hi => ?_⟩
    simp at hmm
    obtain ⟨cs, h2, h3⟩ := hx i (by omega)
    rw [hc] at h2
    obtain ⟨_, h5, h6⟩ := World.cells?_some h2
    have hsp : a0.spot = none := by
      have h7 : 0 < m := by omega
      obtain ⟨cs', h8, _⟩ := hx 0 h7
      rw [hc] at h8
      obtain ⟨_, h9, h10⟩ := World.cells?_some h8
      have h11 := h10 0 hs
      rw [List.getElem?_eq_getElem (by omega)] at h11
      have h12 := World.cell?_spot h11
      simpa [Addr.add] using h12
    obtain ⟨b, o, sp⟩ := a0
    simp at hsp
    subst hsp
    have hcell : ∀ j, j < s → w.cell? ⟨b, o + i * s + j, none⟩ = cs[j]? := by
      intro j hj
      rw [← h6 j hj]
      congr 1
      unfold Addr.add
      split <;> split <;> simp_all <;> omega
    refine ⟨b, o, cs, rfl, ?_, h5, hcell, _, h3⟩
    have := hcell 0 hs
    rw [List.getElem?_eq_getElem (by omega)] at this
    exact cell_in this

/-- One function for all indexes below n. -/
theorem choose_fn {α : Type} [Inhabited α] {n : Nat} {p : Nat → α → Prop} (h : ∀ i, i < n → ∃ x, p i x) : ∃ f : Nat → α, ∀ i, i < n → p i (f i) := Deep.choose_lt h

end
end Go.Proofs.Ytlfljlhppigejaa
