/-
  A row of integers that is owned, read as a row.
-/
import Derived.Test.YtlfljlhppigejaaElderGame
namespace Go.Proofs.Ytlfljlhppigejaa
open Go.RowKit

/-- A row of integers that is owned. -/
theorem ints_at {w : World} {B n : Nat} {v : Value} {l : List Int} (hn : l.length = n) (h : w.ownsRow B 3 1 v n (intCells l)) : ∃ a c, v = .slice a n c ∧ Row w.heap.size w a n (fun k => .int .i64 (l.getD k 0)) := by
  subst hn
  rcases h.2 with ⟨h1, h2⟩ | ⟨f, cap, cur, h1, -, -, h4, h5, -⟩
  · exact ⟨none, 0, by rw [h1, h2], fun k hk => by omega⟩
  · have hown := h
    subst h1
    refine ⟨_, cap, rfl, ?_⟩
    intro k hk
    refine ⟨f, 0, rfl, (World.ownsRow.lt hown f rfl).2, ?_⟩
    have := World.ownsRow.cellAt hown k (by omega)
    rw [Nat.zero_add, this]
    unfold intCells
    rw [List.getElem?_map, List.getElem?_eq_getElem hk]
    simp [List.getD, hk]
end Go.Proofs.Ytlfljlhppigejaa
