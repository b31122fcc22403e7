/-
  clear, of a slice of elements of many cells that are alike.
-/
import Derived.Lib.SliceRun
namespace Go.Proofs.Ytlfljlhppigejaa

theorem run_clear_rows {P : Program} (w : World) (t e ty : TypeId) (z zc : Value) (s : Nat) (ht : P.underlying t = some (.slice e)) (hv : ∀ w, (zeroValue e).run P w = .ok z w) (hz : z.cells = Array.replicate s zc) (hs : 0 < s) (h1 : zc.oneCell' = true) (b o n c : Nat) (hn : 0 < n)
    (hc : ∀ j, j < n * s → (w.cell? ⟨b, o + j, none⟩).isSome = true) (hf : ∀ j, j < n * s → w.frozen? ⟨b, o + j, none⟩ = false) :
    (Builtin.clear_ #[t] ty #[.slice (some ⟨b, o, none⟩) n c]).run P w = .ok (.tuple #[]) (w.setCells b o (List.replicate (n * s) zc)) := by
  have hzc : (Builtin.zeroCells z.cells n).toList = List.replicate (n * s) zc := by
    rw [hz]
    unfold Builtin.zeroCells
    rw [Array.toList_map, Array.toList_range, Array.size_replicate]
    refine List.ext_getElem (by simp) (fun i h1 h2 => ?_)
    have hi : i % s < s := Nat.mod_lt _ hs
    simp [hi]
  have hst := run_storeCells_cells (P := P) b o (List.replicate (n * s) zc) 0 w (by simpa using hc) (by simpa using hf) (by intro v hv'; rw [List.eq_of_mem_replicate hv']; exact h1)
  simp only [Nat.add_zero] at hst
  obtain ⟨m, rfl⟩ : ∃ m, n = m + 1 := ⟨n - 1, by omega⟩
  simp [Builtin.clear_, run_underlying ht, hv, hzc, hst]
end Go.Proofs.Ytlfljlhppigejaa
