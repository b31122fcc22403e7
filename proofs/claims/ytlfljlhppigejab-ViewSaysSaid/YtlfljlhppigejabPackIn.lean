/-
  The walks of snap's in: numbers that are read. What is read of a state, as plain functions. The walk of snap's in.newer.
-/
import Derived.Test.YtlfljlhppigejabPackWire
import Derived.Test.YtlfljlhppigejabElderMove
import Derived.Test.YtlfljlhppigejabNewBoard
import Derived.Test.YtlfljlhppigejabElderWork
namespace Go.Proofs.Ytlfljlhppigejab
open Go.RowKit

end Go.Proofs.Ytlfljlhppigejab
namespace Go.Proofs.Ytlfljlhppigejab
open Go.RowKit

end Go.Proofs.Ytlfljlhppigejab
namespace Go.Proofs.Ytlfljlhppigejab
open Go.RowKit

theorem infoNewer : (Try.prog.info? 32).map (·.size) = some 5 := by kernel_rfl
theorem Blk.store5 {w : World} {S : Nat} {c : Array Value} (h : Blk w S c) (hc : c.size = 5) (v0 v1 v2 v3 v4 : Value) :
    Blk (((((w.setCell ⟨S, 0, none⟩ v0).setCell ⟨S, 1, none⟩ v1).setCell ⟨S, 2, none⟩ v2).setCell ⟨S, 3, none⟩ v3).setCell ⟨S, 4, none⟩ v4) S #[v0, v1, v2, v3, v4] := by
  obtain ⟨l⟩ := c
  match l, hc with
  | [a0, a1, a2, a3, a4], _ =>
    have := ((((h.store v0 (i := 0) (by simp)).store v1 (i := 1) (by simp)).store v2 (i := 2) (by simp)).store v3 (i := 3) (by simp)).store v4 (i := 4) (by simp)
    simpa using this

end Go.Proofs.Ytlfljlhppigejab
