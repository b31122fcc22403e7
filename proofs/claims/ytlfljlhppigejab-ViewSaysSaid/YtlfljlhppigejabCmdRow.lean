/-
  How a row of commands lies in memory.
-/
import Derived.Test.YtlfljlhppigejabPackSmall
import Derived.Test.YtlfljlhppigejabPackPure
namespace Go.Proofs.Ytlfljlhppigejab
open Go.RowKit

def cellsC (c : Cm) : List Value := [.int .i64 c.player, .int .i64 c.op, .int .i64 c.id, .int .i64 c.kind, .int .i64 c.x, .int .i64 c.y, .int .i64 c.target]
/-- Commands lie from a on. -/
def CRow (B : Nat) (w : World) (a : Option Addr) (cs : List Cm) : Prop :=
  ∀ i, i < cs.length → ∃ b o, a = some ⟨b, o, none⟩ ∧ b < B ∧ ∀ j, j < 7 → w.cell? ⟨b, o + i * 7 + j, none⟩ = (cellsC (cs.getD i zeroC))[j]?
theorem CRow.below {B : Nat} {w w' : World} {a : Option Addr} {cs : List Cm} (h : CRow B w a cs) (hb : Below B w w') : CRow B w' a cs :=
  fun i hi => let ⟨b, o, h1, h2, h3⟩ := h i hi; ⟨b, o, h1, h2, fun j hj => (hb.cell (p := ⟨b, _, none⟩) h2).trans (h3 j hj)⟩
theorem CRow.get {B : Nat} {w : World} {a : Option Addr} {cs : List Cm} (h : CRow B w a cs) (i : Nat) (hi : i < cs.length) (c : Cm) (hc : cs.getD i zeroC = c) :
    ∃ b o, a = some ⟨b, o, none⟩ ∧ b < B ∧ w.cell? ⟨b, o + i * 7, none⟩ = some (.int .i64 c.player) ∧ w.cell? ⟨b, o + i * 7 + 1, none⟩ = some (.int .i64 c.op) ∧ w.cell? ⟨b, o + i * 7 + 2, none⟩ = some (.int .i64 c.id) ∧ w.cell? ⟨b, o + i * 7 + 3, none⟩ = some (.int .i64 c.kind) ∧
      w.cell? ⟨b, o + i * 7 + 4, none⟩ = some (.int .i64 c.x) ∧ w.cell? ⟨b, o + i * 7 + 5, none⟩ = some (.int .i64 c.y) ∧ w.cell? ⟨b, o + i * 7 + 6, none⟩ = some (.int .i64 c.target) := by
  obtain ⟨b, o, h1, h2, h3⟩ := h i hi
  rw [hc] at h3
  exact ⟨b, o, h1, h2, h3 0 (by decide), h3 1 (by decide), h3 2 (by decide), h3 3 (by decide), h3 4 (by decide), h3 5 (by decide), h3 6 (by decide)⟩
end Go.Proofs.Ytlfljlhppigejab
