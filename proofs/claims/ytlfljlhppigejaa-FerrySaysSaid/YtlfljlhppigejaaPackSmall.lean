/-
  How states of both games lie in memory. The walk of newer.task.
-/
import Derived.Test.YtlfljlhppigejaaPackBase
import Derived.Test.YtlfljlhppigejaaPackPure
import Derived.Test.YtlfljlhppigejaaRulesWalk
import Derived.BigQuiet
import Derived.Deep.QuietTactic
import Derived.Deep.Light
namespace Go.Proofs.Ytlfljlhppigejaa
open Go.RowKit

def cellsE (u : U) : List Value := [.int .i64 u.id, .int .i64 u.owner, .int .i64 u.kind, .int .i64 u.x, .int .i64 u.y, .int .i64 u.hp, .int .i64 u.does, .int .i64 u.gx, .int .i64 u.gy, .int .i64 u.target]
def cellsN (u : U) : List Value := cellsE u ++ [.int .i64 u.since]
def cellsOf (n : Bool) (u : U) : List Value := if n then cellsN u else cellsE u
def szOf (n : Bool) : Nat := if n then 11 else 10

/-- The units us lie from a on (in blocks below B). -/
def URow (n : Bool) (B : Nat) (w : World) (a : Option Addr) (us : List U) : Prop :=
  ∀ i, i < us.length → ∃ b o, a = some ⟨b, o, none⟩ ∧ b < B ∧ ∀ j, j < szOf n → w.cell? ⟨b, o + i * szOf n + j, none⟩ = (cellsOf n (us.getD i zeroU))[j]?
theorem URow.below {n : Bool} {B : Nat} {w w' : World} {a : Option Addr} {us : List U} (h : URow n B w a us) (hb : Below B w w') : URow n B w' a us :=
  fun i hi => let ⟨b, o, h1, h2, h3⟩ := h i hi; ⟨b, o, h1, h2, fun j hj => (hb.cell (p := ⟨b, _, none⟩) h2).trans (h3 j hj)⟩
theorem URow.mono {n : Bool} {B B' : Nat} {w : World} {a : Option Addr} {us : List U} (h : URow n B w a us) (hb : B ≤ B') : URow n B' w a us :=
  fun i hi => let ⟨b, o, h1, h2, h3⟩ := h i hi; ⟨b, o, h1, Nat.lt_of_lt_of_le h2 hb, h3⟩
theorem URow.getE {B : Nat} {w : World} {a : Option Addr} {us : List U} (h : URow false B w a us) (i : Nat) (hi : i < us.length) (u : U) (hu : us.getD i zeroU = u) :
    ∃ b o, a = some ⟨b, o, none⟩ ∧ b < B ∧ w.cell? ⟨b, o + i * 10, none⟩ = some (.int .i64 u.id) ∧ w.cell? ⟨b, o + i * 10 + 1, none⟩ = some (.int .i64 u.owner) ∧ w.cell? ⟨b, o + i * 10 + 2, none⟩ = some (.int .i64 u.kind) ∧
      w.cell? ⟨b, o + i * 10 + 3, none⟩ = some (.int .i64 u.x) ∧ w.cell? ⟨b, o + i * 10 + 4, none⟩ = some (.int .i64 u.y) ∧ w.cell? ⟨b, o + i * 10 + 5, none⟩ = some (.int .i64 u.hp) ∧ w.cell? ⟨b, o + i * 10 + 6, none⟩ = some (.int .i64 u.does) ∧
      w.cell? ⟨b, o + i * 10 + 7, none⟩ = some (.int .i64 u.gx) ∧ w.cell? ⟨b, o + i * 10 + 8, none⟩ = some (.int .i64 u.gy) ∧ w.cell? ⟨b, o + i * 10 + 9, none⟩ = some (.int .i64 u.target) := by
  obtain ⟨b, o, h1, h2, h3⟩ := h i hi
  rw [hu] at h3
  exact ⟨b, o, h1, h2, h3 0 (by decide), h3 1 (by decide), h3 2 (by decide), h3 3 (by decide), h3 4 (by decide), h3 5 (by decide), h3 6 (by decide), h3 7 (by decide), h3 8 (by decide), h3 9 (by decide)⟩
end Go.Proofs.Ytlfljlhppigejaa
namespace Go.Proofs.Ytlfljlhppigejaa
open Go.RowKit

end Go.Proofs.Ytlfljlhppigejaa
