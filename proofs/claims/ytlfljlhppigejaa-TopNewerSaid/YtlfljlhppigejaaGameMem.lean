/-
  How states of both games lie in memory.
-/
import Derived.Test.YtlfljlhppigejaaPackBase
import Derived.Test.YtlfljlhppigejaaPackPure
namespace Go.Proofs.Ytlfljlhppigejaa
open Go.RowKit

def cellsE (u : U) : List Value := [.int .i64 u.id, .int .i64 u.owner, .int .i64 u.kind, .int .i64 u.x, .int .i64 u.y, .int .i64 u.hp, .int .i64 u.does, .int .i64 u.gx, .int .i64 u.gy, .int .i64 u.target]
def cellsN (u : U) : List Value := cellsE u ++ [.int .i64 u.since]
def cellsOf (n : Bool) (u : U) : List Value := if n then cellsN u else cellsE u
def szOf (n : Bool) : Nat := if n then 11 else 10

/-- The units us lie from a on (in blocks below B). -/
def URow (n : Bool) (B : Nat) (w : World) (a : Option Addr) (us : List U) : Prop :=
  ∀ i, i < us.length → ∃ b o, a = some ⟨b, o, none⟩ ∧ b < B ∧ ∀ j, j < szOf n → w.cell? ⟨b, o + i * szOf n + j, none⟩ = (cellsOf n (us.getD i zeroU))[j]?
theorem URow.below {n : Bool} {B : Nat} {w w' : World} {a : Option Addr} {us : List U} (h : URow n B w a us) (hb : Below B w w') : URow n B w' a us :=
  fun i hi => let ⟨b, o, h1, h2, h3⟩ := h i hi; ⟨b, o, h1, h2, fun j hj => (hb.cell (p := ⟨b, _, none⟩) h2).trans (h3 j hj)⟩
theorem URow.mono {n : Bool} {B B' : Nat} {w : World} {a : Option Addr} {us : List U} (h : URow n B w a us) (hb : B ≤ B') : URow n B' w a us :=
  fun i hi => let ⟨b, o, h1, h2, h3⟩ := h i hi; ⟨b, o, h1, Nat.lt_of_lt_of_le h2 hb, h3⟩
end Go.Proofs.Ytlfljlhppigejaa
