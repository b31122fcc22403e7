/-
  Tapes: how they lie in memory and are opened; the walks of snap.CheckTape and of what statements ask of a tape's size.
-/
import Derived.Test.YtlfljlhppigejaaCmdRow
import Derived.Test.YtlfljlhppigejaaPackMaps
import Derived.Test.YtlfljlhppigejaaPackPure
import Derived.Test.YtlfljlhppigejaaOneWalk
import Derived.Test.YtlfljlhppigejaaPackSmall
import Derived.Test.YtlfljlhppigejaaRulesWalk
import Derived.BigQuiet
import Derived.Deep.QuietTactic
import Derived.Deep.Light
import Derived.RegionTactic
import Derived.Deep.RegionHeld3
import Derived.BigRegion
import Derived.Test.YtlfljlhppigejaaPackRef
import Derived.Deep.DeepCutAuto
import Derived.StillTailTactics
import Derived.IntWalk
import Derived.Test.YtlfljlhppigejaaPackOp2
namespace Go.Proofs.Ytlfljlhppigejaa
open Go.RowKit

theorem CRow.mono {B B' : Nat} {w : World} {a : Option Addr} {cs : List Cm} (h : CRow B w a cs) (hb : B ≤ B') : CRow B' w a cs :=
  fun i hi => let ⟨b, o, h1, h2, h3⟩ := h i hi; ⟨b, o, h1, Nat.lt_of_lt_of_le h2 hb, h3⟩
/-- Ticks lie from a on. -/
def TRow (B : Nat) (w : World) (a : Option Addr) (ts : List (List Cm)) : Prop :=
  ∀ i, i < ts.length → ∃ b o la cl, a = some ⟨b, o, none⟩ ∧ b < B ∧ w.cell? ⟨b, o + i, none⟩ = some (.slice la (ts.getD i []).length cl) ∧ CRow B w la (ts.getD i []) ∧ (ts.getD i []).length ≤ maxLen
theorem TRow.below {B : Nat} {w w' : World} {a : Option Addr} {ts : List (List Cm)} (h : TRow B w a ts) (hb : Below B w w') : TRow B w' a ts :=
  fun i hi => let ⟨b, o, la, cl, h1, h2, h3, h4, h5⟩ := h i hi; ⟨b, o, la, cl, h1, h2, (hb.cell (p := ⟨b, _, none⟩) h2).trans h3, h4.below hb, h5⟩
theorem TRow.mono {B B' : Nat} {w : World} {a : Option Addr} {ts : List (List Cm)} (h : TRow B w a ts) (hb : B ≤ B') : TRow B' w a ts :=
  fun i hi => let ⟨b, o, la, cl, h1, h2, h3, h4, h5⟩ := h i hi; ⟨b, o, la, cl, h1, Nat.lt_of_lt_of_le h2 hb, h3, h4.mono hb, h5⟩
theorem TRow.get {B : Nat} {w : World} {a : Option Addr} {ts : List (List Cm)} (h : TRow B w a ts) (i : Nat) (hi : i < ts.length) (l : List Cm) (hl : ts.getD i [] = l) :
    ∃ b o la cl, a = some ⟨b, o, none⟩ ∧ b < B ∧ w.cell? ⟨b, o + i, none⟩ = some (.slice la l.length cl) ∧ CRow B w la l ∧ l.length ≤ maxLen := by
  have := h i hi
  rw [hl] at this
  exact this
end Go.Proofs.Ytlfljlhppigejaa
namespace Go.Proofs.Ytlfljlhppigejaa
open Go.RowKit

/-- What a statement asks of a tape's size. -/
def Light (g : G) (ts : List (List Cm)) : Prop := ts.length ≤ 70 ∧ (∀ k, k < ts.length → (ts.getD k []).length ≤ 12) ∧ g.us.length ≤ 25 ∧ g.free.length ≤ 220

end Go.Proofs.Ytlfljlhppigejaa
namespace Go.Proofs.Ytlfljlhppigejaa
open Go.RowKit

def mnI (x y : Int) : Int := if y < x then y else x
def min7 (a b c d e f g : Int) : Int := mnI (mnI (mnI (mnI (mnI (mnI a b) c) d) e) f) g
theorem run_min7 {P : Program} {w : World} (ts : Array TypeId) (t : TypeId) (a b c d e f g : Int) : (Builtin.min_ ts t #[.int .i64 a, .int .i64 b, .int .i64 c, .int .i64 d, .int .i64 e, .int .i64 f, .int .i64 g]).run P w = .ok (.int .i64 (min7 a b c d e f g)) w := by
  rfl
attribute [local go_sem] run_min7

end Go.Proofs.Ytlfljlhppigejaa
namespace Go.Proofs.Ytlfljlhppigejaa
open Go.RowKit

section
variable {H : Type} {enc : TypeId × Value → H} {w : World}
end
end Go.Proofs.Ytlfljlhppigejaa
