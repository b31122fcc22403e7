/-
  Reels: how they lie in memory; the walk of snap.CheckReel.
-/
import Derived.Test.YtlfljlhppigejaaTapeAll
import Derived.Test.YtlfljlhppigejaaNewCheck
namespace Go.Proofs.Ytlfljlhppigejaa
open Go.RowKit

def cellsO (c : Cm) : List Value := [.int .i64 c.player, .int .i64 c.op, .int .i64 c.id, .int .i64 c.kind, .int .i64 c.x, .int .i64 c.y]
/-- Orders lie from a on. -/
def ORow (B : Nat) (w : World) (a : Option Addr) (cs : List Cm) : Prop :=
  ∀ i, i < cs.length → ∃ b o, a = some ⟨b, o, none⟩ ∧ b < B ∧ ∀ j, j < 6 → w.cell? ⟨b, o + i * 6 + j, none⟩ = (cellsO (cs.getD i zeroC))[j]?
theorem ORow.below {B : Nat} {w w' : World} {a : Option Addr} {cs : List Cm} (h : ORow B w a cs) (hb : Below B w w') : ORow B w' a cs :=
  fun i hi => let ⟨b, o, h1, h2, h3⟩ := h i hi; ⟨b, o, h1, h2, fun j hj => (hb.cell (p := ⟨b, _, none⟩) h2).trans (h3 j hj)⟩
theorem ORow.get {B : Nat} {w : World} {a : Option Addr} {cs : List Cm} (h : ORow B w a cs) (i : Nat) (hi : i < cs.length) (c : Cm) (hc : cs.getD i zeroC = c) :
    ∃ b o, a = some ⟨b, o, none⟩ ∧ b < B ∧ w.cell? ⟨b, o + i * 6, none⟩ = some (.int .i64 c.player) ∧ w.cell? ⟨b, o + i * 6 + 1, none⟩ = some (.int .i64 c.op) ∧ w.cell? ⟨b, o + i * 6 + 2, none⟩ = some (.int .i64 c.id) ∧ w.cell? ⟨b, o + i * 6 + 3, none⟩ = some (.int .i64 c.kind) ∧
      w.cell? ⟨b, o + i * 6 + 4, none⟩ = some (.int .i64 c.x) ∧ w.cell? ⟨b, o + i * 6 + 5, none⟩ = some (.int .i64 c.y) := by
  obtain ⟨b, o, h1, h2, h3⟩ := h i hi
  rw [hc] at h3
  exact ⟨b, o, h1, h2, h3 0 (by decide), h3 1 (by decide), h3 2 (by decide), h3 3 (by decide), h3 4 (by decide), h3 5 (by decide)⟩
theorem ORow.mono {B B' : Nat} {w : World} {a : Option Addr} {cs : List Cm} (h : ORow B w a cs) (hb : B ≤ B') : ORow B' w a cs :=
  fun i hi => let ⟨b, o, h1, h2, h3⟩ := h i hi; ⟨b, o, h1, Nat.lt_of_lt_of_le h2 hb, h3⟩
/-- Ticks lie from a on. -/
def PRow (B : Nat) (w : World) (a : Option Addr) (ts : List (List Cm)) : Prop :=
  ∀ i, i < ts.length → ∃ b o la cl, a = some ⟨b, o, none⟩ ∧ b < B ∧ w.cell? ⟨b, o + i, none⟩ = some (.slice la (ts.getD i []).length cl) ∧ ORow B w la (ts.getD i []) ∧ (ts.getD i []).length ≤ maxLen
theorem PRow.below {B : Nat} {w w' : World} {a : Option Addr} {ts : List (List Cm)} (h : PRow B w a ts) (hb : Below B w w') : PRow B w' a ts :=
  fun i hi => let ⟨b, o, la, cl, h1, h2, h3, h4, h5⟩ := h i hi; ⟨b, o, la, cl, h1, h2, (hb.cell (p := ⟨b, _, none⟩) h2).trans h3, h4.below hb, h5⟩
theorem PRow.mono {B B' : Nat} {w : World} {a : Option Addr} {ts : List (List Cm)} (h : PRow B w a ts) (hb : B ≤ B') : PRow B' w a ts :=
  fun i hi => let ⟨b, o, la, cl, h1, h2, h3, h4, h5⟩ := h i hi; ⟨b, o, la, cl, h1, Nat.lt_of_lt_of_le h2 hb, h3, h4.mono hb, h5⟩
theorem PRow.get {B : Nat} {w : World} {a : Option Addr} {ts : List (List Cm)} (h : PRow B w a ts) (i : Nat) (hi : i < ts.length) (l : List Cm) (hl : ts.getD i [] = l) :
    ∃ b o la cl, a = some ⟨b, o, none⟩ ∧ b < B ∧ w.cell? ⟨b, o + i, none⟩ = some (.slice la l.length cl) ∧ ORow B w la l ∧ l.length ≤ maxLen := by
  have := h i hi
  rw [hl] at this
  exact this

def min6 (a b c d e f : Int) : Int := mnI (mnI (mnI (mnI (mnI a b) c) d) e) f
theorem run_min6 {P : Program} {w : World} (ts : Array TypeId) (t : TypeId) (a b c d e f : Int) : (Builtin.min_ ts t #[.int .i64 a, .int .i64 b, .int .i64 c, .int .i64 d, .int .i64 e, .int .i64 f]).run P w = .ok (.int .i64 (min6 a b c d e f)) w := by
  rfl
attribute [local go_sem] run_min6

end Go.Proofs.Ytlfljlhppigejaa
