/-
  Words that all walks of this seat use: a row of cells that is read; what stays.
-/
import Derived.WalkKit
import Derived.WalkSpells
import Derived.WalkLawsBesides
import Derived.Lib.Hide
namespace Go.Proofs.Ytlfljlhppigejab
open Go.RowKit

/-- The first n cells from a on are f 0, f 1 and so on (in blocks below B). -/
def Row (B : Nat) (w : World) (a : Option Addr) (n : Nat) (f : Nat → Value) : Prop :=
  ∀ k, k < n → ∃ b o, a = some ⟨b, o, none⟩ ∧ b < B ∧ w.cell? ⟨b, o + k, none⟩ = some (f k)

theorem Row.below {B : Nat} {w w' : World} {a : Option Addr} {n : Nat} {f : Nat → Value} (h : Row B w a n f) (hb : Below B w w') : Row B w' a n f :=
  fun k hk => let ⟨b, o, ha, hlt, hc⟩ := h k hk; ⟨b, o, ha, hlt, by rw [hb.cell (by exact hlt)]; exact hc⟩
theorem Row.mono {B B' : Nat} {w : World} {a : Option Addr} {n : Nat} {f : Nat → Value} (h : Row B w a n f) (hb : B ≤ B') : Row B' w a n f :=
  fun k hk => let ⟨b, o, ha, hlt, hc⟩ := h k hk; ⟨b, o, ha, Nat.lt_of_lt_of_le hlt hb, hc⟩
theorem Row.le {B : Nat} {w : World} {a : Option Addr} {n m : Nat} {f : Nat → Value} (h : Row B w a n f) (hm : m ≤ n) : Row B w a m f :=
  fun k hk => h k (Nat.lt_of_lt_of_le hk hm)

theorem cell_other {w : World} {a b : Addr} {v : Value} (h : a.block ≠ b.block) : (w.setCell a v).cell? b = w.cell? b :=
  World.cell?_setCell_other w a b v (fun e => h (by rw [e]))
theorem cell_off {w : World} {k i j : Nat} {v : Value} (h : i ≠ j) : (w.setCell ⟨k, i, none⟩ v).cell? ⟨k, j, none⟩ = w.cell? ⟨k, j, none⟩ :=
  World.cell?_setCell_other w _ _ v (fun e => h (congrArg Addr.off e))
theorem cell_same {w : World} {a : Addr} {v u : Value} (h : w.cell? a = some u) : (w.setCell a v).cell? a = some v :=
  World.cell?_setCell_same w a v h
theorem free_set {w : World} {a b : Addr} {v : Value} : (w.setCell a v).frozen? b = w.frozen? b := World.frozen?_setCell w a b v
theorem Row.set {B : Nat} {w : World} {a : Option Addr} {n : Nat} {f : Nat → Value} (h : Row B w a n f) {p : Addr} (hp : B ≤ p.block) (v : Value) : Row B (w.setCell p v) a n f :=
  fun k hk => let ⟨b, o, ha, hlt, hc⟩ := h k hk; ⟨b, o, ha, hlt, by rw [cell_other (by show p.block ≠ b; omega)]; exact hc⟩

theorem ret1 {a b : Value} (h : a = b) : Ending.returned a = .returned b := by rw [h]
theorem ret2 {a b c d : Value} (h : a = b) (h' : c = d) : Ending.returned (.tuple #[a, c]) = .returned (.tuple #[b, d]) := by rw [h, h']
theorem ret3 {a b c d x y : Value} (h : a = b) (h' : c = d) (h'' : x = y) : Ending.returned (.tuple #[a, c, x]) = .returned (.tuple #[b, d, y]) := by rw [h, h', h'']
theorem boolv {p q : Bool} (h : p = q) : Value.bool p = .bool q := by rw [h]
theorem intv {k : IntKind} {p q : Int} (h : p = q) : Value.int k p = .int k q := by rw [h]

theorem cell_blk {w : World} {k l i j : Nat} {v : Value} (h : k ≠ l) : (w.setCell ⟨k, i, none⟩ v).cell? ⟨l, j, none⟩ = w.cell? ⟨l, j, none⟩ := cell_other h
theorem Row.at {B : Nat} {w : World} {b o n : Nat} {f : Nat → Value} (h : Row B w (some ⟨b, o, none⟩) n f) (k : Nat) (hk : k < n) : w.cell? ⟨b, o + k, none⟩ = some (f k) := by
  obtain ⟨b', o', e, -, hc⟩ := h k hk
  cases e
  exact hc

theorem bcell {W w1 : World} {B : Nat} (hb : Below B W w1) : (∀ b o, b < B → w1.cell? ⟨b, o, none⟩ = W.cell? ⟨b, o, none⟩) ∧ (∀ b o, b < B → w1.frozen? ⟨b, o, none⟩ = W.frozen? ⟨b, o, none⟩) :=
  ⟨fun b o h => hb.cell (p := ⟨b, o, none⟩) h, fun b o h => hb.frozen (p := ⟨b, o, none⟩) h⟩

/-- Block S holds just the cells c, and may be written. -/
def Blk (w : World) (S : Nat) (c : Array Value) : Prop := S < w.heap.size ∧ (∀ i, w.cell? ⟨S, i, none⟩ = c[i]?) ∧ ∀ i, w.frozen? ⟨S, i, none⟩ = false
theorem Blk.lt {w : World} {S : Nat} {c : Array Value} (h : Blk w S c) : S < w.heap.size := h.1
theorem Blk.cell {w : World} {S : Nat} {c : Array Value} (h : Blk w S c) : ∀ i, w.cell? ⟨S, i, none⟩ = c[i]? := h.2.1
theorem Blk.free {w : World} {S : Nat} {c : Array Value} (h : Blk w S c) : ∀ i, w.frozen? ⟨S, i, none⟩ = false := h.2.2
theorem Blk.new (w : World) (c : Array Value) (t : TypeId) : Blk (w.alloc (.cells c t)) w.heap.size c :=
  ⟨by simp, fun i => World.cell?_alloc_new w c t i, fun i => World.frozen?_alloc_new w c t i⟩
theorem Blk.alloc {w : World} {S : Nat} {c : Array Value} (h : Blk w S c) (o : Obj) : Blk (w.alloc o) S c :=
  ⟨by have := h.1; simp; omega, fun i => (World.cell?_alloc_old w o _ (Nat.ne_of_lt h.1)).trans (h.2.1 i), fun i => (World.frozen?_alloc_old w o _ (Nat.ne_of_lt h.1)).trans (h.2.2 i)⟩
theorem Blk.below {w w' : World} {S B : Nat} {c : Array Value} (h : Blk w S c) (hb : Below B w w') (hS : S < B) : Blk w' S c :=
  ⟨Nat.lt_of_lt_of_le h.1 hb.size, fun i => (hb.cell (p := ⟨S, i, none⟩) hS).trans (h.2.1 i), fun i => (hb.frozen (p := ⟨S, i, none⟩) hS).trans (h.2.2 i)⟩
theorem Blk.call {w w' : World} {S : Nat} {c : Array Value} (h : Blk w S c) (hb : Below w.heap.size w w') : Blk w' S c := h.below hb h.1
theorem Blk.other {w : World} {S T i : Nat} {c : Array Value} {v : Value} (h : Blk w S c) (hT : T ≠ S) : Blk (w.setCell ⟨T, i, none⟩ v) S c :=
  ⟨by simpa using h.1, fun j => (cell_blk hT).trans (h.2.1 j), fun j => free_set.trans (h.2.2 j)⟩
theorem Blk.store {w : World} {S i : Nat} {c : Array Value} (v : Value) (h : Blk w S c) (hi : i < c.size) : Blk (w.setCell ⟨S, i, none⟩ v) S (c.setIfInBounds i v) := by
  refine ⟨by simpa using h.1, fun j => ?_, fun j => free_set.trans (h.2.2 j)⟩
  by_cases hj : i = j
  · subst hj
    rw [cell_same (u := c[i]) (by rw [h.2.1 i]; simp [hi])]
    simp [hi]
  · rw [cell_off hj, h.2.1 j]
    simp [hj]
theorem Blk.drew {w : World} {S : Nat} {c : Array Value} (h : Blk w S c) : Blk w.drew S c := h
theorem Blk.drewN {w : World} {S : Nat} {c : Array Value} (h : Blk w S c) (n : Nat) : Blk (w.drewN n) S c := h

/-- What a statement's call comes to: true, and what was there stays. -/
def TrueBelow (w : World) (e : Ending) (w' : World) : Prop := e = .returned (.bool true) ∧ Below w.heap.size w w'
theorem tb {w w' : World} {v : Value} (h : v = .bool true) (hb : Below w.heap.size w w') : TrueBelow w (.returned v) w' := ⟨by rw [h], hb⟩
end Go.Proofs.Ytlfljlhppigejab
