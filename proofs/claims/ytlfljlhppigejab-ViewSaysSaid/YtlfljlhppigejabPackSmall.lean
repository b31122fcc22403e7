/-
  How states of both games lie in memory. The walk of newer.task.
-/
import Derived.Test.YtlfljlhppigejabPackBase
import Derived.Test.YtlfljlhppigejabPackPure
import Derived.Test.YtlfljlhppigejabRulesWalk
import Derived.BigQuiet
import Derived.Deep.QuietTactic
import Derived.Deep.Light
namespace Go.Proofs.Ytlfljlhppigejab
open Go.RowKit

def cellsE (u : U) : List Value := [.int .i64 u.id, .int .i64 u.owner, .int .i64 u.kind, .int .i64 u.x, .int .i64 u.y, .int .i64 u.hp, .int .i64 u.does, .int .i64 u.gx, .int .i64 u.gy, .int .i64 u.target]
def cellsN (u : U) : List Value := cellsE u ++ [.int .i64 u.since]
def cellsOf (n : Bool) (u : U) : List Value := if n then cellsN u else cellsE u
def szOf (n : Bool) : Nat := if n then 11 else 10

/-- The units us lie from a on (in blocks below B). -/
def URow (n : Bool) (B : Nat) (w : World) (a : Option Addr) (us : List U) : Prop :=
  ∀ i, i < us.length → ∃ b o, a = some ⟨b, o, none⟩ ∧ b < B ∧ ∀ j, j < szOf n → w.cell? ⟨b, o + i * szOf n + j, none⟩ = (cellsOf n (us.getD i zeroU))[j]?
theorem URow.below {n : Bool} {B : Nat} {w w' : World} {a : Option Addr} {us : List U} (h : URow n B w a us) (hb : Below B w w') : URow n B w' a us :=
  fun i hi => let ⟨b, o, h1, h2, h3⟩ := h i hi; ⟨b, o, h1, h2, fun j hj => (hb.cell (p := ⟨b, _, none⟩) h2).trans (h3 j hj)⟩
theorem URow.mono {n : Bool} {B B' : Nat} {w : World} {a : Option Addr} {us : List U} (h : URow n B w a us) (hb : B ≤ B') : URow n B' w a us :=
  fun i hi => let ⟨b, o, h1, h2, h3⟩ := h i hi; ⟨b, o, h1, Nat.lt_of_lt_of_le h2 hb, h3⟩
theorem URow.getE {B : Nat} {w : World} {a : Option Addr} {us : List U} (h : URow false B w a us) (i : Nat) (hi : i < us.length) (u : U) (hu : us.getD i zeroU = u) :
    ∃ b o, a = some ⟨b, o, none⟩ ∧ b < B ∧ w.cell? ⟨b, o + i * 10, none⟩ = some (.int .i64 u.id) ∧ w.cell? ⟨b, o + i * 10 + 1, none⟩ = some (.int .i64 u.owner) ∧ w.cell? ⟨b, o + i * 10 + 2, none⟩ = some (.int .i64 u.kind) ∧
      w.cell? ⟨b, o + i * 10 + 3, none⟩ = some (.int .i64 u.x) ∧ w.cell? ⟨b, o + i * 10 + 4, none⟩ = some (.int .i64 u.y) ∧ w.cell? ⟨b, o + i * 10 + 5, none⟩ = some (.int .i64 u.hp) ∧ w.cell? ⟨b, o + i * 10 + 6, none⟩ = some (.int .i64 u.does) ∧
      w.cell? ⟨b, o + i * 10 + 7, none⟩ = some (.int .i64 u.gx) ∧ w.cell? ⟨b, o + i * 10 + 8, none⟩ = some (.int .i64 u.gy) ∧ w.cell? ⟨b, o + i * 10 + 9, none⟩ = some (.int .i64 u.target) := by
  obtain ⟨b, o, h1, h2, h3⟩ := h i hi
  rw [hu] at h3
  exact ⟨b, o, h1, h2, h3 0 (by decide), h3 1 (by decide), h3 2 (by decide), h3 3 (by decide), h3 4 (by decide), h3 5 (by decide), h3 6 (by decide), h3 7 (by decide), h3 8 (by decide), h3 9 (by decide)⟩
end Go.Proofs.Ytlfljlhppigejab
namespace Go.Proofs.Ytlfljlhppigejab
open Go.RowKit

set_option maxHeartbeats 3200000 in
set_option maxRecDepth 100000 in
theorem task_any (u v : U) (b1 o1 b2 o2 : Nat) (w : World) (l1 : b1 < w.heap.size) (l2 : b2 < w.heap.size) (uo : w.cell? ⟨b1, o1 + 1, none⟩ = some (.int .i64 u.owner)) (uk : w.cell? ⟨b1, o1 + 2, none⟩ = some (.int .i64 u.kind)) (vo : w.cell? ⟨b2, o2 + 1, none⟩ = some (.int .i64 v.owner)) (vk : w.cell? ⟨b2, o2 + 2, none⟩ = some (.int .i64 v.kind)) :
    Calls Try.prog 98 #[.pointer (some ⟨b1, o1, none⟩), .pointer (some ⟨b2, o2, none⟩)] w fun e w' => e = .returned (.int .i64 (mayDo true u v)) ∧ Below w.heap.size w w' := by
  go_enter Try.func98, Try.ntmps98
  go_wp2_with fail
  refine (rNewer u.kind _).mono ?_
  rintro e w1 ⟨rfl, bb⟩
  have uo1 := (bb.cell (p := ⟨b1, o1 + 1, none⟩) l1).trans uo
  have vo1 := (bb.cell (p := ⟨b2, o2 + 1, none⟩) l2).trans vo
  have vk1 := (bb.cell (p := ⟨b2, o2 + 2, none⟩) l2).trans vk
  have hs := bb.size
  have l1' : b1 < w1.heap.size := by omega
  have l2' : b2 < w1.heap.size := by omega
  obtain ⟨r, hrr⟩ : ∃ r, ruleOf true u.kind = r := ⟨_, rfl⟩
  have HR := Lib.hid hrr
  have HB := Lib.hid bb
  rw [hrr]
  clear hrr bb uo uk vo vk
  by_cases h4 : v.kind = 4
  · have d4 : (v.kind == 4) = true := by simp [h4]
    have H4 := Lib.hid h4
    clear h4
    by_cases hl : 0 < r.load
    · have dl : decide (0 < r.load) = true := decide_eq_true hl
      have HL := Lib.hid hl
      clear hl
      go_wp2_with fail
      go_ret
      refine ⟨ret1 (intv ?_), HB.out.alloc hs _⟩
      have h1 := HL.out
      unfold mayDo
      rw [HR.out, if_pos ⟨H4.out, h1⟩]
    · have dl : decide (0 < r.load) = false := decide_eq_false hl
      have HL := Lib.hid hl
      clear hl
      go_wp2_with fail
      go_ret
      refine ⟨ret1 (intv ?_), HB.out.alloc hs _⟩
      unfold mayDo
      rw [HR.out, if_neg (fun h => absurd h.2 (by have := HL.out; omega)), if_neg (fun h => h.1 H4.out)]
  · have d4 : (v.kind == 4) = false := by simp [h4]
    have H4 := Lib.hid h4
    clear h4
    by_cases ho : v.owner = u.owner
    · have d1 : (v.owner != u.owner) = false := by simp [ho]
      have HO := Lib.hid ho
      clear ho
      go_wp2_with fail
      go_quiet (fail)
      go_wp2_with fail
      go_ret
      refine ⟨ret1 (intv ?_), below_drewN (HB.out.alloc hs _) _⟩
      unfold mayDo
      rw [if_neg (fun h => H4.out h.1), if_neg (fun h => h.2.1 HO.out)]
    · have d1 : (v.owner != u.owner) = true := by simp [ho]
      have HO := Lib.hid ho
      clear ho
      by_cases hh : 0 < r.harm
      · have dl : decide (0 < r.harm) = true := decide_eq_true hh
        have HL := Lib.hid hh
        clear hh
        go_wp2_with fail
        go_quiet (fail)
        go_wp2_with fail
        go_ret
        refine ⟨ret1 (intv ?_), below_drewN (HB.out.alloc hs _) _⟩
        unfold mayDo
        rw [if_neg (fun h => H4.out h.1), HR.out, if_pos ⟨H4.out, HO.out, HL.out⟩]
      · have dl : decide (0 < r.harm) = false := decide_eq_false hh
        have HL := Lib.hid hh
        clear hh
        go_wp2_with fail
        go_quiet (fail)
        go_wp2_with fail
        go_ret
        refine ⟨ret1 (intv ?_), below_drewN (HB.out.alloc hs _) _⟩
        unfold mayDo
        rw [if_neg (fun h => H4.out h.1), HR.out, if_neg (fun h => absurd h.2.2 (by have := HL.out; omega))]
end Go.Proofs.Ytlfljlhppigejab
