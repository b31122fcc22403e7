/-
  Keys that are pairs of integers.
-/
import Derived.Test.YtlfljlhppigejabProg
import Derived.Test.YtlfljlhppigejabChecked
import Derived.Test.YtlfljlhppigejabMaps
import Derived.DeepKeys4
namespace Go.Proofs.Ytlfljlhppigejab
open Go.RowKit

theorem keyLits_pair {P : Program} {t e : TypeId} (ht : P.underlying t = some (.array 2 e)) (he : P.underlying e = some (.int .i64)) (hc : P.cellsOf t = 2) (hce : P.cellsOf e = 1)
    {a b : Int} (ha : (Lit.int .i64 a).wf = true) (hb : (Lit.int .i64 b).wf = true) (d : Nat) : P.keyLits (d + 1 + 1) t [.int .i64 a, .int .i64 b] = some [.int .i64 a, .int .i64 b] := by
  simp [Program.keyLits, ht, he, hc, hce, ha, hb, List.range, List.range.loop]

def pairV (p : Int × Int) : Value := .agg #[.int .i64 p.1, .int .i64 p.2]
def pairOk (p : Int × Int) : Prop := (Lit.int .i64 p.1).wf = true ∧ (Lit.int .i64 p.2).wf = true

theorem pairKeys_of {P : Program} {t e : TypeId} (hl : laidOutB P = true) (hrow : t < P.types.size) (hk2 : P.keyTypeAt 2 t = true) (hkt : P.keyType t = true) (ht : P.underlying t = some (.array 2 e)) (he : P.underlying e = some (.int .i64)) (hc : P.cellsOf t = 2) (hce : P.cellsOf e = 1) :
    KeyKind P t (Int × Int) pairV pairOk := by
  refine ⟨Maps.Keyed.of_law (deep_law_laid hl (m := 2) (by omega) hrow hk2 (by rw [ht])), ?_, ?_⟩
  · rintro ⟨a, b⟩ ⟨ha, hb⟩
    obtain ⟨n, hn⟩ : ∃ n, P.types.size + 1 = n + 1 + 1 := ⟨P.types.size - 1, by have h0 : 0 < P.types.size := Nat.lt_of_le_of_lt (Nat.zero_le _) hrow; omega⟩
    have hf : (pairV (a, b)).formed P t = true := by simp [pairV, Value.formed, ht, hc]
    refine ⟨.string (keyBytes [.int .i64 a, .int .i64 b]), ?_⟩
    unfold keyOf
    rw [ht]
    dsimp only
    rw [hkt, hf, hn]
    have := keyLits_pair ht he hc hce ha hb n
    simp only [pairV, Value.cells, Bool.and_self, if_true, this, Option.map_some]
  · rintro ⟨a, b⟩ ⟨c, d⟩ h
    simp only [pairV, Value.agg.injEq, Array.mk.injEq, List.cons.injEq, Value.int.injEq, true_and, and_true] at h
    obtain ⟨rfl, rfl⟩ := h
    rfl
theorem pairKeys : KeyKind Try.prog 22 (Int × Int) pairV pairOk :=
  pairKeys_of (e := 3) (by kernel_rfl) (of_decide_eq_true (by kernel_rfl)) (by kernel_rfl) (by kernel_rfl) (by kernel_rfl) (by kernel_rfl) (by kernel_rfl) (by kernel_rfl)
end Go.Proofs.Ytlfljlhppigejab
