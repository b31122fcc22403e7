/-
  What an elder state, and a row of commands, that read as data look like in memory.
-/
import Derived.Test.YtlfljlhppigejaaOpen
import Derived.Test.YtlfljlhppigejaaElderWork
import Derived.Test.YtlfljlhppigejaaOneWalk
import Derived.Test.YtlfljlhppigejaaPackMaps
import Derived.Test.YtlfljlhppigejaaGameMem
import Derived.Test.YtlfljlhppigejaaRulesWalk
import Derived.BigQuiet
import Derived.Deep.QuietTactic
import Derived.Deep.Light
import Derived.RegionTactic
import Derived.Deep.RegionHeld3
import Derived.BigRegion
import Derived.Test.YtlfljlhppigejaaCheckLast
import Derived.Deep.DeepCutAuto
import Derived.StillTailTactics
import Derived.IntWalk
import Derived.Test.YtlfljlhppigejaaPackMix
import Derived.Test.YtlfljlhppigejaaCmdRow
import Derived.OpenShut
namespace Go.Proofs.Ytlfljlhppigejaa
open Go.RowKit

section
variable {H : Type} {enc : TypeId × Value → H} {P : Program} {w : World}
/-- Fields that are integers of 64 bits, one cell each. -/
def intsB (P : Program) (fs : Array Field) : Bool := (List.range fs.size).all fun i => match fs[i]? with
  | some f => (match P.underlying f.type with | some (.int .i64) => true | _ => false) && (P.cellsOf f.type == 1 && f.offset == i)
  | none => false
theorem open_cells {fuel : Nat} {t : TypeId} {fs : Array Field} {cs : List Value} {x : DataW H × List MemPlace} (ht : P.underlying t = some (.struct fs)) (hb : intsB P fs = true) (hc : P.cellsOf t = fs.size) (h : DataW.trod enc P w 0 (fun _ => true) true fuel t cs = some x) :
    cs.length = fs.size ∧ ∀ i, i < fs.size → ∃ a, cs[i]? = some (.int .i64 a) ∧ (Lit.int .i64 a).wf = true := by
  obtain ⟨xs, n, -, -, hl, hxl, hf⟩ := DataW.trod_struct ht h
  refine ⟨hl.trans hc, fun i hi => ?_⟩
  have h1 := List.all_eq_true.1 hb i (List.mem_range.2 hi)
  obtain ⟨f, hfi⟩ : ∃ f, fs[i]? = some f := ⟨_, Array.getElem?_eq_getElem hi⟩
  rw [hfi] at h1
  simp only [Bool.and_eq_true, beq_iff_eq] at h1
  obtain ⟨h2, h3, h4⟩ := h1
  have hu : P.underlying f.type = some (.int .i64) := by
    split at h2
    · assumption
    · cases h2
  have h5 := hf i f hfi
  rw [h3, h4] at h5
  rw [List.getElem?_eq_getElem (by omega)] at h5
  obtain ⟨a, ha, -, hw⟩ := DataW.trod_int hu h5
  refine ⟨a, ?_, hw⟩
  have hlt : i < cs.length := by omega
  rw [List.getElem?_eq_getElem hlt]
  have : (cs.drop i).take 1 = [cs[i]] := by
    rw [List.drop_eq_getElem_cons hlt]
    rfl
  rw [this] at ha
  injection ha with ha _
  rw [ha]
theorem fits_of {a : Int} (h : (Lit.int .i64 a).wf = true) : Fits64 a := by
  simp [Lit.wf, IntKind.min, IntKind.max, IntKind.signed, IntKind.bits] at h
  exact ⟨h.1, by omega⟩
end

section
variable {H : Type} {enc : TypeId × Value → H} {w : World}
theorem field_cells {n : Nat} {f : Field} {cs : List Value} {r : Option (DataW H × List MemPlace)} (h : DataW.trod enc Try.prog w 0 (fun _ => true) true n f.type ((cs.drop f.offset).take (Try.prog.cellsOf f.type)) = r) (T o s : Nat) (hT : f.type = T) (ho : f.offset = o) (hs : Try.prog.cellsOf T = s) :
    DataW.trod enc Try.prog w 0 (fun _ => true) true n T ((cs.drop o).take s) = r := by
  subst hT ho hs
  exact h
end
end Go.Proofs.Ytlfljlhppigejaa
