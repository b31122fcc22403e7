/-
  What an argument that reads as data looks like in memory: slices of whatever elements, by cells. No program in sight. What an elder state, and a row of commands, that read as data look like in memory.
-/
import Derived.Test.YtlfljlhppigejaaPackBase
import Derived.ProofKit
import Derived.Deep.Slices
import Derived.ChangeOld
import Derived.Test.YtlfljlhppigejaaElderWork
import Derived.Test.YtlfljlhppigejaaOneWalk
import Derived.Test.YtlfljlhppigejaaPackMaps
import Derived.Test.YtlfljlhppigejaaPackSmall
import Derived.Test.YtlfljlhppigejaaRulesWalk
import Derived.BigQuiet
import Derived.Deep.QuietTactic
import Derived.Deep.Light
import Derived.RegionTactic
import Derived.Deep.RegionHeld3
import Derived.BigRegion
import Derived.Test.YtlfljlhppigejaaPackRef
import Derived.Deep.DeepCutAuto
import Derived.StillTailTactics
import Derived.IntWalk
import Derived.Test.YtlfljlhppigejaaPackMix
import Derived.Test.YtlfljlhppigejaaCmdRow
import Derived.OpenShut
namespace Go.Proofs.Ytlfljlhppigejaa
open Go.RowKit

section
variable {H : Type} {enc : TypeId × Value → H} {P : Program} {w : World}

theorem cell_in {w : World} {a : Addr} {v : Value} (h : w.cell? a = some v) : a.block < w.heap.size := by
  rcases Nat.lt_or_ge a.block w.heap.size with h1 | h1
  · exact h1
  · simp [World.cell?, Array.getElem?_eq_none h1] at h

/-- A slice whose elements have s cells each. -/
theorem open_rows {t e s fuel : Nat} {a : Option Addr} {len cap : Nat} {x : DataW H × List MemPlace} (ht : P.underlying t = some (.slice e)) (hc : P.cellsOf e = s) (hs : 0 < s)
    (h : DataW.trod enc P w 0 (fun _ => true) true fuel t [.slice a len cap] = some x) :
    len ≤ cap ∧ cap ≤ maxLen ∧ (a = none → len = 0) ∧ ∃ n, ∀ i, i < len → ∃ b o cs, a = some ⟨b, o, none⟩ ∧ b < w.heap.size ∧ cs.length = s ∧
      (∀ j, j < s → w.cell? ⟨b, o + i * s + j, none⟩ = cs[j]?) ∧ ∃ y, DataW.trod enc P w 0 (fun _ => true) true n e cs = some y := by
  rcases Deep.open_slice ht h with ⟨h1, _⟩ | ⟨a0, len0, cap0, m, n, D, Pl, h1, _, hl, hm, hmm, _, hx⟩
  · simp at h1
    obtain ⟨rfl, rfl, rfl⟩ := h1
    exact ⟨Nat.le_refl _, by unfold maxLen; omega, fun _ => rfl, 0, fun i hi => absurd hi (by omega)⟩
  · simp at h1
    obtain ⟨rfl, rfl, rfl⟩ := h1
    refine ⟨hl, hm, (fun h => by cases h), n, fun i hi => ?_⟩
    simp at hmm
    obtain ⟨cs, h2, h3⟩ := hx i (by omega)
    rw [hc] at h2
    obtain ⟨_, h5, h6⟩ := World.cells?_some h2
    have hsp : a0.spot = none := by
      have h7 : 0 < m := by omega
      obtain ⟨cs', h8, _⟩ := hx 0 h7
      rw [hc] at h8
      obtain ⟨_, h9, h10⟩ := World.cells?_some h8
      have h11 := h10 0 hs
      rw [List.getElem?_eq_getElem (by omega)] at h11
      have h12 := World.cell?_spot h11
      simpa [Addr.add] using h12
    obtain ⟨b, o, sp⟩ := a0
    simp at hsp
    subst hsp
    have hcell : ∀ j, j < s → w.cell? ⟨b, o + i * s + j, none⟩ = cs[j]? := by
      intro j hj
      rw [← h6 j hj]
      congr 1
      unfold Addr.add
      split <;> split <;> simp_all <;> omega
    refine ⟨b, o, cs, rfl, ?_, h5, hcell, _, h3⟩
    have := hcell 0 hs
    rw [List.getElem?_eq_getElem (by omega)] at this
    exact cell_in this

/-- One function for all indexes below n. -/
theorem choose_fn {α : Type} [Inhabited α] {n : Nat} {p : Nat → α → Prop} (h : ∀ i, i < n → ∃ x, p i x) : ∃ f : Nat → α, ∀ i, i < n → p i (f i) := Deep.choose_lt h

end
end Go.Proofs.Ytlfljlhppigejaa
namespace Go.Proofs.Ytlfljlhppigejaa
open Go.RowKit

section
variable {H : Type} {enc : TypeId × Value → H} {P : Program} {w : World}
/-- Fields that are integers of 64 bits, one cell each. -/
def intsB (P : Program) (fs : Array Field) : Bool := (List.range fs.size).all fun i => match fs[i]? with
  | some f => (match P.underlying f.type with | some (.int .i64) => true | _ => false) && (P.cellsOf f.type == 1 && f.offset == i)
  | none => false
theorem open_cells {fuel : Nat} {t : TypeId} {fs : Array Field} {cs : List Value} {x : DataW H × List MemPlace} (ht : P.underlying t = some (.struct fs)) (hb : intsB P fs = true) (hc : P.cellsOf t = fs.size) (h : DataW.trod enc P w 0 (fun _ => true) true fuel t cs = some x) :
    cs.length = fs.size ∧ ∀ i, i < fs.size → ∃ a, cs[i]? = some (.int .i64 a) ∧ (Lit.int .i64 a).wf = true := by
  obtain ⟨xs, n, -, -, hl, hxl, hf⟩ := DataW.trod_struct ht h
  refine ⟨hl.trans hc, fun i hi => ?_⟩
  have h1 := List.all_eq_true.1 hb i (List.mem_range.2 hi)
  obtain ⟨f, hfi⟩ : ∃ f, fs[i]? = some f := ⟨_, Array.getElem?_eq_getElem hi⟩
  rw [hfi] at h1
  simp only [Bool.and_eq_true, beq_iff_eq] at h1
  obtain ⟨h2, h3, h4⟩ := h1
  have hu : P.underlying f.type = some (.int .i64) := by
    split at h2
    · assumption
    · cases h2
  have h5 := hf i f hfi
  rw [h3, h4] at h5
  rw [List.getElem?_eq_getElem (by omega)] at h5
  obtain ⟨a, ha, -, hw⟩ := DataW.trod_int hu h5
  refine ⟨a, ?_, hw⟩
  have hlt : i < cs.length := by omega
  rw [List.getElem?_eq_getElem hlt]
  have : (cs.drop i).take 1 = [cs[i]] := by
    rw [List.drop_eq_getElem_cons hlt]
    rfl
  rw [this] at ha
  injection ha with ha _
  rw [ha]
theorem fits_of {a : Int} (h : (Lit.int .i64 a).wf = true) : Fits64 a := by
  simp [Lit.wf, IntKind.min, IntKind.max, IntKind.signed, IntKind.bits] at h
  exact ⟨h.1, by omega⟩
end

section
variable {H : Type} {enc : TypeId × Value → H} {w : World}
theorem field_cells {n : Nat} {f : Field} {cs : List Value} {r : Option (DataW H × List MemPlace)} (h : DataW.trod enc Try.prog w 0 (fun _ => true) true n f.type ((cs.drop f.offset).take (Try.prog.cellsOf f.type)) = r) (T o s : Nat) (hT : f.type = T) (ho : f.offset = o) (hs : Try.prog.cellsOf T = s) :
    DataW.trod enc Try.prog w 0 (fun _ => true) true n T ((cs.drop o).take s) = r := by
  subst hT ho hs
  exact h
end
end Go.Proofs.Ytlfljlhppigejaa
