/-
  What an argument that reads as data looks like in memory: slices of whatever elements, by cells. No program in sight. What an elder state, and a row of commands, that read as data look like in memory.
-/
import Derived.Test.YtlfljlhppigejabPackBase
import Derived.ProofKit
import Derived.Deep.Slices
import Derived.ChangeOld
import Derived.Test.YtlfljlhppigejabElderWork
import Derived.Test.YtlfljlhppigejabElderCheck
import Derived.Test.YtlfljlhppigejabPackMix
import Derived.Test.YtlfljlhppigejabCmdRow
import Derived.OpenShut
namespace Go.Proofs.Ytlfljlhppigejab
open Go.RowKit

section
variable {H : Type} {enc : TypeId × Value → H} {P : Program} {w : World}

theorem cell_in {w : World} {a : Addr} {v : Value} (h : w.cell? a = some v) : a.block < w.heap.size := by
  rcases Nat.lt_or_ge a.block w.heap.size with h1 | h1
  · exact h1
  · simp [World.cell?, Array.getElem?_eq_none h1] at h

/-- A slice whose elements have s cells each. -/
theorem open_rows {t e s fuel : Nat} {a : Option Addr} {len cap : Nat} {x : DataW H × List MemPlace} (ht : P.underlying t = some (.slice e)) (hc : P.cellsOf e = s) (hs : 0 < s)
    (h : DataW.trod enc P w 0 (fun _ => true) true fuel t [.slice a len cap] = some x) :
    len ≤ cap ∧ cap ≤ maxLen ∧ (a = none → len = 0) ∧ ∃ n, ∀ i, i < len → ∃ b o cs, a = some ⟨b, o, none⟩ ∧ b < w.heap.size ∧ cs.length = s ∧
      (∀ j, j < s → w.cell? ⟨b, o + i * s + j, none⟩ = cs[j]?) ∧ ∃ y, DataW.trod enc P w 0 (fun _ => true) true n e cs = some y := by
  rcases Deep.open_slice ht h with ⟨h1, _⟩ | ⟨a0, len0, cap0, m, n, D, Pl, h1, _, hl, hm, hmm, _, hx⟩
  · simp at h1
    obtain ⟨rfl, rfl, rfl⟩ := h1
    exact ⟨Nat.le_refl _, by unfold maxLen; omega, fun _ => rfl, 0, fun i hi => absurd hi (by omega)⟩
  · simp at h1
    obtain ⟨rfl, rfl, rfl⟩ := h1
    refine ⟨hl, hm, (fun h => by cases h), n, fun i hi => ?_⟩
    simp at hmm
    obtain ⟨cs, h2, h3⟩ := hx i (by omega)
    rw [hc] at h2
    obtain ⟨_, h5, h6⟩ := World.cells?_some h2
    have hsp : a0.spot = none := by
      have h7 : 0 < m := by omega
      obtain ⟨cs', h8, _⟩ := hx 0 h7
      rw [hc] at h8
      obtain ⟨_, h9, h10⟩ := World.cells?_some h8
      have h11 := h10 0 hs
      rw [List.getElem?_eq_getElem (by omega)] at h11
      have h12 := World.cell?_spot h11
      simpa [Addr.add] using h12
    obtain ⟨b, o, sp⟩ := a0
    simp at hsp
    subst hsp
    have hcell : ∀ j, j < s → w.cell? ⟨b, o + i * s + j, none⟩ = cs[j]? := by
      intro j hj
      rw [← h6 j hj]
      congr 1
      unfold Addr.add
      split <;> split <;> simp_all <;> omega
    refine ⟨b, o, cs, rfl, ?_, h5, hcell, _, h3⟩
    have := hcell 0 hs
    rw [List.getElem?_eq_getElem (by omega)] at this
    exact cell_in this

/-- One function for all indexes below n. -/
theorem choose_fn {α : Type} [Inhabited α] {n : Nat} {p : Nat → α → Prop} (h : ∀ i, i < n → ∃ x, p i x) : ∃ f : Nat → α, ∀ i, i < n → p i (f i) := Deep.choose_lt h

/-- A slice of integers of one kind. -/
theorem open_nums {t e fuel : Nat} {k : IntKind} {a : Option Addr} {len cap : Nat} {x : DataW H × List MemPlace} (ht : P.underlying t = some (.slice e)) (he : P.underlying e = some (.int k)) (hc : P.cellsOf e = 1)
    (h : DataW.trod enc P w 0 (fun _ => true) true fuel t [.slice a len cap] = some x) :
    len ≤ maxLen ∧ ∃ A : List Int, A.length = len ∧ (∀ n ∈ A, (Lit.int k n).wf = true) ∧ Row w.heap.size w a len (fun i => .int k (A.getD i 0)) := by
  obtain ⟨h1, h2, _, n, h3⟩ := open_rows ht hc (by omega) h
  refine ⟨by omega, ?_⟩
  obtain ⟨f, hf⟩ := choose_fn (α := Int) (p := fun i v => (Lit.int k v).wf = true ∧ ∃ b o, a = some ⟨b, o, none⟩ ∧ b < w.heap.size ∧ w.cell? ⟨b, o + i, none⟩ = some (.int k v)) (fun i hi => by
    obtain ⟨b, o, cs, h4, h5, h6, h7, y, h8⟩ := h3 i hi
    obtain ⟨v, rfl, _, hw⟩ := DataW.trod_int he h8
    exact ⟨v, hw, b, o, h4, h5, by have := h7 0 (by omega); simpa using this⟩)
  refine ⟨(List.range len).map f, by simp, fun v hv => ?_, fun i hi => ?_⟩
  · obtain ⟨i, hi, rfl⟩ := List.mem_map.1 hv
    exact (hf i (by simpa using hi)).1
  · have : ((List.range len).map f).getD i 0 = f i := by simp [List.getD, hi]
    simp only [this]
    exact (hf i hi).2
end
end Go.Proofs.Ytlfljlhppigejab
namespace Go.Proofs.Ytlfljlhppigejab
open Go.RowKit

section
variable {H : Type} {enc : TypeId × Value → H} {P : Program} {w : World}
/-- Fields that are integers of 64 bits, one cell each. -/
def intsB (P : Program) (fs : Array Field) : Bool := (List.range fs.size).all fun i => match fs[i]? with
  | some f => (match P.underlying f.type with | some (.int .i64) => true | _ => false) && (P.cellsOf f.type == 1 && f.offset == i)
  | none => false
theorem open_cells {fuel : Nat} {t : TypeId} {fs : Array Field} {cs : List Value} {x : DataW H × List MemPlace} (ht : P.underlying t = some (.struct fs)) (hb : intsB P fs = true) (hc : P.cellsOf t = fs.size) (h : DataW.trod enc P w 0 (fun _ => true) true fuel t cs = some x) :
    cs.length = fs.size ∧ ∀ i, i < fs.size → ∃ a, cs[i]? = some (.int .i64 a) ∧ (Lit.int .i64 a).wf = true := by
  obtain ⟨xs, n, -, -, hl, hxl, hf⟩ := DataW.trod_struct ht h
  refine ⟨hl.trans hc, fun i hi => ?_⟩
  have h1 := List.all_eq_true.1 hb i (List.mem_range.2 hi)
  obtain ⟨f, hfi⟩ : ∃ f, fs[i]? = some f := ⟨_, Array.getElem?_eq_getElem hi⟩
  rw [hfi] at h1
  simp only [Bool.and_eq_true, beq_iff_eq] at h1
  obtain ⟨h2, h3, h4⟩ := h1
  have hu : P.underlying f.type = some (.int .i64) := by
    split at h2
    · assumption
    · cases h2
  have h5 := hf i f hfi
  rw [h3, h4] at h5
  rw [List.getElem?_eq_getElem (by omega)] at h5
  obtain ⟨a, ha, -, hw⟩ := DataW.trod_int hu h5
  refine ⟨a, ?_, hw⟩
  have hlt : i < cs.length := by omega
  rw [List.getElem?_eq_getElem hlt]
  have : (cs.drop i).take 1 = [cs[i]] := by
    rw [List.drop_eq_getElem_cons hlt]
    rfl
  rw [this] at ha
  injection ha with ha _
  rw [ha]
theorem fits_of {a : Int} (h : (Lit.int .i64 a).wf = true) : Fits64 a := by
  simp [Lit.wf, IntKind.min, IntKind.max, IntKind.signed, IntKind.bits] at h
  exact ⟨h.1, by omega⟩
end

section
variable {H : Type} {enc : TypeId × Value → H} {w : World}
theorem open_ents {fuel : Nat} {a : Option Addr} {len cap : Nat} {x : DataW H × List MemPlace} (h : DataW.trod enc Try.prog w 0 (fun _ => true) true fuel 24 [.slice a len cap] = some x) :
    len ≤ maxLen ∧ ∃ us : List U, us.length = len ∧ (∀ u ∈ us, u.Fits) ∧ URow false w.heap.size w a us := by
  obtain ⟨h1, h2, _, n, h3⟩ := open_rows Try.underlying24 (s := 10) (by kernel_rfl) (by omega) h
  refine ⟨by omega, ?_⟩
  obtain ⟨f, hf⟩ := choose_fn (α := U) (n := len) (p := fun i u => u.Fits ∧ ∃ b o, a = some ⟨b, o, none⟩ ∧ b < w.heap.size ∧ ∀ j, j < 10 → w.cell? ⟨b, o + i * 10 + j, none⟩ = (cellsE u)[j]?) (fun i hi => by
    obtain ⟨b, o, cs, h4, h5, h6, h7, y, h8⟩ := h3 i hi
    obtain ⟨h9, h10⟩ := open_cells (P := Try.prog) Try.underlying83 (by kernel_rfl) (by kernel_rfl) h8
    obtain ⟨a0, e0, w0⟩ := h10 0 (by decide)
    obtain ⟨a1, e1, w1⟩ := h10 1 (by decide)
    obtain ⟨a2, e2, w2⟩ := h10 2 (by decide)
    obtain ⟨a3, e3, w3⟩ := h10 3 (by decide)
    obtain ⟨a4, e4, w4⟩ := h10 4 (by decide)
    obtain ⟨a5, e5, w5⟩ := h10 5 (by decide)
    obtain ⟨a6, e6, w6⟩ := h10 6 (by decide)
    obtain ⟨a7, e7, w7⟩ := h10 7 (by decide)
    obtain ⟨a8, e8, w8⟩ := h10 8 (by decide)
    obtain ⟨a9, e9, w9⟩ := h10 9 (by decide)
    refine ⟨⟨a0, a1, a2, a3, a4, a5, a6, a7, a8, a9, 0⟩, ⟨fits_of w0, fits_of w1, fits_of w2, fits_of w3, fits_of w4, fits_of w5, fits_of w6, fits_of w7, fits_of w8, fits_of w9, (show Fits64 0 from by unfold Fits64; omega)⟩, b, o, h4, h5, fun j hj => ?_⟩
    rw [h7 j hj]
    have hj' : j = 0 ∨ j = 1 ∨ j = 2 ∨ j = 3 ∨ j = 4 ∨ j = 5 ∨ j = 6 ∨ j = 7 ∨ j = 8 ∨ j = 9 := by omega
    rcases hj' with rfl | rfl | rfl | rfl | rfl | rfl | rfl | rfl | rfl | rfl
    · exact e0
    · exact e1
    · exact e2
    · exact e3
    · exact e4
    · exact e5
    · exact e6
    · exact e7
    · exact e8
    · exact e9)
  have hg : ∀ i, i < len → ((List.range len).map f).getD i zeroU = f i := fun i hi => by simp [List.getD, hi]
  refine ⟨(List.range len).map f, by simp, fun u hu => ?_, fun i hi => ?_⟩
  · obtain ⟨i, hi, rfl⟩ := List.mem_map.1 hu
    exact (hf i (by simpa using hi)).1
  · have hi' : i < len := by simpa using hi
    rw [hg i hi']
    exact (hf i hi').2
theorem field_cells {n : Nat} {f : Field} {cs : List Value} {r : Option (DataW H × List MemPlace)} (h : DataW.trod enc Try.prog w 0 (fun _ => true) true n f.type ((cs.drop f.offset).take (Try.prog.cellsOf f.type)) = r) (T o s : Nat) (hT : f.type = T) (ho : f.offset = o) (hs : Try.prog.cellsOf T = s) :
    DataW.trod enc Try.prog w 0 (fun _ => true) true n T ((cs.drop o).take s) = r := by
  subst hT ho hs
  exact h
set_option maxRecDepth 100000 in
/-- An elder state. -/
theorem open_elder {base : Nat} {r : Reach} {v : Value} {d : DataW H} {p : List MemPlace} (hv : Value.okWide Try.prog w r base 26 v) (h : DataW.Trod enc Try.prog w 0 (fun _ => true) true 26 v d p) :
    ∃ (g : G) (fa ua : Option Addr) (cf cu : Nat), g.new = false ∧ v = .agg #[.int .i64 g.tick, .int .i64 g.g0, .int .i64 g.g1, .int .i64 g.next, .slice fa g.free.length cf, .slice ua g.us.length cu] ∧ g.free.length ≤ maxLen ∧ g.us.length ≤ maxLen ∧
      Row w.heap.size w fa g.free.length (fun k => .int .i64 (g.free.getD k 0)) ∧ URow false w.heap.size w ua g.us ∧ g.Fits := by
  obtain ⟨⟨l⟩, rfl, hsz⟩ := WideShapes.okWide_struct Try.underlying26 hv
  rw [show Try.prog.cellsOf 26 = 6 from by kernel_rfl] at hsz
  obtain ⟨m, hm⟩ := h
  obtain ⟨xs, n, -, -, -, hxl, hf⟩ := DataW.trod_struct Try.underlying26 hm
  match l, hsz with
  | [c0, c1, c2, c3, c4, c5], _ =>
    have hx5 : xs.length = 5 := hxl
    have hx : ∀ i (hi : i < 5), xs[i]? = some (xs[i]'(by omega)) := fun i hi => List.getElem?_eq_getElem (by omega)
    have g0 := (field_cells (hf 0 _ rfl) 3 0 1 rfl rfl (by kernel_rfl)).trans (hx 0 (by omega))
    have g1 := (field_cells (hf 1 _ rfl) 22 1 2 rfl rfl (by kernel_rfl)).trans (hx 1 (by omega))
    have g2 := (field_cells (hf 2 _ rfl) 3 3 1 rfl rfl (by kernel_rfl)).trans (hx 2 (by omega))
    have g3 := (field_cells (hf 3 _ rfl) 23 4 1 rfl rfl (by kernel_rfl)).trans (hx 3 (by omega))
    have g4 := (field_cells (hf 4 _ rfl) 24 5 1 rfl rfl (by kernel_rfl)).trans (hx 4 (by omega))
    have g0' : DataW.trod enc Try.prog w 0 (fun _ => true) true n 3 [c0] = _ := g0
    have g1' : DataW.trod enc Try.prog w 0 (fun _ => true) true n 22 [c1, c2] = _ := g1
    have g2' : DataW.trod enc Try.prog w 0 (fun _ => true) true n 3 [c3] = _ := g2
    have g3' : DataW.trod enc Try.prog w 0 (fun _ => true) true n 23 [c4] = _ := g3
    have g4' : DataW.trod enc Try.prog w 0 (fun _ => true) true n 24 [c5] = _ := g4
    clear g0 g1 g2 g3 g4 hf hm hv
    obtain ⟨a0, e0, -, w0⟩ := DataW.trod_int Try.underlying3 g0'
    obtain ⟨a3, e3, -, w3⟩ := DataW.trod_int Try.underlying3 g2'
    obtain ⟨ys, k, -, -, -, hyl, hy⟩ := DataW.trod_array Try.underlying22 g1'
    rw [show Try.prog.cellsOf 3 = 1 from by kernel_rfl] at hy
    have y0 : DataW.trod enc Try.prog w 0 (fun _ => true) true k 3 [c1] = _ := (hy 0 (by omega)).trans (List.getElem?_eq_getElem (by omega))
    have y1 : DataW.trod enc Try.prog w 0 (fun _ => true) true k 3 [c2] = _ := (hy 1 (by omega)).trans (List.getElem?_eq_getElem (by omega))
    obtain ⟨a1, e1, -, w1⟩ := DataW.trod_int Try.underlying3 y0
    obtain ⟨a2, e2, -, w2⟩ := DataW.trod_int Try.underlying3 y1
    injection e0 with e0 _
    injection e1 with e1 _
    injection e2 with e2 _
    injection e3 with e3 _
    subst e0 e1 e2 e3
    have s4 : ∃ a len cap, c4 = .slice a len cap := by
      rcases DataW.trod_slice Try.underlying23 g3' with ⟨h, -⟩ | ⟨a, len, cap, _, _, _, _, h, -⟩
      · injection h with h _; exact ⟨_, _, _, h⟩
      · injection h with h _; exact ⟨_, _, _, h⟩
    have s5 : ∃ a len cap, c5 = .slice a len cap := by
      rcases DataW.trod_slice Try.underlying24 g4' with ⟨h, -⟩ | ⟨a, len, cap, _, _, _, _, h, -⟩
      · injection h with h _; exact ⟨_, _, _, h⟩
      · injection h with h _; exact ⟨_, _, _, h⟩
    obtain ⟨fa, nf, cf, rfl⟩ := s4
    obtain ⟨ua, nu, cu, rfl⟩ := s5
    obtain ⟨hnf, A, rfl, hAw, hrf⟩ := open_nums Try.underlying23 Try.underlying3 (by kernel_rfl) g3'
    obtain ⟨hnu, us, rfl, husf, hru⟩ := open_ents g4'
    exact ⟨⟨false, a0, a1, a2, a3, A, us⟩, fa, ua, cf, cu, rfl, rfl, hnf, hnu, hrf, hru, fits_of w0, fits_of w1, fits_of w2, fits_of w3, fun x hx => fits_of (hAw x hx), husf⟩
end
end Go.Proofs.Ytlfljlhppigejab
