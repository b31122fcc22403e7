/-
  What a newer state that reads as data looks like in memory. What a view that reads as data looks like in memory.
-/
import Derived.Test.YtlfljlhppigejabPackOp2
import Derived.Test.YtlfljlhppigejabPackVw
namespace Go.Proofs.Ytlfljlhppigejab
open Go.RowKit

section
variable {H : Type} {enc : TypeId × Value → H} {w : World}
theorem open_units {fuel : Nat} {a : Option Addr} {len cap : Nat} {x : DataW H × List MemPlace} (h : DataW.trod enc Try.prog w 0 (fun _ => true) true fuel 30 [.slice a len cap] = some x) :
    len ≤ maxLen ∧ ∃ us : List U, us.length = len ∧ (∀ u ∈ us, u.Fits) ∧ URow true w.heap.size w a us := by
  obtain ⟨h1, h2, _, n, h3⟩ := open_rows Try.underlying30 (s := 11) (by kernel_rfl) (by omega) h
  refine ⟨by omega, ?_⟩
  obtain ⟨f, hf⟩ := choose_fn (α := U) (n := len) (p := fun i u => u.Fits ∧ ∃ b o, a = some ⟨b, o, none⟩ ∧ b < w.heap.size ∧ ∀ j, j < 11 → w.cell? ⟨b, o + i * 11 + j, none⟩ = (cellsN u)[j]?) (fun i hi => by
    obtain ⟨b, o, cs, h4, h5, h6, h7, y, h8⟩ := h3 i hi
    obtain ⟨h9, h10⟩ := open_cells (P := Try.prog) Try.underlying142 (by kernel_rfl) (by kernel_rfl) h8
    obtain ⟨a0, e0, w0⟩ := h10 0 (by decide)
    obtain ⟨a1, e1, w1⟩ := h10 1 (by decide)
    obtain ⟨a2, e2, w2⟩ := h10 2 (by decide)
    obtain ⟨a3, e3, w3⟩ := h10 3 (by decide)
    obtain ⟨a4, e4, w4⟩ := h10 4 (by decide)
    obtain ⟨a5, e5, w5⟩ := h10 5 (by decide)
    obtain ⟨a6, e6, w6⟩ := h10 6 (by decide)
    obtain ⟨a7, e7, w7⟩ := h10 7 (by decide)
    obtain ⟨a8, e8, w8⟩ := h10 8 (by decide)
    obtain ⟨a9, e9, w9⟩ := h10 9 (by decide)
    obtain ⟨aX, eX, wX⟩ := h10 10 (by decide)
    refine ⟨⟨a0, a1, a2, a3, a4, a5, a6, a7, a8, a9, aX⟩, ⟨fits_of w0, fits_of w1, fits_of w2, fits_of w3, fits_of w4, fits_of w5, fits_of w6, fits_of w7, fits_of w8, fits_of w9, fits_of wX⟩, b, o, h4, h5, fun j hj => ?_⟩
    rw [h7 j hj]
    have hj' : j = 0 ∨ j = 1 ∨ j = 2 ∨ j = 3 ∨ j = 4 ∨ j = 5 ∨ j = 6 ∨ j = 7 ∨ j = 8 ∨ j = 9 ∨ j = 10 := by omega
    rcases hj' with rfl | rfl | rfl | rfl | rfl | rfl | rfl | rfl | rfl | rfl | rfl
    · exact e0
    · exact e1
    · exact e2
    · exact e3
    · exact e4
    · exact e5
    · exact e6
    · exact e7
    · exact e8
    · exact e9
    · exact eX)
  have hg : ∀ i, i < len → ((List.range len).map f).getD i zeroU = f i := fun i hi => by simp [List.getD, hi]
  refine ⟨(List.range len).map f, by simp, fun u hu => ?_, fun i hi => ?_⟩
  · obtain ⟨i, hi, rfl⟩ := List.mem_map.1 hu
    exact (hf i (by simpa using hi)).1
  · have hi' : i < len := by simpa using hi
    rw [hg i hi']
    exact (hf i hi').2
set_option maxRecDepth 100000 in
/-- A newer state. -/
theorem open_newer {base : Nat} {r : Reach} {v : Value} {d : DataW H} {p : List MemPlace} (hv : Value.okWide Try.prog w r base 32 v) (h : DataW.Trod enc Try.prog w 0 (fun _ => true) true 32 v d p) :
    ∃ (g : G) (ua : Option Addr) (cu : Nat), g.new = true ∧ g.free = [] ∧ v = .agg #[.int .i64 g.tick, .int .i64 g.g0, .int .i64 g.g1, .int .i64 g.next, .slice ua g.us.length cu] ∧ g.us.length ≤ maxLen ∧
      URow true w.heap.size w ua g.us ∧ g.Fits := by
  obtain ⟨⟨l⟩, rfl, hsz⟩ := WideShapes.okWide_struct Try.underlying32 hv
  rw [show Try.prog.cellsOf 32 = 5 from by kernel_rfl] at hsz
  obtain ⟨m, hm⟩ := h
  obtain ⟨xs, n, -, -, -, hxl, hf⟩ := DataW.trod_struct Try.underlying32 hm
  match l, hsz with
  | [c0, c1, c2, c3, c5], _ =>
    have hx4 : xs.length = 4 := hxl
    have hx : ∀ i (hi : i < 4), xs[i]? = some (xs[i]'(by omega)) := fun i hi => List.getElem?_eq_getElem (by omega)
    have g0 := (field_cells (hf 0 _ rfl) 3 0 1 rfl rfl (by kernel_rfl)).trans (hx 0 (by omega))
    have g1 := (field_cells (hf 1 _ rfl) 22 1 2 rfl rfl (by kernel_rfl)).trans (hx 1 (by omega))
    have g2 := (field_cells (hf 2 _ rfl) 3 3 1 rfl rfl (by kernel_rfl)).trans (hx 2 (by omega))
    have g4 := (field_cells (hf 3 _ rfl) 30 4 1 rfl rfl (by kernel_rfl)).trans (hx 3 (by omega))
    have g0' : DataW.trod enc Try.prog w 0 (fun _ => true) true n 3 [c0] = _ := g0
    have g1' : DataW.trod enc Try.prog w 0 (fun _ => true) true n 22 [c1, c2] = _ := g1
    have g2' : DataW.trod enc Try.prog w 0 (fun _ => true) true n 3 [c3] = _ := g2
    have g4' : DataW.trod enc Try.prog w 0 (fun _ => true) true n 30 [c5] = _ := g4
    clear g0 g1 g2 g4 hf hm hv
    obtain ⟨a0, e0, -, w0⟩ := DataW.trod_int Try.underlying3 g0'
    obtain ⟨a3, e3, -, w3⟩ := DataW.trod_int Try.underlying3 g2'
    obtain ⟨ys, k, -, -, -, hyl, hy⟩ := DataW.trod_array Try.underlying22 g1'
    rw [show Try.prog.cellsOf 3 = 1 from by kernel_rfl] at hy
    have y0 : DataW.trod enc Try.prog w 0 (fun _ => true) true k 3 [c1] = _ := (hy 0 (by omega)).trans (List.getElem?_eq_getElem (by omega))
    have y1 : DataW.trod enc Try.prog w 0 (fun _ => true) true k 3 [c2] = _ := (hy 1 (by omega)).trans (List.getElem?_eq_getElem (by omega))
    obtain ⟨a1, e1, -, w1⟩ := DataW.trod_int Try.underlying3 y0
    obtain ⟨a2, e2, -, w2⟩ := DataW.trod_int Try.underlying3 y1
    injection e0 with e0 _
    injection e1 with e1 _
    injection e2 with e2 _
    injection e3 with e3 _
    subst e0 e1 e2 e3
    have s5 : ∃ a len cap, c5 = .slice a len cap := by
      rcases DataW.trod_slice Try.underlying30 g4' with ⟨h, -⟩ | ⟨a, len, cap, _, _, _, _, h, -⟩
      · injection h with h _; exact ⟨_, _, _, h⟩
      · injection h with h _; exact ⟨_, _, _, h⟩
    obtain ⟨ua, nu, cu, rfl⟩ := s5
    obtain ⟨hnu, us, rfl, husf, hru⟩ := open_units g4'
    exact ⟨⟨true, a0, a1, a2, a3, [], us⟩, ua, cu, rfl, rfl, rfl, hnu, hru, fits_of w0, fits_of w1, fits_of w2, fits_of w3, fun x hx => (by cases hx), husf⟩
end
end Go.Proofs.Ytlfljlhppigejab
namespace Go.Proofs.Ytlfljlhppigejab
open Go.RowKit

section
variable {H : Type} {enc : TypeId × Value → H} {w : World}
theorem open_seens {fuel : Nat} {a : Option Addr} {len cap : Nat} {x : DataW H × List MemPlace} (h : DataW.trod enc Try.prog w 0 (fun _ => true) true fuel 59 [.slice a len cap] = some x) :
    len ≤ maxLen ∧ ∃ xs : List Sn, xs.length = len ∧ SRow w.heap.size w a xs := by
  obtain ⟨h1, h2, _, n, h3⟩ := open_rows Try.underlying59 (s := 10) (by kernel_rfl) (by omega) h
  refine ⟨by omega, ?_⟩
  obtain ⟨f, hf⟩ := choose_fn (α := Sn) (n := len) (p := fun i u => ∃ b o, a = some ⟨b, o, none⟩ ∧ b < w.heap.size ∧ ∀ j, j < 10 → w.cell? ⟨b, o + i * 10 + j, none⟩ = (encSn u)[j]?) (fun i hi => by
    obtain ⟨b, o, cs, h4, h5, h6, h7, y, h8⟩ := h3 i hi
    obtain ⟨h9, h10⟩ := open_cells (P := Try.prog) Try.underlying136 (by kernel_rfl) (by kernel_rfl) h8
    obtain ⟨a0, e0, w0⟩ := h10 0 (by decide)
    obtain ⟨a1, e1, w1⟩ := h10 1 (by decide)
    obtain ⟨a2, e2, w2⟩ := h10 2 (by decide)
    obtain ⟨a3, e3, w3⟩ := h10 3 (by decide)
    obtain ⟨a4, e4, w4⟩ := h10 4 (by decide)
    obtain ⟨a5, e5, w5⟩ := h10 5 (by decide)
    obtain ⟨a6, e6, w6⟩ := h10 6 (by decide)
    obtain ⟨a7, e7, w7⟩ := h10 7 (by decide)
    obtain ⟨a8, e8, w8⟩ := h10 8 (by decide)
    obtain ⟨a9, e9, w9⟩ := h10 9 (by decide)
    refine ⟨⟨a0, a1, a2, a3, a4, a5, a6, a7, a8, a9⟩, b, o, h4, h5, fun j hj => ?_⟩
    rw [h7 j hj]
    have hj' : j = 0 ∨ j = 1 ∨ j = 2 ∨ j = 3 ∨ j = 4 ∨ j = 5 ∨ j = 6 ∨ j = 7 ∨ j = 8 ∨ j = 9 := by omega
    rcases hj' with rfl | rfl | rfl | rfl | rfl | rfl | rfl | rfl | rfl | rfl
    · exact e0
    · exact e1
    · exact e2
    · exact e3
    · exact e4
    · exact e5
    · exact e6
    · exact e7
    · exact e8
    · exact e9)
  have hg : ∀ i, i < len → ((List.range len).map f).getD i default = f i := fun i hi => by simp [List.getD, hi]
  refine ⟨(List.range len).map f, by simp, fun i hi => ?_⟩
  have hi' : i < len := by simpa using hi
  rw [hg i hi']
  exact hf i hi'
set_option maxRecDepth 100000 in
/-- A view. -/
theorem open_view {base : Nat} {r : Reach} {v : Value} {d : DataW H} {p : List MemPlace} (hv : Value.okWide Try.prog w r base 61 v) (h : DataW.Trod enc Try.prog w 0 (fun _ => true) true 61 v d p) :
    ∃ (t g0 g1 : Int) (a : Option Addr) (c : Nat) (xs : List Sn), v = .agg #[.int .i64 t, .int .i64 g0, .int .i64 g1, .slice a xs.length c] ∧ xs.length ≤ maxLen ∧ SRow w.heap.size w a xs := by
  obtain ⟨⟨l⟩, rfl, hsz⟩ := WideShapes.okWide_struct Try.underlying61 hv
  rw [show Try.prog.cellsOf 61 = 4 from by kernel_rfl] at hsz
  obtain ⟨m, hm⟩ := h
  obtain ⟨xs, n, -, -, -, hxl, hf⟩ := DataW.trod_struct Try.underlying61 hm
  match l, hsz with
  | [c0, c1, c2, c5], _ =>
    have hx3 : xs.length = 3 := hxl
    have hx : ∀ i (hi : i < 3), xs[i]? = some (xs[i]'(by omega)) := fun i hi => List.getElem?_eq_getElem (by omega)
    have g0 := (field_cells (hf 0 _ rfl) 3 0 1 rfl rfl (by kernel_rfl)).trans (hx 0 (by omega))
    have g1 := (field_cells (hf 1 _ rfl) 22 1 2 rfl rfl (by kernel_rfl)).trans (hx 1 (by omega))
    have g4 := (field_cells (hf 2 _ rfl) 59 3 1 rfl rfl (by kernel_rfl)).trans (hx 2 (by omega))
    have g0' : DataW.trod enc Try.prog w 0 (fun _ => true) true n 3 [c0] = _ := g0
    have g1' : DataW.trod enc Try.prog w 0 (fun _ => true) true n 22 [c1, c2] = _ := g1
    have g4' : DataW.trod enc Try.prog w 0 (fun _ => true) true n 59 [c5] = _ := g4
    clear g0 g1 g4 hf hm hv
    obtain ⟨a0, e0, -, w0⟩ := DataW.trod_int Try.underlying3 g0'
    obtain ⟨ys, k, -, -, -, hyl, hy⟩ := DataW.trod_array Try.underlying22 g1'
    rw [show Try.prog.cellsOf 3 = 1 from by kernel_rfl] at hy
    have y0 : DataW.trod enc Try.prog w 0 (fun _ => true) true k 3 [c1] = _ := (hy 0 (by omega)).trans (List.getElem?_eq_getElem (by omega))
    have y1 : DataW.trod enc Try.prog w 0 (fun _ => true) true k 3 [c2] = _ := (hy 1 (by omega)).trans (List.getElem?_eq_getElem (by omega))
    obtain ⟨a1, e1, -, w1⟩ := DataW.trod_int Try.underlying3 y0
    obtain ⟨a2, e2, -, w2⟩ := DataW.trod_int Try.underlying3 y1
    injection e0 with e0 _
    injection e1 with e1 _
    injection e2 with e2 _
    subst e0 e1 e2
    have s5 : ∃ a len cap, c5 = .slice a len cap := by
      rcases DataW.trod_slice Try.underlying59 g4' with ⟨h, -⟩ | ⟨a, len, cap, _, _, _, _, h, -⟩
      · injection h with h _; exact ⟨_, _, _, h⟩
      · injection h with h _; exact ⟨_, _, _, h⟩
    obtain ⟨a, nu, cu, rfl⟩ := s5
    obtain ⟨hnu, zs, rfl, hr⟩ := open_seens g4'
    exact ⟨a0, a1, a2, a, cu, zs, rfl, hnu, hr⟩
end
end Go.Proofs.Ytlfljlhppigejab
