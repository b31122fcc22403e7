/-
  What a newer state that reads as data looks like in memory. Tapes and reels that are handed in: what they look like in memory, and that their numbers fit. A state of the newer game as an argument, with its capacity; orders as an argument, with what an order means twice. A reel that is handed in: each order's kind is its target.
-/
import Derived.Test.YtlfljlhppigejaaPackOp2
import Derived.Test.YtlfljlhppigejaaReelAll
namespace Go.Proofs.Ytlfljlhppigejaa
open Go.RowKit

section
variable {H : Type} {enc : TypeId × Value → H} {w : World}
theorem open_units {fuel : Nat} {a : Option Addr} {len cap : Nat} {x : DataW H × List MemPlace} (h : DataW.trod enc Try.prog w 0 (fun _ => true) true fuel 63 [.slice a len cap] = some x) :
    len ≤ maxLen ∧ ∃ us : List U, us.length = len ∧ (∀ u ∈ us, u.Fits) ∧ URow true w.heap.size w a us := by
  obtain ⟨h1, h2, _, n, h3⟩ := open_rows Try.underlying63 (s := 11) (by kernel_rfl) (by omega) h
  refine ⟨by omega, ?_⟩
  obtain ⟨f, hf⟩ := choose_fn (α := U) (n := len) (p := fun i u => u.Fits ∧ ∃ b o, a = some ⟨b, o, none⟩ ∧ b < w.heap.size ∧ ∀ j, j < 11 → w.cell? ⟨b, o + i * 11 + j, none⟩ = (cellsN u)[j]?) (fun i hi => by
    obtain ⟨b, o, cs, h4, h5, h6, h7, y, h8⟩ := h3 i hi
    obtain ⟨h9, h10⟩ := open_cells (P := Try.prog) Try.underlying130 (by kernel_rfl) (by kernel_rfl) h8
    obtain ⟨a0, e0, w0⟩ := h10 0 (by decide)
    obtain ⟨a1, e1, w1⟩ := h10 1 (by decide)
    obtain ⟨a2, e2, w2⟩ := h10 2 (by decide)
    obtain ⟨a3, e3, w3⟩ := h10 3 (by decide)
    obtain ⟨a4, e4, w4⟩ := h10 4 (by decide)
    obtain ⟨a5, e5, w5⟩ := h10 5 (by decide)
    obtain ⟨a6, e6, w6⟩ := h10 6 (by decide)
    obtain ⟨a7, e7, w7⟩ := h10 7 (by decide)
    obtain ⟨a8, e8, w8⟩ := h10 8 (by decide)
    obtain ⟨a9, e9, w9⟩ := h10 9 (by decide)
    obtain ⟨aX, eX, wX⟩ := h10 10 (by decide)
    refine ⟨⟨a0, a1, a2, a3, a4, a5, a6, a7, a8, a9, aX⟩, ⟨fits_of w0, fits_of w1, fits_of w2, fits_of w3, fits_of w4, fits_of w5, fits_of w6, fits_of w7, fits_of w8, fits_of w9, fits_of wX⟩, b, o, h4, h5, fun j hj => ?_⟩
    rw [h7 j hj]
    have hj' : j = 0 ∨ j = 1 ∨ j = 2 ∨ j = 3 ∨ j = 4 ∨ j = 5 ∨ j = 6 ∨ j = 7 ∨ j = 8 ∨ j = 9 ∨ j = 10 := by omega
    rcases hj' with rfl | rfl | rfl | rfl | rfl | rfl | rfl | rfl | rfl | rfl | rfl
    · exact e0
    · exact e1
    · exact e2
    · exact e3
    · exact e4
    · exact e5
    · exact e6
    · exact e7
    · exact e8
    · exact e9
    · exact eX)
  have hg : ∀ i, i < len → ((List.range len).map f).getD i zeroU = f i := fun i hi => by simp [List.getD, hi]
  refine ⟨(List.range len).map f, by simp, fun u hu => ?_, fun i hi => ?_⟩
  · obtain ⟨i, hi, rfl⟩ := List.mem_map.1 hu
    exact (hf i (by simpa using hi)).1
  · have hi' : i < len := by simpa using hi
    rw [hg i hi']
    exact (hf i hi').2
end
end Go.Proofs.Ytlfljlhppigejaa
namespace Go.Proofs.Ytlfljlhppigejaa
open Go.RowKit

section
variable {H : Type} {enc : TypeId × Value → H} {w : World}
theorem open_ordersF {fuel : Nat} {a : Option Addr} {len cap : Nat} {x : DataW H × List MemPlace} (h : DataW.trod enc Try.prog w 0 (fun _ => true) true fuel 66 [.slice a len cap] = some x) :
    len ≤ maxLen ∧ ∃ cs : List Cm, cs.length = len ∧ (∀ c ∈ cs, c.Fits) ∧ ORow w.heap.size w a cs := by
  obtain ⟨h1, h2, _, n, h3⟩ := open_rows Try.underlying66 (s := 6) (by kernel_rfl) (by omega) h
  refine ⟨by omega, ?_⟩
  obtain ⟨f, hf⟩ := choose_fn (α := Cm) (n := len) (p := fun i c => c.Fits ∧ ∃ b o, a = some ⟨b, o, none⟩ ∧ b < w.heap.size ∧ ∀ j, j < 6 → w.cell? ⟨b, o + i * 6 + j, none⟩ = (cellsO c)[j]?) (fun i hi => by
    obtain ⟨b, o, cs, h4, h5, h6, h7, y, h8⟩ := h3 i hi
    obtain ⟨h9, h10⟩ := open_cells (P := Try.prog) Try.underlying73 (by kernel_rfl) (by kernel_rfl) h8
    obtain ⟨a0, e0, w0⟩ := h10 0 (by decide)
    obtain ⟨a1, e1, w1⟩ := h10 1 (by decide)
    obtain ⟨a2, e2, w2⟩ := h10 2 (by decide)
    obtain ⟨a3, e3, w3⟩ := h10 3 (by decide)
    obtain ⟨a4, e4, w4⟩ := h10 4 (by decide)
    obtain ⟨a5, e5, w5⟩ := h10 5 (by decide)
    refine ⟨⟨a0, a1, a2, a3, a4, a5, 0⟩, ⟨fits_of w0, fits_of w1, fits_of w2, fits_of w3, fits_of w4, fits_of w5, (show Fits64 0 from by unfold Fits64; omega)⟩, b, o, h4, h5, fun j hj => ?_⟩
    rw [h7 j hj]
    have hj' : j = 0 ∨ j = 1 ∨ j = 2 ∨ j = 3 ∨ j = 4 ∨ j = 5 := by omega
    rcases hj' with rfl | rfl | rfl | rfl | rfl | rfl
    · exact e0
    · exact e1
    · exact e2
    · exact e3
    · exact e4
    · exact e5)
  have hg : ∀ i, i < len → ((List.range len).map f).getD i zeroC = f i := fun i hi => by simp [List.getD, hi]
  refine ⟨(List.range len).map f, by simp, fun u hu => ?_, fun i hi => ?_⟩
  · obtain ⟨i, hi, rfl⟩ := List.mem_map.1 hu
    exact (hf i (by simpa using hi)).1
  · have hi' : i < len := by simpa using hi
    rw [hg i hi']
    exact (hf i hi').2
theorem open_ticksOF {fuel : Nat} {a : Option Addr} {len cap : Nat} {x : DataW H × List MemPlace} (h : DataW.trod enc Try.prog w 0 (fun _ => true) true fuel 67 [.slice a len cap] = some x) :
    len ≤ cap ∧ len ≤ maxLen ∧ ∃ ts : List (List Cm), ts.length = len ∧ (∀ l ∈ ts, ∀ c ∈ l, c.Fits) ∧ PRow w.heap.size w a ts := by
  obtain ⟨h1, h2, _, n, h3⟩ := open_rows Try.underlying67 (s := 1) (by kernel_rfl) (by omega) h
  refine ⟨h1, by omega, ?_⟩
  obtain ⟨f, hf⟩ := choose_fn (α := List Cm) (n := len) (p := fun i l => (∀ c ∈ l, c.Fits) ∧ ∃ b o la cl, a = some ⟨b, o, none⟩ ∧ b < w.heap.size ∧ w.cell? ⟨b, o + i, none⟩ = some (.slice la l.length cl) ∧ ORow w.heap.size w la l ∧ l.length ≤ maxLen) (fun i hi => by
    obtain ⟨b, o, cs, h4, h5, h6, h7, y, h8⟩ := h3 i hi
    match cs, h6 with
    | [c], _ =>
      have hs : ∃ la n cl, c = .slice la n cl := by
        rcases DataW.trod_slice Try.underlying66 h8 with ⟨h, -⟩ | ⟨a, len, cap, _, _, _, _, h, -⟩
        · injection h with h _; exact ⟨_, _, _, h⟩
        · injection h with h _; exact ⟨_, _, _, h⟩
      obtain ⟨la, m, cl, rfl⟩ := hs
      obtain ⟨hm, l, rfl, hlf, hl⟩ := open_ordersF h8
      refine ⟨l, hlf, b, o, la, cl, h4, h5, ?_, hl, hm⟩
      have := h7 0 (by omega)
      simpa using this)
  have hg : ∀ i, i < len → ((List.range len).map f).getD i [] = f i := fun i hi => by simp [List.getD, hi]
  refine ⟨(List.range len).map f, by simp, fun u hu => ?_, fun i hi => ?_⟩
  · obtain ⟨i, hi, rfl⟩ := List.mem_map.1 hu
    exact (hf i (by simpa using hi)).1
  · have hi' : i < len := by simpa using hi
    rw [hg i hi']
    exact (hf i hi').2
set_option maxRecDepth 100000 in
/-- A newer state's five cells. -/
theorem open_newer5 {fuel : Nat} {c0 c1 c2 c3 c5 : Value} {x : DataW H × List MemPlace} (hm : DataW.trod enc Try.prog w 0 (fun _ => true) true fuel 65 [c0, c1, c2, c3, c5] = some x) :
    ∃ (g : G) (ua : Option Addr) (cu : Nat), g.new = true ∧ g.free = [] ∧ [c0, c1, c2, c3, c5] = [.int .i64 g.tick, .int .i64 g.g0, .int .i64 g.g1, .int .i64 g.next, .slice ua g.us.length cu] ∧ g.us.length ≤ maxLen ∧ (ua = none → g.us.length = 0 ∧ cu = 0) ∧ g.us.length ≤ cu ∧
      URow true w.heap.size w ua g.us ∧ g.Fits := by
  obtain ⟨xs, n, -, -, -, hxl, hf⟩ := DataW.trod_struct Try.underlying65 hm
  have hx4 : xs.length = 4 := hxl
  have hx : ∀ i (hi : i < 4), xs[i]? = some (xs[i]'(by omega)) := fun i hi => List.getElem?_eq_getElem (by omega)
  have g0 := (field_cells (hf 0 _ rfl) 3 0 1 rfl rfl (by kernel_rfl)).trans (hx 0 (by omega))
  have g1 := (field_cells (hf 1 _ rfl) 62 1 2 rfl rfl (by kernel_rfl)).trans (hx 1 (by omega))
  have g2 := (field_cells (hf 2 _ rfl) 3 3 1 rfl rfl (by kernel_rfl)).trans (hx 2 (by omega))
  have g4 := (field_cells (hf 3 _ rfl) 63 4 1 rfl rfl (by kernel_rfl)).trans (hx 3 (by omega))
  have g0' : DataW.trod enc Try.prog w 0 (fun _ => true) true n 3 [c0] = _ := g0
  have g1' : DataW.trod enc Try.prog w 0 (fun _ => true) true n 62 [c1, c2] = _ := g1
  have g2' : DataW.trod enc Try.prog w 0 (fun _ => true) true n 3 [c3] = _ := g2
  have g4' : DataW.trod enc Try.prog w 0 (fun _ => true) true n 63 [c5] = _ := g4
  clear g0 g1 g2 g4 hf hm
  obtain ⟨a0, e0, -, w0⟩ := DataW.trod_int Try.underlying3 g0'
  obtain ⟨a3, e3, -, w3⟩ := DataW.trod_int Try.underlying3 g2'
  obtain ⟨ys, k, -, -, -, hyl, hy⟩ := DataW.trod_array Try.underlying62 g1'
  rw [show Try.prog.cellsOf 3 = 1 from by kernel_rfl] at hy
  have y0 : DataW.trod enc Try.prog w 0 (fun _ => true) true k 3 [c1] = _ := (hy 0 (by omega)).trans (List.getElem?_eq_getElem (by omega))
  have y1 : DataW.trod enc Try.prog w 0 (fun _ => true) true k 3 [c2] = _ := (hy 1 (by omega)).trans (List.getElem?_eq_getElem (by omega))
  obtain ⟨a1, e1, -, w1⟩ := DataW.trod_int Try.underlying3 y0
  obtain ⟨a2, e2, -, w2⟩ := DataW.trod_int Try.underlying3 y1
  injection e0 with e0 _
  injection e1 with e1 _
  injection e2 with e2 _
  injection e3 with e3 _
  subst e0 e1 e2 e3
  have s5 : ∃ a len cap, c5 = .slice a len cap := by
    rcases DataW.trod_slice Try.underlying63 g4' with ⟨h, -⟩ | ⟨a, len, cap, _, _, _, _, h, -⟩
    · injection h with h _; exact ⟨_, _, _, h⟩
    · injection h with h _; exact ⟨_, _, _, h⟩
  obtain ⟨ua, nu, cu, rfl⟩ := s5
  obtain ⟨hcu, -, hnil, -⟩ := open_rows Try.underlying63 (s := 11) (by kernel_rfl) (by omega) g4'
  have hcz : ua = none → cu = 0 := fun e => by
    subst e
    rcases DataW.trod_slice Try.underlying63 g4' with ⟨h, -⟩ | ⟨a, len, cap, _, _, _, _, h, -⟩
    · injection h with h _; cases h; rfl
    · injection h with h _; cases h
  obtain ⟨hnu, us, rfl, husf, hru⟩ := open_units g4'
  exact ⟨⟨true, a0, a1, a2, a3, [], us⟩, ua, cu, rfl, rfl, rfl, hnu, (fun e => ⟨hnil e, hcz e⟩), hcu, hru, fits_of w0, fits_of w1, fits_of w2, fits_of w3, fun x hx => (by cases hx), husf⟩
set_option maxRecDepth 100000 in
/-- A reel. -/
theorem open_reelF {base : Nat} {r : Reach} {v : Value} {d : DataW H} {p : List MemPlace} (hv : Value.okWide Try.prog w r base 69 v) (h : DataW.Trod enc Try.prog w 0 (fun _ => true) true 69 v d p) :
    ∃ (g : G) (ua ta : Option Addr) (cu ct : Nat) (ts : List (List Cm)), g.new = true ∧ g.free = [] ∧ v = .agg #[.int .i64 g.tick, .int .i64 g.g0, .int .i64 g.g1, .int .i64 g.next, .slice ua g.us.length cu, .slice ta ts.length ct] ∧ g.us.length ≤ maxLen ∧ ts.length ≤ maxLen ∧ ts.length ≤ ct ∧
      (ua = none → g.us.length = 0 ∧ cu = 0) ∧ g.us.length ≤ cu ∧ URow true w.heap.size w ua g.us ∧ PRow w.heap.size w ta ts ∧ g.Fits ∧ ∀ l ∈ ts, ∀ c ∈ l, c.Fits := by
  obtain ⟨⟨l⟩, rfl, hsz⟩ := WideShapes.okWide_struct Try.underlying69 hv
  rw [show Try.prog.cellsOf 69 = 6 from by kernel_rfl] at hsz
  obtain ⟨m, hm⟩ := h
  obtain ⟨xs, n, -, -, -, hxl, hf⟩ := DataW.trod_struct Try.underlying69 hm
  match l, hsz with
  | [c0, c1, c2, c3, c4, c5], _ =>
    have hx2 : xs.length = 2 := hxl
    have hx : ∀ i (hi : i < 2), xs[i]? = some (xs[i]'(by omega)) := fun i hi => List.getElem?_eq_getElem (by omega)
    have g0 := (field_cells (hf 0 _ rfl) 65 0 5 rfl rfl (by kernel_rfl)).trans (hx 0 (by omega))
    have g1 := (field_cells (hf 1 _ rfl) 67 5 1 rfl rfl (by kernel_rfl)).trans (hx 1 (by omega))
    have g0' : DataW.trod enc Try.prog w 0 (fun _ => true) true n 65 [c0, c1, c2, c3, c4] = _ := g0
    have g1' : DataW.trod enc Try.prog w 0 (fun _ => true) true n 67 [c5] = _ := g1
    clear g0 g1 hf hm hv
    obtain ⟨g, ua, cu, hn, hnf, he, hul, hnil, hcap, hru, hfit⟩ := open_newer5 g0'
    have s6 : ∃ a len cap, c5 = .slice a len cap := by
      rcases DataW.trod_slice Try.underlying67 g1' with ⟨h, -⟩ | ⟨a, len, cap, _, _, _, _, h, -⟩
      · injection h with h _; exact ⟨_, _, _, h⟩
      · injection h with h _; exact ⟨_, _, _, h⟩
    obtain ⟨ta, nt, ct, rfl⟩ := s6
    obtain ⟨hct, hnt, ts, rfl, htf, hrt⟩ := open_ticksOF g1'
    simp only [List.cons.injEq, and_true] at he
    obtain ⟨rfl, rfl, rfl, rfl, rfl⟩ := he
    exact ⟨g, ua, ta, cu, ct, ts, hn, hnf, rfl, hul, hnt, hct, hnil, hcap, hru, hrt, hfit, htf⟩
end
end Go.Proofs.Ytlfljlhppigejaa
namespace Go.Proofs.Ytlfljlhppigejaa
open Go.ChangeShapes Go.WideShapes Go.ChangeAt Go.RowKit
section
variable {H : Type} {enc : TypeId × Value → H} {w : World}
set_option maxRecDepth 100000 in
theorem open_newerC {base : Nat} {r : Reach} {v : Value} {d : DataW H} {p : List MemPlace} (hv : Value.okWide Try.prog w r base 65 v) (h : DataW.Trod enc Try.prog w 0 (fun _ => true) true 65 v d p) :
    ∃ (g : G) (ua : Option Addr) (cu : Nat), g.new = true ∧ g.free = [] ∧ v = .agg #[.int .i64 g.tick, .int .i64 g.g0, .int .i64 g.g1, .int .i64 g.next, .slice ua g.us.length cu] ∧ g.us.length ≤ maxLen ∧
      (ua = none → g.us.length = 0 ∧ cu = 0) ∧ g.us.length ≤ cu ∧ URow true w.heap.size w ua g.us ∧ g.Fits := by
  obtain ⟨⟨l⟩, rfl, hsz⟩ := WideShapes.okWide_struct Try.underlying65 hv
  rw [show Try.prog.cellsOf 65 = 5 from by kernel_rfl] at hsz
  obtain ⟨m, hm⟩ := h
  match l, hsz with
  | [c0, c1, c2, c3, c4], _ =>
    have hm' : DataW.trod enc Try.prog w 0 (fun _ => true) true m 65 [c0, c1, c2, c3, c4] = _ := hm
    obtain ⟨g, ua, cu, hn, hnf, he, hul, hnil, hcap, hru, hfit⟩ := open_newer5 hm'
    simp only [List.cons.injEq, and_true] at he
    obtain ⟨rfl, rfl, rfl, rfl, rfl⟩ := he
    exact ⟨g, ua, cu, hn, hnf, rfl, hul, hnil, hcap, hru, hfit⟩
/-- What an order is aimed at, or raises: both ways. -/
def bothC (c : Cm) : Cm := { c with target := c.kind }
theorem open_ordersK {fuel : Nat} {a : Option Addr} {len cap : Nat} {x : DataW H × List MemPlace} (h : DataW.trod enc Try.prog w 0 (fun _ => true) true fuel 66 [.slice a len cap] = some x) :
    len ≤ maxLen ∧ ∃ cs : List Cm, cs.length = len ∧ (∀ c ∈ cs, c.kind = c.target ∧ (Lit.int .i64 c.id).wf = true ∧ (Lit.int .i64 c.target).wf = true) ∧ ORow w.heap.size w a cs := by
  obtain ⟨h1, cs, h2, h3, h4⟩ := open_ordersF h
  refine ⟨h1, cs.map bothC, by simp [h2], fun c hc => ?_, fun i hi => ?_⟩
  · obtain ⟨c', hc', rfl⟩ := List.mem_map.1 hc
    have hf := h3 c' hc'
    exact ⟨rfl, wf_int hf.2.2.1, wf_int hf.2.2.2.1⟩
  · have hi' : i < cs.length := by simpa using hi
    obtain ⟨b, o, e1, e2, e3⟩ := h4 i hi'
    refine ⟨b, o, e1, e2, fun j hj => ?_⟩
    rw [e3 j hj]
    have e : (cs.map bothC).getD i zeroC = bothC (cs.getD i zeroC) := by simp [List.getD, hi']
    rw [e]
    rfl
end
end Go.Proofs.Ytlfljlhppigejaa
namespace Go.Proofs.Ytlfljlhppigejaa
open Go.RowKit

def bothR (ts : List (List Cm)) : List (List Cm) := ts.map (fun l => l.map bothC)
theorem bothR_length (ts : List (List Cm)) : (bothR ts).length = ts.length := by simp [bothR]
theorem bothR_get (ts : List (List Cm)) (i : Nat) : (bothR ts).getD i [] = (ts.getD i []).map bothC := by
  by_cases hi : i < ts.length
  · simp [bothR, List.getD, hi]
  · simp [bothR, List.getD, hi]
theorem ORow.both {B : Nat} {w : World} {a : Option Addr} {cs : List Cm} (h : ORow B w a cs) : ORow B w a (cs.map bothC) := fun i hi => by
  have hi' : i < cs.length := by simpa using hi
  obtain ⟨b, o, e1, e2, e3⟩ := h i hi'
  refine ⟨b, o, e1, e2, fun j hj => ?_⟩
  rw [e3 j hj]
  have e : (cs.map bothC).getD i zeroC = bothC (cs.getD i zeroC) := by simp [List.getD, hi']
  rw [e]
  rfl
theorem PRow.both {B : Nat} {w : World} {a : Option Addr} {ts : List (List Cm)} (h : PRow B w a ts) : PRow B w a (bothR ts) := fun i hi => by
  rw [bothR_length] at hi
  obtain ⟨b, o, la, cl, h1, h2, h3, h4, h5⟩ := h i hi
  rw [bothR_get, List.length_map]
  exact ⟨b, o, la, cl, h1, h2, h3, h4.both, h5⟩
set_option maxRecDepth 100000 in
theorem bothR_kind {ts : List (List Cm)} (hf : ∀ l ∈ ts, ∀ c ∈ l, c.Fits) : ∀ l ∈ bothR ts, ∀ c ∈ l, c.kind = c.target ∧ (Lit.int .i64 c.id).wf = true ∧ (Lit.int .i64 c.target).wf = true := fun l hl c hc => by
  obtain ⟨l', hl', rfl⟩ := List.mem_map.1 hl
  obtain ⟨c', hc', rfl⟩ := List.mem_map.1 hc
  have hf := hf l' hl' c' hc'
  exact ⟨rfl, wf_int hf.2.2.1, wf_int hf.2.2.2.1⟩
variable {H : Type} {enc : TypeId × Value → H} {w : World}
set_option maxRecDepth 100000 in
theorem open_reelK {base : Nat} {r : Reach} {v : Value} {d : DataW H} {p : List MemPlace} (hv : Value.okWide Try.prog w r base 69 v) (h : DataW.Trod enc Try.prog w 0 (fun _ => true) true 69 v d p) :
    ∃ (g : G) (ua ta : Option Addr) (cu ct : Nat) (ts : List (List Cm)), g.new = true ∧ g.free = [] ∧ v = .agg #[.int .i64 g.tick, .int .i64 g.g0, .int .i64 g.g1, .int .i64 g.next, .slice ua g.us.length cu, .slice ta ts.length ct] ∧ g.us.length ≤ maxLen ∧ ts.length ≤ maxLen ∧ ts.length ≤ ct ∧
      (ua = none → g.us.length = 0 ∧ cu = 0) ∧ g.us.length ≤ cu ∧ URow true w.heap.size w ua g.us ∧ PRow w.heap.size w ta ts ∧ g.Fits ∧ ∀ l ∈ ts, ∀ c ∈ l, c.kind = c.target ∧ (Lit.int .i64 c.id).wf = true ∧ (Lit.int .i64 c.target).wf = true := by
  obtain ⟨g, ua, ta, cu, ct, ts, h1, h2, rfl, h3, h4, h5, h6, h7, h8, h9, h10, h11⟩ := open_reelF hv h
  refine ⟨g, ua, ta, cu, ct, bothR ts, h1, h2, by rw [bothR_length], h3, by rw [bothR_length]; exact h4, by rw [bothR_length]; exact h5, h6, h7, h8, h9.both, h10, bothR_kind h11⟩
end Go.Proofs.Ytlfljlhppigejaa
