/-
  What a newer state that reads as data looks like in memory. Tapes and reels that are handed in: what they look like in memory, and that their numbers fit. What an elder state, or a tape, that reads as data looks like in memory: without since.
-/
import Derived.Test.YtlfljlhppigejaaPackOp2
import Derived.Test.YtlfljlhppigejaaReelAll
import Derived.Test.YtlfljlhppigejaaPackPure
namespace Go.Proofs.Ytlfljlhppigejaa
open Go.RowKit

section
variable {H : Type} {enc : TypeId × Value → H} {w : World}
end
end Go.Proofs.Ytlfljlhppigejaa
namespace Go.Proofs.Ytlfljlhppigejaa
open Go.RowKit

section
variable {H : Type} {enc : TypeId × Value → H} {w : World}
theorem open_cmdsF {fuel : Nat} {a : Option Addr} {len cap : Nat} {x : DataW H × List MemPlace} (h : DataW.trod enc Try.prog w 0 (fun _ => true) true fuel 91 [.slice a len cap] = some x) :
    len ≤ maxLen ∧ ∃ cs : List Cm, cs.length = len ∧ (∀ c ∈ cs, c.Fits) ∧ CRow w.heap.size w a cs := by
  obtain ⟨h1, h2, _, n, h3⟩ := open_rows Try.underlying91 (s := 7) (by kernel_rfl) (by omega) h
  refine ⟨by omega, ?_⟩
  obtain ⟨f, hf⟩ := choose_fn (α := Cm) (n := len) (p := fun i c => c.Fits ∧ ∃ b o, a = some ⟨b, o, none⟩ ∧ b < w.heap.size ∧ ∀ j, j < 7 → w.cell? ⟨b, o + i * 7 + j, none⟩ = (cellsC c)[j]?) (fun i hi => by
    obtain ⟨b, o, cs, h4, h5, h6, h7, y, h8⟩ := h3 i hi
    obtain ⟨h9, h10⟩ := open_cells (P := Try.prog) Try.underlying99 (by kernel_rfl) (by kernel_rfl) h8
    obtain ⟨a0, e0, w0⟩ := h10 0 (by decide)
    obtain ⟨a1, e1, w1⟩ := h10 1 (by decide)
    obtain ⟨a2, e2, w2⟩ := h10 2 (by decide)
    obtain ⟨a3, e3, w3⟩ := h10 3 (by decide)
    obtain ⟨a4, e4, w4⟩ := h10 4 (by decide)
    obtain ⟨a5, e5, w5⟩ := h10 5 (by decide)
    obtain ⟨a6, e6, w6⟩ := h10 6 (by decide)
    refine ⟨⟨a0, a1, a2, a3, a4, a5, a6⟩, ⟨fits_of w0, fits_of w1, fits_of w2, fits_of w3, fits_of w4, fits_of w5, fits_of w6⟩, b, o, h4, h5, fun j hj => ?_⟩
    rw [h7 j hj]
    have hj' : j = 0 ∨ j = 1 ∨ j = 2 ∨ j = 3 ∨ j = 4 ∨ j = 5 ∨ j = 6 := by omega
    rcases hj' with rfl | rfl | rfl | rfl | rfl | rfl | rfl
    · exact e0
    · exact e1
    · exact e2
    · exact e3
    · exact e4
    · exact e5
    · exact e6)
  have hg : ∀ i, i < len → ((List.range len).map f).getD i zeroC = f i := fun i hi => by simp [List.getD, hi]
  refine ⟨(List.range len).map f, by simp, fun u hu => ?_, fun i hi => ?_⟩
  · obtain ⟨i, hi, rfl⟩ := List.mem_map.1 hu
    exact (hf i (by simpa using hi)).1
  · have hi' : i < len := by simpa using hi
    rw [hg i hi']
    exact (hf i hi').2
theorem open_ticksF {fuel : Nat} {a : Option Addr} {len cap : Nat} {x : DataW H × List MemPlace} (h : DataW.trod enc Try.prog w 0 (fun _ => true) true fuel 92 [.slice a len cap] = some x) :
    len ≤ cap ∧ len ≤ maxLen ∧ ∃ ts : List (List Cm), ts.length = len ∧ (∀ l ∈ ts, ∀ c ∈ l, c.Fits) ∧ TRow w.heap.size w a ts := by
  obtain ⟨h1, h2, _, n, h3⟩ := open_rows Try.underlying92 (s := 1) (by kernel_rfl) (by omega) h
  refine ⟨h1, by omega, ?_⟩
  obtain ⟨f, hf⟩ := choose_fn (α := List Cm) (n := len) (p := fun i l => (∀ c ∈ l, c.Fits) ∧ ∃ b o la cl, a = some ⟨b, o, none⟩ ∧ b < w.heap.size ∧ w.cell? ⟨b, o + i, none⟩ = some (.slice la l.length cl) ∧ CRow w.heap.size w la l ∧ l.length ≤ maxLen) (fun i hi => by
    obtain ⟨b, o, cs, h4, h5, h6, h7, y, h8⟩ := h3 i hi
    match cs, h6 with
    | [c], _ =>
      have hs : ∃ la n cl, c = .slice la n cl := by
        rcases DataW.trod_slice Try.underlying91 h8 with ⟨h, -⟩ | ⟨a, len, cap, _, _, _, _, h, -⟩
        · injection h with h _; exact ⟨_, _, _, h⟩
        · injection h with h _; exact ⟨_, _, _, h⟩
      obtain ⟨la, m, cl, rfl⟩ := hs
      obtain ⟨hm, l, rfl, hlf, hl⟩ := open_cmdsF h8
      refine ⟨l, hlf, b, o, la, cl, h4, h5, ?_, hl, hm⟩
      have := h7 0 (by omega)
      simpa using this)
  have hg : ∀ i, i < len → ((List.range len).map f).getD i [] = f i := fun i hi => by simp [List.getD, hi]
  refine ⟨(List.range len).map f, by simp, fun u hu => ?_, fun i hi => ?_⟩
  · obtain ⟨i, hi, rfl⟩ := List.mem_map.1 hu
    exact (hf i (by simpa using hi)).1
  · have hi' : i < len := by simpa using hi
    rw [hg i hi']
    exact (hf i hi').2
set_option maxRecDepth 100000 in
/-- A tape. -/
theorem open_tapeF {base : Nat} {r : Reach} {v : Value} {d : DataW H} {p : List MemPlace} (hv : Value.okWide Try.prog w r base 94 v) (h : DataW.Trod enc Try.prog w 0 (fun _ => true) true 94 v d p) :
    ∃ (g : G) (fa ua ta : Option Addr) (cf cu ct : Nat) (ts : List (List Cm)), g.new = false ∧ v = .agg #[.int .i64 g.tick, .int .i64 g.g0, .int .i64 g.g1, .int .i64 g.next, .slice fa g.free.length cf, .slice ua g.us.length cu, .slice ta ts.length ct] ∧ g.free.length ≤ maxLen ∧ g.us.length ≤ maxLen ∧ ts.length ≤ maxLen ∧ ts.length ≤ ct ∧
      Row w.heap.size w fa g.free.length (fun k => .int .i64 (g.free.getD k 0)) ∧ URow false w.heap.size w ua g.us ∧ TRow w.heap.size w ta ts ∧ g.Fits ∧ ∀ l ∈ ts, ∀ c ∈ l, c.Fits := by
  obtain ⟨⟨l⟩, rfl, hsz⟩ := WideShapes.okWide_struct Try.underlying94 hv
  rw [show Try.prog.cellsOf 94 = 7 from by kernel_rfl] at hsz
  obtain ⟨m, hm⟩ := h
  obtain ⟨xs, n, -, -, -, hxl, hf⟩ := DataW.trod_struct Try.underlying94 hm
  match l, hsz with
  | [c0, c1, c2, c3, c4, c5, c6], _ =>
    have hx2 : xs.length = 2 := hxl
    have hx : ∀ i (hi : i < 2), xs[i]? = some (xs[i]'(by omega)) := fun i hi => List.getElem?_eq_getElem (by omega)
    have g0 := (field_cells (hf 0 _ rfl) 90 0 6 rfl rfl (by kernel_rfl)).trans (hx 0 (by omega))
    have g1 := (field_cells (hf 1 _ rfl) 92 6 1 rfl rfl (by kernel_rfl)).trans (hx 1 (by omega))
    have g0' : DataW.trod enc Try.prog w 0 (fun _ => true) true n 90 [c0, c1, c2, c3, c4, c5] = _ := g0
    have g1' : DataW.trod enc Try.prog w 0 (fun _ => true) true n 92 [c6] = _ := g1
    clear g0 g1 hf hm hv
    obtain ⟨g, fa, ua, cf, cu, hn, he, hfl, hul, hrf, hru, hfit⟩ := open_elder6 g0'
    have s6 : ∃ a len cap, c6 = .slice a len cap := by
      rcases DataW.trod_slice Try.underlying92 g1' with ⟨h, -⟩ | ⟨a, len, cap, _, _, _, _, h, -⟩
      · injection h with h _; exact ⟨_, _, _, h⟩
      · injection h with h _; exact ⟨_, _, _, h⟩
    obtain ⟨ta, nt, ct, rfl⟩ := s6
    obtain ⟨hct, hnt, ts, rfl, htf, hrt⟩ := open_ticksF g1'
    simp only [List.cons.injEq, and_true] at he
    obtain ⟨rfl, rfl, rfl, rfl, rfl, rfl⟩ := he
    exact ⟨g, fa, ua, ta, cf, cu, ct, ts, hn, rfl, hfl, hul, hnt, hct, hrf, hru, hrt, hfit, htf⟩
end
end Go.Proofs.Ytlfljlhppigejaa
namespace Go.Proofs.Ytlfljlhppigejaa
open Go.RowKit

theorem urow_old {B : Nat} {w : World} {a : Option Addr} {us : List U} (h : URow false B w a us) : URow false B w a (us.map (backU false)) := fun i hi => by
  have hi' : i < us.length := by simpa using hi
  obtain ⟨b, o, h1, h2, h3⟩ := h i hi'
  refine ⟨b, o, h1, h2, fun j hj => ?_⟩
  rw [h3 j hj]
  simp [List.getD, hi', cellsOf, cellsE, backU]
section
variable {H : Type} {enc : TypeId × Value → H} {w : World}
set_option maxRecDepth 100000 in
theorem open_elderS {base : Nat} {r : Reach} {v : Value} {d : DataW H} {p : List MemPlace} (hv : Value.okWide Try.prog w r base 90 v) (h : DataW.Trod enc Try.prog w 0 (fun _ => true) true 90 v d p) :
    ∃ (g : G) (fa ua : Option Addr) (cf cu : Nat), sinceless g ∧ v = .agg #[.int .i64 g.tick, .int .i64 g.g0, .int .i64 g.g1, .int .i64 g.next, .slice fa g.free.length cf, .slice ua g.us.length cu] ∧ g.free.length ≤ maxLen ∧ g.us.length ≤ maxLen ∧ Row w.heap.size w fa g.free.length (fun k => .int .i64 (g.free.getD k 0)) ∧ URow false w.heap.size w ua g.us ∧ ∀ n ∈ g.free, Fits64 n := by
  obtain ⟨g, fa, ua, cf, cu, hnew, rfl, hfl, hul, hf, hu, hfit⟩ := open_elder hv h
  refine ⟨backG false g, fa, ua, cf, cu, sinceless_back g, ?_, hfl, by show (g.us.map _).length ≤ _; rw [List.length_map]; exact hul, hf, urow_old hu, hfit.2.2.2.2.1⟩
  show _ = Value.agg #[.int .i64 g.tick, .int .i64 g.g0, .int .i64 g.g1, .int .i64 g.next, .slice fa g.free.length cf, .slice ua (g.us.map (backU false)).length cu]
  rw [List.length_map]
end
end Go.Proofs.Ytlfljlhppigejaa
