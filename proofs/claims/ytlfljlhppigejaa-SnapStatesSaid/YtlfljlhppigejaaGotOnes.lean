/-
  What the program reads of bytes as a state, in one form.
-/
import Derived.Test.YtlfljlhppigejaaPackTop
namespace Go.Proofs.Ytlfljlhppigejaa
open Go.RowKit

def gotE (l : List UInt8) : G := if stateF false l = 0 then (elderI (openL 69 l)).1 else zeroG false
theorem elderof_one (s : ByteArray) (hs : s.size ≤ 900000) (l : List UInt8) (hl : s.data.toList = l) (w : World) : Calls Try.prog 66 #[.string s] w fun e w' => ∃ fa cf ua cu, e = .returned (.tuple #[.agg #[.int .i64 (gotE l).tick, .int .i64 (gotE l).g0, .int .i64 (gotE l).g1, .int .i64 (gotE l).next, .slice fa (gotE l).free.length cf, .slice ua (gotE l).us.length cu], errV (stateF false l)]) ∧ Row w'.heap.size w' fa (gotE l).free.length (fun k => .int .i64 ((gotE l).free.getD k 0)) ∧ URow false w'.heap.size w' ua (gotE l).us ∧ Below w.heap.size w w' := by
  subst hl
  refine (elderof_any s hs w).mono ?_
  rintro e w' ⟨h1, h2, h3⟩
  by_cases h0 : stateF false s.data.toList = 0
  · have hg : gotE s.data.toList = _ := if_pos h0
    rw [hg, h0]
    obtain ⟨fa, cf, ua, cu, rfl, r1, r2⟩ := h2 h0
    exact ⟨fa, cf, ua, cu, rfl, r1, r2, h3⟩
  · have hg : gotE s.data.toList = _ := if_neg h0
    rw [hg]
    exact ⟨none, 0, none, 0, h1 h0, fun k hk => (by simp [zeroG] at hk), fun k hk => (by simp [zeroG] at hk), h3⟩
def gotN (l : List UInt8) : G := if stateF true l = 0 then (newerI (openL 78 l)).1 else zeroG true
theorem newerof_one (s : ByteArray) (hs : s.size ≤ 900000) (l : List UInt8) (hl : s.data.toList = l) (w : World) : Calls Try.prog 69 #[.string s] w fun e w' => ∃ ua cu, e = .returned (.tuple #[.agg #[.int .i64 (gotN l).tick, .int .i64 (gotN l).g0, .int .i64 (gotN l).g1, .int .i64 (gotN l).next, .slice ua (gotN l).us.length cu], errV (stateF true l)]) ∧ URow true w'.heap.size w' ua (gotN l).us ∧ Below w.heap.size w w' := by
  subst hl
  refine (newerof_any s hs w).mono ?_
  rintro e w' ⟨h1, h2, h3⟩
  by_cases h0 : stateF true s.data.toList = 0
  · have hg : gotN s.data.toList = _ := if_pos h0
    rw [hg, h0]
    obtain ⟨ua, cu, rfl, r2, -, -⟩ := h2 h0
    exact ⟨ua, cu, rfl, r2, h3⟩
  · have hg : gotN s.data.toList = _ := if_neg h0
    rw [hg]
    exact ⟨none, 0, h1 h0, fun k hk => (by simp [zeroG] at hk), h3⟩
end Go.Proofs.Ytlfljlhppigejaa
