/-
  The walk of the law's LightReel.
-/
import Derived.Test.YtlfljlhppigejaaReelAll
import Derived.Test.YtlfljlhppigejaaTapeAll
namespace Go.Proofs.Ytlfljlhppigejaa
open Go.RowKit

def LightR (g : G) (ts : List (List Cm)) : Prop := ts.length ≤ 70 ∧ (∀ k, k < ts.length → (ts.getD k []).length ≤ 12) ∧ g.us.length ≤ 25
set_option maxHeartbeats 3200000 in
set_option maxRecDepth 100000 in
theorem lightreel_any (g : G) (ua ta : Option Addr) (cu ct : Nat) (ts : List (List Cm)) (w : World) (ht : PRow w.heap.size w ta ts) :
    Calls Try.prog 42 #[.agg #[.int .i64 g.tick, .int .i64 g.g0, .int .i64 g.g1, .int .i64 g.next, .slice ua g.us.length cu, .slice ta ts.length ct]] w
      fun e w' => ∃ b : Bool, e = .returned (.bool b) ∧ (b = true → LightR g ts) ∧ Below w.heap.size w w' := by
  have hm : maxLen ≤ 9223372036854775807 := by unfold maxLen; decide
  have hbx : Below w.heap.size w (w.alloc (.cells #[.int .i64 g.tick, .int .i64 g.g0, .int .i64 g.g1, .int .i64 g.next, .slice ua g.us.length cu, .slice ta ts.length ct] 69)) := (Below.refl _ _).alloc (Nat.le_refl _) _
  have HBX := Lib.hid hbx
  have HT := Lib.hid (ht.below hbx)
  clear ht hbx
  by_cases h70 : 70 < ts.length
  · have d0 : decide ((70 : Int) < (ts.length : Int)) = true := decide_eq_true (by omega)
    clear h70
    go_enter Try.func42, Try.ntmps42
    go_wp2_with fail
    go_ret
    exact ⟨false, rfl, by simp, HBX.out⟩
  have d0 : decide ((70 : Int) < (ts.length : Int)) = false := decide_eq_false (by omega)
  go_enter Try.func42, Try.ntmps42
  go_wp2_with fail
  obtain ⟨W, hW⟩ : ∃ W, w.alloc (.cells #[.int .i64 g.tick, .int .i64 g.g0, .int .i64 g.g1, .int .i64 g.next, .slice ua g.us.length cu, .slice ta ts.length ct] 69) = W := ⟨_, rfl⟩
  have kW : Blk W w.heap.size #[.int .i64 g.tick, .int .i64 g.g0, .int .i64 g.g1, .int .i64 g.next, .slice ua g.us.length cu, .slice ta ts.length ct] := by rw [← hW]; exact Blk.new w _ _
  rw [hW]
  have hT2 : PRow w.heap.size W ta ts := by rw [← hW]; exact HT.out
  have hb2 : Below w.heap.size w W := by rw [← hW]; exact HBX.out
  have HT2 := Lib.hid hT2
  have HB2 := Lib.hid hb2
  have hs2 := hb2.size
  obtain ⟨l1, c1, -⟩ := id kW
  clear HT HBX hW hT2 hb2
  go_loopw [3] (fun i wr => ∃ k : Nat, i = .int .i64 k ∧ k ≤ ts.length ∧ ((∀ j, j < k → (ts.getD j []).length ≤ 12) ∧ W = wr)) (fun i _ => (ts.length - intOf i).toNat)
  case atStart => exact ⟨0, rfl, by omega, fun j h => absurd h (by omega), rfl⟩
  case round =>
    obtain ⟨k, rfl, hk, hX, rfl⟩ := hrel
    have HX := Lib.hid hX
    clear hX
    by_cases hlt : k < ts.length
    · obtain ⟨l, hl⟩ : ∃ l, ts.getD k [] = l := ⟨_, rfl⟩
      obtain ⟨b, o, la, cl, rfl, hbB, hc, hcr, hll⟩ := HT2.out.get k hlt l hl
      have hki : (0 : Int) ≤ (k : Int) := by omega
      have hkl : (k : Int) < (ts.length : Int) := by omega
      have hbr : b < W.heap.size := by omega
      have HL := Lib.hid hl
      clear hl hcr
      by_cases h12 : 12 < l.length
      · have d8 : decide ((12 : Int) < (l.length : Int)) = true := decide_eq_true (by omega)
        clear h12
        go_wp2_with fail
        go_ret
        exact ⟨false, rfl, by simp, HB2.out⟩
      · have d8 : decide ((12 : Int) < (l.length : Int)) = false := decide_eq_false (by omega)
        have H8 := Lib.hid h12
        clear h12
        go_wp2_with fail
        go_roundw
        case rel =>
          refine ⟨k + 1, by go_num, by omega, ?_, trivial⟩
          intro j hj
          by_cases e : j = k
          · rw [e, HL.out]; have := H8.out; omega
          · exact HX.out j (by omega)
        case measure => simp [intOf]; omega
    · obtain rfl : k = ts.length := by omega
      by_cases h25 : g.us.length ≤ 25
      · have d5 : decide ((g.us.length : Int) ≤ 25) = true := decide_eq_true (by omega)
        have H5 := Lib.hid h25
        clear h25
        go_wp2_with fail
        go_ret
        exact ⟨true, rfl, fun _ => ⟨by omega, HX.out, H5.out⟩, HB2.out⟩
      · have d5 : decide ((g.us.length : Int) ≤ 25) = false := decide_eq_false (by omega)
        clear h25
        go_wp2_with fail
        go_ret
        exact ⟨false, rfl, by simp, HB2.out⟩
end Go.Proofs.Ytlfljlhppigejaa
