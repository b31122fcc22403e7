/-
  The walk of the statement Names.
-/
import Derived.Test.YtlfljlhppigejaaDoorSame
namespace Go.Proofs.YtlfljlhppigejaaDoor
open Go.RowKit

theorem same_nil (f : Int) (w : World) : Calls Tryd.prog 4 #[.nilIface, .int .i64 f] w fun e w' => e = .returned (.bool (f == 0)) ∧ w = w' := by
  go_enter Tryd.func4, Tryd.ntmps4
  go_wp2_with fail
  go_ret
  exact ⟨rfl, rfl⟩
theorem assert_errno (n : Int) (w : World) : (Instr.typeAssert (.iface 23 (.int .i64 n)) 27 23 true).run Tryd.prog w = .ok (.tuple #[.int .i64 n, .bool true]) w := by kernel_rfl
set_option maxRecDepth 100000 in
theorem same_err (n f : Int) (hn : 0 < n) (w : World) : Calls Tryd.prog 4 #[.iface 23 (.int .i64 n), .int .i64 f] w fun e w' => e = .returned (.bool (n == f)) ∧ w = w' := by
  have ha := assert_errno n w
  go_enter Tryd.func4, Tryd.ntmps4
  go_wp2_with fail
  all_goals (go_ret; exact ⟨ret1 (boolv (by first | rfl | (simp; omega))), rfl⟩)

theorem blk_row {w : World} {S B : Nat} {c : Array Value} {A : List Int} (h : Blk w S c) (hB : S < B) (hc : c = (A.map (Value.int .i64)).toArray) : Row B w (some ⟨S, 0, none⟩) A.length (fun k => .int .i64 (A.getD k 0)) := by
  intro k hk
  refine ⟨S, 0, rfl, hB, ?_⟩
  rw [Nat.zero_add, h.cell k, hc]
  simp [List.getD, hk]

set_option maxHeartbeats 1600000 in
set_option maxRecDepth 100000 in
theorem error10 (w : World) : Calls Tryd.prog 6 #[.int .i64 10] w fun e w' => e = .returned (.string { data := #[102, 101, 114, 114, 121, 109, 97, 110, 58, 32, 101, 114, 114, 111, 114, 32, 49, 48] }) ∧ Below w.heap.size w w' := by
  go_enter Tryd.func6, Tryd.ntmps6
  go_wp2
  go_ret
  exact ⟨ret1 (by rfl), Below.refl _ _⟩

def nums31 : List Int := [12, 2, 2, 20, 200, 2000, 60, 8, 40, 1000, 100, 80, 200, 1, 2, 3, 4, 5, 0, 1, 2, 3, 1, 2, 3, 4, 5, 1, 2, 3, 4]

set_option maxHeartbeats 3200000 in
set_option maxRecDepth 100000 in
theorem names_law (w : World) : Calls Tryd.prog 3 #[] w (TrueBelow w) := by
  go_enter Tryd.func3, Tryd.ntmps3
  go_wp2_with fail
  obtain ⟨c1, hc1⟩ : ∃ c1 : Array Value, c1 = (nums31.map (Value.int .i64)).toArray := ⟨_, rfl⟩
  obtain ⟨c3, hc3⟩ : ∃ c3 : Array Value, c3 = #[.iface 23 (.int .i64 1), .iface 23 (.int .i64 2), .iface 23 (.int .i64 3), .iface 23 (.int .i64 4), .iface 23 (.int .i64 5), .iface 23 (.int .i64 6), .iface 23 (.int .i64 7), .iface 23 (.int .i64 8), .iface 23 (.int .i64 9), .iface 23 (.int .i64 10)] := ⟨_, rfl⟩
  have hB : Below w.heap.size w (((w.alloc (.cells c1 3)).alloc (.cells c1 3)).alloc (.cells c3 27)) :=
    (((Below.refl _ _).alloc (Nat.le_refl _) _).alloc (by simp) _).alloc (by simp; omega) _
  have b1 : Blk (((w.alloc (.cells c1 3)).alloc (.cells c1 3)).alloc (.cells c3 27)) w.heap.size c1 := ((Blk.new w c1 _).alloc _).alloc _
  have b2 : Blk (((w.alloc (.cells c1 3)).alloc (.cells c1 3)).alloc (.cells c3 27)) (w.heap.size + 1) c1 := by
    have := (Blk.new (w.alloc (.cells c1 3)) c1 3).alloc (.cells c3 27)
    simpa using this
  have b3 : Blk (((w.alloc (.cells c1 3)).alloc (.cells c1 3)).alloc (.cells c3 27)) (w.heap.size + 1 + 1) c3 := by
    have := Blk.new ((w.alloc (.cells c1 3)).alloc (.cells c1 3)) c3 27
    simpa using this
  rw [show (#[.int .i64 12, .int .i64 2, .int .i64 2, .int .i64 20, .int .i64 200, .int .i64 2000, .int .i64 60, .int .i64 8, .int .i64 40, .int .i64 1000, .int .i64 100, .int .i64 80, .int .i64 200, .int .i64 1, .int .i64 2, .int .i64 3, .int .i64 4, .int .i64 5, .int .i64 0, .int .i64 1, .int .i64 2, .int .i64 3, .int .i64 1, .int .i64 2, .int .i64 3, .int .i64 4, .int .i64 5, .int .i64 1, .int .i64 2, .int .i64 3, .int .i64 4] : Array Value) = c1 from by rw [hc1]; rfl, ← hc3]
  generalize (((w.alloc (.cells c1 3)).alloc (.cells c1 3)).alloc (.cells c3 27)) = W at *
  have HB := Lib.hid hB
  have H1 := Lib.hid b1
  have H2 := Lib.hid b2
  have H3 := Lib.hid b3
  have HC1 := Lib.hid hc1
  have HC3 := Lib.hid hc3
  clear hB b1 b2 b3 hc1 hc3
  go_loop [4] (fun i => ∃ k : Nat, i = .int .i64 k ∧ k ≤ 10) (fun i => (10 - intOf i).toNat)
  case atStart => exact ⟨0, rfl, by omega⟩
  case round =>
    obtain ⟨k, rfl, hk⟩ := hrel
    by_cases hlt : k < 10
    · have hx : W.cell? ⟨w.heap.size + 1 + 1, k, none⟩ = some (.iface 23 (.int .i64 ((k : Int) + 1))) := by
        rw [H3.out.cell k, HC3.out]
        have : k = 0 ∨ k = 1 ∨ k = 2 ∨ k = 3 ∨ k = 4 ∨ k = 5 ∨ k = 6 ∨ k = 7 ∨ k = 8 ∨ k = 9 := by omega
        rcases this with rfl | rfl | rfl | rfl | rfl | rfl | rfl | rfl | rfl | rfl <;> rfl
      go_wp2_with fail
      refine (same_err ((k : Int) + 1) ((k : Int) + 1) (by omega) _).mono ?_
      rintro e w1 ⟨rfl, rfl⟩
      clear hx
      go_wp2_with fail
      go_round
      case rel => exact ⟨k + 1, by go_num, by omega⟩
      case measure => simp [intOf]; omega
    · go_wp2_with fail
      have ra : Row W.heap.size W (some ⟨w.heap.size, 0, none⟩) 31 (fun k => .int .i64 (nums31.getD k 0)) := blk_row (A := nums31) H1.out H1.out.lt HC1.out
      have rb : Row W.heap.size W (some ⟨w.heap.size + 1, 0, none⟩) 31 (fun k => .int .i64 (nums31.getD k 0)) := blk_row (A := nums31) H2.out H2.out.lt HC1.out
      refine (samenums_any _ _ 31 31 31 31 nums31 nums31 rfl rfl (by omega) W ra rb).mono ?_
      rintro e w1 ⟨rfl, b4⟩
      clear ra rb
      have b5 : Below w.heap.size w w1 := HB.out.trans (b4.mono HB.out.size)
      clear b4
      rw [decide_eq_true (rfl : nums31 = nums31)]
      go_wp2_with fail
      refine (error10 _).mono ?_
      rintro e w2 ⟨rfl, b6⟩
      go_wp2_with fail
      go_ret
      exact tb rfl (b5.trans (b6.mono b5.size))
end Go.Proofs.YtlfljlhppigejaaDoor
