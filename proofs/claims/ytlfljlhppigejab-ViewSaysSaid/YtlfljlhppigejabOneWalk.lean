/-
  The walks of what checks one by itself: elder.ent, newer.single, the document's oneFault.
-/
import Derived.Test.YtlfljlhppigejabRulesWalk
import Derived.Test.YtlfljlhppigejabPackSmall
import Derived.Test.YtlfljlhppigejabPackMaps
import Derived.Deep.Light
namespace Go.Proofs.Ytlfljlhppigejab
open Go.RowKit

theorem err_is {f : Nat} (c : Nat) (h : f = c) : errV c = errV f := by rw [h]
set_option maxHeartbeats 12800000 in
set_option maxRecDepth 100000 in
theorem ent_any (u : U) (w : World) :
   Calls Try.prog 82 #[.agg #[.int .i64 u.id, .int .i64 u.owner, .int .i64 u.kind, .int .i64 u.x, .int .i64 u.y, .int .i64 u.hp, .int .i64 u.does, .int .i64 u.gx, .int .i64 u.gy, .int .i64 u.target]] w fun e w' => e = .returned (errV (oneFault false 0 u)) ∧ Below w.heap.size w w' := by
  have hb0 : Below w.heap.size w (w.alloc (.cells #[.int .i64 u.id, .int .i64 u.owner, .int .i64 u.kind, .int .i64 u.x, .int .i64 u.y, .int .i64 u.hp, .int .i64 u.does, .int .i64 u.gx, .int .i64 u.gy, .int .i64 u.target] 83)) := (Below.refl _ _).alloc (Nat.le_refl _) _
  have hb1 := Blk.new w #[.int .i64 u.id, .int .i64 u.owner, .int .i64 u.kind, .int .i64 u.x, .int .i64 u.y, .int .i64 u.hp, .int .i64 u.does, .int .i64 u.gx, .int .i64 u.gy, .int .i64 u.target] 83
  go_enter Try.func82, Try.ntmps82
  go_wp2_with fail
  refine (rElder u.kind _).mono ?_
  rintro e w1 ⟨rfl, b1⟩
  have hbw : Below w.heap.size w w1 := hb0.trans (b1.mono (by simp))
  obtain ⟨l1, c1, -⟩ := hb1.call b1
  clear hb0 hb1 b1
  obtain ⟨r, hrr⟩ : ∃ r, ruleOf false u.kind = r := ⟨_, rfl⟩
  have HR := Lib.hid hrr
  rw [hrr]
  clear hrr
  go_wp2_with (go_at_call 106; refine (rOn _ _ _).mono ?_; rintro e w2 ⟨rfl, rfl⟩)
  all_goals
    go_ret
    refine ⟨ret1 ?_, by repeat (first | exact hbw | refine Below.alloc ?_ hbw.size _)⟩
    first
      | refine err_is 0 ?_
      | refine err_is 1 ?_
      | refine err_is 3 ?_
    clear hbw l1 c1
    have hrr := HR.out
    go_light
    unfold oneFault topOf
    rw [hrr]
    repeat' split
    all_goals first | rfl | (exfalso; simp_all; done) | (exfalso; simp_all <;> omega) | (exfalso; rcases Classical.em (u.does = 3) with q1 | q1 <;> rcases Classical.em (0 < u.target) with q2 | q2 <;> simp_all <;> omega)

set_option maxHeartbeats 12800000 in
set_option maxRecDepth 100000 in
theorem single_any (u : U) (tick : Int) (w : World) :
   Calls Try.prog 94 #[.agg #[.int .i64 u.id, .int .i64 u.owner, .int .i64 u.kind, .int .i64 u.x, .int .i64 u.y, .int .i64 u.hp, .int .i64 u.does, .int .i64 u.gx, .int .i64 u.gy, .int .i64 u.target, .int .i64 u.since], .int .i64 tick] w fun e w' => e = .returned (errV (oneFault true tick u)) ∧ Below w.heap.size w w' := by
  have hb0 : Below w.heap.size w (w.alloc (.cells #[.int .i64 u.id, .int .i64 u.owner, .int .i64 u.kind, .int .i64 u.x, .int .i64 u.y, .int .i64 u.hp, .int .i64 u.does, .int .i64 u.gx, .int .i64 u.gy, .int .i64 u.target, .int .i64 u.since] 142)) := (Below.refl _ _).alloc (Nat.le_refl _) _
  have hb1 := Blk.new w #[.int .i64 u.id, .int .i64 u.owner, .int .i64 u.kind, .int .i64 u.x, .int .i64 u.y, .int .i64 u.hp, .int .i64 u.does, .int .i64 u.gx, .int .i64 u.gy, .int .i64 u.target, .int .i64 u.since] 142
  go_enter Try.func94, Try.ntmps94
  go_wp2_with fail
  refine (rNewer u.kind _).mono ?_
  rintro e w1 ⟨rfl, b1⟩
  have hbw : Below w.heap.size w w1 := hb0.trans (b1.mono (by simp))
  obtain ⟨l1, c1, -⟩ := hb1.call b1
  clear hb0 hb1 b1
  obtain ⟨r, hrr⟩ : ∃ r, ruleOf true u.kind = r := ⟨_, rfl⟩
  have HR := Lib.hid hrr
  rw [hrr]
  clear hrr
  go_wp2_with (go_at_call 106; refine (rOn _ _ _).mono ?_; rintro e w2 ⟨rfl, rfl⟩)
  all_goals
    go_ret
    refine ⟨ret1 ?_, by repeat (first | exact hbw | refine Below.alloc ?_ hbw.size _)⟩
    first
      | refine err_is 0 ?_
      | refine err_is 1 ?_
      | refine err_is 3 ?_
    clear hbw l1 c1
    have hrr := HR.out
    go_light
    unfold oneFault topOf
    rw [hrr]
    repeat' split
    all_goals first | rfl | (exfalso; simp_all; done) | (exfalso; simp_all <;> omega) | (exfalso; rcases Classical.em (u.does = 3) with q1 | q1 <;> rcases Classical.em (0 < u.target) with q2 | q2 <;> simp_all <;> omega)

end Go.Proofs.Ytlfljlhppigejab
