/-
  The walks of chapter 2: package rules, and what the document's answer says of it.
-/
import Derived.Test.YtlfljlhppigejabProg
import Derived.Test.YtlfljlhppigejabPackBase
import Derived.Test.YtlfljlhppigejabPackPure
import Derived.BigQuiet
import Derived.Deep.QuietTactic
import Derived.Outline
namespace Go.Proofs.Ytlfljlhppigejab
open Go.RowKit

/-- A rule as the program hands it back. -/
def RuleEnd (n : Bool) (k : Int) (w : World) (e : Ending) (w' : World) : Prop :=
  e = .returned (.tuple #[.agg #[.int .i64 (ruleOf n k).cost, .int .i64 (ruleOf n k).hp, .int .i64 (ruleOf n k).speed, .int .i64 (ruleOf n k).harm, .int .i64 (ruleOf n k).range, .int .i64 (ruleOf n k).load], .bool (isRule n k)]) ∧ Below w.heap.size w w'

theorem rBase (k : Int) (h5 : ¬ k = 5) (w : World) : Calls Try.prog 126 #[.int .i64 k] w fun e w' => e = .returned (.tuple #[.agg #[.int .i64 (ruleOf false k).cost, .int .i64 (ruleOf false k).hp, .int .i64 (ruleOf false k).speed, .int .i64 (ruleOf false k).harm, .int .i64 (ruleOf false k).range, .int .i64 (ruleOf false k).load], .bool (isRule true k)]) ∧ ∃ c : Array Value, w' = w.alloc (.cells c 190) := by
  by_cases h1 : k = 1
  · subst h1
    clear h5
    go_enter Try.func126, Try.ntmps126
    go_wp2
    refine bodyPost_ret (v := .tuple #[.agg #[.int .i64 (ruleOf false 1).cost, .int .i64 (ruleOf false 1).hp, .int .i64 (ruleOf false 1).speed, .int .i64 (ruleOf false 1).harm, .int .i64 (ruleOf false 1).range, .int .i64 (ruleOf false 1).load], .bool (isRule true 1)]) ?_ rfl ⟨rfl, _, rfl⟩
    simp [results, Try.results126, go_sem, ruleOf, isRule]
  by_cases h2 : k = 2
  · subst h2
    clear h5
    go_enter Try.func126, Try.ntmps126
    go_wp2
    refine bodyPost_ret (v := .tuple #[.agg #[.int .i64 (ruleOf false 2).cost, .int .i64 (ruleOf false 2).hp, .int .i64 (ruleOf false 2).speed, .int .i64 (ruleOf false 2).harm, .int .i64 (ruleOf false 2).range, .int .i64 (ruleOf false 2).load], .bool (isRule true 2)]) ?_ rfl ⟨rfl, _, rfl⟩
    simp [results, Try.results126, go_sem, ruleOf, isRule]
  by_cases h3 : k = 3
  · subst h3
    clear h5
    go_enter Try.func126, Try.ntmps126
    go_wp2
    refine bodyPost_ret (v := .tuple #[.agg #[.int .i64 (ruleOf false 3).cost, .int .i64 (ruleOf false 3).hp, .int .i64 (ruleOf false 3).speed, .int .i64 (ruleOf false 3).harm, .int .i64 (ruleOf false 3).range, .int .i64 (ruleOf false 3).load], .bool (isRule true 3)]) ?_ rfl ⟨rfl, _, rfl⟩
    simp [results, Try.results126, go_sem, ruleOf, isRule]
  by_cases h4 : k = 4
  · subst h4
    clear h5
    go_enter Try.func126, Try.ntmps126
    go_wp2
    refine bodyPost_ret (v := .tuple #[.agg #[.int .i64 (ruleOf false 4).cost, .int .i64 (ruleOf false 4).hp, .int .i64 (ruleOf false 4).speed, .int .i64 (ruleOf false 4).harm, .int .i64 (ruleOf false 4).range, .int .i64 (ruleOf false 4).load], .bool (isRule true 4)]) ?_ rfl ⟨rfl, _, rfl⟩
    simp [results, Try.results126, go_sem, ruleOf, isRule]
  have hr : ruleOf false k = ⟨0, 0, 0, 0, 0, 0⟩ := by unfold ruleOf; simp [h1, h2, h3, h5]
  have hi : isRule true k = false := by unfold isRule; simp; omega
  have HR := Lib.hid hr
  have HI := Lib.hid hi
  clear hr hi
  go_enter Try.func126, Try.ntmps126
  go_wp2
  refine bodyPost_ret (v := .tuple #[.agg #[.int .i64 (ruleOf false k).cost, .int .i64 (ruleOf false k).hp, .int .i64 (ruleOf false k).speed, .int .i64 (ruleOf false k).harm, .int .i64 (ruleOf false k).range, .int .i64 (ruleOf false k).load], .bool (isRule true k)]) ?_ rfl ⟨rfl, _, rfl⟩
  rw [HR.out, HI.out]
  simp [results, Try.results126, go_sem]

theorem rBase5 (w : World) : Calls Try.prog 126 #[.int .i64 5] w fun e w' => e = .returned (.tuple #[.agg #[.int .i64 0, .int .i64 0, .int .i64 0, .int .i64 0, .int .i64 0, .int .i64 0], .bool false]) ∧ ∃ c : Array Value, w' = w.alloc (.cells c 190) := by
  go_enter Try.func126, Try.ntmps126
  go_wp2
  refine bodyPost_ret (v := .tuple #[.agg #[.int .i64 0, .int .i64 0, .int .i64 0, .int .i64 0, .int .i64 0, .int .i64 0], .bool false]) ?_ rfl ⟨rfl, _, rfl⟩
  simp [results, Try.results126, go_sem]

set_option maxHeartbeats 400000 in
theorem rElder (k : Int) (w : World) : Calls Try.prog 104 #[.int .i64 k] w (RuleEnd false k w) := by
  by_cases h5 : k = 5
  · subst h5
    go_enter Try.func104, Try.ntmps104
    go_wp2
    refine bodyPost_ret (v := .tuple #[.agg #[.int .i64 (ruleOf false 5).cost, .int .i64 (ruleOf false 5).hp, .int .i64 (ruleOf false 5).speed, .int .i64 (ruleOf false 5).harm, .int .i64 (ruleOf false 5).range, .int .i64 (ruleOf false 5).load], .bool (isRule false 5)]) ?_ rfl ⟨rfl, by repeat (first | exact Below.refl _ _ | refine Below.alloc ?_ (by simp; try omega) _)⟩
    simp [results, Try.results104, go_sem, ruleOf, isRule]
  have hi : isRule false k = isRule true k := by unfold isRule; simp [h5]
  have HI := Lib.hid hi
  clear hi
  go_enter Try.func104, Try.ntmps104
  go_wp2_with fail
  refine (rBase k h5 _).mono ?_
  rintro e w1 ⟨rfl, c, rfl⟩
  go_wp2
  refine bodyPost_ret (v := .tuple #[.agg #[.int .i64 (ruleOf false k).cost, .int .i64 (ruleOf false k).hp, .int .i64 (ruleOf false k).speed, .int .i64 (ruleOf false k).harm, .int .i64 (ruleOf false k).range, .int .i64 (ruleOf false k).load], .bool (isRule false k)]) ?_ rfl ⟨rfl, by repeat (first | exact Below.refl _ _ | refine Below.alloc ?_ (by simp; try omega) _)⟩
  rw [HI.out]
  simp [results, Try.results104, go_sem]

set_option maxHeartbeats 400000 in
theorem rNewer (k : Int) (w : World) : Calls Try.prog 115 #[.int .i64 k] w (RuleEnd true k w) := by
  by_cases h5 : k = 5
  · subst h5
    go_enter Try.func115, Try.ntmps115
    go_wp2_with fail
    refine (rBase5 _).mono ?_
    rintro e w1 ⟨rfl, c, rfl⟩
    go_wp2
    refine bodyPost_ret (v := .tuple #[.agg #[.int .i64 (ruleOf true 5).cost, .int .i64 (ruleOf true 5).hp, .int .i64 (ruleOf true 5).speed, .int .i64 (ruleOf true 5).harm, .int .i64 (ruleOf true 5).range, .int .i64 (ruleOf true 5).load], .bool (isRule true 5)]) ?_ rfl ⟨rfl, by repeat (first | exact Below.refl _ _ | refine Below.alloc ?_ (by simp; try omega) _)⟩
    simp [results, Try.results115, go_sem, ruleOf, isRule]
  by_cases h3 : k = 3
  · subst h3
    clear h5
    go_enter Try.func115, Try.ntmps115
    go_wp2_with fail
    refine (rBase 3 (by omega) _).mono ?_
    rintro e w1 ⟨rfl, c, rfl⟩
    go_wp2
    refine bodyPost_ret (v := .tuple #[.agg #[.int .i64 (ruleOf true 3).cost, .int .i64 (ruleOf true 3).hp, .int .i64 (ruleOf true 3).speed, .int .i64 (ruleOf true 3).harm, .int .i64 (ruleOf true 3).range, .int .i64 (ruleOf true 3).load], .bool (isRule true 3)]) ?_ rfl ⟨rfl, by repeat (first | exact Below.refl _ _ | refine Below.alloc ?_ (by simp; try omega) _)⟩
    simp [results, Try.results115, go_sem, ruleOf, isRule]
  have hi : ruleOf true k = ruleOf false k := by unfold ruleOf; simp [h5, h3]
  have HI := Lib.hid hi
  clear hi
  go_enter Try.func115, Try.ntmps115
  go_wp2_with fail
  refine (rBase k h5 _).mono ?_
  rintro e w1 ⟨rfl, c, rfl⟩
  go_wp2
  refine bodyPost_ret (v := .tuple #[.agg #[.int .i64 (ruleOf true k).cost, .int .i64 (ruleOf true k).hp, .int .i64 (ruleOf true k).speed, .int .i64 (ruleOf true k).harm, .int .i64 (ruleOf true k).range, .int .i64 (ruleOf true k).load], .bool (isRule true k)]) ?_ rfl ⟨rfl, by repeat (first | exact Below.refl _ _ | refine Below.alloc ?_ (by simp; try omega) _)⟩
  rw [HI.out]
  simp [results, Try.results115, go_sem]

theorem refRuleE (k : Int) (w : World) : Calls Try.prog 101 #[.int .i64 k, .bool false] w (RuleEnd false k w) := by
  by_cases h1 : k = 1
  · subst h1
    go_enter Try.func101, Try.ntmps101
    go_wp2
    exact bodyPost_ret (v := .tuple #[.agg #[.int .i64 (ruleOf false 1).cost, .int .i64 (ruleOf false 1).hp, .int .i64 (ruleOf false 1).speed, .int .i64 (ruleOf false 1).harm, .int .i64 (ruleOf false 1).range, .int .i64 (ruleOf false 1).load], .bool (isRule false 1)]) (by simp [results, Try.results101, go_sem, ruleOf, isRule]) rfl ⟨rfl, by repeat (first | exact Below.refl _ _ | refine Below.alloc ?_ (by simp; try omega) _ | refine Below.setCell ?_ (by simp) _)⟩
  by_cases h2 : k = 2
  · subst h2
    go_enter Try.func101, Try.ntmps101
    go_wp2
    exact bodyPost_ret (v := .tuple #[.agg #[.int .i64 (ruleOf false 2).cost, .int .i64 (ruleOf false 2).hp, .int .i64 (ruleOf false 2).speed, .int .i64 (ruleOf false 2).harm, .int .i64 (ruleOf false 2).range, .int .i64 (ruleOf false 2).load], .bool (isRule false 2)]) (by simp [results, Try.results101, go_sem, ruleOf, isRule]) rfl ⟨rfl, by repeat (first | exact Below.refl _ _ | refine Below.alloc ?_ (by simp; try omega) _ | refine Below.setCell ?_ (by simp) _)⟩
  by_cases h3 : k = 3
  · subst h3
    go_enter Try.func101, Try.ntmps101
    go_wp2
    exact bodyPost_ret (v := .tuple #[.agg #[.int .i64 (ruleOf false 3).cost, .int .i64 (ruleOf false 3).hp, .int .i64 (ruleOf false 3).speed, .int .i64 (ruleOf false 3).harm, .int .i64 (ruleOf false 3).range, .int .i64 (ruleOf false 3).load], .bool (isRule false 3)]) (by simp [results, Try.results101, go_sem, ruleOf, isRule]) rfl ⟨rfl, by repeat (first | exact Below.refl _ _ | refine Below.alloc ?_ (by simp; try omega) _ | refine Below.setCell ?_ (by simp) _)⟩
  by_cases h4 : k = 4
  · subst h4
    go_enter Try.func101, Try.ntmps101
    go_wp2
    exact bodyPost_ret (v := .tuple #[.agg #[.int .i64 (ruleOf false 4).cost, .int .i64 (ruleOf false 4).hp, .int .i64 (ruleOf false 4).speed, .int .i64 (ruleOf false 4).harm, .int .i64 (ruleOf false 4).range, .int .i64 (ruleOf false 4).load], .bool (isRule false 4)]) (by simp [results, Try.results101, go_sem, ruleOf, isRule]) rfl ⟨rfl, by repeat (first | exact Below.refl _ _ | refine Below.alloc ?_ (by simp; try omega) _ | refine Below.setCell ?_ (by simp) _)⟩
  by_cases h5 : k = 5
  · subst h5
    go_enter Try.func101, Try.ntmps101
    go_wp2
    exact bodyPost_ret (v := .tuple #[.agg #[.int .i64 (ruleOf false 5).cost, .int .i64 (ruleOf false 5).hp, .int .i64 (ruleOf false 5).speed, .int .i64 (ruleOf false 5).harm, .int .i64 (ruleOf false 5).range, .int .i64 (ruleOf false 5).load], .bool (isRule false 5)]) (by simp [results, Try.results101, go_sem, ruleOf, isRule]) rfl ⟨rfl, by repeat (first | exact Below.refl _ _ | refine Below.alloc ?_ (by simp; try omega) _ | refine Below.setCell ?_ (by simp) _)⟩
  have hr : ruleOf false k = ⟨0, 0, 0, 0, 0, 0⟩ := by unfold ruleOf; simp [h1, h2, h3, h5]
  have hi : isRule false k = false := by unfold isRule; simp; omega
  have HR := Lib.hid hr
  have HI := Lib.hid hi
  clear hr hi
  go_enter Try.func101, Try.ntmps101
  go_wp2
  exact bodyPost_ret (v := .tuple #[.agg #[.int .i64 (ruleOf false k).cost, .int .i64 (ruleOf false k).hp, .int .i64 (ruleOf false k).speed, .int .i64 (ruleOf false k).harm, .int .i64 (ruleOf false k).range, .int .i64 (ruleOf false k).load], .bool (isRule false k)]) (by rw [HR.out, HI.out]; simp [results, Try.results101, go_sem]) rfl ⟨rfl, by repeat (first | exact Below.refl _ _ | refine Below.alloc ?_ (by simp; try omega) _ | refine Below.setCell ?_ (by simp) _)⟩

theorem refRuleN (k : Int) (w : World) : Calls Try.prog 101 #[.int .i64 k, .bool true] w (RuleEnd true k w) := by
  by_cases h1 : k = 1
  · subst h1
    go_enter Try.func101, Try.ntmps101
    go_wp2
    exact bodyPost_ret (v := .tuple #[.agg #[.int .i64 (ruleOf true 1).cost, .int .i64 (ruleOf true 1).hp, .int .i64 (ruleOf true 1).speed, .int .i64 (ruleOf true 1).harm, .int .i64 (ruleOf true 1).range, .int .i64 (ruleOf true 1).load], .bool (isRule true 1)]) (by simp [results, Try.results101, go_sem, ruleOf, isRule]) rfl ⟨rfl, by repeat (first | exact Below.refl _ _ | refine Below.alloc ?_ (by simp; try omega) _ | refine Below.setCell ?_ (by simp) _)⟩
  by_cases h2 : k = 2
  · subst h2
    go_enter Try.func101, Try.ntmps101
    go_wp2
    exact bodyPost_ret (v := .tuple #[.agg #[.int .i64 (ruleOf true 2).cost, .int .i64 (ruleOf true 2).hp, .int .i64 (ruleOf true 2).speed, .int .i64 (ruleOf true 2).harm, .int .i64 (ruleOf true 2).range, .int .i64 (ruleOf true 2).load], .bool (isRule true 2)]) (by simp [results, Try.results101, go_sem, ruleOf, isRule]) rfl ⟨rfl, by repeat (first | exact Below.refl _ _ | refine Below.alloc ?_ (by simp; try omega) _ | refine Below.setCell ?_ (by simp) _)⟩
  by_cases h3 : k = 3
  · subst h3
    go_enter Try.func101, Try.ntmps101
    go_wp2
    exact bodyPost_ret (v := .tuple #[.agg #[.int .i64 (ruleOf true 3).cost, .int .i64 (ruleOf true 3).hp, .int .i64 (ruleOf true 3).speed, .int .i64 (ruleOf true 3).harm, .int .i64 (ruleOf true 3).range, .int .i64 (ruleOf true 3).load], .bool (isRule true 3)]) (by simp [results, Try.results101, go_sem, ruleOf, isRule]) rfl ⟨rfl, by repeat (first | exact Below.refl _ _ | refine Below.alloc ?_ (by simp; try omega) _ | refine Below.setCell ?_ (by simp) _)⟩
  by_cases h4 : k = 4
  · subst h4
    go_enter Try.func101, Try.ntmps101
    go_wp2
    exact bodyPost_ret (v := .tuple #[.agg #[.int .i64 (ruleOf true 4).cost, .int .i64 (ruleOf true 4).hp, .int .i64 (ruleOf true 4).speed, .int .i64 (ruleOf true 4).harm, .int .i64 (ruleOf true 4).range, .int .i64 (ruleOf true 4).load], .bool (isRule true 4)]) (by simp [results, Try.results101, go_sem, ruleOf, isRule]) rfl ⟨rfl, by repeat (first | exact Below.refl _ _ | refine Below.alloc ?_ (by simp; try omega) _ | refine Below.setCell ?_ (by simp) _)⟩
  by_cases h5 : k = 5
  · subst h5
    go_enter Try.func101, Try.ntmps101
    go_wp2
    exact bodyPost_ret (v := .tuple #[.agg #[.int .i64 (ruleOf true 5).cost, .int .i64 (ruleOf true 5).hp, .int .i64 (ruleOf true 5).speed, .int .i64 (ruleOf true 5).harm, .int .i64 (ruleOf true 5).range, .int .i64 (ruleOf true 5).load], .bool (isRule true 5)]) (by simp [results, Try.results101, go_sem, ruleOf, isRule]) rfl ⟨rfl, by repeat (first | exact Below.refl _ _ | refine Below.alloc ?_ (by simp; try omega) _ | refine Below.setCell ?_ (by simp) _)⟩
  have hr : ruleOf true k = ⟨0, 0, 0, 0, 0, 0⟩ := by unfold ruleOf; simp [h1, h2, h3, h5]
  have hi : isRule true k = false := by unfold isRule; simp; omega
  have HR := Lib.hid hr
  have HI := Lib.hid hi
  clear hr hi
  go_enter Try.func101, Try.ntmps101
  go_wp2
  exact bodyPost_ret (v := .tuple #[.agg #[.int .i64 (ruleOf true k).cost, .int .i64 (ruleOf true k).hp, .int .i64 (ruleOf true k).speed, .int .i64 (ruleOf true k).harm, .int .i64 (ruleOf true k).range, .int .i64 (ruleOf true k).load], .bool (isRule true k)]) (by rw [HR.out, HI.out]; simp [results, Try.results101, go_sem]) rfl ⟨rfl, by repeat (first | exact Below.refl _ _ | refine Below.alloc ?_ (by simp; try omega) _ | refine Below.setCell ?_ (by simp) _)⟩

theorem rOn (x y : Int) (w : World) : Calls Try.prog 106 #[.int .i64 x, .int .i64 y] w fun e w' => e = .returned (.bool (onB x y)) ∧ w = w' := by
  go_enter Try.func106, Try.ntmps106
  go_wp2
  all_goals (go_ret; exact ⟨ret1 (boolv (by unfold onB; rw [Bool.eq_iff_iff]; simp; try omega)), rfl⟩)
theorem refOn (x y : Int) (w : World) : Calls Try.prog 102 #[.int .i64 x, .int .i64 y] w fun e w' => e = .returned (.bool (onB x y)) ∧ w = w' := by
  go_enter Try.func102, Try.ntmps102
  go_wp2
  all_goals (go_ret; exact ⟨ret1 (boolv (by unfold onB; rw [Bool.eq_iff_iff]; simp; try omega)), rfl⟩)

/-- Places not too far off for the arithmetic. -/
def Small (x : Int) : Prop := -100000 ≤ x ∧ x ≤ 100000

end Go.Proofs.Ytlfljlhppigejab
