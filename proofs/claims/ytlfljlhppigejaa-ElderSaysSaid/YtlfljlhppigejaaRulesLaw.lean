/-
  The walks of the statements RulesSays and TopRules.
-/
import Derived.Test.YtlfljlhppigejaaPackWish
namespace Go.Proofs.Ytlfljlhppigejaa
open Go.RowKit

theorem refFar (x y tx ty : Int) (w : World) (hx : -100000 ≤ x ∧ x ≤ 100000) (hy : -100000 ≤ y ∧ y ≤ 100000) (htx : -100000 ≤ tx ∧ tx ≤ 100000) (hty : -100000 ≤ ty ∧ ty ≤ 100000) :
    Calls Try.prog 28 #[.int .i64 x, .int .i64 y, .int .i64 tx, .int .i64 ty] w fun e w' => e = .returned (.int .i64 (far x y tx ty)) ∧ w = w' := by
  obtain ⟨_, _⟩ := hx; obtain ⟨_, _⟩ := hy; obtain ⟨_, _⟩ := htx; obtain ⟨_, _⟩ := hty
  go_enter Try.func28, Try.ntmps28
  go_wp2
  all_goals
    go_ret
    exact ⟨ret1 (intv (by unfold far farI; repeat' split
                          all_goals omega)), rfl⟩

theorem refToward (x y tx ty : Int) (w : World) (hx : -100000 ≤ x ∧ x ≤ 100000) (hy : -100000 ≤ y ∧ y ≤ 100000) (htx : -100000 ≤ tx ∧ tx ≤ 100000) (hty : -100000 ≤ ty ∧ ty ≤ 100000) :
    Calls Try.prog 26 #[.int .i64 x, .int .i64 y, .int .i64 tx, .int .i64 ty] w fun e w' => e = .returned (.tuple #[.int .i64 (near1 x tx), .int .i64 (near1 y ty)]) ∧ w = w' := by
  obtain ⟨_, _⟩ := hx; obtain ⟨_, _⟩ := hy; obtain ⟨_, _⟩ := htx; obtain ⟨_, _⟩ := hty
  go_enter Try.func26, Try.ntmps26
  go_wp2
  all_goals
    go_ret2
    exact ⟨ret2 (intv (by unfold near1; repeat' split
                          all_goals omega)) (intv (by unfold near1; repeat' split
                                                      all_goals omega)), rfl⟩

theorem asRule_any (a b c d e f : Int) (w : World) : Calls Try.prog 22 #[.agg #[.int .i64 a, .int .i64 b, .int .i64 c, .int .i64 d, .int .i64 e, .int .i64 f], .agg #[.int .i64 a, .int .i64 b, .int .i64 c, .int .i64 d, .int .i64 e, .int .i64 f]] w (TrueBelow w) := by
  go_enter Try.func22, Try.ntmps22
  go_wp2
  go_ret
  exact tb rfl (by repeat (first | exact Below.refl _ _ | refine Below.alloc ?_ (by simp; try omega) _))

theorem ruled_any (w : World) : Calls Try.prog 18 #[] w (TrueBelow w) := by
  go_enter Try.func18, Try.ntmps18
  go_wp2_with fail
  refine (rElder 1 _).mono ?_
  rintro e w1 ⟨rfl, hb⟩
  obtain ⟨hc, hf⟩ := bcell hb
  have e1 : (ruleOf false 1).cost = 5 := by decide
  have e2 : (ruleOf false 1).hp = 5 := by decide
  have e3 : isRule false 1 = true := by decide
  rw [e1, e2, e3]
  clear e1 e2 e3
  go_wp2
  go_ret
  exact tb rfl (hb.alloc hb.size _)

set_option maxHeartbeats 1600000 in
set_option maxRecDepth 100000 in
theorem rules_law (kind x y tx ty : Int) (w : World) :
    Calls Try.prog 4 #[.int .i64 kind, .int .i64 x, .int .i64 y, .int .i64 tx, .int .i64 ty] w (TrueBelow w) := by
  have H1 : onB x y = true ∨ onB x y = false := by cases onB x y <;> simp
  have H2 : onB tx ty = true ∨ onB tx ty = false := by cases onB tx ty <;> simp
  have HH := Lib.hid H2
  clear H2
  go_enter Try.func4, Try.ntmps4
  go_wp2_with fail
  refine (ruled_any _).mono ?_
  rintro e w1 ⟨rfl, b1⟩
  go_wp2_with fail
  refine (rElder kind _).mono ?_
  rintro e w2 ⟨rfl, b2⟩
  go_wp2_with fail
  have A1 := Blk.new w2 #[.int .i64 (ruleOf false kind).cost, .int .i64 (ruleOf false kind).hp, .int .i64 (ruleOf false kind).speed, .int .i64 (ruleOf false kind).harm, .int .i64 (ruleOf false kind).range, .int .i64 (ruleOf false kind).load] 33
  refine (refRuleE kind _).mono ?_
  rintro e w3 ⟨rfl, b3⟩
  have A2 := (A1.call b3)
  go_wp2_with fail
  have A3 := Blk.new w3 #[.int .i64 (ruleOf false kind).cost, .int .i64 (ruleOf false kind).hp, .int .i64 (ruleOf false kind).speed, .int .i64 (ruleOf false kind).harm, .int .i64 (ruleOf false kind).range, .int .i64 (ruleOf false kind).load] 36
  refine (rNewer kind _).mono ?_
  rintro e w4 ⟨rfl, b4⟩
  have A4 := (A2.alloc _).call b4
  have A5 := A3.call b4
  go_wp2_with fail
  have A6 := Blk.new w4 #[.int .i64 (ruleOf true kind).cost, .int .i64 (ruleOf true kind).hp, .int .i64 (ruleOf true kind).speed, .int .i64 (ruleOf true kind).harm, .int .i64 (ruleOf true kind).range, .int .i64 (ruleOf true kind).load] 33
  refine (refRuleN kind _).mono ?_
  rintro e w5 ⟨rfl, b5⟩
  obtain ⟨l7, A7, -⟩ := (A4.alloc _).call b5
  obtain ⟨l8, A8, -⟩ := (A5.alloc _).call b5
  have K3 := A6.call b5
  clear A1 A2 A3 A4 A5 A6
  go_wp2_with fail
  have K4 := Blk.new w5 #[.int .i64 (ruleOf true kind).cost, .int .i64 (ruleOf true kind).hp, .int .i64 (ruleOf true kind).speed, .int .i64 (ruleOf true kind).harm, .int .i64 (ruleOf true kind).range, .int .i64 (ruleOf true kind).load] 36
  refine (asRule_any _ _ _ _ _ _ _).mono ?_
  rintro e w6 ⟨rfl, b6⟩
  obtain ⟨l9, A9, -⟩ := (K3.alloc _).call b6
  obtain ⟨l10, A10, -⟩ := K4.call b6
  clear A7 A8 l7 l8 K3 K4
  go_wp2_with fail
  refine (asRule_any _ _ _ _ _ _ _).mono ?_
  rintro e w7 ⟨rfl, b7⟩
  clear A9 A10
  have bb : Below w.heap.size w w7 := by
    have c1 : Below w.heap.size w w2 := b1.trans (b2.mono b1.size)
    have c2 : Below w.heap.size w w3 := (c1.alloc c1.size _).trans (b3.mono (by have := c1.size; simp; omega))
    have c3 : Below w.heap.size w w4 := (c2.alloc c2.size _).trans (b4.mono (by have := c2.size; simp; omega))
    have c4 : Below w.heap.size w w5 := (c3.alloc c3.size _).trans (b5.mono (by have := c3.size; simp; omega))
    have c5 : Below w.heap.size w w6 := (c4.alloc c4.size _).trans (b6.mono (by have := c4.size; simp; omega))
    exact c5.trans (b7.mono c5.size)
  clear b1 b2 b3 b4 b5 b6 b7
  go_wp2_with fail
  refine (rOn x y _).mono ?_
  rintro e w8 ⟨rfl, rfl⟩
  go_wp2_with fail
  refine (refOn x y _).mono ?_
  rintro e w8 ⟨rfl, rfl⟩
  rcases H1 with h1 | h1
  · rw [h1]
    go_wp2_with fail
    refine (refOn x y _).mono ?_
    rintro e w8 ⟨rfl, rfl⟩
    rw [h1]
    go_wp2_with fail
    refine (refOn tx ty _).mono ?_
    rintro e w8 ⟨rfl, rfl⟩
    rcases HH.out with h2 | h2
    · rw [h2]
      obtain ⟨o1, o2, o3, o4⟩ := (onB_iff x y).1 h1
      obtain ⟨o5, o6, o7, o8⟩ := (onB_iff tx ty).1 h2
      go_wp2_with fail
      refine (rToward x y tx ty _ ⟨by omega, by omega⟩ ⟨by omega, by omega⟩ ⟨by omega, by omega⟩ ⟨by omega, by omega⟩).mono ?_
      rintro e w8 ⟨rfl, rfl⟩
      go_wp2_with fail
      refine (refToward x y tx ty _ ⟨by omega, by omega⟩ ⟨by omega, by omega⟩ ⟨by omega, by omega⟩ ⟨by omega, by omega⟩).mono ?_
      rintro e w8 ⟨rfl, rfl⟩
      go_wp2_with fail
      refine (rFar x y tx ty _ ⟨by omega, by omega⟩ ⟨by omega, by omega⟩ ⟨by omega, by omega⟩ ⟨by omega, by omega⟩).mono ?_
      rintro e w8 ⟨rfl, rfl⟩
      go_wp2_with fail
      refine (refFar x y tx ty _ ⟨by omega, by omega⟩ ⟨by omega, by omega⟩ ⟨by omega, by omega⟩ ⟨by omega, by omega⟩).mono ?_
      rintro e w8 ⟨rfl, rfl⟩
      go_wp2_with fail
      go_ret
      exact tb rfl bb
    · rw [h2]
      go_wp2_with fail
      go_ret
      exact tb rfl bb
  · rw [h1]
    go_wp2_with fail
    refine (refOn x y _).mono ?_
    rintro e w8 ⟨rfl, rfl⟩
    rw [h1]
    go_wp2_with fail
    go_ret
    exact tb rfl bb

set_option maxHeartbeats 1600000 in
theorem toprules_law (x y tx ty : Int) (w : World) :
    Calls Try.prog 7 #[.int .i64 x, .int .i64 y, .int .i64 tx, .int .i64 ty] w (TrueBelow w) := by
  have H1 : onB x y = true ∨ onB x y = false := by cases onB x y <;> simp
  have H2 : onB tx ty = true ∨ onB tx ty = false := by cases onB tx ty <;> simp
  have HH := Lib.hid H2
  have HI := Lib.hid H1
  clear H1 H2
  go_enter Try.func7, Try.ntmps7
  go_wp2_with fail
  refine (rElder 2 _).mono ?_
  rintro e w1 ⟨rfl, b1⟩
  have e1 : (ruleOf false 2).speed = 1 := by decide
  have e2 : isRule false 2 = true := by decide
  rw [e1, e2]
  clear e1 e2
  go_wp2_with fail
  refine (rOn x y _).mono ?_
  rintro e w8 ⟨rfl, rfl⟩
  rcases HI.out with h1 | h1
  · rw [h1]
    go_wp2_with fail
    refine (rOn tx ty _).mono ?_
    rintro e w8 ⟨rfl, rfl⟩
    rcases HH.out with h2 | h2
    · rw [h2]
      obtain ⟨o1, o2, o3, o4⟩ := (onB_iff x y).1 h1
      obtain ⟨o5, o6, o7, o8⟩ := (onB_iff tx ty).1 h2
      go_wp2_with fail
      refine (rFar x y tx ty _ ⟨by omega, by omega⟩ ⟨by omega, by omega⟩ ⟨by omega, by omega⟩ ⟨by omega, by omega⟩).mono ?_
      rintro e w8 ⟨rfl, rfl⟩
      go_wp2_with fail
      have bb : Below w.heap.size w (w1.alloc (.cells #[.int .i64 (ruleOf false 2).cost, .int .i64 (ruleOf false 2).hp, .int .i64 1, .int .i64 (ruleOf false 2).harm, .int .i64 (ruleOf false 2).range, .int .i64 (ruleOf false 2).load] 33)) := b1.alloc b1.size _
      generalize (w1.alloc (.cells #[.int .i64 (ruleOf false 2).cost, .int .i64 (ruleOf false 2).hp, .int .i64 1, .int .i64 (ruleOf false 2).harm, .int .i64 (ruleOf false 2).range, .int .i64 (ruleOf false 2).load] 33)) = w9 at *
      go_loop [0, 1, 11] (fun a b c => ∃ u v n : Int, a = .int .i64 u ∧ b = .int .i64 v ∧ c = .int .i64 n ∧ 0 ≤ u ∧ u < 12 ∧ 0 ≤ v ∧ v < 12 ∧ 0 ≤ n ∧ n ≤ 11 ∧ (far u v tx ty = n ∧ True)) (fun _ _ c => (intOf c).toNat)
      case atStart => exact ⟨x, y, _, rfl, rfl, rfl, o1, o2, o3, o4, far_nonneg _ _ _ _, far_le x y tx ty ⟨o1, o2⟩ ⟨o3, o4⟩ ⟨o5, o6⟩ ⟨o7, o8⟩, rfl, trivial⟩
      case round =>
        obtain ⟨u, v, n, rfl, rfl, rfl, p1, p2, p3, p4, p5, p6, hf⟩ := hrel
        have HF := Lib.hid hf.1
        clear hf
        by_cases hn : 0 < n
        · have hd := far_near1 u v tx ty (by rw [HF.out]; exact hn)
          rw [HF.out] at hd
          have HD := Lib.hid hd
          have hz := far_zero u v tx ty
          rw [HF.out] at hz
          have HZ := Lib.hid hz
          clear hd hz
          obtain ⟨q1, q2⟩ := near1_on u tx ⟨p1, p2⟩ ⟨o5, o6⟩
          obtain ⟨q3, q4⟩ := near1_on v ty ⟨p3, p4⟩ ⟨o7, o8⟩
          have hon : onB (near1 u tx) (near1 v ty) = true := (onB_iff _ _).2 ⟨q1, q2, q3, q4⟩
          have HO := Lib.hid hon
          clear hon
          go_wp2_with fail
          refine (rFar u v tx ty _ ⟨by omega, by omega⟩ ⟨by omega, by omega⟩ ⟨by omega, by omega⟩ ⟨by omega, by omega⟩).mono ?_
          rintro e w8 ⟨rfl, rfl⟩
          rw [HF.out]
          by_cases hu : u = tx
          · have hv : (v == ty) = false := by
              simp
              intro e
              have := HZ.out.2 ⟨hu, e⟩
              omega
            have hu' : (u == tx) = true := by simp [hu]
            have HU := Lib.hid hu
            clear hu
            go_wp2_with fail
            refine (rToward u v tx ty _ ⟨by omega, by omega⟩ ⟨by omega, by omega⟩ ⟨by omega, by omega⟩ ⟨by omega, by omega⟩).mono ?_
            rintro e w8 ⟨rfl, rfl⟩
            go_wp2_with fail
            refine (rOn _ _ _).mono ?_
            rintro e w8 ⟨rfl, rfl⟩
            rw [HO.out]
            go_wp2_with fail
            go_round
            case rel => exact ⟨_, _, n - 1, rfl, rfl, rfl, q1, q2, q3, q4, by omega, by omega, HD.out, trivial⟩
            case measure => simp [intOf]; omega
          · have hu' : (u == tx) = false := by simp [hu]
            clear hu
            go_wp2_with fail
            refine (rToward u v tx ty _ ⟨by omega, by omega⟩ ⟨by omega, by omega⟩ ⟨by omega, by omega⟩ ⟨by omega, by omega⟩).mono ?_
            rintro e w8 ⟨rfl, rfl⟩
            go_wp2_with fail
            refine (rOn _ _ _).mono ?_
            rintro e w8 ⟨rfl, rfl⟩
            rw [HO.out]
            go_wp2_with fail
            go_round
            case rel => exact ⟨_, _, n - 1, rfl, rfl, rfl, q1, q2, q3, q4, by omega, by omega, HD.out, trivial⟩
            case measure => simp [intOf]; omega
        · obtain rfl : n = 0 := by omega
          obtain ⟨rfl, rfl⟩ := (far_zero u v tx ty).1 HF.out
          go_wp2_with fail
          refine (rFar u v u v _ ⟨by omega, by omega⟩ ⟨by omega, by omega⟩ ⟨by omega, by omega⟩ ⟨by omega, by omega⟩).mono ?_
          rintro e w8 ⟨rfl, rfl⟩
          rw [HF.out]
          go_wp2_with fail
          go_ret
          exact tb rfl bb
    · rw [h2]
      go_wp2_with fail
      go_ret
      exact tb rfl (b1.alloc b1.size _)
  · rw [h1]
    go_wp2_with fail
    go_ret
    exact tb rfl (b1.alloc b1.size _)
end Go.Proofs.Ytlfljlhppigejaa
