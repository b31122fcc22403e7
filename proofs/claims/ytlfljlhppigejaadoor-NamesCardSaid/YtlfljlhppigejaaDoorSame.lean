/-
  The walk of the document's SameNumbers: two lists of numbers.
-/
import Derived.Test.YtlfljlhppigejaaDoorProg
import Derived.Test.YtlfljlhppigejaaDoorWords
import Derived.BigQuiet
import Derived.Deep.QuietTactic
import Derived.Outline
namespace Go.Proofs.YtlfljlhppigejaaDoor
open Go.RowKit

theorem list_ext0 {A B : List Int} (hl : A.length = B.length) (h : ∀ i, i < A.length → A.getD i 0 = B.getD i 0) : A = B := by
  apply List.ext_getElem hl
  intro i h1 h2
  have := h i h1
  simpa [List.getD, h1, h2] using this

set_option maxHeartbeats 800000 in
set_option maxRecDepth 100000 in
theorem samenums_any (a b : Option Addr) (na ca nb cb : Nat) (A B : List Int) (hA : A.length = na) (hB : B.length = nb) (hm : na ≤ 1000000) (w : World)
    (ra : Row w.heap.size w a na (fun k => .int .i64 (A.getD k 0))) (rb : Row w.heap.size w b nb (fun k => .int .i64 (B.getD k 0))) :
    Calls Tryd.prog 5 #[.slice a na ca, .slice b nb cb] w fun e w' => e = .returned (.bool (decide (A = B))) ∧ Below w.heap.size w w' := by
  have HA := Lib.hid hA
  have HB := Lib.hid hB
  have RA := Lib.hid ra
  have RB := Lib.hid rb
  clear hA hB ra rb
  by_cases hn : na = nb
  · subst hn
    obtain ⟨R, hR⟩ : ∃ R, decide (A = B) = R := ⟨_, rfl⟩
    rw [hR]
    have HR := Lib.hid hR
    clear hR
    go_enter Tryd.func5, Tryd.ntmps5
    go_wp2_with fail
    go_loopw [5] (fun c wr => ∃ k : Nat, c = .int .i64 k ∧ k ≤ na ∧ ((∀ i, i < k → A.getD i 0 = B.getD i 0) ∧ Below w.heap.size w wr)) (fun c _ => (na - intOf c).toNat)
    case atStart => exact ⟨0, rfl, by omega, fun i h => absurd h (by omega), Below.refl _ _⟩
    case round =>
      obtain ⟨k, rfl, hk, hX⟩ := hrel
      have HX := Lib.hid hX
      clear hX
      by_cases hlt : k < na
      · obtain ⟨b1, o1, rfl, hlt1, hx1⟩ := (RA.out.below HX.out.2) k hlt
        obtain ⟨b2, o2, rfl, hlt2, hx2⟩ := (RB.out.below HX.out.2) k hlt
        obtain ⟨x, hx⟩ : ∃ x, A.getD k 0 = x := ⟨_, rfl⟩
        obtain ⟨y, hy⟩ : ∃ y, B.getD k 0 = y := ⟨_, rfl⟩
        simp only [hx] at hx1
        simp only [hy] at hx2
        have HXX := Lib.hid hx
        have HYY := Lib.hid hy
        clear hx hy
        by_cases hxy : x = y
        · have e1 : (x != y) = false := by simp [hxy]
          have HXY := Lib.hid hxy
          clear hxy
          go_wp2
          go_quiet (fail)
          go_wp2
          go_roundw
          case rel =>
            refine ⟨k + 1, by go_num, by omega, ?_, below_drewN HX.out.2 _⟩
            intro i hi
            by_cases hik : i = k
            · rw [hik, HXX.out, HYY.out]; exact HXY.out
            · exact HX.out.1 i (by omega)
          case measure => simp [intOf]; omega
        · have e1 : (x != y) = true := by simp [hxy]
          have HXY := Lib.hid hxy
          clear hxy
          go_wp2
          go_quiet (fail)
          go_wp2
          go_ret
          refine ⟨ret1 (boolv ?_), below_drewN HX.out.2 _⟩
          rw [← HR.out]
          simp only [Bool.false_eq, decide_eq_false_iff_not]
          intro e
          subst e
          exact HXY.out (HXX.out.symm.trans HYY.out)
      · go_wp2
        go_ret
        refine ⟨ret1 (boolv ?_), HX.out.2⟩
        rw [← HR.out]
        simp only [Bool.true_eq, decide_eq_true_eq]
        exact list_ext0 (by rw [HA.out, HB.out]) (fun i hi => HX.out.1 i (by rw [HA.out] at hi; omega))
  · have hne : ((na : Int) != (nb : Int)) = true := by simp; omega
    have HN := Lib.hid hn
    clear hn
    go_enter Tryd.func5, Tryd.ntmps5
    go_wp2_with fail
    go_ret
    refine ⟨ret1 (boolv ?_), Below.refl _ _⟩
    simp only [Bool.false_eq, decide_eq_false_iff_not]
    intro e
    exact HN.out (by rw [← HA.out, ← HB.out, e])
end Go.Proofs.YtlfljlhppigejaaDoor
