/-
  The walks of sort.Search at the program's two closures.
-/
import Derived.Test.YtlfljlhppigejabProg
import Derived.Test.YtlfljlhppigejabWords
import Derived.Outline
namespace Go.Proofs.Ytlfljlhppigejab
open Go.RowKit

/-- What the search hands back: the first place of which it is so, where it goes over but once. -/
def SearchEnd (n : Nat) (d : Nat → Bool) (Inv : World → Prop) (e : Ending) (w' : World) : Prop :=
  ∃ i : Nat, e = .returned (.int .i64 i) ∧ i ≤ n ∧ (i < n → d i = true) ∧ (0 < i → d (i - 1) = false) ∧ Inv w'

set_option maxHeartbeats 800000 in
set_option maxRecDepth 100000 in
theorem search_at (p0 p1 : Value) (n : Nat) (hn : n ≤ 1000000) (d : Nat → Bool) (Inv : World → Prop)
    (hcl : Hid (∀ (i : Nat) (W : World), i < n → Inv W → Calls Try.prog 125 #[.int .i64 i, p0, p1] W fun e W' => e = .returned (.bool (d i)) ∧ Inv W'))
    (w : World) (h0 : Hid (Inv w)) :
    Calls Try.prog 124 #[.int .i64 n, .func (.func 125) #[] #[p0, p1]] w (SearchEnd n d Inv) := by
  go_enter Try.func124, Try.ntmps124
  go_wp2_with fail
  go_loopw [5, 6] (fun a b wr => ∃ i j : Nat, a = .int .i64 i ∧ b = .int .i64 j ∧ i ≤ j ∧ j ≤ n ∧ ((j < n → d j = true) ∧ (0 < i → d (i - 1) = false) ∧ Inv wr)) (fun a b _ => (intOf b - intOf a).toNat)
  case atStart => exact ⟨0, n, rfl, rfl, by omega, by omega, fun h => absurd h (by omega), fun h => absurd h (by omega), h0.out⟩
  case round =>
    obtain ⟨i, j, rfl, rfl, hij, hjn, hX⟩ := hrel
    have HX := Lib.hid hX
    clear hX h0
    by_cases hlt : i < j
    · have hm : (i + j) / 2 < n := by omega
      go_wp2_with fail
      rw [show (((i : Int) + (j : Int)) / 2) = (((i + j) / 2 : Nat) : Int) from by omega]
      refine (hcl.out ((i + j) / 2) _ hm HX.out.2.2).mono ?_
      rintro e w2 ⟨rfl, h2⟩
      have H2 := Lib.hid h2
      clear h2
      by_cases hd : d ((i + j) / 2) = true
      · rw [hd]
        have HD := Lib.hid hd
        clear hd
        go_wp2_with fail
        go_roundw
        case rel => exact ⟨i, (i + j) / 2, rfl, rfl, by omega, by omega, fun _ => HD.out, HX.out.2.1, H2.out⟩
        case measure => simp [intOf]; omega
      · rw [Bool.eq_false_iff.2 hd]
        have HD := Lib.hid hd
        clear hd
        go_wp2_with fail
        go_roundw
        case rel => exact ⟨(i + j) / 2 + 1, j, by go_num, rfl, by omega, by omega, HX.out.1, fun _ => Bool.eq_false_iff.2 HD.out, H2.out⟩
        case measure => simp [intOf]; omega
    · obtain rfl : i = j := by omega
      go_wp2_with fail
      go_ret
      exact ⟨i, rfl, hjn, HX.out.1, HX.out.2.1, HX.out.2.2⟩

set_option maxHeartbeats 800000 in
set_option maxRecDepth 100000 in
theorem search_build (p0 p1 : Value) (n : Nat) (hn : n ≤ 1000000) (d : Nat → Bool) (Inv : World → Prop)
    (hcl : Hid (∀ (i : Nat) (W : World), i < n → Inv W → Calls Try.prog 128 #[.int .i64 i, p0, p1] W fun e W' => e = .returned (.bool (d i)) ∧ Inv W'))
    (w : World) (h0 : Hid (Inv w)) :
    Calls Try.prog 124 #[.int .i64 n, .func (.func 128) #[] #[p0, p1]] w (SearchEnd n d Inv) := by
  go_enter Try.func124, Try.ntmps124
  go_wp2_with fail
  go_loopw [5, 6] (fun a b wr => ∃ i j : Nat, a = .int .i64 i ∧ b = .int .i64 j ∧ i ≤ j ∧ j ≤ n ∧ ((j < n → d j = true) ∧ (0 < i → d (i - 1) = false) ∧ Inv wr)) (fun a b _ => (intOf b - intOf a).toNat)
  case atStart => exact ⟨0, n, rfl, rfl, by omega, by omega, fun h => absurd h (by omega), fun h => absurd h (by omega), h0.out⟩
  case round =>
    obtain ⟨i, j, rfl, rfl, hij, hjn, hX⟩ := hrel
    have HX := Lib.hid hX
    clear hX h0
    by_cases hlt : i < j
    · have hm : (i + j) / 2 < n := by omega
      go_wp2_with fail
      rw [show (((i : Int) + (j : Int)) / 2) = (((i + j) / 2 : Nat) : Int) from by omega]
      refine (hcl.out ((i + j) / 2) _ hm HX.out.2.2).mono ?_
      rintro e w2 ⟨rfl, h2⟩
      have H2 := Lib.hid h2
      clear h2
      by_cases hd : d ((i + j) / 2) = true
      · rw [hd]
        have HD := Lib.hid hd
        clear hd
        go_wp2_with fail
        go_roundw
        case rel => exact ⟨i, (i + j) / 2, rfl, rfl, by omega, by omega, fun _ => HD.out, HX.out.2.1, H2.out⟩
        case measure => simp [intOf]; omega
      · rw [Bool.eq_false_iff.2 hd]
        have HD := Lib.hid hd
        clear hd
        go_wp2_with fail
        go_roundw
        case rel => exact ⟨(i + j) / 2 + 1, j, by go_num, rfl, by omega, by omega, HX.out.1, fun _ => Bool.eq_false_iff.2 HD.out, H2.out⟩
        case measure => simp [intOf]; omega
    · obtain rfl : i = j := by omega
      go_wp2_with fail
      go_ret
      exact ⟨i, rfl, hjn, HX.out.1, HX.out.2.1, HX.out.2.2⟩

end Go.Proofs.Ytlfljlhppigejab
