/-
  Bits of the model's integers as words of 32 bits. No program in sight. The walks of chapter 1: package wire, and the document's answer. The walks of package wire: Take, Num, Frame, Open. The walks of the document's Num and Framed; errors held against numbers.
-/
import Derived.Test.YtlfljlhppigejabPackPure
import Derived.WalkKit
import Derived.Laws.BitsLemmas
import Derived.Lib.EndianBits
import Derived.IntWalk
import Derived.Test.YtlfljlhppigejabProg
import Derived.Test.YtlfljlhppigejabPackBase
import Derived.BigQuiet
import Derived.Deep.QuietTactic
import Derived.Laws.IdiomStrings
import Derived.Outline
import Derived.Test.YtlfljlhppigejabPackMaps
import Derived.Lib.IndexBytes
import Derived.Laws.DeepStrings4
import Derived.RegionTactic
namespace Go.Proofs.Ytlfljlhppigejab
open Go
open Go.RowKit (wrap64)

end Go.Proofs.Ytlfljlhppigejab
namespace Go.Proofs.Ytlfljlhppigejab
open Go.RowKit

end Go.Proofs.Ytlfljlhppigejab
namespace Go.Proofs.Ytlfljlhppigejab
open Go.RowKit

/-- What Take hands back. -/
def TakeEnd (l : List UInt8) (w : World) (e : Ending) (w' : World) : Prop :=
  e = .returned (.tuple #[.int .i64 ((takeL l).1 : Nat), .string (bstr (takeL l).2.1), errV (takeL l).2.2]) ∧ Below w.heap.size w w'
theorem TakeEnd.mk {l : List UInt8} {w w' : World} {r : Nat × List UInt8 × Nat} {a b c : Value} (h : takeL l = r) (h1 : a = .int .i64 (r.1 : Nat)) (h2 : b = .string (bstr r.2.1)) (h3 : c = errV r.2.2) (hb : Below w.heap.size w w') :
    TakeEnd l w (.returned (.tuple #[a, b, c])) w' := by
  unfold TakeEnd
  rw [h, h1, h2, h3]
  exact ⟨rfl, hb⟩

end Go.Proofs.Ytlfljlhppigejab
namespace Go.Proofs.Ytlfljlhppigejab
open Go.RowKit

end Go.Proofs.Ytlfljlhppigejab
namespace Go.Proofs.Ytlfljlhppigejab
open Go.RowKit

/-- What Open hands back. -/
def OpenEnd (k : UInt8) (l : List UInt8) (w : World) (e : Ending) (w' : World) : Prop :=
  e = .returned (.tuple #[.string (bstr (openL k l).1), errV (openL k l).2]) ∧ Below w.heap.size w w'
theorem OpenEnd.mk {k : UInt8} {l : List UInt8} {w w' : World} {r : List UInt8 × Nat} {a b : Value} (h : openL k l = r) (h1 : a = .string (bstr r.1)) (h2 : b = errV r.2) (hb : Below w.heap.size w w') :
    OpenEnd k l w (.returned (.tuple #[a, b])) w' := by
  unfold OpenEnd
  rw [h, h1, h2]
  exact ⟨rfl, hb⟩
end Go.Proofs.Ytlfljlhppigejab
namespace Go.Proofs.Ytlfljlhppigejab
open Go.RowKit

theorem same_nil (f : Int) (w : World) : Calls Try.prog 13 #[.nilIface, .int .i64 f] w fun e w' => e = .returned (.bool (f == 0)) ∧ w = w' := by
  go_enter Try.func13, Try.ntmps13
  go_wp2_with fail
  go_ret
  exact ⟨rfl, rfl⟩
theorem assert_errno (n : Int) (w : World) : (Instr.typeAssert (.iface 112 (.int .i64 n)) 40 112 true).run Try.prog w = .ok (.tuple #[.int .i64 n, .bool true]) w := by kernel_rfl
set_option maxRecDepth 100000 in
theorem same_err (n f : Int) (hn : 0 < n) (w : World) : Calls Try.prog 13 #[.iface 112 (.int .i64 n), .int .i64 f] w fun e w' => e = .returned (.bool (n == f)) ∧ w = w' := by
  have ha := assert_errno n w
  go_enter Try.func13, Try.ntmps13
  go_wp2_with fail
  all_goals (go_ret; exact ⟨ret1 (boolv (by first | rfl | (simp; omega))), rfl⟩)
/-- An error held against its own number. -/
theorem same_any (n f : Nat) (w : World) : Calls Try.prog 13 #[errV n, .int .i64 f] w fun e w' => e = .returned (.bool (n == f)) ∧ w = w' := by
  by_cases h : n = 0
  · subst h
    rw [errV_zero]
    refine (same_nil f w).mono ?_
    rintro e w' ⟨rfl, rfl⟩
    exact ⟨ret1 (boolv (by rw [Bool.eq_iff_iff]; simp; omega)), rfl⟩
  · rw [errV_pos n h]
    refine (same_err n f (by omega) w).mono ?_
    rintro e w' ⟨rfl, rfl⟩
    exact ⟨ret1 (boolv (by rw [Bool.eq_iff_iff]; simp; omega)), rfl⟩
end Go.Proofs.Ytlfljlhppigejab
