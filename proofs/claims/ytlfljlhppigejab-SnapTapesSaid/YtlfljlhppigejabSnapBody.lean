/-
  The walk of snap.body.
-/
import Derived.Test.YtlfljlhppigejabPackIn
namespace Go.Proofs.Ytlfljlhppigejab
open Go.RowKit

set_option maxHeartbeats 1600000 in
set_option maxRecDepth 100000 in
theorem body_any (k : UInt8) (s : ByteArray) (hs : s.size ≤ 900000) (w : World) :
    Calls Try.prog 56 #[.int .u8 (k.toNat : Int), .string s] w fun e w' => ∃ S, e = .returned (.pointer (some ⟨S, 0, none⟩)) ∧ w.heap.size ≤ S ∧ Blk w' S (inC (openL k s.data.toList)) ∧ Below w.heap.size w w' := by
  obtain ⟨r, hr⟩ : ∃ r, openL k s.data.toList = r := ⟨_, rfl⟩
  have HR := Lib.hid hr
  have HO := Lib.hid (open_any k s hs w)
  rw [hr]
  clear hr
  go_enter Try.func56, Try.ntmps56
  go_wp2_with fail
  refine (HO.out).mono ?_
  rintro e w1 ⟨rfl, b1⟩
  rw [HR.out]
  obtain ⟨l, f⟩ := r
  have B1 := Lib.hid b1
  have hs1 := b1.size
  clear b1
  dsimp only
  by_cases hf : f = 0
  · subst hf
    rw [errV_zero]
    go_wp2_with fail
    go_ret
    exact ⟨w1.heap.size, rfl, hs1, Blk.new w1 #[.string (bstr l), .nilIface] _, B1.out.alloc hs1 _⟩
  · have HF := Lib.hid hf
    rw [errV_pos _ hf]
    clear hf
    go_wp2_with fail
    go_ret
    refine ⟨w1.heap.size, rfl, hs1, ?_, B1.out.alloc hs1 _⟩
    unfold inC
    dsimp only
    rw [errV_pos _ HF.out]
    exact Blk.new w1 _ _
end Go.Proofs.Ytlfljlhppigejab
