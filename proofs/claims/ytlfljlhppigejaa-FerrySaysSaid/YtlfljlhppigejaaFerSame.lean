/-
  SameReel of two reels of nothing; the closed fact of the law FerrySays. (Printed by gen_fersame.py.)
-/
import Derived.Test.YtlfljlhppigejaaFerTrans
import Derived.Test.YtlfljlhppigejaaRefSame
import Derived.Test.YtlfljlhppigejaaPackWire
namespace Go.Proofs.Ytlfljlhppigejaa
open Go.RowKit
attribute [local go_sem] qOne qAt qUp qOneK

set_option maxHeartbeats 1600000 in
set_option maxRecDepth 100000 in
theorem samereel_zero (w : World) : Calls Try.prog 76 #[.agg #[.int .i64 0, .int .i64 0, .int .i64 0, .int .i64 0, .slice none 0 0, .slice none 0 0], .agg #[.int .i64 0, .int .i64 0, .int .i64 0, .int .i64 0, .slice none 0 0, .slice none 0 0]] w (TrueBelow w) := by
  obtain ⟨W, hW⟩ : ∃ W, (w.alloc (.cells #[.int .i64 0, .int .i64 0, .int .i64 0, .int .i64 0, .slice none 0 0, .slice none 0 0] 69)).alloc (.cells #[.int .i64 0, .int .i64 0, .int .i64 0, .int .i64 0, .slice none 0 0, .slice none 0 0] 69) = W := ⟨_, rfl⟩
  have hbW : Below w.heap.size w W := by rw [← hW]; exact ((Below.refl _ _).alloc (Nat.le_refl _) _).alloc (by simp) _
  have k1 : Blk W w.heap.size #[.int .i64 0, .int .i64 0, .int .i64 0, .int .i64 0, .slice none 0 0, .slice none 0 0] := by rw [← hW]; exact (Blk.new w _ _).alloc _
  have k2 : Blk W (w.heap.size + 1) #[.int .i64 0, .int .i64 0, .int .i64 0, .int .i64 0, .slice none 0 0, .slice none 0 0] := by
    rw [← hW]
    have := Blk.new (w.alloc (.cells #[.int .i64 0, .int .i64 0, .int .i64 0, .int .i64 0, .slice none 0 0, .slice none 0 0] 69)) #[.int .i64 0, .int .i64 0, .int .i64 0, .int .i64 0, .slice none 0 0, .slice none 0 0] 69
    simpa using this
  have HBW := Lib.hid hbW
  obtain ⟨l1, c1, -⟩ := k1
  obtain ⟨l2, c2, -⟩ := k2
  clear hbW
  go_enter Try.func76, Try.ntmps76
  go_upto_region 1 with fail
  try rw [hW]
  clear hW
  go_wp2_with fail
  go_loop [5] (fun i => i = .int .i64 0) (fun _ => 0)
  case atStart => rfl
  case round =>
    subst hrel
    go_wp2_with fail
    refine (samenewer_any 0 0 0 0 [] none none 0 0 (by show (0 : Nat) ≤ _; omega) _ (fun k hk => absurd hk (Nat.not_lt_zero k)) (fun k hk => absurd hk (Nat.not_lt_zero k))).mono ?_
    rintro e w' ⟨rfl, hb⟩
    go_wp2_with fail
    go_ret
    exact ⟨rfl, HBW.out.trans (hb.mono HBW.out.size)⟩

def uF : U := ⟨2, 0, 1, 3, 4, 5, 0, 0, 0, 0, 0⟩
def gF : G := ⟨false, 0, 0, 0, 3, [1], [uF]⟩
theorem gF0 : faultOf gF = 0 := by kernel_rfl
theorem gF1 : fitsB gF = true := by kernel_rfl
set_option maxHeartbeats 3200000 in
set_option maxRecDepth 100000 in
theorem carries_any (w : World) : Calls Try.prog 71 #[] w (TrueBelow w) := by
  obtain ⟨V, hV⟩ : ∃ V, (w.alloc (.cells #[.int .i64 1] 3)).alloc (.cells #[.int .i64 2, .int .i64 0, .int .i64 1, .int .i64 3, .int .i64 4, .int .i64 5, .int .i64 0, .int .i64 0, .int .i64 0, .int .i64 0] 179) = V := ⟨_, rfl⟩
  have hbV : Below w.heap.size w V := by rw [← hV]; exact ((Below.refl _ _).alloc (Nat.le_refl _) _).alloc (by simp) _
  have k1 : Blk V w.heap.size #[.int .i64 1] := by rw [← hV]; exact (Blk.new w _ _).alloc _
  have k2 : Blk V (w.heap.size + 1) #[.int .i64 2, .int .i64 0, .int .i64 1, .int .i64 3, .int .i64 4, .int .i64 5, .int .i64 0, .int .i64 0, .int .i64 0, .int .i64 0] := by
    rw [← hV]
    have := Blk.new (w.alloc (.cells #[.int .i64 1] 3)) #[.int .i64 2, .int .i64 0, .int .i64 1, .int .i64 3, .int .i64 4, .int .i64 5, .int .i64 0, .int .i64 0, .int .i64 0, .int .i64 0] 179
    simpa using this
  have hf : Row V.heap.size V (some ⟨w.heap.size, 0, none⟩) gF.free.length (fun k => .int .i64 (gF.free.getD k 0)) := fun i hi => by
    have hi0 : i = 0 := by have : i < 1 := hi; omega
    subst hi0
    exact ⟨w.heap.size, 0, rfl, k1.lt, by rw [k1.cell]; rfl⟩
  have hu : URow false V.heap.size V (some ⟨w.heap.size + 1, 0, none⟩) gF.us := fun i hi => by
    have hi0 : i = 0 := by have : i < 1 := hi; omega
    subst hi0
    refine ⟨w.heap.size + 1, 0, rfl, k2.lt, fun j hj => ?_⟩
    rw [show 0 + 0 * szOf false + j = j by omega, k2.cell]
    show (#[.int .i64 2, .int .i64 0, .int .i64 1, .int .i64 3, .int .i64 4, .int .i64 5, .int .i64 0, .int .i64 0, .int .i64 0, .int .i64 0] : Array Value)[j]? = (cellsE uF)[j]?
    simp [cellsE, uF]
  have HC := Lib.hid (carryout_any gF (some ⟨w.heap.size, 0, none⟩) (some ⟨w.heap.size + 1, 0, none⟩) 1 1 rfl (by show (1 : Nat) ≤ _; omega) (by show (1 : Nat) ≤ _; omega) V hf hu (fun n hn => by
    have : n = 1 := by simpa [gF] using hn
    subst this
    exact ⟨by decide, by decide⟩))
  have HBV := Lib.hid hbV
  clear k1 k2 hf hu hbV
  go_enter Try.func71, Try.ntmps71
  go_wp2_with fail
  try rw [hV]
  clear hV
  refine HC.out.mono ?_
  rintro e w1 ⟨err, b1, hcase⟩
  rcases hcase with ⟨hne, -⟩ | ⟨-, hff, -⟩ | ⟨-, -, rfl, ub, cb, he, own⟩
  · exact absurd gF0 hne
  · rw [gF1] at hff; cases hff
  replace he : e = .returned (.tuple #[.agg #[.int .i64 0, .int .i64 0, .int .i64 0, .int .i64 2, .slice ub 1 cb], .nilIface]) := he
  subst he
  obtain ⟨vb, vcb, vce, -, hvu, -⟩ := URow.of_ownN (us := (carryG gF).us) own
  cases vce
  obtain ⟨b, o, rfl, hbB, q0, -⟩ := hvu.getN 0 (by show 0 < 1; omega) _ rfl
  replace q0 : w1.cell? ⟨b, o + 0 * 11, none⟩ = some (.int .i64 1) := q0
  rw [Nat.zero_mul, Nat.add_zero] at q0
  have HB1 := Lib.hid (HBV.out.trans (b1.mono HBV.out.size))
  clear own hvu b1
  go_upto_region 2 with fail
  refine gen_world (fun Z => Below w1.heap.size w1 Z ∧ Blk Z w1.heap.size #[.int .i64 0, .int .i64 0, .int .i64 0, .int .i64 2, .slice (some ⟨b, o, none⟩) 1 cb]) ⟨(Below.refl _ _).alloc (Nat.le_refl _) _, Blk.new _ _ _⟩ ?_
  rintro w2 ⟨b2, kX⟩
  obtain ⟨pX, hpX⟩ : ∃ n, w1.heap.size = n := ⟨_, rfl⟩
  have q2 := (b2.cell (p := ⟨b, o, none⟩) hbB).trans q0
  have hb2 : b < w2.heap.size := by have := b2.size; omega
  have HB2 := Lib.hid (HB1.out.trans (b2.mono HB1.out.size))
  have hs := same_any 0 0 w2
  rw [errV_zero] at hs
  replace hs : Calls Try.prog 31 #[.nilIface, .int .i64 0] w2 fun e w' => e = .returned (.bool true) ∧ w2 = w' := hs
  have HS := Lib.hid hs
  rw [hpX] at kX
  try rw [hpX]
  obtain ⟨lX, cX, -⟩ := kX
  clear hs b2 hpX q0
  go_wp2_with fail
  refine HS.out.mono ?_
  rintro e y ⟨rfl, rfl⟩
  go_wp2_with fail
  go_ret
  exact ⟨rfl, HB2.out⟩
end Go.Proofs.Ytlfljlhppigejaa
