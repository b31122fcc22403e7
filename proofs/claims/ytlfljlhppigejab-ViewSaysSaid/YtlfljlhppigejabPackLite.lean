/-
  The walk of what statements ask of an elder state's size. The closed fact of the law ViewSays: a worker is seen.
-/
import Derived.Test.YtlfljlhppigejabElderGame
import Derived.Test.YtlfljlhppigejabPackSmall
import Derived.Test.YtlfljlhppigejabPackMaps
import Derived.Test.YtlfljlhppigejabViewAll
import Derived.Test.YtlfljlhppigejabPackSame
import Derived.Test.YtlfljlhppigejabPackWire
namespace Go.Proofs.Ytlfljlhppigejab
open Go.RowKit

set_option maxHeartbeats 1600000 in
theorem lightelder_any (g : G) (fa ua : Option Addr) (cf cu : Nat) (w : World) :
    Calls Try.prog 26 #[.agg #[.int .i64 g.tick, .int .i64 g.g0, .int .i64 g.g1, .int .i64 g.next, .slice fa g.free.length cf, .slice ua g.us.length cu]] w fun e w' => ∃ b : Bool, e = .returned (.bool b) ∧ (b = true ↔ g.us.length ≤ 25 ∧ g.free.length ≤ 220) ∧ Below w.heap.size w w' := by
  by_cases h1 : g.us.length ≤ 25
  · have d1 : decide ((g.us.length : Int) ≤ 25) = true := decide_eq_true (by omega)
    have H1 := Lib.hid h1
    clear h1
    go_enter Try.func26, Try.ntmps26
    go_wp2_with fail
    go_ret
    exact ⟨_, rfl, by simp; have := H1.out; omega, (Below.refl _ _).alloc (Nat.le_refl _) _⟩
  · have d1 : decide ((g.us.length : Int) ≤ 25) = false := decide_eq_false (by omega)
    have H1 := Lib.hid h1
    clear h1
    go_enter Try.func26, Try.ntmps26
    go_wp2_with fail
    go_ret
    exact ⟨_, rfl, by simp; intro h; exact absurd h H1.out, (Below.refl _ _).alloc (Nat.le_refl _) _⟩
end Go.Proofs.Ytlfljlhppigejab
namespace Go.Proofs.Ytlfljlhppigejab
open Go.RowKit
attribute [local go_sem] qOne qAt qUp qOneK

def uL : U := ⟨1, 0, 1, 3, 4, 5, 0, 0, 0, 0, 0⟩
def gL : G := ⟨false, 0, 0, 0, 2, [], [uL]⟩
def sL : Sn := ⟨3, 4, 0, 1, 5, 0, 0, 0, -1, -1⟩
theorem faultL : faultOf gL = 0 := by kernel_rfl
theorem seenL : gL.us.map (seenF gL.us) = [sL] := by kernel_rfl

set_option maxHeartbeats 3200000 in
set_option maxRecDepth 100000 in
theorem looks_any (w : World) : Calls Try.prog 25 #[] w (TrueBelow w) := by
  have hb : Below w.heap.size w (w.alloc (.cells (cellsE uL).toArray 83)) := (Below.refl _ _).alloc (Nat.le_refl _) _
  have k0 : Blk (w.alloc (.cells (cellsE uL).toArray 83)) w.heap.size (cellsE uL).toArray := Blk.new w _ _
  have hrU : URow false (w.alloc (.cells (cellsE uL).toArray 83)).heap.size (w.alloc (.cells (cellsE uL).toArray 83)) (some ⟨w.heap.size, 0, none⟩) gL.us := fun i hi => by
    have hi0 : i = 0 := by have : i < 1 := hi; omega
    subst hi0
    refine ⟨w.heap.size, 0, rfl, by have := k0.lt; simp, fun j hj => ?_⟩
    rw [k0.cell, show 0 + 0 * szOf false + j = j by omega]
    show (cellsE uL).toArray[j]? = (cellsE uL)[j]?
    simp
  have HV := Lib.hid (view_any gL none (some ⟨w.heap.size, 0, none⟩) 0 1 rfl (by show (0 : Nat) ≤ _; omega) (by show (1 : Nat) ≤ _; omega) _ (fun k hk => absurd hk (Nat.not_lt_zero k)) hrU (fun n hn => by cases hn))
  have HB := Lib.hid hb
  have heu : ∀ W : World, (Op.equalIn 10000 136 (.agg #[.int .i64 3, .int .i64 4, .int .i64 0, .int .i64 1, .int .i64 5, .int .i64 0, .int .i64 0, .int .i64 0, .int .i64 (-1), .int .i64 (-1)]) (.agg #[.int .i64 3, .int .i64 4, .int .i64 0, .int .i64 1, .int .i64 5, .int .i64 0, .int .i64 0, .int .i64 0, .int .i64 (-1), .int .i64 (-1)])).run Try.prog W = .ok true W := fun W => by
    have := seen_eqn sL sL W
    rw [decide_eq_true rfl] at this
    exact this
  clear hb k0 hrU
  go_enter Try.func25, Try.ntmps25
  go_wp2_with fail
  refine HV.out.mono ?_
  rintro e x ⟨hbx, hcase⟩
  rcases hcase with ⟨h, -⟩ | ⟨-, a, c, ys, rfl, hl, hp, -, hrow⟩
  · exact absurd faultL h
  have hys : ys = [sL] := by rw [seenL] at hp; exact List.perm_singleton.1 hp
  subst hys
  obtain ⟨b, o, rfl, hbB, q0, q1, q2, q3, q4, q5, q6, q7, q8, q9⟩ := hrow.get 0 (by show 0 < 1; omega) sL rfl
  have HBX := Lib.hid (HB.out.trans (hbx.mono HB.out.size))
  have p0 : x.cell? ⟨b, o, none⟩ = some (.int .i64 3) := q0
  have p1 : x.cell? ⟨b, o + 1, none⟩ = some (.int .i64 4) := q1
  have p2 : x.cell? ⟨b, o + 2, none⟩ = some (.int .i64 0) := q2
  have p3 : x.cell? ⟨b, o + 3, none⟩ = some (.int .i64 1) := q3
  have p4 : x.cell? ⟨b, o + 4, none⟩ = some (.int .i64 5) := q4
  have p5 : x.cell? ⟨b, o + 5, none⟩ = some (.int .i64 0) := q5
  have p6 : x.cell? ⟨b, o + 6, none⟩ = some (.int .i64 0) := q6
  have p7 : x.cell? ⟨b, o + 7, none⟩ = some (.int .i64 0) := q7
  have p8 : x.cell? ⟨b, o + 8, none⟩ = some (.int .i64 (-1)) := q8
  have p9 : x.cell? ⟨b, o + 9, none⟩ = some (.int .i64 (-1)) := q9
  clear q0 q1 q2 q3 q4 q5 q6 q7 q8 q9 hbx hp hl hrow
  go_wp2_with fail
  refine (same_any 0 0 _).mono ?_
  rintro e y ⟨rfl, rfl⟩
  go_wp2_with fail
  go_ret
  exact ⟨rfl, HBX.out.alloc HBX.out.size _⟩
end Go.Proofs.Ytlfljlhppigejab
