/-
  The walks of the document's Same: two states that are equal.
-/
import Derived.Test.YtlfljlhppigejaaNewFuncs
import Derived.Test.YtlfljlhppigejaaCmdRow
import Derived.BigQuiet
import Derived.Deep.QuietTactic
import Derived.ChangeKeysEq
import Derived.Laws.StructEq
namespace Go.Proofs.Ytlfljlhppigejaa
open Go.RowKit

theorem eq_int (x : Int) (w : World) : (Op.equalIn 9999 3 (.int .i64 x) (.int .i64 x)).run Try.prog w = .ok true w := by
  rw [show (9999 : Nat) = 9998 + 1 from rfl, run_equalIn_int w 9998 _ .i64 .i64 x x (by kernel_rfl)]
  simp
theorem eq_pair (a b : Int) (w : World) : (Op.equalIn 10000 62 (.agg #[.int .i64 a, .int .i64 b]) (.agg #[.int .i64 a, .int .i64 b])).run Try.prog w = .ok true w := by
  have hi : ∃ i, Try.prog.info? 3 = some i := ⟨(Try.prog.info? 3).get (by kernel_rfl), by kernel_rfl⟩
  obtain ⟨i, hi⟩ := hi
  have hc : Try.prog.cellsOf 3 = 1 := by kernel_rfl
  rw [show (10000 : Nat) = 9999 + 1 from rfl, run_equalIn_array w 9999 _ _ (n := 2) (e := 3) (by kernel_rfl) hi, hc]
  simp only [show List.range 2 = [0, 1] from rfl, Op.eqItems]
  have hp0 : (part 3 #[.int .i64 a, .int .i64 b] (0 * 1)).run Try.prog w = .ok (.int .i64 a) w := by kernel_rfl
  have hp1 : (part 3 #[.int .i64 a, .int .i64 b] (1 * 1)).run Try.prog w = .ok (.int .i64 b) w := by kernel_rfl
  simp [hp0, hp1, eq_int, Result.andThen]
theorem eqFields_same (w : World) (xs : Array Value) (fs : List Field) (h : ∀ f ∈ fs, f.name ≠ "_" ∧ f.type = 3 ∧ ∃ x, (part 3 xs f.offset).run Try.prog w = .ok (.int .i64 x) w) : (Op.eqFields 9999 xs xs fs).run Try.prog w = .ok true w := by
  induction fs with
  | nil => simp [Op.eqFields]
  | cons f fs ih =>
    obtain ⟨h1, h2, x, h3⟩ := h f (by simp)
    have := ih (fun g hg => h g (by simp [hg]))
    simp only [Op.eqFields, h1, ne_eq, not_false_eq_true, if_true, Sem.run_bind, h2, h3, Result.andThen_ok, eq_int, Bool.not_true, Bool.false_eq_true, if_false]
    exact this
theorem eq_unit (u : U) (w : World) : (Op.equalIn 10000 130 (.agg (cellsN u).toArray) (.agg (cellsN u).toArray)).run Try.prog w = .ok true w := by
  rw [show (10000 : Nat) = 9999 + 1 from rfl, run_equalIn_struct w 9999 _ _ _ (by kernel_rfl) (by kernel_rfl)]
  have hf : ∀ f ∈ (Try.prog.fieldsOf 130).toList, f.name ≠ "_" ∧ f.type = 3 ∧ f.offset < 11 := of_decide_eq_true (by kernel_rfl)
  refine eqFields_same w _ _ (fun f hf' => ?_)
  obtain ⟨h1, h2, h3⟩ := hf f hf'
  refine ⟨h1, h2, ?_⟩
  have : f.offset = 0 ∨ f.offset = 1 ∨ f.offset = 2 ∨ f.offset = 3 ∨ f.offset = 4 ∨ f.offset = 5 ∨ f.offset = 6 ∨ f.offset = 7 ∨ f.offset = 8 ∨ f.offset = 9 ∨ f.offset = 10 := by omega
  rcases this with h | h | h | h | h | h | h | h | h | h | h <;> rw [h]
  · exact ⟨u.id, by kernel_rfl⟩
  · exact ⟨u.owner, by kernel_rfl⟩
  · exact ⟨u.kind, by kernel_rfl⟩
  · exact ⟨u.x, by kernel_rfl⟩
  · exact ⟨u.y, by kernel_rfl⟩
  · exact ⟨u.hp, by kernel_rfl⟩
  · exact ⟨u.does, by kernel_rfl⟩
  · exact ⟨u.gx, by kernel_rfl⟩
  · exact ⟨u.gy, by kernel_rfl⟩
  · exact ⟨u.target, by kernel_rfl⟩
  · exact ⟨u.since, by kernel_rfl⟩
set_option maxHeartbeats 3200000 in
set_option maxRecDepth 100000 in
theorem samenewer_any (t g0 g1 nx : Int) (us : List U) (a b : Option Addr) (ca cb : Nat) (hl : us.length ≤ 100000) (w : World) (ha : URow true w.heap.size w a us) (hb : URow true w.heap.size w b us) :
    Calls Try.prog 49 #[.agg #[.int .i64 t, .int .i64 g0, .int .i64 g1, .int .i64 nx, .slice a us.length ca], .agg #[.int .i64 t, .int .i64 g0, .int .i64 g1, .int .i64 nx, .slice b us.length cb]] w fun e w' => e = .returned (.bool true) ∧ Below w.heap.size w w' := by
  obtain ⟨W, hW⟩ : ∃ W, (w.alloc (.cells #[.int .i64 t, .int .i64 g0, .int .i64 g1, .int .i64 nx, .slice a us.length ca] 65)).alloc (.cells #[.int .i64 t, .int .i64 g0, .int .i64 g1, .int .i64 nx, .slice b us.length cb] 65) = W := ⟨_, rfl⟩
  have hbW : Below w.heap.size w W := by rw [← hW]; exact ((Below.refl _ _).alloc (Nat.le_refl _) _).alloc (by simp) _
  have k1 : Blk W w.heap.size #[.int .i64 t, .int .i64 g0, .int .i64 g1, .int .i64 nx, .slice a us.length ca] := by rw [← hW]; exact (Blk.new w _ _).alloc _
  have k2 : Blk W (w.heap.size + 1) #[.int .i64 t, .int .i64 g0, .int .i64 g1, .int .i64 nx, .slice b us.length cb] := by
    rw [← hW]
    have := Blk.new (w.alloc (.cells #[.int .i64 t, .int .i64 g0, .int .i64 g1, .int .i64 nx, .slice a us.length ca] 65)) #[.int .i64 t, .int .i64 g0, .int .i64 g1, .int .i64 nx, .slice b us.length cb] 65
    simpa using this
  obtain ⟨l1, c1, -⟩ := id k1
  obtain ⟨l2, c2, -⟩ := id k2
  have hsW := hbW.size
  have HA := Lib.hid (ha.below hbW)
  have HB := Lib.hid (hb.below hbW)
  have K1 := Lib.hid k1
  have K2 := Lib.hid k2
  have HBW := Lib.hid hbW
  have hn0 : (0 : Int) ≤ (us.length : Int) := by omega
  have heq := eq_pair g0 g1
  clear ha hb hbW k1 k2
  go_enter Try.func49, Try.ntmps49
  go_upto_region 1 with fail
  try rw [hW]
  clear hW
  go_wp2_with fail
  have HB1 : Hid (Below W.heap.size W W) := Lib.hid (Below.refl _ _)
  go_loopw [5] (fun i wr => ∃ k : Nat, i = .int .i64 k ∧ k ≤ us.length ∧ Below W.heap.size W wr) (fun i _ => (us.length - intOf i).toNat)
  case atStart => exact ⟨0, rfl, by omega, HB1.out⟩
  case round =>
    obtain ⟨k, rfl, hk, hX⟩ := hrel
    have HX := Lib.hid hX
    have hsz := hX.size
    obtain ⟨l5, c5, -⟩ := id (K1.out.call hX)
    obtain ⟨l6, c6, -⟩ := id (K2.out.call hX)
    by_cases hlt : k < us.length
    · obtain ⟨u, hu⟩ : ∃ u, us.getD k zeroU = u := ⟨_, rfl⟩
      obtain ⟨b1, o1, rfl, hb1, q0, q1, q2, q3, q4, q5, q6, q7, q8, q9, q10⟩ := (HA.out.below (hX.mono hsW)).getN k hlt u hu
      obtain ⟨b2, o2, rfl, hb2, p0, p1, p2, p3, p4, p5, p6, p7, p8, p9, p10⟩ := (HB.out.below (hX.mono hsW)).getN k hlt u hu
      have hki : (0 : Int) ≤ (k : Int) := by omega
      have hkl : (k : Int) < (us.length : Int) := by omega
      have l7 : b1 < wr.heap.size := by omega
      have l8 : b2 < wr.heap.size := by omega
      have heu : ∀ W : World, (Op.equalIn 10000 130 (.agg #[.int .i64 u.id, .int .i64 u.owner, .int .i64 u.kind, .int .i64 u.x, .int .i64 u.y, .int .i64 u.hp, .int .i64 u.does, .int .i64 u.gx, .int .i64 u.gy, .int .i64 u.target, .int .i64 u.since]) (.agg #[.int .i64 u.id, .int .i64 u.owner, .int .i64 u.kind, .int .i64 u.x, .int .i64 u.y, .int .i64 u.hp, .int .i64 u.does, .int .i64 u.gx, .int .i64 u.gy, .int .i64 u.target, .int .i64 u.since])).run Try.prog W = .ok true W := eq_unit u
      clear hu hX
      go_wp2_with fail
      go_quiet (fail)
      go_wp2_with fail
      go_roundw
      case rel => exact ⟨k + 1, by go_num, by omega, below_drewN HX.out _⟩
      case measure => simp [intOf]; omega
    · obtain rfl : k = us.length := by omega
      have HBE : Hid (Below w.heap.size w wr) := Lib.hid (HBW.out.trans (hX.mono hsW))
      clear hX
      go_wp2_with fail
      go_ret
      exact ⟨rfl, HBE.out⟩

end Go.Proofs.Ytlfljlhppigejaa
