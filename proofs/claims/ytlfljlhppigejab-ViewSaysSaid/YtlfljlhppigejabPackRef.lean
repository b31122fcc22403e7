/-
  The walks of what the document's answer asks of a game: who, stands, bounds, May. The walk of the document's oneFault. Plain laws on the last parts of a state's check. No program in sight. The walk of the document's Fault: what is wrong with a game. The document's game in memory; the walks of OfElder and OfNewer.
-/
import Derived.Test.YtlfljlhppigejabPackBase
import Derived.Test.YtlfljlhppigejabNewFuncs
import Derived.Test.YtlfljlhppigejabRulesWalk
import Derived.Deep.RegionHeld3
import Derived.Deep.RegionWith
import Derived.BigRegion
import Derived.RegionTactic
import Derived.Deep.DeepCutAuto
import Derived.Test.YtlfljlhppigejabPackPure
import Derived.BigQuiet
import Derived.Deep.QuietTactic
import Derived.Test.YtlfljlhppigejabPackMix
import Derived.Test.YtlfljlhppigejabPackMark
import Derived.Test.YtlfljlhppigejabNewBoard
namespace Go.Proofs.Ytlfljlhppigejab
open Go.RowKit
attribute [local go_sem] qOne qAt qUp

set_option maxHeartbeats 400000 in
set_option maxRecDepth 100000 in
theorem who_any (S : Nat) (a : Option Addr) (n c : Nat) (us : List U) (id : Int) (hl : us.length = n) (hn : n ≤ 100000) (w : World) (h6 : w.cell? ⟨S, 6, none⟩ = some (.slice a n c)) (hu : URow true w.heap.size w a us) :
    Calls Try.prog 73 #[.pointer (some ⟨S, 0, none⟩), .int .i64 id] w fun e w' => e = .returned (.int .i64 (ixOf us id)) ∧ w = w' := by
  have HU := Lib.hid hu
  have HL := Lib.hid hl
  clear hu hl
  go_enter Try.func73, Try.ntmps73
  go_wp2_with fail
  go_loop [5] (fun i => ∃ k : Nat, i = .int .i64 k ∧ k ≤ n ∧ (∀ j, j < k → (us.getD j zeroU).id ≠ id)) (fun i => (n - intOf i).toNat)
  case atStart => exact ⟨0, rfl, by omega, fun j hj => absurd hj (by omega)⟩
  case round =>
    obtain ⟨k, rfl, hk, hX⟩ := hrel
    have HX := Lib.hid hX
    clear hX
    by_cases hlt : k < n
    · obtain ⟨v, hv⟩ : ∃ v, us.getD k zeroU = v := ⟨_, rfl⟩
      obtain ⟨b, o, rfl, -, q0, -⟩ := HU.out.getN k (by have := HL.out; omega) v hv
      have HV := Lib.hid hv
      clear hv
      by_cases he : v.id = id
      · have d1 : (v.id == id) = true := by simp [he]
        have HE := Lib.hid he
        clear he
        go_wp2_with fail
        go_ret
        refine ⟨ret1 (intv ?_), rfl⟩
        exact (ixOf_hit (by have := HL.out; omega) (by rw [HV.out]; exact HE.out) HX.out).symm
      · have d1 : (v.id == id) = false := by simp [he]
        have HE := Lib.hid he
        clear he
        go_wp2_with fail
        go_round
        case rel =>
          refine ⟨k + 1, by go_num, by omega, ?_⟩
          intro j hj
          by_cases e : j = k
          · rw [e, HV.out]; exact HE.out
          · exact HX.out j (by omega)
        case measure => simp [intOf]; omega
    · go_wp2_with fail
      go_ret
      refine ⟨ret1 (intv ?_), rfl⟩
      exact (ixOf_none (fun j hj => HX.out j (by have := HL.out; omega))).symm

theorem bounds_any (n : Bool) (S : Nat) (w : World) (h0 : w.cell? ⟨S, 0, none⟩ = some (.bool n)) : Calls Try.prog 71 #[.pointer (some ⟨S, 0, none⟩)] w fun e w' => e = .returned (.tuple #[.int .i64 (topOf n), .int .i64 (richOf n)]) ∧ w = w' := by
  cases n
  · go_enter Try.func71, Try.ntmps71
    go_wp2_with fail
    go_ret2
    exact ⟨rfl, rfl⟩
  · go_enter Try.func71, Try.ntmps71
    go_wp2_with fail
    go_ret2
    exact ⟨rfl, rfl⟩

theorem refRule_any (n : Bool) (k : Int) (w : World) : Calls Try.prog 101 #[.int .i64 k, .bool n] w (RuleEnd n k w) := by
  cases n
  · exact refRuleE k w
  · exact refRuleN k w

set_option maxHeartbeats 3200000 in
set_option maxRecDepth 100000 in
theorem refmay_any (n : Bool) (S : Nat) (u t : U) (w : World) (hS : S < w.heap.size) (h0 : w.cell? ⟨S, 0, none⟩ = some (.bool n)) :
    Calls Try.prog 74 #[.pointer (some ⟨S, 0, none⟩), .agg #[.int .i64 u.id, .int .i64 u.owner, .int .i64 u.kind, .int .i64 u.x, .int .i64 u.y, .int .i64 u.hp, .int .i64 u.does, .int .i64 u.gx, .int .i64 u.gy, .int .i64 u.target, .int .i64 u.since], .agg #[.int .i64 t.id, .int .i64 t.owner, .int .i64 t.kind, .int .i64 t.x, .int .i64 t.y, .int .i64 t.hp, .int .i64 t.does, .int .i64 t.gx, .int .i64 t.gy, .int .i64 t.target, .int .i64 t.since]] w
      fun e w' => e = .returned (.int .i64 (mayDo n u t)) ∧ Below w.heap.size w w' := by
  obtain ⟨W0, hW0⟩ : ∃ W0, (w.alloc (.cells #[.int .i64 u.id, .int .i64 u.owner, .int .i64 u.kind, .int .i64 u.x, .int .i64 u.y, .int .i64 u.hp, .int .i64 u.does, .int .i64 u.gx, .int .i64 u.gy, .int .i64 u.target, .int .i64 u.since] 142)).alloc (.cells #[.int .i64 t.id, .int .i64 t.owner, .int .i64 t.kind, .int .i64 t.x, .int .i64 t.y, .int .i64 t.hp, .int .i64 t.does, .int .i64 t.gx, .int .i64 t.gy, .int .i64 t.target, .int .i64 t.since] 142) = W0 := ⟨_, rfl⟩
  have hb0 : Below w.heap.size w W0 := by rw [← hW0]; exact ((Below.refl _ _).alloc (Nat.le_refl _) _).alloc (by simp) _
  have hk1 := (Blk.new w #[.int .i64 u.id, .int .i64 u.owner, .int .i64 u.kind, .int .i64 u.x, .int .i64 u.y, .int .i64 u.hp, .int .i64 u.does, .int .i64 u.gx, .int .i64 u.gy, .int .i64 u.target, .int .i64 u.since] 142).alloc (.cells #[.int .i64 t.id, .int .i64 t.owner, .int .i64 t.kind, .int .i64 t.x, .int .i64 t.y, .int .i64 t.hp, .int .i64 t.does, .int .i64 t.gx, .int .i64 t.gy, .int .i64 t.target, .int .i64 t.since] 142)
  have hk2 := Blk.new (w.alloc (.cells #[.int .i64 u.id, .int .i64 u.owner, .int .i64 u.kind, .int .i64 u.x, .int .i64 u.y, .int .i64 u.hp, .int .i64 u.does, .int .i64 u.gx, .int .i64 u.gy, .int .i64 u.target, .int .i64 u.since] 142)) #[.int .i64 t.id, .int .i64 t.owner, .int .i64 t.kind, .int .i64 t.x, .int .i64 t.y, .int .i64 t.hp, .int .i64 t.does, .int .i64 t.gx, .int .i64 t.gy, .int .i64 t.target, .int .i64 t.since] 142
  rw [World.size_alloc] at hk2
  rw [hW0] at hk1 hk2
  have hsz : w.heap.size + 1 < W0.heap.size := hk2.lt
  have hg0 : W0.cell? ⟨S, 0, none⟩ = some (.bool n) := (hb0.cell (p := ⟨S, 0, none⟩) hS).trans h0
  obtain ⟨l1, c1, f1⟩ := id hk1
  obtain ⟨l2, c2, f2⟩ := id hk2
  have HK1 := Lib.hid hk1
  have HK2 := Lib.hid hk2
  have HB0 := Lib.hid hb0
  clear hk1 hk2 hb0 h0
  go_enter Try.func74, Try.ntmps74
  go_wp2_with fail
  haveI := Cw.ne W0
  have hS0 : S < W0.heap.size := by omega
  have hcw := fun (x : Cw W0) => x.cell
  refine region_loose 10 (by kernel_rfl) (by kernel_rfl) ?_
  repeat (refine wpQB_step (fun K hK => ?_); go_simp; first | (refine hK _ ?_; clear hK K) | (apply Exists.intro; refine ⟨fun _ => ?_, hK _ ?_⟩; (go_at_call 101; refine (refRule_any n u.kind _).mono ?_; rintro e w1 ⟨rfl, b1⟩; exact ⟨rfl, b1⟩); clear hK K))
  refine wpQB_nil ?_
  refine tail_var (T := 184) (d := 7) (r := 17) (c := #[.int .i64 (ruleOf n u.kind).cost, .int .i64 (ruleOf n u.kind).hp, .int .i64 (ruleOf n u.kind).speed, .int .i64 (ruleOf n u.kind).harm, .int .i64 (ruleOf n u.kind).range, .int .i64 (ruleOf n u.kind).load]) #[.int .i64 0, .int .i64 0, .int .i64 0, .int .i64 0, .int .i64 0, .int .i64 0] rfl rfl rfl rfl (fun _ => rfl) (fun w => by simp [go_sem]) (fun _ => rfl) (by simp) rfl (by kernel_rfl) (by simp [Value.oneCell']) (fun p => ?_)
  refine tail_value (.bool (isRule n u.kind)) rfl (fun w => by simp [go_sem]) ?_
  refine tail_nil ?_
  rintro w1 ⟨hb, hp, hk⟩
  clear hcw
  obtain ⟨l3, c3, -⟩ := id hk
  have hc1 := (bcell hb).1
  have HB : Hid (Below w.heap.size w w1) := Lib.hid (HB0.out.trans (hb.mono (by omega)))
  have hw0 : w.heap.size < W0.heap.size := by omega
  clear hb hk hp
  obtain ⟨r, hrr⟩ : ∃ r, ruleOf n u.kind = r := ⟨_, rfl⟩
  rw [hrr] at c3 ⊢
  have HR := Lib.hid hrr
  clear hrr
  go_simp
  go_wp2_with fail
  all_goals
    go_ret
    refine ⟨ret1 (intv ?_), HB.out⟩
    clear c1 c2 f1 f2 c3 hc1 l1 l2 l3
    have hrr := HR.out
    go_light
    unfold mayDo
    rw [hrr]
    repeat' split
    all_goals first | rfl | (exfalso; simp_all; done) | (exfalso; simp_all <;> omega)
end Go.Proofs.Ytlfljlhppigejab
namespace Go.Proofs.Ytlfljlhppigejab
open Go.RowKit
attribute [local go_sem] qOne qAt qUp
theorem bx {a b c d : Int} (h : (!(a == b) == (c == d)) = true) (h2 : a = b ↔ c = d) : False := by
  have e1 : (a == b) = (c == d) := by
    rw [Bool.eq_iff_iff]
    simpa using h2
  rw [e1] at h
  cases hh : (c == d) <;> rw [hh] at h <;> cases h
theorem nat_is {f : Nat} (c : Nat) (h : f = c) : Value.int .i64 (c : Int) = .int .i64 (f : Int) := by rw [h]

set_option maxHeartbeats 12800000 in
set_option maxRecDepth 100000 in
theorem refone_old (S : Nat) (u : U) (tick : Int) (w : World) (hS : S < w.heap.size) (h0 : w.cell? ⟨S, 0, none⟩ = some (.bool false)) (h1 : w.cell? ⟨S, 1, none⟩ = some (.int .i64 tick)) :
   Calls Try.prog 72 #[.pointer (some ⟨S, 0, none⟩), .agg #[.int .i64 u.id, .int .i64 u.owner, .int .i64 u.kind, .int .i64 u.x, .int .i64 u.y, .int .i64 u.hp, .int .i64 u.does, .int .i64 u.gx, .int .i64 u.gy, .int .i64 u.target, .int .i64 u.since]] w fun e w' => e = .returned (.int .i64 (oneFault false tick u : Nat)) ∧ Below w.heap.size w w' := by
  obtain ⟨W0, hW0⟩ : ∃ W0, w.alloc (.cells #[.int .i64 u.id, .int .i64 u.owner, .int .i64 u.kind, .int .i64 u.x, .int .i64 u.y, .int .i64 u.hp, .int .i64 u.does, .int .i64 u.gx, .int .i64 u.gy, .int .i64 u.target, .int .i64 u.since] 142) = W0 := ⟨_, rfl⟩
  have hb0 : Below w.heap.size w W0 := by rw [← hW0]; exact (Below.refl _ _).alloc (Nat.le_refl _) _
  have hk1 := Blk.new w #[.int .i64 u.id, .int .i64 u.owner, .int .i64 u.kind, .int .i64 u.x, .int .i64 u.y, .int .i64 u.hp, .int .i64 u.does, .int .i64 u.gx, .int .i64 u.gy, .int .i64 u.target, .int .i64 u.since] 142
  rw [hW0] at hk1
  have hsz : w.heap.size < W0.heap.size := hk1.lt
  have hg0 : W0.cell? ⟨S, 0, none⟩ = some (.bool false) := (hb0.cell (p := ⟨S, 0, none⟩) hS).trans h0
  have hg1 : W0.cell? ⟨S, 1, none⟩ = some (.int .i64 tick) := (hb0.cell (p := ⟨S, 1, none⟩) hS).trans h1
  obtain ⟨l1, c1, -⟩ := id hk1
  have HK1 := Lib.hid hk1
  have HB0 := Lib.hid hb0
  obtain ⟨b1, hb1⟩ : ∃ b, isRule false u.kind = b := ⟨_, rfl⟩
  obtain ⟨b2, hb2⟩ : ∃ b, onB u.x u.y = b := ⟨_, rfl⟩
  obtain ⟨b3, hb3⟩ : ∃ b, onB u.gx u.gy = b := ⟨_, rfl⟩
  have HB1 := Lib.hid hb1
  have HB2 := Lib.hid hb2
  have HB3 := Lib.hid hb3
  clear hk1 hb0 h0 h1 hb1 hb2 hb3
  go_enter Try.func72, Try.ntmps72
  go_wp2_with fail
  refine (bounds_any false S _ hg0).mono ?_
  rintro e w' ⟨rfl, rfl⟩
  rw [show topOf false = 200 from rfl, show richOf false = 40 from rfl]
  go_wp2_with fail
  haveI := Cw.ne W0
  have hS0 : S < W0.heap.size := by omega
  have hcw := fun (x : Cw W0) => x.cell
  refine region_loose 10 (by kernel_rfl) (by kernel_rfl) ?_
  repeat (refine wpQB_step (fun K hK => ?_); go_simp; first | (refine hK _ ?_; clear hK K) | (apply Exists.intro; refine ⟨fun _ => ?_, hK _ ?_⟩; (go_at_call 101; refine (refRule_any false u.kind _).mono ?_; rintro e w1 ⟨rfl, b1⟩; exact ⟨rfl, b1⟩); clear hK K))
  refine wpQB_nil ?_
  refine tail_var (T := 184) (d := 7) (r := 25) (c := #[.int .i64 (ruleOf false u.kind).cost, .int .i64 (ruleOf false u.kind).hp, .int .i64 (ruleOf false u.kind).speed, .int .i64 (ruleOf false u.kind).harm, .int .i64 (ruleOf false u.kind).range, .int .i64 (ruleOf false u.kind).load]) #[.int .i64 0, .int .i64 0, .int .i64 0, .int .i64 0, .int .i64 0, .int .i64 0] rfl rfl rfl rfl (fun _ => rfl) (fun w => by simp [go_sem]) (fun _ => rfl) (by simp) rfl (by kernel_rfl) (by simp [Value.oneCell']) (fun p => ?_)
  refine tail_value (.bool (isRule false u.kind)) rfl (fun w => by simp [go_sem]) ?_
  refine tail_nil ?_
  rintro w1 ⟨hb, hp, hk⟩
  clear hcw
  obtain ⟨l3, c3, -⟩ := id hk
  have hc1 := (bcell hb).1
  have HB : Hid (Below w.heap.size w w1) := Lib.hid (HB0.out.trans (hb.mono (by omega)))
  have hs1 := hb.size
  clear hb hk hp
  obtain ⟨r, hrr⟩ : ∃ r, ruleOf false u.kind = r := ⟨_, rfl⟩
  rw [hrr] at c3 ⊢
  rw [HB1.out]
  have HR := Lib.hid hrr
  clear hrr
  obtain ⟨m, hm⟩ : ∃ m, (if u.kind = 4 then (100 : Int) else r.hp) = m := ⟨_, rfl⟩
  have HM := Lib.hid hm
  clear hm
  go_simp
  go_upto_if 31 with fail
  go_cut [9] (fun s9 wx => s9 = .int .i64 m ∧ w1 = wx)
  case first =>
    by_cases h4 : u.kind = 4
    · have d4 : (u.kind == 4) = true := by simp [h4]
      have HM2 : Hid (100 = m) := Lib.hid (by have := HM.out; rw [if_pos h4] at this; exact this)
      clear h4
      go_wp2_with fail
      go_meet
      exact ⟨intv HM2.out, rfl⟩
    · have d4 : (u.kind == 4) = false := by simp [h4]
      have HM2 : Hid (r.hp = m) := Lib.hid (by have := HM.out; rw [if_neg h4] at this; exact this)
      clear h4
      go_wp2_with fail
      go_meet
      exact ⟨intv HM2.out, rfl⟩
  case rest =>
    obtain ⟨rfl, rfl⟩ := hcut
    go_wp2_with fail
    refine (refOn _ _ _).mono ?_
    rintro e w2 ⟨rfl, rfl⟩
    rw [HB2.out]
    go_wp2_with fail
    simp only [List.append]
    have HE : Hid (b1 = false ∨ u.id < 1 ∨ 200 < u.id ∨ b2 = false ∨ u.hp < 1 ∨ m < u.hp ∨ u.does < 0 ∨ 3 < u.does ∨ u.target < 0 ∨ 200 < u.target ∨ (false = true ∧ (u.since < 0 ∨ tick < u.since)) → oneFault false tick u = 1) := Lib.hid (fun h => by
      unfold oneFault
      rw [HB1.out, HB2.out, HR.out, HM.out, show topOf false = 200 from rfl, if_pos h])
    have HQ : Hid (¬ (b1 = false ∨ u.id < 1 ∨ 200 < u.id ∨ b2 = false ∨ u.hp < 1 ∨ m < u.hp ∨ u.does < 0 ∨ 3 < u.does ∨ u.target < 0 ∨ 200 < u.target ∨ (false = true ∧ (u.since < 0 ∨ tick < u.since))) → oneFault false tick u = if u.owner < 0 ∨ 2 < u.owner ∨ ¬ (u.owner = 2 ↔ u.kind = 4) then 3 else if (u.does = 1 ∧ (b3 = false ∨ r.speed = 0)) ∨ (¬ u.does = 1 ∧ (u.gx ≠ 0 ∨ u.gy ≠ 0)) ∨ ¬ (1 < u.does ↔ 0 < u.target) then 3 else 0) := Lib.hid (fun h => by
      unfold oneFault
      rw [HB1.out, HB2.out, HB3.out, HR.out, HM.out, show topOf false = 200 from rfl, if_neg h])
    haveI := Cw.ne w1
    have hcw := fun (x : Cw w1) => x.cell
    have hS1 : S < w1.heap.size := by omega
    have hw1 : w.heap.size < w1.heap.size := by omega
    refine region_cw (by kernel_rfl) (by kernel_rfl) ?_
    cases b1
    · repeat (go_big_quiet_step (fail))
      refine wpQuiet_nil ?_
      intro w2 hb2
      go_wp2_with fail
      go_ret
      exact ⟨ret1 (nat_is 1 (HE.out (by first | exact (Or.inl rfl) | (simp; done) | (simp; omega)))), HB.out.trans (hb2.mono (by omega))⟩
    repeat (go_big_quiet_step (fail))
    by_cases c1 : u.id < 1
    · rw [show decide (u.id < 1) = true from decide_eq_true c1]
      repeat (go_big_quiet_step (fail))
      refine wpQuiet_nil ?_
      intro w2 hb2
      go_wp2_with fail
      go_ret
      exact ⟨ret1 (nat_is 1 (HE.out (by first | exact (Or.inr (Or.inl c1)) | (simp; done) | (simp; omega)))), HB.out.trans (hb2.mono (by omega))⟩
    rw [show decide (u.id < 1) = false from decide_eq_false c1]
    repeat (go_big_quiet_step (fail))
    by_cases c2 : 200 < u.id
    · rw [show decide (200 < u.id) = true from decide_eq_true c2]
      repeat (go_big_quiet_step (fail))
      refine wpQuiet_nil ?_
      intro w2 hb2
      go_wp2_with fail
      go_ret
      exact ⟨ret1 (nat_is 1 (HE.out (by first | exact (Or.inr (Or.inr (Or.inl c2))) | (simp; done) | (simp; omega)))), HB.out.trans (hb2.mono (by omega))⟩
    rw [show decide (200 < u.id) = false from decide_eq_false c2]
    repeat (go_big_quiet_step (fail))
    cases b2
    · simp only [Bool.not_false]
      repeat (go_big_quiet_step (fail))
      refine wpQuiet_nil ?_
      intro w2 hb2
      go_wp2_with fail
      go_ret
      exact ⟨ret1 (nat_is 1 (HE.out (by first | exact (Or.inr (Or.inr (Or.inr (Or.inl rfl)))) | (simp; done) | (simp; omega)))), HB.out.trans (hb2.mono (by omega))⟩
    simp only [Bool.not_true]
    repeat (go_big_quiet_step (fail))
    by_cases c4 : u.hp < 1
    · rw [show decide (u.hp < 1) = true from decide_eq_true c4]
      repeat (go_big_quiet_step (fail))
      refine wpQuiet_nil ?_
      intro w2 hb2
      go_wp2_with fail
      go_ret
      exact ⟨ret1 (nat_is 1 (HE.out (by first | exact (Or.inr (Or.inr (Or.inr (Or.inr (Or.inl c4))))) | (simp; done) | (simp; omega)))), HB.out.trans (hb2.mono (by omega))⟩
    rw [show decide (u.hp < 1) = false from decide_eq_false c4]
    repeat (go_big_quiet_step (fail))
    by_cases c5 : m < u.hp
    · rw [show decide (m < u.hp) = true from decide_eq_true c5]
      repeat (go_big_quiet_step (fail))
      refine wpQuiet_nil ?_
      intro w2 hb2
      go_wp2_with fail
      go_ret
      exact ⟨ret1 (nat_is 1 (HE.out (by first | exact (Or.inr (Or.inr (Or.inr (Or.inr (Or.inr (Or.inl c5)))))) | (simp; done) | (simp; omega)))), HB.out.trans (hb2.mono (by omega))⟩
    rw [show decide (m < u.hp) = false from decide_eq_false c5]
    repeat (go_big_quiet_step (fail))
    by_cases c6 : u.does < 0
    · rw [show decide (u.does < 0) = true from decide_eq_true c6]
      repeat (go_big_quiet_step (fail))
      refine wpQuiet_nil ?_
      intro w2 hb2
      go_wp2_with fail
      go_ret
      exact ⟨ret1 (nat_is 1 (HE.out (by first | exact (Or.inr (Or.inr (Or.inr (Or.inr (Or.inr (Or.inr (Or.inl c6))))))) | (simp; done) | (simp; omega)))), HB.out.trans (hb2.mono (by omega))⟩
    rw [show decide (u.does < 0) = false from decide_eq_false c6]
    repeat (go_big_quiet_step (fail))
    by_cases c7 : 3 < u.does
    · rw [show decide (3 < u.does) = true from decide_eq_true c7]
      repeat (go_big_quiet_step (fail))
      refine wpQuiet_nil ?_
      intro w2 hb2
      go_wp2_with fail
      go_ret
      exact ⟨ret1 (nat_is 1 (HE.out (by first | exact (Or.inr (Or.inr (Or.inr (Or.inr (Or.inr (Or.inr (Or.inr (Or.inl c7)))))))) | (simp; done) | (simp; omega)))), HB.out.trans (hb2.mono (by omega))⟩
    rw [show decide (3 < u.does) = false from decide_eq_false c7]
    repeat (go_big_quiet_step (fail))
    by_cases c8 : u.target < 0
    · rw [show decide (u.target < 0) = true from decide_eq_true c8]
      repeat (go_big_quiet_step (fail))
      refine wpQuiet_nil ?_
      intro w2 hb2
      go_wp2_with fail
      go_ret
      exact ⟨ret1 (nat_is 1 (HE.out (by first | exact (Or.inr (Or.inr (Or.inr (Or.inr (Or.inr (Or.inr (Or.inr (Or.inr (Or.inl c8))))))))) | (simp; done) | (simp; omega)))), HB.out.trans (hb2.mono (by omega))⟩
    rw [show decide (u.target < 0) = false from decide_eq_false c8]
    repeat (go_big_quiet_step (fail))
    by_cases c9 : 200 < u.target
    · rw [show decide (200 < u.target) = true from decide_eq_true c9]
      repeat (go_big_quiet_step (fail))
      refine wpQuiet_nil ?_
      intro w2 hb2
      go_wp2_with fail
      go_ret
      exact ⟨ret1 (nat_is 1 (HE.out (by first | exact (Or.inr (Or.inr (Or.inr (Or.inr (Or.inr (Or.inr (Or.inr (Or.inr (Or.inr (Or.inl c9)))))))))) | (simp; done) | (simp; omega)))), HB.out.trans (hb2.mono (by omega))⟩
    rw [show decide (200 < u.target) = false from decide_eq_false c9]
    repeat (go_big_quiet_step (fail))
    refine wpQuiet_nil ?_
    intro w2 hb2
    have HN : Hid (oneFault false tick u = if u.owner < 0 ∨ 2 < u.owner ∨ ¬ (u.owner = 2 ↔ u.kind = 4) then 3 else if (u.does = 1 ∧ (b3 = false ∨ r.speed = 0)) ∨ (¬ u.does = 1 ∧ (u.gx ≠ 0 ∨ u.gy ≠ 0)) ∨ ¬ (1 < u.does ↔ 0 < u.target) then 3 else 0) := Lib.hid (HQ.out (by
      rintro (h | h | h | h | h | h | h | h | h | h | h)
      all_goals first | (cases h; done) | omega | (rcases h with ⟨h1, h2⟩; first | (cases h1; done) | omega)))
    have HB2' : Hid (Below w.heap.size w w2) := Lib.hid (HB.out.trans (hb2.mono (by omega)))
    have hc2 := (bcell hb2).1
    clear hb2 hcw HE HQ
    go_wp2_with (go_at_call 102; refine (refOn _ _ _).mono ?_; rintro e w3 ⟨rfl, rfl⟩; rw [HB3.out])
    all_goals
      go_ret
      refine ⟨ret1 ?_, HB2'.out⟩
      first
        | refine nat_is 0 ?_
        | refine nat_is 3 ?_
      have hn := HN.out
      go_light
      clear hc2 hc1 c1 c3 l1 l3 hS1 hw1 hs1 hsz hS
      rw [hn]
      clear hn
      repeat' split
      all_goals first | rfl | (exfalso; simp_all; done) | (exfalso; simp_all <;> omega) | (exfalso; rcases Classical.em (1 < u.does) with q1 | q1 <;> rcases Classical.em (0 < u.target) with q2 | q2 <;> rcases Classical.em (u.owner = 2) with q3 | q3 <;> rcases Classical.em (u.kind = 4) with q4 | q4 <;> simp_all <;> omega) | (exfalso; rcases ‹(u.owner < 0 ∨ 2 < u.owner) ∨ (!(u.owner == 2) == (u.kind == 4)) = true› with h | h <;> first | (omega; done) | exact bx h (by constructor <;> intro <;> omega)) | (exfalso; rcases Classical.em (u.gx = 0) with p1 | p1 <;> rcases Classical.em (u.gy = 0) with p2 | p2 <;> cases b3 <;> rcases Classical.em (r.speed = 0) with p3 | p3 <;> rcases Classical.em (u.does = 1) with p4 | p4 <;> rcases Classical.em (0 < u.target) with q2 | q2 <;> simp_all <;> omega)

set_option maxHeartbeats 12800000 in
set_option maxRecDepth 100000 in
theorem refone_new (S : Nat) (u : U) (tick : Int) (w : World) (hS : S < w.heap.size) (h0 : w.cell? ⟨S, 0, none⟩ = some (.bool true)) (h1 : w.cell? ⟨S, 1, none⟩ = some (.int .i64 tick)) :
   Calls Try.prog 72 #[.pointer (some ⟨S, 0, none⟩), .agg #[.int .i64 u.id, .int .i64 u.owner, .int .i64 u.kind, .int .i64 u.x, .int .i64 u.y, .int .i64 u.hp, .int .i64 u.does, .int .i64 u.gx, .int .i64 u.gy, .int .i64 u.target, .int .i64 u.since]] w fun e w' => e = .returned (.int .i64 (oneFault true tick u : Nat)) ∧ Below w.heap.size w w' := by
  obtain ⟨W0, hW0⟩ : ∃ W0, w.alloc (.cells #[.int .i64 u.id, .int .i64 u.owner, .int .i64 u.kind, .int .i64 u.x, .int .i64 u.y, .int .i64 u.hp, .int .i64 u.does, .int .i64 u.gx, .int .i64 u.gy, .int .i64 u.target, .int .i64 u.since] 142) = W0 := ⟨_, rfl⟩
  have hb0 : Below w.heap.size w W0 := by rw [← hW0]; exact (Below.refl _ _).alloc (Nat.le_refl _) _
  have hk1 := Blk.new w #[.int .i64 u.id, .int .i64 u.owner, .int .i64 u.kind, .int .i64 u.x, .int .i64 u.y, .int .i64 u.hp, .int .i64 u.does, .int .i64 u.gx, .int .i64 u.gy, .int .i64 u.target, .int .i64 u.since] 142
  rw [hW0] at hk1
  have hsz : w.heap.size < W0.heap.size := hk1.lt
  have hg0 : W0.cell? ⟨S, 0, none⟩ = some (.bool true) := (hb0.cell (p := ⟨S, 0, none⟩) hS).trans h0
  have hg1 : W0.cell? ⟨S, 1, none⟩ = some (.int .i64 tick) := (hb0.cell (p := ⟨S, 1, none⟩) hS).trans h1
  obtain ⟨l1, c1, -⟩ := id hk1
  have HK1 := Lib.hid hk1
  have HB0 := Lib.hid hb0
  obtain ⟨b1, hb1⟩ : ∃ b, isRule true u.kind = b := ⟨_, rfl⟩
  obtain ⟨b2, hb2⟩ : ∃ b, onB u.x u.y = b := ⟨_, rfl⟩
  obtain ⟨b3, hb3⟩ : ∃ b, onB u.gx u.gy = b := ⟨_, rfl⟩
  have HB1 := Lib.hid hb1
  have HB2 := Lib.hid hb2
  have HB3 := Lib.hid hb3
  clear hk1 hb0 h0 h1 hb1 hb2 hb3
  go_enter Try.func72, Try.ntmps72
  go_wp2_with fail
  refine (bounds_any true S _ hg0).mono ?_
  rintro e w' ⟨rfl, rfl⟩
  rw [show topOf true = 2000 from rfl, show richOf true = 1000 from rfl]
  go_wp2_with fail
  haveI := Cw.ne W0
  have hS0 : S < W0.heap.size := by omega
  have hcw := fun (x : Cw W0) => x.cell
  refine region_loose 10 (by kernel_rfl) (by kernel_rfl) ?_
  repeat (refine wpQB_step (fun K hK => ?_); go_simp; first | (refine hK _ ?_; clear hK K) | (apply Exists.intro; refine ⟨fun _ => ?_, hK _ ?_⟩; (go_at_call 101; refine (refRule_any true u.kind _).mono ?_; rintro e w1 ⟨rfl, b1⟩; exact ⟨rfl, b1⟩); clear hK K))
  refine wpQB_nil ?_
  refine tail_var (T := 184) (d := 7) (r := 25) (c := #[.int .i64 (ruleOf true u.kind).cost, .int .i64 (ruleOf true u.kind).hp, .int .i64 (ruleOf true u.kind).speed, .int .i64 (ruleOf true u.kind).harm, .int .i64 (ruleOf true u.kind).range, .int .i64 (ruleOf true u.kind).load]) #[.int .i64 0, .int .i64 0, .int .i64 0, .int .i64 0, .int .i64 0, .int .i64 0] rfl rfl rfl rfl (fun _ => rfl) (fun w => by simp [go_sem]) (fun _ => rfl) (by simp) rfl (by kernel_rfl) (by simp [Value.oneCell']) (fun p => ?_)
  refine tail_value (.bool (isRule true u.kind)) rfl (fun w => by simp [go_sem]) ?_
  refine tail_nil ?_
  rintro w1 ⟨hb, hp, hk⟩
  clear hcw
  obtain ⟨l3, c3, -⟩ := id hk
  have hc1 := (bcell hb).1
  have HB : Hid (Below w.heap.size w w1) := Lib.hid (HB0.out.trans (hb.mono (by omega)))
  have hs1 := hb.size
  clear hb hk hp
  obtain ⟨r, hrr⟩ : ∃ r, ruleOf true u.kind = r := ⟨_, rfl⟩
  rw [hrr] at c3 ⊢
  rw [HB1.out]
  have HR := Lib.hid hrr
  clear hrr
  obtain ⟨m, hm⟩ : ∃ m, (if u.kind = 4 then (100 : Int) else r.hp) = m := ⟨_, rfl⟩
  have HM := Lib.hid hm
  clear hm
  go_simp
  go_upto_if 31 with fail
  go_cut [9] (fun s9 wx => s9 = .int .i64 m ∧ w1 = wx)
  case first =>
    by_cases h4 : u.kind = 4
    · have d4 : (u.kind == 4) = true := by simp [h4]
      have HM2 : Hid (100 = m) := Lib.hid (by have := HM.out; rw [if_pos h4] at this; exact this)
      clear h4
      go_wp2_with fail
      go_meet
      exact ⟨intv HM2.out, rfl⟩
    · have d4 : (u.kind == 4) = false := by simp [h4]
      have HM2 : Hid (r.hp = m) := Lib.hid (by have := HM.out; rw [if_neg h4] at this; exact this)
      clear h4
      go_wp2_with fail
      go_meet
      exact ⟨intv HM2.out, rfl⟩
  case rest =>
    obtain ⟨rfl, rfl⟩ := hcut
    go_wp2_with fail
    refine (refOn _ _ _).mono ?_
    rintro e w2 ⟨rfl, rfl⟩
    rw [HB2.out]
    go_wp2_with fail
    simp only [List.append]
    have HE : Hid (b1 = false ∨ u.id < 1 ∨ 2000 < u.id ∨ b2 = false ∨ u.hp < 1 ∨ m < u.hp ∨ u.does < 0 ∨ 3 < u.does ∨ u.target < 0 ∨ 2000 < u.target ∨ (true = true ∧ (u.since < 0 ∨ tick < u.since)) → oneFault true tick u = 1) := Lib.hid (fun h => by
      unfold oneFault
      rw [HB1.out, HB2.out, HR.out, HM.out, show topOf true = 2000 from rfl, if_pos h])
    have HQ : Hid (¬ (b1 = false ∨ u.id < 1 ∨ 2000 < u.id ∨ b2 = false ∨ u.hp < 1 ∨ m < u.hp ∨ u.does < 0 ∨ 3 < u.does ∨ u.target < 0 ∨ 2000 < u.target ∨ (true = true ∧ (u.since < 0 ∨ tick < u.since))) → oneFault true tick u = if u.owner < 0 ∨ 2 < u.owner ∨ ¬ (u.owner = 2 ↔ u.kind = 4) then 3 else if (u.does = 1 ∧ (b3 = false ∨ r.speed = 0)) ∨ (¬ u.does = 1 ∧ (u.gx ≠ 0 ∨ u.gy ≠ 0)) ∨ ¬ (1 < u.does ↔ 0 < u.target) then 3 else 0) := Lib.hid (fun h => by
      unfold oneFault
      rw [HB1.out, HB2.out, HB3.out, HR.out, HM.out, show topOf true = 2000 from rfl, if_neg h])
    haveI := Cw.ne w1
    have hcw := fun (x : Cw w1) => x.cell
    have hS1 : S < w1.heap.size := by omega
    have hw1 : w.heap.size < w1.heap.size := by omega
    refine region_cw (by kernel_rfl) (by kernel_rfl) ?_
    cases b1
    · repeat (go_big_quiet_step (fail))
      refine wpQuiet_nil ?_
      intro w2 hb2
      go_wp2_with fail
      go_ret
      exact ⟨ret1 (nat_is 1 (HE.out (by first | exact (Or.inl rfl) | (simp; done) | (simp; omega)))), HB.out.trans (hb2.mono (by omega))⟩
    repeat (go_big_quiet_step (fail))
    by_cases c1 : u.id < 1
    · rw [show decide (u.id < 1) = true from decide_eq_true c1]
      repeat (go_big_quiet_step (fail))
      refine wpQuiet_nil ?_
      intro w2 hb2
      go_wp2_with fail
      go_ret
      exact ⟨ret1 (nat_is 1 (HE.out (by first | exact (Or.inr (Or.inl c1)) | (simp; done) | (simp; omega)))), HB.out.trans (hb2.mono (by omega))⟩
    rw [show decide (u.id < 1) = false from decide_eq_false c1]
    repeat (go_big_quiet_step (fail))
    by_cases c2 : 2000 < u.id
    · rw [show decide (2000 < u.id) = true from decide_eq_true c2]
      repeat (go_big_quiet_step (fail))
      refine wpQuiet_nil ?_
      intro w2 hb2
      go_wp2_with fail
      go_ret
      exact ⟨ret1 (nat_is 1 (HE.out (by first | exact (Or.inr (Or.inr (Or.inl c2))) | (simp; done) | (simp; omega)))), HB.out.trans (hb2.mono (by omega))⟩
    rw [show decide (2000 < u.id) = false from decide_eq_false c2]
    repeat (go_big_quiet_step (fail))
    cases b2
    · simp only [Bool.not_false]
      repeat (go_big_quiet_step (fail))
      refine wpQuiet_nil ?_
      intro w2 hb2
      go_wp2_with fail
      go_ret
      exact ⟨ret1 (nat_is 1 (HE.out (by first | exact (Or.inr (Or.inr (Or.inr (Or.inl rfl)))) | (simp; done) | (simp; omega)))), HB.out.trans (hb2.mono (by omega))⟩
    simp only [Bool.not_true]
    repeat (go_big_quiet_step (fail))
    by_cases c4 : u.hp < 1
    · rw [show decide (u.hp < 1) = true from decide_eq_true c4]
      repeat (go_big_quiet_step (fail))
      refine wpQuiet_nil ?_
      intro w2 hb2
      go_wp2_with fail
      go_ret
      exact ⟨ret1 (nat_is 1 (HE.out (by first | exact (Or.inr (Or.inr (Or.inr (Or.inr (Or.inl c4))))) | (simp; done) | (simp; omega)))), HB.out.trans (hb2.mono (by omega))⟩
    rw [show decide (u.hp < 1) = false from decide_eq_false c4]
    repeat (go_big_quiet_step (fail))
    by_cases c5 : m < u.hp
    · rw [show decide (m < u.hp) = true from decide_eq_true c5]
      repeat (go_big_quiet_step (fail))
      refine wpQuiet_nil ?_
      intro w2 hb2
      go_wp2_with fail
      go_ret
      exact ⟨ret1 (nat_is 1 (HE.out (by first | exact (Or.inr (Or.inr (Or.inr (Or.inr (Or.inr (Or.inl c5)))))) | (simp; done) | (simp; omega)))), HB.out.trans (hb2.mono (by omega))⟩
    rw [show decide (m < u.hp) = false from decide_eq_false c5]
    repeat (go_big_quiet_step (fail))
    by_cases c6 : u.does < 0
    · rw [show decide (u.does < 0) = true from decide_eq_true c6]
      repeat (go_big_quiet_step (fail))
      refine wpQuiet_nil ?_
      intro w2 hb2
      go_wp2_with fail
      go_ret
      exact ⟨ret1 (nat_is 1 (HE.out (by first | exact (Or.inr (Or.inr (Or.inr (Or.inr (Or.inr (Or.inr (Or.inl c6))))))) | (simp; done) | (simp; omega)))), HB.out.trans (hb2.mono (by omega))⟩
    rw [show decide (u.does < 0) = false from decide_eq_false c6]
    repeat (go_big_quiet_step (fail))
    by_cases c7 : 3 < u.does
    · rw [show decide (3 < u.does) = true from decide_eq_true c7]
      repeat (go_big_quiet_step (fail))
      refine wpQuiet_nil ?_
      intro w2 hb2
      go_wp2_with fail
      go_ret
      exact ⟨ret1 (nat_is 1 (HE.out (by first | exact (Or.inr (Or.inr (Or.inr (Or.inr (Or.inr (Or.inr (Or.inr (Or.inl c7)))))))) | (simp; done) | (simp; omega)))), HB.out.trans (hb2.mono (by omega))⟩
    rw [show decide (3 < u.does) = false from decide_eq_false c7]
    repeat (go_big_quiet_step (fail))
    by_cases c8 : u.target < 0
    · rw [show decide (u.target < 0) = true from decide_eq_true c8]
      repeat (go_big_quiet_step (fail))
      refine wpQuiet_nil ?_
      intro w2 hb2
      go_wp2_with fail
      go_ret
      exact ⟨ret1 (nat_is 1 (HE.out (by first | exact (Or.inr (Or.inr (Or.inr (Or.inr (Or.inr (Or.inr (Or.inr (Or.inr (Or.inl c8))))))))) | (simp; done) | (simp; omega)))), HB.out.trans (hb2.mono (by omega))⟩
    rw [show decide (u.target < 0) = false from decide_eq_false c8]
    repeat (go_big_quiet_step (fail))
    by_cases c9 : 2000 < u.target
    · rw [show decide (2000 < u.target) = true from decide_eq_true c9]
      repeat (go_big_quiet_step (fail))
      refine wpQuiet_nil ?_
      intro w2 hb2
      go_wp2_with fail
      go_ret
      exact ⟨ret1 (nat_is 1 (HE.out (by first | exact (Or.inr (Or.inr (Or.inr (Or.inr (Or.inr (Or.inr (Or.inr (Or.inr (Or.inr (Or.inl c9)))))))))) | (simp; done) | (simp; omega)))), HB.out.trans (hb2.mono (by omega))⟩
    rw [show decide (2000 < u.target) = false from decide_eq_false c9]
    repeat (go_big_quiet_step (fail))
    by_cases c10 : u.since < 0
    · rw [show decide (u.since < 0) = true from decide_eq_true c10]
      repeat (go_big_quiet_step (fail))
      refine wpQuiet_nil ?_
      intro w2 hb2
      go_wp2_with fail
      go_ret
      exact ⟨ret1 (nat_is 1 (HE.out (by first | exact (Or.inr (Or.inr (Or.inr (Or.inr (Or.inr (Or.inr (Or.inr (Or.inr (Or.inr (Or.inr (⟨rfl, Or.inl c10⟩))))))))))) | (simp; done) | (simp; omega)))), HB.out.trans (hb2.mono (by omega))⟩
    rw [show decide (u.since < 0) = false from decide_eq_false c10]
    repeat (go_big_quiet_step (fail))
    by_cases c11 : tick < u.since
    · rw [show decide (tick < u.since) = true from decide_eq_true c11]
      repeat (go_big_quiet_step (fail))
      refine wpQuiet_nil ?_
      intro w2 hb2
      go_wp2_with fail
      go_ret
      exact ⟨ret1 (nat_is 1 (HE.out (by first | exact (Or.inr (Or.inr (Or.inr (Or.inr (Or.inr (Or.inr (Or.inr (Or.inr (Or.inr (Or.inr (⟨rfl, Or.inr c11⟩))))))))))) | (simp; done) | (simp; omega)))), HB.out.trans (hb2.mono (by omega))⟩
    rw [show decide (tick < u.since) = false from decide_eq_false c11]
    repeat (go_big_quiet_step (fail))
    refine wpQuiet_nil ?_
    intro w2 hb2
    have HN : Hid (oneFault true tick u = if u.owner < 0 ∨ 2 < u.owner ∨ ¬ (u.owner = 2 ↔ u.kind = 4) then 3 else if (u.does = 1 ∧ (b3 = false ∨ r.speed = 0)) ∨ (¬ u.does = 1 ∧ (u.gx ≠ 0 ∨ u.gy ≠ 0)) ∨ ¬ (1 < u.does ↔ 0 < u.target) then 3 else 0) := Lib.hid (HQ.out (by
      rintro (h | h | h | h | h | h | h | h | h | h | h)
      all_goals first | (cases h; done) | omega | (rcases h with ⟨h1, h2⟩; first | (cases h1; done) | omega)))
    have HB2' : Hid (Below w.heap.size w w2) := Lib.hid (HB.out.trans (hb2.mono (by omega)))
    have hc2 := (bcell hb2).1
    clear hb2 hcw HE HQ
    go_wp2_with (go_at_call 102; refine (refOn _ _ _).mono ?_; rintro e w3 ⟨rfl, rfl⟩; rw [HB3.out])
    all_goals
      go_ret
      refine ⟨ret1 ?_, HB2'.out⟩
      first
        | refine nat_is 0 ?_
        | refine nat_is 3 ?_
      have hn := HN.out
      go_light
      clear hc2 hc1 c1 c3 l1 l3 hS1 hw1 hs1 hsz hS
      rw [hn]
      clear hn
      repeat' split
      all_goals first | rfl | (exfalso; simp_all; done) | (exfalso; simp_all <;> omega) | (exfalso; rcases Classical.em (1 < u.does) with q1 | q1 <;> rcases Classical.em (0 < u.target) with q2 | q2 <;> rcases Classical.em (u.owner = 2) with q3 | q3 <;> rcases Classical.em (u.kind = 4) with q4 | q4 <;> simp_all <;> omega) | (exfalso; rcases ‹(u.owner < 0 ∨ 2 < u.owner) ∨ (!(u.owner == 2) == (u.kind == 4)) = true› with h | h <;> first | (omega; done) | exact bx h (by constructor <;> intro <;> omega)) | (exfalso; rcases Classical.em (u.gx = 0) with p1 | p1 <;> rcases Classical.em (u.gy = 0) with p2 | p2 <;> cases b3 <;> rcases Classical.em (r.speed = 0) with p3 | p3 <;> rcases Classical.em (u.does = 1) with p4 | p4 <;> rcases Classical.em (0 < u.target) with q2 | q2 <;> simp_all <;> omega)
end Go.Proofs.Ytlfljlhppigejab
namespace Go.Proofs.Ytlfljlhppigejab

theorem fault_aims {g : G} (h : ¬ headBad g) (hm : ¬ (20 < g.us.length ∨ 200 < g.free.length)) (he : eachFault g.new g.tick g.next [] g.us = 0) {j : Nat} (hj : j < g.us.length) (ha : aimsOk g.new g.us (g.us.getD j zeroU) = false) : faultOf g = 3 := by
  rw [fault_rest h hm, if_neg (by omega), if_pos]
  rw [List.all_eq_false]
  rw [getD_lt hj] at ha
  exact ⟨g.us[j], List.getElem_mem hj, by rw [ha]; simp⟩
theorem all_aims {n : Bool} {us : List U} (ha : ∀ j, j < us.length → aimsOk n us (us.getD j zeroU) = true) : us.all (aimsOk n us) = true := by
  rw [List.all_eq_true]
  intro u hu
  obtain ⟨j, hj, rfl⟩ := List.mem_iff_getElem.1 hu
  have := ha j hj
  rwa [getD_lt hj] at this
theorem fault_free {g : G} (h : ¬ headBad g) (hm : ¬ (20 < g.us.length ∨ 200 < g.free.length)) (he : eachFault g.new g.tick g.next [] g.us = 0) (ha : ∀ j, j < g.us.length → aimsOk g.new g.us (g.us.getD j zeroU) = true) (hn : g.new = false) (hf : freeOk g.next g.free g.us = false) : faultOf g = 3 := by
  rw [fault_rest h hm, if_neg (by omega), if_neg (by rw [all_aims ha]; simp), if_pos ⟨hn, hf⟩]
theorem fault_none {g : G} (h : ¬ headBad g) (hm : ¬ (20 < g.us.length ∨ 200 < g.free.length)) (he : eachFault g.new g.tick g.next [] g.us = 0) (ha : ∀ j, j < g.us.length → aimsOk g.new g.us (g.us.getD j zeroU) = true) (hf : g.new = false → freeOk g.next g.free g.us = true) : faultOf g = 0 := by
  rw [fault_rest h hm, if_neg (by omega), if_neg (by rw [all_aims ha]; simp), if_neg]
  rintro ⟨h1, h2⟩
  rw [hf h1] at h2
  cases h2
theorem hasId_next {us : List U} {k : Nat} (hk : k < us.length) {u : U} (hu : us.getD k zeroU = u) (id : Int) : hasId (us.take (k + 1)) id = (hasId (us.take k) id || u.id == id) := by
  rw [take_at hk, hu, hasId_snoc]
theorem stands_next {us : List U} {k : Nat} (hk : k < us.length) {u : U} (hu : us.getD k zeroU = u) (x y : Int) : standsAt (us.take (k + 1)) x y = (standsAt (us.take k) x y || (u.x == x && u.y == y)) := by
  rw [take_at hk, hu, stands_snoc]
end Go.Proofs.Ytlfljlhppigejab
namespace Go.Proofs.Ytlfljlhppigejab
open Go.RowKit

theorem refone_any (n : Bool) (S : Nat) (u : U) (tick : Int) (w : World) (hS : S < w.heap.size) (h0 : w.cell? ⟨S, 0, none⟩ = some (.bool n)) (h1 : w.cell? ⟨S, 1, none⟩ = some (.int .i64 tick)) :
   Calls Try.prog 72 #[.pointer (some ⟨S, 0, none⟩), .agg #[.int .i64 u.id, .int .i64 u.owner, .int .i64 u.kind, .int .i64 u.x, .int .i64 u.y, .int .i64 u.hp, .int .i64 u.does, .int .i64 u.gx, .int .i64 u.gy, .int .i64 u.target, .int .i64 u.since]] w fun e w' => e = .returned (.int .i64 (oneFault n tick u : Nat)) ∧ Below w.heap.size w w' := by
  cases n
  · exact refone_old S u tick w hS h0 h1
  · exact refone_new S u tick w hS h0 h1
theorem nat_int {f c : Nat} (h : f = c) : Value.int .i64 (c : Int) = .int .i64 (f : Int) := by rw [h]
/-- Of the IDs below k + 1 each is free or has one. -/
def frUpTo (free : List Int) (us : List U) (k : Nat) : Prop := ∀ i, i < k → free.count ((i : Int) + 1) + (if us.any (fun u => u.id == (i : Int) + 1) then 1 else 0) = 1
theorem frOk_iff (next : Int) (free : List Int) (us : List U) : freeOk next free us = true ↔ frUpTo free us (next - 1).toNat ∧ ((free.length + us.length : Nat) : Int) = next - 1 := by
  unfold freeOk frUpTo
  rw [Bool.and_eq_true, decide_eq_true_eq, List.all_eq_true]
  constructor
  · rintro ⟨h1, h2⟩
    exact ⟨fun i hi => by simpa using h1 i (List.mem_range.2 hi), h2⟩
  · rintro ⟨h1, h2⟩
    exact ⟨fun i hi => by simpa using h1 i (List.mem_range.1 hi), h2⟩
theorem count_take (l : List Int) (k : Nat) (hk : k < l.length) (x y : Int) (hx : l.getD k 0 = x) : (l.take (k + 1)).count y = (l.take k).count y + if x = y then 1 else 0 := by
  have e : l[k] = x := by rw [← hx]; simp [List.getD, hk]
  rw [List.take_succ_eq_append_getElem hk, List.count_append, e]
  by_cases h : x = y
  · rw [if_pos h, h]; simp
  · rw [if_neg h]; simp [h]
theorem any_ix (us : List U) (id : Int) : (us.any (fun u => u.id == id)) = decide (0 ≤ ixOf us id) := by
  rcases ix_find us id with ⟨h1, h2⟩ | ⟨k, u, h1, h2, h3, h4, h5⟩
  · rw [decide_eq_false (by omega), List.any_eq_false]
    intro u hu
    have := find_none_iff.1 h2 u hu
    simpa using this
  · rw [decide_eq_true (by omega), List.any_eq_true]
    exact ⟨u, (find_some h4).1, by simpa using (find_some h4).2⟩

set_option maxHeartbeats 12800000 in
set_option maxRecDepth 100000 in
theorem reffault_any (g : G) (S : Nat) (fa ua : Option Addr) (cf cu : Nat) (bv : Value) (hlf : g.free.length ≤ 100000) (hlu : g.us.length ≤ 100000) (w : World) (hK : Blk w S #[.bool g.new, .int .i64 g.tick, .int .i64 g.g0, .int .i64 g.g1, .int .i64 g.next, .slice fa g.free.length cf, .slice ua g.us.length cu, bv])
    (hf : Row w.heap.size w fa g.free.length (fun k => .int .i64 (g.free.getD k 0))) (hu : URow true w.heap.size w ua g.us) :
    Calls Try.prog 30 #[.pointer (some ⟨S, 0, none⟩)] w fun e w' => e = .returned (.int .i64 (faultOf g : Nat)) ∧ Below w.heap.size w w' := by
  obtain ⟨lS, cS, -⟩ := id hK
  have HK := Lib.hid hK
  have HF := Lib.hid hf
  have HU := Lib.hid hu
  have h0 : w.cell? ⟨S, 0, none⟩ = some (.bool g.new) := cS 0
  obtain ⟨top, htop⟩ : ∃ x, topOf g.new = x := ⟨_, rfl⟩
  obtain ⟨rich, hrich⟩ : ∃ x, richOf g.new = x := ⟨_, rfl⟩
  have htr : 0 ≤ top ∧ top ≤ 2000 := by rw [← htop]; cases g.new <;> decide
  have hw1 : IntKind.i64.wrap (top + 1) = top + 1 := IntWalk.i64_in _ (by omega)
  have HB : Hid (headBad g ↔ (g.tick < 0 ∨ 60 < g.tick ∨ g.next < 1 ∨ top + 1 < g.next ∨ g.g0 < 0 ∨ rich < g.g0 ∨ g.g1 < 0 ∨ rich < g.g1)) := Lib.hid (by rw [← htop, ← hrich]; rfl)
  have HTOP := Lib.hid htop
  clear hK hf hu
  go_enter Try.func30, Try.ntmps30
  go_wp2_with fail
  refine (bounds_any g.new S _ h0).mono ?_
  rintro e w' ⟨rfl, rfl⟩
  rw [htop, hrich]
  clear htop hrich h0
  by_cases t0 : g.tick < 0
  · have d : decide (g.tick < 0) = true := decide_eq_true t0
    have HH : Hid (faultOf g = 1) := Lib.hid (fault_head (HB.out.2 (Or.inl t0)))
    clear t0
    go_wp2_with fail
    go_ret
    exact ⟨ret1 (nat_int HH.out), Below.refl _ _⟩
  have d0 : decide (g.tick < 0) = false := decide_eq_false t0
  by_cases t1 : 60 < g.tick
  · have d : decide (60 < g.tick) = true := decide_eq_true t1
    have HH : Hid (faultOf g = 1) := Lib.hid (fault_head (HB.out.2 (Or.inr (Or.inl t1))))
    clear t0 t1
    go_wp2_with fail
    go_ret
    exact ⟨ret1 (nat_int HH.out), Below.refl _ _⟩
  have d1 : decide (60 < g.tick) = false := decide_eq_false t1
  by_cases t2 : g.next < 1
  · have d : decide (g.next < 1) = true := decide_eq_true t2
    have HH : Hid (faultOf g = 1) := Lib.hid (fault_head (HB.out.2 (Or.inr (Or.inr (Or.inl t2)))))
    clear t0 t1 t2
    go_wp2_with fail
    go_ret
    exact ⟨ret1 (nat_int HH.out), Below.refl _ _⟩
  have d2 : decide (g.next < 1) = false := decide_eq_false t2
  by_cases t3 : top + 1 < g.next
  · have d : decide (top + 1 < g.next) = true := decide_eq_true t3
    have HH : Hid (faultOf g = 1) := Lib.hid (fault_head (HB.out.2 (Or.inr (Or.inr (Or.inr (Or.inl t3))))))
    clear t0 t1 t2 t3
    go_wp2_with fail
    go_ret
    exact ⟨ret1 (nat_int HH.out), Below.refl _ _⟩
  have d3 : decide (top + 1 < g.next) = false := decide_eq_false t3
  by_cases t4 : g.g0 < 0
  · have d : decide (g.g0 < 0) = true := decide_eq_true t4
    have HH : Hid (faultOf g = 1) := Lib.hid (fault_head (HB.out.2 (Or.inr (Or.inr (Or.inr (Or.inr (Or.inl t4)))))))
    clear t0 t1 t2 t3 t4
    go_wp2_with fail
    go_ret
    exact ⟨ret1 (nat_int HH.out), Below.refl _ _⟩
  have d4 : decide (g.g0 < 0) = false := decide_eq_false t4
  by_cases t5 : rich < g.g0
  · have d : decide (rich < g.g0) = true := decide_eq_true t5
    have HH : Hid (faultOf g = 1) := Lib.hid (fault_head (HB.out.2 (Or.inr (Or.inr (Or.inr (Or.inr (Or.inr (Or.inl t5))))))))
    clear t0 t1 t2 t3 t4 t5
    go_wp2_with fail
    go_ret
    exact ⟨ret1 (nat_int HH.out), Below.refl _ _⟩
  have d5 : decide (rich < g.g0) = false := decide_eq_false t5
  by_cases t6 : g.g1 < 0
  · have d : decide (g.g1 < 0) = true := decide_eq_true t6
    have HH : Hid (faultOf g = 1) := Lib.hid (fault_head (HB.out.2 (Or.inr (Or.inr (Or.inr (Or.inr (Or.inr (Or.inr (Or.inl t6)))))))))
    clear t0 t1 t2 t3 t4 t5 t6
    go_wp2_with fail
    go_ret
    exact ⟨ret1 (nat_int HH.out), Below.refl _ _⟩
  have d6 : decide (g.g1 < 0) = false := decide_eq_false t6
  by_cases t7 : rich < g.g1
  · have d : decide (rich < g.g1) = true := decide_eq_true t7
    have HH : Hid (faultOf g = 1) := Lib.hid (fault_head (HB.out.2 (Or.inr (Or.inr (Or.inr (Or.inr (Or.inr (Or.inr (Or.inr (t7))))))))))
    clear t0 t1 t2 t3 t4 t5 t6 t7
    go_wp2_with fail
    go_ret
    exact ⟨ret1 (nat_int HH.out), Below.refl _ _⟩
  have d7 : decide (rich < g.g1) = false := decide_eq_false t7
  have hhead : ¬ headBad g := by
    intro h
    have h1 := HB.out.1 h
    omega
  have HHEAD := Lib.hid hhead
  clear hhead t0 t1 t2 t3 t4 t5 t6 t7
  have hN0 : 1 ≤ g.next ∧ g.next ≤ 2001 := by
    have h := HHEAD.out
    rw [HB.out] at h
    omega
  by_cases m20 : 20 < g.us.length
  · have d : decide ((20 : Int) < (g.us.length : Int)) = true := decide_eq_true (by omega)
    have HH : Hid (faultOf g = 2) := Lib.hid (fault_many HHEAD.out (Or.inl m20))
    clear m20
    go_wp2_with fail
    go_ret
    exact ⟨ret1 (nat_int HH.out), Below.refl _ _⟩
  have d20 : decide ((20 : Int) < (g.us.length : Int)) = false := decide_eq_false (by omega)
  by_cases m200 : 200 < g.free.length
  · have d : decide ((200 : Int) < (g.free.length : Int)) = true := decide_eq_true (by omega)
    have HH : Hid (faultOf g = 2) := Lib.hid (fault_many HHEAD.out (Or.inr m200))
    clear m200
    go_wp2_with fail
    go_ret
    exact ⟨ret1 (nat_int HH.out), Below.refl _ _⟩
  have d200 : decide ((200 : Int) < (g.free.length : Int)) = false := decide_eq_false (by omega)
  have HFEW : Hid (¬ (20 < g.us.length ∨ 200 < g.free.length)) := Lib.hid (by show ¬ _; omega)
  have hn0 : (0 : Int) ≤ (g.us.length : Int) := by omega
  go_wp2_with fail
  clear d0 d1 d2 d3 d4 d5 d6 d7 d20 d200
  go_loopw [5, 6, 7] (fun a _ _ wr => ∃ k : Nat, a = .int .i64 k ∧ k ≤ g.us.length ∧ (eachUpTo g.new g.tick g.next g.us k ∧ Below w.heap.size w wr)) (fun a _ _ _ => (g.us.length - intOf a).toNat)
  case atStart => exact ⟨0, rfl, by omega, eachUpTo_zero _ _ _ _, Below.refl _ _⟩
  case round =>
    obtain ⟨k, rfl, hk, hE, hX⟩ := hrel
    have HX := Lib.hid hX
    have HE := Lib.hid hE
    have hszr := hX.size
    obtain ⟨lSr, cSr, -⟩ := id (HK.out.call hX)
    have HKR := Lib.hid (HK.out.call hX)
    have HUR := Lib.hid ((HU.out.below hX).mono hszr)
    clear hE hX cS
    by_cases hlt : k < g.us.length
    · obtain ⟨u, hu⟩ : ∃ u, g.us.getD k zeroU = u := ⟨_, rfl⟩
      obtain ⟨b, o, hua, hbB, q0, q1, q2, q3, q4, q5, q6, q7, q8, q9, q10⟩ := HUR.out.getN k hlt u hu
      subst hua
      have hki : (0 : Int) ≤ (k : Int) := by omega
      have hkl : (k : Int) < (g.us.length : Int) := by omega
      have HUu := Lib.hid hu
      clear hu
      go_wp2_with fail
      refine (refone_any g.new S u g.tick _ lSr (cSr 0) (cSr 1)).mono ?_
      rintro e w2 ⟨rfl, b2⟩
      have hs2 := b2.size
      have HR2 : Hid (Below w.heap.size w w2) := Lib.hid (HX.out.trans (b2.mono hszr))
      obtain ⟨lS2, cS2, -⟩ := id (HKR.out.call b2)
      have HU2 := Lib.hid ((HUR.out.below b2).mono hs2)
      by_cases hone : oneFault g.new g.tick u = 0
      case neg =>
        have HH : Hid (faultOf g = oneFault g.new g.tick u) := Lib.hid (fault_each HHEAD.out HFEW.out (each_one HE.out hlt HUu.out hone) hone)
        obtain ⟨F, hF⟩ : ∃ F, oneFault g.new g.tick u = F := ⟨_, rfl⟩
        rw [hF] at hone HH ⊢
        have dpos : decide ((0 : Int) < (F : Int)) = true := decide_eq_true (by omega)
        have dpos2 : decide (0 < F) = true := decide_eq_true (by omega)
        clear hone hF b2 q0 q1 q2 q3 q4 q5 q6 q7 q8 q9 q10 cSr
        go_wp2_with fail
        go_ret
        exact ⟨ret1 (nat_int HH.out), HR2.out⟩
      rw [hone]
      have HONE := Lib.hid hone
      clear hone b2 q0 q1 q2 q3 q4 q5 q6 q7 q8 q9 q10 cSr
      obtain ⟨b', o', hua', -, q0, q1, q2, q3, q4, -⟩ := HU2.out.getN k hlt u HUu.out
      cases hua'
      have hb2l : b < w2.heap.size := by omega
      have misOut : misfit g.next g.us k u → faultOf g = 3 := fun h => fault_each HHEAD.out HFEW.out (each_shape HE.out hlt HUu.out HONE.out h) (by decide)
      have MIS := Lib.hid misOut
      clear misOut q1 q2
      haveI := Cw.ne w2
      have hcw := fun (x : Cw w2) => x.cell
      by_cases hA : g.next ≤ u.id
      · have dA : decide (g.next ≤ u.id) = true := decide_eq_true hA
        have HH : Hid (faultOf g = 3) := Lib.hid (MIS.out (Or.inl hA))
        clear hA
        go_upto_region 12 with fail
        refine region_cw (by kernel_rfl) (by kernel_rfl) ?_
        repeat (go_big_quiet_step (fail))
        refine wpQuiet_nil ?_
        intro Z hZ
        have HZ := Lib.hid hZ
        clear hZ hcw cS2
        go_wp2_with fail
        go_ret
        exact ⟨ret1 (nat_int HH.out), HR2.out.trans (HZ.out.mono HR2.out.size)⟩
      have dA : decide (g.next ≤ u.id) = false := decide_eq_false hA
      by_cases hprev : 0 < k ∧ u.id ≤ (g.us.getD (k - 1) zeroU).id
      · obtain ⟨m, rfl⟩ : ∃ m, k = m + 1 := ⟨k - 1, by omega⟩
        obtain ⟨p, hp⟩ : ∃ p, g.us.getD m zeroU = p := ⟨_, rfl⟩
        obtain ⟨b', o', hua', -, p0, -⟩ := HU2.out.getN m (by omega) p hp
        cases hua'
        have hle := hprev.2
        rw [show m + 1 - 1 = m by omega, hp] at hle
        have HH : Hid (faultOf g = 3) := Lib.hid (MIS.out (Or.inr (Or.inl hprev)))
        have d0 : decide ((0 : Int) < ((m + 1 : Nat) : Int)) = true := decide_eq_true (by omega)
        have dB : decide (u.id ≤ p.id) = true := decide_eq_true hle
        have hm0 : (0 : Int) ≤ (m : Int) := by omega
        have hml : (m : Int) < (g.us.length : Int) := by omega
        have hws : IntKind.i64.wrap (((m + 1 : Nat) : Int) - 1) = (m : Int) := by rw [IntWalk.i64_in _ (by omega)]; omega
        have hws2 : ((m + 1 : Nat) : Int) - 1 = (m : Int) := by omega
        have hws3 : (m : Int) + 1 - 1 = (m : Int) := by omega
        clear hp hle hprev hA
        go_upto_region 12 with fail
        refine region_cw (by kernel_rfl) (by kernel_rfl) ?_
        repeat (go_big_quiet_step (fail))
        refine wpQuiet_nil ?_
        intro Z hZ
        have HZ := Lib.hid hZ
        clear hZ hcw cS2
        go_wp2_with fail
        go_ret
        exact ⟨ret1 (nat_int HH.out), HR2.out.trans (HZ.out.mono HR2.out.size)⟩
      have HPREV := Lib.hid hprev
      have HA := Lib.hid hA
      go_upto_region 12 with fail
      go_cut [151] (fun s wx => s = .bool false ∧ Below w2.heap.size w2 wx)
      case first =>
        refine region_cw (by kernel_rfl) (by kernel_rfl) ?_
        by_cases hk0 : k = 0
        · have d0 : decide ((0 : Int) < (k : Int)) = false := decide_eq_false (by omega)
          have d0' : decide (0 < k) = false := decide_eq_false (by omega)
          clear hprev hA hk0
          repeat (go_big_quiet_step (fail))
          refine wpQuiet_nil ?_
          intro Z hZ
          go_wp2_with fail
          go_meet
          exact ⟨rfl, hZ⟩
        · obtain ⟨m, rfl⟩ : ∃ m, k = m + 1 := ⟨k - 1, by omega⟩
          obtain ⟨p, hp⟩ : ∃ p, g.us.getD m zeroU = p := ⟨_, rfl⟩
          obtain ⟨b', o', hua', -, p0, -⟩ := HU2.out.getN m (by omega) p hp
          cases hua'
          have hle : ¬ u.id ≤ p.id := by
            intro h
            refine hprev ⟨by omega, ?_⟩
            rw [show m + 1 - 1 = m by omega, hp]
            exact h
          have d0 : decide ((0 : Int) < ((m + 1 : Nat) : Int)) = true := decide_eq_true (by omega)
          have dB : decide (u.id ≤ p.id) = false := decide_eq_false hle
          have hm0 : (0 : Int) ≤ (m : Int) := by omega
          have hml : (m : Int) < (g.us.length : Int) := by omega
          have hws : IntKind.i64.wrap (((m + 1 : Nat) : Int) - 1) = (m : Int) := by rw [IntWalk.i64_in _ (by omega)]; omega
          have hws2 : ((m + 1 : Nat) : Int) - 1 = (m : Int) := by omega
          have hws3 : (m : Int) + 1 - 1 = (m : Int) := by omega
          clear hp hle hprev hA hk0
          repeat (go_big_quiet_step (fail))
          refine wpQuiet_nil ?_
          intro Z hZ
          go_wp2_with fail
          go_meet
          exact ⟨rfl, hZ⟩
      case rest =>
        obtain ⟨rfl, hZ⟩ := hcut
        have hsz := hZ.size
        have HZR := Lib.hid (HR2.out.trans (hZ.mono HR2.out.size))
        obtain ⟨lSZ, cSZ, -⟩ := id (HK.out.call HZR.out)
        have HKZ := Lib.hid (HK.out.call HZR.out)
        have HUZ := Lib.hid ((HU2.out.below hZ).mono hsz)
        have hk0 : (0 : Int) ≤ (k : Int) := by omega
        clear hZ hcw cS2 q0 q3 q4 dA hprev hA
        go_wp2_with fail
        go_loopw [7] (fun a wz => ∃ m : Nat, a = .int .i64 m ∧ m ≤ k ∧ ((∀ j, j < m → ((g.us.getD j zeroU).x == u.x && (g.us.getD j zeroU).y == u.y) = false) ∧ Below wc.heap.size wc wz)) (fun a _ => (k - intOf a).toNat)
        case atStart => exact ⟨0, rfl, by omega, fun j hj => absurd hj (by omega), Below.refl _ _⟩
        case round =>
          obtain ⟨m, rfl, hm, hN, hY⟩ := hrel
          have HY := Lib.hid hY
          have HN := Lib.hid hN
          have hszy := hY.size
          obtain ⟨lSy, cSy, -⟩ := id (HKZ.out.call hY)
          have HUY := Lib.hid ((HUZ.out.below hY).mono hszy)
          have HYY := Lib.hid (HZR.out.trans (hY.mono (by have := HZR.out.size; omega)))
          clear hY hN cSZ
          by_cases hml : m < k
          · obtain ⟨v, hv⟩ : ∃ v, g.us.getD m zeroU = v := ⟨_, rfl⟩
            obtain ⟨b1, o1, hua1, hb1, -, -, -, v3, v4, -⟩ := HUY.out.getN m (by omega) v hv
            obtain ⟨b2, o2, hua2, -, -, -, -, u3, u4, -⟩ := HUY.out.getN k hlt u HUu.out
            cases hua1
            cases hua2
            have hmi : (0 : Int) ≤ (m : Int) := by omega
            have hmk : (m : Int) < (k : Int) := by omega
            have hmu : (m : Int) < (g.us.length : Int) := by omega
            have HV := Lib.hid hv
            haveI := Cw.ne wr
            have hcw := fun (x : Cw wr) => x.cell
            clear hv
            by_cases hx : v.x = u.x
            · have d1 : (v.x == u.x) = true := by simp [hx]
              by_cases hy : v.y = u.y
              · have d2 : (v.y == u.y) = true := by simp [hy]
                have HH : Hid (faultOf g = 3) := Lib.hid (MIS.out (Or.inr (Or.inr (by
                  unfold standsAt
                  rw [List.any_eq_true]
                  refine ⟨v, ?_, by simp [hx, hy]⟩
                  rw [← HV.out, getD_lt (by omega), List.mem_take_iff_getElem]
                  exact ⟨m, by omega, rfl⟩))))
                clear hx hy
                go_upto_region 17 with fail
                refine region_cw (by kernel_rfl) (by kernel_rfl) ?_
                repeat (go_big_quiet_step (fail))
                refine wpQuiet_nil ?_
                intro Z hZ
                have HZ := Lib.hid hZ
                clear hZ hcw cSy v3 v4 u3 u4
                go_wp2_with fail
                go_ret
                exact ⟨ret1 (nat_int HH.out), HYY.out.trans (HZ.out.mono HYY.out.size)⟩
              · have d2 : (v.y == u.y) = false := by simp [hy]
                have HE2 : Hid ((v.x == u.x && v.y == u.y) = false) := Lib.hid (by simp [hy])
                clear hx hy
                go_upto_region 17 with fail
                refine region_cw (by kernel_rfl) (by kernel_rfl) ?_
                repeat (go_big_quiet_step (fail))
                refine wpQuiet_nil ?_
                intro Z hZ
                have HZ := Lib.hid hZ
                clear hZ hcw cSy v3 v4 u3 u4
                go_wp2_with fail
                go_roundw
                case rel =>
                  refine ⟨m + 1, by go_num, by omega, fun j hj => ?_, HY.out.trans (HZ.out.mono (by have := HY.out.size; omega))⟩
                  by_cases e : j = m
                  · rw [e, HV.out]; exact HE2.out
                  · exact HN.out j (by omega)
                case measure => simp [intOf]; omega
            · have d1 : (v.x == u.x) = false := by simp [hx]
              have HE2 : Hid ((v.x == u.x && v.y == u.y) = false) := Lib.hid (by simp [hx])
              clear hx
              go_upto_region 17 with fail
              refine region_cw (by kernel_rfl) (by kernel_rfl) ?_
              repeat (go_big_quiet_step (fail))
              refine wpQuiet_nil ?_
              intro Z hZ
              have HZ := Lib.hid hZ
              clear hZ hcw cSy v3 v4 u3 u4
              go_wp2_with fail
              go_roundw
              case rel =>
                refine ⟨m + 1, by go_num, by omega, fun j hj => ?_, HY.out.trans (HZ.out.mono (by have := HY.out.size; omega))⟩
                by_cases e : j = m
                · rw [e, HV.out]; exact HE2.out
                · exact HN.out j (by omega)
              case measure => simp [intOf]; omega
          · obtain rfl : m = k := by omega
            have HNEXT : Hid (eachUpTo g.new g.tick g.next g.us (m + 1)) := Lib.hid (each_next HE.out hlt HUu.out HONE.out (by
              rintro (h | h | h)
              · have := HA.out; omega
              · exact HPREV.out h
              · unfold standsAt at h
                rw [List.any_eq_true] at h
                obtain ⟨x, hx, hx2⟩ := h
                obtain ⟨j, hj, rfl⟩ := List.mem_take_iff_getElem.1 hx
                have := HN.out j (by omega)
                rw [getD_lt (by omega)] at this
                rw [this] at hx2
                cases hx2))
            go_wp2_with fail
            go_roundw
            case rel =>
              exact ⟨m + 1, by go_num, by omega, HNEXT.out, HYY.out⟩
            case measure => simp [intOf]; omega
    · obtain rfl : k = g.us.length := by omega
      obtain ⟨e0, e1, e2⟩ := each_all HE.out rfl
      have HEACH := Lib.hid e0
      have hn0 : (0 : Int) ≤ (g.us.length : Int) := by omega
      have AIMF : Hid (g.us.all (aimsOk g.new g.us) = false → faultOf g = 3) := Lib.hid (fun h => by rw [fault_rest HHEAD.out HFEW.out, HEACH.out, if_neg (by simp), if_pos h])
      clear e0 e1 e2
      go_wp2_with fail
      clear cSr
      go_loopw [8, 9] (fun a _ wy => ∃ k : Nat, a = .int .i64 k ∧ k ≤ g.us.length ∧ ((∀ j, j < k → aimsOk g.new g.us (g.us.getD j zeroU) = true) ∧ Below wr.heap.size wr wy)) (fun a _ _ => (g.us.length - intOf a).toNat)
      case atStart => exact ⟨0, rfl, by omega, fun j hj => absurd hj (by omega), Below.refl _ _⟩
      case round =>
        obtain ⟨k, rfl, hk, hA, hY⟩ := hrel
        have HY := Lib.hid hY
        have HAIM := Lib.hid hA
        have HYY := Lib.hid (HX.out.trans (hY.mono hszr))
        have hszy := HYY.out.size
        obtain ⟨lSy, cSy, -⟩ := id (HK.out.call HYY.out)
        have HKY := Lib.hid (HK.out.call HYY.out)
        have HUY := Lib.hid ((HU.out.below HYY.out).mono hszy)
        have HFY := Lib.hid ((HF.out.below HYY.out).mono hszy)
        clear hY hA
        by_cases hlt : k < g.us.length
        · obtain ⟨u, hu⟩ : ∃ u, g.us.getD k zeroU = u := ⟨_, rfl⟩
          obtain ⟨b, o, hua, hbB, q0, q1, q2, q3, q4, q5, q6, q7, q8, q9, q10⟩ := HUY.out.getN k hlt u hu
          subst hua
          have hki : (0 : Int) ≤ (k : Int) := by omega
          have hkl : (k : Int) < (g.us.length : Int) := by omega
          have HUu := Lib.hid hu
          have BAD : Hid (aimsOk g.new g.us u = false → faultOf g = 3) := Lib.hid (fun h => AIMF.out (by
            rw [List.all_eq_false]
            refine ⟨u, ?_, by rw [h]; simp⟩
            rw [← HUu.out, getD_lt hlt]
            exact List.getElem_mem hlt))
          clear hu
          by_cases ht : u.target = 0
          · have d1 : (u.target == 0) = true := by simp [ht]
            have HOKK : Hid (aimsOk g.new g.us u = true) := Lib.hid (by
              show _ = _
              unfold aimsOk
              exact decide_eq_true (Or.inl ht))
            clear ht
            go_wp2_with fail
            go_roundw
            case rel =>
              refine ⟨k + 1, by go_num, by omega, fun j hj => ?_, HY.out⟩
              by_cases e : j = k
              · rw [e, HUu.out]; exact HOKK.out
              · exact HAIM.out j (by omega)
            case measure => simp [intOf]; omega
          have d1 : (u.target == 0) = false := by simp [ht]
          have c6 : wr.cell? ⟨S, 6, none⟩ = some (.slice (some ⟨b, o, none⟩) g.us.length cu) := cSy 6
          have HT := Lib.hid ht
          clear ht
          go_wp2_with fail
          refine (who_any S (some ⟨b, o, none⟩) g.us.length cu g.us u.target rfl hlu _ c6 HUY.out).mono ?_
          rintro e w9 ⟨rfl, rfl⟩
          obtain ⟨x, hx⟩ : ∃ x, ixOf g.us u.target = x := ⟨_, rfl⟩
          rw [hx]
          have HX2 := Lib.hid hx
          have hxr := ixOf_range g.us u.target
          rw [hx] at hxr
          have haim : aimsOk g.new g.us u = decide (0 ≤ x ∧ mayDo g.new u (g.us.getD x.toNat zeroU) = u.does) := by
            unfold aimsOk
            rw [HX2.out, decide_eq_decide]
            have := HT.out
            constructor
            · rintro (h | h)
              · exact absurd h HT.out
              · exact h
            · exact Or.inr
          have HAI := Lib.hid haim
          haveI := Cw.ne wr
          have hcw := fun (x : Cw wr) => x.cell
          clear hx haim
          by_cases hx0 : x < 0
          · have d2 : decide (x < 0) = true := decide_eq_true hx0
            have HH : Hid (faultOf g = 3) := Lib.hid (BAD.out (by rw [HAI.out, decide_eq_false (by omega)]))
            clear hx0 hxr
            go_wp2_with fail
            refine region_cw (by kernel_rfl) (by kernel_rfl) ?_
            repeat (go_big_quiet_step (fail))
            refine wpQuiet_nil ?_
            intro Z hZ
            have HZ := Lib.hid hZ
            clear hZ hcw cSy
            go_wp2_with fail
            go_ret
            exact ⟨ret1 (nat_int HH.out), HYY.out.trans (HZ.out.mono HYY.out.size)⟩
          obtain ⟨m, rfl⟩ := Int.eq_ofNat_of_zero_le (show 0 ≤ x by omega)
          have hml : m < g.us.length := by omega
          obtain ⟨v, hv⟩ : ∃ v, g.us.getD m zeroU = v := ⟨_, rfl⟩
          obtain ⟨b', o', hua', hbB', p0, p1, p2, p3, p4, p5, p6, p7, p8, p9, p10⟩ := HUY.out.getN m hml v hv
          cases hua'
          have d2 : decide ((m : Int) < 0) = false := decide_eq_false (by omega)
          have hmi : (0 : Int) ≤ (m : Int) := by omega
          have hmu : (m : Int) < (g.us.length : Int) := by omega
          have hmay : ∀ x : Cw wr, Calls Try.prog 74 #[.pointer (some ⟨S, 0, none⟩), .agg #[.int .i64 u.id, .int .i64 u.owner, .int .i64 u.kind, .int .i64 u.x, .int .i64 u.y, .int .i64 u.hp, .int .i64 u.does, .int .i64 u.gx, .int .i64 u.gy, .int .i64 u.target, .int .i64 u.since], .agg #[.int .i64 v.id, .int .i64 v.owner, .int .i64 v.kind, .int .i64 v.x, .int .i64 v.y, .int .i64 v.hp, .int .i64 v.does, .int .i64 v.gx, .int .i64 v.gy, .int .i64 v.target, .int .i64 v.since]] x.w fun e w' => e = .returned (.int .i64 (mayDo g.new u v)) ∧ Below x.w.heap.size x.w w' := fun x => refmay_any g.new S u v x.w (Nat.lt_of_lt_of_le lSy x.le) ((x.cell _ _ lSy).trans (cSy 0))
          have HMAY := Lib.hid hmay
          rw [Int.toNat_natCast, hv] at HAI
          clear hmay hv hx0 hxr
          obtain ⟨r, hr⟩ : ∃ r, mayDo g.new u v = r := ⟨_, rfl⟩
          rw [hr] at HMAY HAI
          clear hr
          by_cases hrd : r = u.does
          · have d3 : (r != u.does) = false := by simp [hrd]
            have HOKK : Hid (aimsOk g.new g.us u = true) := Lib.hid (by show _ = _; rw [HAI.out, decide_eq_true ⟨hmi, hrd⟩])
            clear hrd
            go_wp2_with fail
            refine region_cw (by kernel_rfl) (by kernel_rfl) ?_
            repeat (go_big_quiet_step ((go_at_call 74; refine Calls.cw (HMAY.out _))))
            refine wpQuiet_nil ?_
            intro Z hZ
            have HZ := Lib.hid hZ
            clear hZ hcw cSy HMAY
            go_wp2_with fail
            go_roundw
            case rel =>
              refine ⟨k + 1, by go_num, by omega, fun j hj => ?_, HY.out.trans (HZ.out.mono (by have := HY.out.size; omega))⟩
              by_cases e : j = k
              · rw [e, HUu.out]; exact HOKK.out
              · exact HAIM.out j (by omega)
            case measure => simp [intOf]; omega
          · have d3 : (r != u.does) = true := by simp [hrd]
            have HH : Hid (faultOf g = 3) := Lib.hid (BAD.out (by rw [HAI.out, decide_eq_false (fun h => hrd h.2)]))
            clear hrd
            go_wp2_with fail
            refine region_cw (by kernel_rfl) (by kernel_rfl) ?_
            repeat (go_big_quiet_step ((go_at_call 74; refine Calls.cw (HMAY.out _))))
            refine wpQuiet_nil ?_
            intro Z hZ
            have HZ := Lib.hid hZ
            clear hZ hcw cSy HMAY
            go_wp2_with fail
            go_ret
            exact ⟨ret1 (nat_int HH.out), HYY.out.trans (HZ.out.mono HYY.out.size)⟩
        · obtain rfl : k = g.us.length := by omega
          have HALL : Hid (g.us.all (aimsOk g.new g.us) = true) := Lib.hid (by
            show _ = _
            rw [List.all_eq_true]
            intro u hu
            obtain ⟨j, hj, rfl⟩ := List.mem_iff_getElem.1 hu
            rw [← getD_lt hj]
            exact HAIM.out j hj)
          have HREST : Hid (faultOf g = if g.new = false ∧ freeOk g.next g.free g.us = false then 3 else 0) := Lib.hid (by
            show _ = _
            rw [fault_rest HHEAD.out HFEW.out, HEACH.out, if_neg (by simp), HALL.out, if_neg (by simp)])
          have h0y : wr.cell? ⟨S, 0, none⟩ = some (.bool g.new) := cSy 0
          cases hnw : g.new with
          | true =>
            rw [hnw] at h0y
            have HH : Hid (faultOf g = 0) := Lib.hid (by show _ = _; rw [HREST.out, if_neg (fun h => by rw [hnw] at h; cases h.1)])
            have c6 : wr.cell? ⟨S, 6, none⟩ = some (.slice ua g.us.length cu) := cSy 6
            clear hnw cSy
            go_wp2_with fail
            go_ret
            exact ⟨ret1 (nat_int HH.out), HYY.out⟩
          | false =>
            rw [hnw] at h0y
            have BAD : Hid (freeOk g.next g.free g.us = false → faultOf g = 3) := Lib.hid (fun h => by rw [HREST.out, if_pos ⟨hnw, h⟩])
            have GOOD : Hid (freeOk g.next g.free g.us = true → faultOf g = 0) := Lib.hid (fun h => by rw [HREST.out, if_neg (fun x => by rw [h] at x; cases x.2)])
            have c3 : wr.cell? ⟨S, 4, none⟩ = some (.int .i64 g.next) := cSy 4
            have c5 : wr.cell? ⟨S, 5, none⟩ = some (.slice fa g.free.length cf) := cSy 5
            have c6 : wr.cell? ⟨S, 6, none⟩ = some (.slice ua g.us.length cu) := cSy 6
            obtain ⟨N, hN⟩ : ∃ N : Nat, g.next = (N : Int) + 1 := ⟨(g.next - 1).toNat, by omega⟩
            have hNt : (g.next - 1).toNat = N := by omega
            have hN2 : N ≤ 2000 := by omega
            have FOK := Lib.hid (frOk_iff g.next g.free g.us)
            rw [hNt] at FOK
            have HNN := Lib.hid hN
            rw [hN] at c3
            clear hnw cSy hN hNt hN0
            go_wp2_with fail
            go_loopw [10, 11, 12] (fun a _ _ wy => ∃ k : Nat, a = .int .i64 (k + 1) ∧ k ≤ N ∧ (frUpTo g.free g.us k ∧ wr = wy)) (fun a _ _ _ => (N + 1 - intOf a).toNat)
            case atStart => exact ⟨0, rfl, by omega, fun i hi => absurd hi (by omega), rfl⟩
            case round =>
              obtain ⟨k, rfl, hk, hF, rfl⟩ := hrel
              have HFU := Lib.hid hF
              clear hF
              by_cases hlt : k < N
              · have hlt2 : (k : Int) < (N : Int) := by omega
                have hlf2 : (0 : Int) ≤ (g.free.length : Int) := by omega
                go_wp2_with fail
                go_loopw [11, 12] (fun c a wz => ∃ m : Nat, a = .int .i64 m ∧ m ≤ g.free.length ∧ c = .int .i64 ((g.free.take m).count ((k : Int) + 1) : Nat) ∧ wr = wz) (fun _ a _ => (g.free.length - intOf a).toNat)
                case atStart => exact ⟨0, rfl, by omega, by simp, rfl⟩
                case round =>
                  obtain ⟨m, rfl, hm, rfl, rfl⟩ := hrel
                  by_cases hml : m < g.free.length
                  · obtain ⟨x, hx⟩ : ∃ x, g.free.getD m 0 = x := ⟨_, rfl⟩
                    obtain ⟨b1, o1, rfl, hb1, fx⟩ := HFY.out m hml
                    dsimp only at fx
                    rw [hx] at fx
                    have hmi : (0 : Int) ≤ (m : Int) := by omega
                    have hmf : (m : Int) < (g.free.length : Int) := by omega
                    have hct := count_take g.free m hml x ((k : Int) + 1) hx
                    obtain ⟨C, hC⟩ : ∃ C, (g.free.take m).count ((k : Int) + 1) = C := ⟨_, rfl⟩
                    have hCl : C ≤ g.free.length := by rw [← hC]; exact Nat.le_trans List.count_le_length (by rw [List.length_take]; omega)
                    rw [hC] at hct ⊢
                    have hwC : IntKind.i64.wrap ((C : Int) + 1) = (C : Int) + 1 := IntWalk.i64_in _ (by omega)
                    clear hx hC
                    by_cases he : x = (k : Int) + 1
                    · have d1 : (x == (k : Int) + 1) = true := by simp [he]
                      rw [if_pos he] at hct
                      have HCT := Lib.hid hct
                      clear he hct
                      go_wp2_with fail
                      go_roundw
                      case rel => exact ⟨m + 1, by go_num, by omega, by rw [HCT.out]; go_num, trivial⟩
                      case measure => simp [intOf]; omega
                    · have d1 : (x == (k : Int) + 1) = false := by simp [he]
                      rw [if_neg he] at hct
                      have HCT := Lib.hid hct
                      clear he hct
                      go_wp2_with fail
                      go_roundw
                      case rel => exact ⟨m + 1, by go_num, by omega, by rw [HCT.out]; rfl, trivial⟩
                      case measure => simp [intOf]; omega
                  · obtain rfl : m = g.free.length := by omega
                    rw [List.take_length]
                    obtain ⟨C, hC⟩ : ∃ C, g.free.count ((k : Int) + 1) = C := ⟨_, rfl⟩
                    have hCl : C ≤ g.free.length := by rw [← hC]; exact List.count_le_length
                    have hwC : IntKind.i64.wrap ((C : Int) + 1) = (C : Int) + 1 := IntWalk.i64_in _ (by omega)
                    rw [hC]
                    have HC := Lib.hid hC
                    have hany := any_ix g.us ((k : Int) + 1)
                    obtain ⟨x, hx⟩ : ∃ x, ixOf g.us ((k : Int) + 1) = x := ⟨_, rfl⟩
                    rw [hx] at hany
                    have HANY := Lib.hid hany
                    have HX3 := Lib.hid hx
                    have NXT : Hid (C + (if decide (0 ≤ x) = true then 1 else 0) = 1 → frUpTo g.free g.us (k + 1)) := Lib.hid (fun h i hi => by
                      by_cases e : i = k
                      · rw [e, HC.out, HANY.out]; exact h
                      · exact HFU.out i (by omega))
                    have BAD2 : Hid (C + (if decide (0 ≤ x) = true then 1 else 0) ≠ 1 → faultOf g = 3) := Lib.hid (fun h => BAD.out (by
                      cases hh : freeOk g.next g.free g.us with
                      | false => rfl
                      | true =>
                        have := (FOK.out.1 hh).1 k hlt
                        rw [HC.out, HANY.out] at this
                        exact absurd this h))
                    clear hC hany hx
                    go_wp2_with fail
                    refine (who_any S ua g.us.length cu g.us ((k : Int) + 1) rfl hlu _ c6 HUY.out).mono ?_
                    rintro e w9 ⟨rfl, rfl⟩
                    rw [HX3.out]
                    by_cases hx0 : 0 ≤ x
                    · have d2 : decide (0 ≤ x) = true := decide_eq_true hx0
                      rw [d2, if_pos rfl] at NXT BAD2
                      clear hx0
                      by_cases hc1 : C + 1 = 1
                      · have d3 : (((C : Int) + 1) != 1) = false := by simp; omega
                        have d4 : (C : Int) + 1 = 1 := by omega
                        have HN3 := Lib.hid (NXT.out hc1)
                        have hC0 : C = 0 := by omega
                        subst hC0
                        go_wp2_with fail
                        go_roundw
                        case rel => exact ⟨k + 1, by go_num, by omega, HN3.out, trivial⟩
                        case measure => simp [intOf]; omega
                      · have d3 : (((C : Int) + 1) != 1) = true := by simp; omega
                        have HH := Lib.hid (BAD2.out hc1)
                        clear hc1
                        go_wp2_with fail
                        go_ret
                        exact ⟨ret1 (nat_int HH.out), HYY.out⟩
                    · have d2 : decide (0 ≤ x) = false := decide_eq_false hx0
                      rw [d2, if_neg (by simp)] at NXT BAD2
                      clear hx0
                      by_cases hc1 : C + 0 = 1
                      · have HN3 := Lib.hid (NXT.out hc1)
                        have hC0 : C = 1 := by omega
                        subst hC0
                        go_wp2_with fail
                        go_roundw
                        case rel => exact ⟨k + 1, by go_num, by omega, HN3.out, trivial⟩
                        case measure => simp [intOf]; omega
                      · have d3 : ((C : Int) != 1) = true := by simp; omega
                        have HH := Lib.hid (BAD2.out hc1)
                        clear hc1
                        go_wp2_with fail
                        go_ret
                        exact ⟨ret1 (nat_int HH.out), HYY.out⟩
              · obtain rfl : k = N := by omega
                have hw2 : IntKind.i64.wrap ((g.free.length : Int) + (g.us.length : Int)) = (g.free.length : Int) + (g.us.length : Int) := IntWalk.i64_in _ (by omega)
                have hw3 : IntKind.i64.wrap ((k : Int) + 1 - 1) = (k : Int) := by rw [IntWalk.i64_in _ (by omega)]; omega
                have hw4 : (k : Int) + 1 - 1 = (k : Int) := by omega
                haveI := Cw.ne wr
                have hcw := fun (x : Cw wr) => x.cell
                by_cases hl : (g.free.length : Int) + (g.us.length : Int) = (k : Int)
                · have d1 : ((g.free.length : Int) + (g.us.length : Int) != (k : Int)) = false := by simp [hl]
                  have HH : Hid (faultOf g = 0) := Lib.hid (GOOD.out (FOK.out.2 ⟨HFU.out, by rw [HNN.out]; omega⟩))
                  clear hl
                  go_wp2_with fail
                  refine region_cw (by kernel_rfl) (by kernel_rfl) ?_
                  repeat (go_big_quiet_step (fail))
                  refine wpQuiet_nil ?_
                  intro Z hZ
                  have HZ := Lib.hid hZ
                  clear hZ hcw
                  go_wp2_with fail
                  go_ret
                  exact ⟨ret1 (nat_int HH.out), HYY.out.trans (HZ.out.mono HYY.out.size)⟩
                · have d1 : ((g.free.length : Int) + (g.us.length : Int) != (k : Int)) = true := by simp [hl]
                  have HH : Hid (faultOf g = 3) := Lib.hid (BAD.out (by
                    cases hh : freeOk g.next g.free g.us with
                    | false => rfl
                    | true =>
                      have := (FOK.out.1 hh).2
                      rw [HNN.out] at this
                      omega))
                  clear hl
                  go_wp2_with fail
                  refine region_cw (by kernel_rfl) (by kernel_rfl) ?_
                  repeat (go_big_quiet_step (fail))
                  refine wpQuiet_nil ?_
                  intro Z hZ
                  have HZ := Lib.hid hZ
                  clear hZ hcw
                  go_wp2_with fail
                  go_ret
                  exact ⟨ret1 (nat_int HH.out), HYY.out.trans (HZ.out.mono HYY.out.size)⟩
end Go.Proofs.Ytlfljlhppigejab
namespace Go.Proofs.Ytlfljlhppigejab
open Go.RowKit
attribute [local go_sem] qOne qAt qUp qOneK

section
variable {P : Program} {ops : Array Oper} {X : Nat → Prop} {v : World}
/-- append(nil, s...) in a region. -/
theorem mix_copy {L : Act → Cli (InK X v) → Prop} {a : Act} {R : World → Prop} {hcl : ∀ w w', R w → Below w.heap.size w w' → R w'} {o : Oper} {r : List (Bool × Oper)} (s y : Operand) (t e : TypeId) (i : TypeInfo) (z : Value) (size bytes : Nat)
    (ho : o.op = .call { callee := .builtin .append, args := #[s, y], argTypes := #[t, t] }) (hg : o.guard = none) (ht : P.underlying t = some (.slice e)) (hi : P.info? e = some i) (hz : i.zero = some z)
    (hsize : i.size = size) (hby : i.bytes = bytes) (hzs : z.cells.size = size) (hsz : 0 < size) (sa : Option Addr) (m c : Nat) (news : List Value) (hl : news.length = m * size)
    (hs : a.eval s = .slice none 0 0) (hx : a.eval y = .slice sa m c)
    (hnews : ∀ w, Kp X v w → R w → 0 < m → ∃ b o, sa = some ⟨b, o, none⟩ ∧ ∀ j, j < m * size → w.cell? ⟨b, o + j, none⟩ = news[j]?) (h1 : ∀ u ∈ news, u.oneCell' = true) (h63 : m ≤ maxLen) (hbytes : m * bytes ≤ 140737488355328)
    (hk : ∀ g cap, wpMix P ops L r (a.put o.dst (.slice g m cap)) (kcl X v (fun w => w.ownsRow v.heap.size e size (.slice g m cap) m news ∧ R w)
      (fun w w' h hb => ⟨own_kp h.1 (kp_of hb (fun _ => False)) (fun _ _ x => x), hcl w w' h.2 hb⟩))) :
    wpMix P ops L ((true, o) :: r) a (kcl X v R hcl) := by
  refine mix_write (ι := Option Addr × Nat) (fun q => .slice q.1 m q.2) _ (by simp [Region.wanted, hg]) (fun w h => ?_) (fun q => hk q.1 q.2)
  obtain ⟨v', w', h2, h3, h4, h5⟩ := run_copy_of (P := P) w t o.type e i z size bytes ht hi hz hsize hby hzs hsz sa m c news hl (hnews w h.1 h.2) h1 h63 hbytes
  obtain ⟨ga, gc, rfl⟩ := own_slice h3
  refine ⟨(ga, gc), w', Or.inl ?_, h.1.then_ h4, own_base h3 h.1.size, hcl _ _ h.2 h4⟩
  unfold execOp
  simp only [ho, resolve, invoke, builtin, Sem.run_bind, Sem.run_pure, Result.andThen_ok, List.map_toArray, List.map_cons, List.map_nil, hs, hx, h2]
end

theorem own_le {w : World} {B s n : Nat} {e : TypeId} {v : Value} {xs : List Value} (h : w.ownsRow B e s v n xs) : n ≤ maxLen := by
  rcases h.2 with ⟨-, h2⟩ | ⟨g, cap, cur, -, -, -, h4, h5, -⟩
  · rw [h2]; simp [maxLen]
  · omega
theorem ints_in {w : World} {B n c : Nat} {a : Option Addr} {l : List Int} (hn : l.length = n) (h : w.ownsRow B 3 1 (.slice a n c) n (intCells l)) : Row w.heap.size w a n (fun k => .int .i64 (l.getD k 0)) := by
  obtain ⟨a', c', e, h'⟩ := ints_at hn h
  cases e
  exact h'
def gameC (g : G) (fv uv bv : Value) : Array Value := #[.bool g.new, .int .i64 g.tick, .int .i64 g.g0, .int .i64 g.g1, .int .i64 g.next, fv, uv, bv]
/-- The document's game. -/
structure GR (w : World) (B S : Nat) (g : G) (born : List Int) (fv uv bv : Value) : Prop where
  blk : Blk w S (gameC g fv uv bv)
  base : B ≤ S
  fr : w.ownsRow B 3 1 fv g.free.length (intCells g.free)
  us : w.ownsRow B 142 11 uv g.us.length (cellsAllN g.us)
  bo : w.ownsRow B 3 1 bv born.length (intCells born)
  sf : ∀ b, fv.ownBlock = some b → b ≠ S
  su : ∀ b, uv.ownBlock = some b → b ≠ S
  sb : ∀ b, bv.ownBlock = some b → b ≠ S
  fu : ∀ b, fv.ownBlock = some b → uv.ownBlock ≠ some b
  fb : ∀ b, fv.ownBlock = some b → bv.ownBlock ≠ some b
  ub : ∀ b, uv.ownBlock = some b → bv.ownBlock ≠ some b
theorem GR.kp {X : Nat → Prop} {w w' : World} {B S : Nat} {g : G} {born : List Int} {fv uv bv : Value} (h : GR w B S g born fv uv bv) (k : Kp X w w') (hS : ¬ X S) (hf : ∀ b, fv.ownBlock = some b → ¬ X b) (he : ∀ b, uv.ownBlock = some b → ¬ X b) (hb : ∀ b, bv.ownBlock = some b → ¬ X b) : GR w' B S g born fv uv bv :=
  ⟨h.blk.kp k hS, h.base, own_kp h.fr k hf, own_kp h.us k he, own_kp h.bo k hb, h.sf, h.su, h.sb, h.fu, h.fb, h.ub⟩
theorem GR.call {w w' : World} {B S : Nat} {g : G} {born : List Int} {fv uv bv : Value} (h : GR w B S g born fv uv bv) (k : Below w.heap.size w w') : GR w' B S g born fv uv bv :=
  h.kp (kp_of k (fun _ => False)) (fun x => x) (fun _ _ x => x) (fun _ _ x => x) (fun _ _ x => x)
/-- Its rows, as they are read. -/
theorem GR.rows {w : World} {B S : Nat} {g : G} {born : List Int} {fv uv bv : Value} (h : GR w B S g born fv uv bv) : ∃ fa cf ua cu, fv = .slice fa g.free.length cf ∧ uv = .slice ua g.us.length cu ∧ g.free.length ≤ maxLen ∧ g.us.length ≤ maxLen ∧
    Row w.heap.size w fa g.free.length (fun k => .int .i64 (g.free.getD k 0)) ∧ URow true w.heap.size w ua g.us := by
  obtain ⟨ua, cu, rfl, h2, h3, -⟩ := URow.of_ownN h.us
  obtain ⟨fa, cf, rfl⟩ := own_slice h.fr
  exact ⟨fa, cf, ua, cu, rfl, rfl, own_le h.fr, h2, ints_in rfl h.fr, h3⟩
theorem fault_game {w : World} {B S : Nat} {g : G} {born : List Int} {fv uv bv : Value} (h : GR w B S g born fv uv bv) (hlf : g.free.length ≤ 100000) (hlu : g.us.length ≤ 100000) :
    Calls Try.prog 30 #[.pointer (some ⟨S, 0, none⟩)] w fun e w' => e = .returned (.int .i64 (faultOf g : Nat)) ∧ Below w.heap.size w w' := by
  obtain ⟨fa, cf, ua, cu, rfl, rfl, -, -, h1, h2⟩ := h.rows
  exact reffault_any g S fa ua cf cu bv hlf hlu w h.blk h1 h2

/-- What a game made out of a state is. -/
def OfEnd (g : G) (w : World) (e : Ending) (w' : World) : Prop :=
  ∃ S fv uv, e = .returned (.pointer (some ⟨S, 0, none⟩)) ∧ GR w' w.heap.size S g [] fv uv (.slice none 0 0) ∧ Below w.heap.size w w'

set_option maxHeartbeats 6400000 in
set_option maxRecDepth 100000 in
theorem ofnewer_any (g : G) (ua : Option Addr) (cu : Nat) (hlu : g.us.length ≤ 100000) (w : World) (hu : URow true w.heap.size w ua g.us) :
    Calls Try.prog 35 #[.agg #[.int .i64 g.tick, .int .i64 g.g0, .int .i64 g.g1, .int .i64 g.next, .slice ua g.us.length cu]] w (OfEnd (backG true g) w) := by
  obtain ⟨W, hW⟩ : ∃ W, (w.alloc (.cells #[.int .i64 g.tick, .int .i64 g.g0, .int .i64 g.g1, .int .i64 g.next, .slice ua g.us.length cu] 32)).alloc (.cells #[.bool true, .int .i64 g.tick, .int .i64 g.g0, .int .i64 g.g1, .int .i64 g.next, .slice none 0 0, .slice none 0 0, .slice none 0 0] 140) = W := ⟨_, rfl⟩
  have hbW : Below w.heap.size w W := by rw [← hW]; exact ((Below.refl _ _).alloc (Nat.le_refl _) _).alloc (by simp) _
  have k1 : Blk W w.heap.size #[.int .i64 g.tick, .int .i64 g.g0, .int .i64 g.g1, .int .i64 g.next, .slice ua g.us.length cu] := by rw [← hW]; exact (Blk.new w _ _).alloc _
  have k2 : Blk W (w.heap.size + 1) #[.bool true, .int .i64 g.tick, .int .i64 g.g0, .int .i64 g.g1, .int .i64 g.next, .slice none 0 0, .slice none 0 0, .slice none 0 0] := by
    rw [← hW]
    have := Blk.new (w.alloc (.cells #[.int .i64 g.tick, .int .i64 g.g0, .int .i64 g.g1, .int .i64 g.next, .slice ua g.us.length cu] 32)) #[.bool true, .int .i64 g.tick, .int .i64 g.g0, .int .i64 g.g1, .int .i64 g.next, .slice none 0 0, .slice none 0 0, .slice none 0 0] 140
    simpa using this
  have hsW := hbW.size
  have hru := hu.below hbW
  obtain ⟨i1, hj0, hj1, hj2, hj3⟩ := info_parts infoUnit
  obtain ⟨l1, c1, -⟩ := id k1
  obtain ⟨l2, c2, f2⟩ := id k2
  have HBW := Lib.hid hbW
  have HRU := Lib.hid hru
  have K2 := Lib.hid k2
  clear hbW hru hu k1 k2
  go_enter Try.func35, Try.ntmps35
  go_upto_region 2 with fail
  try rw [hW]
  clear hW
  haveI := Kw.ne (fun _ => False) W
  have kx1 : ∀ (x : Kw (fun _ => False) W) (o : Nat), x.w.cell? ⟨w.heap.size, o, none⟩ = W.cell? ⟨w.heap.size, o, none⟩ := fun x o => x.cell _ _ l1 (fun h => h)
  have kx2 : ∀ (x : Kw (fun _ => False) W) (o : Nat), x.w.cell? ⟨w.heap.size + 1, o, none⟩ = W.cell? ⟨w.heap.size + 1, o, none⟩ := fun x o => x.cell _ _ l2 (fun h => h)
  refine region_mix 8 [(false, 0), (false, 1), (false, 2), (false, 3), (false, 4), (false, 5), (false, 6), (true, 7)] (kcl (fun _ => False) W (fun _ => True) (fun _ _ _ _ => trivial)) ⟨Kp.drew _ _, trivial⟩ (by kernel_rfl) (by kernel_rfl) ?_
  simp only [stepsOf, List.filterMap_cons, List.filterMap_nil, List.getElem?_toArray, List.getElem?_cons_zero, List.getElem?_cons_succ, Option.map_some, List.drop_succ_cons, List.drop_zero]
  repeat (refine mix_readK (fun K hK => ?_); go_simp; refine hK _ ?_; clear hK K)
  refine mix_copy (.tmp 16) (.tmp 18) 30 142 i1 _ 11 88 rfl rfl Try.underlying30 hj0 hj1 hj2 hj3 rfl (by omega) ua g.us.length cu (cellsAllN g.us) (cellsAllN_length g.us) rfl rfl (fun x hx _ h0 => ?_) (cellsAllN_one g.us) (by unfold maxLen; omega) (by omega) (fun ga gc => ?_)
  · obtain ⟨b, o, ha, hbB, -⟩ := HRU.out 0 h0
    refine ⟨b, o, ha, fun j hj => ?_⟩
    obtain ⟨b', o', ha', hbB', hc⟩ := HRU.out (j / 11) (by omega)
    rw [ha] at ha'
    cases ha'
    have h3 := hc (j % 11) (by show j % 11 < 11; omega)
    have h4 := cellsAllN_get g.us (j / 11) (j % 11) (by omega) (by omega)
    rw [show j / 11 * 11 + j % 11 = j from by omega] at h4
    rw [h4, hx.cell b _ (by omega) (fun h => h), show o + j = o + j / 11 * szOf true + j % 11 from by show _ = o + j / 11 * 11 + j % 11; omega]
    exact h3
  refine mix_nil ?_
  rintro w3 ⟨k3, own3, -⟩
  have bK3 := K2.out.kp k3 (fun h => h)
  have c3 := bK3.cell
  have f3 := bK3.free
  have l3 := bK3.lt
  refine wpList_plain rfl (fun K hK => ?_); go_simp; refine hK _ _ ?_; clear hK K
  refine wpList_plain rfl (fun K hK => ?_); go_simp; refine hK _ _ ?_; clear hK K
  refine list_store1 (w.heap.size + 1) 6 (.slice ga g.us.length gc) 30 (.tmp 21) (.tmp 19) rfl rfl rfl rfl rfl (by rw [c3]; rfl) (f3 6) rfl (by kernel_rfl) (fun Z => Blk Z (w.heap.size + 1) #[.bool true, .int .i64 g.tick, .int .i64 g.g0, .int .i64 g.g1, .int .i64 g.next, .slice none 0 0, .slice ga g.us.length gc, .slice none 0 0] ∧ Z.ownsRow W.heap.size 142 11 (.slice ga g.us.length gc) g.us.length (cellsAllN g.us) ∧ Below w.heap.size w Z) ⟨?_, ?_, ?_⟩ ?_
  · have := bK3.store (.slice ga g.us.length gc) (i := 6) (by simp)
    simpa using this
  · exact own_kp own3 (Kp.setCell w3 ⟨w.heap.size + 1, 6, none⟩ _) (fun b hb e => by have h1 := (World.ownsRow.lt own3 b hb).1; have h2 : b = w.heap.size + 1 := e; omega)
  · exact (HBW.out.trans (k3.below (fun k h => h.elim) hsW)).setCell (by show w.heap.size ≤ w.heap.size + 1; omega) _
  rintro Z ⟨bZ, oZ, hZ⟩
  have BZ := Lib.hid bZ
  have OZ := Lib.hid oZ
  have HZ := Lib.hid hZ
  clear bZ oZ hZ k3 own3 bK3 c3 f3 l3 kx1 kx2 hj0 hj1 hj2 hj3
  go_wp2_with fail
  go_ret
  have hm : g.us.map (backU true) = g.us := by
    have : backU true = id := rfl
    rw [this, List.map_id]
  have hb : backG true g = ⟨true, g.tick, g.g0, g.g1, g.next, [], g.us⟩ := by unfold backG; rw [hm]; rfl
  rw [hb]
  refine ⟨w.heap.size + 1, _, _, rfl, ⟨BZ.out, by omega, World.ownsRow_nil _ _ _ _, own_base OZ.out (by omega), World.ownsRow_nil _ _ _ _, (fun b e => (by cases e)), fun b hb => ?_, (fun b e => (by cases e)), (fun b e => (by cases e)), (fun b e => (by cases e)), (fun b _ e => (by cases e))⟩, HZ.out⟩
  have := (World.ownsRow.lt OZ.out b hb).1
  omega

theorem elder_cells (us : List U) (k : Nat) (h : k < us.length) (u : U) (hu : us.getD k zeroU = u) : cellsAllN ((us.take (k + 1)).map (backU false)) = cellsAllN ((us.take k).map (backU false)) ++ cellsN (backU false u) := by
  unfold cellsAllN
  rw [getD_lt h] at hu
  rw [List.take_succ_eq_append_getElem h, List.map_append, List.flatMap_append, hu]
  simp

set_option maxHeartbeats 6400000 in
set_option maxRecDepth 100000 in
theorem ofelder_any (g : G) (fa ua : Option Addr) (cf cu : Nat) (hlf : g.free.length ≤ 100000) (hlu : g.us.length ≤ 100000) (w : World) (hf : Row w.heap.size w fa g.free.length (fun k => .int .i64 (g.free.getD k 0))) (hu : URow false w.heap.size w ua g.us) :
    Calls Try.prog 29 #[.agg #[.int .i64 g.tick, .int .i64 g.g0, .int .i64 g.g1, .int .i64 g.next, .slice fa g.free.length cf, .slice ua g.us.length cu]] w (OfEnd (backG false g) w) := by
  obtain ⟨W, hW⟩ : ∃ W, (w.alloc (.cells #[.int .i64 g.tick, .int .i64 g.g0, .int .i64 g.g1, .int .i64 g.next, .slice fa g.free.length cf, .slice ua g.us.length cu] 26)).alloc (.cells #[.bool false, .int .i64 g.tick, .int .i64 g.g0, .int .i64 g.g1, .int .i64 g.next, .slice none 0 0, .slice none 0 0, .slice none 0 0] 140) = W := ⟨_, rfl⟩
  have hbW : Below w.heap.size w W := by rw [← hW]; exact ((Below.refl _ _).alloc (Nat.le_refl _) _).alloc (by simp) _
  have k1 : Blk W w.heap.size #[.int .i64 g.tick, .int .i64 g.g0, .int .i64 g.g1, .int .i64 g.next, .slice fa g.free.length cf, .slice ua g.us.length cu] := by rw [← hW]; exact (Blk.new w _ _).alloc _
  have k2 : Blk W (w.heap.size + 1) #[.bool false, .int .i64 g.tick, .int .i64 g.g0, .int .i64 g.g1, .int .i64 g.next, .slice none 0 0, .slice none 0 0, .slice none 0 0] := by
    rw [← hW]
    have := Blk.new (w.alloc (.cells #[.int .i64 g.tick, .int .i64 g.g0, .int .i64 g.g1, .int .i64 g.next, .slice fa g.free.length cf, .slice ua g.us.length cu] 26)) #[.bool false, .int .i64 g.tick, .int .i64 g.g0, .int .i64 g.g1, .int .i64 g.next, .slice none 0 0, .slice none 0 0, .slice none 0 0] 140
    simpa using this
  have hsW := hbW.size
  have hsW2 : w.heap.size + 2 = W.heap.size := by rw [← hW]; simp
  have hrf := hf.below hbW
  have hru := hu.below hbW
  obtain ⟨i0, hi0, hz0, hz1, hz2⟩ := info_parts infoInt
  obtain ⟨l1, c1, -⟩ := id k1
  obtain ⟨l2, c2, f2⟩ := id k2
  have HBW := Lib.hid hbW
  have HRF := Lib.hid hrf
  have HRU := Lib.hid hru
  have K1 := Lib.hid k1
  have K2 := Lib.hid k2
  have HSW2 := Lib.hid hsW2
  clear hbW hrf hru hf hu k1 k2 hsW2
  go_enter Try.func29, Try.ntmps29
  go_upto_region 2 with fail
  try rw [hW]
  clear hW
  haveI := Kw.ne (fun _ => False) W
  have kx1 : ∀ (x : Kw (fun _ => False) W) (o : Nat), x.w.cell? ⟨w.heap.size, o, none⟩ = W.cell? ⟨w.heap.size, o, none⟩ := fun x o => x.cell _ _ l1 (fun h => h)
  have kx2 : ∀ (x : Kw (fun _ => False) W) (o : Nat), x.w.cell? ⟨w.heap.size + 1, o, none⟩ = W.cell? ⟨w.heap.size + 1, o, none⟩ := fun x o => x.cell _ _ l2 (fun h => h)
  refine region_mix 8 [(false, 0), (false, 1), (false, 2), (false, 3), (false, 4), (false, 5), (false, 6), (true, 7)] (kcl (fun _ => False) W (fun _ => True) (fun _ _ _ _ => trivial)) ⟨Kp.drew _ _, trivial⟩ (by kernel_rfl) (by kernel_rfl) ?_
  simp only [stepsOf, List.filterMap_cons, List.filterMap_nil, List.getElem?_toArray, List.getElem?_cons_zero, List.getElem?_cons_succ, Option.map_some, List.drop_succ_cons, List.drop_zero]
  repeat (refine mix_readK (fun K hK => ?_); go_simp; refine hK _ ?_; clear hK K)
  refine mix_copy (.tmp 18) (.tmp 20) 23 3 i0 _ 1 8 rfl rfl Try.underlying23 hi0 hz0 hz1 hz2 rfl (by omega) fa g.free.length cf (intCells g.free) (by simp [intCells]) rfl rfl (fun x hx _ h0 => ?_) (by intro q hq; obtain ⟨n, -, rfl⟩ := List.mem_map.1 hq; rfl) (by unfold maxLen; omega) (by omega) (fun ga gc => ?_)
  · obtain ⟨b, o, ha, hbB, -⟩ := HRF.out 0 h0
    refine ⟨b, o, ha, fun j hj => ?_⟩
    obtain ⟨b', o', ha', hbB', hc⟩ := HRF.out j (by omega)
    rw [ha] at ha'
    cases ha'
    have hjl : j < g.free.length := by omega
    rw [hx.cell b _ (by omega) (fun h => h), hc]
    simp [intCells, List.getD, hjl]
  refine mix_nil ?_
  rintro w3 ⟨k3, own3, -⟩
  have bK3 := K2.out.kp k3 (fun h => h)
  have c3 := bK3.cell
  have f3 := bK3.free
  have l3 := bK3.lt
  refine wpList_plain rfl (fun K hK => ?_); go_simp; refine hK _ _ ?_; clear hK K
  refine wpList_plain rfl (fun K hK => ?_); go_simp; refine hK _ _ ?_; clear hK K
  refine list_store1 (w.heap.size + 1) 5 (.slice ga g.free.length gc) 23 (.tmp 23) (.tmp 21) rfl rfl rfl rfl rfl (by rw [c3]; rfl) (f3 5) rfl (by kernel_rfl) (fun Z => Blk Z (w.heap.size + 1) #[.bool false, .int .i64 g.tick, .int .i64 g.g0, .int .i64 g.g1, .int .i64 g.next, .slice ga g.free.length gc, .slice none 0 0, .slice none 0 0] ∧ Z.ownsRow W.heap.size 3 1 (.slice ga g.free.length gc) g.free.length (intCells g.free) ∧ Kp (fun b => b = w.heap.size + 1) W Z) ⟨?_, ?_, ?_⟩ ?_
  · have := bK3.store (.slice ga g.free.length gc) (i := 5) (by simp)
    simpa using this
  · exact own_kp own3 (Kp.setCell w3 ⟨w.heap.size + 1, 5, none⟩ _) (fun b hb e => by have h1 := (World.ownsRow.lt own3 b hb).1; have h2 : b = w.heap.size + 1 := e; have := HSW2.out; omega)
  · exact (k3.imp (fun _ _ h => h.elim)).andset _ _ rfl
  rintro Z ⟨bZ, oZ, kZ⟩
  have k1Z := K1.out.kp kZ (by omega)
  obtain ⟨lZ, cZ, -⟩ := id k1Z
  have hsZ := kZ.size
  have BZ := Lib.hid bZ
  have OZ := Lib.hid oZ
  have KZ := Lib.hid kZ
  have hn0 : (0 : Int) ≤ (g.us.length : Int) := by omega
  have GLT := Lib.hid (fun b hb => World.ownsRow.lt oZ b hb : ∀ b, (Value.slice ga g.free.length gc).ownBlock = some b → W.heap.size ≤ b ∧ b < Z.heap.size)
  clear bZ oZ kZ k3 own3 bK3 c3 f3 l3 kx1 kx2 hi0 hz0 hz1 hz2 k1Z c1 c2 f2
  go_wp2_with fail
  go_loopw [4, 5] (fun i _ wr => ∃ k : Nat, i = .int .i64 k ∧ k ≤ g.us.length ∧ (∃ uv, Blk wr (w.heap.size + 1) #[.bool false, .int .i64 g.tick, .int .i64 g.g0, .int .i64 g.g1, .int .i64 g.next, .slice ga g.free.length gc, uv, .slice none 0 0] ∧ wr.ownsRow Z.heap.size 142 11 uv k (cellsAllN ((g.us.take k).map (backU false))) ∧ Kp (fun b => b = w.heap.size + 1) Z wr)) (fun i _ _ => (g.us.length - intOf i).toNat)
  case atStart => exact ⟨0, rfl, by omega, _, BZ.out, World.ownsRow_nil _ _ _ _, Kp.refl _ _⟩
  case round =>
    obtain ⟨k, rfl, hk, uv, bK, own, kr⟩ := hrel
    have hszr := kr.size
    obtain ⟨va, vc, rfl⟩ := own_slice own
    have kWr : Kp (fun b => b = w.heap.size + 1) W wr := KZ.out.trans kr (fun _ _ h => h)
    have k1r := K1.out.kp kWr (by omega)
    obtain ⟨l1r, c1r, -⟩ := id k1r
    have KWR := Lib.hid kWr
    have OWN := Lib.hid own
    have BK := Lib.hid bK
    have KR := Lib.hid kr
    clear k1r kWr
    by_cases hlt : k < g.us.length
    · obtain ⟨u, hu⟩ : ∃ u, g.us.getD k zeroU = u := ⟨_, rfl⟩
      obtain ⟨b, o, hua, hbB, q0, q1, q2, q3, q4, q5, q6, q7, q8, q9⟩ := HRU.out.getE k hlt u hu
      have hcl : ∀ j, wr.cell? ⟨b, j, none⟩ = W.cell? ⟨b, j, none⟩ := fun j => KWR.out.cell b j (by omega) (by omega)
      rw [← hcl] at q0 q1 q2 q3 q4 q5 q6 q7 q8 q9
      subst hua
      have hki : (0 : Int) ≤ (k : Int) := by omega
      have hkl : (k : Int) < (g.us.length : Int) := by omega
      have hlr : b < wr.heap.size := by omega
      have HUu := Lib.hid hu
      have CB : ∀ j, (Value.slice va k vc).ownBlock = some j → Z.heap.size ≤ j ∧ j < wr.heap.size := fun j hj => World.ownsRow.lt own j hj
      have hVB := Lib.hid CB
      clear hu hcl own bK kr CB
      go_upto_region 7 with fail
      obtain ⟨V, hV⟩ : ∃ V, wr.alloc (.cells #[.int .i64 u.id, .int .i64 u.owner, .int .i64 u.kind, .int .i64 u.x, .int .i64 u.y, .int .i64 u.hp, .int .i64 u.does, .int .i64 u.gx, .int .i64 u.gy, .int .i64 u.target] 83) = V := ⟨_, rfl⟩
      have hbV : Below wr.heap.size wr V := by rw [← hV]; exact (Below.refl _ _).alloc (Nat.le_refl _) _
      have kE : Blk V wr.heap.size #[.int .i64 u.id, .int .i64 u.owner, .int .i64 u.kind, .int .i64 u.x, .int .i64 u.y, .int .i64 u.hp, .int .i64 u.does, .int .i64 u.gx, .int .i64 u.gy, .int .i64 u.target] := by rw [← hV]; exact Blk.new wr _ _
      rw [hV]
      have bKV := BK.out.call hbV
      have ownV := own_kp OWN.out (kp_of hbV (fun _ => False)) (fun _ _ x => x)
      have kRV := KR.out.then_ hbV
      have hsV := hbV.size
      obtain ⟨lE, cE, -⟩ := id kE
      obtain ⟨lK, cK, fK⟩ := id bKV
      have nE : ¬ (Value.slice va k vc).ownBlock = some wr.heap.size := fun e => by have := hVB.out _ e; omega
      have nK : ¬ (Value.slice va k vc).ownBlock = some (w.heap.size + 1) := fun e => by have := (hVB.out _ e).1; have := HSW2.out; omega
      obtain ⟨i1, hj0, hj1, hj2, hj3⟩ := info_parts infoUnit
      haveI := Kw.ne (fun j => (Value.slice va k vc).ownBlock = some j) V
      have kxE : ∀ (x : Kw (fun j => (Value.slice va k vc).ownBlock = some j) V) (o : Nat), x.w.cell? ⟨wr.heap.size, o, none⟩ = V.cell? ⟨wr.heap.size, o, none⟩ := fun x o => x.cell _ _ lE nE
      have kxK : ∀ (x : Kw (fun j => (Value.slice va k vc).ownBlock = some j) V) (o : Nat), x.w.cell? ⟨w.heap.size + 1, o, none⟩ = V.cell? ⟨w.heap.size + 1, o, none⟩ := fun x o => x.cell _ _ lK nK
      have BKV := Lib.hid bKV
      have OWNV := Lib.hid ownV
      have KRV := Lib.hid kRV
      have HBV := Lib.hid hbV
      clear hV q0 q1 q2 q3 q4 q5 q6 q7 q8 q9 bKV ownV kRV kE hbV c1r
      refine region_mix 28 [(false, 0), (false, 1), (false, 2), (false, 3), (false, 4), (false, 5), (false, 6), (false, 7), (false, 8), (false, 9), (false, 10), (false, 11), (false, 12), (false, 13), (false, 14), (false, 15), (false, 16), (false, 17), (false, 18), (false, 19), (false, 20), (false, 21), (false, 22), (false, 23), (false, 24), (false, 25), (true, 26), (true, 27)] (kcl (fun j => (Value.slice va k vc).ownBlock = some j) V (fun x => x.ownsRow Z.heap.size 142 11 (.slice va k vc) k (cellsAllN ((g.us.take k).map (backU false)))) (fun x x' h hb => own_kp h (kp_of hb (fun _ => False)) (fun _ _ y => y))) ⟨Kp.drew _ _, OWNV.out⟩ (by kernel_rfl) (by kernel_rfl) ?_
      simp only [stepsOf, List.filterMap_cons, List.filterMap_nil, List.getElem?_toArray, List.getElem?_cons_zero, List.getElem?_cons_succ, Option.map_some, List.drop_succ_cons, List.drop_zero]
      repeat (refine mix_readK (fun K hK => ?_); go_simp; refine hK _ ?_; clear hK K)
      refine mix_new (fun q => .slice (some ⟨q, 0, none⟩) 1 1) #[.int .i64 u.id, .int .i64 u.owner, .int .i64 u.kind, .int .i64 u.x, .int .i64 u.y, .int .i64 u.hp, .int .i64 u.does, .int .i64 u.gx, .int .i64 u.gy, .int .i64 u.target, .int .i64 0] 142 rfl (fun x => by simp [go_sem]) (fun q => ?_)
      refine mix_append q #[.int .i64 u.id, .int .i64 u.owner, .int .i64 u.kind, .int .i64 u.x, .int .i64 u.y, .int .i64 u.hp, .int .i64 u.does, .int .i64 u.gx, .int .i64 u.gy, .int .i64 u.target, .int .i64 0] 142 (.tmp 40) (.tmp 62) 30 rfl rfl Z.heap.size 142 i1 _ 11 88 Try.underlying30 hj0 hj1 hj2 hj3 rfl (by omega) (.slice va k vc) k (cellsAllN ((g.us.take k).map (backU false))) rfl rfl OWNV.out rfl (by simp [Value.oneCell']) (by unfold maxLen; omega) (by omega) (by omega) (fun j => Iff.rfl) (fun x h => ⟨h.2.1, h.2.2.2⟩) (fun x _ h => h.1) (fun g2 cap2 => ?_)
      refine mix_nil ?_
      rintro w14 ⟨k14, own14, hgg⟩
      have bK14 := BKV.out.kp k14 nK
      obtain ⟨l14, c14, f14⟩ := id bK14
      have kp14 := KRV.out.trans k14 (fun c hc e => by have := (hVB.out c e).1; omega)
      have hcs := elder_cells g.us k hlt u HUu.out
      have hg2 : g2 ≠ w.heap.size + 1 := by
        rcases hgg with h | h
        · exact fun e => nK (by rw [h, e])
        · omega
      have own15 : w14.ownsRow Z.heap.size 142 11 (.slice (some ⟨g2, 0, none⟩) (k + 1) cap2) (k + 1) (cellsAllN ((g.us.take (k + 1)).map (backU false))) := by
        rw [hcs]
        exact own14
      refine wpList_plain rfl (fun K hK => ?_); go_simp; refine hK _ _ ?_; clear hK K
      refine wpList_plain rfl (fun K hK => ?_); go_simp; refine hK _ _ ?_; clear hK K
      refine list_store1 (w.heap.size + 1) 6 (.slice (some ⟨g2, 0, none⟩) (k + 1) cap2) 30 (.tmp 65) (.tmp 63) rfl rfl rfl rfl rfl (by rw [c14]; rfl) (f14 6) rfl (by kernel_rfl) (fun Y => Blk Y (w.heap.size + 1) #[.bool false, .int .i64 g.tick, .int .i64 g.g0, .int .i64 g.g1, .int .i64 g.next, .slice ga g.free.length gc, .slice (some ⟨g2, 0, none⟩) (k + 1) cap2, .slice none 0 0] ∧ Y.ownsRow Z.heap.size 142 11 (.slice (some ⟨g2, 0, none⟩) (k + 1) cap2) (k + 1) (cellsAllN ((g.us.take (k + 1)).map (backU false))) ∧ Kp (fun b => b = w.heap.size + 1) Z Y) ⟨?_, ?_, kp14.andset _ _ rfl⟩ ?_
      · have := bK14.store (.slice (some ⟨g2, 0, none⟩) (k + 1) cap2) (i := 6) (by simp)
        simpa using this
      · exact own_kp own15 (Kp.setCell w14 ⟨w.heap.size + 1, 6, none⟩ _) (fun b hb e => by have h1 : g2 = b := Option.some.inj (show some g2 = some b from hb); have h2 : b = w.heap.size + 1 := e; omega)
      rintro Y ⟨bY, oY, kY⟩
      have BY := Lib.hid bY
      have OY := Lib.hid oY
      have KY := Lib.hid kY
      clear bY oY kY kxE kxK cE cK fK k14 own14 hgg bK14 c14 f14 kp14 hcs own15 hj0 hj1 hj2 hj3
      go_wp2_with fail
      go_roundw
      case rel => exact ⟨k + 1, by go_num, by omega, _, BY.out, OY.out, KY.out⟩
      case measure => simp [intOf]; omega
    · obtain rfl : k = g.us.length := by omega
      rw [List.take_length] at OWN
      have HB : Hid (Below w.heap.size w wr) := Lib.hid (HBW.out.trans (KWR.out.below (fun b hb => by omega) hsW))
      have ofr := own_kp OZ.out KR.out (fun b hb e => by have := (GLT.out b hb).1; have := HSW2.out; have h2 : b = w.heap.size + 1 := e; omega)
      have OFR := Lib.hid ofr
      clear own bK kr ofr
      go_wp2_with fail
      go_ret
      have hl : (g.us.map (backU false)).length = g.us.length := List.length_map ..
      refine ⟨w.heap.size + 1, .slice ga g.free.length gc, .slice va g.us.length vc, rfl, ⟨?_, by omega, own_base OFR.out (by omega), own_base (B := Z.heap.size) ?_ (by omega), World.ownsRow_nil _ _ _ _, fun b hb => ?_, fun b hb => ?_, (fun b e => (by cases e)), fun b hb e => ?_, (fun b _ e => (by cases e)), (fun b _ e => (by cases e))⟩, HB.out⟩
      · exact BK.out
      · show wr.ownsRow Z.heap.size 142 11 _ (g.us.map (backU false)).length _
        rw [hl]
        exact OWN.out
      · have := (GLT.out b hb).1; have := HSW2.out; omega
      · have := (World.ownsRow.lt OWN.out b hb).1; have := HSW2.out; omega
      · have h1 := (GLT.out b hb).2; have h2 := (World.ownsRow.lt OWN.out b e).1; omega
end Go.Proofs.Ytlfljlhppigejab
