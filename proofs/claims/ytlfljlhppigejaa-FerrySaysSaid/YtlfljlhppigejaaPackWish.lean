/-
  The walk of rules.Toward. The walks of elder.at, elder.may, elder.aims. The walks of elder.taken, elder.near, elder.wish. The walk of elder.wish where there is a target.
-/
import Derived.Test.YtlfljlhppigejaaRulesWalk
import Derived.Test.YtlfljlhppigejaaPackMaps
import Derived.Test.YtlfljlhppigejaaPackSmall
import Derived.BigQuiet
import Derived.Deep.QuietTactic
import Derived.Deep.Light
import Derived.RegionTactic
import Derived.Deep.RegionHeld3
import Derived.BigRegion
import Derived.Test.YtlfljlhppigejaaPackBase
import Derived.Test.YtlfljlhppigejaaPackPure
import Derived.Deep.DeepCutAuto
namespace Go.Proofs.Ytlfljlhppigejaa
open Go.RowKit

theorem rToward (x y tx ty : Int) (w : World) (hx : -100000 ≤ x ∧ x ≤ 100000) (hy : -100000 ≤ y ∧ y ≤ 100000) (htx : -100000 ≤ tx ∧ tx ≤ 100000) (hty : -100000 ≤ ty ∧ ty ≤ 100000) :
    Calls Try.prog 25 #[.int .i64 x, .int .i64 y, .int .i64 tx, .int .i64 ty] w fun e w' => e = .returned (.tuple #[.int .i64 (near1 x tx), .int .i64 (near1 y ty)]) ∧ w = w' := by
  obtain ⟨_, _⟩ := hx; obtain ⟨_, _⟩ := hy; obtain ⟨_, _⟩ := htx; obtain ⟨_, _⟩ := hty
  rcases Int.lt_trichotomy x tx with h1 | h1 | h1
  all_goals
    rcases Int.lt_trichotomy y ty with h2 | h2 | h2
    all_goals
      (try subst h1)
      (try subst h2)
      go_enter Try.func25, Try.ntmps25
      go_wp2
      all_goals
        go_ret2
        exact ⟨ret2 (intv (by unfold near1; repeat' split
                              all_goals omega)) (intv (by unfold near1; repeat' split
                                                          all_goals omega)), rfl⟩
end Go.Proofs.Ytlfljlhppigejaa
namespace Go.Proofs.Ytlfljlhppigejaa
open Go.RowKit

set_option maxHeartbeats 800000 in
set_option maxRecDepth 100000 in
theorem at1_any (S : Nat) (a : Option Addr) (n c : Nat) (us : List U) (id : Int) (hn : us.length = n) (i : Nat) (hi : i < n) (W0 W : World) (hS : W0.heap.size = S + 1 + 1) (hW : Below W0.heap.size W0 W)
    (h0 : W0.cell? ⟨S, 0, none⟩ = some (.slice a n c)) (h1 : W0.cell? ⟨S + 1, 0, none⟩ = some (.int .i64 id)) (hu : URow false W0.heap.size W0 a us) :
    Calls Try.prog 173 #[.int .i64 i, .pointer (some ⟨S, 0, none⟩), .pointer (some ⟨S + 1, 0, none⟩)] W fun e W' => e = .returned (.bool (decide (id ≤ (us.getD i zeroU).id))) ∧ Below W0.heap.size W0 W' := by
  have h0' := (hW.cell (p := ⟨S, 0, none⟩) (by show S < _; omega)).trans h0
  have h1' := (hW.cell (p := ⟨S + 1, 0, none⟩) (by show S + 1 < _; omega)).trans h1
  obtain ⟨u, hue⟩ : ∃ u, us.getD i zeroU = u := ⟨_, rfl⟩
  obtain ⟨b, o, rfl, hbB, q0, -⟩ := (hu.below hW).getE i (by omega) u hue
  rw [hue]
  have HW := Lib.hid hW
  clear h0 h1 hu hW hue hn hS
  go_enter Try.func173, Try.ntmps173
  go_wp2_with fail
  go_quiet (fail)
  go_wp2_with fail
  go_ret
  exact ⟨rfl, below_drewN HW.out _⟩

set_option maxHeartbeats 800000 in
set_option maxRecDepth 100000 in
theorem at_any (a : Option Addr) (n c : Nat) (us : List U) (id : Int) (hn : us.length = n) (hn20 : n ≤ 1000) (hs : sortedU us) (w : World) (hu : URow false w.heap.size w a us) :
    Calls Try.prog 159 #[.slice a n c, .int .i64 id] w fun e w' => e = .returned (.int .i64 (ixOf us id)) ∧ Below w.heap.size w w' := by
  obtain ⟨W0, hW0⟩ : ∃ W0, (w.alloc (.cells #[.slice a n c] 88)).alloc (.cells #[.int .i64 id] 3) = W0 := ⟨_, rfl⟩
  have hb0 : Below w.heap.size w W0 := by rw [← hW0]; exact ((Below.refl _ _).alloc (Nat.le_refl _) _).alloc (by simp) _
  have hsz : W0.heap.size = w.heap.size + 1 + 1 := by rw [← hW0]; simp
  have h0 : W0.cell? ⟨w.heap.size, 0, none⟩ = some (.slice a n c) := by rw [← hW0]; simp [go_sem]
  have h1 : W0.cell? ⟨w.heap.size + 1, 0, none⟩ = some (.int .i64 id) := by rw [← hW0]; simp [go_sem]
  have hu0 : URow false W0.heap.size W0 a us := (hu.below hb0).mono (by omega)
  have HN := Lib.hid hn
  have HS := Lib.hid hs
  clear hn hs
  go_enter Try.func159, Try.ntmps159
  go_wp2_with fail
  have HW := Lib.hid hW0
  clear hW0
  refine (search_at _ _ n (by omega) (fun i => decide (id ≤ (us.getD i zeroU).id)) (fun W => Below W0.heap.size W0 W) (Lib.hid ?_) W0 (Lib.hid (Below.refl _ _))).mono ?_
  · intro i W hi hW
    exact at1_any _ a n c us id HN.out i hi W0 W hsz hW h0 h1 hu0
  · intro e w1 hend
    obtain ⟨i, rfl, hin, hd1, hd2, hb1⟩ := hend
    have h0' := (hb1.cell (p := ⟨w.heap.size, 0, none⟩) (by show w.heap.size < _; omega)).trans h0
    have h1' := (hb1.cell (p := ⟨w.heap.size + 1, 0, none⟩) (by show w.heap.size + 1 < _; omega)).trans h1
    have hix := ixOf_search (i := i) (id := id) HS.out (by rw [HN.out]; exact hin) (fun h => by have := hd1 (by rw [HN.out] at h; exact h); simpa using this) (fun h => by have := hd2 h; simpa using this)
    rw [HN.out] at hix
    have hbw : Below w.heap.size w w1 := hb0.trans (hb1.mono hb0.size)
    have HIX := Lib.hid hix
    have HB := Lib.hid hbw
    have hu1 := hu0.below hb1
    clear hd1 hd2 hb1 hix hbw h0 h1 hu hu0
    by_cases hlt : i < n
    · obtain ⟨u, hue⟩ : ∃ u, us.getD i zeroU = u := ⟨_, rfl⟩
      obtain ⟨b, o, rfl, hbB, q0, -⟩ := hu1.getE i (by rw [HN.out]; exact hlt) u hue
      rw [hue] at HIX
      clear hue hu1
      by_cases hid : u.id = id
      · have e1 : (u.id == id) = true := by simp [hid]
        have HE := Lib.hid hid
        clear hid
        go_wp2_with fail
        go_quiet (fail)
        go_wp2_with fail
        go_ret
        exact ⟨ret1 (intv (by rw [HIX.out, if_pos ⟨hlt, HE.out⟩])), below_drewN HB.out _⟩
      · have e1 : (u.id == id) = false := by simp [hid]
        have HE := Lib.hid hid
        clear hid
        go_wp2_with fail
        go_quiet (fail)
        go_wp2_with fail
        go_ret
        exact ⟨ret1 (intv (by rw [HIX.out, if_neg (fun h => HE.out h.2)])), below_drewN HB.out _⟩
    · have hf : decide ((i : Int) < (n : Int)) = false := by simp; omega
      go_wp2_with fail
      go_quiet (fail)
      go_wp2_with fail
      go_ret
      exact ⟨ret1 (intv (by rw [HIX.out, if_neg (fun h => hlt h.1)])), below_drewN HB.out _⟩

set_option maxHeartbeats 3200000 in
set_option maxRecDepth 100000 in
theorem may_any (u v : U) (w : World) :
    Calls Try.prog 161 #[.agg #[.int .i64 u.id, .int .i64 u.owner, .int .i64 u.kind, .int .i64 u.x, .int .i64 u.y, .int .i64 u.hp, .int .i64 u.does, .int .i64 u.gx, .int .i64 u.gy, .int .i64 u.target], .agg #[.int .i64 v.id, .int .i64 v.owner, .int .i64 v.kind, .int .i64 v.x, .int .i64 v.y, .int .i64 v.hp, .int .i64 v.does, .int .i64 v.gx, .int .i64 v.gy, .int .i64 v.target]] w
      fun e w' => e = .returned (.int .i64 (mayDo false u v)) ∧ Below w.heap.size w w' := by
  have hb0 : Below w.heap.size w ((w.alloc (.cells #[.int .i64 u.id, .int .i64 u.owner, .int .i64 u.kind, .int .i64 u.x, .int .i64 u.y, .int .i64 u.hp, .int .i64 u.does, .int .i64 u.gx, .int .i64 u.gy, .int .i64 u.target] 179)).alloc (.cells #[.int .i64 v.id, .int .i64 v.owner, .int .i64 v.kind, .int .i64 v.x, .int .i64 v.y, .int .i64 v.hp, .int .i64 v.does, .int .i64 v.gx, .int .i64 v.gy, .int .i64 v.target] 179)) := ((Below.refl _ _).alloc (Nat.le_refl _) _).alloc (by simp) _
  have hb1 := (Blk.new w #[.int .i64 u.id, .int .i64 u.owner, .int .i64 u.kind, .int .i64 u.x, .int .i64 u.y, .int .i64 u.hp, .int .i64 u.does, .int .i64 u.gx, .int .i64 u.gy, .int .i64 u.target] 179).alloc (.cells #[.int .i64 v.id, .int .i64 v.owner, .int .i64 v.kind, .int .i64 v.x, .int .i64 v.y, .int .i64 v.hp, .int .i64 v.does, .int .i64 v.gx, .int .i64 v.gy, .int .i64 v.target] 179)
  have hb2 := Blk.new (w.alloc (.cells #[.int .i64 u.id, .int .i64 u.owner, .int .i64 u.kind, .int .i64 u.x, .int .i64 u.y, .int .i64 u.hp, .int .i64 u.does, .int .i64 u.gx, .int .i64 u.gy, .int .i64 u.target] 179)) #[.int .i64 v.id, .int .i64 v.owner, .int .i64 v.kind, .int .i64 v.x, .int .i64 v.y, .int .i64 v.hp, .int .i64 v.does, .int .i64 v.gx, .int .i64 v.gy, .int .i64 v.target] 179
  go_enter Try.func161, Try.ntmps161
  go_wp2_with fail
  refine (rElder u.kind _).mono ?_
  rintro e w1 ⟨rfl, b1⟩
  have hbw : Below w.heap.size w w1 := hb0.trans (b1.mono (by simp; omega))
  obtain ⟨l1, c1, -⟩ := hb1.call b1
  obtain ⟨l2, c2, -⟩ := hb2.call b1
  simp only [World.size_alloc] at l2 c2
  clear hb0 hb1 hb2 b1
  obtain ⟨r, hrr⟩ : ∃ r, ruleOf false u.kind = r := ⟨_, rfl⟩
  have HR := Lib.hid hrr
  rw [hrr]
  clear hrr
  go_wp2_with fail
  all_goals
    go_ret
    refine ⟨ret1 (intv ?_), by repeat (first | exact hbw | refine Below.alloc ?_ hbw.size _)⟩
    clear hbw l1 c1 l2 c2
    have hrr := HR.out
    go_light
    unfold mayDo
    rw [hrr]
    repeat' split
    all_goals first | rfl | (exfalso; simp_all; done) | (exfalso; simp_all <;> omega)

set_option maxHeartbeats 1600000 in
set_option maxRecDepth 100000 in
theorem aims_any (a : Option Addr) (n c : Nat) (us : List U) (u : U) (hn : us.length = n) (hn20 : n ≤ 1000) (hs : sortedU us) (w : World) (hu : URow false w.heap.size w a us) :
    Calls Try.prog 123 #[.slice a n c, .agg #[.int .i64 u.id, .int .i64 u.owner, .int .i64 u.kind, .int .i64 u.x, .int .i64 u.y, .int .i64 u.hp, .int .i64 u.does, .int .i64 u.gx, .int .i64 u.gy, .int .i64 u.target]] w
      fun e w' => e = .returned (.bool (aimsOk false us u)) ∧ Below w.heap.size w w' := by
  have hb0 : Below w.heap.size w (w.alloc (.cells #[.int .i64 u.id, .int .i64 u.owner, .int .i64 u.kind, .int .i64 u.x, .int .i64 u.y, .int .i64 u.hp, .int .i64 u.does, .int .i64 u.gx, .int .i64 u.gy, .int .i64 u.target] 179)) := (Below.refl _ _).alloc (Nat.le_refl _) _
  have hb1 := Blk.new w #[.int .i64 u.id, .int .i64 u.owner, .int .i64 u.kind, .int .i64 u.x, .int .i64 u.y, .int .i64 u.hp, .int .i64 u.does, .int .i64 u.gx, .int .i64 u.gy, .int .i64 u.target] 179
  have HN := Lib.hid hn
  have HU := Lib.hid hu
  clear hn hu
  by_cases ht : u.target = 0
  · have e1 : (u.target == 0) = true := by simp [ht]
    have HT := Lib.hid ht
    clear ht hb1
    go_enter Try.func123, Try.ntmps123
    go_wp2_with fail
    go_ret
    exact ⟨ret1 (boolv (by unfold aimsOk; simp [HT.out])), hb0⟩
  · have e1 : (u.target == 0) = false := by simp [ht]
    have HT := Lib.hid ht
    clear ht
    go_enter Try.func123, Try.ntmps123
    go_wp2_with fail
    refine (at_any a n c us u.target HN.out hn20 hs _ ((HU.out.below hb0).mono (by simp))).mono ?_
    rintro e w1 ⟨rfl, b1⟩
    have hbw : Below w.heap.size w w1 := hb0.trans (b1.mono (by simp))
    have K1 := hb1.call b1
    obtain ⟨r1, r2⟩ := ixOf_range us u.target
    have hu1 := HU.out.below hbw
    clear hb0 hb1 b1
    by_cases hneg : ixOf us u.target < 0
    · clear hu1
      have hfin : Hid (aimsOk false us u = false) := by
        show _ = _
        unfold aimsOk
        simp only [decide_eq_false_iff_not]
        rintro (h | h)
        · exact HT.out h
        · omega
      go_wp2_with fail
      go_ret
      exact ⟨ret1 (boolv hfin.out.symm), hbw⟩
    · obtain ⟨i, hi⟩ := Int.eq_ofNat_of_zero_le (show 0 ≤ ixOf us u.target by omega)
      have hfin : Hid (aimsOk false us u = (u.does == mayDo false u (us.getD i zeroU))) := by
        show _ = _
        unfold aimsOk
        rw [hi, Bool.eq_iff_iff]
        simp only [Int.toNat_natCast, decide_eq_true_eq, beq_iff_eq]
        constructor
        · rintro (h | h)
          · exact absurd h HT.out
          · exact h.2.symm
        · intro h
          exact Or.inr ⟨by omega, h.symm⟩
      rw [hi]
      rw [hi] at r1 r2 hneg
      obtain ⟨v, hv⟩ : ∃ v, us.getD i zeroU = v := ⟨_, rfl⟩
      obtain ⟨b, o, rfl, hbB, q0, q1, q2, q3, q4, q5, q6, q7, q8, q9⟩ := hu1.getE i (by omega) v hv
      rw [hv] at hfin
      have hin : i < n := by have := HN.out; omega
      obtain ⟨l1, c1, -⟩ := K1
      have HI := Lib.hid hi
      have HB := Lib.hid hbw
      have hb1 : b < w1.heap.size := by omega
      have hsz : w.heap.size ≤ w1.heap.size := by omega
      have p0 := c1 0
      have p1 := c1 1
      have p2 := c1 2
      have p3 := c1 3
      have p4 := c1 4
      have p5 := c1 5
      have p6 := c1 6
      have p7 := c1 7
      have p8 := c1 8
      have p9 := c1 9
      clear hu1 hv hi hbw c1
      go_wp2_with fail
      go_region_held3 (fun w' => Below w.heap.size w w' ∧ w'.cell? ⟨w.heap.size, 0, none⟩ = some (.int .i64 u.id) ∧ w'.cell? ⟨w.heap.size, 1, none⟩ = some (.int .i64 u.owner) ∧ w'.cell? ⟨w.heap.size, 2, none⟩ = some (.int .i64 u.kind) ∧ w'.cell? ⟨w.heap.size, 3, none⟩ = some (.int .i64 u.x) ∧ w'.cell? ⟨w.heap.size, 4, none⟩ = some (.int .i64 u.y) ∧ w'.cell? ⟨w.heap.size, 5, none⟩ = some (.int .i64 u.hp) ∧ w'.cell? ⟨w.heap.size, 6, none⟩ = some (.int .i64 u.does) ∧ w'.cell? ⟨w.heap.size, 7, none⟩ = some (.int .i64 u.gx) ∧ w'.cell? ⟨w.heap.size, 8, none⟩ = some (.int .i64 u.gy) ∧ w'.cell? ⟨w.heap.size, 9, none⟩ = some (.int .i64 u.target) ∧ w'.cell? ⟨b, o + i * 10, none⟩ = some (.int .i64 v.id) ∧ w'.cell? ⟨b, o + i * 10 + 1, none⟩ = some (.int .i64 v.owner) ∧ w'.cell? ⟨b, o + i * 10 + 2, none⟩ = some (.int .i64 v.kind) ∧ w'.cell? ⟨b, o + i * 10 + 3, none⟩ = some (.int .i64 v.x) ∧ w'.cell? ⟨b, o + i * 10 + 4, none⟩ = some (.int .i64 v.y) ∧ w'.cell? ⟨b, o + i * 10 + 5, none⟩ = some (.int .i64 v.hp) ∧ w'.cell? ⟨b, o + i * 10 + 6, none⟩ = some (.int .i64 v.does) ∧ w'.cell? ⟨b, o + i * 10 + 7, none⟩ = some (.int .i64 v.gx) ∧ w'.cell? ⟨b, o + i * 10 + 8, none⟩ = some (.int .i64 v.gy) ∧ w'.cell? ⟨b, o + i * 10 + 9, none⟩ = some (.int .i64 v.target)) (first | exact ⟨below_drewN HB.out _, p0, p1, p2, p3, p4, p5, p6, p7, p8, p9, q0, q1, q2, q3, q4, q5, q6, q7, q8, q9⟩ | exact ⟨(below_drewN HB.out 1).trans (b2.mono hsz), (b2.cell (p := ⟨w.heap.size, 0, none⟩) l1).trans p0, (b2.cell (p := ⟨w.heap.size, 1, none⟩) l1).trans p1, (b2.cell (p := ⟨w.heap.size, 2, none⟩) l1).trans p2, (b2.cell (p := ⟨w.heap.size, 3, none⟩) l1).trans p3, (b2.cell (p := ⟨w.heap.size, 4, none⟩) l1).trans p4, (b2.cell (p := ⟨w.heap.size, 5, none⟩) l1).trans p5, (b2.cell (p := ⟨w.heap.size, 6, none⟩) l1).trans p6, (b2.cell (p := ⟨w.heap.size, 7, none⟩) l1).trans p7, (b2.cell (p := ⟨w.heap.size, 8, none⟩) l1).trans p8, (b2.cell (p := ⟨w.heap.size, 9, none⟩) l1).trans p9, (b2.cell (p := ⟨b, o + i * 10, none⟩) hb1).trans q0, (b2.cell (p := ⟨b, o + i * 10 + 1, none⟩) hb1).trans q1, (b2.cell (p := ⟨b, o + i * 10 + 2, none⟩) hb1).trans q2, (b2.cell (p := ⟨b, o + i * 10 + 3, none⟩) hb1).trans q3, (b2.cell (p := ⟨b, o + i * 10 + 4, none⟩) hb1).trans q4, (b2.cell (p := ⟨b, o + i * 10 + 5, none⟩) hb1).trans q5, (b2.cell (p := ⟨b, o + i * 10 + 6, none⟩) hb1).trans q6, (b2.cell (p := ⟨b, o + i * 10 + 7, none⟩) hb1).trans q7, (b2.cell (p := ⟨b, o + i * 10 + 8, none⟩) hb1).trans q8, (b2.cell (p := ⟨b, o + i * 10 + 9, none⟩) hb1).trans q9⟩) (first | (go_at_call 161; refine (may_any u v _).mono ?_; rintro e w2 ⟨rfl, b2⟩))
      have hHB : Below w.heap.size w w2 := (below_drewN HB.out 1).trans (b2.mono hsz)
      go_wp2_with fail
      go_ret
      exact ⟨ret1 (boolv hfin.out.symm), hHB⟩
end Go.Proofs.Ytlfljlhppigejaa
namespace Go.Proofs.Ytlfljlhppigejaa
open Go.RowKit
attribute [local go_sem] qOne qAt qUp

set_option maxHeartbeats 800000 in
set_option maxRecDepth 100000 in
theorem taken_any (S : Nat) (a : Option Addr) (n c : Nat) (us : List U) (x y : Int) (hl : us.length = n) (hn : n ≤ 100000) (w : World) (hS : S < w.heap.size) (h5 : w.cell? ⟨S, 5, none⟩ = some (.slice a n c)) (hu : URow false w.heap.size w a us) :
    Calls Try.prog 164 #[.pointer (some ⟨S, 0, none⟩), .int .i64 x, .int .i64 y] w fun e w' => e = .returned (.bool (standsAt us x y)) ∧ Below w.heap.size w w' := by
  have HU := Lib.hid hu
  have HL := Lib.hid hl
  clear hu hl
  go_enter Try.func164, Try.ntmps164
  go_wp2_with fail
  clear h5
  go_loopw [15] (fun i wr => ∃ k : Nat, i = .int .i64 k ∧ k ≤ n ∧ ((∀ j, j < k → ((us.getD j zeroU).x == x && (us.getD j zeroU).y == y) = false) ∧ Below w.heap.size w wr)) (fun i _ => (n - intOf i).toNat)
  case atStart => exact ⟨0, rfl, by omega, fun j hj => absurd hj (by omega), Below.refl _ _⟩
  case round =>
    obtain ⟨k, rfl, hk, hX⟩ := hrel
    have HX := Lib.hid hX
    clear hX
    by_cases hlt : k < n
    · obtain ⟨v, hv⟩ : ∃ v, us.getD k zeroU = v := ⟨_, rfl⟩
      obtain ⟨b, o, rfl, -, q0, q1, q2, q3, q4, q5, q6, q7, q8, q9⟩ := (HU.out.below HX.out.2).getE k (by have := HL.out; omega) v hv
      have HV := Lib.hid hv
      have HW : Hid (∀ cs t, Below w.heap.size w (wr.alloc (.cells cs t))) := Lib.hid (fun cs t => HX.out.2.alloc HX.out.2.size _)
      clear hv
      by_cases he : v.x = x
      · have d1 : (v.x == x) = true := by simp [he]
        by_cases he2 : v.y = y
        · have d2 : (v.y == y) = true := by simp [he2]
          have HE := Lib.hid he
          have HE2 := Lib.hid he2
          clear he he2
          go_wp2_with fail
          go_ret
          refine ⟨ret1 (boolv ?_), HW.out _ _⟩
          have hkl : k < us.length := by have := HL.out; omega
          have : standsAt us x y = true := by
            unfold standsAt
            rw [List.any_eq_true]
            exact ⟨us[k], List.getElem_mem hkl, by rw [← getD_lt hkl, HV.out]; simp [HE.out, HE2.out]⟩
          exact this.symm
        · have d2 : (v.y == y) = false := by simp [he2]
          have HE : Hid ((v.x == x && v.y == y) = false) := Lib.hid (by simp [he2])
          clear he he2
          go_wp2_with fail
          go_roundw
          case rel =>
            refine ⟨k + 1, by go_num, by omega, ?_, HW.out _ _⟩
            intro j hj
            by_cases e : j = k
            · rw [e, HV.out]; exact HE.out
            · exact HX.out.1 j (by omega)
          case measure => simp [intOf]; omega
      · have d1 : (v.x == x) = false := by simp [he]
        have HE : Hid ((v.x == x && v.y == y) = false) := Lib.hid (by simp [he])
        clear he
        go_wp2_with fail
        go_roundw
        case rel =>
          refine ⟨k + 1, by go_num, by omega, ?_, HW.out _ _⟩
          intro j hj
          by_cases e : j = k
          · rw [e, HV.out]; exact HE.out
          · exact HX.out.1 j (by omega)
        case measure => simp [intOf]; omega
    · go_wp2_with fail
      go_ret
      refine ⟨ret1 (boolv ?_), HX.out.2⟩
      have : standsAt us x y = false := by
        unfold standsAt
        rw [List.any_eq_false]
        intro v hv
        obtain ⟨j, hj, rfl⟩ := List.mem_iff_getElem.1 hv
        have := HX.out.1 j (by have := HL.out; omega)
        rw [getD_lt hj] at this
        rw [this]
        simp
      exact this.symm

/-- Where it wants to go. -/
def goalE (us : List U) (u : U) : Int × Int := if 0 < u.target then ((us.getD (ixOf us u.target).toNat zeroU).x, (us.getD (ixOf us u.target).toNat zeroU).y) else (u.gx, u.gy)
def small (n : Int) : Prop := -100000 ≤ n ∧ n ≤ 100000
def nearE (us : List U) (u : U) : Bool :=
  if u.does = 3 then decide (far u.x u.y (us.getD (ixOf us u.target).toNat zeroU).x (us.getD (ixOf us u.target).toNat zeroU).y ≤ 1)
  else decide (far u.x u.y (us.getD (ixOf us u.target).toNat zeroU).x (us.getD (ixOf us u.target).toNat zeroU).y ≤ (ruleOf false u.kind).range)

set_option maxHeartbeats 3200000 in
set_option maxRecDepth 100000 in
theorem near_any (S : Nat) (a : Option Addr) (n c : Nat) (us : List U) (u : U) (hl : us.length = n) (hn : n ≤ 1000) (hs : sortedU us) (k : Nat) (hk : ixOf us u.target = k) (v : U) (hv : us.getD k zeroU = v) (s1 : small u.x) (s2 : small u.y) (s3 : small v.x) (s4 : small v.y)
    (w : World) (hS : S < w.heap.size) (h5 : w.cell? ⟨S, 5, none⟩ = some (.slice a n c)) (hu : URow false w.heap.size w a us) :
    Calls Try.prog 165 #[.pointer (some ⟨S, 0, none⟩), .agg #[.int .i64 u.id, .int .i64 u.owner, .int .i64 u.kind, .int .i64 u.x, .int .i64 u.y, .int .i64 u.hp, .int .i64 u.does, .int .i64 u.gx, .int .i64 u.gy, .int .i64 u.target]] w fun e w' => e = .returned (.bool (nearE us u)) ∧ Below w.heap.size w w' := by
  have hkn : k < n := by rw [← hl]; exact (ixOf_lt hk).1
  obtain ⟨W0, hW0⟩ : ∃ W0, w.alloc (.cells #[.int .i64 u.id, .int .i64 u.owner, .int .i64 u.kind, .int .i64 u.x, .int .i64 u.y, .int .i64 u.hp, .int .i64 u.does, .int .i64 u.gx, .int .i64 u.gy, .int .i64 u.target] 179) = W0 := ⟨_, rfl⟩
  have hb0 : Below w.heap.size w W0 := by rw [← hW0]; exact (Below.refl _ _).alloc (Nat.le_refl _) _
  have hk1 := Blk.new w #[.int .i64 u.id, .int .i64 u.owner, .int .i64 u.kind, .int .i64 u.x, .int .i64 u.y, .int .i64 u.hp, .int .i64 u.does, .int .i64 u.gx, .int .i64 u.gy, .int .i64 u.target] 179
  rw [hW0] at hk1
  have hsz : w.heap.size < W0.heap.size := hk1.lt
  have hg5 : W0.cell? ⟨S, 5, none⟩ = some (.slice a n c) := (hb0.cell (p := ⟨S, 5, none⟩) hS).trans h5
  obtain ⟨b, o, rfl, hbB, q0, q1, q2, q3, q4, q5, q6, q7, q8, q9⟩ := (hu.below hb0).getE k (by omega) v hv
  have hbB0 : b < W0.heap.size := by omega
  obtain ⟨l1, c1, -⟩ := id hk1
  have HK1 := Lib.hid hk1
  have HU0 : Hid (URow false W0.heap.size W0 (some ⟨b, o, none⟩) us) := Lib.hid ((hu.below hb0).mono (by omega))
  have HB0 := Lib.hid hb0
  have HL := Lib.hid hl
  have HSo := Lib.hid hs
  have HNE : Hid (nearE us u = if u.does = 3 then decide (far u.x u.y v.x v.y ≤ 1) else decide (far u.x u.y v.x v.y ≤ (ruleOf false u.kind).range)) := Lib.hid (by
    show _ = _
    unfold nearE
    rw [hk, Int.toNat_natCast, hv])
  have HK := Lib.hid hk
  have hki : (0 : Int) ≤ (k : Int) := by omega
  have hkj : (k : Int) < (n : Int) := by omega
  clear hu hb0 hk1 h5 hl hs hv hk
  go_enter Try.func165, Try.ntmps165
  go_wp2_with fail
  haveI := Cw.ne W0
  have hS0 : S < W0.heap.size := by omega
  have hcw := fun (x : Cw W0) => x.cell
  refine region_loose 15 (by kernel_rfl) (by kernel_rfl) ?_
  repeat (refine wpQB_step (fun K hK => ?_); go_simp; first | (refine hK _ ?_; clear hK K) | (apply Exists.intro; refine ⟨fun x => ?_, hK _ ?_⟩; (go_at_call 159; refine (at_any (some ⟨b, o, none⟩) n c us u.target HL.out hn HSo.out _ ((HU0.out.below x.below).mono x.le)).mono ?_; rintro e w1 ⟨rfl, b1⟩; rw [HK.out]; exact ⟨rfl, b1⟩); clear hK K))
  refine wpQB_nil ?_
  refine tail_var (T := 179) (d := 5) (r := 23) (c := #[.int .i64 v.id, .int .i64 v.owner, .int .i64 v.kind, .int .i64 v.x, .int .i64 v.y, .int .i64 v.hp, .int .i64 v.does, .int .i64 v.gx, .int .i64 v.gy, .int .i64 v.target]) #[.int .i64 0, .int .i64 0, .int .i64 0, .int .i64 0, .int .i64 0, .int .i64 0, .int .i64 0, .int .i64 0, .int .i64 0, .int .i64 0] rfl rfl rfl rfl (fun _ => rfl) (fun w => by simp [go_sem]) (fun _ => rfl) (by simp) rfl (by kernel_rfl) (by simp [Value.oneCell']) (fun p => ?_)
  refine tail_nil ?_
  rintro w1 ⟨hb, hp, hk⟩
  clear hcw q0 q1 q2 q3 q4 q5 q6 q7 q8 q9
  obtain ⟨l3, c3, -⟩ := id hk
  have hc1 := (bcell hb).1
  have HK3 := Lib.hid hk
  have HB : Hid (Below w.heap.size w w1) := Lib.hid (HB0.out.trans (hb.mono (by omega)))
  have hs1 := hb.size
  have HBB := Lib.hid hb
  clear hb hk hp
  go_simp
  go_wp2_with fail
  refine (rElder u.kind _).mono ?_
  rintro e w2 ⟨rfl, b2⟩
  have HB2 : Hid (Below w.heap.size w w2) := Lib.hid (HB.out.trans (b2.mono (by omega)))
  obtain ⟨l4, c4, -⟩ := (HK1.out.below HBB.out hsz).call b2
  obtain ⟨l5, c5, -⟩ := HK3.out.call b2
  clear c1 c3 hc1
  have hs2 := b2.size
  obtain ⟨r, hrr⟩ : ∃ r, ruleOf false u.kind = r := ⟨_, rfl⟩
  rw [hrr]
  rw [hrr] at HNE
  clear hrr b2
  have e1 : w.heap.size < w1.heap.size := by omega
  have e2 : w.heap.size ≠ w2.heap.size := by omega
  have e3 : p ≠ w2.heap.size := by omega
  obtain ⟨_, _⟩ := s1; obtain ⟨_, _⟩ := s2; obtain ⟨_, _⟩ := s3; obtain ⟨_, _⟩ := s4
  go_wp2_with fail
  refine (rFar u.x u.y v.x v.y _ (by omega) (by omega) (by omega) (by omega)).mono ?_
  rintro e w3 ⟨rfl, rfl⟩
  by_cases h3 : u.does = 3
  · have d3 : (u.does == 3) = true := by simp [h3]
    have HF : Hid (nearE us u = decide (far u.x u.y v.x v.y ≤ 1)) := Lib.hid (by rw [HNE.out, if_pos h3])
    clear h3
    go_wp2_with fail
    go_ret
    exact ⟨ret1 (boolv HF.out.symm), by repeat (first | exact HB2.out | refine Below.alloc ?_ HB2.out.size _)⟩
  · have d3 : (u.does == 3) = false := by simp [h3]
    have HF : Hid (nearE us u = decide (far u.x u.y v.x v.y ≤ r.range)) := Lib.hid (by rw [HNE.out, if_neg h3])
    clear h3
    go_wp2_with fail
    go_ret
    exact ⟨ret1 (boolv HF.out.symm), by repeat (first | exact HB2.out | refine Below.alloc ?_ HB2.out.size _)⟩

def wishE (us : List U) (u : U) : Option (Int × Int) :=
  if (ruleOf false u.kind).speed = 0 ∨ u.does = 0 ∨ (0 < u.target ∧ nearE us u = true) then none
  else if goalE us u = (u.x, u.y) then none
  else some (near1 u.x (goalE us u).1, near1 u.y (goalE us u).2)
/-- What a wish hands back. -/
def WishEnd (us : List U) (u : U) (w : World) (e : Ending) (w' : World) : Prop :=
  Below w.heap.size w w' ∧ ((wishE us u = none ∧ ∃ p q, e = .returned (.tuple #[.agg #[.int .i64 p, .int .i64 q], .bool false])) ∨ ∃ p q, wishE us u = some (p, q) ∧ e = .returned (.tuple #[.agg #[.int .i64 p, .int .i64 q], .bool true]))

theorem Blk.store2 {w : World} {S : Nat} {a b : Value} (h : Blk w S #[a, b]) (x y : Value) : Blk ((w.setCell ⟨S, 0, none⟩ x).setCell ⟨S, 1, none⟩ y) S #[x, y] := by
  have := (h.store x (i := 0) (by simp)).store y (i := 1) (by simp)
  simpa using this

set_option maxHeartbeats 3200000 in
set_option maxRecDepth 100000 in
theorem wish_go (S : Nat) (u : U) (ht : u.target = 0) (us : List U) (s1 : small u.x) (s2 : small u.y) (s3 : small u.gx) (s4 : small u.gy) (w : World) :
    Calls Try.prog 163 #[.pointer (some ⟨S, 0, none⟩), .agg #[.int .i64 u.id, .int .i64 u.owner, .int .i64 u.kind, .int .i64 u.x, .int .i64 u.y, .int .i64 u.hp, .int .i64 u.does, .int .i64 u.gx, .int .i64 u.gy, .int .i64 u.target]] w (WishEnd us u w) := by
  have hb0 : Below w.heap.size w (w.alloc (.cells #[.int .i64 u.id, .int .i64 u.owner, .int .i64 u.kind, .int .i64 u.x, .int .i64 u.y, .int .i64 u.hp, .int .i64 u.does, .int .i64 u.gx, .int .i64 u.gy, .int .i64 u.target] 179)) := (Below.refl _ _).alloc (Nat.le_refl _) _
  have hb1 : Below w.heap.size w ((w.alloc (.cells #[.int .i64 u.id, .int .i64 u.owner, .int .i64 u.kind, .int .i64 u.x, .int .i64 u.y, .int .i64 u.hp, .int .i64 u.does, .int .i64 u.gx, .int .i64 u.gy, .int .i64 u.target] 179)).alloc (.cells #[.int .i64 0, .int .i64 0] 62)) := hb0.alloc (by simp) _
  have hk1 := (Blk.new w #[.int .i64 u.id, .int .i64 u.owner, .int .i64 u.kind, .int .i64 u.x, .int .i64 u.y, .int .i64 u.hp, .int .i64 u.does, .int .i64 u.gx, .int .i64 u.gy, .int .i64 u.target] 179).alloc (.cells #[.int .i64 0, .int .i64 0] 62)
  have hk2 := Blk.new (w.alloc (.cells #[.int .i64 u.id, .int .i64 u.owner, .int .i64 u.kind, .int .i64 u.x, .int .i64 u.y, .int .i64 u.hp, .int .i64 u.does, .int .i64 u.gx, .int .i64 u.gy, .int .i64 u.target] 179)) #[.int .i64 0, .int .i64 0] 62
  have hk2 : Blk ((w.alloc (.cells #[.int .i64 u.id, .int .i64 u.owner, .int .i64 u.kind, .int .i64 u.x, .int .i64 u.y, .int .i64 u.hp, .int .i64 u.does, .int .i64 u.gx, .int .i64 u.gy, .int .i64 u.target] 179)).alloc (.cells #[.int .i64 0, .int .i64 0] 62)) (w.heap.size + 1) #[.int .i64 0, .int .i64 0] := by simpa using hk2
  have HG : Hid (goalE us u = (u.gx, u.gy)) := Lib.hid (by show _ = _; unfold goalE; rw [if_neg (by omega)])
  have HT := Lib.hid ht
  have HB1 := Lib.hid hb1
  have HK1 := Lib.hid hk1
  have HK2 := Lib.hid hk2
  have t0 : ¬ 0 < u.target := by omega
  clear hb0 hb1 hk1 hk2 ht
  go_enter Try.func163, Try.ntmps163
  go_wp2_with fail
  refine (rElder u.kind _).mono ?_
  rintro e w1 ⟨rfl, b1⟩
  have HBW : Hid (Below w.heap.size w w1) := Lib.hid (HB1.out.trans (b1.mono (by simp; omega)))
  have hK1 := HK1.out.call b1
  have hK2 := HK2.out.call b1
  obtain ⟨l1, c1, -⟩ := id hK1
  obtain ⟨l2, c2, f2⟩ := id hK2
  have HKA := Lib.hid hK1
  have HKB := Lib.hid hK2
  obtain ⟨r, hrr⟩ : ∃ r, ruleOf false u.kind = r := ⟨_, rfl⟩
  have HR := Lib.hid hrr
  rw [hrr]
  clear hrr b1 hK1 hK2
  have ne1 : w.heap.size + 1 ≠ w1.heap.size := by omega
  have ne0 : w.heap.size ≠ w1.heap.size := by omega
  by_cases h0 : r.speed = 0 ∨ u.does = 0
  · have HN : Hid (wishE us u = none) := Lib.hid (by
      show _ = _
      unfold wishE
      rw [HR.out, if_pos]
      rcases h0 with h | h
      · exact Or.inl h
      · exact Or.inr (Or.inl h))
    go_wp2_with fail
    go_quiet (fail)
    go_wp2_with fail
    all_goals first
      | (exfalso; omega)
      | (refine bodyPost_ret (v := .tuple #[.agg #[.int .i64 0, .int .i64 0], .bool false]) (ret_pair (d := .array 2 3) Try.results163 rfl rfl (Blk.store2 ((HKB.out.alloc _).drewN _) _ _) (by kernel_rfl) rfl (by kernel_rfl)) rfl ⟨?_, Or.inl ⟨HN.out, 0, 0, rfl⟩⟩
         repeat (first | exact HBW.out | refine Below.setCell ?_ (by simp) _ | refine Below.alloc ?_ HBW.out.size _ | refine Below.drew ?_ | refine below_drewN ?_ _))
  · have h1 : ¬ r.speed = 0 := fun h => h0 (Or.inl h)
    have h2 : ¬ u.does = 0 := fun h => h0 (Or.inr h)
    have d1 : (r.speed == 0) = false := by simp [h1]
    have d2 : (u.does == 0) = false := by simp [h2]
    have HW : Hid (wishE us u = if (u.gx, u.gy) = (u.x, u.y) then none else some (near1 u.x u.gx, near1 u.y u.gy)) := Lib.hid (by
      show _ = _
      unfold wishE
      rw [HR.out, HG.out, if_neg]
      rintro (h | h | h)
      · exact h1 h
      · exact h2 h
      · have := HT.out; omega)
    clear h0
    go_wp2_with fail
    go_quiet (fail)
    go_wp2_with fail
    refine (rToward u.x u.y u.gx u.gy _ s1 s2 s3 s4).mono ?_
    rintro e w3 ⟨rfl, rfl⟩
    obtain ⟨p, hp⟩ : ∃ p, near1 u.x u.gx = p := ⟨_, rfl⟩
    obtain ⟨q, hq⟩ : ∃ q, near1 u.y u.gy = q := ⟨_, rfl⟩
    have hpx : p = u.x ↔ u.gx = u.x := by rw [← hp]; unfold near1; split <;> (try split) <;> omega
    have hqy : q = u.y ↔ u.gy = u.y := by rw [← hq]; unfold near1; split <;> (try split) <;> omega
    rw [hp, hq]
    have HP := Lib.hid hp
    have HQ := Lib.hid hq
    have HPX := Lib.hid hpx
    have HQY := Lib.hid hqy
    clear hp hq hpx hqy
    have HFIN : Hid (∀ b : Bool, (p != u.x || q != u.y) = b → (b = false ∧ wishE us u = none) ∨ (b = true ∧ wishE us u = some (p, q))) := Lib.hid (by
      intro b hb
      rw [HW.out, HP.out, HQ.out]
      cases b
      · left
        simp at hb
        rw [if_pos (by rw [HPX.out.1 hb.1, HQY.out.1 hb.2])]
        exact ⟨rfl, rfl⟩
      · right
        rw [if_neg]
        · exact ⟨rfl, rfl⟩
        · intro h
          simp only [Prod.mk.injEq] at h
          rw [HPX.out.2 h.1, HQY.out.2 h.2] at hb
          simp at hb)
    by_cases hx : p = u.x
    · have e3 : (p != u.x) = false := by simp [hx]
      have e3' : (p == u.x) = true := by simp [hx]
      by_cases hy : q = u.y
      · have e4 : (q != u.y) = false := by simp [hy]
        have e4' : (q == u.y) = true := by simp [hy]
        have HD := Lib.hid ((HFIN.out false (by simp [hx, hy])).resolve_right (by simp))
        clear hx hy
        go_wp2_with fail
        go_region
        go_wp2_with fail
        refine bodyPost_ret (v := .tuple #[.agg #[.int .i64 p, .int .i64 q], .bool false]) (ret_pair (d := .array 2 3) Try.results163 rfl rfl (Blk.store2 ((HKB.out.alloc _).drewN _) _ _) (by kernel_rfl) rfl (by kernel_rfl)) rfl ⟨?_, Or.inl ⟨HD.out.2, p, q, rfl⟩⟩
        repeat (first | exact HBW.out | refine Below.setCell ?_ (by simp) _ | refine Below.alloc ?_ HBW.out.size _ | refine Below.drew ?_ | refine below_drewN ?_ _)
      · have e4 : (q != u.y) = true := by simp [hy]
        have e4' : (q == u.y) = false := by simp [hy]
        have HD := Lib.hid ((HFIN.out true (by simp [hy])).resolve_left (by simp))
        clear hx hy
        go_wp2_with fail
        go_region
        go_wp2_with fail
        refine bodyPost_ret (v := .tuple #[.agg #[.int .i64 p, .int .i64 q], .bool true]) (ret_pair (d := .array 2 3) Try.results163 rfl rfl (Blk.store2 ((HKB.out.alloc _).drewN _) _ _) (by kernel_rfl) rfl (by kernel_rfl)) rfl ⟨?_, Or.inr ⟨p, q, HD.out.2, rfl⟩⟩
        repeat (first | exact HBW.out | refine Below.setCell ?_ (by simp) _ | refine Below.alloc ?_ HBW.out.size _ | refine Below.drew ?_ | refine below_drewN ?_ _)
    · have e3 : (p != u.x) = true := by simp [hx]
      have e3' : (p == u.x) = false := by simp [hx]
      have HD := Lib.hid ((HFIN.out true (by simp [hx])).resolve_left (by simp))
      clear hx
      go_wp2_with fail
      go_region
      go_wp2_with fail
      refine bodyPost_ret (v := .tuple #[.agg #[.int .i64 p, .int .i64 q], .bool true]) (ret_pair (d := .array 2 3) Try.results163 rfl rfl (Blk.store2 ((HKB.out.alloc _).drewN _) _ _) (by kernel_rfl) rfl (by kernel_rfl)) rfl ⟨?_, Or.inr ⟨p, q, HD.out.2, rfl⟩⟩
      repeat (first | exact HBW.out | refine Below.setCell ?_ (by simp) _ | refine Below.alloc ?_ HBW.out.size _ | refine Below.drew ?_ | refine below_drewN ?_ _)
end Go.Proofs.Ytlfljlhppigejaa
namespace Go.Proofs.Ytlfljlhppigejaa
open Go.RowKit
attribute [local go_sem] qOne qAt qUp

set_option maxHeartbeats 3200000 in
set_option maxRecDepth 100000 in
theorem wish_aim (S : Nat) (a : Option Addr) (n c : Nat) (us : List U) (u : U) (ht : 0 < u.target) (hl : us.length = n) (hn : n ≤ 1000) (hs : sortedU us) (k : Nat) (hk : ixOf us u.target = k) (v : U) (hv : us.getD k zeroU = v) (s1 : small u.x) (s2 : small u.y) (s3 : small v.x) (s4 : small v.y)
    (w : World) (hS : S < w.heap.size) (h5 : w.cell? ⟨S, 5, none⟩ = some (.slice a n c)) (hu : URow false w.heap.size w a us) :
    Calls Try.prog 163 #[.pointer (some ⟨S, 0, none⟩), .agg #[.int .i64 u.id, .int .i64 u.owner, .int .i64 u.kind, .int .i64 u.x, .int .i64 u.y, .int .i64 u.hp, .int .i64 u.does, .int .i64 u.gx, .int .i64 u.gy, .int .i64 u.target]] w (WishEnd us u w) := by
  have hb0 : Below w.heap.size w (w.alloc (.cells #[.int .i64 u.id, .int .i64 u.owner, .int .i64 u.kind, .int .i64 u.x, .int .i64 u.y, .int .i64 u.hp, .int .i64 u.does, .int .i64 u.gx, .int .i64 u.gy, .int .i64 u.target] 179)) := (Below.refl _ _).alloc (Nat.le_refl _) _
  have hb1 : Below w.heap.size w ((w.alloc (.cells #[.int .i64 u.id, .int .i64 u.owner, .int .i64 u.kind, .int .i64 u.x, .int .i64 u.y, .int .i64 u.hp, .int .i64 u.does, .int .i64 u.gx, .int .i64 u.gy, .int .i64 u.target] 179)).alloc (.cells #[.int .i64 0, .int .i64 0] 62)) := hb0.alloc (by simp) _
  have hk1 := (Blk.new w #[.int .i64 u.id, .int .i64 u.owner, .int .i64 u.kind, .int .i64 u.x, .int .i64 u.y, .int .i64 u.hp, .int .i64 u.does, .int .i64 u.gx, .int .i64 u.gy, .int .i64 u.target] 179).alloc (.cells #[.int .i64 0, .int .i64 0] 62)
  have hk2 := Blk.new (w.alloc (.cells #[.int .i64 u.id, .int .i64 u.owner, .int .i64 u.kind, .int .i64 u.x, .int .i64 u.y, .int .i64 u.hp, .int .i64 u.does, .int .i64 u.gx, .int .i64 u.gy, .int .i64 u.target] 179)) #[.int .i64 0, .int .i64 0] 62
  have hk2 : Blk ((w.alloc (.cells #[.int .i64 u.id, .int .i64 u.owner, .int .i64 u.kind, .int .i64 u.x, .int .i64 u.y, .int .i64 u.hp, .int .i64 u.does, .int .i64 u.gx, .int .i64 u.gy, .int .i64 u.target] 179)).alloc (.cells #[.int .i64 0, .int .i64 0] 62)) (w.heap.size + 1) #[.int .i64 0, .int .i64 0] := by simpa using hk2
  have HG : Hid (goalE us u = (v.x, v.y)) := Lib.hid (by show _ = _; unfold goalE; rw [if_pos ht, hk, Int.toNat_natCast, hv])
  have HT := Lib.hid ht
  have HB1 := Lib.hid hb1
  have HK1 := Lib.hid hk1
  have HK2 := Lib.hid hk2
  have HL := Lib.hid hl
  have HSo := Lib.hid hs
  have HU := Lib.hid hu
  have HKX := Lib.hid hk
  have HV := Lib.hid hv
  have H5 := Lib.hid h5
  have hkn : k < n := by rw [← hl]; exact (ixOf_lt hk).1
  have hki : (0 : Int) ≤ (k : Int) := by omega
  have hkj : (k : Int) < (n : Int) := by omega
  clear hb0 hb1 hk1 hk2 hl hs hu hk hv h5
  go_enter Try.func163, Try.ntmps163
  go_wp2_with fail
  refine (rElder u.kind _).mono ?_
  rintro e w1 ⟨rfl, b1⟩
  have HBW : Hid (Below w.heap.size w w1) := Lib.hid (HB1.out.trans (b1.mono (by simp; omega)))
  have hK1 := HK1.out.call b1
  have hK2 := HK2.out.call b1
  obtain ⟨l1, c1, -⟩ := id hK1
  have HKA := Lib.hid hK1
  have HKB := Lib.hid hK2
  obtain ⟨r, hrr⟩ : ∃ r, ruleOf false u.kind = r := ⟨_, rfl⟩
  have HR := Lib.hid hrr
  rw [hrr]
  have ne1 : w.heap.size + 1 ≠ w1.heap.size := by have := hK2.1; omega
  have ne0 : w.heap.size ≠ w1.heap.size := by omega
  clear hrr b1 hK1 hK2
  go_wp2_with fail
  go_quiet (fail)
  go_wp2_with fail
  refine gen_world (fun W => Below w.heap.size w W ∧ Blk W w.heap.size #[.int .i64 u.id, .int .i64 u.owner, .int .i64 u.kind, .int .i64 u.x, .int .i64 u.y, .int .i64 u.hp, .int .i64 u.does, .int .i64 u.gx, .int .i64 u.gy, .int .i64 u.target] ∧ Blk W (w.heap.size + 1) #[.int .i64 0, .int .i64 0] ∧ Blk W w1.heap.size #[.int .i64 r.cost, .int .i64 r.hp, .int .i64 r.speed, .int .i64 r.harm, .int .i64 r.range, .int .i64 r.load]) ⟨below_drewN (HBW.out.alloc HBW.out.size _) _, (HKA.out.alloc _).drewN _, (HKB.out.alloc _).drewN _, (Blk.new w1 _ _).drewN _⟩ ?_
  rintro W ⟨hbW, kA, kB, kR⟩
  obtain ⟨b, o, rfl, hbB, q0, q1, q2, q3, q4, q5, q6, q7, q8, q9⟩ := (HU.out.below hbW).getE k (by have := HL.out; omega) v HV.out
  have hsW := hbW.size
  have hbB0 : b < W.heap.size := by omega
  have h5 := (hbW.cell (p := ⟨S, 5, none⟩) hS).trans H5.out
  have HUW : Hid (URow false W.heap.size W (some ⟨b, o, none⟩) us) := Lib.hid ((HU.out.below hbW).mono hsW)
  clear c1
  obtain ⟨l2, c2, -⟩ := id kA
  have HWB := Lib.hid hbW
  have HA := Lib.hid kA
  have HB := Lib.hid kB
  have HRu := Lib.hid kR
  haveI := Cw.ne W
  have hS0 : S < W.heap.size := by omega
  have hcw := fun (x : Cw W) => x.cell
  clear hbW kA kB kR
  refine region_loose 15 (by kernel_rfl) (by kernel_rfl) ?_
  repeat (refine wpQB_step (fun K hK => ?_); go_simp; first | (refine hK _ ?_; clear hK K) | (apply Exists.intro; refine ⟨fun x => ?_, hK _ ?_⟩; (go_at_call 159; refine (at_any (some ⟨b, o, none⟩) n c us u.target HL.out hn HSo.out _ ((HUW.out.below x.below).mono x.le)).mono ?_; rintro e w1 ⟨rfl, b1⟩; rw [HKX.out]; exact ⟨rfl, b1⟩); clear hK K))
  refine wpQB_nil ?_
  refine tail_var (T := 179) (d := 10) (r := 38) (c := #[.int .i64 v.id, .int .i64 v.owner, .int .i64 v.kind, .int .i64 v.x, .int .i64 v.y, .int .i64 v.hp, .int .i64 v.does, .int .i64 v.gx, .int .i64 v.gy, .int .i64 v.target]) #[.int .i64 0, .int .i64 0, .int .i64 0, .int .i64 0, .int .i64 0, .int .i64 0, .int .i64 0, .int .i64 0, .int .i64 0, .int .i64 0] rfl rfl rfl rfl (fun _ => rfl) (fun w => by simp [go_sem]) (fun _ => rfl) (by simp) rfl (by kernel_rfl) (by simp [Value.oneCell']) (fun p => ?_)
  refine tail_nil ?_
  rintro w2 ⟨hb, hp, hk⟩
  clear hcw q0 q1 q2 q3 q4 q5 q6 q7 q8 q9 c2 h5
  obtain ⟨l3, c3, -⟩ := id hk
  have HB2 : Hid (Below w.heap.size w w2) := Lib.hid (HWB.out.trans (hb.mono (by omega)))
  have hKA2 := HA.out.below hb l2
  have hKB2 := HB.out.below hb HB.out.1
  have hKR2 := HRu.out.below hb HRu.out.1
  have HU2 : Hid (URow false w2.heap.size w2 (some ⟨b, o, none⟩) us) := Lib.hid ((HU.out.below HB2.out).mono HB2.out.size)
  have H52 : Hid (w2.cell? ⟨S, 5, none⟩ = some (.slice (some ⟨b, o, none⟩) n c)) := Lib.hid ((HB2.out.cell (p := ⟨S, 5, none⟩) hS).trans H5.out)
  have hS2 : S < w2.heap.size := by have := HB2.out.size; omega
  obtain ⟨l4, c4, -⟩ := id hKA2
  obtain ⟨l5, c5, -⟩ := id hKR2
  obtain ⟨l6, c6, f6⟩ := id hKB2
  have HKA2 := Lib.hid hKA2
  have HKB2 := Lib.hid hKB2
  have HKR2 := Lib.hid hKR2
  clear hb hk hp hKA2 hKB2 hKR2
  go_simp
  go_wp2_with fail
  go_quiet (fail)
  by_cases h0 : r.speed = 0 ∨ u.does = 0
  · have HN : Hid (wishE us u = none) := Lib.hid (by
      show _ = _
      unfold wishE
      rw [HR.out, if_pos]
      rcases h0 with h | h
      · exact Or.inl h
      · exact Or.inr (Or.inl h))
    go_wp2_with fail
    all_goals first
      | (exfalso; omega)
      | (refine bodyPost_ret (v := .tuple #[.agg #[.int .i64 0, .int .i64 0], .bool false]) (ret_pair (d := .array 2 3) Try.results163 rfl rfl (Blk.store2 (HKB2.out.drewN _) _ _) (by kernel_rfl) rfl (by kernel_rfl)) rfl ⟨?_, Or.inl ⟨HN.out, 0, 0, rfl⟩⟩
         repeat (first | exact HB2.out | refine Below.setCell ?_ (by simp) _ | refine Below.alloc ?_ HB2.out.size _ | refine Below.drew ?_ | refine below_drewN ?_ _))
  · have h1 : ¬ r.speed = 0 := fun h => h0 (Or.inl h)
    have h2 : ¬ u.does = 0 := fun h => h0 (Or.inr h)
    have d1 : (r.speed == 0) = false := by simp [h1]
    have d2 : (u.does == 0) = false := by simp [h2]
    have HW0 : Hid (nearE us u = true → wishE us u = none) := Lib.hid (fun h => by
      unfold wishE
      rw [if_pos (Or.inr (Or.inr ⟨ht, h⟩))])
    have HW1 : Hid (nearE us u = false → wishE us u = if (v.x, v.y) = (u.x, u.y) then none else some (near1 u.x v.x, near1 u.y v.y)) := Lib.hid (fun hn => by
      unfold wishE
      rw [HR.out, HG.out, if_neg]
      rintro (h | h | h)
      · exact h1 h
      · exact h2 h
      · rw [hn] at h; cases h.2)
    clear h0
    go_wp2_with fail
    refine (near_any S (some ⟨b, o, none⟩) n c us u HL.out hn HSo.out k HKX.out v HV.out s1 s2 s3 s4 (w2.drewN nq) hS2 H52.out HU2.out).mono ?_
    rintro e w3 ⟨rfl, b3⟩
    have b3' : Below w2.heap.size w2 w3 := (below_drewN (Below.refl _ _) nq).trans b3
    have HBX : Hid (Below w.heap.size w w3) := Lib.hid (HB2.out.trans (b3'.mono (by have := HB2.out.size; omega)))
    have kA3 := HKA2.out.call b3'
    have kB3 := HKB2.out.call b3'
    clear c4 c5 c6 f6 b3 b3'
    obtain ⟨l7, c7, -⟩ := id kA3
    obtain ⟨l8, c8, f8⟩ := id kB3
    have HKBX := Lib.hid kB3
    clear kA3 kB3
    cases hne : nearE us u
    · have HW : Hid (wishE us u = if (v.x, v.y) = (u.x, u.y) then none else some (near1 u.x v.x, near1 u.y v.y)) := Lib.hid (HW1.out hne)
      clear hne
      go_wp2_with fail
      refine (rToward u.x u.y v.x v.y _ s1 s2 s3 s4).mono ?_
      rintro e w4 ⟨rfl, rfl⟩
      obtain ⟨pp, hp⟩ : ∃ pp, near1 u.x v.x = pp := ⟨_, rfl⟩
      obtain ⟨q, hq⟩ : ∃ q, near1 u.y v.y = q := ⟨_, rfl⟩
      have hpx : pp = u.x ↔ v.x = u.x := by rw [← hp]; unfold near1; split <;> (try split) <;> omega
      have hqy : q = u.y ↔ v.y = u.y := by rw [← hq]; unfold near1; split <;> (try split) <;> omega
      rw [hp, hq]
      have HP := Lib.hid hp
      have HQ := Lib.hid hq
      have HPX := Lib.hid hpx
      have HQY := Lib.hid hqy
      clear hp hq hpx hqy
      have HFIN : Hid (∀ b : Bool, (pp != u.x || q != u.y) = b → (b = false ∧ wishE us u = none) ∨ (b = true ∧ wishE us u = some (pp, q))) := Lib.hid (by
        intro b hb
        rw [HW.out, HP.out, HQ.out]
        cases b
        · left
          simp at hb
          rw [if_pos (by rw [HPX.out.1 hb.1, HQY.out.1 hb.2])]
          exact ⟨rfl, rfl⟩
        · right
          rw [if_neg]
          · exact ⟨rfl, rfl⟩
          · intro h
            simp only [Prod.mk.injEq] at h
            rw [HPX.out.2 h.1, HQY.out.2 h.2] at hb
            simp at hb)
      by_cases hx : pp = u.x
      · have e3 : (pp != u.x) = false := by simp [hx]
        have e3' : (pp == u.x) = true := by simp [hx]
        by_cases hy : q = u.y
        · have e4 : (q != u.y) = false := by simp [hy]
          have e4' : (q == u.y) = true := by simp [hy]
          have HD := Lib.hid ((HFIN.out false (by simp [hx, hy])).resolve_right (by simp))
          clear hx hy
          go_wp2_with fail
          go_region
          go_wp2_with fail
          refine bodyPost_ret (v := .tuple #[.agg #[.int .i64 pp, .int .i64 q], .bool false]) (ret_pair (d := .array 2 3) Try.results163 rfl rfl (Blk.store2 (HKBX.out) _ _) (by kernel_rfl) rfl (by kernel_rfl)) rfl ⟨?_, Or.inl ⟨HD.out.2, pp, q, rfl⟩⟩
          repeat (first | exact HBX.out | refine Below.setCell ?_ (by simp) _ | refine Below.alloc ?_ HBX.out.size _ | refine Below.drew ?_ | refine below_drewN ?_ _)
        · have e4 : (q != u.y) = true := by simp [hy]
          have e4' : (q == u.y) = false := by simp [hy]
          have HD := Lib.hid ((HFIN.out true (by simp [hy])).resolve_left (by simp))
          clear hx hy
          go_wp2_with fail
          go_region
          go_wp2_with fail
          refine bodyPost_ret (v := .tuple #[.agg #[.int .i64 pp, .int .i64 q], .bool true]) (ret_pair (d := .array 2 3) Try.results163 rfl rfl (Blk.store2 (HKBX.out) _ _) (by kernel_rfl) rfl (by kernel_rfl)) rfl ⟨?_, Or.inr ⟨pp, q, HD.out.2, rfl⟩⟩
          repeat (first | exact HBX.out | refine Below.setCell ?_ (by simp) _ | refine Below.alloc ?_ HBX.out.size _ | refine Below.drew ?_ | refine below_drewN ?_ _)
      · have e3 : (pp != u.x) = true := by simp [hx]
        have e3' : (pp == u.x) = false := by simp [hx]
        have HD := Lib.hid ((HFIN.out true (by simp [hx])).resolve_left (by simp))
        clear hx
        go_wp2_with fail
        go_region
        go_wp2_with fail
        refine bodyPost_ret (v := .tuple #[.agg #[.int .i64 pp, .int .i64 q], .bool true]) (ret_pair (d := .array 2 3) Try.results163 rfl rfl (Blk.store2 (HKBX.out) _ _) (by kernel_rfl) rfl (by kernel_rfl)) rfl ⟨?_, Or.inr ⟨pp, q, HD.out.2, rfl⟩⟩
        repeat (first | exact HBX.out | refine Below.setCell ?_ (by simp) _ | refine Below.alloc ?_ HBX.out.size _ | refine Below.drew ?_ | refine below_drewN ?_ _)
    · have HN : Hid (wishE us u = none) := Lib.hid (HW0.out hne)
      clear hne
      go_wp2_with fail
      refine bodyPost_ret (v := .tuple #[.agg #[.int .i64 0, .int .i64 0], .bool false]) (ret_pair (d := .array 2 3) Try.results163 rfl rfl (Blk.store2 (HKBX.out) _ _) (by kernel_rfl) rfl (by kernel_rfl)) rfl ⟨?_, Or.inl ⟨HN.out, 0, 0, rfl⟩⟩
      repeat (first | exact HBX.out | refine Below.setCell ?_ (by simp) _ | refine Below.alloc ?_ HBX.out.size _ | refine Below.drew ?_ | refine below_drewN ?_ _)
end Go.Proofs.Ytlfljlhppigejaa
