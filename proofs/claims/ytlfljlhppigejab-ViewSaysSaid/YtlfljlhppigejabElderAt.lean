/-
  The walks of elder.at, elder.may, elder.aims.
-/
import Derived.Test.YtlfljlhppigejabPackMaps
import Derived.Test.YtlfljlhppigejabPackSmall
import Derived.Test.YtlfljlhppigejabRulesWalk
import Derived.BigQuiet
import Derived.Deep.QuietTactic
import Derived.Deep.Light
import Derived.RegionTactic
import Derived.Deep.RegionHeld3
import Derived.BigRegion
namespace Go.Proofs.Ytlfljlhppigejab
open Go.RowKit

set_option maxHeartbeats 800000 in
set_option maxRecDepth 100000 in
theorem at1_any (S : Nat) (a : Option Addr) (n c : Nat) (us : List U) (id : Int) (hn : us.length = n) (i : Nat) (hi : i < n) (W0 W : World) (hS : W0.heap.size = S + 1 + 1) (hW : Below W0.heap.size W0 W)
    (h0 : W0.cell? ⟨S, 0, none⟩ = some (.slice a n c)) (h1 : W0.cell? ⟨S + 1, 0, none⟩ = some (.int .i64 id)) (hu : URow false W0.heap.size W0 a us) :
    Calls Try.prog 125 #[.int .i64 i, .pointer (some ⟨S, 0, none⟩), .pointer (some ⟨S + 1, 0, none⟩)] W fun e W' => e = .returned (.bool (decide (id ≤ (us.getD i zeroU).id))) ∧ Below W0.heap.size W0 W' := by
  have h0' := (hW.cell (p := ⟨S, 0, none⟩) (by show S < _; omega)).trans h0
  have h1' := (hW.cell (p := ⟨S + 1, 0, none⟩) (by show S + 1 < _; omega)).trans h1
  obtain ⟨u, hue⟩ : ∃ u, us.getD i zeroU = u := ⟨_, rfl⟩
  obtain ⟨b, o, rfl, hbB, q0, -⟩ := (hu.below hW).getE i (by omega) u hue
  rw [hue]
  have HW := Lib.hid hW
  clear h0 h1 hu hW hue hn hS
  go_enter Try.func125, Try.ntmps125
  go_wp2_with fail
  go_quiet (fail)
  go_wp2_with fail
  go_ret
  exact ⟨rfl, below_drewN HW.out _⟩

set_option maxHeartbeats 800000 in
set_option maxRecDepth 100000 in
theorem at_any (a : Option Addr) (n c : Nat) (us : List U) (id : Int) (hn : us.length = n) (hn20 : n ≤ 1000) (hs : sortedU us) (w : World) (hu : URow false w.heap.size w a us) :
    Calls Try.prog 103 #[.slice a n c, .int .i64 id] w fun e w' => e = .returned (.int .i64 (ixOf us id)) ∧ Below w.heap.size w w' := by
  obtain ⟨W0, hW0⟩ : ∃ W0, (w.alloc (.cells #[.slice a n c] 24)).alloc (.cells #[.int .i64 id] 3) = W0 := ⟨_, rfl⟩
  have hb0 : Below w.heap.size w W0 := by rw [← hW0]; exact ((Below.refl _ _).alloc (Nat.le_refl _) _).alloc (by simp) _
  have hsz : W0.heap.size = w.heap.size + 1 + 1 := by rw [← hW0]; simp
  have h0 : W0.cell? ⟨w.heap.size, 0, none⟩ = some (.slice a n c) := by rw [← hW0]; simp [go_sem]
  have h1 : W0.cell? ⟨w.heap.size + 1, 0, none⟩ = some (.int .i64 id) := by rw [← hW0]; simp [go_sem]
  have hu0 : URow false W0.heap.size W0 a us := (hu.below hb0).mono (by omega)
  have HN := Lib.hid hn
  have HS := Lib.hid hs
  clear hn hs
  go_enter Try.func103, Try.ntmps103
  go_wp2_with fail
  have HW := Lib.hid hW0
  clear hW0
  refine (search_at _ _ n (by omega) (fun i => decide (id ≤ (us.getD i zeroU).id)) (fun W => Below W0.heap.size W0 W) (Lib.hid ?_) W0 (Lib.hid (Below.refl _ _))).mono ?_
  · intro i W hi hW
    exact at1_any _ a n c us id HN.out i hi W0 W hsz hW h0 h1 hu0
  · intro e w1 hend
    obtain ⟨i, rfl, hin, hd1, hd2, hb1⟩ := hend
    have h0' := (hb1.cell (p := ⟨w.heap.size, 0, none⟩) (by show w.heap.size < _; omega)).trans h0
    have h1' := (hb1.cell (p := ⟨w.heap.size + 1, 0, none⟩) (by show w.heap.size + 1 < _; omega)).trans h1
    have hix := ixOf_search (i := i) (id := id) HS.out (by rw [HN.out]; exact hin) (fun h => by have := hd1 (by rw [HN.out] at h; exact h); simpa using this) (fun h => by have := hd2 h; simpa using this)
    rw [HN.out] at hix
    have hbw : Below w.heap.size w w1 := hb0.trans (hb1.mono hb0.size)
    have HIX := Lib.hid hix
    have HB := Lib.hid hbw
    have hu1 := hu0.below hb1
    clear hd1 hd2 hb1 hix hbw h0 h1 hu hu0
    by_cases hlt : i < n
    · obtain ⟨u, hue⟩ : ∃ u, us.getD i zeroU = u := ⟨_, rfl⟩
      obtain ⟨b, o, rfl, hbB, q0, -⟩ := hu1.getE i (by rw [HN.out]; exact hlt) u hue
      rw [hue] at HIX
      clear hue hu1
      by_cases hid : u.id = id
      · have e1 : (u.id == id) = true := by simp [hid]
        have HE := Lib.hid hid
        clear hid
        go_wp2_with fail
        go_quiet (fail)
        go_wp2_with fail
        go_ret
        exact ⟨ret1 (intv (by rw [HIX.out, if_pos ⟨hlt, HE.out⟩])), below_drewN HB.out _⟩
      · have e1 : (u.id == id) = false := by simp [hid]
        have HE := Lib.hid hid
        clear hid
        go_wp2_with fail
        go_quiet (fail)
        go_wp2_with fail
        go_ret
        exact ⟨ret1 (intv (by rw [HIX.out, if_neg (fun h => HE.out h.2)])), below_drewN HB.out _⟩
    · have hf : decide ((i : Int) < (n : Int)) = false := by simp; omega
      go_wp2_with fail
      go_quiet (fail)
      go_wp2_with fail
      go_ret
      exact ⟨ret1 (intv (by rw [HIX.out, if_neg (fun h => hlt h.1)])), below_drewN HB.out _⟩

set_option maxHeartbeats 3200000 in
set_option maxRecDepth 100000 in
theorem may_any (u v : U) (w : World) :
    Calls Try.prog 107 #[.agg #[.int .i64 u.id, .int .i64 u.owner, .int .i64 u.kind, .int .i64 u.x, .int .i64 u.y, .int .i64 u.hp, .int .i64 u.does, .int .i64 u.gx, .int .i64 u.gy, .int .i64 u.target], .agg #[.int .i64 v.id, .int .i64 v.owner, .int .i64 v.kind, .int .i64 v.x, .int .i64 v.y, .int .i64 v.hp, .int .i64 v.does, .int .i64 v.gx, .int .i64 v.gy, .int .i64 v.target]] w
      fun e w' => e = .returned (.int .i64 (mayDo false u v)) ∧ Below w.heap.size w w' := by
  have hb0 : Below w.heap.size w ((w.alloc (.cells #[.int .i64 u.id, .int .i64 u.owner, .int .i64 u.kind, .int .i64 u.x, .int .i64 u.y, .int .i64 u.hp, .int .i64 u.does, .int .i64 u.gx, .int .i64 u.gy, .int .i64 u.target] 83)).alloc (.cells #[.int .i64 v.id, .int .i64 v.owner, .int .i64 v.kind, .int .i64 v.x, .int .i64 v.y, .int .i64 v.hp, .int .i64 v.does, .int .i64 v.gx, .int .i64 v.gy, .int .i64 v.target] 83)) := ((Below.refl _ _).alloc (Nat.le_refl _) _).alloc (by simp) _
  have hb1 := (Blk.new w #[.int .i64 u.id, .int .i64 u.owner, .int .i64 u.kind, .int .i64 u.x, .int .i64 u.y, .int .i64 u.hp, .int .i64 u.does, .int .i64 u.gx, .int .i64 u.gy, .int .i64 u.target] 83).alloc (.cells #[.int .i64 v.id, .int .i64 v.owner, .int .i64 v.kind, .int .i64 v.x, .int .i64 v.y, .int .i64 v.hp, .int .i64 v.does, .int .i64 v.gx, .int .i64 v.gy, .int .i64 v.target] 83)
  have hb2 := Blk.new (w.alloc (.cells #[.int .i64 u.id, .int .i64 u.owner, .int .i64 u.kind, .int .i64 u.x, .int .i64 u.y, .int .i64 u.hp, .int .i64 u.does, .int .i64 u.gx, .int .i64 u.gy, .int .i64 u.target] 83)) #[.int .i64 v.id, .int .i64 v.owner, .int .i64 v.kind, .int .i64 v.x, .int .i64 v.y, .int .i64 v.hp, .int .i64 v.does, .int .i64 v.gx, .int .i64 v.gy, .int .i64 v.target] 83
  go_enter Try.func107, Try.ntmps107
  go_wp2_with fail
  refine (rElder u.kind _).mono ?_
  rintro e w1 ⟨rfl, b1⟩
  have hbw : Below w.heap.size w w1 := hb0.trans (b1.mono (by simp; omega))
  obtain ⟨l1, c1, -⟩ := hb1.call b1
  obtain ⟨l2, c2, -⟩ := hb2.call b1
  simp only [World.size_alloc] at l2 c2
  clear hb0 hb1 hb2 b1
  obtain ⟨r, hrr⟩ : ∃ r, ruleOf false u.kind = r := ⟨_, rfl⟩
  have HR := Lib.hid hrr
  rw [hrr]
  clear hrr
  go_wp2_with fail
  all_goals
    go_ret
    refine ⟨ret1 (intv ?_), by repeat (first | exact hbw | refine Below.alloc ?_ hbw.size _)⟩
    clear hbw l1 c1 l2 c2
    have hrr := HR.out
    go_light
    unfold mayDo
    rw [hrr]
    repeat' split
    all_goals first | rfl | (exfalso; simp_all; done) | (exfalso; simp_all <;> omega)

set_option maxHeartbeats 1600000 in
set_option maxRecDepth 100000 in
theorem aims_any (a : Option Addr) (n c : Nat) (us : List U) (u : U) (hn : us.length = n) (hn20 : n ≤ 1000) (hs : sortedU us) (w : World) (hu : URow false w.heap.size w a us) :
    Calls Try.prog 83 #[.slice a n c, .agg #[.int .i64 u.id, .int .i64 u.owner, .int .i64 u.kind, .int .i64 u.x, .int .i64 u.y, .int .i64 u.hp, .int .i64 u.does, .int .i64 u.gx, .int .i64 u.gy, .int .i64 u.target]] w
      fun e w' => e = .returned (.bool (aimsOk false us u)) ∧ Below w.heap.size w w' := by
  have hb0 : Below w.heap.size w (w.alloc (.cells #[.int .i64 u.id, .int .i64 u.owner, .int .i64 u.kind, .int .i64 u.x, .int .i64 u.y, .int .i64 u.hp, .int .i64 u.does, .int .i64 u.gx, .int .i64 u.gy, .int .i64 u.target] 83)) := (Below.refl _ _).alloc (Nat.le_refl _) _
  have hb1 := Blk.new w #[.int .i64 u.id, .int .i64 u.owner, .int .i64 u.kind, .int .i64 u.x, .int .i64 u.y, .int .i64 u.hp, .int .i64 u.does, .int .i64 u.gx, .int .i64 u.gy, .int .i64 u.target] 83
  have HN := Lib.hid hn
  have HU := Lib.hid hu
  clear hn hu
  by_cases ht : u.target = 0
  · have e1 : (u.target == 0) = true := by simp [ht]
    have HT := Lib.hid ht
    clear ht hb1
    go_enter Try.func83, Try.ntmps83
    go_wp2_with fail
    go_ret
    exact ⟨ret1 (boolv (by unfold aimsOk; simp [HT.out])), hb0⟩
  · have e1 : (u.target == 0) = false := by simp [ht]
    have HT := Lib.hid ht
    clear ht
    go_enter Try.func83, Try.ntmps83
    go_wp2_with fail
    refine (at_any a n c us u.target HN.out hn20 hs _ ((HU.out.below hb0).mono (by simp))).mono ?_
    rintro e w1 ⟨rfl, b1⟩
    have hbw : Below w.heap.size w w1 := hb0.trans (b1.mono (by simp))
    have K1 := hb1.call b1
    obtain ⟨r1, r2⟩ := ixOf_range us u.target
    have hu1 := HU.out.below hbw
    clear hb0 hb1 b1
    by_cases hneg : ixOf us u.target < 0
    · clear hu1
      have hfin : Hid (aimsOk false us u = false) := by
        show _ = _
        unfold aimsOk
        simp only [decide_eq_false_iff_not]
        rintro (h | h)
        · exact HT.out h
        · omega
      go_wp2_with fail
      go_ret
      exact ⟨ret1 (boolv hfin.out.symm), hbw⟩
    · obtain ⟨i, hi⟩ := Int.eq_ofNat_of_zero_le (show 0 ≤ ixOf us u.target by omega)
      have hfin : Hid (aimsOk false us u = (u.does == mayDo false u (us.getD i zeroU))) := by
        show _ = _
        unfold aimsOk
        rw [hi, Bool.eq_iff_iff]
        simp only [Int.toNat_natCast, decide_eq_true_eq, beq_iff_eq]
        constructor
        · rintro (h | h)
          · exact absurd h HT.out
          · exact h.2.symm
        · intro h
          exact Or.inr ⟨by omega, h.symm⟩
      rw [hi]
      rw [hi] at r1 r2 hneg
      obtain ⟨v, hv⟩ : ∃ v, us.getD i zeroU = v := ⟨_, rfl⟩
      obtain ⟨b, o, rfl, hbB, q0, q1, q2, q3, q4, q5, q6, q7, q8, q9⟩ := hu1.getE i (by omega) v hv
      rw [hv] at hfin
      have hin : i < n := by have := HN.out; omega
      obtain ⟨l1, c1, -⟩ := K1
      have HI := Lib.hid hi
      have HB := Lib.hid hbw
      have hb1 : b < w1.heap.size := by omega
      have hsz : w.heap.size ≤ w1.heap.size := by omega
      have p0 := c1 0
      have p1 := c1 1
      have p2 := c1 2
      have p3 := c1 3
      have p4 := c1 4
      have p5 := c1 5
      have p6 := c1 6
      have p7 := c1 7
      have p8 := c1 8
      have p9 := c1 9
      clear hu1 hv hi hbw c1
      go_wp2_with fail
      go_region_held3 (fun w' => Below w.heap.size w w' ∧ w'.cell? ⟨w.heap.size, 0, none⟩ = some (.int .i64 u.id) ∧ w'.cell? ⟨w.heap.size, 1, none⟩ = some (.int .i64 u.owner) ∧ w'.cell? ⟨w.heap.size, 2, none⟩ = some (.int .i64 u.kind) ∧ w'.cell? ⟨w.heap.size, 3, none⟩ = some (.int .i64 u.x) ∧ w'.cell? ⟨w.heap.size, 4, none⟩ = some (.int .i64 u.y) ∧ w'.cell? ⟨w.heap.size, 5, none⟩ = some (.int .i64 u.hp) ∧ w'.cell? ⟨w.heap.size, 6, none⟩ = some (.int .i64 u.does) ∧ w'.cell? ⟨w.heap.size, 7, none⟩ = some (.int .i64 u.gx) ∧ w'.cell? ⟨w.heap.size, 8, none⟩ = some (.int .i64 u.gy) ∧ w'.cell? ⟨w.heap.size, 9, none⟩ = some (.int .i64 u.target) ∧ w'.cell? ⟨b, o + i * 10, none⟩ = some (.int .i64 v.id) ∧ w'.cell? ⟨b, o + i * 10 + 1, none⟩ = some (.int .i64 v.owner) ∧ w'.cell? ⟨b, o + i * 10 + 2, none⟩ = some (.int .i64 v.kind) ∧ w'.cell? ⟨b, o + i * 10 + 3, none⟩ = some (.int .i64 v.x) ∧ w'.cell? ⟨b, o + i * 10 + 4, none⟩ = some (.int .i64 v.y) ∧ w'.cell? ⟨b, o + i * 10 + 5, none⟩ = some (.int .i64 v.hp) ∧ w'.cell? ⟨b, o + i * 10 + 6, none⟩ = some (.int .i64 v.does) ∧ w'.cell? ⟨b, o + i * 10 + 7, none⟩ = some (.int .i64 v.gx) ∧ w'.cell? ⟨b, o + i * 10 + 8, none⟩ = some (.int .i64 v.gy) ∧ w'.cell? ⟨b, o + i * 10 + 9, none⟩ = some (.int .i64 v.target)) (first | exact ⟨below_drewN HB.out _, p0, p1, p2, p3, p4, p5, p6, p7, p8, p9, q0, q1, q2, q3, q4, q5, q6, q7, q8, q9⟩ | exact ⟨(below_drewN HB.out 1).trans (b2.mono hsz), (b2.cell (p := ⟨w.heap.size, 0, none⟩) l1).trans p0, (b2.cell (p := ⟨w.heap.size, 1, none⟩) l1).trans p1, (b2.cell (p := ⟨w.heap.size, 2, none⟩) l1).trans p2, (b2.cell (p := ⟨w.heap.size, 3, none⟩) l1).trans p3, (b2.cell (p := ⟨w.heap.size, 4, none⟩) l1).trans p4, (b2.cell (p := ⟨w.heap.size, 5, none⟩) l1).trans p5, (b2.cell (p := ⟨w.heap.size, 6, none⟩) l1).trans p6, (b2.cell (p := ⟨w.heap.size, 7, none⟩) l1).trans p7, (b2.cell (p := ⟨w.heap.size, 8, none⟩) l1).trans p8, (b2.cell (p := ⟨w.heap.size, 9, none⟩) l1).trans p9, (b2.cell (p := ⟨b, o + i * 10, none⟩) hb1).trans q0, (b2.cell (p := ⟨b, o + i * 10 + 1, none⟩) hb1).trans q1, (b2.cell (p := ⟨b, o + i * 10 + 2, none⟩) hb1).trans q2, (b2.cell (p := ⟨b, o + i * 10 + 3, none⟩) hb1).trans q3, (b2.cell (p := ⟨b, o + i * 10 + 4, none⟩) hb1).trans q4, (b2.cell (p := ⟨b, o + i * 10 + 5, none⟩) hb1).trans q5, (b2.cell (p := ⟨b, o + i * 10 + 6, none⟩) hb1).trans q6, (b2.cell (p := ⟨b, o + i * 10 + 7, none⟩) hb1).trans q7, (b2.cell (p := ⟨b, o + i * 10 + 8, none⟩) hb1).trans q8, (b2.cell (p := ⟨b, o + i * 10 + 9, none⟩) hb1).trans q9⟩) (first | (go_at_call 107; refine (may_any u v _).mono ?_; rintro e w2 ⟨rfl, b2⟩))
      have hHB : Below w.heap.size w w2 := (below_drewN HB.out 1).trans (b2.mono hsz)
      go_wp2_with fail
      go_ret
      exact ⟨ret1 (boolv hfin.out.symm), hHB⟩
end Go.Proofs.Ytlfljlhppigejab
