/-
  The walk of elder.wish where there is a target.
-/
import Derived.Test.YtlfljlhppigejabElderNear
namespace Go.Proofs.Ytlfljlhppigejab
open Go.RowKit
attribute [local go_sem] qOne qAt qUp

set_option maxHeartbeats 3200000 in
set_option maxRecDepth 100000 in
theorem wish_aim (S : Nat) (a : Option Addr) (n c : Nat) (us : List U) (u : U) (ht : 0 < u.target) (hl : us.length = n) (hn : n ≤ 1000) (hs : sortedU us) (k : Nat) (hk : ixOf us u.target = k) (v : U) (hv : us.getD k zeroU = v) (s1 : small u.x) (s2 : small u.y) (s3 : small v.x) (s4 : small v.y)
    (w : World) (hS : S < w.heap.size) (h5 : w.cell? ⟨S, 5, none⟩ = some (.slice a n c)) (hu : URow false w.heap.size w a us) :
    Calls Try.prog 109 #[.pointer (some ⟨S, 0, none⟩), .agg #[.int .i64 u.id, .int .i64 u.owner, .int .i64 u.kind, .int .i64 u.x, .int .i64 u.y, .int .i64 u.hp, .int .i64 u.does, .int .i64 u.gx, .int .i64 u.gy, .int .i64 u.target]] w (WishEnd us u w) := by
  have hb0 : Below w.heap.size w (w.alloc (.cells #[.int .i64 u.id, .int .i64 u.owner, .int .i64 u.kind, .int .i64 u.x, .int .i64 u.y, .int .i64 u.hp, .int .i64 u.does, .int .i64 u.gx, .int .i64 u.gy, .int .i64 u.target] 83)) := (Below.refl _ _).alloc (Nat.le_refl _) _
  have hb1 : Below w.heap.size w ((w.alloc (.cells #[.int .i64 u.id, .int .i64 u.owner, .int .i64 u.kind, .int .i64 u.x, .int .i64 u.y, .int .i64 u.hp, .int .i64 u.does, .int .i64 u.gx, .int .i64 u.gy, .int .i64 u.target] 83)).alloc (.cells #[.int .i64 0, .int .i64 0] 22)) := hb0.alloc (by simp) _
  have hk1 := (Blk.new w #[.int .i64 u.id, .int .i64 u.owner, .int .i64 u.kind, .int .i64 u.x, .int .i64 u.y, .int .i64 u.hp, .int .i64 u.does, .int .i64 u.gx, .int .i64 u.gy, .int .i64 u.target] 83).alloc (.cells #[.int .i64 0, .int .i64 0] 22)
  have hk2 := Blk.new (w.alloc (.cells #[.int .i64 u.id, .int .i64 u.owner, .int .i64 u.kind, .int .i64 u.x, .int .i64 u.y, .int .i64 u.hp, .int .i64 u.does, .int .i64 u.gx, .int .i64 u.gy, .int .i64 u.target] 83)) #[.int .i64 0, .int .i64 0] 22
  have hk2 : Blk ((w.alloc (.cells #[.int .i64 u.id, .int .i64 u.owner, .int .i64 u.kind, .int .i64 u.x, .int .i64 u.y, .int .i64 u.hp, .int .i64 u.does, .int .i64 u.gx, .int .i64 u.gy, .int .i64 u.target] 83)).alloc (.cells #[.int .i64 0, .int .i64 0] 22)) (w.heap.size + 1) #[.int .i64 0, .int .i64 0] := by simpa using hk2
  have HG : Hid (goalE us u = (v.x, v.y)) := Lib.hid (by show _ = _; unfold goalE; rw [if_pos ht, hk, Int.toNat_natCast, hv])
  have HT := Lib.hid ht
  have HB1 := Lib.hid hb1
  have HK1 := Lib.hid hk1
  have HK2 := Lib.hid hk2
  have HL := Lib.hid hl
  have HSo := Lib.hid hs
  have HU := Lib.hid hu
  have HKX := Lib.hid hk
  have HV := Lib.hid hv
  have H5 := Lib.hid h5
  have hkn : k < n := by rw [← hl]; exact (ixOf_lt hk).1
  have hki : (0 : Int) ≤ (k : Int) := by omega
  have hkj : (k : Int) < (n : Int) := by omega
  clear hb0 hb1 hk1 hk2 hl hs hu hk hv h5
  go_enter Try.func109, Try.ntmps109
  go_wp2_with fail
  refine (rElder u.kind _).mono ?_
  rintro e w1 ⟨rfl, b1⟩
  have HBW : Hid (Below w.heap.size w w1) := Lib.hid (HB1.out.trans (b1.mono (by simp; omega)))
  have hK1 := HK1.out.call b1
  have hK2 := HK2.out.call b1
  obtain ⟨l1, c1, -⟩ := id hK1
  have HKA := Lib.hid hK1
  have HKB := Lib.hid hK2
  obtain ⟨r, hrr⟩ : ∃ r, ruleOf false u.kind = r := ⟨_, rfl⟩
  have HR := Lib.hid hrr
  rw [hrr]
  have ne1 : w.heap.size + 1 ≠ w1.heap.size := by have := hK2.1; omega
  have ne0 : w.heap.size ≠ w1.heap.size := by omega
  clear hrr b1 hK1 hK2
  go_wp2_with fail
  go_quiet (fail)
  go_wp2_with fail
  refine gen_world (fun W => Below w.heap.size w W ∧ Blk W w.heap.size #[.int .i64 u.id, .int .i64 u.owner, .int .i64 u.kind, .int .i64 u.x, .int .i64 u.y, .int .i64 u.hp, .int .i64 u.does, .int .i64 u.gx, .int .i64 u.gy, .int .i64 u.target] ∧ Blk W (w.heap.size + 1) #[.int .i64 0, .int .i64 0] ∧ Blk W w1.heap.size #[.int .i64 r.cost, .int .i64 r.hp, .int .i64 r.speed, .int .i64 r.harm, .int .i64 r.range, .int .i64 r.load]) ⟨below_drewN (HBW.out.alloc HBW.out.size _) _, (HKA.out.alloc _).drewN _, (HKB.out.alloc _).drewN _, (Blk.new w1 _ _).drewN _⟩ ?_
  rintro W ⟨hbW, kA, kB, kR⟩
  obtain ⟨b, o, rfl, hbB, q0, q1, q2, q3, q4, q5, q6, q7, q8, q9⟩ := (HU.out.below hbW).getE k (by have := HL.out; omega) v HV.out
  have hsW := hbW.size
  have hbB0 : b < W.heap.size := by omega
  have h5 := (hbW.cell (p := ⟨S, 5, none⟩) hS).trans H5.out
  have HUW : Hid (URow false W.heap.size W (some ⟨b, o, none⟩) us) := Lib.hid ((HU.out.below hbW).mono hsW)
  clear c1
  obtain ⟨l2, c2, -⟩ := id kA
  have HWB := Lib.hid hbW
  have HA := Lib.hid kA
  have HB := Lib.hid kB
  have HRu := Lib.hid kR
  haveI := Cw.ne W
  have hS0 : S < W.heap.size := by omega
  have hcw := fun (x : Cw W) => x.cell
  clear hbW kA kB kR
  refine region_loose 15 (by kernel_rfl) (by kernel_rfl) ?_
  repeat (refine wpQB_step (fun K hK => ?_); go_simp; first | (refine hK _ ?_; clear hK K) | (apply Exists.intro; refine ⟨fun x => ?_, hK _ ?_⟩; (go_at_call 103; refine (at_any (some ⟨b, o, none⟩) n c us u.target HL.out hn HSo.out _ ((HUW.out.below x.below).mono x.le)).mono ?_; rintro e w1 ⟨rfl, b1⟩; rw [HKX.out]; exact ⟨rfl, b1⟩); clear hK K))
  refine wpQB_nil ?_
  refine tail_var (T := 83) (d := 10) (r := 38) (c := #[.int .i64 v.id, .int .i64 v.owner, .int .i64 v.kind, .int .i64 v.x, .int .i64 v.y, .int .i64 v.hp, .int .i64 v.does, .int .i64 v.gx, .int .i64 v.gy, .int .i64 v.target]) #[.int .i64 0, .int .i64 0, .int .i64 0, .int .i64 0, .int .i64 0, .int .i64 0, .int .i64 0, .int .i64 0, .int .i64 0, .int .i64 0] rfl rfl rfl rfl (fun _ => rfl) (fun w => by simp [go_sem]) (fun _ => rfl) (by simp) rfl (by kernel_rfl) (by simp [Value.oneCell']) (fun p => ?_)
  refine tail_nil ?_
  rintro w2 ⟨hb, hp, hk⟩
  clear hcw q0 q1 q2 q3 q4 q5 q6 q7 q8 q9 c2 h5
  obtain ⟨l3, c3, -⟩ := id hk
  have HB2 : Hid (Below w.heap.size w w2) := Lib.hid (HWB.out.trans (hb.mono (by omega)))
  have hKA2 := HA.out.below hb l2
  have hKB2 := HB.out.below hb HB.out.1
  have hKR2 := HRu.out.below hb HRu.out.1
  have HU2 : Hid (URow false w2.heap.size w2 (some ⟨b, o, none⟩) us) := Lib.hid ((HU.out.below HB2.out).mono HB2.out.size)
  have H52 : Hid (w2.cell? ⟨S, 5, none⟩ = some (.slice (some ⟨b, o, none⟩) n c)) := Lib.hid ((HB2.out.cell (p := ⟨S, 5, none⟩) hS).trans H5.out)
  have hS2 : S < w2.heap.size := by have := HB2.out.size; omega
  obtain ⟨l4, c4, -⟩ := id hKA2
  obtain ⟨l5, c5, -⟩ := id hKR2
  obtain ⟨l6, c6, f6⟩ := id hKB2
  have HKA2 := Lib.hid hKA2
  have HKB2 := Lib.hid hKB2
  have HKR2 := Lib.hid hKR2
  clear hb hk hp hKA2 hKB2 hKR2
  go_simp
  go_wp2_with fail
  go_quiet (fail)
  by_cases h0 : r.speed = 0 ∨ u.does = 0
  · have HN : Hid (wishE us u = none) := Lib.hid (by
      show _ = _
      unfold wishE
      rw [HR.out, if_pos]
      rcases h0 with h | h
      · exact Or.inl h
      · exact Or.inr (Or.inl h))
    go_wp2_with fail
    all_goals first
      | (exfalso; omega)
      | (refine bodyPost_ret (v := .tuple #[.agg #[.int .i64 0, .int .i64 0], .bool false]) (ret_pair (d := .array 2 3) Try.results109 rfl rfl (Blk.store2 (HKB2.out.drewN _) _ _) (by kernel_rfl) rfl (by kernel_rfl)) rfl ⟨?_, Or.inl ⟨HN.out, 0, 0, rfl⟩⟩
         repeat (first | exact HB2.out | refine Below.setCell ?_ (by simp) _ | refine Below.alloc ?_ HB2.out.size _ | refine Below.drew ?_ | refine below_drewN ?_ _))
  · have h1 : ¬ r.speed = 0 := fun h => h0 (Or.inl h)
    have h2 : ¬ u.does = 0 := fun h => h0 (Or.inr h)
    have d1 : (r.speed == 0) = false := by simp [h1]
    have d2 : (u.does == 0) = false := by simp [h2]
    have HW0 : Hid (nearE us u = true → wishE us u = none) := Lib.hid (fun h => by
      unfold wishE
      rw [if_pos (Or.inr (Or.inr ⟨ht, h⟩))])
    have HW1 : Hid (nearE us u = false → wishE us u = if (v.x, v.y) = (u.x, u.y) then none else some (near1 u.x v.x, near1 u.y v.y)) := Lib.hid (fun hn => by
      unfold wishE
      rw [HR.out, HG.out, if_neg]
      rintro (h | h | h)
      · exact h1 h
      · exact h2 h
      · rw [hn] at h; cases h.2)
    clear h0
    go_wp2_with fail
    refine (near_any S (some ⟨b, o, none⟩) n c us u HL.out hn HSo.out k HKX.out v HV.out s1 s2 s3 s4 (w2.drewN nq) hS2 H52.out HU2.out).mono ?_
    rintro e w3 ⟨rfl, b3⟩
    have b3' : Below w2.heap.size w2 w3 := (below_drewN (Below.refl _ _) nq).trans b3
    have HBX : Hid (Below w.heap.size w w3) := Lib.hid (HB2.out.trans (b3'.mono (by have := HB2.out.size; omega)))
    have kA3 := HKA2.out.call b3'
    have kB3 := HKB2.out.call b3'
    clear c4 c5 c6 f6 b3 b3'
    obtain ⟨l7, c7, -⟩ := id kA3
    obtain ⟨l8, c8, f8⟩ := id kB3
    have HKBX := Lib.hid kB3
    clear kA3 kB3
    cases hne : nearE us u
    · have HW : Hid (wishE us u = if (v.x, v.y) = (u.x, u.y) then none else some (near1 u.x v.x, near1 u.y v.y)) := Lib.hid (HW1.out hne)
      clear hne
      go_wp2_with fail
      refine (rToward u.x u.y v.x v.y _ s1 s2 s3 s4).mono ?_
      rintro e w4 ⟨rfl, rfl⟩
      obtain ⟨pp, hp⟩ : ∃ pp, near1 u.x v.x = pp := ⟨_, rfl⟩
      obtain ⟨q, hq⟩ : ∃ q, near1 u.y v.y = q := ⟨_, rfl⟩
      have hpx : pp = u.x ↔ v.x = u.x := by rw [← hp]; unfold near1; split <;> (try split) <;> omega
      have hqy : q = u.y ↔ v.y = u.y := by rw [← hq]; unfold near1; split <;> (try split) <;> omega
      rw [hp, hq]
      have HP := Lib.hid hp
      have HQ := Lib.hid hq
      have HPX := Lib.hid hpx
      have HQY := Lib.hid hqy
      clear hp hq hpx hqy
      have HFIN : Hid (∀ b : Bool, (pp != u.x || q != u.y) = b → (b = false ∧ wishE us u = none) ∨ (b = true ∧ wishE us u = some (pp, q))) := Lib.hid (by
        intro b hb
        rw [HW.out, HP.out, HQ.out]
        cases b
        · left
          simp at hb
          rw [if_pos (by rw [HPX.out.1 hb.1, HQY.out.1 hb.2])]
          exact ⟨rfl, rfl⟩
        · right
          rw [if_neg]
          · exact ⟨rfl, rfl⟩
          · intro h
            simp only [Prod.mk.injEq] at h
            rw [HPX.out.2 h.1, HQY.out.2 h.2] at hb
            simp at hb)
      by_cases hx : pp = u.x
      · have e3 : (pp != u.x) = false := by simp [hx]
        have e3' : (pp == u.x) = true := by simp [hx]
        by_cases hy : q = u.y
        · have e4 : (q != u.y) = false := by simp [hy]
          have e4' : (q == u.y) = true := by simp [hy]
          have HD := Lib.hid ((HFIN.out false (by simp [hx, hy])).resolve_right (by simp))
          clear hx hy
          go_wp2_with fail
          go_region
          go_wp2_with fail
          refine bodyPost_ret (v := .tuple #[.agg #[.int .i64 pp, .int .i64 q], .bool false]) (ret_pair (d := .array 2 3) Try.results109 rfl rfl (Blk.store2 (HKBX.out) _ _) (by kernel_rfl) rfl (by kernel_rfl)) rfl ⟨?_, Or.inl ⟨HD.out.2, pp, q, rfl⟩⟩
          repeat (first | exact HBX.out | refine Below.setCell ?_ (by simp) _ | refine Below.alloc ?_ HBX.out.size _ | refine Below.drew ?_ | refine below_drewN ?_ _)
        · have e4 : (q != u.y) = true := by simp [hy]
          have e4' : (q == u.y) = false := by simp [hy]
          have HD := Lib.hid ((HFIN.out true (by simp [hy])).resolve_left (by simp))
          clear hx hy
          go_wp2_with fail
          go_region
          go_wp2_with fail
          refine bodyPost_ret (v := .tuple #[.agg #[.int .i64 pp, .int .i64 q], .bool true]) (ret_pair (d := .array 2 3) Try.results109 rfl rfl (Blk.store2 (HKBX.out) _ _) (by kernel_rfl) rfl (by kernel_rfl)) rfl ⟨?_, Or.inr ⟨pp, q, HD.out.2, rfl⟩⟩
          repeat (first | exact HBX.out | refine Below.setCell ?_ (by simp) _ | refine Below.alloc ?_ HBX.out.size _ | refine Below.drew ?_ | refine below_drewN ?_ _)
      · have e3 : (pp != u.x) = true := by simp [hx]
        have e3' : (pp == u.x) = false := by simp [hx]
        have HD := Lib.hid ((HFIN.out true (by simp [hx])).resolve_left (by simp))
        clear hx
        go_wp2_with fail
        go_region
        go_wp2_with fail
        refine bodyPost_ret (v := .tuple #[.agg #[.int .i64 pp, .int .i64 q], .bool true]) (ret_pair (d := .array 2 3) Try.results109 rfl rfl (Blk.store2 (HKBX.out) _ _) (by kernel_rfl) rfl (by kernel_rfl)) rfl ⟨?_, Or.inr ⟨pp, q, HD.out.2, rfl⟩⟩
        repeat (first | exact HBX.out | refine Below.setCell ?_ (by simp) _ | refine Below.alloc ?_ HBX.out.size _ | refine Below.drew ?_ | refine below_drewN ?_ _)
    · have HN : Hid (wishE us u = none) := Lib.hid (HW0.out hne)
      clear hne
      go_wp2_with fail
      refine bodyPost_ret (v := .tuple #[.agg #[.int .i64 0, .int .i64 0], .bool false]) (ret_pair (d := .array 2 3) Try.results109 rfl rfl (Blk.store2 (HKBX.out) _ _) (by kernel_rfl) rfl (by kernel_rfl)) rfl ⟨?_, Or.inl ⟨HN.out, 0, 0, rfl⟩⟩
      repeat (first | exact HBX.out | refine Below.setCell ?_ (by simp) _ | refine Below.alloc ?_ HBX.out.size _ | refine Below.drew ?_ | refine below_drewN ?_ _)
end Go.Proofs.Ytlfljlhppigejab
