/-
  The walk of elder.Check.
-/
import Derived.Test.YtlfljlhppigejabOneWalk
import Derived.Test.YtlfljlhppigejabElderAt
import Derived.Test.YtlfljlhppigejabPackMaps
import Derived.Test.YtlfljlhppigejabPackRef
import Derived.Deep.DeepCutAuto
import Derived.StillTailTactics
import Derived.IntWalk
namespace Go.Proofs.Ytlfljlhppigejab
open Go.RowKit

set_option maxHeartbeats 12800000 in
set_option maxRecDepth 100000 in
theorem check_any (g : G) (fa ua : Option Addr) (nf cf nu cu : Nat) (hnew : g.new = false) (hnf : g.free.length = nf) (hnu : g.us.length = nu) (hcf : nf ≤ 9223372036854775807) (hcu : nu ≤ 9223372036854775807) (w : World)
    (hf : Row w.heap.size w fa nf (fun k => .int .i64 (g.free.getD k 0))) (hu : URow false w.heap.size w ua g.us) (hfit : ∀ n ∈ g.free, Fits64 n) :
    Calls Try.prog 41 #[.agg #[.int .i64 g.tick, .int .i64 g.g0, .int .i64 g.g1, .int .i64 g.next, .slice fa nf cf, .slice ua nu cu]] w fun e w' => e = .returned (errV (faultOf g)) ∧ Below w.heap.size w w' := by
  have hb0 : Below w.heap.size w (w.alloc (.cells #[.int .i64 g.tick, .int .i64 g.g0, .int .i64 g.g1, .int .i64 g.next, .slice fa nf cf, .slice ua nu cu] 26)) := (Below.refl _ _).alloc (Nat.le_refl _) _
  have hbk := Blk.new w #[.int .i64 g.tick, .int .i64 g.g0, .int .i64 g.g1, .int .i64 g.next, .slice fa nf cf, .slice ua nu cu] 26
  have hi0 : ∀ W, (Instr.index 22 (.agg #[.int .i64 g.g0, .int .i64 g.g1]) (.int .i64 0)).run Try.prog W = .ok (.int .i64 g.g0) W := fun _ => by kernel_rfl
  have hi1 : ∀ W, (Instr.index 22 (.agg #[.int .i64 g.g0, .int .i64 g.g1]) (.int .i64 1)).run Try.prog W = .ok (.int .i64 g.g1) W := fun _ => by kernel_rfl
  have HI0 := Lib.hid hi0
  have HI1 := Lib.hid hi1
  have HF := Lib.hid hf
  have HU := Lib.hid hu
  have HNEW := Lib.hid hnew
  have HNF := Lib.hid hnf
  have HNU := Lib.hid hnu
  have HFIT := Lib.hid hfit
  have HB0 := Lib.hid hb0
  have HBK := Lib.hid hbk
  clear hf hu hnew hnf hnu hfit hb0 hbk hi0 hi1
  go_enter Try.func41, Try.ntmps41
  go_wp2_with fail
  all_goals try (go_ret; exact ⟨ret1 (err_is 1 (fault_head ((head_old HNEW.out).2 (by omega)))), HB0.out⟩)
  have hhead : Hid ((0 ≤ g.tick ∧ g.tick ≤ 60) ∧ 1 ≤ g.next ∧ g.next ≤ 201) := Lib.hid (by omega)
  go_loopw [35] (fun c wr => ∃ k : Nat, c = .int .i64 k ∧ k ≤ 2 ∧ (((0 < k → 0 ≤ g.g0 ∧ g.g0 ≤ 40) ∧ (1 < k → 0 ≤ g.g1 ∧ g.g1 ≤ 40)) ∧ wr = (w.alloc (.cells #[.int .i64 g.tick, .int .i64 g.g0, .int .i64 g.g1, .int .i64 g.next, .slice fa nf cf, .slice ua nu cu] 26)))) (fun c _ => (2 - intOf c).toNat)
  case atStart => exact ⟨0, rfl, by omega, ⟨fun h => absurd h (by omega), fun h => absurd h (by omega)⟩, rfl⟩
  case round =>
    obtain ⟨k, rfl, hk, hX, rfl⟩ := hrel
    by_cases hk2 : k < 2
    · have hk3 : k = 0 ∨ k = 1 := by omega
      have HX := Lib.hid hX
      clear hX
      rcases hk3 with rfl | rfl
      · have hi := HI0.out
        go_wp2_with fail
        all_goals first
          | (go_ret; exact ⟨ret1 (err_is 1 (fault_head ((head_old HNEW.out).2 (by omega)))), HB0.out⟩)
          | (go_roundw
             case rel => exact ⟨1, rfl, by omega, ⟨fun _ => by omega, fun h => absurd h (by omega)⟩, trivial⟩
             case measure => simp [intOf])
      · have hi := HI1.out
        go_wp2_with fail
        all_goals first
          | (go_ret; exact ⟨ret1 (err_is 1 (fault_head ((head_old HNEW.out).2 (by omega)))), HB0.out⟩)
          | (go_roundw
             case rel => exact ⟨2, rfl, by omega, ⟨fun _ => HX.out.1 (by omega), fun _ => by omega⟩, trivial⟩
             case measure => simp [intOf])
    · obtain rfl : k = 2 := by omega
      have hnb : Hid (¬ headBad g) := Lib.hid (fun h => by have := (head_old HNEW.out).1 h; have := hhead.out; omega)
      clear hX
      have hmm := @run_makeMap Try.prog
      go_wp2_with fail
      all_goals try (go_ret; exact ⟨ret1 (err_is 2 (fault_many hnb.out (by have := HNF.out; have := HNU.out; omega))), HB0.out⟩)
      have hmany : Hid (¬ (20 < g.us.length ∨ 200 < g.free.length)) := Lib.hid (by have := HNF.out; have := HNU.out; omega)
      have hu20 : nu ≤ 20 := by omega
      have hf200 : nf ≤ 200 := by omega
      go_loopw [62] (fun c wr => ∃ k : Nat, c = .int .i64 k ∧ k ≤ nu ∧
        (eachUpTo false g.tick g.next g.us k ∧ Below w.heap.size w wr ∧ Blk wr w.heap.size #[.int .i64 g.tick, .int .i64 g.g0, .int .i64 g.g1, .int .i64 g.next, .slice fa nf cf, .slice ua nu cu] ∧ (∃ n1, n1 ≤ k ∧ MapOf Try.prog 3 (Value.int .i64) (fun a => (Lit.int .i64 a).wf = true) wr (w.heap.size + 1) n1 k (fun id => if hasId (g.us.take k) id then some (.bool true) else none)) ∧
          ∃ n2 s2, n2 ≤ k ∧ MapOf Try.prog 22 pairV pairOk wr (w.heap.size + 2) n2 s2 (fun p => if standsAt (g.us.take k) p.1 p.2 then some (.bool true) else none))) (fun c _ => (nu - intOf c).toNat)
      case atStart =>
        refine ⟨0, rfl, by omega, eachUpTo_zero _ _ _ _, ?_, ?_, ?_, ?_⟩
        · exact (HB0.out.alloc (by simp) _).alloc (by simp; omega) _
        · exact (HBK.out.alloc _).alloc _
        · refine ⟨0, Nat.le_refl _, ?_⟩
          have hm := (MapOf.new (P := Try.prog) (k := 3) (emb := Value.int .i64) (ok := fun a => (Lit.int .i64 a).wf = true) (w.alloc (.cells #[.int .i64 g.tick, .int .i64 g.g0, .int .i64 g.g1, .int .i64 g.next, .slice fa nf cf, .slice ua nu cu] 26))).alloc (.map #[] 0)
          simpa [hasId] using hm
        · refine ⟨0, 0, Nat.le_refl _, ?_⟩
          have hm := MapOf.new (P := Try.prog) (k := 22) (emb := pairV) (ok := pairOk) ((w.alloc (.cells #[.int .i64 g.tick, .int .i64 g.g0, .int .i64 g.g1, .int .i64 g.next, .slice fa nf cf, .slice ua nu cu] 26)).alloc (.map #[] 0))
          simpa [standsAt] using hm
      case round =>
        obtain ⟨k, rfl, hk, hX⟩ := hrel
        have HX := Lib.hid hX
        clear hX
        by_cases hkn : k < nu
        · obtain ⟨eu, hb, bk, ⟨n1, hn1, m1⟩, n2, s2, hn2, m2⟩ := HX.out
          obtain ⟨u, hue⟩ : ∃ u, g.us.getD k zeroU = u := ⟨_, rfl⟩
          obtain ⟨b, o, rfl, hbB, q0, q1, q2, q3, q4, q5, q6, q7, q8, q9⟩ := (HU.out.below hb).getE k (by have := HNU.out; omega) u hue
          have HBKr := Lib.hid bk
          obtain ⟨l1, c1, -⟩ := bk
          have HUE := Lib.hid hue
          have HEU := Lib.hid eu
          have HB := Lib.hid hb
          have HM1 := Lib.hid m1
          have HM2 := Lib.hid m2
          clear eu hb m1 m2 hue
          go_wp2_with fail
          refine (ent_any u _).mono ?_
          rintro e w2 ⟨rfl, b2⟩
          have hb2 : Below w.heap.size w w2 := (HB.out.alloc HB.out.size _).trans (b2.mono (by have := HB.out.size; simp; omega))
          have HB2 := Lib.hid hb2
          by_cases hone : oneFault false 0 u = 0
          · rw [hone, errV_zero]
            have hE := (Blk.new wr #[.int .i64 u.id, .int .i64 u.owner, .int .i64 u.kind, .int .i64 u.x, .int .i64 u.y, .int .i64 u.hp, .int .i64 u.does, .int .i64 u.gx, .int .i64 u.gy, .int .i64 u.target] 83).call b2
            have hS := ((HBKr.out.alloc (.cells #[.int .i64 u.id, .int .i64 u.owner, .int .i64 u.kind, .int .i64 u.x, .int .i64 u.y, .int .i64 u.hp, .int .i64 u.does, .int .i64 u.gx, .int .i64 u.gy, .int .i64 u.target] 83)).call b2)
            have M1 := ((HM1.out.alloc (.cells #[.int .i64 u.id, .int .i64 u.owner, .int .i64 u.kind, .int .i64 u.x, .int .i64 u.y, .int .i64 u.hp, .int .i64 u.does, .int .i64 u.gx, .int .i64 u.gy, .int .i64 u.target] 83)).call b2)
            have M2 := ((HM2.out.alloc (.cells #[.int .i64 u.id, .int .i64 u.owner, .int .i64 u.kind, .int .i64 u.x, .int .i64 u.y, .int .i64 u.hp, .int .i64 u.does, .int .i64 u.gx, .int .i64 u.gy, .int .i64 u.target] 83)).call b2)
            have hUr := HU.out.below hb2
            have HE := Lib.hid hE
            have HS := Lib.hid hS
            obtain ⟨lE, cE, -⟩ := hE
            obtain ⟨lS, cS, -⟩ := hS
            have hXX : Hid (oneFault false g.tick u = 0) := Lib.hid (by rw [oneFault_old]; exact hone)
            have HM1' := Lib.hid M1
            have HM2' := Lib.hid M2
            clear hone b2 hb2 M1 M2 c1 l1 q0 q1 q2 q3 q4 q5 q6 q7 q8 q9
            have hfin : Hid (misfit g.next g.us k u → faultOf g = 3) := Lib.hid (fun h => fault_each hnb.out hmany.out (by rw [HNEW.out]; exact each_shape HEU.out (by have := HNU.out; omega) HUE.out hXX.out h) (by decide))
            by_cases hprev : 0 < k ∧ u.id ≤ (g.us.getD (k - 1) zeroU).id
            · have HPREV := Lib.hid hprev
              obtain ⟨h0, hle⟩ := hprev
              obtain ⟨j, hj⟩ : ∃ j, k - 1 = j := ⟨_, rfl⟩
              rw [hj] at hle
              obtain ⟨p, hp⟩ : ∃ p, g.us.getD j zeroU = p := ⟨_, rfl⟩
              obtain ⟨b', o', e', -, q0, -⟩ := hUr.getE j (by have := HNU.out; omega) p hp
              cases e'
              rw [hp] at hle
              have d1 : decide ((0 : Int) < (k : Int)) = true := by simp; omega
              have hjn : j < nu := by omega
              have hj0 : (0 : Int) ≤ (j : Int) := by omega
              have hw : IntKind.i64.wrap ((k : Int) - 1) = (j : Int) := by rw [IntWalk.i64_in _ (by omega)]; omega
              have d2 : decide (u.id ≤ p.id) = true := by simp; omega
              clear hle hp hj hUr
              go_wp2_with fail
              go_quiet (fail)
              go_wp2_with fail
              go_ret
              exact ⟨ret1 (err_is 3 (hfin.out (Or.inr (Or.inl HPREV.out)))), below_drewN HB2.out _⟩
            · by_cases hnx : g.next ≤ u.id
              · have HNX := Lib.hid hnx
                have d3 : decide (g.next ≤ u.id) = true := by simp; omega
                by_cases h0 : 0 < k
                · have hle : (g.us.getD (k - 1) zeroU).id < u.id := by omega
                  obtain ⟨j, hj⟩ : ∃ j, k - 1 = j := ⟨_, rfl⟩
                  rw [hj] at hle
                  obtain ⟨p, hp⟩ : ∃ p, g.us.getD j zeroU = p := ⟨_, rfl⟩
                  obtain ⟨b', o', e', -, q0, -⟩ := hUr.getE j (by have := HNU.out; omega) p hp
                  cases e'
                  rw [hp] at hle
                  have d1 : decide ((0 : Int) < (k : Int)) = true := by simp; omega
                  have hjn : j < nu := by omega
                  have hj0 : (0 : Int) ≤ (j : Int) := by omega
                  have hw : IntKind.i64.wrap ((k : Int) - 1) = (j : Int) := by rw [IntWalk.i64_in _ (by omega)]; omega
                  have d2 : decide (u.id ≤ p.id) = false := by simp; omega
                  clear hle hp hj hUr
                  go_wp2_with fail
                  go_quiet (fail)
                  go_wp2_with fail
                  go_ret
                  exact ⟨ret1 (err_is 3 (hfin.out (Or.inl HNX.out))), below_drewN HB2.out _⟩
                · have d1 : decide ((0 : Int) < (k : Int)) = false := by simp; omega
                  clear hUr
                  go_wp2_with fail
                  go_quiet (fail)
                  go_wp2_with fail
                  go_ret
                  exact ⟨ret1 (err_is 3 (hfin.out (Or.inl HNX.out))), below_drewN HB2.out _⟩
              · have hok := (one_iff false g.tick u).1 hXX.out
                have HPK : Hid (pairOk (u.x, u.y)) := Lib.hid (by have := (onB_iff _ _).1 hok.on; exact ⟨wf_int (by omega), wf_int (by omega)⟩)
                have HPI : Hid ((Lit.int .i64 u.id).wf = true) := Lib.hid (by have h1 := hok.id1; have h2 := hok.idT; have h3 : topOf false = 200 := rfl; exact wf_int (by omega))
                clear hok
                by_cases hst : standsAt (g.us.take k) u.x u.y = true
                · have d3 : decide (g.next ≤ u.id) = false := by simp; omega
                  have hl : ∀ n, (Instr.lookup 154 (.map (some (w.heap.size + 1 + 1))) (.agg #[.int .i64 u.x, .int .i64 u.y]) false).run Try.prog (w2.drewN n) = .ok (.bool true) (w2.drewN n) := by
                    intro n
                    have := (HM2'.out.drewN n).get pairKeys (t := 154) (e := 4) (by kernel_rfl) (z := .bool false) (by kernel_rfl) (u.x, u.y) (HPK.out)
                    simpa [pairV, hst] using this
                  have HST := Lib.hid hst
                  clear hst
                  by_cases h0 : 0 < k
                  · have hle : (g.us.getD (k - 1) zeroU).id < u.id := by omega
                    obtain ⟨j, hj⟩ : ∃ j, k - 1 = j := ⟨_, rfl⟩
                    rw [hj] at hle
                    obtain ⟨p, hp⟩ : ∃ p, g.us.getD j zeroU = p := ⟨_, rfl⟩
                    obtain ⟨b', o', e', -, q0, -⟩ := hUr.getE j (by have := HNU.out; omega) p hp
                    cases e'
                    rw [hp] at hle
                    have d1 : decide ((0 : Int) < (k : Int)) = true := by simp; omega
                    have hjn : j < nu := by omega
                    have hj0 : (0 : Int) ≤ (j : Int) := by omega
                    have hw : IntKind.i64.wrap ((k : Int) - 1) = (j : Int) := by rw [IntWalk.i64_in _ (by omega)]; omega
                    have d2 : decide (u.id ≤ p.id) = false := by simp; omega
                    clear hle hp hj hUr
                    go_wp2_with fail
                    go_quiet (fail)
                    go_wp2_with fail
                    go_ret
                    exact ⟨ret1 (err_is 3 (hfin.out (Or.inr (Or.inr HST.out)))), below_drewN HB2.out _⟩
                  · have d1 : decide ((0 : Int) < (k : Int)) = false := by simp; omega
                    clear hUr
                    go_wp2_with fail
                    go_quiet (fail)
                    go_wp2_with fail
                    go_ret
                    exact ⟨ret1 (err_is 3 (hfin.out (Or.inr (Or.inr HST.out)))), below_drewN HB2.out _⟩
                · have d3 : decide (g.next ≤ u.id) = false := by simp; omega
                  have hl : ∀ n, (Instr.lookup 154 (.map (some (w.heap.size + 1 + 1))) (.agg #[.int .i64 u.x, .int .i64 u.y]) false).run Try.prog (w2.drewN n) = .ok (.bool false) (w2.drewN n) := by
                    intro n
                    have := (HM2'.out.drewN n).get pairKeys (t := 154) (e := 4) (by kernel_rfl) (z := .bool false) (by kernel_rfl) (u.x, u.y) (HPK.out)
                    simpa [pairV, hst] using this
                  have hst' : standsAt (g.us.take k) u.x u.y = false := by simpa using hst
                  have HST := Lib.hid hst'
                  have HNM : Hid (¬ misfit g.next g.us k u) := Lib.hid (by
                    unfold misfit
                    rintro (h | h | h)
                    · exact hnx h
                    · exact hprev h
                    · exact hst h)
                  clear hst hst'
                  by_cases h0 : 0 < k
                  · have hle : (g.us.getD (k - 1) zeroU).id < u.id := by omega
                    obtain ⟨j, hj⟩ : ∃ j, k - 1 = j := ⟨_, rfl⟩
                    rw [hj] at hle
                    obtain ⟨p, hp⟩ : ∃ p, g.us.getD j zeroU = p := ⟨_, rfl⟩
                    obtain ⟨b', o', e', -, q0, -⟩ := hUr.getE j (by have := HNU.out; omega) p hp
                    cases e'
                    rw [hp] at hle
                    have d1 : decide ((0 : Int) < (k : Int)) = true := by simp; omega
                    have hjn : j < nu := by omega
                    have hj0 : (0 : Int) ≤ (j : Int) := by omega
                    have hw : IntKind.i64.wrap ((k : Int) - 1) = (j : Int) := by rw [IntWalk.i64_in _ (by omega)]; omega
                    have d2 : decide (u.id ≤ p.id) = false := by simp; omega
                    clear hle hp hj hUr
                    go_wp2_with fail
                    go_quiet (fail)
                    go_wp2_with fail
                    obtain ⟨w3, r3, m3, t3⟩ := (HM1'.out.drewN (nq + 1)).put (intKeys (by kernel_rfl)) (t := 150) (e := 4) (by kernel_rfl) (by have : n1 ≤ 20 := (by omega); unfold maxLen; omega) u.id HPI.out (.bool true)
                    have m2q := (HM2'.out.drewN (nq + 1)).other t3 (by omega)
                    obtain ⟨w4, r4, m4, t4⟩ := m2q.put pairKeys (t := 154) (e := 4) (by kernel_rfl) (by have : n2 ≤ 20 := (by omega); unfold maxLen; omega) (u.x, u.y) HPK.out (.bool true)
                    have hne := HB.out.size
                    have hne1 := HBKr.out.1
                    have hne2 := HM1.out.lt
                    obtain ⟨lE3, cE3, -⟩ := (HE.out.drewN (nq + 1)).turned t3 (by omega)
                    have hBK4 := ((HS.out.drewN (nq + 1)).turned t3 (by omega)).turned t4 (by omega)
                    have hB4 : Below w.heap.size w w4 := Below.turned (Below.turned (below_drewN HB2.out (nq + 1)) t3 (by omega)) t4 (by omega)
                    have m1q := m3.other t4 (by omega)
                    simp only [pairV] at r4
                    have HM3 := Lib.hid m1q
                    have HM4 := Lib.hid m4
                    have HB4 := Lib.hid hB4
                    have HBK4 := Lib.hid hBK4
                    clear m2q m3 m4 t3 t4 m1q hB4 hBK4 hne hne1 hne2
                    go_region
                    go_wp2_with fail
                    go_roundw
                    case rel =>
                      have hkl : k < g.us.length := by have := HNU.out; omega
                      have hnext := each_next HEU.out hkl HUE.out hXX.out HNM.out
                      have hnew := hasId_new hnext hkl
                      rw [HUE.out] at hnew
                      refine ⟨k + 1, by go_num, by omega, hnext, HB4.out, HBK4.out, ⟨n1 + 1, by omega, ?_⟩, n2 + 1, s2 + 1, by omega, ?_⟩
                      · have h3 := HM3.out
                        rw [hnew] at h3
                        refine h3.fn ?_ (by simp)
                        intro id
                        rw [hasId_next hkl HUE.out]
                        by_cases e : id = u.id
                        · subst e; simp
                        · have e' : ¬ u.id = id := fun h => e h.symm
                          simp [e, e']
                      · have h4 := HM4.out
                        dsimp only at h4
                        rw [HST.out] at h4
                        refine h4.fn ?_ (by simp)
                        rintro ⟨x, y⟩
                        dsimp only
                        rw [stands_next hkl HUE.out]
                        by_cases e : (x, y) = (u.x, u.y)
                        · cases e; simp
                        · have e' : (u.x == x && u.y == y) = false := by
                            rw [Bool.eq_false_iff]
                            intro h
                            simp only [Bool.and_eq_true, beq_iff_eq] at h
                            exact e (by rw [h.1, h.2])
                          simp [e, e']
                    case measure => simp [intOf]; omega
                  · have d1 : decide ((0 : Int) < (k : Int)) = false := by simp; omega
                    clear hUr
                    go_wp2_with fail
                    go_quiet (fail)
                    go_wp2_with fail
                    obtain ⟨w3, r3, m3, t3⟩ := (HM1'.out.drewN (nq + 1)).put (intKeys (by kernel_rfl)) (t := 150) (e := 4) (by kernel_rfl) (by have : n1 ≤ 20 := (by omega); unfold maxLen; omega) u.id HPI.out (.bool true)
                    have m2q := (HM2'.out.drewN (nq + 1)).other t3 (by omega)
                    obtain ⟨w4, r4, m4, t4⟩ := m2q.put pairKeys (t := 154) (e := 4) (by kernel_rfl) (by have : n2 ≤ 20 := (by omega); unfold maxLen; omega) (u.x, u.y) HPK.out (.bool true)
                    have hne := HB.out.size
                    have hne1 := HBKr.out.1
                    have hne2 := HM1.out.lt
                    obtain ⟨lE3, cE3, -⟩ := (HE.out.drewN (nq + 1)).turned t3 (by omega)
                    have hBK4 := ((HS.out.drewN (nq + 1)).turned t3 (by omega)).turned t4 (by omega)
                    have hB4 : Below w.heap.size w w4 := Below.turned (Below.turned (below_drewN HB2.out (nq + 1)) t3 (by omega)) t4 (by omega)
                    have m1q := m3.other t4 (by omega)
                    simp only [pairV] at r4
                    have HM3 := Lib.hid m1q
                    have HM4 := Lib.hid m4
                    have HB4 := Lib.hid hB4
                    have HBK4 := Lib.hid hBK4
                    clear m2q m3 m4 t3 t4 m1q hB4 hBK4 hne hne1 hne2
                    go_region
                    go_wp2_with fail
                    go_roundw
                    case rel =>
                      have hkl : k < g.us.length := by have := HNU.out; omega
                      have hnext := each_next HEU.out hkl HUE.out hXX.out HNM.out
                      have hnew := hasId_new hnext hkl
                      rw [HUE.out] at hnew
                      refine ⟨k + 1, by go_num, by omega, hnext, HB4.out, HBK4.out, ⟨n1 + 1, by omega, ?_⟩, n2 + 1, s2 + 1, by omega, ?_⟩
                      · have h3 := HM3.out
                        rw [hnew] at h3
                        refine h3.fn ?_ (by simp)
                        intro id
                        rw [hasId_next hkl HUE.out]
                        by_cases e : id = u.id
                        · subst e; simp
                        · have e' : ¬ u.id = id := fun h => e h.symm
                          simp [e, e']
                      · have h4 := HM4.out
                        dsimp only at h4
                        rw [HST.out] at h4
                        refine h4.fn ?_ (by simp)
                        rintro ⟨x, y⟩
                        dsimp only
                        rw [stands_next hkl HUE.out]
                        by_cases e : (x, y) = (u.x, u.y)
                        · cases e; simp
                        · have e' : (u.x == x && u.y == y) = false := by
                            rw [Bool.eq_false_iff]
                            intro h
                            simp only [Bool.and_eq_true, beq_iff_eq] at h
                            exact e (by rw [h.1, h.2])
                          simp [e, e']
                    case measure => simp [intOf]; omega
          · rw [errV_pos _ hone]
            have HONE := Lib.hid hone
            clear hone b2 hb2
            go_wp2_with fail
            go_ret
            refine ⟨ret1 ?_, HB2.out⟩
            have hfe : faultOf g = oneFault false 0 u := fault_each hnb.out hmany.out (by rw [HNEW.out]; exact (each_one HEU.out (by have := HNU.out; omega) HUE.out (by rw [oneFault_old]; exact HONE.out)).trans (oneFault_old _ _)) HONE.out
            rw [hfe, errV_pos _ HONE.out]
            rfl
        · obtain rfl : nu = k := by omega
          obtain ⟨eu, hb, bk, ⟨n1, hn1, m1⟩, -⟩ := HX.out
          have hall := each_all (by rw [← HNU.out] at eu; exact eu) rfl
          have htk : g.us.take nu = g.us := by rw [← HNU.out, List.take_length]
          rw [htk] at m1
          clear htk
          have HALL := Lib.hid hall
          have hs0 : w.heap.size < wr.heap.size := bk.1
          obtain ⟨l1, c1, -⟩ := id bk
          have HBKr := Lib.hid bk
          have HB := Lib.hid hb
          have HM1 := Lib.hid m1
          have he0 : Hid (eachFault g.new g.tick g.next [] g.us = 0) := Lib.hid (by rw [HNEW.out]; exact HALL.out.1)
          clear eu hb bk m1 hall HX
          go_wp2_with fail
          have HWR := Lib.hid l1
          clear c1 l1
          go_loopw [116] (fun c wx => ∃ j : Nat, c = .int .i64 j ∧ j ≤ nu ∧
            ((∀ i, i < j → aimsOk false g.us (g.us.getD i zeroU) = true) ∧ Below w.heap.size w wx ∧ Blk wx w.heap.size #[.int .i64 g.tick, .int .i64 g.g0, .int .i64 g.g1, .int .i64 g.next, .slice fa nf cf, .slice ua nu cu] ∧ MapOf Try.prog 3 (Value.int .i64) (fun a => (Lit.int .i64 a).wf = true) wx (w.heap.size + 1) n1 nu (fun id => if hasId g.us id then some (.bool true) else none))) (fun c _ => (nu - intOf c).toNat)
          case atStart => exact ⟨0, rfl, by omega, fun i hi => absurd hi (by omega), HB.out, HBKr.out, HM1.out⟩
          case round =>
            obtain ⟨j, rfl, hj, hY⟩ := hrel
            have HY := Lib.hid hY
            clear hY
            by_cases hjn : j < nu
            · obtain ⟨ha, hb, bk, m1⟩ := HY.out
              obtain ⟨u, hue⟩ : ∃ u, g.us.getD j zeroU = u := ⟨_, rfl⟩
              have hrow := HU.out.below hb
              obtain ⟨b, o, rfl, hbB, q0, q1, q2, q3, q4, q5, q6, q7, q8, q9⟩ := hrow.getE j (by have := HNU.out; omega) u hue
              have HBKx := Lib.hid bk
              obtain ⟨l1, c1, -⟩ := bk
              have HUE := Lib.hid hue
              have HA := Lib.hid ha
              have HBx := Lib.hid hb
              have HMx := Lib.hid m1
              have HROW := Lib.hid hrow
              clear ha hb m1 hue hrow HY
              go_wp2_with fail
              refine (aims_any (some ⟨b, o, none⟩) nu cu g.us u HNU.out (by omega) HALL.out.2.1 _ ((HROW.out.below ((Below.refl _ _).alloc (by exact HBx.out.size) _)).mono (by have := HBx.out.size; simp; omega))).mono ?_
              rintro e w2 ⟨rfl, b2⟩
              have hb2 : Below w.heap.size w w2 := (HBx.out.alloc HBx.out.size _).trans (b2.mono (by have := HBx.out.size; simp; omega))
              have HB2 := Lib.hid hb2
              have hK := ((HBKx.out.alloc (.cells #[.int .i64 u.id, .int .i64 u.owner, .int .i64 u.kind, .int .i64 u.x, .int .i64 u.y, .int .i64 u.hp, .int .i64 u.does, .int .i64 u.gx, .int .i64 u.gy, .int .i64 u.target] 83)).call b2)
              have hM := ((HMx.out.alloc (.cells #[.int .i64 u.id, .int .i64 u.owner, .int .i64 u.kind, .int .i64 u.x, .int .i64 u.y, .int .i64 u.hp, .int .i64 u.does, .int .i64 u.gx, .int .i64 u.gy, .int .i64 u.target] 83)).call b2)
              have HK := Lib.hid hK
              have HM := Lib.hid hM
              clear b2 hb2 hK hM q0 q1 q2 q3 q4 q5 q6 q7 q8 q9 l1 c1
              by_cases hok : aimsOk false g.us u = true
              · rw [hok]
                have HOK := Lib.hid hok
                clear hok
                go_wp2_with fail
                go_roundw
                case rel =>
                  refine ⟨j + 1, by go_num, by omega, ?_, HB2.out, HK.out, HM.out⟩
                  intro i hi
                  by_cases e : i = j
                  · rw [e, HUE.out]; exact HOK.out
                  · exact HA.out i (by omega)
                case measure => simp [intOf]; omega
              · have hok' : aimsOk false g.us u = false := by simpa using hok
                rw [hok']
                have HOK := Lib.hid hok'
                clear hok hok'
                go_wp2_with fail
                go_ret
                exact ⟨ret1 (err_is 3 (fault_aims hnb.out hmany.out he0.out (j := j) (by have := HNU.out; omega) (by rw [HNEW.out, HUE.out]; exact HOK.out))), HB2.out⟩
            · obtain rfl : nu = j := by omega
              obtain ⟨ha, hb, bk, m1⟩ := HY.out
              have HAA : Hid (∀ i, i < g.us.length → aimsOk g.new g.us (g.us.getD i zeroU) = true) := Lib.hid (by rw [HNEW.out, HNU.out]; exact ha)
              have HBKx := Lib.hid bk
              obtain ⟨l1, c1, -⟩ := bk
              have HBx := Lib.hid hb
              have HMx := Lib.hid m1
              clear ha hb m1 HY
              go_wp2_with fail
              clear l1 c1
              go_loopw [130] (fun c wy => ∃ i : Nat, c = .int .i64 i ∧ i ≤ nf ∧
                (freeUpTo g.next g.free g.us i ∧ Below w.heap.size w wy ∧ Blk wy w.heap.size #[.int .i64 g.tick, .int .i64 g.g0, .int .i64 g.g1, .int .i64 g.next, .slice fa nf cf, .slice ua nu cu] ∧ ∃ n3, n3 ≤ 20 + i ∧ MapOf Try.prog 3 (Value.int .i64) (fun a => (Lit.int .i64 a).wf = true) wy (w.heap.size + 1) n3 (nu + i) (fun id => if takenId g.free g.us i id then some (.bool true) else none))) (fun c _ => (nf - intOf c).toNat)
              case atStart =>
                refine ⟨0, rfl, by omega, freeUpTo_zero _ _ HALL.out.2.1, HBx.out, HBKx.out, n1, by omega, ?_⟩
                refine HMx.out.fn ?_ rfl
                intro id
                simp [takenId]
              case round =>
                obtain ⟨i, rfl, hi, hZ⟩ := hrel
                have HZ := Lib.hid hZ
                clear hZ
                obtain ⟨hf, hb, bk, n3, hn3, m3⟩ := HZ.out
                have HFR := Lib.hid hf
                have HBKy := Lib.hid bk
                obtain ⟨l1, c1, -⟩ := bk
                have HBy := Lib.hid hb
                have HMy := Lib.hid m3
                clear hf m3 HZ
                have hN1 : (1 : Int) ≤ g.next ∧ g.next ≤ 201 := hhead.out.2
                by_cases hin : i < nf
                · obtain ⟨b, o, rfl, hbB, q0⟩ := (HF.out.below hb) i hin
                  obtain ⟨x, hx⟩ : ∃ x, g.free.getD i 0 = x := ⟨_, rfl⟩
                  dsimp only at q0
                  rw [hx] at q0
                  have HXX := Lib.hid hx
                  have hil : i < g.free.length := by have := HNF.out; omega
                  have HIL := Lib.hid hil
                  have HFX : Hid ((Lit.int .i64 x).wf = true) := Lib.hid (by
                    have := HFIT.out x (by rw [← hx]; simp [List.getD, hil])
                    exact wf_int this)
                  have hl : (Instr.lookup 150 (.map (some (w.heap.size + 1))) (.int .i64 x) false).run Try.prog wr = .ok (.bool (takenId g.free g.us i x)) wr := by
                    have := HMy.out.get (intKeys (by kernel_rfl)) (t := 150) (e := 4) (by kernel_rfl) (z := .bool false) (by kernel_rfl) x HFX.out
                    cases ht : takenId g.free g.us i x <;> simpa [ht] using this
                  clear hb hx hil
                  by_cases hr : x < 1 ∨ g.next ≤ x
                  · have hbad : Hid (faultOf g = 3) := Lib.hid (fault_free hnb.out hmany.out he0.out HAA.out HNEW.out (free_bad_range HALL.out.2.1 hN1.1 HIL.out HXX.out hr))
                    go_wp2_with fail
                    all_goals first
                      | (exfalso; omega)
                      | (go_ret; exact ⟨ret1 (err_is 3 hbad.out), HBy.out⟩)
                  · by_cases ht : takenId g.free g.us i x = true
                    · have hbad : Hid (faultOf g = 3) := Lib.hid (fault_free hnb.out hmany.out he0.out HAA.out HNEW.out (free_bad_twice HALL.out.2.1 hN1.1 HIL.out HXX.out (by omega) (by omega) ht))
                      rw [ht] at hl
                      clear ht
                      have d1 : decide (x < 1) = false := by simp; omega
                      have d2 : decide (g.next ≤ x) = false := by simp; omega
                      go_wp2_with fail
                      all_goals first
                        | (exfalso; omega)
                        | (go_ret; exact ⟨ret1 (err_is 3 hbad.out), HBy.out⟩)
                    · have ht' : takenId g.free g.us i x = false := by simpa using ht
                      rw [ht'] at hl
                      have HT := Lib.hid ht'
                      clear ht ht'
                      have d1 : decide (x < 1) = false := by simp; omega
                      have d2 : decide (g.next ≤ x) = false := by simp; omega
                      have hr' : Hid (1 ≤ x ∧ x < g.next) := Lib.hid (by omega)
                      obtain ⟨w4, r4, m4, t4⟩ := HMy.out.put (intKeys (by kernel_rfl)) (t := 150) (e := 4) (by kernel_rfl) (by unfold maxLen; omega) x HFX.out (.bool true)
                      have hsz := HBy.out.size
                      have hB4 : Below w.heap.size w w4 := Below.turned HBy.out t4 (by omega)
                      have hK4 := HBKy.out.turned t4 (by omega)
                      have HM4 := Lib.hid m4
                      have HB4 := Lib.hid hB4
                      have HK4 := Lib.hid hK4
                      clear m4 t4 hB4 hK4 hsz
                      go_wp2_with fail
                      go_roundw
                      case rel =>
                        refine ⟨i + 1, by go_num, by omega, freeUpTo_next HFR.out HIL.out HXX.out hr'.out.1 hr'.out.2 HT.out, HB4.out, HK4.out, n3 + 1, by omega, ?_⟩
                        have h4 := HM4.out
                        rw [HT.out] at h4
                        refine h4.fn ?_ (by simp; omega)
                        intro id
                        rw [taken_next HIL.out HXX.out]
                        by_cases e : id = x
                        · subst e; simp
                        · simp [e]
                      case measure => simp [intOf]; omega
                · obtain rfl : nf = i := by omega
                  have hlen := fun ty => HMy.out.len (t := 150) (e := 4) (by kernel_rfl) ty
                  by_cases hl : ((g.us.length + g.free.length : Nat) : Int) = g.next - 1
                  · have hgood : Hid (faultOf g = 0) := Lib.hid (fault_none hnb.out hmany.out he0.out HAA.out (fun _ => free_good HALL.out.2.1 (fun q hq => ⟨by
                      have h5 := (one_iff _ _ _).1 (HALL.out.2.2 q hq).1
                      exact h5.id1, (HALL.out.2.2 q hq).2⟩) hN1.1 (by rw [HNF.out]; exact HFR.out) hl))
                    have hd : ((((nu : Nat) + nf : Nat) : Int) == g.next - 1) = true := by
                      have := HNU.out; have := HNF.out
                      simp; omega
                    have hd' : (((nu : Int) + (nf : Int)) == g.next - 1) = true := by
                      have := HNU.out; have := HNF.out
                      simp; omega
                    clear hl
                    go_wp2_with fail
                    all_goals first
                      | (exfalso; omega)
                      | (go_ret; exact ⟨ret1 (err_is 0 hgood.out), HBy.out⟩)
                  · have hbad : Hid (faultOf g = 3) := Lib.hid (fault_free hnb.out hmany.out he0.out HAA.out HNEW.out (free_bad_len HALL.out.2.1 hN1.1 hl))
                    have hd : ((((nu : Nat) + nf : Nat) : Int) == g.next - 1) = false := by
                      have := HNU.out; have := HNF.out
                      simp; omega
                    have hd' : (((nu : Int) + (nf : Int)) == g.next - 1) = false := by
                      have := HNU.out; have := HNF.out
                      simp; omega
                    clear hl
                    go_wp2_with fail
                    all_goals first
                      | (exfalso; omega)
                      | (go_ret; exact ⟨ret1 (err_is 3 hbad.out), HBy.out⟩)
end Go.Proofs.Ytlfljlhppigejab
