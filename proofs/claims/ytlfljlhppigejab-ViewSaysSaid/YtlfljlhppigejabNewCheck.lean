/-
  The walk of newer.Check.
-/
import Derived.Test.YtlfljlhppigejabNewBoard
import Derived.Test.YtlfljlhppigejabPackSmall
import Derived.Test.YtlfljlhppigejabOneWalk
import Derived.Test.YtlfljlhppigejabPackPure
import Derived.Test.YtlfljlhppigejabPackRef
import Derived.StillTailTactics
import Derived.IntWalk
namespace Go.Proofs.Ytlfljlhppigejab
open Go.RowKit

theorem goldBad_iff (n : Int) : goldBad n = true ↔ n < 0 ∨ 1000 < n := by unfold goldBad; simp

set_option maxHeartbeats 12800000 in
set_option maxRecDepth 100000 in
theorem ncheck_any (g : G) (ua : Option Addr) (cu : Nat) (hnew : g.new = true) (hfree : g.free = []) (hcu : g.us.length ≤ 9223372036854775807) (w : World) (hu : URow true w.heap.size w ua g.us) (hnil : ua = none → g.us.length = 0 ∧ cu = 0) (hcap : g.us.length ≤ cu) :
    Calls Try.prog 65 #[.agg #[.int .i64 g.tick, .int .i64 g.g0, .int .i64 g.g1, .int .i64 g.next, .slice ua g.us.length cu]] w fun e w' => e = .returned (errV (faultOf g)) ∧ Below w.heap.size w w' := by
  obtain ⟨W, hW⟩ : ∃ W, w.alloc (.cells #[.int .i64 g.tick, .int .i64 g.g0, .int .i64 g.g1, .int .i64 g.next, .slice ua g.us.length cu] 32) = W := ⟨_, rfl⟩
  have hbW : Below w.heap.size w W := by rw [← hW]; exact (Below.refl _ _).alloc (Nat.le_refl _) _
  have k1 : Blk W w.heap.size #[.int .i64 g.tick, .int .i64 g.g0, .int .i64 g.g1, .int .i64 g.next, .slice ua g.us.length cu] := by rw [← hW]; exact Blk.new w _ _
  have hsW := hbW.size
  have l1W := k1.lt
  have HU := Lib.hid ((hu.below hbW).mono hsW)
  have HNEW := Lib.hid hnew
  have HNIL := Lib.hid hnil
  have HB := Lib.hid hbW
  have K1 := Lib.hid k1
  have hgold : Row W.heap.size W (some ⟨w.heap.size, 1, none⟩) 2 (fun k => .int .i64 ([g.g0, g.g1].getD k 0)) := fun k hk => by
    have hk2 : k = 0 ∨ k = 1 := by omega
    refine ⟨_, _, rfl, l1W, ?_⟩
    rcases hk2 with rfl | rfl
    · exact k1.cell 1
    · exact k1.cell 2
  have hcont : Calls Try.prog 92 #[.slice (some ⟨w.heap.size, 1, none⟩) 2 2, .func (.func 93) #[] #[]] W fun e w' => e = .returned (.bool (goldBad g.g0 || goldBad g.g1)) ∧ Below W.heap.size W w' :=
    (cont_int _ 2 2 (by omega) _ W hgold).mono fun e w' ⟨b, he, hb, hbel⟩ => ⟨by
      rw [he]
      refine ret1 (boolv ?_)
      rw [Bool.eq_iff_iff, hb, Bool.or_eq_true]
      constructor
      · rintro ⟨k, hk, h⟩
        have hk2 : k = 0 ∨ k = 1 := by omega
        rcases hk2 with rfl | rfl
        · exact Or.inl h
        · exact Or.inr h
      · rintro (h | h)
        · exact ⟨0, by omega, h⟩
        · exact ⟨1, by omega, h⟩, hbel⟩
  have HCONT := Lib.hid hcont
  obtain ⟨-, c1, -⟩ := id k1
  clear hu hnew hnil hbW k1 hgold hcont
  go_enter Try.func65, Try.ntmps65
  go_upto_region 1 with fail
  try rw [hW]
  clear hW
  by_cases t0 : g.tick < 0
  · have d : decide (g.tick < 0) = true := decide_eq_true t0
    have HH : Hid (faultOf g = 1) := Lib.hid (fault_head ((head_newer HNEW.out).2 (Or.inl t0)))
    clear t0
    go_wp2_with fail
    go_ret
    exact ⟨ret1 (by rw [HH.out]; rfl), HB.out⟩
  have d0 : decide (g.tick < 0) = false := decide_eq_false t0
  by_cases t1 : 60 < g.tick
  · have d : decide (60 < g.tick) = true := decide_eq_true t1
    have HH : Hid (faultOf g = 1) := Lib.hid (fault_head ((head_newer HNEW.out).2 (Or.inr (Or.inl t1))))
    clear t1 t0
    go_wp2_with fail
    go_ret
    exact ⟨ret1 (by rw [HH.out]; rfl), HB.out⟩
  have d1 : decide (60 < g.tick) = false := decide_eq_false t1
  by_cases t2 : g.next < 1
  · have d : decide (g.next < 1) = true := decide_eq_true t2
    have HH : Hid (faultOf g = 1) := Lib.hid (fault_head ((head_newer HNEW.out).2 (Or.inr (Or.inr (Or.inl t2)))))
    clear t2 t1 t0
    go_wp2_with fail
    go_ret
    exact ⟨ret1 (by rw [HH.out]; rfl), HB.out⟩
  have d2 : decide (g.next < 1) = false := decide_eq_false t2
  by_cases t3 : 2001 < g.next
  · have d : decide (2001 < g.next) = true := decide_eq_true t3
    have HH : Hid (faultOf g = 1) := Lib.hid (fault_head ((head_newer HNEW.out).2 (Or.inr (Or.inr (Or.inr (Or.inl t3))))))
    clear t3 t2 t1 t0
    go_wp2_with fail
    go_ret
    exact ⟨ret1 (by rw [HH.out]; rfl), HB.out⟩
  have d3 : decide (2001 < g.next) = false := decide_eq_false t3
  have T0 := Lib.hid t0
  have T1 := Lib.hid t1
  have T2 := Lib.hid t2
  have T3 := Lib.hid t3
  clear t0 t1 t2 t3
  go_wp2_with fail
  refine (HCONT.out).mono ?_
  rintro e w1 ⟨rfl, b1⟩
  have hb1 : Below w.heap.size w w1 := HB.out.trans (b1.mono hsW)
  have HB1 := Lib.hid hb1
  have K11 := Lib.hid (K1.out.call b1)
  have HU1 := Lib.hid ((HU.out.below b1).mono b1.size)
  obtain ⟨l11, c11, -⟩ := id K11.out
  have hs1 := hb1.size
  clear b1 hb1 HCONT c1 d0 d1 d2 d3
  by_cases hgb : (goldBad g.g0 || goldBad g.g1) = true
  · rw [hgb]
    have HH : Hid (faultOf g = 1) := Lib.hid (fault_head ((head_newer HNEW.out).2 (by
      rw [Bool.or_eq_true, goldBad_iff, goldBad_iff] at hgb
      omega)))
    clear hgb
    go_wp2_with fail
    go_ret
    exact ⟨ret1 (by rw [HH.out]; rfl), HB1.out⟩
  have hgb' : (goldBad g.g0 || goldBad g.g1) = false := by simpa using hgb
  have hhead : ¬ headBad g := by
    intro h
    have h1 := (head_newer HNEW.out).1 h
    have h2 : ¬ (g.g0 < 0 ∨ 1000 < g.g0 ∨ g.g1 < 0 ∨ 1000 < g.g1) := by
      intro h3
      apply hgb
      rw [Bool.or_eq_true, goldBad_iff, goldBad_iff]
      omega
    have := T0.out
    have := T1.out
    have := T2.out
    have := T3.out
    omega
  rw [hgb']
  have HHEAD := Lib.hid hhead
  clear hgb hgb' hhead T0 T1 T2 T3
  by_cases m20 : 20 < g.us.length
  · have d : decide ((20 : Int) < (g.us.length : Int)) = true := decide_eq_true (by omega)
    have HH : Hid (faultOf g = 2) := Lib.hid (fault_many HHEAD.out (Or.inl m20))
    clear m20
    go_wp2_with fail
    go_ret
    exact ⟨ret1 (by rw [HH.out]; rfl), HB1.out⟩
  have d20 : decide ((20 : Int) < (g.us.length : Int)) = false := decide_eq_false (by omega)
  have hfew : ¬ (20 < g.us.length ∨ 200 < g.free.length) := by rw [hfree]; simp; omega
  have HFEW := Lib.hid hfew
  have hn0 : (0 : Int) ≤ (g.us.length : Int) := by omega
  clear hfew
  go_wp2_with fail
  go_loopw [3, 5, 42] (fun _ _ a wr => ∃ k : Nat, a = .int .i64 k ∧ k ≤ g.us.length ∧ (eachUpTo true g.tick g.next g.us k ∧ Below w1.heap.size w1 wr)) (fun _ _ a _ => (g.us.length - intOf a).toNat)
  case atStart => exact ⟨0, rfl, by omega, eachUpTo_zero _ _ _ _, Below.refl _ _⟩
  case round =>
    obtain ⟨k, rfl, hk, hE, hX⟩ := hrel
    have HX := Lib.hid hX
    have HE := Lib.hid hE
    have hszr := hX.size
    have kBr := K11.out.call hX
    have hUr := (HU1.out.below hX).mono hszr
    obtain ⟨l1r, c1r, -⟩ := id kBr
    have KBR := Lib.hid kBr
    have HUR := Lib.hid hUr
    clear hE hX kBr hUr
    by_cases hlt : k < g.us.length
    · obtain ⟨u, hu⟩ : ∃ u, g.us.getD k zeroU = u := ⟨_, rfl⟩
      obtain ⟨b, o, hua, hbB, q0, q1, q2, q3, q4, q5, q6, q7, q8, q9, q10⟩ := HUR.out.getN k hlt u hu
      subst hua
      have hki : (0 : Int) ≤ (k : Int) := by omega
      have hkl : (k : Int) < (g.us.length : Int) := by omega
      have HUu := Lib.hid hu
      obtain ⟨V, hV⟩ : ∃ V, wr.alloc (.cells #[.int .i64 u.id, .int .i64 u.owner, .int .i64 u.kind, .int .i64 u.x, .int .i64 u.y, .int .i64 u.hp, .int .i64 u.does, .int .i64 u.gx, .int .i64 u.gy, .int .i64 u.target, .int .i64 u.since] 142) = V := ⟨_, rfl⟩
      have hbV : Below wr.heap.size wr V := by rw [← hV]; exact (Below.refl _ _).alloc (Nat.le_refl _) _
      have kE : Blk V wr.heap.size #[.int .i64 u.id, .int .i64 u.owner, .int .i64 u.kind, .int .i64 u.x, .int .i64 u.y, .int .i64 u.hp, .int .i64 u.does, .int .i64 u.gx, .int .i64 u.gy, .int .i64 u.target, .int .i64 u.since] := by rw [← hV]; exact Blk.new wr _ _
      have kBV := KBR.out.call hbV
      obtain ⟨lE, cE, -⟩ := id kE
      obtain ⟨lBV, cBV, -⟩ := id kBV
      have HBV := Lib.hid hbV
      have KE := Lib.hid kE
      have KBV := Lib.hid kBV
      have hszV := hbV.size
      clear hu hbV kE kBV
      go_wp2_with fail
      refine (single_any u g.tick _).mono ?_
      rintro e w2 ⟨rfl, b2⟩
      have hb2 : Below wr.heap.size wr w2 := HBV.out.trans (b2.mono hszV)
      have hs2 := hb2.size
      have HB2 : Hid (Below w.heap.size w w2) := Lib.hid (HB1.out.trans ((HX.out.trans (hb2.mono hszr)).mono hs1))
      have HR2 : Hid (Below w1.heap.size w1 w2) := Lib.hid (HX.out.trans (hb2.mono hszr))
      by_cases hone : oneFault true g.tick u = 0
      case neg =>
        have HH : Hid (faultOf g = oneFault true g.tick u) := Lib.hid (fault_each HHEAD.out HFEW.out (by rw [HNEW.out]; exact each_one HE.out hlt HUu.out hone) hone)
        have HNE := Lib.hid hone
        rw [errV_pos _ hone]
        clear hone b2 hb2 hV q0 q1 q2 q3 q4 q5 q6 q7 q8 q9 q10
        go_wp2_with fail
        go_ret
        exact ⟨ret1 (by rw [HH.out, errV_pos _ HNE.out]; rfl), HB2.out⟩
      rw [hone, errV_zero]
      have HONE := Lib.hid hone
      have kE2 := KE.out.call b2
      have kB2 := KBV.out.call b2
      obtain ⟨lE2, cE2, -⟩ := id kE2
      obtain ⟨lB2, cB2, -⟩ := id kB2
      have hU2 := (HUR.out.below hb2).mono hs2
      have HU2 := Lib.hid hU2
      clear hone b2 hb2 hV q0 q1 q2 q3 q4 q5 q6 q7 q8 q9 q10 cE cBV kE2 kB2 hU2 c1r
      haveI := Cw.ne w2
      have hxl : ∀ x : Cw w2, wr.heap.size < x.w.heap.size ∧ w.heap.size < x.w.heap.size := fun x => ⟨Nat.lt_of_lt_of_le lE2 x.le, Nat.lt_of_lt_of_le lB2 x.le⟩
      have xE : ∀ (x : Cw w2) (i : Nat), x.w.cell? ⟨wr.heap.size, i, none⟩ = #[Value.int .i64 u.id, .int .i64 u.owner, .int .i64 u.kind, .int .i64 u.x, .int .i64 u.y, .int .i64 u.hp, .int .i64 u.does, .int .i64 u.gx, .int .i64 u.gy, .int .i64 u.target, .int .i64 u.since][i]? := fun x i => (x.cell _ _ lE2).trans (cE2 i)
      have xB : ∀ (x : Cw w2) (i : Nat), x.w.cell? ⟨w.heap.size, i, none⟩ = #[Value.int .i64 g.tick, .int .i64 g.g0, .int .i64 g.g1, .int .i64 g.next, .slice (some ⟨b, o, none⟩) g.us.length cu][i]? := fun x i => (x.cell _ _ lB2).trans (cB2 i)
      have hcs : ∀ x : Cw w2, Calls Try.prog 95 #[.slice (some ⟨b, o, none⟩) k cu, .func (.func 96) #[] #[.pointer (some ⟨wr.heap.size, 0, none⟩)]] x.w fun e w' => e = .returned (.bool (standsAt (g.us.take k) u.x u.y)) ∧ Below x.w.heap.size x.w w' := fun x =>
        cont_unit (some ⟨b, o, none⟩) k cu (by omega) (g.us.take k) (by rw [List.length_take]; omega) u wr.heap.size x.w (fun i hi => by
          rw [List.length_take] at hi
          obtain ⟨b', o', h1, h2, h3⟩ := ((HU2.out.below x.below).mono x.le) i (by omega)
          exact ⟨b', o', h1, h2, fun j hj => by rw [h3 j hj, getD_take (by omega)]⟩) (hxl x).1 (xE x 3) (xE x 4)
      have HCS := Lib.hid hcs
      clear hcs
      have misOut : misfit g.next g.us k u → faultOf g = 3 := fun h => fault_each HHEAD.out HFEW.out (by rw [HNEW.out]; exact each_shape HE.out hlt HUu.out HONE.out h) (by decide)
      have MIS := Lib.hid misOut
      clear misOut
      by_cases hA : g.next ≤ u.id
      · have dA : decide (g.next ≤ u.id) = true := decide_eq_true hA
        have HH : Hid (faultOf g = 3) := Lib.hid (MIS.out (Or.inl hA))
        clear hA
        go_upto_region 11 with fail
        refine region_cw (by kernel_rfl) (by kernel_rfl) ?_
        repeat (go_big_quiet_step (fail))
        refine wpQuiet_nil ?_
        intro Z hZ
        have HZ := Lib.hid hZ
        clear hZ xE xB hxl cE2 cB2
        go_wp2_with fail
        go_ret
        exact ⟨ret1 (by rw [HH.out]; rfl), HB2.out.trans (HZ.out.mono HB2.out.size)⟩
      have dA : decide (g.next ≤ u.id) = false := decide_eq_false hA
      by_cases hk0 : k = 0
      · have d0 : decide ((0 : Int) < (k : Int)) = false := decide_eq_false (by omega)
        have d0' : decide (0 < k) = false := decide_eq_false (by omega)
        have hmf : misfit g.next g.us k u ↔ standsAt (g.us.take k) u.x u.y = true := by
          unfold misfit
          constructor
          · rintro (h | h | h)
            · exact absurd h hA
            · omega
            · exact h
          · exact fun h => Or.inr (Or.inr h)
        have HMF := Lib.hid hmf
        clear hmf hA hk0
        obtain ⟨st, hst⟩ : ∃ c, standsAt (g.us.take k) u.x u.y = c := ⟨_, rfl⟩
        rw [hst] at HCS HMF
        clear hst
        go_upto_region 11 with fail
        refine region_cw (by kernel_rfl) (by kernel_rfl) ?_
        repeat (go_big_quiet_step ((go_at_call 95; refine Calls.cw (HCS.out _))))
        refine wpQuiet_nil ?_
        intro Z hZ
        have HZ := Lib.hid hZ
        clear hZ xE xB hxl cE2 cB2 HCS
        cases st
        · have hno : ¬ misfit g.next g.us k u := fun h => by have := HMF.out.1 h; cases this
          have HNO := Lib.hid hno
          clear hno
          go_wp2_with fail
          go_roundw
          case rel => exact ⟨k + 1, by go_num, by omega, each_next HE.out hlt HUu.out HONE.out HNO.out, HR2.out.trans (HZ.out.mono (by have := HR2.out.size; omega))⟩
          case measure => simp [intOf]; omega
        · have HH : Hid (faultOf g = 3) := Lib.hid (MIS.out (HMF.out.2 rfl))
          go_wp2_with fail
          go_ret
          exact ⟨ret1 (by rw [HH.out]; rfl), HB2.out.trans (HZ.out.mono HB2.out.size)⟩
      · obtain ⟨m, rfl⟩ : ∃ m, k = m + 1 := ⟨k - 1, by omega⟩
        have d0 : decide ((0 : Int) < ((m + 1 : Nat) : Int)) = true := decide_eq_true (by omega)
        obtain ⟨p, hp⟩ : ∃ p, g.us.getD m zeroU = p := ⟨_, rfl⟩
        obtain ⟨b', o', hua', hbB', p0, -⟩ := HU2.out.getN m (by omega) p hp
        cases hua'
        have xP : ∀ x : Cw w2, x.w.cell? ⟨b, o + m * 11, none⟩ = some (.int .i64 p.id) := fun x => (x.cell _ _ hbB').trans p0
        have hbx : ∀ x : Cw w2, b < x.w.heap.size := fun x => Nat.lt_of_lt_of_le hbB' x.le
        have hm0 : (0 : Int) ≤ (m : Int) := by omega
        have hml : (m : Int) < (g.us.length : Int) := by omega
        have HP := Lib.hid hp
        clear hp p0 hk0
        by_cases hpp : u.id ≤ p.id
        · have dB : decide (u.id ≤ p.id) = true := decide_eq_true hpp
          have HH : Hid (faultOf g = 3) := Lib.hid (MIS.out (Or.inr (Or.inl ⟨by omega, by rw [show m + 1 - 1 = m by omega, HP.out]; exact hpp⟩)))
          clear hpp hA
          go_upto_region 11 with fail
          refine region_cw (by kernel_rfl) (by kernel_rfl) ?_
          repeat (go_big_quiet_step (fail))
          refine wpQuiet_nil ?_
          intro Z hZ
          have HZ := Lib.hid hZ
          clear hZ xE xB xP hbx hxl cE2 cB2
          go_wp2_with fail
          go_ret
          exact ⟨ret1 (by rw [HH.out]; rfl), HB2.out.trans (HZ.out.mono HB2.out.size)⟩
        have dB : decide (u.id ≤ p.id) = false := decide_eq_false hpp
        have hmf : misfit g.next g.us (m + 1) u ↔ standsAt (g.us.take (m + 1)) u.x u.y = true := by
          unfold misfit
          constructor
          · rintro (h | ⟨-, h⟩ | h)
            · exact absurd h hA
            · rw [show m + 1 - 1 = m by omega, HP.out] at h; exact absurd h hpp
            · exact h
          · exact fun h => Or.inr (Or.inr h)
        have HMF := Lib.hid hmf
        clear hmf hA hpp
        obtain ⟨st, hst⟩ : ∃ c, standsAt (g.us.take (m + 1)) u.x u.y = c := ⟨_, rfl⟩
        rw [hst] at HCS HMF
        clear hst
        go_upto_region 11 with fail
        refine region_cw (by kernel_rfl) (by kernel_rfl) ?_
        repeat (go_big_quiet_step ((go_at_call 95; refine Calls.cw (HCS.out _))))
        refine wpQuiet_nil ?_
        intro Z hZ
        have HZ := Lib.hid hZ
        clear hZ xE xB xP hbx hxl cE2 cB2 HCS
        cases st
        · have hno : ¬ misfit g.next g.us (m + 1) u := fun h => by have := HMF.out.1 h; cases this
          have HNO := Lib.hid hno
          clear hno
          go_wp2_with fail
          go_roundw
          case rel => exact ⟨m + 1 + 1, by go_num, by omega, each_next HE.out hlt HUu.out HONE.out HNO.out, HR2.out.trans (HZ.out.mono (by have := HR2.out.size; omega))⟩
          case measure => simp [intOf]; omega
        · have HH : Hid (faultOf g = 3) := Lib.hid (MIS.out (HMF.out.2 rfl))
          go_wp2_with fail
          go_ret
          exact ⟨ret1 (by rw [HH.out]; rfl), HB2.out.trans (HZ.out.mono HB2.out.size)⟩
    · obtain rfl : k = g.us.length := by omega
      obtain ⟨e0, e1, e2⟩ := each_all HE.out rfl
      have hby : byId g.us := byId_iff.2 e1
      have hok : ∀ u ∈ g.us, 0 ≤ u.x ∧ u.x < 12 ∧ 0 ≤ u.y ∧ u.y < 12 ∧ (Lit.int .i64 u.id).wf = true := fun u hu => by
        obtain ⟨j, hj, rfl⟩ := List.mem_iff_getElem.1 hu
        have h1 := (e2 j hj).1
        rw [getD_lt hj] at h1
        have h2 := (one_iff _ _ _).1 h1
        have h3 := (onB_iff _ _).1 h2.on
        have h4 := h2.id1
        have h5 := h2.idT
        have h6 : topOf true = 2000 := rfl
        exact ⟨by omega, by omega, by omega, by omega, wf_int (by omega)⟩
      have htgt : ∀ u ∈ g.us, 0 ≤ u.target ∧ u.target ≤ 2000 := fun u hu => by
        obtain ⟨j, hj, rfl⟩ := List.mem_iff_getElem.1 hu
        have h1 := (e2 j hj).1
        rw [getD_lt hj] at h1
        have h2 := (one_iff _ _ _).1 h1
        exact ⟨h2.tgt0, h2.tgtT⟩
      have he0 : eachFault g.new g.tick g.next [] g.us = 0 := by rw [HNEW.out]; exact e0
      have HE0 := Lib.hid he0
      have HTGT := Lib.hid htgt
      have HBY := Lib.hid hby
      have HOK := Lib.hid hok
      clear e0 e1 e2 he0 htgt hby hok hlt
      go_wp2_with fail
      refine (place_any g ua cu wr HBY.out (by omega) HOK.out HUR.out HNIL.out).mono ?_
      rintro e w3 ⟨S, M, ub, cb, rfl, hS, hM, hSM, hub, b3, bd, ⟨n2, s2, hn2, im⟩, own⟩
      have hs3 := b3.size
      have HR3 : Hid (Below w1.heap.size w1 w3) := Lib.hid (HX.out.trans (b3.mono hszr))
      obtain ⟨ub2, cb2, hub2, -, hrowP, -⟩ := URow.of_ownN own
      cases hub2
      have HROWP := Lib.hid hrowP
      have kB3 := KBR.out.call b3
      obtain ⟨l13, c13, -⟩ := id kB3
      have KB3 := Lib.hid kB3
      have HU3 := Lib.hid ((HUR.out.below b3).mono hs3)
      have BD := Lib.hid bd
      have IM3 := Lib.hid im
      have HB3w : Hid (Below w.heap.size w w3) := Lib.hid (HB1.out.trans (HR3.out.mono hs1))
      have hSl := bd.lt
      have hMl := im.lt
      clear b3 hub bd im own hrowP kB3 c1r l1r HUR KBR HX HE
      go_wp2_with fail
      go_loopw [9, 90] (fun _ a wz => ∃ k : Nat, a = .int .i64 k ∧ k ≤ g.us.length ∧ ((∀ j, j < k → aimsOk true g.us (g.us.getD j zeroU) = true) ∧ Below w3.heap.size w3 wz)) (fun _ a _ => (g.us.length - intOf a).toNat)
      case atStart => exact ⟨0, rfl, by omega, fun j hj => absurd hj (by omega), Below.refl _ _⟩
      case round =>
        obtain ⟨k, rfl, hk, hA, hX⟩ := hrel
        have HA := Lib.hid hA
        have HX := Lib.hid hX
        have hszr := hX.size
        have hUr := (HU3.out.below hX).mono hszr
        have HUR := Lib.hid hUr
        clear hA hX hUr
        by_cases hlt : k < g.us.length
        · obtain ⟨u, hu⟩ : ∃ u, g.us.getD k zeroU = u := ⟨_, rfl⟩
          have hum : u ∈ g.us := by rw [← hu, getD_lt hlt]; exact List.getElem_mem hlt
          obtain ⟨b, o, hua, hbB, q0, q1, q2, q3, q4, q5, q6, q7, q8, q9, q10⟩ := HUR.out.getN k hlt u hu
          subst hua
          have hki : (0 : Int) ≤ (k : Int) := by omega
          have hkl : (k : Int) < (g.us.length : Int) := by omega
          have HUu := Lib.hid hu
          have HUM := Lib.hid hum
          have hbV : Below wr.heap.size wr (wr.alloc (.cells #[.int .i64 u.id, .int .i64 u.owner, .int .i64 u.kind, .int .i64 u.x, .int .i64 u.y, .int .i64 u.hp, .int .i64 u.does, .int .i64 u.gx, .int .i64 u.gy, .int .i64 u.target, .int .i64 u.since] 142)) := (Below.refl _ _).alloc (Nat.le_refl _) _
          have HBV := Lib.hid hbV
          have kE := Blk.new wr #[.int .i64 u.id, .int .i64 u.owner, .int .i64 u.kind, .int .i64 u.x, .int .i64 u.y, .int .i64 u.hp, .int .i64 u.does, .int .i64 u.gx, .int .i64 u.gy, .int .i64 u.target, .int .i64 u.since] 142
          have KE := Lib.hid kE
          clear hu hum hbV kE
          go_upto_region 18 with fail
          obtain ⟨pE, hpE⟩ : ∃ n, wr.heap.size = n := ⟨_, rfl⟩
          rw [hpE]
          refine gen_world (fun V => Below w3.heap.size w3 V ∧ wr.heap.size ≤ V.heap.size ∧ Blk V pE #[.int .i64 u.id, .int .i64 u.owner, .int .i64 u.kind, .int .i64 u.x, .int .i64 u.y, .int .i64 u.hp, .int .i64 u.does, .int .i64 u.gx, .int .i64 u.gy, .int .i64 u.target, .int .i64 u.since]) ⟨HX.out.trans (HBV.out.mono hszr), HBV.out.size, by rw [← hpE]; exact KE.out⟩ ?_
          rintro V ⟨bV, hVs, kE⟩
          have BV := Lib.hid bV
          have bdV := BD.out.call bV
          have imV := IM3.out.call bV
          have rowV := (HROWP.out.below bV).mono bV.size
          have hwfT : (Lit.int .i64 u.target).wf = true := by
            obtain ⟨h1, h2⟩ := HTGT.out u HUM.out
            exact wf_int (by omega)
          haveI := Cw.ne V
          have xE : ∀ (x : Cw V) (i : Nat), x.w.cell? ⟨pE, i, none⟩ = #[Value.int .i64 u.id, .int .i64 u.owner, .int .i64 u.kind, .int .i64 u.x, .int .i64 u.y, .int .i64 u.hp, .int .i64 u.does, .int .i64 u.gx, .int .i64 u.gy, .int .i64 u.target, .int .i64 u.since][i]? := fun x i => (x.cell _ _ kE.lt).trans (kE.cell i)
          have xS : ∀ x : Cw V, x.w.cell? ⟨S, 5, none⟩ = some (.map (some M)) := fun x => (x.cell _ _ bdV.lt).trans (bdV.2.1 5 (by omega))
          have xl : ∀ x : Cw V, pE < x.w.heap.size ∧ S < x.w.heap.size := fun x => ⟨Nat.lt_of_lt_of_le kE.lt x.le, Nat.lt_of_lt_of_le bdV.lt x.le⟩
          obtain ⟨lv, hlv⟩ : ∃ v, (whoV ub g.us u.target).getD (.pointer none) = v := ⟨_, rfl⟩
          have xL : ∀ x : Cw V, (Instr.lookup 176 (.map (some M)) (.int .i64 u.target) false).run Try.prog x.w = .ok lv x.w := fun x => by
            have := (imV.call x.below).get (intKeys (by kernel_rfl)) (t := 176) (e := 175) (by kernel_rfl) (z := .pointer none) (by kernel_rfl) u.target hwfT
            rw [hlv] at this
            exact this
          have KE2 := Lib.hid kE
          have ROWV := Lib.hid rowV
          have HLV := Lib.hid hlv
          have hszV := bV.size
          clear q0 q1 q2 q3 q4 q5 q6 q7 q8 q9 q10 bV kE bdV imV rowV hwfT hlv KE
          refine region_cw (by kernel_rfl) (by kernel_rfl) ?_
          repeat (go_big_quiet_step (fail))
          refine wpQuiet_nil ?_
          intro Z hZ
          have HZ := Lib.hid hZ
          have hszZ := hZ.size
          have kEZ := KE2.out.call hZ
          have xE2 : ∀ (x : Cw Z) (i : Nat), x.w.cell? ⟨pE, i, none⟩ = #[Value.int .i64 u.id, .int .i64 u.owner, .int .i64 u.kind, .int .i64 u.x, .int .i64 u.y, .int .i64 u.hp, .int .i64 u.does, .int .i64 u.gx, .int .i64 u.gy, .int .i64 u.target, .int .i64 u.since][i]? := fun x i => (x.cell _ _ kEZ.lt).trans (kEZ.cell i)
          have xl2 : ∀ x : Cw Z, pE < x.w.heap.size := fun x => Nat.lt_of_lt_of_le kEZ.lt x.le
          have hAIM : aimsOk g.new g.us (g.us.getD k zeroU) = false → faultOf g = 3 := fun h => fault_aims HHEAD.out HFEW.out HE0.out hlt h
          have HAIM := Lib.hid hAIM
          haveI := Cw.ne Z
          clear hZ kEZ xE xS xl xL hAIM
          by_cases ht : 0 < u.target
          case neg =>
            have dt : decide (0 < u.target) = false := decide_eq_false ht
            have haok : aimsOk true g.us u = true := by
              have h1 := (HTGT.out u HUM.out).1
              unfold aimsOk
              exact decide_eq_true (Or.inl (by omega))
            have HAOK := Lib.hid haok
            clear ht haok
            go_upto_region 19 with fail
            refine region_cw (by kernel_rfl) (by kernel_rfl) ?_
            repeat (go_big_quiet_step (fail))
            refine wpQuiet_nil ?_
            intro Z2 hZ2
            have HZ2 := Lib.hid hZ2
            clear hZ2 xE2 xl2
            go_wp2_with fail
            go_roundw
            case rel =>
              refine ⟨k + 1, by go_num, by omega, fun j hj => ?_, BV.out.trans ((HZ.out.trans (HZ2.out.mono hszZ)).mono hszV)⟩
              by_cases e : j = k
              · rw [e, HUu.out]; exact HAOK.out
              · exact HA.out j (by omega)
            case measure => simp [intOf]; omega
          have dt : decide (0 < u.target) = true := decide_eq_true ht
          have htne : u.target ≠ 0 := by omega
          cases hw : whoIx g.us u.target with
          | none =>
            have hl := HLV.out
            unfold whoV at hl
            rw [hw] at hl
            have hl2 : lv = .pointer none := hl.symm
            have haok : aimsOk g.new g.us (g.us.getD k zeroU) = false := by
              rw [HUu.out, HNEW.out]
              have hi : ixOf g.us u.target = -1 := by unfold ixOf; rw [hw]
              unfold aimsOk
              rw [hi]
              exact decide_eq_false (by rintro (h | ⟨h, -⟩) <;> omega)
            have HH : Hid (faultOf g = 3) := Lib.hid (HAIM.out haok)
            subst hl2
            clear ht htne hl haok hw
            go_upto_region 19 with fail
            refine region_cw (by kernel_rfl) (by kernel_rfl) ?_
            repeat (go_big_quiet_step (fail))
            refine wpQuiet_nil ?_
            intro Z2 hZ2
            have HZ2 := Lib.hid hZ2
            clear hZ2 xE2 xl2
            go_wp2_with fail
            go_ret
            exact ⟨ret1 (by rw [HH.out]; rfl), HB3w.out.trans ((BV.out.trans ((HZ.out.trans (HZ2.out.mono hszZ)).mono hszV)).mono (by have := HB3w.out.size; omega))⟩
          | some i =>
            have hix : ixOf g.us u.target = (i : Int) := by unfold ixOf; rw [hw]
            have hil := (ixOf_lt hix).1
            obtain ⟨v, hv⟩ : ∃ v, g.us.getD i zeroU = v := ⟨_, rfl⟩
            obtain ⟨b', o', hub, hbB', p0, p1, p2, -⟩ := ROWV.out.getN i hil v hv
            subst hub
            have hl := HLV.out
            unfold whoV at hl
            rw [hw] at hl
            have hl2 : lv = .pointer (some ⟨b', o' + i * 11, none⟩) := hl.symm
            subst hl2
            obtain ⟨mv, hmv⟩ : ∃ x, mayDo true u v = x := ⟨_, rfl⟩
            have hlZ : b' < Z.heap.size := Nat.lt_of_lt_of_le hbB' HZ.out.size
            have hct : ∀ x : Cw Z, Calls Try.prog 98 #[.pointer (some ⟨pE, 0, none⟩), .pointer (some ⟨b', o' + i * 11, none⟩)] x.w fun e w' => e = .returned (.int .i64 mv) ∧ Below x.w.heap.size x.w w' := fun x => by
              rw [← hmv]
              have hz1 := (x.cell b' (o' + i * 11 + 1) hlZ).trans ((HZ.out.cell (p := ⟨b', _, none⟩) hbB').trans p1)
              have hz2 := (x.cell b' (o' + i * 11 + 2) hlZ).trans ((HZ.out.cell (p := ⟨b', _, none⟩) hbB').trans p2)
              exact task_any u v pE 0 b' (o' + i * 11) x.w (xl2 x) (Nat.lt_of_lt_of_le hlZ x.le) (xE2 x 1) (xE2 x 2) hz1 hz2
            have HCT := Lib.hid hct
            have hdec : aimsOk g.new g.us (g.us.getD k zeroU) = decide (mv = u.does) := by
              rw [HUu.out, HNEW.out]
              unfold aimsOk
              rw [hix, Int.toNat_natCast, hv, hmv]
              by_cases e : mv = u.does
              · rw [decide_eq_true e]; exact decide_eq_true (Or.inr ⟨by omega, e⟩)
              · rw [decide_eq_false e]; exact decide_eq_false (by rintro (h | ⟨-, h⟩); exact htne h; exact e h)
            clear hct hl p0 p1 p2 hmv hv hix hw ht htne
            by_cases hd : mv = u.does
            · have db : (mv != u.does) = false := by simp [hd]
              have haok : aimsOk true g.us u = true := by
                rw [HUu.out, HNEW.out] at hdec
                rw [hdec]; exact decide_eq_true hd
              have HAOK := Lib.hid haok
              clear hd haok hdec
              go_upto_region 19 with fail
              refine region_cw (by kernel_rfl) (by kernel_rfl) ?_
              repeat (go_big_quiet_step ((go_at_call 98; refine Calls.cw (HCT.out _))))
              refine wpQuiet_nil ?_
              intro Z2 hZ2
              have HZ2 := Lib.hid hZ2
              clear hZ2 xE2 xl2
              go_wp2_with fail
              go_roundw
              case rel =>
                refine ⟨k + 1, by go_num, by omega, fun j hj => ?_, BV.out.trans ((HZ.out.trans (HZ2.out.mono hszZ)).mono hszV)⟩
                by_cases e : j = k
                · rw [e, HUu.out]; exact HAOK.out
                · exact HA.out j (by omega)
              case measure => simp [intOf]; omega
            · have db : (mv != u.does) = true := by simp [hd]
              have HH : Hid (faultOf g = 3) := Lib.hid (HAIM.out (by rw [hdec]; exact decide_eq_false hd))
              clear hd hdec
              go_upto_region 19 with fail
              refine region_cw (by kernel_rfl) (by kernel_rfl) ?_
              repeat (go_big_quiet_step ((go_at_call 98; refine Calls.cw (HCT.out _))))
              refine wpQuiet_nil ?_
              intro Z2 hZ2
              have HZ2 := Lib.hid hZ2
              clear hZ2 xE2 xl2
              go_wp2_with fail
              go_ret
              exact ⟨ret1 (by rw [HH.out]; rfl), HB3w.out.trans ((BV.out.trans ((HZ.out.trans (HZ2.out.mono hszZ)).mono hszV)).mono (by have := HB3w.out.size; omega))⟩
        · obtain rfl : k = g.us.length := by omega
          have HH : Hid (faultOf g = 0) := Lib.hid (fault_none HHEAD.out HFEW.out HE0.out (by rw [HNEW.out]; exact HA.out) (fun h => by rw [HNEW.out] at h; cases h))
          go_wp2_with fail
          go_ret
          exact ⟨ret1 (by rw [HH.out]; rfl), HB3w.out.trans (HX.out.mono (by have := HB3w.out.size; omega))⟩
end Go.Proofs.Ytlfljlhppigejab
