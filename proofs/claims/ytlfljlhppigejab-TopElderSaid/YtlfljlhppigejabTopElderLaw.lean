/-
  What the statement TopElder does: walked.
-/
import Derived.Test.YtlfljlhppigejabElderStep
import Derived.Test.YtlfljlhppigejabTrackPure
import Derived.Test.YtlfljlhppigejabPlayPure
import Derived.Test.YtlfljlhppigejabInts
namespace Go.Proofs.Ytlfljlhppigejab
open Go.RowKit

set_option maxRecDepth 100000 in
set_option maxHeartbeats 1600000 in
/-- Two zero states are the same. -/
theorem same_zero (w : World) : Calls Try.prog 40 #[.agg #[.int .i64 0, .int .i64 0, .int .i64 0, .int .i64 0, .slice none 0 0, .slice none 0 0], .agg #[.int .i64 0, .int .i64 0, .int .i64 0, .int .i64 0, .slice none 0 0, .slice none 0 0]] w (TrueBelow w) := by
  have hsn : ∀ W : World, Calls Try.prog 81 #[.slice none 0 0, .slice none 0 0] W fun e W' => e = .returned (.bool true) ∧ W = W' := by
    intro W
    go_enter Try.func81, Try.ntmps81
    go_wp2_with fail
    go_loop [5] (fun i => i = .int .i64 0) (fun _ => 0)
    case atStart => rfl
    case round =>
      subst hrel
      go_wp2_with fail
      go_ret
      exact ⟨rfl, rfl⟩
  have heq : ∀ W : World, (Op.equalIn 10000 22 (.agg #[.int .i64 0, .int .i64 0]) (.agg #[.int .i64 0, .int .i64 0])).run Try.prog W = .ok true W := fun _ => by kernel_rfl
  go_enter Try.func40, Try.ntmps40
  go_wp2_with fail
  refine (hsn _).mono ?_
  rintro e W' ⟨rfl, rfl⟩
  go_wp2_with fail
  go_loop [5] (fun i => i = .int .i64 0) (fun _ => 0)
  case atStart => rfl
  case round =>
    subst hrel
    go_wp2_with fail
    go_ret
    exact tb rfl (by repeat (first | refine Below.alloc ?_ (by simp) _ | exact Below.refl _ _))

set_option maxHeartbeats 12800000 in
set_option maxRecDepth 100000 in
theorem topelder_law (g : G) (fa ua la : Option Addr) (cf cu cl : Nat) (hnew : g.new = false) (hcf : g.free.length ≤ 9223372036854775807) (hcu : g.us.length ≤ 9223372036854775807) (cs : List Cm) (hcl : cs.length ≤ 9223372036854775807) (w : World)
    (hf : Row w.heap.size w fa g.free.length (fun k => .int .i64 (g.free.getD k 0))) (hu : URow false w.heap.size w ua g.us) (hc : CRow w.heap.size w la cs) (hfit : g.Fits) :
    Calls Try.prog 5 #[.agg #[.int .i64 g.tick, .int .i64 g.g0, .int .i64 g.g1, .int .i64 g.next, .slice fa g.free.length cf, .slice ua g.us.length cu], .slice la cs.length cl] w (TrueBelow w) := by
  obtain ⟨W, hW⟩ : ∃ W, w.alloc (.cells #[.int .i64 g.tick, .int .i64 g.g0, .int .i64 g.g1, .int .i64 g.next, .slice fa g.free.length cf, .slice ua g.us.length cu] 26) = W := ⟨_, rfl⟩
  have hbW : Below w.heap.size w W := by rw [← hW]; exact (Below.refl _ _).alloc (Nat.le_refl _) _
  have k1 : Blk W w.heap.size #[.int .i64 g.tick, .int .i64 g.g0, .int .i64 g.g1, .int .i64 g.next, .slice fa g.free.length cf, .slice ua g.us.length cu] := by rw [← hW]; exact Blk.new w _ _
  have hsW := hbW.size
  have HF := Lib.hid ((hf.below hbW).mono hsW)
  have HU0 := Lib.hid hu
  have HUW := Lib.hid ((hu.below hbW).mono hsW)
  have HC : Hid (CRow W.heap.size W la cs) := Lib.hid (fun i hi => let ⟨b, o, h1, h2, h3⟩ := (hc.below hbW) i hi; ⟨b, o, h1, Nat.lt_of_lt_of_le h2 hsW, h3⟩)
  have HFIT := Lib.hid hfit
  have HNEW := Lib.hid hnew
  have HW := Lib.hid hbW
  have K1 := Lib.hid k1
  obtain ⟨l1, c1, -⟩ := id k1
  clear hf hu hc hfit hnew hbW k1
  go_enter Try.func5, Try.ntmps5
  go_wp2_with fail
  refine (step_any g fa ua la cf cu cl HNEW.out hcf hcu cs hcl W HF.out HUW.out HC.out HFIT.out.2.2.2.2.1).mono ?_
  rintro e w1 ⟨b1, hcase⟩
  have HB1 : Hid (Below w.heap.size w w1) := Lib.hid (HW.out.trans (b1.mono hsW))
  have K11 := Lib.hid (K1.out.call b1)
  clear c1 l1
  rcases hcase with ⟨hne, rfl⟩ | ⟨hz, fv, ev, bv, rfl, o1, o2, o3⟩
  · rw [errV_pos _ hne]
    clear hne b1
    go_wp2_with fail
    refine (same_zero _).mono ?_
    rintro e w2 ⟨rfl, b2⟩
    have hb2 : Below w.heap.size w w2 := by
      have hx : ∀ c T, Below w.heap.size w (w1.alloc (.cells c T)) := fun c T => HB1.out.alloc HB1.out.size _
      exact (hx _ _).trans (b2.mono (by have := HB1.out.size; simp; omega))
    clear b2
    go_wp2_with fail
    go_ret
    exact tb rfl hb2
  have law := elder_law HNEW.out hz
  have hg : Right g := (right_iff g).1 (by unfold stepFault at hz; by_cases h : faultOf g ≠ 0; rw [if_pos h] at hz; exact absurd hz h; omega)
  obtain ⟨x, hx⟩ : ∃ x, (stepE g cs).1 = x := ⟨_, rfl⟩
  obtain ⟨bo, hbo⟩ : ∃ x, (stepE g cs).2 = x := ⟨_, rfl⟩
  rw [hx, hbo] at law
  rw [hx] at o1 o2
  rw [hbo] at o3
  rw [hx]
  have hxn : x.new = false := by
    rw [← hx]
    have T := (Track.start hg (fun h => by rw [HNEW.out] at h; cases h)).cmds cs
    exact T.going.new.trans HNEW.out
  have hxr := (right_iff x).1 law.right
  obtain ⟨fva, fvc, rfl, hrf⟩ := ints_at rfl o1
  obtain ⟨eva, evc, rfl, -, hre, -⟩ := URow.of_own o2
  obtain ⟨bva, bvc, rfl, hrb⟩ := ints_at rfl o3
  have hxfew := hxr.few
  have hxunf := hxr.unfree
  have hgfew := hg.few
  have hmany := law.many
  have HTK := Lib.hid law.tick
  have hhead := hg.head
  unfold headBad at hhead
  have htr : 0 ≤ g.tick ∧ g.tick ≤ 60 := by omega
  have hbl : bo.length ≤ 1000 := by
    rw [← hbo]
    have T := (Track.start hg (fun h => by rw [HNEW.out] at h; cases h)).cmds cs
    have h1 := T.many
    have h2 := T.going.right.few
    show ((cs.foldl cmdF (g, [])).2).length ≤ 1000
    omega
  have LAW := Lib.hid law
  have HG := Lib.hid hg
  have HXN := Lib.hid hxn
  have HXR := Lib.hid hxr
  have hB1s := HB1.out.size
  have hbx : Below w1.heap.size w1 (w1.alloc (.cells #[.int .i64 x.tick, .int .i64 x.g0, .int .i64 x.g1, .int .i64 x.next, .slice fva x.free.length fvc, .slice eva x.us.length evc] 26)) := (Below.refl _ _).alloc (Nat.le_refl _) _
  have HBX := Lib.hid hbx
  have HRF := Lib.hid ((hrf.below hbx).mono hbx.size)
  have HRE := Lib.hid ((hre.below hbx).mono hbx.size)
  have HRB := Lib.hid ((hrb.below hbx).mono hbx.size)
  have hk5 := Blk.new w1 #[.int .i64 x.tick, .int .i64 x.g0, .int .i64 x.g1, .int .i64 x.next, .slice fva x.free.length fvc, .slice eva x.us.length evc] 26
  have K5 := Lib.hid hk5
  have K12 := Lib.hid (K11.out.alloc (.cells #[.int .i64 x.tick, .int .i64 x.g0, .int .i64 x.g1, .int .i64 x.next, .slice fva x.free.length fvc, .slice eva x.us.length evc] 26))
  obtain ⟨l5, c5, -⟩ := id hk5
  clear hz hx hbo law hg hxn hxr o1 o2 o3 hrf hre hrb hbx hhead hk5 b1
  go_wp2_with fail
  refine (check_any x fva eva x.free.length fvc x.us.length evc HXN.out rfl rfl (by omega) (by omega) _ HRF.out HRE.out (free_range HXR.out HXN.out)).mono ?_
  rintro e w3 ⟨rfl, b3⟩
  rw [LAW.out.right, errV_zero]
  have K53 := Lib.hid (K5.out.call b3)
  have K13 := Lib.hid (K12.out.call b3)
  have HB3 : Hid (Below w1.heap.size w1 w3) := Lib.hid (HBX.out.trans (b3.mono HBX.out.size))
  have HRE3 := Lib.hid ((HRE.out.below b3).mono b3.size)
  have HRB3 := Lib.hid ((HRB.out.below b3).mono b3.size)
  have HU3 : Hid (URow false w.heap.size w3 ua g.us) := Lib.hid (HU0.out.below (HB1.out.trans (HB3.out.mono hB1s)))
  obtain ⟨l53, c53, -⟩ := id K53.out
  obtain ⟨l13, c13, -⟩ := id K13.out
  have hw1 : IntKind.i64.wrap (g.tick + 1) = g.tick + 1 := IntWalk.i64_in _ (by omega)
  have hw2 : IntKind.i64.wrap ((g.us.length : Int) + (bo.length : Int)) = (g.us.length : Int) + (bo.length : Int) := IntWalk.i64_in _ (by omega)
  have d1 : (x.tick != g.tick + 1) = false := by simp [HTK.out]
  have d2 : (x.tick == g.tick + 1) = true := by simp [HTK.out]
  clear b3 c5 l5
  go_wp2_with fail
  have hs3 := HB3.out.size
  have hn0 : (0 : Int) ≤ (x.us.length : Int) := by omega
  have hn1 : (0 : Int) ≤ (bo.length : Int) := by omega
  have hn2 : (0 : Int) ≤ (g.us.length : Int) := by omega
  have HL53 := Lib.hid l53
  clear c53 c13 d1 d2 hw1 hw2
  go_loopw [8] (fun a wr => ∃ i : Nat, a = .int .i64 i ∧ i ≤ x.us.length ∧ (Below w3.heap.size w3 wr)) (fun a _ => (x.us.length - intOf a).toNat)
  case atStart => exact ⟨0, rfl, by omega, Below.refl _ _⟩
  case round =>
    obtain ⟨i, rfl, hi, hX⟩ := hrel
    have HX := Lib.hid hX
    have hszr := hX.size
    obtain ⟨l5, c5, -⟩ := id (K53.out.call hX)
    obtain ⟨l1, c1, -⟩ := id (K13.out.call hX)
    have hrer := HRE3.out.below hX
    clear hX
    by_cases hlt : i < x.us.length
    · obtain ⟨e, he⟩ : ∃ e, x.us.getD i zeroU = e := ⟨_, rfl⟩
      have hem : e ∈ x.us := by rw [← he, getD_lt hlt]; exact List.getElem_mem hlt
      obtain ⟨b, o, hea, hbB, q0, q1, q2, q3, q4, q5, q6, q7, q8, q9⟩ := hrer.getE i hlt e he
      subst hea
      have hbr : b < wr.heap.size := by omega
      have hi0 : (0 : Int) ≤ (i : Int) := by omega
      have hil : (i : Int) < (x.us.length : Int) := by omega
      have HE := Lib.hid hem
      have hbA : Below wr.heap.size wr (wr.alloc (.cells #[.int .i64 e.id, .int .i64 e.owner, .int .i64 e.kind, .int .i64 e.x, .int .i64 e.y, .int .i64 e.hp, .int .i64 e.does, .int .i64 e.gx, .int .i64 e.gy, .int .i64 e.target] 83)) := (Below.refl _ _).alloc (Nat.le_refl _) _
      have HBA := Lib.hid hbA
      clear he hem hrer hbA
      go_upto_region 11 with fail
      obtain ⟨pE, hpE⟩ : ∃ n, wr.heap.size = n := ⟨_, rfl⟩
      rw [hpE]
      refine gen_world (fun V => Below w3.heap.size w3 V ∧ pE < V.heap.size ∧ Blk V pE #[.int .i64 e.id, .int .i64 e.owner, .int .i64 e.kind, .int .i64 e.x, .int .i64 e.y, .int .i64 e.hp, .int .i64 e.does, .int .i64 e.gx, .int .i64 e.gy, .int .i64 e.target]) ⟨HX.out.trans (HBA.out.mono hszr), by simp; omega, by rw [← hpE]; exact Blk.new wr _ _⟩ ?_
      rintro V ⟨bV, hVs, kE⟩
      have BV := Lib.hid bV
      have KE := Lib.hid kE
      have hrbV := HRB3.out.below bV
      have hsV := bV.size
      obtain ⟨lE, cE, -⟩ := id kE
      have HRBV := Lib.hid hrbV
      clear bV kE hrbV q0 q1 q2 q3 q4 q5 q6 q7 q8 q9 c5 c1
      go_wp2_with fail
      go_loopw [10, 11] (fun c a wx => ∃ k : Nat, a = .int .i64 k ∧ k ≤ bo.length ∧ (c = .bool ((bo.take k).contains e.id) ∧ Below V.heap.size V wx)) (fun _ a _ => (bo.length - intOf a).toNat)
      case atStart => exact ⟨0, rfl, by omega, (by simp), Below.refl _ _⟩
      case round =>
        obtain ⟨k, rfl, hk, rfl, hY⟩ := hrel
        have HY := Lib.hid hY
        have hszY := hY.size
        obtain ⟨lE2, cE2, -⟩ := id (KE.out.call hY)
        by_cases hkl : k < bo.length
        · obtain ⟨y, hy⟩ : ∃ y, bo.getD k 0 = y := ⟨_, rfl⟩
          obtain ⟨b2, o2, hb2, hbB2, p0⟩ := (HRBV.out.below (hY.mono hsV)) k hkl
          dsimp only at p0
          rw [hy] at p0
          subst hb2
          have hbr2 : b2 < wr.heap.size := by omega
          have hk0 : (0 : Int) ≤ (k : Int) := by omega
          have hkl2 : (k : Int) < (bo.length : Int) := by omega
          have HTK2 : Hid ((bo.take (k + 1)).contains e.id = ((bo.take k).contains e.id || y == e.id)) := Lib.hid (by
            show _ = _
            rw [takeI_at hkl, hy, Bool.eq_iff_iff]
            simp
            exact ⟨fun h => h.imp (fun h => h) (fun h => h.symm), fun h => h.imp (fun h => h) (fun h => h.symm)⟩)
          obtain ⟨cb, hcb⟩ : ∃ c, (bo.take k).contains e.id = c := ⟨_, rfl⟩
          rw [hcb]
          have HCB := Lib.hid hcb
          haveI := Cw.ne wr
          have hcw := fun (z : Cw wr) => z.cell
          clear hy hcb hY
          go_upto_region 14 with fail
          refine region_cw (by kernel_rfl) (by kernel_rfl) ?_
          repeat (go_big_quiet_step (fail))
          cases cb
          · repeat (go_big_quiet_step (fail))
            refine wpQuiet_nil ?_
            intro Z hZ
            have HZ := Lib.hid hZ
            clear hcw p0 hZ cE2
            go_wp2_with fail
            go_roundw
            case rel =>
              refine ⟨k + 1, by go_num, by omega, ?_, HY.out.trans (HZ.out.mono hszY)⟩
              rw [HTK2.out, HCB.out]
              rw [Bool.false_or]
            case measure => simp [intOf]; omega
          · repeat (go_big_quiet_step (fail))
            refine wpQuiet_nil ?_
            intro Z hZ
            have HZ := Lib.hid hZ
            clear hcw p0 hZ cE2
            go_wp2_with fail
            go_roundw
            case rel =>
              refine ⟨k + 1, by go_num, by omega, ?_, HY.out.trans (HZ.out.mono hszY)⟩
              rw [HTK2.out, HCB.out]
              rfl
            case measure => simp [intOf]; omega
        · obtain rfl : k = bo.length := by omega
          rw [List.take_length]
          obtain ⟨B0, hB0⟩ : ∃ c, bo.contains e.id = c := ⟨_, rfl⟩
          rw [hB0]
          have HB0 := Lib.hid hB0
          have hkT := (K13.out.call (BV.out)).call hY
          have HKT := Lib.hid hkT
          have hkE := KE.out.call hY
          have HKE := Lib.hid hkE
          have hww : w.heap.size ≤ w3.heap.size := by omega
          have hU4 : URow false w.heap.size wr ua g.us := HU3.out.below ((BV.out.trans (hY.mono hsV)).mono hww)
          have HU4 := Lib.hid hU4
          have hb4 : Below w3.heap.size w3 wr := BV.out.trans (hY.mono hsV)
          have HB4 := Lib.hid hb4
          clear hB0 hkT hkE hU4 hb4 hY cE2 lE2 HY hkl
          go_upto_region 16 with fail
          refine gen_world (fun R => Below w3.heap.size w3 R ∧ Blk R w.heap.size #[.int .i64 g.tick, .int .i64 g.g0, .int .i64 g.g1, .int .i64 g.next, .slice fa g.free.length cf, .slice ua g.us.length cu] ∧ Blk R pE #[.int .i64 e.id, .int .i64 e.owner, .int .i64 e.kind, .int .i64 e.x, .int .i64 e.y, .int .i64 e.hp, .int .i64 e.does, .int .i64 e.gx, .int .i64 e.gy, .int .i64 e.target] ∧ URow false w.heap.size R ua g.us) ⟨HB4.out, HKT.out, HKE.out, HU4.out⟩ ?_
          rintro R ⟨bR, kTR, kER, uR⟩
          have BR := Lib.hid bR
          have KTR := Lib.hid kTR
          have KER := Lib.hid kER
          have UR := Lib.hid uR
          have hszR := bR.size
          clear bR kTR kER uR HB4 HKT HKE HU4
          go_loopw [10, 12] (fun c a wz => ∃ j : Nat, a = .int .i64 j ∧ j ≤ g.us.length ∧ (c = .bool (B0 || (g.us.take j).any (fun v => v.id == e.id)) ∧ Below R.heap.size R wz)) (fun _ a _ => (g.us.length - intOf a).toNat)
          case atStart => exact ⟨0, rfl, by omega, (by simp), Below.refl _ _⟩
          case round =>
            obtain ⟨j, rfl, hj, rfl, hZ⟩ := hrel
            have HZ := Lib.hid hZ
            have hszZ := hZ.size
            obtain ⟨lT, cT, -⟩ := id (KTR.out.call hZ)
            obtain ⟨lE3, cE3, -⟩ := id (KER.out.call hZ)
            have hUZ := UR.out.below (hZ.mono (by omega))
            clear hZ
            by_cases hjl : j < g.us.length
            · obtain ⟨v, hv⟩ : ∃ v, g.us.getD j zeroU = v := ⟨_, rfl⟩
              have hvm : v ∈ g.us := by rw [← hv, getD_lt hjl]; exact List.getElem_mem hjl
              obtain ⟨b3, o3, hb3, hbB3, p0, p1, p2, p3, p4, p5, p6, p7, p8, p9⟩ := hUZ.getE j hjl v hv
              subst hb3
              have hbr3 : b3 < wr.heap.size := by omega
              have hj0 : (0 : Int) ≤ (j : Int) := by omega
              have hjl2 : (j : Int) < (g.us.length : Int) := by omega
              have HNXT : Hid ((g.us.take (j + 1)).any (fun v => v.id == e.id) = ((g.us.take j).any (fun v => v.id == e.id) || v.id == e.id)) := Lib.hid (by
                show _ = _
                rw [take_at hjl, hv]
                simp)
              have HV := Lib.hid hv
              have HVM := Lib.hid hvm
              clear hUZ hv hvm
              by_cases hid : v.id = e.id
              · have hlaw := LAW.out.old e HE.out v HVM.out hid
                obtain ⟨l1', l2', l3', l4', l5'⟩ := hlaw
                have hB0 : B0 = false := by
                  rw [← HB0.out, Bool.eq_false_iff]
                  intro h
                  exact l1' (by simpa using h)
                have hany : (g.us.take j).any (fun v => v.id == e.id) = false := by
                  rw [List.any_eq_false]
                  intro u hu
                  obtain ⟨m, hm, rfl⟩ := List.mem_iff_getElem.1 hu
                  rw [List.length_take] at hm
                  have h5 := byId_iff.1 HG.out.sorted m j (by omega) hjl
                  rw [HV.out, getD_lt (by omega)] at h5
                  rw [List.getElem_take]
                  simp
                  omega
                have hc0 : (B0 || (g.us.take j).any (fun v => v.id == e.id)) = false := by rw [hB0, hany]; rfl
                rw [hc0]
                have dI : (v.id != e.id) = false := by simp [hid]
                have dI2 : (v.id == e.id) = true := by simp [hid]
                have dK : (v.kind != e.kind) = false := by simp [l2']
                have dK2 : (v.kind == e.kind) = true := by simp [l2']
                have dO : (v.owner != e.owner) = false := by simp [l3']
                have dO2 : (v.owner == e.owner) = true := by simp [l3']
                have dH : decide (v.hp < e.hp) = false := decide_eq_false (by omega)
                have ov := (onB_iff _ _).1 (HG.out.ok HVM.out).on
                have oe := (onB_iff _ _).1 (HXR.out.ok HE.out).on
                have dF : decide (1 < far v.x v.y e.x e.y) = false := decide_eq_false (by omega)
                clear hid hB0 hany hc0 l1' l2' l3' l5'
                go_wp2_with fail
                refine (rFar v.x v.y e.x e.y _ (by omega) (by omega) (by omega) (by omega)).mono ?_
                rintro e' w' ⟨rfl, rfl⟩
                go_wp2_with fail
                go_roundw
                case rel =>
                  refine ⟨j + 1, by go_num, by omega, ?_, HZ.out.alloc HZ.out.size _⟩
                  rw [HNXT.out, dI2]
                  simp
                case measure => simp [intOf]; omega
              · have dI : (v.id != e.id) = true := by simp [hid]
                have dI2 : (v.id == e.id) = false := by simp [hid]
                have HDI := Lib.hid dI2
                clear hid
                go_wp2_with fail
                go_roundw
                case rel =>
                  refine ⟨j + 1, by go_num, by omega, ?_, HZ.out.alloc HZ.out.size _⟩
                  rw [HNXT.out, HDI.out, Bool.or_false]
                case measure => simp [intOf]; omega
            · obtain rfl : j = g.us.length := by omega
              rw [List.take_length]
              have hcame : (B0 || g.us.any (fun v => v.id == e.id)) = true := by
                rcases LAW.out.here e HE.out with h | ⟨v, hv, h⟩
                · have : B0 = true := by rw [← HB0.out]; simpa using h
                  rw [this]; rfl
                · have : g.us.any (fun v => v.id == e.id) = true := by
                    rw [List.any_eq_true]
                    exact ⟨v, hv, by simp [h]⟩
                  rw [this, Bool.or_true]
              rw [hcame]
              clear hcame hUZ
              go_wp2_with fail
              go_roundw
              case rel => exact ⟨i + 1, by go_num, by omega, BR.out.trans (HZ.out.mono hszR)⟩
              case measure => simp [intOf]; omega
    · go_wp2_with fail
      go_ret
      exact tb rfl (HB1.out.trans ((HB3.out.trans (HX.out.mono hs3)).mono hB1s))
end Go.Proofs.Ytlfljlhppigejab
