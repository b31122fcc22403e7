/-
  The walk of view.Newer. (Printed by gen_viewn.py.)
-/
import Derived.Test.YtlfljlhppigejabViewAll
import Derived.Test.YtlfljlhppigejabNewCheck
namespace Go.Proofs.Ytlfljlhppigejab
open Go.RowKit

set_option maxHeartbeats 12800000 in
set_option maxRecDepth 100000 in
theorem viewn_any (g : G) (ua : Option Addr) (cu : Nat) (hnew : g.new = true) (hfree : g.free = []) (hcu : g.us.length ≤ 9223372036854775807) (w : World)
    (hu : URow true w.heap.size w ua g.us) (hnil : ua = none → g.us.length = 0 ∧ cu = 0) (hcap : g.us.length ≤ cu) :
    Calls Try.prog 33 #[.agg #[.int .i64 g.tick, .int .i64 g.g0, .int .i64 g.g1, .int .i64 g.next, .slice ua g.us.length cu]] w (ViewEnd g w) := by
  obtain ⟨W, hW⟩ : ∃ W, (w.alloc (.cells #[.int .i64 g.tick, .int .i64 g.g0, .int .i64 g.g1, .int .i64 g.next, .slice ua g.us.length cu] 32)).alloc (.cells #[.int .i64 0, .int .i64 0, .int .i64 0, .slice none 0 0] 61) = W := ⟨_, rfl⟩
  have hbW : Below w.heap.size w W := by rw [← hW]; exact ((Below.refl _ _).alloc (Nat.le_refl _) _).alloc (by simp) _
  have k1 : Blk W w.heap.size #[.int .i64 g.tick, .int .i64 g.g0, .int .i64 g.g1, .int .i64 g.next, .slice ua g.us.length cu] := by rw [← hW]; exact (Blk.new w _ _).alloc _
  have k2 : Blk W (w.heap.size + 1) #[.int .i64 0, .int .i64 0, .int .i64 0, .slice none 0 0] := by
    rw [← hW]
    have := Blk.new (w.alloc (.cells #[.int .i64 g.tick, .int .i64 g.g0, .int .i64 g.g1, .int .i64 g.next, .slice ua g.us.length cu] 32)) #[.int .i64 0, .int .i64 0, .int .i64 0, .slice none 0 0] 61
    simpa using this
  have hszW := hbW.size
  have HNIL := Lib.hid hnil
  have HCAP := Lib.hid hcap
  have HU := Lib.hid hu
  have HUW := Lib.hid ((hu.below hbW).mono hszW)
  have HFREE := Lib.hid hfree
  have HNEW := Lib.hid hnew
  have HW := Lib.hid hbW
  have K1 := Lib.hid k1
  have K2 := Lib.hid k2
  obtain ⟨l1, c1, -⟩ := id k1
  clear hu hnil hcap hfree hnew hbW k1 k2
  go_enter Try.func33, Try.ntmps33
  go_wp2_with fail
  refine (ncheck_any g ua cu HNEW.out HFREE.out hcu _ HUW.out HNIL.out HCAP.out).mono ?_
  rintro e w1 ⟨rfl, b1⟩
  have HB1 : Hid (Below w.heap.size w w1) := Lib.hid (HW.out.trans (b1.mono hszW))
  have k11 := K1.out.call b1
  have k21 := K2.out.call b1
  obtain ⟨l11, c11, -⟩ := id k11
  obtain ⟨l21, c21, f21⟩ := id k21
  have K11 := Lib.hid k11
  have K21 := Lib.hid k21
  have hs1 := HB1.out.size
  clear b1 k11 k21 c1 l1 hW
  by_cases hfault : faultOf g = 0
  case neg =>
    rw [errV_pos _ hfault]
    have HFA := Lib.hid hfault
    clear hfault
    go_wp2_with fail
    refine bodyPost_ret (v := .tuple #[.agg #[.int .i64 0, .int .i64 0, .int .i64 0, .slice none 0 0], .iface 112 (.int .i64 (faultOf g : Nat))]) (ret_pair Try.results33 rfl rfl (K21.out.store4 rfl (.int .i64 0) (.int .i64 0) (.int .i64 0) (.slice none 0 0)) Try.underlying61 rfl infoView) rfl ?_
    refine ⟨?_, Or.inl ⟨HFA.out, by rw [errV_pos _ HFA.out]⟩⟩
    iterate 4 (refine Below.setCell ?_ (by simp) _)
    exact HB1.out
  rw [hfault, errV_zero]
  have HFA := Lib.hid hfault
  have hg := (right_iff g).1 hfault
  have HG := Lib.hid hg
  have hfew := hg.few
  clear hfault hg
  have m0 := MapOf.new (P := Try.prog) (k := 3) (emb := Value.int .i64) (ok := fun a => (Lit.int .i64 a).wf = true) w1
  obtain ⟨y1, r1, m1, t1⟩ := m0.put (intKeys (by kernel_rfl)) (t := 137) (e := 22) (by kernel_rfl) (by unfold maxLen; omega) 0 (by decide) (.agg #[.int .i64 (-1), .int .i64 (-1)])
  have hby : Below w1.heap.size w1 y1 := Below.turned ((Below.refl w1.heap.size w1).alloc (Nat.le_refl _) (.map #[] 0)) t1 (Nat.le_refl _)
  have hmm := @run_makeMap Try.prog
  have m1' : IM y1 w1.heap.size 1 1 (fun id => (placesF (g.us.take 0) id).map pairV) := m1.fn (fun id => by unfold placesF; simp; split <;> rfl) rfl
  have HBY := Lib.hid hby
  have M1 := Lib.hid m1'
  have K1Y := Lib.hid (K11.out.call hby)
  have K2Y := Lib.hid (K21.out.call hby)
  have hsy := hby.size
  obtain ⟨l1y, c1y, -⟩ := id K1Y.out
  have hn0 : (0 : Int) ≤ (g.us.length : Int) := by omega
  clear m0 m1 t1 hby m1' f21 c21
  go_wp2_with fail
  go_loopw [24] (fun a wr => ∃ k : Nat, a = .int .i64 k ∧ k ≤ g.us.length ∧ (Kp (fun b => b = w1.heap.size) y1 wr ∧ ∃ n1 s1, n1 ≤ k + 1 ∧ IM wr w1.heap.size n1 s1 (fun id => (placesF (g.us.take k) id).map pairV))) (fun a _ => (g.us.length - intOf a).toNat)
  case atStart => exact ⟨0, rfl, by omega, Kp.refl _ _, 1, 1, by omega, M1.out⟩
  case round =>
    obtain ⟨k, rfl, hk, hX⟩ := hrel
    have HX := Lib.hid hX
    clear hX
    by_cases hlt : k < g.us.length
    · obtain ⟨u, hu⟩ : ∃ u, g.us.getD k zeroU = u := ⟨_, rfl⟩
      have hum : u ∈ g.us := by rw [← hu, getD_lt hlt]; exact List.getElem_mem hlt
      obtain ⟨kpr, n1, s1, hn1, hm1⟩ := HX.out
      have hszr := kpr.size
      obtain ⟨b, o, hua, hbB, q0, q1, q2, q3, q4, q5, q6, q7, q8, q9, q10⟩ := (HU.out.below (HB1.out.trans (HBY.out.mono hs1))).getN k hlt u hu
      subst hua
      have hc := fun (j : Nat) => kpr.cell b j (by omega) (by omega)
      rw [← hc] at q0 q1 q2 q3 q4 q5 q6 q7 q8 q9 q10
      have hbr : b < wr.heap.size := by omega
      have ho := HG.out.ok hum
      have hwf : (Lit.int .i64 u.id).wf = true := by
        have h1 := ho.idT
        have h2 := ho.id1
        rw [HNEW.out] at h1
        exact wf_int (by have : topOf true = 2000 := rfl; omega)
      have hbA : Below wr.heap.size wr (wr.alloc (.cells #[.int .i64 u.id, .int .i64 u.owner, .int .i64 u.kind, .int .i64 u.x, .int .i64 u.y, .int .i64 u.hp, .int .i64 u.does, .int .i64 u.gx, .int .i64 u.gy, .int .i64 u.target, .int .i64 u.since] 142)) := (Below.refl _ _).alloc (Nat.le_refl _) _
      obtain ⟨y, ry, my, ty⟩ := (hm1.call hbA).put (intKeys (by kernel_rfl)) (t := 137) (e := 22) (by kernel_rfl) (by unfold maxLen; omega) u.id hwf (pairV (u.x, u.y))
      have kpy := (kpr.then_ hbA).trans ((Kp.turned ty).imp (Y := fun c => c = w1.heap.size) (fun c _ hc => hc)) (fun _ _ h => h)
      have hki : (0 : Int) ≤ (k : Int) := by omega
      have hkl : (k : Int) < (g.us.length : Int) := by omega
      unfold pairV at ry
      have HU' := Lib.hid hu
      have MY := Lib.hid my
      have KPY := Lib.hid kpy
      clear hu hum kpr hm1 hc hwf hbA my ty kpy ho
      go_wp2_with fail
      go_roundw
      case rel =>
        refine ⟨k + 1, by go_num, by omega, KPY.out, n1 + 1, _, by omega, MY.out.fn (fun id => ?_) rfl⟩
        rw [places_succ g.us k hlt u HU'.out]
        split <;> rfl
      case measure => simp [intOf]; omega
    · obtain rfl : k = g.us.length := by omega
      obtain ⟨kpr, n1, s1, hn1, hm1⟩ := HX.out
      rw [List.take_length] at hm1
      have hszr := kpr.size
      have kb : Below w1.heap.size w1 wr := HBY.out.trans (kpr.below (fun b hb => (by have h8 : b = w1.heap.size := hb; omega)) hsy)
      have nB : w.heap.size + 2 ≤ w1.heap.size := by have := K21.out.lt; omega
      have kb1 := K1Y.out.kp kpr (by omega)
      have kb2 := K2Y.out.kp kpr (by omega)
      obtain ⟨l1r, c1r, -⟩ := id kb1
      have KB := Lib.hid kb
      have KB1 := Lib.hid kb1
      have KB2 := Lib.hid kb2
      have HM1 := Lib.hid hm1
      clear kpr hm1 HX hlt kb kb1 kb2 r1 hmm c1y
      go_upto_region 11 with fail
      obtain ⟨pS, hpS⟩ : ∃ n, wr.heap.size = n := ⟨_, rfl⟩
      rw [hpS]
      have hMS := HM1.out.lt
      have hbx : Below wr.heap.size wr (wr.alloc (.cells #[.int .i64 g.tick, .int .i64 g.g0, .int .i64 g.g1, .slice none 0 0] 61)) := (Below.refl _ _).alloc (Nat.le_refl _) _
      have HBX := Lib.hid hbx
      refine gen_world (fun V => Blk V pS #[.int .i64 g.tick, .int .i64 g.g0, .int .i64 g.g1, .slice none 0 0] ∧ Below w1.heap.size w1 V ∧ IM V w1.heap.size n1 s1 (fun id => (placesF g.us id).map pairV) ∧ Blk V w.heap.size #[.int .i64 g.tick, .int .i64 g.g0, .int .i64 g.g1, .int .i64 g.next, .slice ua g.us.length cu] ∧ Blk V (w.heap.size + 1) #[.int .i64 0, .int .i64 0, .int .i64 0, .slice none 0 0]) ⟨by rw [← hpS]; exact Blk.new wr _ _, KB.out.trans (HBX.out.mono (by omega)), HM1.out.call HBX.out, KB1.out.call HBX.out, KB2.out.call HBX.out⟩ ?_
      rintro V ⟨kS, bV, mV, k1V, k2V⟩
      have hMV : w1.heap.size < pS := by omega
      have hSV := kS.lt
      obtain ⟨l1V, c1V, -⟩ := id k1V
      have KS := Lib.hid kS
      have BV := Lib.hid bV
      have MV := Lib.hid mV
      have K2V := Lib.hid k2V
      have hBV : Below w.heap.size w V := HB1.out.trans (bV.mono hs1)
      have HBV := Lib.hid hBV
      have HUV := Lib.hid (HU.out.below hBV)
      clear kS bV mV k1V k2V hbx HBX KB KB1 KB2 HM1 c1r hBV
      go_wp2_with fail
      go_loopw [45] (fun a wz => ∃ k : Nat, a = .int .i64 k ∧ k ≤ g.us.length ∧ ((∃ av, Blk wz pS #[.int .i64 g.tick, .int .i64 g.g0, .int .i64 g.g1, av] ∧ wz.ownsRow V.heap.size 136 10 av k (seenAll ((g.us.take k).map (seenF g.us)))) ∧ Kp (fun b => b = pS) V wz)) (fun a _ => (g.us.length - intOf a).toNat)
      case atStart => exact ⟨0, rfl, by omega, ⟨.slice none 0 0, KS.out, World.ownsRow_nil _ _ _ _⟩, Kp.refl _ _⟩
      case round =>
        obtain ⟨k, rfl, hk, hY⟩ := hrel
        have HY := Lib.hid hY
        clear hY
        by_cases hlt : k < g.us.length
        · obtain ⟨u, hu⟩ : ∃ u, g.us.getD k zeroU = u := ⟨_, rfl⟩
          have hum : u ∈ g.us := by rw [← hu, getD_lt hlt]; exact List.getElem_mem hlt
          obtain ⟨⟨av, kSr, own⟩, kpr⟩ := HY.out
          have hszr := kpr.size
          obtain ⟨b, o, hua, hbB, q0, q1, q2, q3, q4, q5, q6, q7, q8, q9, q10⟩ := HUV.out.getN k hlt u hu
          subst hua
          have hc := fun (j : Nat) => kpr.cell b j (by omega) (by omega)
          rw [← hc] at q0 q1 q2 q3 q4 q5 q6 q7 q8 q9 q10
          have hbr : b < wr.heap.size := by omega
          have ho := HG.out.ok hum
          have hwf : (Lit.int .i64 u.target).wf = true := by
            have h1 := ho.tgtT
            have h2 := ho.tgt0
            rw [HNEW.out] at h1
            exact wf_int (by have : topOf true = 2000 := rfl; omega)
          obtain ⟨V1, hV1⟩ : ∃ V1, wr.alloc (.cells #[.int .i64 u.id, .int .i64 u.owner, .int .i64 u.kind, .int .i64 u.x, .int .i64 u.y, .int .i64 u.hp, .int .i64 u.does, .int .i64 u.gx, .int .i64 u.gy, .int .i64 u.target, .int .i64 u.since] 142) = V1 := ⟨_, rfl⟩
          have hb1 : Below wr.heap.size wr V1 := by rw [← hV1]; exact (Below.refl _ _).alloc (Nat.le_refl _) _
          have kE : Blk V1 wr.heap.size #[.int .i64 u.id, .int .i64 u.owner, .int .i64 u.kind, .int .i64 u.x, .int .i64 u.y, .int .i64 u.hp, .int .i64 u.does, .int .i64 u.gx, .int .i64 u.gy, .int .i64 u.target, .int .i64 u.since] := by rw [← hV1]; exact Blk.new wr _ _
          have mr := ((MV.out.kp kpr (by omega)).call hb1).get (intKeys (by kernel_rfl)) (t := 137) (e := 22) (by kernel_rfl) (z := .agg #[.int .i64 0, .int .i64 0]) (by kernel_rfl) u.target hwf
          obtain ⟨p, hp⟩ : ∃ p, ((placesF g.us u.target).getD (0, 0)).1 = p := ⟨_, rfl⟩
          obtain ⟨q, hq⟩ : ∃ q, ((placesF g.us u.target).getD (0, 0)).2 = q := ⟨_, rfl⟩
          have hv : ((placesF g.us u.target).map pairV).getD (.agg #[.int .i64 0, .int .i64 0]) = .agg #[.int .i64 p, .int .i64 q] := by
            rw [← hp, ← hq]
            cases placesF g.us u.target <;> rfl
          rw [hv] at mr
          have hki : (0 : Int) ≤ (k : Int) := by omega
          have hkl : (k : Int) < (g.us.length : Int) := by omega
          obtain ⟨lE, cE, -⟩ := id kE
          have HU' := Lib.hid hu
          have KSR := Lib.hid kSr
          have OWN := Lib.hid own
          have KPR := Lib.hid kpr
          have HB' := Lib.hid hb1
          have KE := Lib.hid kE
          have HP := Lib.hid hp
          have HQ := Lib.hid hq
          clear hu hum kSr own kpr hc hwf hb1 kE hp hq hv ho HY
          go_upto_region 15 with fail
          obtain ⟨V2, hV2⟩ : ∃ V2, V1.alloc (.cells #[.int .i64 p, .int .i64 q] 22) = V2 := ⟨_, rfl⟩
          have hb2 : Below V1.heap.size V1 V2 := by rw [← hV2]; exact (Below.refl _ _).alloc (Nat.le_refl _) _
          have kT : Blk V2 V1.heap.size #[.int .i64 p, .int .i64 q] := by rw [← hV2]; exact Blk.new V1 _ _
          rw [hV2]
          have hb12 : Below wr.heap.size wr V2 := HB'.out.trans (hb2.mono HB'.out.size)
          have own2 := own_kp OWN.out (kp_of hb12 (fun _ => False)) (fun _ _ x => x)
          obtain ⟨ava, avc, rfl⟩ := own_slice own2
          have kS2 := KSR.out.call hb12
          have kE2 := KE.out.call hb2
          obtain ⟨lS2, cS2, fS2⟩ := id kS2
          obtain ⟨lE2, cE2, -⟩ := id kE2
          obtain ⟨lT2, cT2, -⟩ := id kT
          obtain ⟨i1, hj0, hj1, hj2, hj3⟩ := infoSeen
          have hbVb : Below V2.heap.size V2 (V2.alloc (.cells #[.int .i64 u.x, .int .i64 u.y, .int .i64 u.owner, .int .i64 u.kind, .int .i64 u.hp, .int .i64 u.does, .int .i64 u.gx, .int .i64 u.gy, .int .i64 p, .int .i64 q] 136)) := (Below.refl _ _).alloc (Nat.le_refl _) _
          have hVs := hb12.size
          have oB := own_kp own2 (kp_of hbVb (fun _ => False)) (fun _ _ x => x)
          have hlen : ((g.us.take k).map (seenF g.us)).length = k := by rw [List.length_map, List.length_take]; omega
          obtain ⟨g2, cap, w5, r5, own5, grow5, hat5, lt5⟩ := run_append_lies (P := Try.prog) (V2.alloc (.cells #[.int .i64 u.x, .int .i64 u.y, .int .i64 u.owner, .int .i64 u.kind, .int .i64 u.hp, .int .i64 u.does, .int .i64 u.gx, .int .i64 u.gy, .int .i64 p, .int .i64 q] 136)) 59 59 V.heap.size 136 i1 _ 10 80 Try.underlying59 hj0 hj1 hj2 hj3 rfl (by omega) (.slice ava k avc) k (seenAll ((g.us.take k).map (seenF g.us))) oB ⟨V2.heap.size, 0, none⟩ 1 1 (encSn ⟨u.x, u.y, u.owner, u.kind, u.hp, u.does, u.gx, u.gy, p, q⟩) rfl (World.news_of_block (cs := #[.int .i64 u.x, .int .i64 u.y, .int .i64 u.owner, .int .i64 u.kind, .int .i64 u.hp, .int .i64 u.does, .int .i64 u.gx, .int .i64 u.gy, .int .i64 p, .int .i64 q]) (t := 136) (fr := (0, 0)) (heap_alloc_new V2 _)) (encSn_one _) (by omega) (by unfold maxLen; omega) (by omega) (by have := hbVb.size; omega) (V2.heap.size + 1) (by simp)
          have avB : ∀ b, (Value.slice ava k avc).ownBlock = some b → V.heap.size ≤ b := fun b hb => (World.ownsRow.lt OWN.out b hb).1
          have kg := Kp.grown grow5
          have kbb := kS2.call hbVb
          have kS5 := kbb.kp kg (fun e => by have := avB pS e.symm; omega)
          obtain ⟨lS5, cS5, fS5⟩ := id kS5
          have HB12 := Lib.hid hb12
          have HBVB := Lib.hid hbVb
          have OWN5 := Lib.hid own5
          have KG := Lib.hid kg
          have KS5 := Lib.hid kS5
          have AVB := Lib.hid avB
          clear hj0 hj1 hj2 hj3 hbVb oB own5 grow5 hat5 kg kbb kS5 own2 kS2 kE2 kT hb12 hb2 avB mr q0 q1 q2 q3 q4 q5 q6 q7 q8 q9 q10 lE cE
          go_wp2_with (at_builtin; refine list_run_append (by rfl) _ _ _ _ (by rfl) (by rfl) (by rfl) (by rfl) r5 ?_)
          go_roundw
          case rel =>
            have kp5 := ((((KPR.out.then_ HB12.out).then_ HBVB.out).trans KG.out (fun c hc e => absurd (AVB.out c e.symm) (by have := KPR.out.size; omega)))).andset ⟨pS, 3, none⟩ (.slice (some ⟨g2, 0, none⟩) (k + 1) cap) rfl
            refine ⟨k + 1, by go_num, by omega, ⟨.slice (some ⟨g2, 0, none⟩) (k + 1) cap, ?_, ?_⟩, kp5⟩
            · have := KS5.out.store (.slice (some ⟨g2, 0, none⟩) (k + 1) cap) (i := 3) (by simp)
              simpa using this
            · rw [seen_succ g.us k hlt u HU'.out, seenAll_append]
              have e : seenAll [seenF g.us u] = encSn ⟨u.x, u.y, u.owner, u.kind, u.hp, u.does, u.gx, u.gy, p, q⟩ := by
                unfold seenAll seenF
                rw [HP.out, HQ.out]
                simp
              rw [e]
              refine own_kp OWN5.out (Kp.setCell _ ⟨pS, 3, none⟩ _) (fun b hb e => ?_)
              have h1 := (World.ownsRow.lt OWN5.out b hb).1
              have h2 : b = pS := e
              omega
          case measure => simp [intOf]; omega
        · obtain rfl : k = g.us.length := by omega
          obtain ⟨⟨av, kSr, own⟩, kpr⟩ := HY.out
          rw [List.take_length] at own
          have hszr := kpr.size
          obtain ⟨lSr, cSr, -⟩ := id kSr
          have hln : (g.us.map (seenF g.us)).length = g.us.length := List.length_map ..
          have own' : wr.ownsRow V.heap.size 136 10 av (g.us.map (seenF g.us)).length (seenAll (g.us.map (seenF g.us))) := by rw [hln]; exact own
          have HSO := sorted_any V.heap.size av (g.us.map (seenF g.us)) (by omega) wr own'
          have HK2 := Lib.hid (K2V.out.kp kpr (by omega))
          have KPR := Lib.hid kpr
          have KSR := Lib.hid kSr
          have avB : ∀ b, av.ownBlock = some b → V.heap.size ≤ b := fun b hb => (World.ownsRow.lt own b hb).1
          have AVB := Lib.hid avB
          have HSO' := Lib.hid HSO
          clear kSr own kpr HY hln own' HSO avB hlt
          go_wp2_with fail
          refine (HSO'.out).mono ?_
          rintro e w5 ⟨a, c, ys, rfl, rfl, hyl, hperm, hsort, hrow, kp5⟩
          have kS5 := KSR.out.kp kp5 (fun e => by have := AVB.out pS e; omega)
          have k25 := HK2.out.kp kp5 (fun e => by have := AVB.out _ e; omega)
          have hb5 : Below w.heap.size w w5 := ((HB1.out.trans (BV.out.mono hs1)).trans (KPR.out.below (fun b hb => (by have h8 : b = pS := hb; omega)) (by omega))).trans (kp5.below (fun b hb => (by have := AVB.out b hb; omega)) (by omega))
          rw [List.length_map] at hyl kS5
          obtain ⟨lS5, cS5, fS5⟩ := id kS5
          obtain ⟨l25, c25, f25⟩ := id k25
          have hS2 : pS ≠ w.heap.size + 1 := by omega
          have k26 := k25.other (T := pS) (i := 3) (v := .slice a g.us.length c) hS2
          have HK26 := Lib.hid k26
          have HB5 := Lib.hid hb5
          have HPM := Lib.hid hperm
          have HSR := Lib.hid hsort
          have HYL := Lib.hid hyl
          have HRW := Lib.hid hrow
          have hHs : (g.us.map (seenF g.us)).length = g.us.length := List.length_map ..
          rw [hHs]
          clear hHs kS5 k25 hb5 hperm hsort hyl hrow k26 kp5
          go_wp2_with fail
          refine bodyPost_ret (v := .tuple #[.agg #[.int .i64 g.tick, .int .i64 g.g0, .int .i64 g.g1, .slice a g.us.length c], .nilIface]) (ret_pair Try.results33 rfl rfl (HK26.out.store4 rfl (.int .i64 g.tick) (.int .i64 g.g0) (.int .i64 g.g1) (.slice a g.us.length c)) Try.underlying61 rfl infoView) rfl ?_
          have XK := (((((Kp.refl (fun b => b = pS ∨ b = w.heap.size + 1) w5).andset ⟨pS, 3, none⟩ (.slice a g.us.length c) (Or.inl rfl)).andset ⟨w.heap.size + 1, 0, none⟩ (.int .i64 g.tick) (Or.inr rfl)).andset ⟨w.heap.size + 1, 1, none⟩ (.int .i64 g.g0) (Or.inr rfl)).andset ⟨w.heap.size + 1, 2, none⟩ (.int .i64 g.g1) (Or.inr rfl)).andset ⟨w.heap.size + 1, 3, none⟩ (.slice a g.us.length c) (Or.inr rfl)
          refine ⟨HB5.out.trans (XK.below (fun b hb => by omega) HB5.out.size), Or.inr ⟨HFA.out, a, c, ys, rfl, HYL.out, HPM.out, HSR.out, ?_⟩⟩
          refine (SRow.kp HRW.out XK (Nat.le_refl _) (n := (List.map (seenF g.us) g.us).length) (c := c) (fun b hb hx => ?_)).mono XK.size
          have h1 := AVB.out b hb
          omega
end Go.Proofs.Ytlfljlhppigejab
