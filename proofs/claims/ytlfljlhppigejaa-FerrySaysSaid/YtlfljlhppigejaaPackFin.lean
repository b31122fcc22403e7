/-
  The law FerrySays: any state, any tape. (Printed by gen_ferlaw.py.) What a tape that reads as data looks like in memory: without since, with its ticks' capacities. (Printed by gen_openfer.py.)
-/
import Derived.Test.YtlfljlhppigejaaFerSame
import Derived.Test.YtlfljlhppigejaaPackFerE
import Derived.Test.YtlfljlhppigejaaPackLaw
import Derived.Test.YtlfljlhppigejaaPackOpen
import Derived.Test.YtlfljlhppigejaaFerTrans
namespace Go.Proofs.Ytlfljlhppigejaa
open Go.RowKit
attribute [local go_sem] qOne qAt qUp qOneK

set_option maxHeartbeats 12800000 in
set_option maxRecDepth 100000 in
theorem ferry_law (g t : G) (fa ua fb ub tb : Option Addr) (cf cu cg cv ct : Nat) (ts : List (List Cm)) (n : Int) (hsg : sinceless g) (hst : sinceless t) (htl : ts.length ≤ maxLen) (hcap : ts.length ≤ ct) (hfg : ∀ n ∈ g.free, Fits64 n) (hft : ∀ n ∈ t.free, Fits64 n) (hci : ∀ l ∈ ts, ∀ c ∈ l, (Lit.int .i64 c.id).wf = true ∧ (Lit.int .i64 c.target).wf = true)
    (w : World) (hrf : Row w.heap.size w fa g.free.length (fun k => .int .i64 (g.free.getD k 0))) (hru : URow false w.heap.size w ua g.us) (hrf2 : Row w.heap.size w fb t.free.length (fun k => .int .i64 (t.free.getD k 0))) (hru2 : URow false w.heap.size w ub t.us) (hrt : TRowC w.heap.size w tb ts) :
    Calls Try.prog 11 #[.agg #[.int .i64 g.tick, .int .i64 g.g0, .int .i64 g.g1, .int .i64 g.next, .slice fa g.free.length cf, .slice ua g.us.length cu], .agg #[.int .i64 t.tick, .int .i64 t.g0, .int .i64 t.g1, .int .i64 t.next, .slice fb t.free.length cg, .slice ub t.us.length cv, .slice tb ts.length ct], .int .i64 n] w (TrueBelow w) := by
  obtain ⟨W, hW⟩ : ∃ W, (w.alloc (.cells #[.int .i64 g.tick, .int .i64 g.g0, .int .i64 g.g1, .int .i64 g.next, .slice fa g.free.length cf, .slice ua g.us.length cu] 90)).alloc (.cells #[.int .i64 t.tick, .int .i64 t.g0, .int .i64 t.g1, .int .i64 t.next, .slice fb t.free.length cg, .slice ub t.us.length cv, .slice tb ts.length ct] 94) = W := ⟨_, rfl⟩
  have hbW : Below w.heap.size w W := by rw [← hW]; exact ((Below.refl _ _).alloc (Nat.le_refl _) _).alloc (by simp) _
  have k1 : Blk W w.heap.size #[.int .i64 g.tick, .int .i64 g.g0, .int .i64 g.g1, .int .i64 g.next, .slice fa g.free.length cf, .slice ua g.us.length cu] := by rw [← hW]; exact (Blk.new w _ _).alloc _
  have k2 : Blk W (w.heap.size + 1) #[.int .i64 t.tick, .int .i64 t.g0, .int .i64 t.g1, .int .i64 t.next, .slice fb t.free.length cg, .slice ub t.us.length cv, .slice tb ts.length ct] := by
    rw [← hW]
    have := Blk.new (w.alloc (.cells #[.int .i64 g.tick, .int .i64 g.g0, .int .i64 g.g1, .int .i64 g.next, .slice fa g.free.length cf, .slice ua g.us.length cu] 90)) #[.int .i64 t.tick, .int .i64 t.g0, .int .i64 t.g1, .int .i64 t.next, .slice fb t.free.length cg, .slice ub t.us.length cv, .slice tb ts.length ct] 94
    simpa using this
  have M0 := Lib.hid (⟨hbW, ⟨k1, (hrf.below hbW).mono hbW.size, (hru.below hbW).mono hbW.size⟩, k2, (fun i hi => absurd hi (Nat.not_lt_zero i)), (hrf2.below hbW).mono hbW.size, (hru2.below hbW).mono hbW.size, (hrt.row.below hbW).mono hbW.size⟩ : HoldE w W g fa ua cf cu [] none t fb ub tb cg cv ct ts)
  have HRT := Lib.hid hrt
  have HSG := Lib.hid hsg
  have HST := Lib.hid hst
  have HFG := Lib.hid hfg
  have HFT := Lib.hid hft
  have HTL := Lib.hid htl
  have HCI := Lib.hid hci
  clear hbW k1 k2 hrf hru hrf2 hru2 hrt hsg hst hfg hft htl hci
  go_enter Try.func11, Try.ntmps11
  go_upto_region 1 with fail
  try rw [hW]
  clear hW
  go_wp2_with fail
  refine (carries_any _).mono ?_
  rintro e x1 ⟨rfl, b1⟩
  have M1 := Lib.hid (M0.out.call b1)
  clear b1
  have cE := M1.out.sv.blk.cell
  have lE := M1.out.sv.blk.lt
  have cT := M1.out.kT.cell
  have lT := M1.out.kT.lt
  go_wp2_with fail
  refine (lightelder_any g fa ua cf cu _).mono ?_
  rintro e x2 ⟨LB, rfl, hLB, bx⟩
  have M2 := Lib.hid (M1.out.call bx)
  clear bx
  clear cE lE cT lT
  have cE := M2.out.sv.blk.cell
  have lE := M2.out.sv.blk.lt
  have cT := M2.out.kT.cell
  have lT := M2.out.kT.lt
  by_cases hl : g.us.length ≤ 25 ∧ g.free.length ≤ 220
  case neg =>
    obtain rfl : LB = false := by cases LB; rfl; exact absurd (hLB.1 rfl) hl
    clear hLB hl
    go_wp2_with fail
    go_ret
    exact ⟨rfl, M2.out.bel⟩
  obtain rfl : LB = true := hLB.2 hl
  clear hLB
  obtain ⟨hl1, hl2⟩ := hl
  go_wp2_with fail
  refine (light_any t fb ub tb cg cv ct ts HTL.out _ M2.out.rt).mono ?_
  rintro e x3 ⟨LT, rfl, hLT, bx⟩
  have M3 := Lib.hid (M2.out.call bx)
  clear bx
  clear cE lE cT lT
  have cE := M3.out.sv.blk.cell
  have lE := M3.out.sv.blk.lt
  have cT := M3.out.kT.cell
  have lT := M3.out.kT.lt
  cases LT with
  | false =>
    clear hLT
    go_wp2_with fail
    go_ret
    exact ⟨rfl, M3.out.bel⟩
  | true =>
  have HL := Lib.hid (hLT rfl)
  clear hLT
  go_wp2_with fail
  refine (ownelder_any g fa ua cf cu (by omega) (by omega) _ M3.out.sv.rf M3.out.sv.ru).mono ?_
  rintro e x4 ⟨g3, cap3, g2, cap2, rfl, bx, ro, rp, -, -⟩
  have M4 := Lib.hid (M3.out.call bx)
  have RO := Lib.hid ro
  have RP := Lib.hid rp
  clear bx ro rp cE lE cT lT
  obtain ⟨F, hF⟩ : ∃ x, carF g = x := ⟨_, rfl⟩
  obtain ⟨CX, hCX⟩ : ∃ x, carX g = x := ⟨_, rfl⟩
  have HF := Lib.hid hF
  have HCX := Lib.hid hCX
  have hcl : CX.us.length ≤ 25 := by rw [← hCX]; exact Nat.le_trans (carX_len g) hl1
  clear hF hCX
  go_wp2_with fail
  refine (carryout_any g (some ⟨g3, 0, none⟩) (some ⟨g2, 0, none⟩) cap3 cap2 HSG.out.1 (by omega) (by omega) _ RO.out RP.out HFG.out).mono ?_
  rintro e x5 ⟨err, hend⟩
  obtain ⟨-, ub1, cb1, he, r1, b5⟩ := carall_prog hend
  rw [HF.out, HCX.out] at he
  rw [HCX.out] at r1
  subst he
  clear hend
  have M5 := Lib.hid (M4.out.call b5)
  have R1 := Lib.hid r1
  clear r1 b5 RO RP
  go_upto_region 5 with fail
  have hba : Below x5.heap.size x5 (x5.alloc (.cells #[.int .i64 CX.tick, .int .i64 CX.g0, .int .i64 CX.g1, .int .i64 CX.next, .slice ub1 CX.us.length cb1] 65)) := (Below.refl _ _).alloc (Nat.le_refl _) _
  refine gen_world (fun V => HoldE w V g fa ua cf cu [] none t fb ub tb cg cv ct ts ∧ Blk V x5.heap.size #[.int .i64 CX.tick, .int .i64 CX.g0, .int .i64 CX.g1, .int .i64 CX.next, .slice ub1 CX.us.length cb1] ∧ URow true V.heap.size V ub1 CX.us) ⟨M5.out.call hba, Blk.new _ _ _, (R1.out.below hba).mono hba.size⟩ ?_
  clear hba
  rintro x6 ⟨m6, ka, ra⟩
  obtain ⟨pA, hpA⟩ : ∃ n, x5.heap.size = n := ⟨_, rfl⟩
  rw [hpA] at ka
  try rw [hpA]
  have M6 := Lib.hid m6
  have KA := Lib.hid ka
  have RA := Lib.hid ra
  clear hpA m6 ka ra M5 R1
  have cE := M6.out.sv.blk.cell
  have lE := M6.out.sv.blk.lt
  have cT := M6.out.kT.cell
  have lT := M6.out.kT.lt
  go_wp2_with fail
  refine (refcarried_any g fa ua cf cu HSG.out (by omega) (by omega) _ M6.out.sv.rf M6.out.sv.ru).mono ?_
  rintro e x7 ⟨f0, hend⟩
  obtain ⟨-, ub2, cb2, he, r2, b7⟩ := carall_ref hend
  rw [HF.out, HCX.out] at he
  rw [HCX.out] at r2
  subst he
  clear hend
  have M7 := Lib.hid (M6.out.call b7)
  have KA7 := Lib.hid (KA.out.call b7)
  have RA7 := Lib.hid ((RA.out.below b7).mono b7.size)
  have R2 := Lib.hid r2
  clear r2 b7 cE lE cT lT M6 KA RA
  go_upto_region 6 with fail
  have hba : Below x7.heap.size x7 (x7.alloc (.cells #[.int .i64 CX.tick, .int .i64 CX.g0, .int .i64 CX.g1, .int .i64 CX.next, .slice ub2 CX.us.length cb2] 65)) := (Below.refl _ _).alloc (Nat.le_refl _) _
  refine gen_world (fun V => HoldE w V g fa ua cf cu [] none t fb ub tb cg cv ct ts ∧ Blk V pA #[.int .i64 CX.tick, .int .i64 CX.g0, .int .i64 CX.g1, .int .i64 CX.next, .slice ub1 CX.us.length cb1] ∧ URow true V.heap.size V ub1 CX.us ∧ Blk V x7.heap.size #[.int .i64 CX.tick, .int .i64 CX.g0, .int .i64 CX.g1, .int .i64 CX.next, .slice ub2 CX.us.length cb2] ∧ URow true V.heap.size V ub2 CX.us) ⟨M7.out.call hba, KA7.out.call hba, (RA7.out.below hba).mono hba.size, Blk.new _ _ _, (R2.out.below hba).mono hba.size⟩ ?_
  clear hba
  rintro x8 ⟨m8, ka, ra, kb, rb⟩
  obtain ⟨pB, hpB⟩ : ∃ n, x7.heap.size = n := ⟨_, rfl⟩
  rw [hpB] at kb
  try rw [hpB]
  have M8 := Lib.hid m8
  have RA := Lib.hid ra
  have RB := Lib.hid rb
  obtain ⟨lA, cA, -⟩ := ka
  obtain ⟨lB, cB, -⟩ := kb
  have ddF : (F == F) = true := by simp
  clear hpB m8 ra rb M7 KA7 RA7 R2
  go_wp2_with fail
  refine (same_any F F _).mono ?_
  rintro e y ⟨rfl, rfl⟩
  rw [ddF]
  go_wp2_with fail
  refine (samenewer_any CX.tick CX.g0 CX.g1 CX.next CX.us ub1 ub2 cb1 cb2 (by omega) _ RA.out RB.out).mono ?_
  rintro e x9 ⟨rfl, b9⟩
  have M9 := Lib.hid (M8.out.call b9)
  clear b9 lA cA lB cB M8 RA RB
  have cE := M9.out.sv.blk.cell
  have lE := M9.out.sv.blk.lt
  have cT := M9.out.kT.cell
  have lT := M9.out.kT.lt
  have htl1 : ts.length ≤ 70 := HL.out.1
  have htf : t.free.length ≤ 220 := HL.out.2.2.2
  have htu : t.us.length ≤ 25 := HL.out.2.2.1
  have HLL : Hid (∀ l ∈ ts, l.length ≤ 100000) := Lib.hid (fun l hl => by
    obtain ⟨k, hk, rfl⟩ := List.getElem_of_mem hl
    have := HL.out.2.1 k hk
    rw [List.getD_eq_getElem?_getD, List.getElem?_eq_getElem hk, Option.getD_some] at this
    omega)
  go_wp2_with fail
  refine (translate_any t fb ub tb cg cv ct HST.out.1 (by omega) (by omega) ts (by omega) hcap HCI.out HFT.out n _ M9.out.rf M9.out.ru ((HRT.out.below M9.out.bel).mono M9.out.bel.size)).mono ?_
  rintro e x10 ⟨f, tt, hU, b10, hbad, hgood⟩
  have HU := Lib.hid hU
  have M10 := Lib.hid (M9.out.call b10)
  have ddf : (f == f) = true := by simp
  have ddt : (tt == tt) = true := by simp
  have ddn : (tt != tt) = false := by simp
  clear hU b10 cE lE cT lT M9
  by_cases hf : f = 0
  case neg =>
    obtain rfl := hbad hf
    have HNE := Lib.hid hf
    have g1 : decide ((0 : Int) < (f : Int)) = true := decide_eq_true (by omega)
    have g2 : decide (0 < f) = true := decide_eq_true (by omega)
    clear hbad hgood hf
    go_upto_region 9 with fail
    refine gen_world (fun V => HoldE w V g fa ua cf cu [] none t fb ub tb cg cv ct ts ∧ Blk V x10.heap.size #[.int .i64 0, .int .i64 0, .int .i64 0, .int .i64 0, .slice none 0 0, .slice none 0 0]) ⟨M10.out.call ((Below.refl _ _).alloc (Nat.le_refl _) _), Blk.new _ _ _⟩ ?_
    rintro x11 ⟨m11, kr⟩
    obtain ⟨pR, hpR⟩ : ∃ n, x10.heap.size = n := ⟨_, rfl⟩
    rw [hpR] at kr
    try rw [hpR]
    have M11 := Lib.hid m11
    have KR := Lib.hid kr
    clear hpR m11 kr M10
    have cT := M11.out.kT.cell
    have lT := M11.out.kT.lt
    go_wp2_with fail
    refine (unfit_any t fb ub tb cg cv ct HST.out (by omega) (by omega) ts (by omega) hcap HLL.out n _ M11.out.rf M11.out.ru M11.out.rt).mono ?_
    rintro e x12 ⟨f', t', rfl, hU', b12⟩
    obtain ⟨rfl, rfl⟩ := HU.out.one hU'
    have M12 := Lib.hid (M11.out.call b12)
    have KR12 := Lib.hid (KR.out.call b12)
    clear hU' b12 cT lT M11 KR
    go_wp2_with fail
    refine (same_any f f _).mono ?_
    rintro e y ⟨rfl, rfl⟩
    rw [ddf]
    have cR := KR12.out.cell
    have lR := KR12.out.lt
    go_wp2_with fail
    refine (samereel_zero _).mono ?_
    rintro e x13 ⟨rfl, b13⟩
    go_wp2_with fail
    go_ret
    exact ⟨rfl, M12.out.bel.trans (b13.mono M12.out.bel.size)⟩
  subst hf
  obtain ⟨X, uc, uk, oa, oc, hX, rfl, own, hticks⟩ := hgood rfl
  have HX := Lib.hid hX
  have OW := Lib.hid own
  have HTK := Lib.hid hticks
  clear hbad hgood hX own hticks
  obtain ⟨ht0, hn01, hR, htt⟩ : tapeFault t ts = 0 ∧ (0 ≤ n ∧ n ≤ (ts.length : Int)) ∧ UnfitR (stateAt t ts) n.toNat ts.length 0 tt ∧ tt = 0 := by
    rcases HU.out with ⟨h1, h2, -⟩ | ⟨-, -, h2, -⟩ | ⟨h0, hb, hR⟩
    · exact absurd h2.symm h1
    · cases h2
    · refine ⟨h0, hb, hR, ?_⟩
      rcases hR with ⟨-, h, -⟩ | ⟨h, -⟩
      · exact h
      · cases h
  subst htt
  obtain ⟨m, rfl⟩ := Int.eq_ofNat_of_zero_le hn01.1
  rw [Int.toNat_natCast] at hR HX HTK
  try rw [Int.toNat_natCast]
  have hml : m ≤ ts.length := by omega
  obtain ⟨hxn, hxr, hxp⟩ := tape_right HST.out.1 ht0 hml
  rw [← HX.out] at hxn hxr hxp
  have hxf : fitsB X = true := by
    rcases hR with ⟨-, -, h⟩ | ⟨h, -⟩
    · rw [HX.out]; exact h m (Nat.le_refl _) hml
    · cases h
  have hcF : carF X = 0 := carF_ok ((right_iff X).2 hxr) hxf
  have hcX : carX X = carryG X := by unfold carX; rw [if_pos hcF]
  have hpn : playN t ts (m : Int) = (0, X) := by
    unfold playN
    rw [if_neg (by omega), Int.toNat_natCast, hxp, if_pos rfl]
  have hsx : sinceless X := by rw [HX.out]; exact sinceless_play HST.out _
  have HCF := Lib.hid hcF
  have HCX2 := Lib.hid hcX
  have HPN := Lib.hid hpn
  have HSX := Lib.hid hsx
  have hx20 := hxr.few
  have hx200 := hxr.unfree
  clear hxn hxr hxp hxf hcF hcX hpn hsx hR hn01
  go_upto_region 9 with fail
  refine gen_world (fun V => Below x10.heap.size x10 V ∧ HoldE w V g fa ua cf cu [] none t fb ub tb cg cv ct ts ∧ Blk V x10.heap.size #[.int .i64 X.tick, .int .i64 X.g0, .int .i64 X.g1, .int .i64 ((X.us.length : Int) + 1), .slice uc X.us.length uk, .slice oa (ts.length - m) oc]) ⟨(Below.refl _ _).alloc (Nat.le_refl _) _, M10.out.call ((Below.refl _ _).alloc (Nat.le_refl _) _), Blk.new _ _ _⟩ ?_
  rintro x11 ⟨hba, m11, kr⟩
  obtain ⟨pR, hpR⟩ : ∃ n, x10.heap.size = n := ⟨_, rfl⟩
  have HBA := Lib.hid hba
  rw [hpR] at kr
  try rw [hpR]
  have M11 := Lib.hid m11
  have KR := Lib.hid kr
  clear hpR m11 kr M10 hba
  have cT := M11.out.kT.cell
  have lT := M11.out.kT.lt
  go_wp2_with fail
  refine (unfit_any t fb ub tb cg cv ct HST.out (by omega) (by omega) ts (by omega) hcap HLL.out (m : Int) _ M11.out.rf M11.out.ru M11.out.rt).mono ?_
  rintro e x12 ⟨f', t', rfl, hU', b12⟩
  obtain ⟨rfl, rfl⟩ := HU.out.one hU'
  have M12 := Lib.hid (M11.out.call b12)
  have KR12 := Lib.hid (KR.out.call b12)
  have HBA12 := Lib.hid (HBA.out.trans (b12.mono HBA.out.size))
  clear hU' b12 cT lT M11 KR HBA
  try rw [show ((0 : Nat) : Int) = 0 from rfl]
  have hs := same_any 0 0 x12
  rw [errV_zero] at hs
  replace hs : Calls Try.prog 31 #[.nilIface, .int .i64 0] x12 fun e w' => e = .returned (.bool true) ∧ x12 = w' := hs
  have HS := Lib.hid hs
  have cT := M12.out.kT.cell
  have lT := M12.out.kT.lt
  clear hs
  go_wp2_with fail
  refine HS.out.mono ?_
  rintro e y ⟨rfl, rfl⟩
  go_wp2_with fail
  refine (playall_ref t fb ub tb cg cv ct HST.out (by omega) (by omega) ts (by omega) hcap HLL.out (m : Int) _ M12.out.rf M12.out.ru M12.out.rt).mono ?_
  rintro e x14 hall
  rw [HPN.out] at hall
  replace hall : PlayAll (.int .i64 0) X x12 e x14 := hall
  obtain ⟨fx, fc, ux, uxc, rfl, q1, q2, b14⟩ := hall
  have M14 := Lib.hid (M12.out.call b14)
  have KR14 := Lib.hid (KR12.out.call b14)
  have HBA14 := Lib.hid (HBA12.out.trans (b14.mono HBA12.out.size))
  have Q1 := Lib.hid q1
  have Q2 := Lib.hid q2
  clear q1 q2 b14 cT lT M12 KR12 HBA12
  go_upto_region 15 with fail
  refine gen_world (fun V => Below x14.heap.size x14 V ∧ SV V x14.heap.size X fx ux fc uxc) ⟨(Below.refl _ _).alloc (Nat.le_refl _) _, SV.new Q1.out Q2.out _⟩ ?_
  rintro x15 ⟨b15, sv⟩
  obtain ⟨pV, hpV⟩ : ∃ n, x14.heap.size = n := ⟨_, rfl⟩
  have M15 := Lib.hid (M14.out.call b15)
  have KR15 := Lib.hid (KR14.out.call b15)
  have HBA15 := Lib.hid (HBA14.out.trans (b15.mono HBA14.out.size))
  rw [hpV] at sv
  try rw [hpV]
  have SVX := Lib.hid sv
  have cV := sv.blk.cell
  have lV := sv.blk.lt
  clear hpV sv b15 M14 KR14 HBA14 Q1 Q2
  go_wp2_with fail
  refine (refcarried_any X fx ux fc uxc HSX.out (by omega) (by omega) _ SVX.out.rf SVX.out.ru).mono ?_
  rintro e x16 ⟨f3, hend⟩
  obtain ⟨-, ub3, cb3, he, r3, b16⟩ := carall_ref hend
  rw [HCF.out, HCX2.out] at he
  rw [HCX2.out] at r3
  subst he
  obtain ⟨US, hUS⟩ : ∃ u, (carryG X).us = u := ⟨_, rfl⟩
  have hul : US.length = X.us.length := by rw [← hUS]; exact carryL_length _ _ _
  have own : x10.ownsRow x9.heap.size 130 11 (.slice uc X.us.length uk) X.us.length (cellsAllN US) := by rw [← hUS]; exact OW.out
  rw [← hul] at own
  obtain ⟨vb, vcb, vce, -, hvu, -⟩ := URow.of_ownN own
  cases vce
  have RU3 : Hid (URow true x16.heap.size x16 uc US) := Lib.hid (((hvu.below HBA15.out).mono HBA15.out.size).below b16 |>.mono b16.size)
  rw [hUS] at r3
  have R3 := Lib.hid r3
  obtain ⟨Y, hY⟩ : ∃ y, x16 = y := ⟨_, rfl⟩
  have M16 := Lib.hid (M15.out.call b16)
  have KR16 := Lib.hid (KR15.out.call b16)
  have HBA16 := Lib.hid (HBA15.out.trans (b16.mono HBA15.out.size))
  have hcg : (carryG X).tick = X.tick ∧ (carryG X).g0 = X.g0 ∧ (carryG X).g1 = X.g1 ∧ (carryG X).next = (X.us.length : Int) + 1 := ⟨rfl, rfl, rfl, rfl⟩
  rw [hUS, hul, hcg.1, hcg.2.1, hcg.2.2.1, hcg.2.2.2]
  clear hcg own hvu r3 b16 M15 KR15 HBA15 SVX cV lV OW
  have HUL := Lib.hid hul
  clear hul hUS hY
  go_upto_region 16 with fail
  refine gen_world (fun V => Below x10.heap.size x10 V ∧ HoldE w V g fa ua cf cu [] none t fb ub tb cg cv ct ts ∧ Blk V pR #[.int .i64 X.tick, .int .i64 X.g0, .int .i64 X.g1, .int .i64 ((X.us.length : Int) + 1), .slice uc X.us.length uk, .slice oa (ts.length - m) oc] ∧ Blk V x16.heap.size #[.int .i64 X.tick, .int .i64 X.g0, .int .i64 X.g1, .int .i64 ((X.us.length : Int) + 1), .slice ub3 X.us.length cb3] ∧ URow true V.heap.size V uc US ∧ URow true V.heap.size V ub3 US) (by
    have hba : Below x16.heap.size x16 (x16.alloc (.cells #[.int .i64 X.tick, .int .i64 X.g0, .int .i64 X.g1, .int .i64 ((X.us.length : Int) + 1), .slice ub3 X.us.length cb3] 65)) := (Below.refl _ _).alloc (Nat.le_refl _) _
    exact ⟨HBA16.out.trans (hba.mono HBA16.out.size), M16.out.call hba, KR16.out.call hba, Blk.new _ _ _, (RU3.out.below hba).mono hba.size, (R3.out.below hba).mono hba.size⟩) ?_
  rintro x17 ⟨b17, m17, kr, kw, r1, r2⟩
  obtain ⟨pW, hpW⟩ : ∃ n, x16.heap.size = n := ⟨_, rfl⟩
  rw [hpW] at kw
  try rw [hpW]
  have HBA17 := Lib.hid b17
  have M17 := Lib.hid m17
  have KR17 := Lib.hid kr
  have KW17 := Lib.hid kw
  have Q1 := Lib.hid r1
  have Q2 := Lib.hid r2
  clear hpW b17 m17 kr kw r1 r2 M16 KR16 HBA16 RU3 R3
  have cR := KR17.out.cell
  have lR := KR17.out.lt
  have cW := KW17.out.cell
  have lW := KW17.out.lt
  go_wp2_with fail
  have hsn := samenewer_any X.tick X.g0 X.g1 ((X.us.length : Int) + 1) US uc ub3 uk cb3 (by have := HUL.out; omega) _ Q1.out Q2.out
  rw [HUL.out] at hsn
  refine hsn.mono ?_
  rintro e x18 ⟨rfl, b18⟩
  have M18 := Lib.hid (M17.out.call b18)
  have KR18 := Lib.hid (KR17.out.call b18)
  have HBA18 := Lib.hid (HBA17.out.trans (b18.mono HBA17.out.size))
  clear b18 hsn cR lR cW lW M17 KR17 HBA17 KW17 Q1 Q2
  have cR := KR18.out.cell
  have lR := KR18.out.lt
  have cT := M18.out.kT.cell
  have lT := M18.out.kT.lt
  have gl : (((ts.length - m : Nat) : Int) != (ts.length : Int) - (m : Int)) = false := by simp; omega
  go_upto_region 17 with fail
  clear cR lR cT lT gl ddF ddf ddt ddn
  go_loopw [19] (fun c wr => ∃ k : Nat, c = .int .i64 k ∧ k ≤ ts.length - m ∧ Below x18.heap.size x18 wr) (fun c _ => (ts.length - m - intOf c).toNat)
  case atStart => exact ⟨0, rfl, by omega, Below.refl _ _⟩
  case round =>
    obtain ⟨k, rfl, hk, hb⟩ := hrel
    have MR := Lib.hid (M18.out.call hb)
    have KRR := Lib.hid (KR18.out.call hb)
    have HBR := Lib.hid (HBA18.out.trans (hb.mono HBA18.out.size))
    have HB := Lib.hid hb
    have cR := KRR.out.cell
    have lR := KRR.out.lt
    have cT := MR.out.kT.cell
    have lT := MR.out.kT.lt
    clear hb
    by_cases hlt : k < ts.length - m
    · obtain ⟨b, o, a, c, hoa, hbl, hca⟩ := HTK.out k hlt
      subst hoa
      obtain ⟨b2, o2, la, cl, htb, hbl2, hcb, -, -⟩ := MR.out.rt (m + k) (by omega)
      subst htb
      replace hca := (HBR.out.cell (p := ⟨b, _, none⟩) hbl).trans hca
      have hblr : b < wr.heap.size := Nat.lt_of_lt_of_le hbl HBR.out.size
      obtain ⟨Ln, hLn⟩ : ∃ n, (ts.getD (m + k) []).length = n := ⟨_, rfl⟩
      rw [hLn] at hca hcb
      have dL : ((Ln : Int) != (Ln : Int)) = false := by simp
      have d1 : decide ((k : Int) < ((ts.length - m : Nat) : Int)) = true := decide_eq_true (by omega)
      have d2 : decide (k < ts.length - m) = true := decide_eq_true hlt
      have hpw : IntKind.i64.wrap ((m : Int) + (k : Int)) = ((m + k : Nat) : Int) := by rw [IntWalk.i64_in _ (by omega)]; omega
      have hp0 : (0 : Int) ≤ ((m + k : Nat) : Int) := by omega
      have hp1 : ((m + k : Nat) : Int) < (ts.length : Int) := by omega
      have hp2 : (k : Int) < ((ts.length - m : Nat) : Int) := by omega
      clear hLn hbl
      go_upto_region 21 with fail
      haveI := Cw.ne wr
      have yR : ∀ (x : Cw wr) (j : Nat), x.w.cell? ⟨pR, j, none⟩ = (#[.int .i64 X.tick, .int .i64 X.g0, .int .i64 X.g1, .int .i64 ((X.us.length : Int) + 1), .slice uc X.us.length uk, .slice (some ⟨b, o, none⟩) (ts.length - m) oc] : Array Value)[j]? := fun x j => (x.cell _ _ lR).trans (cR j)
      have yT : ∀ (x : Cw wr) (j : Nat), x.w.cell? ⟨w.heap.size + 1, j, none⟩ = (#[.int .i64 t.tick, .int .i64 t.g0, .int .i64 t.g1, .int .i64 t.next, .slice fb t.free.length cg, .slice ub t.us.length cv, .slice (some ⟨b2, o2, none⟩) ts.length ct] : Array Value)[j]? := fun x j => (x.cell _ _ lT).trans (cT j)
      have ya : ∀ x : Cw wr, x.w.cell? ⟨b, o + k, none⟩ = some (.slice a Ln c) := fun x => (x.cell _ _ hblr).trans hca
      have yb : ∀ x : Cw wr, x.w.cell? ⟨b2, o2 + (m + k), none⟩ = some (.slice la Ln cl) := fun x => (x.cell _ _ hbl2).trans hcb
      have yl : ∀ x : Cw wr, pR < x.w.heap.size ∧ w.heap.size + 1 < x.w.heap.size ∧ b < x.w.heap.size ∧ b2 < x.w.heap.size := fun x => by have := x.le; omega
      refine region_cw (by kernel_rfl) (by kernel_rfl) ?_
      repeat (go_big_quiet_step (fail))
      refine wpQuiet_nil ?_
      intro Z hZ
      have HZ := Lib.hid (HB.out.trans (hZ.mono HB.out.size))
      clear hZ yR yT ya yb yl cR lR cT lT hca hcb
      go_wp2_with fail
      go_roundw
      case rel => exact ⟨k + 1, by go_num, by omega, HZ.out⟩
      case measure => simp [intOf]; omega
    · obtain rfl : k = ts.length - m := by omega
      have d1 : decide (((ts.length - m : Nat) : Int) < ((ts.length - m : Nat) : Int)) = false := decide_eq_false (by omega)
      have d2 : decide (ts.length - m < ts.length - m) = false := decide_eq_false (by omega)
      go_wp2_with fail
      go_ret
      exact ⟨rfl, MR.out.bel⟩
end Go.Proofs.Ytlfljlhppigejaa
namespace Go.Proofs.Ytlfljlhppigejaa
open Go.RowKit
section
variable {H : Type} {enc : TypeId × Value → H} {w : World}
theorem open_ticksC {fuel : Nat} {a : Option Addr} {len cap : Nat} {x : DataW H × List MemPlace} (h : DataW.trod enc Try.prog w 0 (fun _ => true) true fuel 92 [.slice a len cap] = some x) :
    ∀ i, i < len → ∀ b o la n cl, a = some ⟨b, o, none⟩ → w.cell? ⟨b, o + i, none⟩ = some (.slice la n cl) → n ≤ cl := by
  obtain ⟨h1, h2, _, n, h3⟩ := open_rows Try.underlying92 (s := 1) (by kernel_rfl) (by omega) h
  intro i hi b o la n' cl ha hc
  obtain ⟨b', o', cs, h4, h5, h6, h7, y, h8⟩ := h3 i hi
  rw [ha] at h4
  cases h4
  match cs, h6 with
  | [c], _ =>
    have h9 := h7 0 (by omega)
    have h10 : w.cell? ⟨b, o + i, none⟩ = some c := by simpa using h9
    rw [hc] at h10
    cases h10
    exact (open_rows Try.underlying91 (s := 7) (by kernel_rfl) (by omega) h8).1
set_option maxRecDepth 100000 in
theorem open_tapeCap {c0 c1 c2 c3 c4 c5 : Value} {ta : Option Addr} {nt ct : Nat} {d : DataW H} {p : List MemPlace} (h : DataW.Trod enc Try.prog w 0 (fun _ => true) true 94 (.agg #[c0, c1, c2, c3, c4, c5, .slice ta nt ct]) d p) :
    ∀ i, i < nt → ∀ b o la n cl, ta = some ⟨b, o, none⟩ → w.cell? ⟨b, o + i, none⟩ = some (.slice la n cl) → n ≤ cl := by
  obtain ⟨m, hm⟩ := h
  obtain ⟨xs, n, -, -, -, hxl, hf⟩ := DataW.trod_struct Try.underlying94 hm
  have hx2 : xs.length = 2 := hxl
  have g1 := (field_cells (hf 1 _ rfl) 92 6 1 rfl rfl (by kernel_rfl)).trans (List.getElem?_eq_getElem (by omega))
  have g1' : DataW.trod enc Try.prog w 0 (fun _ => true) true n 92 [.slice ta nt ct] = _ := g1
  exact open_ticksC g1'
set_option maxRecDepth 100000 in
theorem open_tapeC {base : Nat} {r : Reach} {v : Value} {d : DataW H} {p : List MemPlace} (hv : Value.okWide Try.prog w r base 94 v) (h : DataW.Trod enc Try.prog w 0 (fun _ => true) true 94 v d p) :
    ∃ (g : G) (fa ua ta : Option Addr) (cf cu ct : Nat) (ts : List (List Cm)), sinceless g ∧ v = .agg #[.int .i64 g.tick, .int .i64 g.g0, .int .i64 g.g1, .int .i64 g.next, .slice fa g.free.length cf, .slice ua g.us.length cu, .slice ta ts.length ct] ∧ g.free.length ≤ maxLen ∧ g.us.length ≤ maxLen ∧ ts.length ≤ maxLen ∧ ts.length ≤ ct ∧
      Row w.heap.size w fa g.free.length (fun k => .int .i64 (g.free.getD k 0)) ∧ URow false w.heap.size w ua g.us ∧ TRowC w.heap.size w ta ts ∧ (∀ n ∈ g.free, Fits64 n) ∧ ∀ l ∈ ts, ∀ c ∈ l, (Lit.int .i64 c.id).wf = true ∧ (Lit.int .i64 c.target).wf = true := by
  obtain ⟨g, fa, ua, ta, cf, cu, ct, ts, hnew, rfl, hfl, hul, htl, hcp, hf, hu, ht, hfit, hcf⟩ := open_tapeF hv h
  have hcap := open_tapeCap h
  refine ⟨backG false g, fa, ua, ta, cf, cu, ct, ts, sinceless_back g, ?_, hfl, by show (g.us.map _).length ≤ _; rw [List.length_map]; exact hul, htl, hcp, hf, urow_old hu, fun i hi => ?_, hfit.2.2.2.2.1, fun l hl c hc => ?_⟩
  · show _ = Value.agg #[.int .i64 g.tick, .int .i64 g.g0, .int .i64 g.g1, .int .i64 g.next, .slice fa g.free.length cf, .slice ua (g.us.map (backU false)).length cu, .slice ta ts.length ct]
    rw [List.length_map]
  · obtain ⟨b, o, la, cl, h1, h2, h3, h4, h5⟩ := ht i hi
    exact ⟨b, o, la, cl, h1, h2, h3, h4, h5, hcap i hi b o la _ cl h1 h3⟩
  · have h1 := hcf l hl c hc
    exact ⟨wf_int h1.2.2.1, wf_int h1.2.2.2.2.2.2⟩
end
end Go.Proofs.Ytlfljlhppigejaa
