/-
  The law ViewSays: any states, any views; the elder one is not right. (Printed by gen_viewlaw.py.)
-/
import Derived.Test.YtlfljlhppigejabPackVof
import Derived.Test.YtlfljlhppigejabPackVw
import Derived.Test.YtlfljlhppigejabPackLite
import Derived.Test.YtlfljlhppigejabOwnAll
import Derived.Test.YtlfljlhppigejabPackSame
import Derived.Test.YtlfljlhppigejabPackMark
import Derived.Test.YtlfljlhppigejabPackMix
namespace Go.Proofs.Ytlfljlhppigejab
open Go.RowKit
attribute [local go_sem] qOne qAt qUp qOneK

set_option maxHeartbeats 12800000 in
set_option maxRecDepth 100000 in
theorem views_bg (g h : G) (fa ua va aa ba : Option Addr) (cf cu cv ca cb : Nat) (ta a0 a1 tb b0 b1 : Int) (xs ys : List Sn) (hgn : g.new = false) (hhn : h.new = true) (hhf : h.free = []) (hgl : g.us.length ≤ 9223372036854775807) (hgf : g.free.length ≤ 9223372036854775807) (hgfit : ∀ n ∈ g.free, Fits64 n)
    (hE0 : faultOf g ≠ 0) (hN0 : faultOf h = 0) (w : World) (hrf : Row w.heap.size w fa g.free.length (fun k => .int .i64 (g.free.getD k 0))) (hru : URow false w.heap.size w ua g.us) (hrv : URow true w.heap.size w va h.us) (hra : SRow w.heap.size w aa xs) (hrb : SRow w.heap.size w ba ys) :
    Calls Try.prog 4 #[.agg #[.int .i64 g.tick, .int .i64 g.g0, .int .i64 g.g1, .int .i64 g.next, .slice fa g.free.length cf, .slice ua g.us.length cu], .agg #[.int .i64 h.tick, .int .i64 h.g0, .int .i64 h.g1, .int .i64 h.next, .slice va h.us.length cv], .agg #[.int .i64 ta, .int .i64 a0, .int .i64 a1, .slice aa xs.length ca], .agg #[.int .i64 tb, .int .i64 b0, .int .i64 b1, .slice ba ys.length cb]] w (TrueBelow w) := by
  obtain ⟨W, hW⟩ : ∃ W, (((w.alloc (.cells #[.int .i64 g.tick, .int .i64 g.g0, .int .i64 g.g1, .int .i64 g.next, .slice fa g.free.length cf, .slice ua g.us.length cu] 26)).alloc (.cells #[.int .i64 h.tick, .int .i64 h.g0, .int .i64 h.g1, .int .i64 h.next, .slice va h.us.length cv] 32)).alloc (.cells #[.int .i64 ta, .int .i64 a0, .int .i64 a1, .slice aa xs.length ca] 61)).alloc (.cells #[.int .i64 tb, .int .i64 b0, .int .i64 b1, .slice ba ys.length cb] 61) = W := ⟨_, rfl⟩
  have M0 := Lib.hid (show HoldV w W g h fa ua va aa ba cf cu cv ca cb ta a0 a1 tb b0 b1 xs ys from by rw [← hW]; exact HoldV.start _ _ _ hrf hru hrv hra hrb)
  have HGF := Lib.hid hgfit
  have HHF := Lib.hid (⟨hhn, hhf⟩ : h.new = true ∧ h.free = [])
  have HGN := Lib.hid hgn
  clear hrf hru hrv hra hrb hgfit hhn hhf hgn
  go_enter Try.func4, Try.ntmps4
  go_upto_region 1 with fail
  try rw [hW]
  clear hW
  go_wp2_with fail
  refine (looks_any _).mono ?_
  rintro e x1 ⟨rfl, b1⟩
  have M1 := Lib.hid (M0.out.call b1)
  clear b1
  have cE := M1.out.kE.cell
  have lE := M1.out.kE.lt
  have cN := M1.out.kN.cell
  have lN := M1.out.kN.lt
  have cA := M1.out.wa.blk.cell
  have lA := M1.out.wa.blk.lt
  have cB := M1.out.wb.blk.cell
  have lB := M1.out.wb.blk.lt
  go_wp2_with fail
  refine (lightelder_any g fa ua cf cu _).mono ?_
  rintro e x2 ⟨LB, rfl, hLB, bx⟩
  have M2 := Lib.hid (M1.out.call bx)
  clear bx
  clear cE lE cN lN cA lA cB lB
  have cE := M2.out.kE.cell
  have lE := M2.out.kE.lt
  have cN := M2.out.kN.cell
  have lN := M2.out.kN.lt
  have cA := M2.out.wa.blk.cell
  have lA := M2.out.wa.blk.lt
  have cB := M2.out.wb.blk.cell
  have lB := M2.out.wb.blk.lt
  by_cases hl : g.us.length ≤ 25 ∧ g.free.length ≤ 220
  case neg =>
    obtain rfl : LB = false := by cases LB; rfl; exact absurd (hLB.1 rfl) hl
    clear hLB hl
    go_wp2_with fail
    go_ret
    exact ⟨rfl, M2.out.bel⟩
  obtain rfl : LB = true := hLB.2 hl
  clear hLB
  obtain ⟨hl1, hl2⟩ := hl
  by_cases qdv : h.us.length ≤ 25
  case neg =>
    have dv : decide ((25 : Int) < (h.us.length : Int)) = true := decide_eq_true (by omega)
    have HQ := Lib.hid qdv
    clear qdv
    go_wp2_with fail
    go_ret
    exact ⟨rfl, M2.out.bel⟩
  have dv : decide ((25 : Int) < (h.us.length : Int)) = false := decide_eq_false (by omega)
  by_cases qdx : xs.length ≤ 40
  case neg =>
    have dx : decide ((40 : Int) < (xs.length : Int)) = true := decide_eq_true (by omega)
    have HQ := Lib.hid qdx
    clear qdx
    go_wp2_with fail
    go_ret
    exact ⟨rfl, M2.out.bel⟩
  have dx : decide ((40 : Int) < (xs.length : Int)) = false := decide_eq_false (by omega)
  by_cases qdy : ys.length ≤ 40
  case neg =>
    have dy : decide ((40 : Int) < (ys.length : Int)) = true := decide_eq_true (by omega)
    have HQ := Lib.hid qdy
    clear qdy
    go_wp2_with fail
    go_ret
    exact ⟨rfl, M2.out.bel⟩
  have dy : decide ((40 : Int) < (ys.length : Int)) = false := decide_eq_false (by omega)
  obtain ⟨fE, hfE⟩ : ∃ x, faultOf g = x := ⟨_, rfl⟩
  rw [hfE] at hE0
  have HFBLE := Lib.hid ((fault_back false g HGN.out (fun e => (by cases e))).trans hfE)
  have H0LE := Lib.hid (⟨hfE, hE0⟩ : faultOf g = fE ∧ fE ≠ 0)
  have e1fE : decide ((0 : Int) < (fE : Int)) = true := decide_eq_true (by omega)
  have e2fE : decide (0 < fE) = true := decide_eq_true (by omega)
  have e3fE : ((fE : Int) == 0) = false := by simp; omega
  have e4fE : (fE == 0) = false := by simp; omega
  have e5fE : decide ((fE : Int) = 0) = false := decide_eq_false (by omega)
  have e6fE : decide (fE = 0) = false := decide_eq_false (by omega)
  clear hfE hE0
  have HFBLN := Lib.hid ((fault_back true h HHF.out.1 (fun _ => HHF.out.2)).trans hN0)
  have H0LN := Lib.hid hN0
  clear hN0
  go_wp2_with fail
  refine (ownelder_any g fa ua cf cu (by omega) (by omega) _ M2.out.rf M2.out.ru).mono ?_
  rintro e x3 ⟨g3, cap3, g2, cap2, rfl, bx, ro, rp, hc3, hc2⟩
  have RO := Lib.hid ro
  have RP := Lib.hid rp
  clear ro rp
  have M3 := Lib.hid (M2.out.call bx)
  clear cE lE cN lN cA lA cB lB
  have cE := M3.out.kE.cell
  have lE := M3.out.kE.lt
  have cN := M3.out.kN.cell
  have lN := M3.out.kN.lt
  have cA := M3.out.wa.blk.cell
  have lA := M3.out.wa.blk.lt
  have cB := M3.out.wb.blk.cell
  have lB := M3.out.wb.blk.lt
  clear bx
  go_wp2_with fail
  refine (view_any g (some ⟨g3, 0, none⟩) (some ⟨g2, 0, none⟩) cap3 cap2 HGN.out (by omega) (by omega) _ RO.out RP.out HGF.out).mono ?_
  rintro e x4 hve
  obtain ⟨vt, v0, v1, vA, vc, vL, rfl, hrv, vfew, bx, hveq⟩ := hve.bad H0LE.out.1 H0LE.out.2
  have HRV := Lib.hid hrv
  have HQLE := Lib.hid hveq
  clear hve hrv hveq RO RP
  have M4 := Lib.hid (M3.out.call bx)
  clear cE lE cN lN cA lA cB lB
  have cE := M4.out.kE.cell
  have lE := M4.out.kE.lt
  have cN := M4.out.kN.cell
  have lN := M4.out.kN.lt
  have cA := M4.out.wa.blk.cell
  have lA := M4.out.wa.blk.lt
  have cB := M4.out.wb.blk.cell
  have lB := M4.out.wb.blk.lt
  clear bx
  go_upto_region 5 with fail
  refine gen_world (fun V => HoldV w V g h fa ua va aa ba cf cu cv ca cb ta a0 a1 tb b0 b1 xs ys ∧ VV V x4.heap.size vt v0 v1 vA vc vL) ⟨M4.out.call ((Below.refl _ _).alloc (Nat.le_refl _) _), VV.new HRV.out _⟩ ?_
  rintro x5 ⟨m5, sw⟩
  obtain ⟨pV, hp⟩ : ∃ n, x4.heap.size = n := ⟨_, rfl⟩
  rw [hp] at sw
  try rw [hp]
  clear hp
  clear cE lE cN lN cA lA cB lB
  clear M4 HRV
  have M5 := Lib.hid m5
  have S5 := Lib.hid sw
  clear m5 sw
  have cE := M5.out.kE.cell
  have lE := M5.out.kE.lt
  have cN := M5.out.kN.cell
  have lN := M5.out.kN.lt
  have cA := M5.out.wa.blk.cell
  have lA := M5.out.wa.blk.lt
  have cB := M5.out.wb.blk.cell
  have lB := M5.out.wb.blk.lt
  go_wp2_with fail
  refine (ofelder_any g fa ua cf cu (by omega) (by omega) _ M5.out.rf M5.out.ru).mono ?_
  rintro e x6 ⟨S5g, fv, uv, rfl, gr, bx⟩
  have GRH := Lib.hid gr
  clear gr
  have M6 := Lib.hid (M5.out.call bx)
  have S6 := Lib.hid (S5.out.call bx)
  clear cE lE cN lN cA lA cB lB
  have cE := M6.out.kE.cell
  have lE := M6.out.kE.lt
  have cN := M6.out.kN.cell
  have lN := M6.out.kN.lt
  have cA := M6.out.wa.blk.cell
  have lA := M6.out.wa.blk.lt
  have cB := M6.out.wb.blk.cell
  have lB := M6.out.wb.blk.lt
  clear bx
  go_wp2_with fail
  refine (fault_game GRH.out (by show g.free.length ≤ 100000; omega) (by simp [backG]; omega)).mono ?_
  rintro e x7 ⟨rfl, bx⟩
  rw [HFBLE.out]
  have M7 := Lib.hid (M6.out.call bx)
  have S7 := Lib.hid (S6.out.call bx)
  clear cE lE cN lN cA lA cB lB
  have cE := M7.out.kE.cell
  have lE := M7.out.kE.lt
  have cN := M7.out.kN.cell
  have lN := M7.out.kN.lt
  have cA := M7.out.wa.blk.cell
  have lA := M7.out.wa.blk.lt
  have cB := M7.out.wb.blk.cell
  have lB := M7.out.wb.blk.lt
  clear bx
  clear GRH
  go_upto_region 6 with fail
  refine gen_world (fun V => HoldV w V g h fa ua va aa ba cf cu cv ca cb ta a0 a1 tb b0 b1 xs ys ∧ VV V pV vt v0 v1 vA vc vL) ⟨M7.out, S7.out⟩ ?_
  rintro V ⟨mV, sV⟩
  clear cE lE cN lN cA lA cB lB
  clear M7 S7
  have MV := Lib.hid mV
  have SV := Lib.hid sV
  clear mV sV
  haveI := Kw.ne (fun _ => False) V
  have cE := MV.out.kE.cell
  have lE := MV.out.kE.lt
  have kxE : ∀ (x : Kw (fun _ => False) V) (o : Nat), x.w.cell? ⟨w.heap.size, o, none⟩ = V.cell? ⟨w.heap.size, o, none⟩ := fun x o => x.cell _ _ lE (fun h => h)
  have cN := MV.out.kN.cell
  have lN := MV.out.kN.lt
  have kxN : ∀ (x : Kw (fun _ => False) V) (o : Nat), x.w.cell? ⟨w.heap.size + 1, o, none⟩ = V.cell? ⟨w.heap.size + 1, o, none⟩ := fun x o => x.cell _ _ lN (fun h => h)
  have cA := MV.out.wa.blk.cell
  have lA := MV.out.wa.blk.lt
  have kxA : ∀ (x : Kw (fun _ => False) V) (o : Nat), x.w.cell? ⟨w.heap.size + 2, o, none⟩ = V.cell? ⟨w.heap.size + 2, o, none⟩ := fun x o => x.cell _ _ lA (fun h => h)
  have cB := MV.out.wb.blk.cell
  have lB := MV.out.wb.blk.lt
  have kxB : ∀ (x : Kw (fun _ => False) V) (o : Nat), x.w.cell? ⟨w.heap.size + 3, o, none⟩ = V.cell? ⟨w.heap.size + 3, o, none⟩ := fun x o => x.cell _ _ lB (fun h => h)
  have cV := SV.out.blk.cell
  have lV := SV.out.blk.lt
  have kxV : ∀ (x : Kw (fun _ => False) V) (o : Nat), x.w.cell? ⟨pV, o, none⟩ = V.cell? ⟨pV, o, none⟩ := fun x o => x.cell _ _ lV (fun h => h)
  have HBK := Lib.hid (fun (x : World) (h : Kp (fun _ => False) V x) => (h.below (fun _ h => h.elim) (Nat.le_refl _) : Below V.heap.size V x))
  refine region_mix 25 [(false, 0), (false, 1), (true, 2), (false, 3), (false, 4), (false, 5), (false, 6), (false, 7), (false, 8), (false, 9), (false, 10), (false, 11), (false, 12), (false, 13), (false, 14), (false, 15), (false, 16), (false, 17), (false, 18), (false, 19), (false, 20), (false, 21), (true, 22), (false, 23), (false, 24)] (kcl (fun _ => False) V (fun _ => True) (fun _ _ _ _ => trivial)) ⟨Kp.drew _ _, trivial⟩ (by kernel_rfl) (by kernel_rfl) ?_
  simp only [stepsOf, List.filterMap_cons, List.filterMap_nil, List.getElem?_toArray, List.getElem?_cons_zero, List.getElem?_cons_succ, Option.map_some, List.drop_succ_cons, List.drop_zero]
  iterate 2 (refine mix_readK (fun K hK => ?_); go_simp; refine hK _ ?_; clear hK K)
  refine mix_call (ι := Unit) (fun _ => .bool true) (fun _ => kcl (fun _ => False) V (fun _ => True) (fun _ _ _ _ => trivial)) 13 #[errV fE, .int .i64 (fE : Nat)] rfl (fun x => by simp [go_sem]) (fun x hx => ?_) (fun _ => ?_)
  · have hb := HBK.out x hx.1
    refine (same_self fE x).mono ?_
    rintro e x' ⟨rfl, rfl⟩
    exact ⟨(), rfl, hx.1, trivial⟩
  iterate 19 (refine mix_readK (fun K hK => ?_); go_simp; refine hK _ ?_; clear hK K)
  refine mix_call (ι := Unit) (fun _ => .bool true) (fun _ => kcl (fun _ => False) V (fun _ => True) (fun _ _ _ _ => trivial)) 31 #[.agg #[.int .i64 vt, .int .i64 v0, .int .i64 v1, .slice vA vL.length vc], .agg #[.int .i64 0, .int .i64 0, .int .i64 0, .slice none 0 0]] rfl (fun x => by simp [go_sem]) (fun x hx => ?_) (fun _ => ?_)
  · have hb := HBK.out x hx.1
    refine (sameview_to vt v0 v1 0 0 0 vL [] vA none vc 0 0 rfl vfew HQLE.out x (SV.out.call hb).row (fun i hi => absurd hi (Nat.not_lt_zero i))).mono ?_
    rintro e x' ⟨rfl, hb'⟩
    exact ⟨(), rfl, hx.1.then_ hb', trivial⟩
  iterate 2 (refine mix_readK (fun K hK => ?_); go_simp; refine hK _ ?_; clear hK K)
  refine mix_nil ?_
  rintro x8 ⟨k9, -⟩
  have M8 := Lib.hid (MV.out.call (HBK.out _ k9))
  have S8 := Lib.hid (SV.out.call (HBK.out _ k9))
  clear cE lE kxE cN lN kxN cA lA kxA cB lB kxB cV lV kxV
  clear k9 HBK MV SV
  have cE := M8.out.kE.cell
  have lE := M8.out.kE.lt
  have cN := M8.out.kN.cell
  have lN := M8.out.kN.lt
  have cA := M8.out.wa.blk.cell
  have lA := M8.out.wa.blk.lt
  have cB := M8.out.wb.blk.cell
  have lB := M8.out.wb.blk.lt
  go_simp
  go_wp2_with fail
  refine (ownnewer_any h va cv (by omega) _ M8.out.rv).mono ?_
  rintro e x9 ⟨g4, cap4, rfl, bx, rp, hc4⟩
  have RQ := Lib.hid rp
  clear rp
  have M9 := Lib.hid (M8.out.call bx)
  have S9 := Lib.hid (S8.out.call bx)
  clear cE lE cN lN cA lA cB lB
  have cE := M9.out.kE.cell
  have lE := M9.out.kE.lt
  have cN := M9.out.kN.cell
  have lN := M9.out.kN.lt
  have cA := M9.out.wa.blk.cell
  have lA := M9.out.wa.blk.lt
  have cB := M9.out.wb.blk.cell
  have lB := M9.out.wb.blk.lt
  clear bx
  go_wp2_with fail
  refine (viewn_any h (some ⟨g4, 0, none⟩) cap4 HHF.out.1 HHF.out.2 (by omega) _ RQ.out (fun e => (by cases e)) hc4).mono ?_
  rintro e x10 hve
  obtain ⟨zt, z0, z1, zA, zc, zL, rfl, hrv, zfew, bx, hveq⟩ := hve.good H0LN.out
  have HRV := Lib.hid hrv
  have HQLN := Lib.hid hveq
  clear hve hrv hveq RQ
  have M10 := Lib.hid (M9.out.call bx)
  have S10 := Lib.hid (S9.out.call bx)
  clear cE lE cN lN cA lA cB lB
  have cE := M10.out.kE.cell
  have lE := M10.out.kE.lt
  have cN := M10.out.kN.cell
  have lN := M10.out.kN.lt
  have cA := M10.out.wa.blk.cell
  have lA := M10.out.wa.blk.lt
  have cB := M10.out.wb.blk.cell
  have lB := M10.out.wb.blk.lt
  clear bx
  go_upto_region 9 with fail
  refine gen_world (fun V => HoldV w V g h fa ua va aa ba cf cu cv ca cb ta a0 a1 tb b0 b1 xs ys ∧ VV V pV vt v0 v1 vA vc vL ∧ VV V x10.heap.size zt z0 z1 zA zc zL) ⟨M10.out.call ((Below.refl _ _).alloc (Nat.le_refl _) _), S10.out.call ((Below.refl _ _).alloc (Nat.le_refl _) _), VV.new HRV.out _⟩ ?_
  rintro x11 ⟨m11, sv, sw⟩
  obtain ⟨pZ, hp⟩ : ∃ n, x10.heap.size = n := ⟨_, rfl⟩
  rw [hp] at sw
  try rw [hp]
  clear hp
  clear cE lE cN lN cA lA cB lB
  clear M10 HRV S10
  have M11 := Lib.hid m11
  have Z11 := Lib.hid sw
  clear m11 sw
  have S11 := Lib.hid sv
  clear sv
  have cE := M11.out.kE.cell
  have lE := M11.out.kE.lt
  have cN := M11.out.kN.cell
  have lN := M11.out.kN.lt
  have cA := M11.out.wa.blk.cell
  have lA := M11.out.wa.blk.lt
  have cB := M11.out.wb.blk.cell
  have lB := M11.out.wb.blk.lt
  go_wp2_with fail
  refine (ofnewer_any h va cv (by omega) _ M11.out.rv).mono ?_
  rintro e x12 ⟨S11g, fv, uv, rfl, gr, bx⟩
  have GRH := Lib.hid gr
  clear gr
  have M12 := Lib.hid (M11.out.call bx)
  have S12 := Lib.hid (S11.out.call bx)
  have Z12 := Lib.hid (Z11.out.call bx)
  clear cE lE cN lN cA lA cB lB
  have cE := M12.out.kE.cell
  have lE := M12.out.kE.lt
  have cN := M12.out.kN.cell
  have lN := M12.out.kN.lt
  have cA := M12.out.wa.blk.cell
  have lA := M12.out.wa.blk.lt
  have cB := M12.out.wb.blk.cell
  have lB := M12.out.wb.blk.lt
  clear bx
  go_wp2_with fail
  refine (fault_game GRH.out (by simp [backG]) (by simp [backG]; omega)).mono ?_
  rintro e x13 ⟨rfl, bx⟩
  rw [HFBLN.out]
  have M13 := Lib.hid (M12.out.call bx)
  have S13 := Lib.hid (S12.out.call bx)
  have Z13 := Lib.hid (Z12.out.call bx)
  clear cE lE cN lN cA lA cB lB
  have cE := M13.out.kE.cell
  have lE := M13.out.kE.lt
  have cN := M13.out.kN.cell
  have lN := M13.out.kN.lt
  have cA := M13.out.wa.blk.cell
  have lA := M13.out.wa.blk.lt
  have cB := M13.out.wb.blk.cell
  have lB := M13.out.wb.blk.lt
  clear bx
  clear GRH
  go_upto_region 10 with fail
  refine gen_world (fun V => HoldV w V g h fa ua va aa ba cf cu cv ca cb ta a0 a1 tb b0 b1 xs ys ∧ VV V pV vt v0 v1 vA vc vL ∧ VV V pZ zt z0 z1 zA zc zL) ⟨M13.out, S13.out, Z13.out⟩ ?_
  rintro V ⟨mV, sV, zV⟩
  clear cE lE cN lN cA lA cB lB
  clear M13 S13 Z13
  have MV := Lib.hid mV
  have SV := Lib.hid sV
  have ZV := Lib.hid zV
  clear mV sV zV
  haveI := Kw.ne (fun _ => False) V
  have cE := MV.out.kE.cell
  have lE := MV.out.kE.lt
  have kxE : ∀ (x : Kw (fun _ => False) V) (o : Nat), x.w.cell? ⟨w.heap.size, o, none⟩ = V.cell? ⟨w.heap.size, o, none⟩ := fun x o => x.cell _ _ lE (fun h => h)
  have cN := MV.out.kN.cell
  have lN := MV.out.kN.lt
  have kxN : ∀ (x : Kw (fun _ => False) V) (o : Nat), x.w.cell? ⟨w.heap.size + 1, o, none⟩ = V.cell? ⟨w.heap.size + 1, o, none⟩ := fun x o => x.cell _ _ lN (fun h => h)
  have cA := MV.out.wa.blk.cell
  have lA := MV.out.wa.blk.lt
  have kxA : ∀ (x : Kw (fun _ => False) V) (o : Nat), x.w.cell? ⟨w.heap.size + 2, o, none⟩ = V.cell? ⟨w.heap.size + 2, o, none⟩ := fun x o => x.cell _ _ lA (fun h => h)
  have cB := MV.out.wb.blk.cell
  have lB := MV.out.wb.blk.lt
  have kxB : ∀ (x : Kw (fun _ => False) V) (o : Nat), x.w.cell? ⟨w.heap.size + 3, o, none⟩ = V.cell? ⟨w.heap.size + 3, o, none⟩ := fun x o => x.cell _ _ lB (fun h => h)
  have cV := SV.out.blk.cell
  have lV := SV.out.blk.lt
  have kxV : ∀ (x : Kw (fun _ => False) V) (o : Nat), x.w.cell? ⟨pV, o, none⟩ = V.cell? ⟨pV, o, none⟩ := fun x o => x.cell _ _ lV (fun h => h)
  have cZ := ZV.out.blk.cell
  have lZ := ZV.out.blk.lt
  have kxZ : ∀ (x : Kw (fun _ => False) V) (o : Nat), x.w.cell? ⟨pZ, o, none⟩ = V.cell? ⟨pZ, o, none⟩ := fun x o => x.cell _ _ lZ (fun h => h)
  have HBK := Lib.hid (fun (x : World) (h : Kp (fun _ => False) V x) => (h.below (fun _ h => h.elim) (Nat.le_refl _) : Below V.heap.size V x))
  refine region_mix 25 [(false, 0), (false, 1), (true, 2), (false, 3), (false, 4), (false, 5), (false, 6), (false, 7), (false, 8), (false, 9), (true, 10), (true, 11), (true, 12), (false, 13), (false, 14), (false, 15), (false, 16), (false, 17), (false, 18), (false, 19), (false, 20), (false, 21), (false, 22), (false, 23), (false, 24)] (kcl (fun _ => False) V (fun _ => True) (fun _ _ _ _ => trivial)) ⟨Kp.drew _ _, trivial⟩ (by kernel_rfl) (by kernel_rfl) ?_
  simp only [stepsOf, List.filterMap_cons, List.filterMap_nil, List.getElem?_toArray, List.getElem?_cons_zero, List.getElem?_cons_succ, Option.map_some, List.drop_succ_cons, List.drop_zero]
  iterate 2 (refine mix_readK (fun K hK => ?_); go_simp; refine hK _ ?_; clear hK K)
  refine mix_call (ι := Unit) (fun _ => .bool true) (fun _ => kcl (fun _ => False) V (fun _ => True) (fun _ _ _ _ => trivial)) 13 #[.nilIface, .int .i64 0] rfl (fun x => by simp [go_sem]) (fun x hx => ?_) (fun _ => ?_)
  · have hb := HBK.out x hx.1
    refine (same_none x).mono ?_
    rintro e x' ⟨rfl, rfl⟩
    exact ⟨(), rfl, hx.1, trivial⟩
  iterate 7 (refine mix_readK (fun K hK => ?_); go_simp; refine hK _ ?_; clear hK K)
  refine mix_call (ι := Nat × Nat × Value × Value) (fun q => .pointer (some ⟨q.2.1, 0, none⟩)) (fun q => kcl (fun _ => False) V (fun x => GR x q.1 q.2.1 (backG true h) [] q.2.2.1 q.2.2.2 (.slice none 0 0)) (fun _ _ h hb => h.call hb)) 35 #[.agg #[.int .i64 h.tick, .int .i64 h.g0, .int .i64 h.g1, .int .i64 h.next, .slice va h.us.length cv]] rfl (fun x => by simp [go_sem]) (fun x hx => ?_) (fun q => ?_)
  · have hb := HBK.out x hx.1
    refine (ofnewer_any h va cv (by omega) x (MV.out.call hb).rv).mono ?_
    rintro e x' ⟨S, fv, uv, rfl, gr, hb'⟩
    exact ⟨(_, S, fv, uv), rfl, hx.1.then_ hb', gr⟩
  refine mix_call (ι := Option Addr × Nat × Nat) (fun q => .agg #[.int .i64 h.tick, .int .i64 h.g0, .int .i64 h.g1, .slice q.1 q.2.2 q.2.1]) (fun q => kcl (fun _ => False) V (fun x => (viewL h.us).length = q.2.2 ∧ SRow x.heap.size x q.1 (viewL h.us)) (fun _ _ h hb => ⟨h.1, (h.2.below hb).mono hb.size⟩)) 32 #[.pointer (some ⟨q.2.1, 0, none⟩)] rfl (fun x => by simp [go_sem]) (fun x hx => ?_) (fun r => ?_)
  · refine (viewof_back H0LN.out hx.2).mono ?_
    rintro e x' ⟨ra, rc, rL, hrL, rfl, rr, hb'⟩
    subst hrL
    exact ⟨(ra, rc, _), rfl, hx.1.then_ hb', rfl, rr⟩
  refine mix_call (ι := Unit) (fun _ => .bool true) (fun _ => kcl (fun _ => False) V (fun _ => True) (fun _ _ _ _ => trivial)) 31 #[.agg #[.int .i64 zt, .int .i64 z0, .int .i64 z1, .slice zA zL.length zc], .agg #[.int .i64 h.tick, .int .i64 h.g0, .int .i64 h.g1, .slice r.1 r.2.2 r.2.1]] rfl (fun x => by simp [go_sem]) (fun x hx => ?_) (fun _ => ?_)
  · have hb := HBK.out x hx.1
    obtain ⟨hrl, hrr⟩ := hx.2
    refine (sameview_to zt z0 z1 h.tick h.g0 h.g1 zL (viewL h.us) zA r.1 zc r.2.1 r.2.2 hrl zfew HQLN.out x (ZV.out.call hb).row hrr).mono ?_
    rintro e x' ⟨rfl, hb'⟩
    exact ⟨(), rfl, hx.1.then_ hb', trivial⟩
  iterate 12 (refine mix_readK (fun K hK => ?_); go_simp; refine hK _ ?_; clear hK K)
  refine mix_nil ?_
  rintro x14 ⟨k9, -⟩
  have M14 := Lib.hid (MV.out.call (HBK.out _ k9))
  have S14 := Lib.hid (SV.out.call (HBK.out _ k9))
  clear cE lE kxE cN lN kxN cA lA kxA cB lB kxB cV lV kxV cZ lZ kxZ
  clear k9 HBK MV SV ZV
  have cE := M14.out.kE.cell
  have lE := M14.out.kE.lt
  have cN := M14.out.kN.cell
  have lN := M14.out.kN.lt
  have cA := M14.out.wa.blk.cell
  have lA := M14.out.wa.blk.lt
  have cB := M14.out.wb.blk.cell
  have lB := M14.out.wb.blk.lt
  go_simp
  go_upto_region 12 with fail
  refine gen_world (fun V => HoldV w V g h fa ua va aa ba cf cu cv ca cb ta a0 a1 tb b0 b1 xs ys ∧ VV V pV vt v0 v1 vA vc vL) ⟨M14.out, S14.out⟩ ?_
  rintro V ⟨mV, sV⟩
  clear cE lE cN lN cA lA cB lB
  clear M14 S14
  have MV := Lib.hid mV
  have SV := Lib.hid sV
  clear mV sV
  obtain ⟨SB, hSB⟩ : ∃ b, sameVw ta a0 a1 tb b0 b1 xs ys = b := ⟨_, rfl⟩
  obtain ⟨MA, hMA⟩ : ∃ n, markF ta a0 a1 xs = n := ⟨_, rfl⟩
  obtain ⟨MB, hMB⟩ : ∃ n, markF vt v0 v1 vL = n := ⟨_, rfl⟩
  have HSB := Lib.hid hSB
  have HMA := Lib.hid hMA
  have HMB := Lib.hid hMB
  clear hSB hMA hMB
  haveI := Kw.ne (fun _ => False) V
  have cE := MV.out.kE.cell
  have lE := MV.out.kE.lt
  have kxE : ∀ (x : Kw (fun _ => False) V) (o : Nat), x.w.cell? ⟨w.heap.size, o, none⟩ = V.cell? ⟨w.heap.size, o, none⟩ := fun x o => x.cell _ _ lE (fun h => h)
  have cN := MV.out.kN.cell
  have lN := MV.out.kN.lt
  have kxN : ∀ (x : Kw (fun _ => False) V) (o : Nat), x.w.cell? ⟨w.heap.size + 1, o, none⟩ = V.cell? ⟨w.heap.size + 1, o, none⟩ := fun x o => x.cell _ _ lN (fun h => h)
  have cA := MV.out.wa.blk.cell
  have lA := MV.out.wa.blk.lt
  have kxA : ∀ (x : Kw (fun _ => False) V) (o : Nat), x.w.cell? ⟨w.heap.size + 2, o, none⟩ = V.cell? ⟨w.heap.size + 2, o, none⟩ := fun x o => x.cell _ _ lA (fun h => h)
  have cB := MV.out.wb.blk.cell
  have lB := MV.out.wb.blk.lt
  have kxB : ∀ (x : Kw (fun _ => False) V) (o : Nat), x.w.cell? ⟨w.heap.size + 3, o, none⟩ = V.cell? ⟨w.heap.size + 3, o, none⟩ := fun x o => x.cell _ _ lB (fun h => h)
  have cV := SV.out.blk.cell
  have lV := SV.out.blk.lt
  have kxV : ∀ (x : Kw (fun _ => False) V) (o : Nat), x.w.cell? ⟨pV, o, none⟩ = V.cell? ⟨pV, o, none⟩ := fun x o => x.cell _ _ lV (fun h => h)
  have HBK := Lib.hid (fun (x : World) (h : Kp (fun _ => False) V x) => (h.below (fun _ h => h.elim) (Nat.le_refl _) : Below V.heap.size V x))
  refine region_mix 26 [(false, 0), (false, 1), (false, 3), (false, 4), (true, 2), (true, 5), (false, 6), (false, 7), (false, 8), (false, 9), (true, 10), (false, 11), (false, 12), (false, 13), (false, 15), (true, 14), (true, 16), (false, 17), (false, 18), (false, 19), (false, 20), (false, 22), (true, 21), (true, 23), (false, 24), (false, 25)] (kcl (fun _ => False) V (fun _ => True) (fun _ _ _ _ => trivial)) ⟨Kp.drew _ _, trivial⟩ (by kernel_rfl) (by kernel_rfl) ?_
  simp only [stepsOf, List.filterMap_cons, List.filterMap_nil, List.getElem?_toArray, List.getElem?_cons_zero, List.getElem?_cons_succ, Option.map_some, List.drop_succ_cons, List.drop_zero]
  iterate 4 (refine mix_readK (fun K hK => ?_); go_simp; refine hK _ ?_; clear hK K)
  refine mix_call (ι := Unit) (fun _ => .bool SB) (fun _ => kcl (fun _ => False) V (fun _ => True) (fun _ _ _ _ => trivial)) 36 #[.agg #[.int .i64 ta, .int .i64 a0, .int .i64 a1, .slice aa xs.length ca], .agg #[.int .i64 tb, .int .i64 b0, .int .i64 b1, .slice ba ys.length cb]] rfl (fun x => by simp [go_sem]) (fun x hx => ?_) (fun _ => ?_)
  · have hb := HBK.out x hx.1
    refine (sameview_any ta a0 a1 tb b0 b1 xs ys aa ba ca cb (by omega) (by omega) x (MV.out.call hb).wa.row (MV.out.call hb).wb.row).mono ?_
    rintro e x' ⟨rfl, hb'⟩
    exact ⟨(), by rw [HSB.out], hx.1.then_ hb', trivial⟩
  refine mix_call (ι := Unit) (fun _ => .bool SB) (fun _ => kcl (fun _ => False) V (fun _ => True) (fun _ _ _ _ => trivial)) 31 #[.agg #[.int .i64 ta, .int .i64 a0, .int .i64 a1, .slice aa xs.length ca], .agg #[.int .i64 tb, .int .i64 b0, .int .i64 b1, .slice ba ys.length cb]] rfl (fun x => by simp [go_sem]) (fun x hx => ?_) (fun _ => ?_)
  · have hb := HBK.out x hx.1
    refine (refsameview_any ta a0 a1 tb b0 b1 xs ys aa ba ca cb (by omega) (by omega) x (MV.out.call hb).wa.row (MV.out.call hb).wb.row).mono ?_
    rintro e x' ⟨rfl, hb'⟩
    exact ⟨(), by rw [HSB.out], hx.1.then_ hb', trivial⟩
  iterate 4 (refine mix_readK (fun K hK => ?_); go_simp; refine hK _ ?_; clear hK K)
  refine mix_call (ι := Unit) (fun _ => .bool true) (fun _ => kcl (fun _ => False) V (fun _ => True) (fun _ _ _ _ => trivial)) 36 #[.agg #[.int .i64 ta, .int .i64 a0, .int .i64 a1, .slice aa xs.length ca], .agg #[.int .i64 ta, .int .i64 a0, .int .i64 a1, .slice aa xs.length ca]] rfl (fun x => by simp [go_sem]) (fun x hx => ?_) (fun _ => ?_)
  · have hb := HBK.out x hx.1
    refine (sameview_any ta a0 a1 ta a0 a1 xs xs aa aa ca ca (by omega) (by omega) x (MV.out.call hb).wa.row (MV.out.call hb).wa.row).mono ?_
    rintro e x' ⟨rfl, hb'⟩
    exact ⟨(), by rw [sameVw_self], hx.1.then_ hb', trivial⟩
  iterate 4 (refine mix_readK (fun K hK => ?_); go_simp; refine hK _ ?_; clear hK K)
  refine mix_call (ι := Unit) (fun _ => .int .u64 MA) (fun _ => kcl (fun _ => False) V (fun _ => True) (fun _ _ _ _ => trivial)) 37 #[.agg #[.int .i64 ta, .int .i64 a0, .int .i64 a1, .slice aa xs.length ca]] rfl (fun x => by simp [go_sem]) (fun x hx => ?_) (fun _ => ?_)
  · have hb := HBK.out x hx.1
    refine (marke_any ta a0 a1 aa ca xs (by omega) x (MV.out.call hb).wa.row).mono ?_
    rintro e x' ⟨rfl, hb'⟩
    exact ⟨(), by rw [HMA.out], hx.1.then_ hb', trivial⟩
  refine mix_call (ι := Unit) (fun _ => .int .u64 MA) (fun _ => kcl (fun _ => False) V (fun _ => True) (fun _ _ _ _ => trivial)) 38 #[.agg #[.int .i64 ta, .int .i64 a0, .int .i64 a1, .slice aa xs.length ca]] rfl (fun x => by simp [go_sem]) (fun x hx => ?_) (fun _ => ?_)
  · have hb := HBK.out x hx.1
    refine (refmarkof_any ta a0 a1 aa ca xs (by omega) x (MV.out.call hb).wa.row).mono ?_
    rintro e x' ⟨rfl, hb'⟩
    exact ⟨(), by rw [HMA.out], hx.1.then_ hb', trivial⟩
  iterate 5 (refine mix_readK (fun K hK => ?_); go_simp; refine hK _ ?_; clear hK K)
  refine mix_call (ι := Unit) (fun _ => .int .u64 MB) (fun _ => kcl (fun _ => False) V (fun _ => True) (fun _ _ _ _ => trivial)) 37 #[.agg #[.int .i64 vt, .int .i64 v0, .int .i64 v1, .slice vA vL.length vc]] rfl (fun x => by simp [go_sem]) (fun x hx => ?_) (fun _ => ?_)
  · have hb := HBK.out x hx.1
    refine (marke_any vt v0 v1 vA vc vL (by omega) x (SV.out.call hb).row).mono ?_
    rintro e x' ⟨rfl, hb'⟩
    exact ⟨(), by rw [HMB.out], hx.1.then_ hb', trivial⟩
  refine mix_call (ι := Unit) (fun _ => .int .u64 MB) (fun _ => kcl (fun _ => False) V (fun _ => True) (fun _ _ _ _ => trivial)) 38 #[.agg #[.int .i64 vt, .int .i64 v0, .int .i64 v1, .slice vA vL.length vc]] rfl (fun x => by simp [go_sem]) (fun x hx => ?_) (fun _ => ?_)
  · have hb := HBK.out x hx.1
    refine (refmarkof_any vt v0 v1 vA vc vL (by omega) x (SV.out.call hb).row).mono ?_
    rintro e x' ⟨rfl, hb'⟩
    exact ⟨(), by rw [HMB.out], hx.1.then_ hb', trivial⟩
  iterate 2 (refine mix_readK (fun K hK => ?_); go_simp; refine hK _ ?_; clear hK K)
  refine mix_nil ?_
  rintro y ⟨k9, -⟩
  have MY := Lib.hid (MV.out.call (HBK.out _ k9))
  clear cE lE kxE cN lN kxN cA lA kxA cB lB kxB cV lV kxV
  clear k9 HBK MV SV
  go_simp
  go_wp2_with fail
  go_ret
  exact ⟨rfl, MY.out.bel⟩
set_option maxHeartbeats 12800000 in
set_option maxRecDepth 100000 in
theorem views_bb (g h : G) (fa ua va aa ba : Option Addr) (cf cu cv ca cb : Nat) (ta a0 a1 tb b0 b1 : Int) (xs ys : List Sn) (hgn : g.new = false) (hhn : h.new = true) (hhf : h.free = []) (hgl : g.us.length ≤ 9223372036854775807) (hgf : g.free.length ≤ 9223372036854775807) (hgfit : ∀ n ∈ g.free, Fits64 n)
    (hE0 : faultOf g ≠ 0) (hN0 : faultOf h ≠ 0) (w : World) (hrf : Row w.heap.size w fa g.free.length (fun k => .int .i64 (g.free.getD k 0))) (hru : URow false w.heap.size w ua g.us) (hrv : URow true w.heap.size w va h.us) (hra : SRow w.heap.size w aa xs) (hrb : SRow w.heap.size w ba ys) :
    Calls Try.prog 4 #[.agg #[.int .i64 g.tick, .int .i64 g.g0, .int .i64 g.g1, .int .i64 g.next, .slice fa g.free.length cf, .slice ua g.us.length cu], .agg #[.int .i64 h.tick, .int .i64 h.g0, .int .i64 h.g1, .int .i64 h.next, .slice va h.us.length cv], .agg #[.int .i64 ta, .int .i64 a0, .int .i64 a1, .slice aa xs.length ca], .agg #[.int .i64 tb, .int .i64 b0, .int .i64 b1, .slice ba ys.length cb]] w (TrueBelow w) := by
  obtain ⟨W, hW⟩ : ∃ W, (((w.alloc (.cells #[.int .i64 g.tick, .int .i64 g.g0, .int .i64 g.g1, .int .i64 g.next, .slice fa g.free.length cf, .slice ua g.us.length cu] 26)).alloc (.cells #[.int .i64 h.tick, .int .i64 h.g0, .int .i64 h.g1, .int .i64 h.next, .slice va h.us.length cv] 32)).alloc (.cells #[.int .i64 ta, .int .i64 a0, .int .i64 a1, .slice aa xs.length ca] 61)).alloc (.cells #[.int .i64 tb, .int .i64 b0, .int .i64 b1, .slice ba ys.length cb] 61) = W := ⟨_, rfl⟩
  have M0 := Lib.hid (show HoldV w W g h fa ua va aa ba cf cu cv ca cb ta a0 a1 tb b0 b1 xs ys from by rw [← hW]; exact HoldV.start _ _ _ hrf hru hrv hra hrb)
  have HGF := Lib.hid hgfit
  have HHF := Lib.hid (⟨hhn, hhf⟩ : h.new = true ∧ h.free = [])
  have HGN := Lib.hid hgn
  clear hrf hru hrv hra hrb hgfit hhn hhf hgn
  go_enter Try.func4, Try.ntmps4
  go_upto_region 1 with fail
  try rw [hW]
  clear hW
  go_wp2_with fail
  refine (looks_any _).mono ?_
  rintro e x1 ⟨rfl, b1⟩
  have M1 := Lib.hid (M0.out.call b1)
  clear b1
  have cE := M1.out.kE.cell
  have lE := M1.out.kE.lt
  have cN := M1.out.kN.cell
  have lN := M1.out.kN.lt
  have cA := M1.out.wa.blk.cell
  have lA := M1.out.wa.blk.lt
  have cB := M1.out.wb.blk.cell
  have lB := M1.out.wb.blk.lt
  go_wp2_with fail
  refine (lightelder_any g fa ua cf cu _).mono ?_
  rintro e x2 ⟨LB, rfl, hLB, bx⟩
  have M2 := Lib.hid (M1.out.call bx)
  clear bx
  clear cE lE cN lN cA lA cB lB
  have cE := M2.out.kE.cell
  have lE := M2.out.kE.lt
  have cN := M2.out.kN.cell
  have lN := M2.out.kN.lt
  have cA := M2.out.wa.blk.cell
  have lA := M2.out.wa.blk.lt
  have cB := M2.out.wb.blk.cell
  have lB := M2.out.wb.blk.lt
  by_cases hl : g.us.length ≤ 25 ∧ g.free.length ≤ 220
  case neg =>
    obtain rfl : LB = false := by cases LB; rfl; exact absurd (hLB.1 rfl) hl
    clear hLB hl
    go_wp2_with fail
    go_ret
    exact ⟨rfl, M2.out.bel⟩
  obtain rfl : LB = true := hLB.2 hl
  clear hLB
  obtain ⟨hl1, hl2⟩ := hl
  by_cases qdv : h.us.length ≤ 25
  case neg =>
    have dv : decide ((25 : Int) < (h.us.length : Int)) = true := decide_eq_true (by omega)
    have HQ := Lib.hid qdv
    clear qdv
    go_wp2_with fail
    go_ret
    exact ⟨rfl, M2.out.bel⟩
  have dv : decide ((25 : Int) < (h.us.length : Int)) = false := decide_eq_false (by omega)
  by_cases qdx : xs.length ≤ 40
  case neg =>
    have dx : decide ((40 : Int) < (xs.length : Int)) = true := decide_eq_true (by omega)
    have HQ := Lib.hid qdx
    clear qdx
    go_wp2_with fail
    go_ret
    exact ⟨rfl, M2.out.bel⟩
  have dx : decide ((40 : Int) < (xs.length : Int)) = false := decide_eq_false (by omega)
  by_cases qdy : ys.length ≤ 40
  case neg =>
    have dy : decide ((40 : Int) < (ys.length : Int)) = true := decide_eq_true (by omega)
    have HQ := Lib.hid qdy
    clear qdy
    go_wp2_with fail
    go_ret
    exact ⟨rfl, M2.out.bel⟩
  have dy : decide ((40 : Int) < (ys.length : Int)) = false := decide_eq_false (by omega)
  obtain ⟨fE, hfE⟩ : ∃ x, faultOf g = x := ⟨_, rfl⟩
  rw [hfE] at hE0
  have HFBLE := Lib.hid ((fault_back false g HGN.out (fun e => (by cases e))).trans hfE)
  have H0LE := Lib.hid (⟨hfE, hE0⟩ : faultOf g = fE ∧ fE ≠ 0)
  have e1fE : decide ((0 : Int) < (fE : Int)) = true := decide_eq_true (by omega)
  have e2fE : decide (0 < fE) = true := decide_eq_true (by omega)
  have e3fE : ((fE : Int) == 0) = false := by simp; omega
  have e4fE : (fE == 0) = false := by simp; omega
  have e5fE : decide ((fE : Int) = 0) = false := decide_eq_false (by omega)
  have e6fE : decide (fE = 0) = false := decide_eq_false (by omega)
  clear hfE hE0
  obtain ⟨fN, hfN⟩ : ∃ x, faultOf h = x := ⟨_, rfl⟩
  rw [hfN] at hN0
  have HFBLN := Lib.hid ((fault_back true h HHF.out.1 (fun _ => HHF.out.2)).trans hfN)
  have H0LN := Lib.hid (⟨hfN, hN0⟩ : faultOf h = fN ∧ fN ≠ 0)
  have e1fN : decide ((0 : Int) < (fN : Int)) = true := decide_eq_true (by omega)
  have e2fN : decide (0 < fN) = true := decide_eq_true (by omega)
  have e3fN : ((fN : Int) == 0) = false := by simp; omega
  have e4fN : (fN == 0) = false := by simp; omega
  have e5fN : decide ((fN : Int) = 0) = false := decide_eq_false (by omega)
  have e6fN : decide (fN = 0) = false := decide_eq_false (by omega)
  clear hfN hN0
  go_wp2_with fail
  refine (ownelder_any g fa ua cf cu (by omega) (by omega) _ M2.out.rf M2.out.ru).mono ?_
  rintro e x3 ⟨g3, cap3, g2, cap2, rfl, bx, ro, rp, hc3, hc2⟩
  have RO := Lib.hid ro
  have RP := Lib.hid rp
  clear ro rp
  have M3 := Lib.hid (M2.out.call bx)
  clear cE lE cN lN cA lA cB lB
  have cE := M3.out.kE.cell
  have lE := M3.out.kE.lt
  have cN := M3.out.kN.cell
  have lN := M3.out.kN.lt
  have cA := M3.out.wa.blk.cell
  have lA := M3.out.wa.blk.lt
  have cB := M3.out.wb.blk.cell
  have lB := M3.out.wb.blk.lt
  clear bx
  go_wp2_with fail
  refine (view_any g (some ⟨g3, 0, none⟩) (some ⟨g2, 0, none⟩) cap3 cap2 HGN.out (by omega) (by omega) _ RO.out RP.out HGF.out).mono ?_
  rintro e x4 hve
  obtain ⟨vt, v0, v1, vA, vc, vL, rfl, hrv, vfew, bx, hveq⟩ := hve.bad H0LE.out.1 H0LE.out.2
  have HRV := Lib.hid hrv
  have HQLE := Lib.hid hveq
  clear hve hrv hveq RO RP
  have M4 := Lib.hid (M3.out.call bx)
  clear cE lE cN lN cA lA cB lB
  have cE := M4.out.kE.cell
  have lE := M4.out.kE.lt
  have cN := M4.out.kN.cell
  have lN := M4.out.kN.lt
  have cA := M4.out.wa.blk.cell
  have lA := M4.out.wa.blk.lt
  have cB := M4.out.wb.blk.cell
  have lB := M4.out.wb.blk.lt
  clear bx
  go_upto_region 5 with fail
  refine gen_world (fun V => HoldV w V g h fa ua va aa ba cf cu cv ca cb ta a0 a1 tb b0 b1 xs ys ∧ VV V x4.heap.size vt v0 v1 vA vc vL) ⟨M4.out.call ((Below.refl _ _).alloc (Nat.le_refl _) _), VV.new HRV.out _⟩ ?_
  rintro x5 ⟨m5, sw⟩
  obtain ⟨pV, hp⟩ : ∃ n, x4.heap.size = n := ⟨_, rfl⟩
  rw [hp] at sw
  try rw [hp]
  clear hp
  clear cE lE cN lN cA lA cB lB
  clear M4 HRV
  have M5 := Lib.hid m5
  have S5 := Lib.hid sw
  clear m5 sw
  have cE := M5.out.kE.cell
  have lE := M5.out.kE.lt
  have cN := M5.out.kN.cell
  have lN := M5.out.kN.lt
  have cA := M5.out.wa.blk.cell
  have lA := M5.out.wa.blk.lt
  have cB := M5.out.wb.blk.cell
  have lB := M5.out.wb.blk.lt
  go_wp2_with fail
  refine (ofelder_any g fa ua cf cu (by omega) (by omega) _ M5.out.rf M5.out.ru).mono ?_
  rintro e x6 ⟨S5g, fv, uv, rfl, gr, bx⟩
  have GRH := Lib.hid gr
  clear gr
  have M6 := Lib.hid (M5.out.call bx)
  have S6 := Lib.hid (S5.out.call bx)
  clear cE lE cN lN cA lA cB lB
  have cE := M6.out.kE.cell
  have lE := M6.out.kE.lt
  have cN := M6.out.kN.cell
  have lN := M6.out.kN.lt
  have cA := M6.out.wa.blk.cell
  have lA := M6.out.wa.blk.lt
  have cB := M6.out.wb.blk.cell
  have lB := M6.out.wb.blk.lt
  clear bx
  go_wp2_with fail
  refine (fault_game GRH.out (by show g.free.length ≤ 100000; omega) (by simp [backG]; omega)).mono ?_
  rintro e x7 ⟨rfl, bx⟩
  rw [HFBLE.out]
  have M7 := Lib.hid (M6.out.call bx)
  have S7 := Lib.hid (S6.out.call bx)
  clear cE lE cN lN cA lA cB lB
  have cE := M7.out.kE.cell
  have lE := M7.out.kE.lt
  have cN := M7.out.kN.cell
  have lN := M7.out.kN.lt
  have cA := M7.out.wa.blk.cell
  have lA := M7.out.wa.blk.lt
  have cB := M7.out.wb.blk.cell
  have lB := M7.out.wb.blk.lt
  clear bx
  clear GRH
  go_upto_region 6 with fail
  refine gen_world (fun V => HoldV w V g h fa ua va aa ba cf cu cv ca cb ta a0 a1 tb b0 b1 xs ys ∧ VV V pV vt v0 v1 vA vc vL) ⟨M7.out, S7.out⟩ ?_
  rintro V ⟨mV, sV⟩
  clear cE lE cN lN cA lA cB lB
  clear M7 S7
  have MV := Lib.hid mV
  have SV := Lib.hid sV
  clear mV sV
  haveI := Kw.ne (fun _ => False) V
  have cE := MV.out.kE.cell
  have lE := MV.out.kE.lt
  have kxE : ∀ (x : Kw (fun _ => False) V) (o : Nat), x.w.cell? ⟨w.heap.size, o, none⟩ = V.cell? ⟨w.heap.size, o, none⟩ := fun x o => x.cell _ _ lE (fun h => h)
  have cN := MV.out.kN.cell
  have lN := MV.out.kN.lt
  have kxN : ∀ (x : Kw (fun _ => False) V) (o : Nat), x.w.cell? ⟨w.heap.size + 1, o, none⟩ = V.cell? ⟨w.heap.size + 1, o, none⟩ := fun x o => x.cell _ _ lN (fun h => h)
  have cA := MV.out.wa.blk.cell
  have lA := MV.out.wa.blk.lt
  have kxA : ∀ (x : Kw (fun _ => False) V) (o : Nat), x.w.cell? ⟨w.heap.size + 2, o, none⟩ = V.cell? ⟨w.heap.size + 2, o, none⟩ := fun x o => x.cell _ _ lA (fun h => h)
  have cB := MV.out.wb.blk.cell
  have lB := MV.out.wb.blk.lt
  have kxB : ∀ (x : Kw (fun _ => False) V) (o : Nat), x.w.cell? ⟨w.heap.size + 3, o, none⟩ = V.cell? ⟨w.heap.size + 3, o, none⟩ := fun x o => x.cell _ _ lB (fun h => h)
  have cV := SV.out.blk.cell
  have lV := SV.out.blk.lt
  have kxV : ∀ (x : Kw (fun _ => False) V) (o : Nat), x.w.cell? ⟨pV, o, none⟩ = V.cell? ⟨pV, o, none⟩ := fun x o => x.cell _ _ lV (fun h => h)
  have HBK := Lib.hid (fun (x : World) (h : Kp (fun _ => False) V x) => (h.below (fun _ h => h.elim) (Nat.le_refl _) : Below V.heap.size V x))
  refine region_mix 25 [(false, 0), (false, 1), (true, 2), (false, 3), (false, 4), (false, 5), (false, 6), (false, 7), (false, 8), (false, 9), (false, 10), (false, 11), (false, 12), (false, 13), (false, 14), (false, 15), (false, 16), (false, 17), (false, 18), (false, 19), (false, 20), (false, 21), (true, 22), (false, 23), (false, 24)] (kcl (fun _ => False) V (fun _ => True) (fun _ _ _ _ => trivial)) ⟨Kp.drew _ _, trivial⟩ (by kernel_rfl) (by kernel_rfl) ?_
  simp only [stepsOf, List.filterMap_cons, List.filterMap_nil, List.getElem?_toArray, List.getElem?_cons_zero, List.getElem?_cons_succ, Option.map_some, List.drop_succ_cons, List.drop_zero]
  iterate 2 (refine mix_readK (fun K hK => ?_); go_simp; refine hK _ ?_; clear hK K)
  refine mix_call (ι := Unit) (fun _ => .bool true) (fun _ => kcl (fun _ => False) V (fun _ => True) (fun _ _ _ _ => trivial)) 13 #[errV fE, .int .i64 (fE : Nat)] rfl (fun x => by simp [go_sem]) (fun x hx => ?_) (fun _ => ?_)
  · have hb := HBK.out x hx.1
    refine (same_self fE x).mono ?_
    rintro e x' ⟨rfl, rfl⟩
    exact ⟨(), rfl, hx.1, trivial⟩
  iterate 19 (refine mix_readK (fun K hK => ?_); go_simp; refine hK _ ?_; clear hK K)
  refine mix_call (ι := Unit) (fun _ => .bool true) (fun _ => kcl (fun _ => False) V (fun _ => True) (fun _ _ _ _ => trivial)) 31 #[.agg #[.int .i64 vt, .int .i64 v0, .int .i64 v1, .slice vA vL.length vc], .agg #[.int .i64 0, .int .i64 0, .int .i64 0, .slice none 0 0]] rfl (fun x => by simp [go_sem]) (fun x hx => ?_) (fun _ => ?_)
  · have hb := HBK.out x hx.1
    refine (sameview_to vt v0 v1 0 0 0 vL [] vA none vc 0 0 rfl vfew HQLE.out x (SV.out.call hb).row (fun i hi => absurd hi (Nat.not_lt_zero i))).mono ?_
    rintro e x' ⟨rfl, hb'⟩
    exact ⟨(), rfl, hx.1.then_ hb', trivial⟩
  iterate 2 (refine mix_readK (fun K hK => ?_); go_simp; refine hK _ ?_; clear hK K)
  refine mix_nil ?_
  rintro x8 ⟨k9, -⟩
  have M8 := Lib.hid (MV.out.call (HBK.out _ k9))
  have S8 := Lib.hid (SV.out.call (HBK.out _ k9))
  clear cE lE kxE cN lN kxN cA lA kxA cB lB kxB cV lV kxV
  clear k9 HBK MV SV
  have cE := M8.out.kE.cell
  have lE := M8.out.kE.lt
  have cN := M8.out.kN.cell
  have lN := M8.out.kN.lt
  have cA := M8.out.wa.blk.cell
  have lA := M8.out.wa.blk.lt
  have cB := M8.out.wb.blk.cell
  have lB := M8.out.wb.blk.lt
  go_simp
  go_wp2_with fail
  refine (ownnewer_any h va cv (by omega) _ M8.out.rv).mono ?_
  rintro e x9 ⟨g4, cap4, rfl, bx, rp, hc4⟩
  have RQ := Lib.hid rp
  clear rp
  have M9 := Lib.hid (M8.out.call bx)
  have S9 := Lib.hid (S8.out.call bx)
  clear cE lE cN lN cA lA cB lB
  have cE := M9.out.kE.cell
  have lE := M9.out.kE.lt
  have cN := M9.out.kN.cell
  have lN := M9.out.kN.lt
  have cA := M9.out.wa.blk.cell
  have lA := M9.out.wa.blk.lt
  have cB := M9.out.wb.blk.cell
  have lB := M9.out.wb.blk.lt
  clear bx
  go_wp2_with fail
  refine (viewn_any h (some ⟨g4, 0, none⟩) cap4 HHF.out.1 HHF.out.2 (by omega) _ RQ.out (fun e => (by cases e)) hc4).mono ?_
  rintro e x10 hve
  obtain ⟨zt, z0, z1, zA, zc, zL, rfl, hrv, zfew, bx, hveq⟩ := hve.bad H0LN.out.1 H0LN.out.2
  have HRV := Lib.hid hrv
  have HQLN := Lib.hid hveq
  clear hve hrv hveq RQ
  have M10 := Lib.hid (M9.out.call bx)
  have S10 := Lib.hid (S9.out.call bx)
  clear cE lE cN lN cA lA cB lB
  have cE := M10.out.kE.cell
  have lE := M10.out.kE.lt
  have cN := M10.out.kN.cell
  have lN := M10.out.kN.lt
  have cA := M10.out.wa.blk.cell
  have lA := M10.out.wa.blk.lt
  have cB := M10.out.wb.blk.cell
  have lB := M10.out.wb.blk.lt
  clear bx
  go_upto_region 9 with fail
  refine gen_world (fun V => HoldV w V g h fa ua va aa ba cf cu cv ca cb ta a0 a1 tb b0 b1 xs ys ∧ VV V pV vt v0 v1 vA vc vL ∧ VV V x10.heap.size zt z0 z1 zA zc zL) ⟨M10.out.call ((Below.refl _ _).alloc (Nat.le_refl _) _), S10.out.call ((Below.refl _ _).alloc (Nat.le_refl _) _), VV.new HRV.out _⟩ ?_
  rintro x11 ⟨m11, sv, sw⟩
  obtain ⟨pZ, hp⟩ : ∃ n, x10.heap.size = n := ⟨_, rfl⟩
  rw [hp] at sw
  try rw [hp]
  clear hp
  clear cE lE cN lN cA lA cB lB
  clear M10 HRV S10
  have M11 := Lib.hid m11
  have Z11 := Lib.hid sw
  clear m11 sw
  have S11 := Lib.hid sv
  clear sv
  have cE := M11.out.kE.cell
  have lE := M11.out.kE.lt
  have cN := M11.out.kN.cell
  have lN := M11.out.kN.lt
  have cA := M11.out.wa.blk.cell
  have lA := M11.out.wa.blk.lt
  have cB := M11.out.wb.blk.cell
  have lB := M11.out.wb.blk.lt
  go_wp2_with fail
  refine (ofnewer_any h va cv (by omega) _ M11.out.rv).mono ?_
  rintro e x12 ⟨S11g, fv, uv, rfl, gr, bx⟩
  have GRH := Lib.hid gr
  clear gr
  have M12 := Lib.hid (M11.out.call bx)
  have S12 := Lib.hid (S11.out.call bx)
  have Z12 := Lib.hid (Z11.out.call bx)
  clear cE lE cN lN cA lA cB lB
  have cE := M12.out.kE.cell
  have lE := M12.out.kE.lt
  have cN := M12.out.kN.cell
  have lN := M12.out.kN.lt
  have cA := M12.out.wa.blk.cell
  have lA := M12.out.wa.blk.lt
  have cB := M12.out.wb.blk.cell
  have lB := M12.out.wb.blk.lt
  clear bx
  go_wp2_with fail
  refine (fault_game GRH.out (by simp [backG]) (by simp [backG]; omega)).mono ?_
  rintro e x13 ⟨rfl, bx⟩
  rw [HFBLN.out]
  have M13 := Lib.hid (M12.out.call bx)
  have S13 := Lib.hid (S12.out.call bx)
  have Z13 := Lib.hid (Z12.out.call bx)
  clear cE lE cN lN cA lA cB lB
  have cE := M13.out.kE.cell
  have lE := M13.out.kE.lt
  have cN := M13.out.kN.cell
  have lN := M13.out.kN.lt
  have cA := M13.out.wa.blk.cell
  have lA := M13.out.wa.blk.lt
  have cB := M13.out.wb.blk.cell
  have lB := M13.out.wb.blk.lt
  clear bx
  clear GRH
  go_upto_region 10 with fail
  refine gen_world (fun V => HoldV w V g h fa ua va aa ba cf cu cv ca cb ta a0 a1 tb b0 b1 xs ys ∧ VV V pV vt v0 v1 vA vc vL ∧ VV V pZ zt z0 z1 zA zc zL) ⟨M13.out, S13.out, Z13.out⟩ ?_
  rintro V ⟨mV, sV, zV⟩
  clear cE lE cN lN cA lA cB lB
  clear M13 S13 Z13
  have MV := Lib.hid mV
  have SV := Lib.hid sV
  have ZV := Lib.hid zV
  clear mV sV zV
  haveI := Kw.ne (fun _ => False) V
  have cE := MV.out.kE.cell
  have lE := MV.out.kE.lt
  have kxE : ∀ (x : Kw (fun _ => False) V) (o : Nat), x.w.cell? ⟨w.heap.size, o, none⟩ = V.cell? ⟨w.heap.size, o, none⟩ := fun x o => x.cell _ _ lE (fun h => h)
  have cN := MV.out.kN.cell
  have lN := MV.out.kN.lt
  have kxN : ∀ (x : Kw (fun _ => False) V) (o : Nat), x.w.cell? ⟨w.heap.size + 1, o, none⟩ = V.cell? ⟨w.heap.size + 1, o, none⟩ := fun x o => x.cell _ _ lN (fun h => h)
  have cA := MV.out.wa.blk.cell
  have lA := MV.out.wa.blk.lt
  have kxA : ∀ (x : Kw (fun _ => False) V) (o : Nat), x.w.cell? ⟨w.heap.size + 2, o, none⟩ = V.cell? ⟨w.heap.size + 2, o, none⟩ := fun x o => x.cell _ _ lA (fun h => h)
  have cB := MV.out.wb.blk.cell
  have lB := MV.out.wb.blk.lt
  have kxB : ∀ (x : Kw (fun _ => False) V) (o : Nat), x.w.cell? ⟨w.heap.size + 3, o, none⟩ = V.cell? ⟨w.heap.size + 3, o, none⟩ := fun x o => x.cell _ _ lB (fun h => h)
  have cV := SV.out.blk.cell
  have lV := SV.out.blk.lt
  have kxV : ∀ (x : Kw (fun _ => False) V) (o : Nat), x.w.cell? ⟨pV, o, none⟩ = V.cell? ⟨pV, o, none⟩ := fun x o => x.cell _ _ lV (fun h => h)
  have cZ := ZV.out.blk.cell
  have lZ := ZV.out.blk.lt
  have kxZ : ∀ (x : Kw (fun _ => False) V) (o : Nat), x.w.cell? ⟨pZ, o, none⟩ = V.cell? ⟨pZ, o, none⟩ := fun x o => x.cell _ _ lZ (fun h => h)
  have HBK := Lib.hid (fun (x : World) (h : Kp (fun _ => False) V x) => (h.below (fun _ h => h.elim) (Nat.le_refl _) : Below V.heap.size V x))
  refine region_mix 25 [(false, 0), (false, 1), (true, 2), (false, 3), (false, 4), (false, 5), (false, 6), (false, 7), (false, 8), (false, 9), (false, 10), (false, 11), (false, 12), (false, 13), (false, 14), (false, 15), (false, 16), (false, 17), (false, 18), (false, 19), (false, 20), (false, 21), (true, 22), (false, 23), (false, 24)] (kcl (fun _ => False) V (fun _ => True) (fun _ _ _ _ => trivial)) ⟨Kp.drew _ _, trivial⟩ (by kernel_rfl) (by kernel_rfl) ?_
  simp only [stepsOf, List.filterMap_cons, List.filterMap_nil, List.getElem?_toArray, List.getElem?_cons_zero, List.getElem?_cons_succ, Option.map_some, List.drop_succ_cons, List.drop_zero]
  iterate 2 (refine mix_readK (fun K hK => ?_); go_simp; refine hK _ ?_; clear hK K)
  refine mix_call (ι := Unit) (fun _ => .bool true) (fun _ => kcl (fun _ => False) V (fun _ => True) (fun _ _ _ _ => trivial)) 13 #[errV fN, .int .i64 (fN : Nat)] rfl (fun x => by simp [go_sem]) (fun x hx => ?_) (fun _ => ?_)
  · have hb := HBK.out x hx.1
    refine (same_self fN x).mono ?_
    rintro e x' ⟨rfl, rfl⟩
    exact ⟨(), rfl, hx.1, trivial⟩
  iterate 19 (refine mix_readK (fun K hK => ?_); go_simp; refine hK _ ?_; clear hK K)
  refine mix_call (ι := Unit) (fun _ => .bool true) (fun _ => kcl (fun _ => False) V (fun _ => True) (fun _ _ _ _ => trivial)) 31 #[.agg #[.int .i64 zt, .int .i64 z0, .int .i64 z1, .slice zA zL.length zc], .agg #[.int .i64 0, .int .i64 0, .int .i64 0, .slice none 0 0]] rfl (fun x => by simp [go_sem]) (fun x hx => ?_) (fun _ => ?_)
  · have hb := HBK.out x hx.1
    refine (sameview_to zt z0 z1 0 0 0 zL [] zA none zc 0 0 rfl zfew HQLN.out x (ZV.out.call hb).row (fun i hi => absurd hi (Nat.not_lt_zero i))).mono ?_
    rintro e x' ⟨rfl, hb'⟩
    exact ⟨(), rfl, hx.1.then_ hb', trivial⟩
  iterate 2 (refine mix_readK (fun K hK => ?_); go_simp; refine hK _ ?_; clear hK K)
  refine mix_nil ?_
  rintro x14 ⟨k9, -⟩
  have M14 := Lib.hid (MV.out.call (HBK.out _ k9))
  have S14 := Lib.hid (SV.out.call (HBK.out _ k9))
  clear cE lE kxE cN lN kxN cA lA kxA cB lB kxB cV lV kxV cZ lZ kxZ
  clear k9 HBK MV SV ZV
  have cE := M14.out.kE.cell
  have lE := M14.out.kE.lt
  have cN := M14.out.kN.cell
  have lN := M14.out.kN.lt
  have cA := M14.out.wa.blk.cell
  have lA := M14.out.wa.blk.lt
  have cB := M14.out.wb.blk.cell
  have lB := M14.out.wb.blk.lt
  go_simp
  go_upto_region 12 with fail
  refine gen_world (fun V => HoldV w V g h fa ua va aa ba cf cu cv ca cb ta a0 a1 tb b0 b1 xs ys ∧ VV V pV vt v0 v1 vA vc vL) ⟨M14.out, S14.out⟩ ?_
  rintro V ⟨mV, sV⟩
  clear cE lE cN lN cA lA cB lB
  clear M14 S14
  have MV := Lib.hid mV
  have SV := Lib.hid sV
  clear mV sV
  obtain ⟨SB, hSB⟩ : ∃ b, sameVw ta a0 a1 tb b0 b1 xs ys = b := ⟨_, rfl⟩
  obtain ⟨MA, hMA⟩ : ∃ n, markF ta a0 a1 xs = n := ⟨_, rfl⟩
  obtain ⟨MB, hMB⟩ : ∃ n, markF vt v0 v1 vL = n := ⟨_, rfl⟩
  have HSB := Lib.hid hSB
  have HMA := Lib.hid hMA
  have HMB := Lib.hid hMB
  clear hSB hMA hMB
  haveI := Kw.ne (fun _ => False) V
  have cE := MV.out.kE.cell
  have lE := MV.out.kE.lt
  have kxE : ∀ (x : Kw (fun _ => False) V) (o : Nat), x.w.cell? ⟨w.heap.size, o, none⟩ = V.cell? ⟨w.heap.size, o, none⟩ := fun x o => x.cell _ _ lE (fun h => h)
  have cN := MV.out.kN.cell
  have lN := MV.out.kN.lt
  have kxN : ∀ (x : Kw (fun _ => False) V) (o : Nat), x.w.cell? ⟨w.heap.size + 1, o, none⟩ = V.cell? ⟨w.heap.size + 1, o, none⟩ := fun x o => x.cell _ _ lN (fun h => h)
  have cA := MV.out.wa.blk.cell
  have lA := MV.out.wa.blk.lt
  have kxA : ∀ (x : Kw (fun _ => False) V) (o : Nat), x.w.cell? ⟨w.heap.size + 2, o, none⟩ = V.cell? ⟨w.heap.size + 2, o, none⟩ := fun x o => x.cell _ _ lA (fun h => h)
  have cB := MV.out.wb.blk.cell
  have lB := MV.out.wb.blk.lt
  have kxB : ∀ (x : Kw (fun _ => False) V) (o : Nat), x.w.cell? ⟨w.heap.size + 3, o, none⟩ = V.cell? ⟨w.heap.size + 3, o, none⟩ := fun x o => x.cell _ _ lB (fun h => h)
  have cV := SV.out.blk.cell
  have lV := SV.out.blk.lt
  have kxV : ∀ (x : Kw (fun _ => False) V) (o : Nat), x.w.cell? ⟨pV, o, none⟩ = V.cell? ⟨pV, o, none⟩ := fun x o => x.cell _ _ lV (fun h => h)
  have HBK := Lib.hid (fun (x : World) (h : Kp (fun _ => False) V x) => (h.below (fun _ h => h.elim) (Nat.le_refl _) : Below V.heap.size V x))
  refine region_mix 26 [(false, 0), (false, 1), (false, 3), (false, 4), (true, 2), (true, 5), (false, 6), (false, 7), (false, 8), (false, 9), (true, 10), (false, 11), (false, 12), (false, 13), (false, 15), (true, 14), (true, 16), (false, 17), (false, 18), (false, 19), (false, 20), (false, 22), (true, 21), (true, 23), (false, 24), (false, 25)] (kcl (fun _ => False) V (fun _ => True) (fun _ _ _ _ => trivial)) ⟨Kp.drew _ _, trivial⟩ (by kernel_rfl) (by kernel_rfl) ?_
  simp only [stepsOf, List.filterMap_cons, List.filterMap_nil, List.getElem?_toArray, List.getElem?_cons_zero, List.getElem?_cons_succ, Option.map_some, List.drop_succ_cons, List.drop_zero]
  iterate 4 (refine mix_readK (fun K hK => ?_); go_simp; refine hK _ ?_; clear hK K)
  refine mix_call (ι := Unit) (fun _ => .bool SB) (fun _ => kcl (fun _ => False) V (fun _ => True) (fun _ _ _ _ => trivial)) 36 #[.agg #[.int .i64 ta, .int .i64 a0, .int .i64 a1, .slice aa xs.length ca], .agg #[.int .i64 tb, .int .i64 b0, .int .i64 b1, .slice ba ys.length cb]] rfl (fun x => by simp [go_sem]) (fun x hx => ?_) (fun _ => ?_)
  · have hb := HBK.out x hx.1
    refine (sameview_any ta a0 a1 tb b0 b1 xs ys aa ba ca cb (by omega) (by omega) x (MV.out.call hb).wa.row (MV.out.call hb).wb.row).mono ?_
    rintro e x' ⟨rfl, hb'⟩
    exact ⟨(), by rw [HSB.out], hx.1.then_ hb', trivial⟩
  refine mix_call (ι := Unit) (fun _ => .bool SB) (fun _ => kcl (fun _ => False) V (fun _ => True) (fun _ _ _ _ => trivial)) 31 #[.agg #[.int .i64 ta, .int .i64 a0, .int .i64 a1, .slice aa xs.length ca], .agg #[.int .i64 tb, .int .i64 b0, .int .i64 b1, .slice ba ys.length cb]] rfl (fun x => by simp [go_sem]) (fun x hx => ?_) (fun _ => ?_)
  · have hb := HBK.out x hx.1
    refine (refsameview_any ta a0 a1 tb b0 b1 xs ys aa ba ca cb (by omega) (by omega) x (MV.out.call hb).wa.row (MV.out.call hb).wb.row).mono ?_
    rintro e x' ⟨rfl, hb'⟩
    exact ⟨(), by rw [HSB.out], hx.1.then_ hb', trivial⟩
  iterate 4 (refine mix_readK (fun K hK => ?_); go_simp; refine hK _ ?_; clear hK K)
  refine mix_call (ι := Unit) (fun _ => .bool true) (fun _ => kcl (fun _ => False) V (fun _ => True) (fun _ _ _ _ => trivial)) 36 #[.agg #[.int .i64 ta, .int .i64 a0, .int .i64 a1, .slice aa xs.length ca], .agg #[.int .i64 ta, .int .i64 a0, .int .i64 a1, .slice aa xs.length ca]] rfl (fun x => by simp [go_sem]) (fun x hx => ?_) (fun _ => ?_)
  · have hb := HBK.out x hx.1
    refine (sameview_any ta a0 a1 ta a0 a1 xs xs aa aa ca ca (by omega) (by omega) x (MV.out.call hb).wa.row (MV.out.call hb).wa.row).mono ?_
    rintro e x' ⟨rfl, hb'⟩
    exact ⟨(), by rw [sameVw_self], hx.1.then_ hb', trivial⟩
  iterate 4 (refine mix_readK (fun K hK => ?_); go_simp; refine hK _ ?_; clear hK K)
  refine mix_call (ι := Unit) (fun _ => .int .u64 MA) (fun _ => kcl (fun _ => False) V (fun _ => True) (fun _ _ _ _ => trivial)) 37 #[.agg #[.int .i64 ta, .int .i64 a0, .int .i64 a1, .slice aa xs.length ca]] rfl (fun x => by simp [go_sem]) (fun x hx => ?_) (fun _ => ?_)
  · have hb := HBK.out x hx.1
    refine (marke_any ta a0 a1 aa ca xs (by omega) x (MV.out.call hb).wa.row).mono ?_
    rintro e x' ⟨rfl, hb'⟩
    exact ⟨(), by rw [HMA.out], hx.1.then_ hb', trivial⟩
  refine mix_call (ι := Unit) (fun _ => .int .u64 MA) (fun _ => kcl (fun _ => False) V (fun _ => True) (fun _ _ _ _ => trivial)) 38 #[.agg #[.int .i64 ta, .int .i64 a0, .int .i64 a1, .slice aa xs.length ca]] rfl (fun x => by simp [go_sem]) (fun x hx => ?_) (fun _ => ?_)
  · have hb := HBK.out x hx.1
    refine (refmarkof_any ta a0 a1 aa ca xs (by omega) x (MV.out.call hb).wa.row).mono ?_
    rintro e x' ⟨rfl, hb'⟩
    exact ⟨(), by rw [HMA.out], hx.1.then_ hb', trivial⟩
  iterate 5 (refine mix_readK (fun K hK => ?_); go_simp; refine hK _ ?_; clear hK K)
  refine mix_call (ι := Unit) (fun _ => .int .u64 MB) (fun _ => kcl (fun _ => False) V (fun _ => True) (fun _ _ _ _ => trivial)) 37 #[.agg #[.int .i64 vt, .int .i64 v0, .int .i64 v1, .slice vA vL.length vc]] rfl (fun x => by simp [go_sem]) (fun x hx => ?_) (fun _ => ?_)
  · have hb := HBK.out x hx.1
    refine (marke_any vt v0 v1 vA vc vL (by omega) x (SV.out.call hb).row).mono ?_
    rintro e x' ⟨rfl, hb'⟩
    exact ⟨(), by rw [HMB.out], hx.1.then_ hb', trivial⟩
  refine mix_call (ι := Unit) (fun _ => .int .u64 MB) (fun _ => kcl (fun _ => False) V (fun _ => True) (fun _ _ _ _ => trivial)) 38 #[.agg #[.int .i64 vt, .int .i64 v0, .int .i64 v1, .slice vA vL.length vc]] rfl (fun x => by simp [go_sem]) (fun x hx => ?_) (fun _ => ?_)
  · have hb := HBK.out x hx.1
    refine (refmarkof_any vt v0 v1 vA vc vL (by omega) x (SV.out.call hb).row).mono ?_
    rintro e x' ⟨rfl, hb'⟩
    exact ⟨(), by rw [HMB.out], hx.1.then_ hb', trivial⟩
  iterate 2 (refine mix_readK (fun K hK => ?_); go_simp; refine hK _ ?_; clear hK K)
  refine mix_nil ?_
  rintro y ⟨k9, -⟩
  have MY := Lib.hid (MV.out.call (HBK.out _ k9))
  clear cE lE kxE cN lN kxN cA lA kxA cB lB kxB cV lV kxV
  clear k9 HBK MV SV
  go_simp
  go_wp2_with fail
  go_ret
  exact ⟨rfl, MY.out.bel⟩
end Go.Proofs.Ytlfljlhppigejab
