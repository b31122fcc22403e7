/-
  The law NewerSays: any state, any orders; any reel's beginning. (Printed by gen_newerlaw.py.)
-/
import Derived.Test.YtlfljlhppigejaaPackParts
import Derived.Test.YtlfljlhppigejaaPackMix
namespace Go.Proofs.Ytlfljlhppigejaa
open Go.RowKit
attribute [local go_sem] qOne qAt qUp qOneK

set_option maxHeartbeats 12800000 in
set_option maxRecDepth 100000 in
theorem newers_law (g t : G) (ua la ub tb : Option Addr) (cu cl cv ct : Nat) (cs : List Cm) (ts : List (List Cm)) (n : Int) (hgn : g.new = true) (hgf : g.free = []) (htn : t.new = true) (htf : t.free = []) (hgl : g.us.length ≤ 9223372036854775807) (hcl : cs.length ≤ 9223372036854775807) (htl : ts.length ≤ maxLen) (hcap : ts.length ≤ ct) (hnt : ub = none → t.us.length = 0 ∧ cv = 0) (hct : t.us.length ≤ cv)
    (hkc : ∀ c ∈ cs, c.kind = c.target ∧ (Lit.int .i64 c.id).wf = true ∧ (Lit.int .i64 c.target).wf = true) (hkt : ∀ l ∈ ts, ∀ c ∈ l, c.kind = c.target ∧ (Lit.int .i64 c.id).wf = true ∧ (Lit.int .i64 c.target).wf = true)
    (w : World) (hru : URow true w.heap.size w ua g.us) (hrc : ORow w.heap.size w la cs) (hru2 : URow true w.heap.size w ub t.us) (hrt : PRow w.heap.size w tb ts) :
    Calls Try.prog 6 #[.agg #[.int .i64 g.tick, .int .i64 g.g0, .int .i64 g.g1, .int .i64 g.next, .slice ua g.us.length cu], .slice la cs.length cl, .agg #[.int .i64 t.tick, .int .i64 t.g0, .int .i64 t.g1, .int .i64 t.next, .slice ub t.us.length cv, .slice tb ts.length ct], .int .i64 n] w (TrueBelow w) := by
  obtain ⟨W, hW⟩ : ∃ W, (w.alloc (.cells #[.int .i64 g.tick, .int .i64 g.g0, .int .i64 g.g1, .int .i64 g.next, .slice ua g.us.length cu] 65)).alloc (.cells #[.int .i64 t.tick, .int .i64 t.g0, .int .i64 t.g1, .int .i64 t.next, .slice ub t.us.length cv, .slice tb ts.length ct] 69) = W := ⟨_, rfl⟩
  have hbW : Below w.heap.size w W := by rw [← hW]; exact ((Below.refl _ _).alloc (Nat.le_refl _) _).alloc (by simp) _
  have k1 : Blk W w.heap.size #[.int .i64 g.tick, .int .i64 g.g0, .int .i64 g.g1, .int .i64 g.next, .slice ua g.us.length cu] := by rw [← hW]; exact (Blk.new w _ _).alloc _
  have k2 : Blk W (w.heap.size + 1) #[.int .i64 t.tick, .int .i64 t.g0, .int .i64 t.g1, .int .i64 t.next, .slice ub t.us.length cv, .slice tb ts.length ct] := by
    rw [← hW]
    have := Blk.new (w.alloc (.cells #[.int .i64 g.tick, .int .i64 g.g0, .int .i64 g.g1, .int .i64 g.next, .slice ua g.us.length cu] 65)) #[.int .i64 t.tick, .int .i64 t.g0, .int .i64 t.g1, .int .i64 t.next, .slice ub t.us.length cv, .slice tb ts.length ct] 69
    simpa using this
  have M0 := Lib.hid (⟨hbW, ⟨k1, (hru.below hbW).mono hbW.size⟩, k2, (hrc.below hbW).mono hbW.size, (hru2.below hbW).mono hbW.size, (hrt.below hbW).mono hbW.size⟩ : HoldR w W g ua cu cs la t ub tb cv ct ts)
  clear hbW k1 k2 hru hrc hru2 hrt
  have HGN := Lib.hid (⟨hgn, hgf⟩ : g.new = true ∧ g.free = [])
  have HTN := Lib.hid (⟨htn, htf⟩ : t.new = true ∧ t.free = [])
  have HNT := Lib.hid hnt
  have HKC := Lib.hid hkc
  have HKT := Lib.hid hkt
  have HTL := Lib.hid htl
  have HCL := Lib.hid hcl
  have HGL := Lib.hid hgl
  clear hgn hgf htn htf hnt hkc hkt htl
  go_enter Try.func6, Try.ntmps6
  go_upto_region 1 with fail
  try rw [hW]
  clear hW
  go_wp2_with fail
  refine (too_any _).mono ?_
  rintro e x1 ⟨rfl, b1⟩
  have M1 := Lib.hid (M0.out.call b1)
  clear b1
  have cE := M1.out.sv.blk.cell
  have lE := M1.out.sv.blk.lt
  have cT := M1.out.kT.cell
  have lT := M1.out.kT.lt
  by_cases hl : g.us.length ≤ 25
  case neg =>
    have dl : decide ((25 : Int) < (g.us.length : Int)) = true := decide_eq_true (by omega)
    clear hl
    go_wp2_with fail
    go_ret
    exact ⟨rfl, M1.out.bel⟩
  have dl : decide ((25 : Int) < (g.us.length : Int)) = false := decide_eq_false (by omega)
  by_cases hv : cs.length ≤ 12
  case neg =>
    have dv : decide ((12 : Int) < (cs.length : Int)) = true := decide_eq_true (by omega)
    clear hv
    go_wp2_with fail
    go_ret
    exact ⟨rfl, M1.out.bel⟩
  have dv : decide ((12 : Int) < (cs.length : Int)) = false := decide_eq_false (by omega)
  go_wp2_with fail
  refine (lightreel_any t ub tb cv ct ts _ M1.out.rt).mono ?_
  rintro e x3 ⟨LT, rfl, hLT, bx⟩
  have M3 := Lib.hid (M1.out.call bx)
  clear bx
  clear cE lE cT lT
  have cE := M3.out.sv.blk.cell
  have lE := M3.out.sv.blk.lt
  have cT := M3.out.kT.cell
  have lT := M3.out.kT.lt
  cases LT with
  | false =>
    clear hLT
    go_wp2_with fail
    go_ret
    exact ⟨rfl, M3.out.bel⟩
  | true =>
  have HL := Lib.hid (hLT rfl)
  clear hLT
  go_wp2_with fail
  refine (ownnewer_any g ua cu (by omega) _ M3.out.sv.ru).mono ?_
  rintro e x4 ⟨g2, cap2, rfl, bx, rp, hcapo⟩
  have M4 := Lib.hid (M3.out.call bx)
  clear bx
  have RP := Lib.hid rp
  clear rp
  clear cE lE cT lT
  have HNO : Hid ((some ⟨g2, 0, none⟩ : Option Addr) = none → g.us.length = 0 ∧ cap2 = 0) := Lib.hid (fun e => by cases e)
  obtain ⟨uo, huo⟩ : ∃ f, (some ⟨g2, 0, none⟩ : Option Addr) = f := ⟨_, rfl⟩
  rw [huo] at RP HNO
  try rw [huo]
  clear huo
  go_upto_region 5 with fail
  refine gen_world (fun V => HoldR w V g ua cu cs la t ub tb cv ct ts ∧ SVN V x4.heap.size g uo cap2) ⟨M4.out.call ((Below.refl _ _).alloc (Nat.le_refl _) _), SVN.new RP.out _⟩ ?_
  rintro x5 ⟨m5, s5⟩
  obtain ⟨pO, hpO⟩ : ∃ n, x4.heap.size = n := ⟨_, rfl⟩
  rw [hpO] at s5
  try rw [hpO]
  clear hpO RP
  have M5 := Lib.hid m5
  have S5 := Lib.hid s5
  clear m5 s5
  obtain ⟨va, vc, y1, gc, gcap, y3, r1, r2, hb6, rc6, hcap6⟩ := ords_grown x5 la cl cs hv M5.out.rc
  have M6 := Lib.hid (M5.out.call hb6)
  have S6 := Lib.hid (S5.out.call hb6)
  have RC6 := Lib.hid rc6
  clear hb6 rc6
  have hc0 : (0 : Int) ≤ (cs.length : Int) := by omega
  have hc1 : (cs.length : Int) ≤ ((cs.length + 1 : Nat) : Int) := by omega
  have hc2 : (cs.length : Int) ≤ (gcap : Int) := by omega
  go_upto_region 6 with (at_builtin; first | (refine list_run_append (by rfl) _ _ _ _ (by rfl) (by rfl) (by rfl) (by rfl) r1 ?_) | (refine list_run_append (by rfl) _ _ _ _ (by rfl) (by rfl) (by rfl) (by rfl) r2 ?_))
  clear r1 r2
  refine gen_world (fun V => HoldR w V g ua cu cs la t ub tb cv ct ts ∧ SVN V pO g uo cap2 ∧ ORow V.heap.size V (some ⟨gc, 0, none⟩) cs) ⟨M6.out, S6.out, RC6.out⟩ ?_
  clear M5 S5 M6 S6 RC6
  rintro x6 ⟨m6, s6, rc6⟩
  have M6 := Lib.hid m6
  have S6 := Lib.hid s6
  have RC6 := Lib.hid rc6
  clear m6 s6 rc6
  obtain ⟨X, hX⟩ : ∃ x, stepXN g cs = x := ⟨_, rfl⟩
  obtain ⟨F2, hF2⟩ : ∃ x, stepFault g cs = x := ⟨_, rfl⟩
  have HX := Lib.hid hX
  have HF2 := Lib.hid hF2
  clear hX hF2
  have cO := S6.out.blk.cell
  have lO := S6.out.blk.lt
  have cE := M6.out.sv.blk.cell
  have lE := M6.out.sv.blk.lt
  go_wp2_with fail
  refine (nstep_any g uo (some ⟨gc, 0, none⟩) cap2 gcap HGN.out.1 HGN.out.2 (by omega) cs HCL.out HKC.out _ S6.out.ru HNO.out hcapo RC6.out).mono ?_
  rintro e x7 hend
  have hall := stepallN_prog hend
  rw [HX.out, HF2.out] at hall
  clear hend
  obtain ⟨ux, uc, rfl, q2, b7⟩ := hall
  have M7 := Lib.hid (M6.out.call b7)
  have S7 := Lib.hid (S6.out.call b7)
  have Q2 := Lib.hid q2
  clear q2 b7 cO lO cE lE M6 S6 RC6
  go_upto_region 7 with fail
  refine gen_world (fun V => HoldR w V g ua cu cs la t ub tb cv ct ts ∧ SVN V pO g uo cap2 ∧ SVN V x7.heap.size X ux uc) ⟨M7.out.call ((Below.refl _ _).alloc (Nat.le_refl _) _), S7.out.call ((Below.refl _ _).alloc (Nat.le_refl _) _), SVN.new Q2.out _⟩ ?_
  rintro x8 ⟨m8, so8, sx8⟩
  obtain ⟨pX, hpX⟩ : ∃ n, x7.heap.size = n := ⟨_, rfl⟩
  rw [hpX] at sx8
  try rw [hpX]
  clear hpX M7 S7 Q2
  have M8 := Lib.hid m8
  have SO8 := Lib.hid so8
  have SX8 := Lib.hid sx8
  clear m8 so8 sx8
  have cE := M8.out.sv.blk.cell
  have lE := M8.out.sv.blk.lt
  go_wp2_with fail
  refine (refstepn_any g ua la cu cl HGN.out.1 HGN.out.2 (by omega) cs (by omega) (fun c hc => (HKC.out c hc).1) _ M8.out.sv.ru M8.out.rc).mono ?_
  rintro e x9 hend
  have hall := stepallN_ref hend
  rw [HX.out, HF2.out] at hall
  clear hend
  obtain ⟨uy, ud, rfl, q2, b9⟩ := hall
  have M9 := Lib.hid (M8.out.call b9)
  have SO9 := Lib.hid (SO8.out.call b9)
  have SX9 := Lib.hid (SX8.out.call b9)
  have Q2 := Lib.hid q2
  clear q2 b9 cE lE M8 SO8 SX8
  go_upto_region 8 with fail
  refine gen_world (fun V => HoldR w V g ua cu cs la t ub tb cv ct ts ∧ SVN V pO g uo cap2 ∧ SVN V pX X ux uc ∧ SVN V x9.heap.size X uy ud) ⟨M9.out.call ((Below.refl _ _).alloc (Nat.le_refl _) _), SO9.out.call ((Below.refl _ _).alloc (Nat.le_refl _) _), SX9.out.call ((Below.refl _ _).alloc (Nat.le_refl _) _), SVN.new Q2.out _⟩ ?_
  rintro V ⟨m10, so10, sx10, sy10⟩
  obtain ⟨pY, hpY⟩ : ∃ n, x9.heap.size = n := ⟨_, rfl⟩
  rw [hpY] at sy10
  try rw [hpY]
  clear hpY M9 SO9 SX9 Q2
  have M10 := Lib.hid m10
  have SO := Lib.hid so10
  have SX := Lib.hid sx10
  have SY := Lib.hid sy10
  clear m10 so10 sx10 sy10
  obtain ⟨F, hF⟩ : ∃ x, faultOf g = x := ⟨_, rfl⟩
  have HF := Lib.hid hF
  clear hF
  have cO := SO.out.blk.cell
  have lO := SO.out.blk.lt
  have cE := M10.out.sv.blk.cell
  have lE := M10.out.sv.blk.lt
  have cX := SX.out.blk.cell
  have lX := SX.out.blk.lt
  have cY := SY.out.blk.cell
  have lY := SY.out.blk.lt
  haveI := Kw.ne (fun _ => False) V
  have kxO : ∀ (x : Kw (fun _ => False) V) (o : Nat), x.w.cell? ⟨pO, o, none⟩ = V.cell? ⟨pO, o, none⟩ := fun x o => x.cell _ _ lO (fun h => h)
  have kxE : ∀ (x : Kw (fun _ => False) V) (o : Nat), x.w.cell? ⟨w.heap.size, o, none⟩ = V.cell? ⟨w.heap.size, o, none⟩ := fun x o => x.cell _ _ lE (fun h => h)
  have kxX : ∀ (x : Kw (fun _ => False) V) (o : Nat), x.w.cell? ⟨pX, o, none⟩ = V.cell? ⟨pX, o, none⟩ := fun x o => x.cell _ _ lX (fun h => h)
  have kxY : ∀ (x : Kw (fun _ => False) V) (o : Nat), x.w.cell? ⟨pY, o, none⟩ = V.cell? ⟨pY, o, none⟩ := fun x o => x.cell _ _ lY (fun h => h)
  have HBK := Lib.hid (fun (x : World) (h : Kp (fun _ => False) V x) => (h.below (fun _ h => h.elim) (Nat.le_refl _) : Below V.heap.size V x))
  have HFEW := Lib.hid (show X.us.length ≤ 20 from by rw [← HX.out]; exact stepXN_few HGN.out.1 HGN.out.2 cs)
  have HBT := Lib.hid (back_true HGN.out.1 HGN.out.2)
  refine region_mix 24 [(false, 0), (false, 2), (true, 1), (true, 3), (true, 4), (true, 5), (false, 6), (false, 7), (false, 8), (false, 9), (true, 10), (false, 11), (false, 12), (false, 13), (false, 14), (false, 15), (true, 16), (false, 17), (false, 18), (false, 19), (false, 20), (false, 21), (true, 22), (false, 23)] (kcl (fun _ => False) V (fun _ => True) (fun _ _ _ _ => trivial)) ⟨Kp.drew _ _, trivial⟩ (by kernel_rfl) (by kernel_rfl) ?_
  simp only [stepsOf, List.filterMap_cons, List.filterMap_nil, List.getElem?_toArray, List.getElem?_cons_zero, List.getElem?_cons_succ, Option.map_some, List.drop_succ_cons, List.drop_zero]
  iterate 2 (refine mix_readK (fun K hK => ?_); go_simp; refine hK _ ?_; clear hK K)
  refine mix_call (ι := Unit) (fun _ => errV F) (fun _ => kcl (fun _ => False) V (fun _ => True) (fun _ _ _ _ => trivial)) 46 #[.agg #[.int .i64 g.tick, .int .i64 g.g0, .int .i64 g.g1, .int .i64 g.next, .slice uo g.us.length cap2]] rfl (fun x => by simp [go_sem]) (fun x hx => ?_) (fun _ => ?_)
  · have hb := HBK.out x hx.1
    refine (ncheck_any g uo cap2 HGN.out.1 HGN.out.2 HGL.out x (SO.out.call hb).ru HNO.out hcapo).mono ?_
    rintro e x' ⟨rfl, hb'⟩
    exact ⟨(), by rw [HF.out], hx.1.then_ hb', trivial⟩
  refine mix_call (ι := Nat × Nat × Value × Value) (fun q => .pointer (some ⟨q.2.1, 0, none⟩)) (fun q => kcl (fun _ => False) V (fun x => GR x q.1 q.2.1 (backG true g) [] q.2.2.1 q.2.2.2 (.slice none 0 0)) (fun _ _ h hb => h.call hb)) 47 #[.agg #[.int .i64 g.tick, .int .i64 g.g0, .int .i64 g.g1, .int .i64 g.next, .slice ua g.us.length cu]] rfl (fun x => by simp [go_sem]) (fun x hx => ?_) (fun q => ?_)
  · have hb := HBK.out x hx.1
    refine (ofnewer_any g ua cu (by omega) x (M10.out.call hb).sv.ru).mono ?_
    rintro e x' ⟨S, fv, uv, rfl, gr, hb'⟩
    exact ⟨(_, S, fv, uv), rfl, hx.1.then_ hb', gr⟩
  refine mix_call (ι := Unit) (fun _ => .int .i64 (F : Nat)) (fun _ => kcl (fun _ => False) V (fun _ => True) (fun _ _ _ _ => trivial)) 48 #[.pointer (some ⟨q.2.1, 0, none⟩)] rfl (fun x => by simp [go_sem]) (fun x hx => ?_) (fun _ => ?_)
  · have hx2 := hx.2
    rw [HBT.out] at hx2
    refine (fault_game hx2 (by rw [HGN.out.2]; exact Nat.zero_le _) (by omega)).mono ?_
    rintro e x' ⟨rfl, hb'⟩
    exact ⟨(), by rw [HF.out], hx.1.then_ hb', trivial⟩
  refine mix_call (ι := Unit) (fun _ => .bool true) (fun _ => kcl (fun _ => False) V (fun _ => True) (fun _ _ _ _ => trivial)) 31 #[errV F, .int .i64 (F : Nat)] rfl (fun x => by simp [go_sem]) (fun x hx => ?_) (fun _ => ?_)
  · have hb := HBK.out x hx.1
    refine (same_any F F x).mono ?_
    rintro e x' ⟨rfl, rfl⟩
    exact ⟨(), by simp, hx.1, trivial⟩
  iterate 4 (refine mix_readK (fun K hK => ?_); go_simp; refine hK _ ?_; clear hK K)
  refine mix_call (ι := Unit) (fun _ => .bool true) (fun _ => kcl (fun _ => False) V (fun _ => True) (fun _ _ _ _ => trivial)) 31 #[errV F2, .int .i64 (F2 : Nat)] rfl (fun x => by simp [go_sem]) (fun x hx => ?_) (fun _ => ?_)
  · have hb := HBK.out x hx.1
    refine (same_any F2 F2 x).mono ?_
    rintro e x' ⟨rfl, rfl⟩
    exact ⟨(), by simp, hx.1, trivial⟩
  iterate 5 (refine mix_readK (fun K hK => ?_); go_simp; refine hK _ ?_; clear hK K)
  refine mix_call (ι := Unit) (fun _ => .bool true) (fun _ => kcl (fun _ => False) V (fun _ => True) (fun _ _ _ _ => trivial)) 49 #[.agg #[.int .i64 X.tick, .int .i64 X.g0, .int .i64 X.g1, .int .i64 X.next, .slice ux X.us.length uc], .agg #[.int .i64 X.tick, .int .i64 X.g0, .int .i64 X.g1, .int .i64 X.next, .slice uy X.us.length ud]] rfl (fun x => by simp [go_sem]) (fun x hx => ?_) (fun _ => ?_)
  · have hb := HBK.out x hx.1
    refine (samenewer_any X.tick X.g0 X.g1 X.next X.us ux uy uc ud (by have := HFEW.out; omega) x (SX.out.call hb).ru (SY.out.call hb).ru).mono ?_
    rintro e x' ⟨rfl, hb'⟩
    exact ⟨(), rfl, hx.1.then_ hb', trivial⟩
  iterate 5 (refine mix_readK (fun K hK => ?_); go_simp; refine hK _ ?_; clear hK K)
  refine mix_call (ι := Unit) (fun _ => .bool true) (fun _ => kcl (fun _ => False) V (fun _ => True) (fun _ _ _ _ => trivial)) 49 #[.agg #[.int .i64 g.tick, .int .i64 g.g0, .int .i64 g.g1, .int .i64 g.next, .slice uo g.us.length cap2], .agg #[.int .i64 g.tick, .int .i64 g.g0, .int .i64 g.g1, .int .i64 g.next, .slice ua g.us.length cu]] rfl (fun x => by simp [go_sem]) (fun x hx => ?_) (fun _ => ?_)
  · have hb := HBK.out x hx.1
    refine (samenewer_any g.tick g.g0 g.g1 g.next g.us uo ua cap2 cu (by omega) x (SO.out.call hb).ru (M10.out.call hb).sv.ru).mono ?_
    rintro e x' ⟨rfl, hb'⟩
    exact ⟨(), rfl, hx.1.then_ hb', trivial⟩
  iterate 1 (refine mix_readK (fun K hK => ?_); go_simp; refine hK _ ?_; clear hK K)
  refine mix_nil ?_
  rintro w9 ⟨k9, -⟩
  have M11 := Lib.hid (M10.out.call (HBK.out _ k9))
  clear k9 kxO kxE kxX kxY cO lO cE lE cX lX cY lY HBK HFEW SO SX SY M10 HF HX HF2 HBT
  obtain ⟨Z, hZ⟩ : ∃ x, (playNN t ts n).2 = x := ⟨_, rfl⟩
  obtain ⟨F3, hF3⟩ : ∃ x, (playNN t ts n).1 = x := ⟨_, rfl⟩
  have HZ := Lib.hid hZ
  have HF3 := Lib.hid hF3
  clear hZ hF3
  have cT := M11.out.kT.cell
  have lT := M11.out.kT.lt
  go_simp
  go_wp2_with fail
  refine (playallN_prog t ub tb cv ct HTN.out.1 HTN.out.2 (by have := HL.out.2.2; omega) HNT.out hct ts (by have := HL.out.1; omega) hcap HKT.out n _ M11.out.ru M11.out.rt).mono ?_
  rintro e x12 hall
  rw [HZ.out, HF3.out] at hall
  obtain ⟨up, uq, rfl, q2, b12⟩ := hall
  have M12 := Lib.hid (M11.out.call b12)
  have Q2 := Lib.hid q2
  clear q2 b12 cT lT M11
  go_upto_region 11 with fail
  refine gen_world (fun V => HoldR w V g ua cu cs la t ub tb cv ct ts ∧ SVN V x12.heap.size Z up uq) ⟨M12.out.call ((Below.refl _ _).alloc (Nat.le_refl _) _), SVN.new Q2.out _⟩ ?_
  rintro x13 ⟨m13, sz13⟩
  obtain ⟨pZ, hpZ⟩ : ∃ n, x12.heap.size = n := ⟨_, rfl⟩
  rw [hpZ] at sz13
  try rw [hpZ]
  clear hpZ M12 Q2
  have M13 := Lib.hid m13
  have SZ13 := Lib.hid sz13
  clear m13 sz13
  have cT := M13.out.kT.cell
  have lT := M13.out.kT.lt
  go_wp2_with fail
  refine (playallN_ref t ub tb cv ct HTN.out.1 HTN.out.2 (by have := HL.out.2.2; omega) ts (by have := HL.out.1; omega) hcap (fun l hl => by
    obtain ⟨k, hk, rfl⟩ := List.getElem_of_mem hl
    have := HL.out.2.1 k hk
    rw [List.getD_eq_getElem?_getD, List.getElem?_eq_getElem hk, Option.getD_some] at this
    omega) (fun l hl c hc => (HKT.out l hl c hc).1) n _ M13.out.ru M13.out.rt).mono ?_
  rintro e x14 hall
  rw [HZ.out, HF3.out] at hall
  obtain ⟨ur, us', rfl, q2, b14⟩ := hall
  have M14 := Lib.hid (M13.out.call b14)
  have SZ14 := Lib.hid (SZ13.out.call b14)
  have Q2 := Lib.hid q2
  clear q2 b14 cT lT M13 SZ13
  go_upto_region 12 with fail
  refine gen_world (fun V => HoldR w V g ua cu cs la t ub tb cv ct ts ∧ SVN V pZ Z up uq ∧ SVN V x14.heap.size Z ur us') ⟨M14.out.call ((Below.refl _ _).alloc (Nat.le_refl _) _), SZ14.out.call ((Below.refl _ _).alloc (Nat.le_refl _) _), SVN.new Q2.out _⟩ ?_
  rintro x15 ⟨m15, sz15, sy15⟩
  obtain ⟨pR, hpR⟩ : ∃ n, x14.heap.size = n := ⟨_, rfl⟩
  rw [hpR] at sy15
  try rw [hpR]
  clear hpR M14 SZ14 Q2
  have HFEW := Lib.hid (show Z.us.length ≤ 20 by rw [← HZ.out]; exact playNN_few HTN.out.1 HTN.out.2 ts n)
  have dd3 : (F3 == F3) = true := by simp
  have SZ := Lib.hid sz15
  have SR := Lib.hid sy15
  have M15 := Lib.hid m15
  clear m15 sz15 sy15
  have cZ := SZ.out.blk.cell
  have lZ := SZ.out.blk.lt
  have cR := SR.out.blk.cell
  have lR := SR.out.blk.lt
  go_wp2_with fail
  refine (same_any F3 F3 _).mono ?_
  rintro e y ⟨rfl, rfl⟩
  rw [dd3]
  go_wp2_with fail
  refine (samenewer_any Z.tick Z.g0 Z.g1 Z.next Z.us up ur uq us' (by have := HFEW.out; omega) _ SZ.out.ru SR.out.ru).mono ?_
  rintro e x16 ⟨rfl, b16⟩
  go_wp2_with fail
  go_ret
  exact ⟨rfl, M15.out.bel.trans (b16.mono M15.out.bel.size)⟩
end Go.Proofs.Ytlfljlhppigejaa
