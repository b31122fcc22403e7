/-
  The walk of the document's TapeFault.
-/
import Derived.Test.YtlfljlhppigejaaPackRef
import Derived.Test.YtlfljlhppigejaaTapeAll
import Derived.Test.YtlfljlhppigejaaCmdRow
namespace Go.Proofs.Ytlfljlhppigejaa
open Go.RowKit

theorem min8_run {P : Program} {w : World} (ts : Array TypeId) (t : TypeId) (a0 a1 a2 a3 a4 a5 a6 a7 : Int) : (Builtin.min_ ts t #[.int .i64 a0, .int .i64 a1, .int .i64 a2, .int .i64 a3, .int .i64 a4, .int .i64 a5, .int .i64 a6, .int .i64 a7]).run P w = .ok (.int .i64 (mnI (mnI (mnI (mnI (mnI (mnI (mnI a0 a1) a2) a3) a4) a5) a6) a7)) w := by
  rfl
attribute [local go_sem] min8_run

set_option maxHeartbeats 6400000 in
set_option maxRecDepth 100000 in
theorem reftapeFault_any (g : G) (fa ua ta : Option Addr) (cf cu ct : Nat) (hnew : g.new = false) (hlf : g.free.length ≤ 100000) (hlu : g.us.length ≤ 100000) (ts : List (List Cm)) (hlen : ts.length ≤ maxLen) (w : World) (hf : Row w.heap.size w fa g.free.length (fun k => .int .i64 (g.free.getD k 0))) (hu : URow false w.heap.size w ua g.us) (ht : TRow w.heap.size w ta ts) :
    Calls Try.prog 137 #[.agg #[.int .i64 g.tick, .int .i64 g.g0, .int .i64 g.g1, .int .i64 g.next, .slice fa g.free.length cf, .slice ua g.us.length cu, .slice ta ts.length ct]] w fun e w' => e = .returned (.int .i64 (tapeFault g ts : Nat)) ∧ Below w.heap.size w w' := by
  have hm : maxLen ≤ 9223372036854775807 := by unfold maxLen; decide
  obtain ⟨W, hW⟩ : ∃ W, w.alloc (.cells #[.int .i64 g.tick, .int .i64 g.g0, .int .i64 g.g1, .int .i64 g.next, .slice fa g.free.length cf, .slice ua g.us.length cu, .slice ta ts.length ct] 94) = W := ⟨_, rfl⟩
  have hbW : Below w.heap.size w W := by rw [← hW]; exact (Below.refl _ _).alloc (Nat.le_refl _) _
  have kR : Blk W w.heap.size #[.int .i64 g.tick, .int .i64 g.g0, .int .i64 g.g1, .int .i64 g.next, .slice fa g.free.length cf, .slice ua g.us.length cu, .slice ta ts.length ct] := by rw [← hW]; exact Blk.new w _ _
  have hsW := hbW.size
  obtain ⟨lR, cR, -⟩ := id kR
  have HBK : Hid (faultOf (backG false g) = faultOf g) := Lib.hid (fault_back false g hnew (fun h => by cases h))
  have HT := Lib.hid ((ht.below hbW).mono hsW)
  have HU := Lib.hid ((hu.below hbW).mono hsW)
  have HW := Lib.hid hbW
  have KR := Lib.hid kR
  have HFR := Lib.hid ((hf.below hbW).mono hsW)
  clear hf
  clear hbW kR ht hu
  go_enter Try.func137, Try.ntmps137
  go_upto_region 1 with fail
  try rw [hW]
  clear hW
  go_wp2_with fail
  refine (ofelder_any g fa ua cf cu hlf hlu _ HFR.out HU.out).mono ?_
  rintro e w5 ⟨S5, fv5, uv5, rfl, gr5, b5⟩
  have GR5 := Lib.hid gr5
  have B5 := Lib.hid b5
  have hs5 := b5.size
  clear gr5 b5
  go_wp2_with fail
  refine (fault_game GR5.out (by first | (simp [backG]; done) | (simp [backG]; omega)) (by first | (simp [backG]; done) | (simp [backG]; omega))).mono ?_
  rintro e w4 ⟨rfl, b4'⟩
  rw [HBK.out]
  have b4 := B5.out.trans (b4'.mono hs5)
  have k4 := KR.out.call b4
  have K4 := Lib.hid k4
  have HB4 := Lib.hid (HW.out.trans (b4.mono hsW))
  have HT4 := Lib.hid ((HT.out.below b4).mono b4.size)
  have hs4 := HB4.out.size
  obtain ⟨l4, c4, -⟩ := id k4
  obtain ⟨f0, hf0⟩ : ∃ x, faultOf g = x := ⟨_, rfl⟩
  rw [hf0]
  have HF0 := Lib.hid hf0
  clear b4 b4' k4 hf0 cR lR
  by_cases h0 : f0 = 0
  case neg =>
    have d2 : decide ((0 : Int) < (f0 : Int)) = true := decide_eq_true (by omega)
    have d2' : decide (0 < f0) = true := decide_eq_true (by omega)
    have HH : Hid (tapeFault g ts = f0) := Lib.hid (by show _ = _; unfold tapeFault; rw [HF0.out, if_pos h0])
    clear h0
    go_wp2_with fail
    go_ret
    exact ⟨ret1 (nat_int HH.out), HB4.out⟩
  subst h0
  have hgt := ((right_iff g).1 HF0.out).head
  have ht0 : 0 ≤ g.tick ∧ g.tick ≤ 60 := by unfold headBad at hgt; omega
  have hw1 : IntKind.i64.wrap (60 - g.tick) = 60 - g.tick := IntWalk.i64_in _ (by omega)
  have HDEF : Hid (tapeFault g ts = if cntFault ts g.tick ≠ 0 then cntFault ts g.tick else if ts.any (fun l => l.any negC) = true then 1 else 0) := Lib.hid (by show _ = _; unfold tapeFault; rw [HF0.out, if_neg (by simp)])
  clear hgt
  by_cases hb : 60 - g.tick < (ts.length : Int)
  · have d0 : decide (60 - g.tick < (ts.length : Int)) = true := decide_eq_true hb
    have HH : Hid (tapeFault g ts = 2) := Lib.hid (by
      have h2 : cntFault ts g.tick = 2 := by unfold cntFault; rw [if_pos (Or.inl hb)]
      show _ = _
      rw [HDEF.out, h2, if_pos (by simp)])
    clear hb
    go_wp2_with fail
    go_ret
    exact ⟨ret1 (nat_int HH.out), HB4.out⟩
  have d0 : decide (60 - g.tick < (ts.length : Int)) = false := decide_eq_false hb
  have ht60 : ts.length ≤ 60 := by omega
  have HNB := Lib.hid hb
  have hn0 : (0 : Int) ≤ (ts.length : Int) := by omega
  clear hb
  go_wp2_with fail
  go_loopw [4, 5, 6, 7] (fun lo i _ _ wr => ∃ (k : Nat) (L : Int), i = .int .i64 k ∧ k ≤ ts.length ∧ lo = .int .i64 L ∧ ((L < 0 ↔ (ts.take k).any (fun l => l.any negC) = true) ∧ (ts.take k).any (fun l => decide (8 < l.length)) = false ∧ Below w4.heap.size w4 wr)) (fun _ i _ _ _ => (ts.length - intOf i).toNat)
  case atStart => exact ⟨0, 0, rfl, by omega, rfl, by simp, by simp, Below.refl _ _⟩
  case round =>
    obtain ⟨k, L, rfl, hk, rfl, hL, h8, hX⟩ := hrel
    have HX := Lib.hid hX
    have HL := Lib.hid hL
    have H8 := Lib.hid h8
    have hszr := hX.size
    obtain ⟨lr, cr, -⟩ := id (K4.out.call hX)
    clear hX hL h8 c4
    by_cases hlt : k < ts.length
    · obtain ⟨l, hl⟩ : ∃ l, ts.getD k [] = l := ⟨_, rfl⟩
      obtain ⟨b, o, la, cl, hta, hbB, hc, hcr, hll⟩ := (HT4.out.below HX.out).get k hlt l hl
      subst hta
      have hki : (0 : Int) ≤ (k : Int) := by omega
      have hkl : (k : Int) < (ts.length : Int) := by omega
      have hbr : b < wr.heap.size := by omega
      have HCR := Lib.hid hcr
      have HLL := Lib.hid hl
      clear hl hcr
      by_cases hg8 : 8 < l.length
      · have d8 : decide ((8 : Int) < (l.length : Int)) = true := decide_eq_true (by omega)
        have HH : Hid (tapeFault g ts = 2) := Lib.hid (by
          have h2 : cntFault ts g.tick = 2 := by
            unfold cntFault
            rw [if_pos (Or.inr ?_)]
            rw [List.any_eq_true]
            refine ⟨l, ?_, by simpa using hg8⟩
            rw [← HLL.out]
            simp [List.getD, hlt]
          show _ = _
          rw [HDEF.out, h2, if_pos (by simp)])
        clear hg8
        go_wp2_with fail
        go_ret
        exact ⟨ret1 (nat_int HH.out), HB4.out.trans (HX.out.mono hs4)⟩
      have d8 : decide ((8 : Int) < (l.length : Int)) = false := decide_eq_false (by omega)
      have HG8 := Lib.hid hg8
      have hl0 : (0 : Int) ≤ (l.length : Int) := by omega
      obtain ⟨wo, rfl⟩ : ∃ x, x = wr := ⟨_, rfl⟩
      clear hg8
      go_wp2_with fail
      clear cr
      go_loopw [4, 6, 7] (fun lo i _ wx => ∃ (j : Nat) (M : Int), i = .int .i64 j ∧ j ≤ l.length ∧ lo = .int .i64 M ∧ ((M < 0 ↔ (L < 0 ∨ (l.take j).any negC = true)) ∧ Below wo.heap.size wo wx)) (fun _ i _ _ => (l.length - intOf i).toNat)
      case atStart => exact ⟨0, L, rfl, by omega, rfl, by simp, Below.refl _ _⟩
      case round =>
        obtain ⟨j, M, rfl, hj, rfl, hM, hY⟩ := hrel
        have HY := Lib.hid hY
        have HM := Lib.hid hM
        have hszy := hY.size
        obtain ⟨ly, cy, -⟩ := id (K4.out.call (HX.out.trans (hY.mono hszr)))
        have hcy := (hY.cell (p := ⟨b, o + k, none⟩) hbr).trans hc
        clear hY hM
        have hby : b < wr.heap.size := by omega
        by_cases hjl : j < l.length
        · obtain ⟨c, hcx⟩ : ∃ c, l.getD j zeroC = c := ⟨_, rfl⟩
          obtain ⟨b2, o2, hla, hbB2, q0, q1, q2, q3, q4, q5, q6⟩ := (HCR.out.below (HY.out.mono hszr)).get j hjl c hcx
          subst hla
          have hbr2 : b2 < wr.heap.size := by omega
          have hji : (0 : Int) ≤ (j : Int) := by omega
          have hjk : (j : Int) < (l.length : Int) := by omega
          have hnx : (l.take (j + 1)).any negC = ((l.take j).any negC || negC c) := by
            rw [takeC_at hjl, hcx]; simp
          have HNX := Lib.hid hnx
          clear hcx hnx
          go_wp2_with fail
          go_roundw
          case rel =>
            refine ⟨j + 1, mnI (mnI (mnI (mnI (mnI (mnI (mnI M c.player) c.op) c.id) c.kind) c.x) c.y) c.target, by go_num, by omega, rfl, ?_, HY.out.alloc hszy _⟩
            rw [HNX.out, Bool.or_eq_true]
            simp only [mnI_neg]
            rw [HM.out]
            unfold negC
            rw [decide_eq_true_eq]
            simp only [or_assoc]
          case measure => simp [intOf]; omega
        · obtain rfl : j = l.length := by omega
          have hMM := HM.out
          rw [List.take_length] at hMM
          have HMM := Lib.hid hMM
          have hcy2 := hcy
          clear hMM
          go_wp2_with fail
          go_roundw
          case rel =>
            refine ⟨k + 1, M, by go_num, by omega, rfl, ?_, ?_, HX.out.trans (HY.out.mono hszr)⟩
            · rw [takeT_at hlt, HLL.out, List.any_append, Bool.or_eq_true, HMM.out, HL.out]
              simp
            · rw [takeT_at hlt, HLL.out, List.any_append, H8.out]
              simp only [List.any_cons, List.any_nil, Bool.or_false, Bool.false_or, decide_eq_false_iff_not]
              exact HG8.out
          case measure => simp [intOf]; omega
    · obtain rfl : k = ts.length := by omega
      have hLL := HL.out
      have h88 := H8.out
      rw [List.take_length] at hLL h88
      have HC0 : Hid (cntFault ts g.tick = 0) := Lib.hid (by
        show _ = _
        unfold cntFault
        rw [if_neg]
        rintro (h | h)
        · have := HNB.out; omega
        · rw [h88] at h; cases h)
      have HBR := Lib.hid (HB4.out.trans (HX.out.mono hs4))
      by_cases hneg : L < 0
      · have d : decide (L < 0) = true := decide_eq_true hneg
        have HH : Hid (tapeFault g ts = 1) := Lib.hid (by show _ = _; rw [HDEF.out, HC0.out, if_neg (by simp), if_pos (hLL.1 hneg)])
        clear hneg hLL h88
        go_wp2_with fail
        go_ret
        exact ⟨ret1 (nat_int HH.out), HBR.out⟩
      · have d : decide (L < 0) = false := decide_eq_false hneg
        have HH : Hid (tapeFault g ts = 0) := Lib.hid (by show _ = _; rw [HDEF.out, HC0.out, if_neg (by simp), if_neg (fun h => hneg (hLL.2 h))])
        clear hneg hLL h88
        go_wp2_with fail
        go_ret
        exact ⟨ret1 (nat_int HH.out), HBR.out⟩
end Go.Proofs.Ytlfljlhppigejaa
