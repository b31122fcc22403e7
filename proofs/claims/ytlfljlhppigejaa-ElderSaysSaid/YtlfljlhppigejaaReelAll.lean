/-
  Reels: how they lie in memory; the walk of snap.CheckReel.
-/
import Derived.Test.YtlfljlhppigejaaTapeAll
import Derived.Test.YtlfljlhppigejaaNewCheck
namespace Go.Proofs.Ytlfljlhppigejaa
open Go.RowKit

def cellsO (c : Cm) : List Value := [.int .i64 c.player, .int .i64 c.op, .int .i64 c.id, .int .i64 c.kind, .int .i64 c.x, .int .i64 c.y]
/-- Orders lie from a on. -/
def ORow (B : Nat) (w : World) (a : Option Addr) (cs : List Cm) : Prop :=
  ∀ i, i < cs.length → ∃ b o, a = some ⟨b, o, none⟩ ∧ b < B ∧ ∀ j, j < 6 → w.cell? ⟨b, o + i * 6 + j, none⟩ = (cellsO (cs.getD i zeroC))[j]?
theorem ORow.below {B : Nat} {w w' : World} {a : Option Addr} {cs : List Cm} (h : ORow B w a cs) (hb : Below B w w') : ORow B w' a cs :=
  fun i hi => let ⟨b, o, h1, h2, h3⟩ := h i hi; ⟨b, o, h1, h2, fun j hj => (hb.cell (p := ⟨b, _, none⟩) h2).trans (h3 j hj)⟩
theorem ORow.get {B : Nat} {w : World} {a : Option Addr} {cs : List Cm} (h : ORow B w a cs) (i : Nat) (hi : i < cs.length) (c : Cm) (hc : cs.getD i zeroC = c) :
    ∃ b o, a = some ⟨b, o, none⟩ ∧ b < B ∧ w.cell? ⟨b, o + i * 6, none⟩ = some (.int .i64 c.player) ∧ w.cell? ⟨b, o + i * 6 + 1, none⟩ = some (.int .i64 c.op) ∧ w.cell? ⟨b, o + i * 6 + 2, none⟩ = some (.int .i64 c.id) ∧ w.cell? ⟨b, o + i * 6 + 3, none⟩ = some (.int .i64 c.kind) ∧
      w.cell? ⟨b, o + i * 6 + 4, none⟩ = some (.int .i64 c.x) ∧ w.cell? ⟨b, o + i * 6 + 5, none⟩ = some (.int .i64 c.y) := by
  obtain ⟨b, o, h1, h2, h3⟩ := h i hi
  rw [hc] at h3
  exact ⟨b, o, h1, h2, h3 0 (by decide), h3 1 (by decide), h3 2 (by decide), h3 3 (by decide), h3 4 (by decide), h3 5 (by decide)⟩
theorem ORow.mono {B B' : Nat} {w : World} {a : Option Addr} {cs : List Cm} (h : ORow B w a cs) (hb : B ≤ B') : ORow B' w a cs :=
  fun i hi => let ⟨b, o, h1, h2, h3⟩ := h i hi; ⟨b, o, h1, Nat.lt_of_lt_of_le h2 hb, h3⟩
/-- Ticks lie from a on. -/
def PRow (B : Nat) (w : World) (a : Option Addr) (ts : List (List Cm)) : Prop :=
  ∀ i, i < ts.length → ∃ b o la cl, a = some ⟨b, o, none⟩ ∧ b < B ∧ w.cell? ⟨b, o + i, none⟩ = some (.slice la (ts.getD i []).length cl) ∧ ORow B w la (ts.getD i []) ∧ (ts.getD i []).length ≤ maxLen
theorem PRow.below {B : Nat} {w w' : World} {a : Option Addr} {ts : List (List Cm)} (h : PRow B w a ts) (hb : Below B w w') : PRow B w' a ts :=
  fun i hi => let ⟨b, o, la, cl, h1, h2, h3, h4, h5⟩ := h i hi; ⟨b, o, la, cl, h1, h2, (hb.cell (p := ⟨b, _, none⟩) h2).trans h3, h4.below hb, h5⟩
theorem PRow.mono {B B' : Nat} {w : World} {a : Option Addr} {ts : List (List Cm)} (h : PRow B w a ts) (hb : B ≤ B') : PRow B' w a ts :=
  fun i hi => let ⟨b, o, la, cl, h1, h2, h3, h4, h5⟩ := h i hi; ⟨b, o, la, cl, h1, Nat.lt_of_lt_of_le h2 hb, h3, h4.mono hb, h5⟩
theorem PRow.get {B : Nat} {w : World} {a : Option Addr} {ts : List (List Cm)} (h : PRow B w a ts) (i : Nat) (hi : i < ts.length) (l : List Cm) (hl : ts.getD i [] = l) :
    ∃ b o la cl, a = some ⟨b, o, none⟩ ∧ b < B ∧ w.cell? ⟨b, o + i, none⟩ = some (.slice la l.length cl) ∧ ORow B w la l ∧ l.length ≤ maxLen := by
  have := h i hi
  rw [hl] at this
  exact this

def negO (c : Cm) : Bool := decide (c.player < 0 ∨ c.op < 0 ∨ c.id < 0 ∨ c.kind < 0 ∨ c.x < 0 ∨ c.y < 0)
def reelFault (g : G) (ts : List (List Cm)) : Nat :=
  if faultOf g ≠ 0 then faultOf g else if cntFault ts g.tick ≠ 0 then cntFault ts g.tick else if ts.any (fun l => l.any negO) = true then 1 else 0
def min6 (a b c d e f : Int) : Int := mnI (mnI (mnI (mnI (mnI a b) c) d) e) f
theorem min6_neg (c : Cm) : decide (min6 c.player c.op c.id c.kind c.x c.y < 0) = negO c := by
  unfold min6 negO
  rw [decide_eq_decide]
  simp only [mnI_neg]
  omega
theorem run_min6 {P : Program} {w : World} (ts : Array TypeId) (t : TypeId) (a b c d e f : Int) : (Builtin.min_ ts t #[.int .i64 a, .int .i64 b, .int .i64 c, .int .i64 d, .int .i64 e, .int .i64 f]).run P w = .ok (.int .i64 (min6 a b c d e f)) w := by
  rfl
attribute [local go_sem] run_min6

set_option maxHeartbeats 1600000 in
theorem countsO_any (ts : List (List Cm)) (ta : Option Addr) (ct : Nat) (tick : Int) (h0 : 0 ≤ tick) (h6 : tick ≤ 60) (hlen : ts.length ≤ maxLen) (w : World) (ht : PRow w.heap.size w ta ts) :
    Calls Try.prog 170 #[.slice ta ts.length ct, .int .i64 tick] w fun e w' => e = .returned (errV (cntFault ts tick)) ∧ w = w' := by
  have HT := Lib.hid ht
  have hm : maxLen ≤ 9223372036854775807 := by unfold maxLen; decide
  have hw : IntKind.i64.wrap (60 - tick) = 60 - tick := IntWalk.i64_in _ (by omega)
  clear ht
  by_cases hb : 60 - tick < (ts.length : Int)
  · have d0 : decide (60 - tick < (ts.length : Int)) = true := decide_eq_true hb
    have HF : Hid (cntFault ts tick = 2) := Lib.hid (by show _ = _; unfold cntFault; rw [if_pos (Or.inl hb)])
    clear hb
    go_enter Try.func170, Try.ntmps170
    go_wp2_with fail
    go_ret
    exact ⟨ret1 (by rw [HF.out]; rfl), rfl⟩
  have d0 : decide (60 - tick < (ts.length : Int)) = false := decide_eq_false hb
  have HB := Lib.hid hb
  clear hb
  go_enter Try.func170, Try.ntmps170
  go_wp2_with fail
  go_loopw [6, 15] (fun l i wr => ∃ k : Nat, i = .int .i64 k ∧ k ≤ ts.length ∧ ((ts.take k).any (fun l => decide (8 < l.length)) = false ∧ w = wr)) (fun _ i _ => (ts.length - intOf i).toNat)
  case atStart => exact ⟨0, rfl, by omega, (by simp), rfl⟩
  case round =>
    obtain ⟨k, rfl, hk, hX, rfl⟩ := hrel
    have HX := Lib.hid hX
    clear hX
    by_cases hlt : k < ts.length
    · obtain ⟨l, hl⟩ : ∃ l, ts.getD k [] = l := ⟨_, rfl⟩
      obtain ⟨b, o, la, cl, rfl, hbB, hc, hcr, hll⟩ := HT.out.get k hlt l hl
      have hki : (0 : Int) ≤ (k : Int) := by omega
      have hkl : (k : Int) < (ts.length : Int) := by omega
      have HL := Lib.hid hl
      clear hl hcr
      by_cases h8 : 8 < l.length
      · have d8 : decide ((8 : Int) < (l.length : Int)) = true := decide_eq_true (by omega)
        have HF : Hid (cntFault ts tick = 2) := Lib.hid (by
          show _ = _
          unfold cntFault
          rw [if_pos (Or.inr ?_)]
          rw [List.any_eq_true]
          refine ⟨l, ?_, by simpa using h8⟩
          rw [← HL.out]
          simp [List.getD, hlt])
        clear h8
        go_wp2_with fail
        go_ret
        exact ⟨ret1 (by rw [HF.out]; rfl), rfl⟩
      · have d8 : decide ((8 : Int) < (l.length : Int)) = false := decide_eq_false (by omega)
        have H8 := Lib.hid h8
        clear h8
        go_wp2_with fail
        go_roundw
        case rel =>
          refine ⟨k + 1, by go_num, by omega, ?_, trivial⟩
          rw [takeT_at hlt, HL.out, List.any_append, HX.out]
          simp only [List.any_cons, List.any_nil, Bool.or_false, Bool.false_or, decide_eq_false_iff_not]
          exact H8.out
        case measure => simp [intOf]; omega
    · obtain rfl : k = ts.length := by omega
      have HF : Hid (cntFault ts tick = 0) := Lib.hid (by
        show _ = _
        have := HX.out
        rw [List.take_length] at this
        unfold cntFault
        rw [if_neg]
        rintro (h | h)
        · have := HB.out; omega
        · rw [this] at h; cases h)
      go_wp2_with fail
      go_ret
      exact ⟨ret1 (by rw [HF.out]; rfl), rfl⟩

set_option maxHeartbeats 6400000 in
set_option maxRecDepth 100000 in
theorem checkreel_any (g : G) (ua ta : Option Addr) (cu ct : Nat) (hnew : g.new = true) (hfree : g.free = []) (hcu : g.us.length ≤ 9223372036854775807) (ts : List (List Cm)) (hlen : ts.length ≤ maxLen) (w : World)
    (hu : URow true w.heap.size w ua g.us) (hnil : ua = none → g.us.length = 0 ∧ cu = 0) (hcap : g.us.length ≤ cu) (ht : PRow w.heap.size w ta ts) :
    Calls Try.prog 146 #[.agg #[.int .i64 g.tick, .int .i64 g.g0, .int .i64 g.g1, .int .i64 g.next, .slice ua g.us.length cu, .slice ta ts.length ct]] w
      fun e w' => e = .returned (errV (reelFault g ts)) ∧ Below w.heap.size w w' := by
  have hm : maxLen ≤ 9223372036854775807 := by unfold maxLen; decide
  have hbx : Below w.heap.size w (w.alloc (.cells #[.int .i64 g.tick, .int .i64 g.g0, .int .i64 g.g1, .int .i64 g.next, .slice ua g.us.length cu, .slice ta ts.length ct] 69)) := (Below.refl _ _).alloc (Nat.le_refl _) _
  have hszx := hbx.size
  have HU := Lib.hid ((hu.below hbx).mono hszx)
  have HT := Lib.hid ht
  have HBX := Lib.hid hbx
  have HNIL := Lib.hid hnil
  have HFREE := Lib.hid hfree
  have HNEW := Lib.hid hnew
  have K := Lib.hid (Blk.new w #[.int .i64 g.tick, .int .i64 g.g0, .int .i64 g.g1, .int .i64 g.next, .slice ua g.us.length cu, .slice ta ts.length ct] 69)
  clear hu ht hbx hnew hnil hfree
  go_enter Try.func146, Try.ntmps146
  go_wp2_with fail
  refine (ncheck_any g ua cu HNEW.out HFREE.out hcu _ HU.out HNIL.out hcap).mono ?_
  rintro e w1 ⟨rfl, b1⟩
  have HB1 : Hid (Below w.heap.size w w1) := Lib.hid (HBX.out.trans (b1.mono hszx))
  have k1 := K.out.call b1
  have K1 := Lib.hid k1
  obtain ⟨l1, c1, -⟩ := id k1
  have HT1 := Lib.hid (HT.out.below HB1.out)
  have hs1 := HB1.out.size
  obtain ⟨f0, hf0⟩ : ∃ f, (if faultOf g ≠ 0 then faultOf g else cntFault ts g.tick) = f := ⟨_, rfl⟩
  have HF0 := Lib.hid hf0
  clear b1 k1 HU HT hf0
  obtain ⟨EF, hEF⟩ : ∃ v, errV f0 = v := ⟨_, rfl⟩
  have HEF := Lib.hid hEF
  obtain ⟨B0, hB0⟩ : ∃ b, decide (faultOf g = 0) = b := ⟨_, rfl⟩
  have HB0 := Lib.hid hB0
  clear hEF
  go_upto_region 2 with fail
  obtain ⟨EG, hEG⟩ : ∃ v, errV (faultOf g) = v := ⟨_, rfl⟩
  have HEG := Lib.hid hEG
  rw [hEG]
  clear hEG
  go_cut [3, 12] (fun s3 s12 wx => s3 = EG ∧ s12 = .bool B0 ∧ w1 = wx)
  case first =>
    by_cases hfault : faultOf g = 0
    · have hb : B0 = true := by rw [← hB0]; exact decide_eq_true hfault
      have he := HEG.out
      rw [hfault, errV_zero] at he
      rw [← he]
      have HBB := Lib.hid hb
      have HEE := Lib.hid he
      clear hfault hb hB0 he
      go_wp2_with fail
      go_meet
      rw [HBB.out, ← HEE.out]
      exact ⟨rfl, rfl, rfl⟩
    · have hb : B0 = false := by rw [← hB0]; exact decide_eq_false hfault
      have he := HEG.out
      rw [errV_pos _ hfault] at he
      rw [← he]
      have HBB := Lib.hid hb
      have HEE := Lib.hid he
      clear hfault hb hB0 he
      go_wp2_with fail
      go_meet
      rw [HBB.out, ← HEE.out]
      exact ⟨rfl, rfl, rfl⟩
  obtain ⟨h3, h12, rfl⟩ := hcut
  rw [h3, h12]
  clear h3 h12 hB0
  go_upto_if 12 with fail
  go_cut [3] (fun s3 wx => s3 = EF ∧ w1 = wx)
  case first =>
    by_cases hfault : faultOf g = 0
    · have he : cntFault ts g.tick = f0 := by rw [← HF0.out, hfault]; rfl
      have hgt := ((right_iff g).1 hfault).head
      unfold headBad at hgt
      have hb : B0 = true := by rw [← HB0.out]; exact decide_eq_true hfault
      rw [hb]
      have HE := Lib.hid he
      clear hfault he hb
      go_wp2_with fail
      refine (countsO_any ts ta ct g.tick (by omega) (by omega) hlen _ (HT1.out.mono hs1)).mono ?_
      rintro e w' ⟨rfl, rfl⟩
      rw [HE.out, HEF.out]
      go_wp2_with fail
      go_meet
      exact ⟨rfl, rfl⟩
    · have he : faultOf g = f0 := by rw [← HF0.out, if_pos hfault]
      have hb : B0 = false := by rw [← HB0.out]; exact decide_eq_false hfault
      have hee : EG = EF := by rw [← HEG.out, he, HEF.out]
      rw [hb, hee]
      clear hfault he hb hee
      go_wp2_with fail
      go_meet
      exact ⟨rfl, rfl⟩
  case rest =>
    obtain ⟨rfl, rfl⟩ := hcut
    have hn0 : (0 : Int) ≤ (ts.length : Int) := by omega
    go_wp2_with fail
    go_loopw [3, 5, 22] (fun e l a wr => ∃ k : Nat, a = .int .i64 k ∧ k ≤ ts.length ∧ (e = errV (accF f0 ((ts.take k).any (fun l => l.any negO))) ∧ Below w1.heap.size w1 wr)) (fun _ _ a _ => (ts.length - intOf a).toNat)
    case atStart => exact ⟨0, rfl, by omega, (by rw [← HEF.out]; unfold accF; simp; split <;> simp_all), Below.refl _ _⟩
    case round =>
      obtain ⟨k, rfl, hk, rfl, hX⟩ := hrel
      have HX := Lib.hid hX
      have hszr := hX.size
      clear hX
      by_cases hlt : k < ts.length
      · obtain ⟨l, hl⟩ : ∃ l, ts.getD k [] = l := ⟨_, rfl⟩
        obtain ⟨b, o, la, cl, rfl, hbB, hc, hcr, hll⟩ := (HT1.out.below (HX.out.mono hs1)).get k hlt l hl
        have hki : (0 : Int) ≤ (k : Int) := by omega
        have hkl : (k : Int) < (ts.length : Int) := by omega
        have hbr : b < wr.heap.size := by omega
        have HCR := Lib.hid hcr
        have HL := Lib.hid hl
        obtain ⟨A, hA⟩ : ∃ x, (ts.take k).any (fun l => l.any negO) = x := ⟨_, rfl⟩
        have HA := Lib.hid hA
        rw [hA]
        clear hl hcr hA
        obtain ⟨EA, hEA⟩ : ∃ x, errV (accF f0 A) = x := ⟨_, rfl⟩
        have HEA := Lib.hid hEA
        rw [hEA]
        clear hEA
        have hl0 : (0 : Int) ≤ (l.length : Int) := by omega
        go_wp2_with fail
        go_loopw [3, 28] (fun e a wx => ∃ j : Nat, a = .int .i64 j ∧ j ≤ l.length ∧ (e = errV (accF f0 (A || (l.take j).any negO)) ∧ Below wr.heap.size wr wx)) (fun _ a _ => (l.length - intOf a).toNat)
        case atStart => exact ⟨0, rfl, by omega, (by rw [← HEA.out]; simp), Below.refl _ _⟩
        case round =>
          obtain ⟨j, rfl, hj, rfl, hY⟩ := hrel
          have HY := Lib.hid hY
          have hszy := hY.size
          clear hY
          by_cases hjl : j < l.length
          · obtain ⟨c, hcx⟩ : ∃ c, l.getD j zeroC = c := ⟨_, rfl⟩
            obtain ⟨b2, o2, hla, hbB2, q0, q1, q2, q3, q4, q5⟩ := (HCR.out.below (HY.out.mono (by omega))).get j hjl c hcx
            subst hla
            have hbr2 : b2 < wr.heap.size := by omega
            have hki2 : (0 : Int) ≤ (j : Int) := by omega
            have hkl2 : (j : Int) < (l.length : Int) := by omega
            have HC := Lib.hid hcx
            have hnx : (l.take (j + 1)).any negO = ((l.take j).any negO || negO c) := by
              rw [takeC_at hjl, hcx]; simp
            have HNX := Lib.hid hnx
            obtain ⟨N, hN⟩ : ∃ x, (A || (l.take j).any negO) = x := ⟨_, rfl⟩
            rw [hN]
            have HN := Lib.hid hN
            clear hcx hnx hN
            by_cases hf : accF f0 N = 0
            · rw [hf, errV_zero]
              have HFF := Lib.hid hf
              clear hf
              have h00 : f0 = 0 := by
                have h1 := HFF.out
                unfold accF at h1
                by_cases h0 : f0 ≠ 0
                · rw [if_pos h0] at h1; exact absurd h1 h0
                · omega
              have hN0 : N = false := by
                have h1 := HFF.out
                unfold accF at h1
                rw [h00] at h1
                cases N
                · rfl
                · cases h1
              by_cases hng : negO c = true
              · have dm : decide (min6 c.player c.op c.id c.kind c.x c.y < 0) = true := (min6_neg c).trans hng
                have H00 := Lib.hid h00
                have HN0 := Lib.hid hN0
                have HNG := Lib.hid hng
                clear h00 hN0 hng
                go_wp2_with fail
                go_roundw
                case rel =>
                  refine ⟨j + 1, by go_num, by omega, ?_, HY.out.alloc hszy _⟩
                  rw [HNX.out, ← Bool.or_assoc, HN.out, HN0.out, HNG.out, H00.out]
                  rfl
                case measure => simp [intOf]; omega
              · have hng' : negO c = false := by simpa using hng
                have dm : decide (min6 c.player c.op c.id c.kind c.x c.y < 0) = false := (min6_neg c).trans hng'
                have H00 := Lib.hid h00
                have HN0 := Lib.hid hN0
                have HNG := Lib.hid hng'
                clear h00 hN0 hng hng'
                go_wp2_with fail
                go_roundw
                case rel =>
                  refine ⟨j + 1, by go_num, by omega, ?_, HY.out.alloc hszy _⟩
                  rw [HNX.out, ← Bool.or_assoc, HN.out, HN0.out, HNG.out, H00.out]
                  rfl
                case measure => simp [intOf]; omega
            · rw [errV_pos _ hf]
              have HFF := Lib.hid hf
              clear hf
              go_wp2_with fail
              go_roundw
              case rel =>
                refine ⟨j + 1, by go_num, by omega, ?_, HY.out.alloc hszy _⟩
                rw [HNX.out, ← Bool.or_assoc, HN.out, ← errV_pos _ HFF.out]
                have h1 := HFF.out
                unfold accF at h1 ⊢
                by_cases h0 : f0 ≠ 0
                · rw [if_pos h0, if_pos h0]
                · rw [if_neg h0] at h1 ⊢
                  cases N <;> simp_all
              case measure => simp [intOf]; omega
          · obtain rfl : j = l.length := by omega
            rw [List.take_length]
            have e1 : (A || l.any negO) = (ts.take (k + 1)).any (fun l => l.any negO) := by
              rw [takeT_at hlt, HL.out, List.any_append, HA.out]; simp
            rw [e1]
            clear e1
            go_wp2_with fail
            go_roundw
            case rel => exact ⟨k + 1, by go_num, by omega, rfl, HX.out.trans (HY.out.mono hszr)⟩
            case measure => simp [intOf]; omega
      · obtain rfl : k = ts.length := by omega
        rw [List.take_length]
        have e1 : accF f0 (ts.any (fun l => l.any negO)) = reelFault g ts := by
          rw [← HF0.out]
          unfold accF reelFault
          by_cases h1 : faultOf g ≠ 0
          · rw [if_pos h1, if_pos h1, if_pos h1]
          · rw [if_neg h1, if_neg h1]
        rw [e1]
        clear e1
        go_wp2_with fail
        go_ret
        exact ⟨rfl, HB1.out.trans (HX.out.mono hs1)⟩
end Go.Proofs.Ytlfljlhppigejaa
