/-
  Tapes: how they lie in memory and are opened; the walks of snap.CheckTape and of what statements ask of a tape's size.
-/
import Derived.Test.YtlfljlhppigejaaCmdRow
import Derived.Test.YtlfljlhppigejaaPackMaps
import Derived.Test.YtlfljlhppigejaaPackPure
import Derived.Test.YtlfljlhppigejaaElderCheck
import Derived.Deep.DeepCutAuto
import Derived.Test.YtlfljlhppigejaaPackOp2
namespace Go.Proofs.Ytlfljlhppigejaa
open Go.RowKit

theorem CRow.mono {B B' : Nat} {w : World} {a : Option Addr} {cs : List Cm} (h : CRow B w a cs) (hb : B ≤ B') : CRow B' w a cs :=
  fun i hi => let ⟨b, o, h1, h2, h3⟩ := h i hi; ⟨b, o, h1, Nat.lt_of_lt_of_le h2 hb, h3⟩
/-- Ticks lie from a on. -/
def TRow (B : Nat) (w : World) (a : Option Addr) (ts : List (List Cm)) : Prop :=
  ∀ i, i < ts.length → ∃ b o la cl, a = some ⟨b, o, none⟩ ∧ b < B ∧ w.cell? ⟨b, o + i, none⟩ = some (.slice la (ts.getD i []).length cl) ∧ CRow B w la (ts.getD i []) ∧ (ts.getD i []).length ≤ maxLen
theorem TRow.below {B : Nat} {w w' : World} {a : Option Addr} {ts : List (List Cm)} (h : TRow B w a ts) (hb : Below B w w') : TRow B w' a ts :=
  fun i hi => let ⟨b, o, la, cl, h1, h2, h3, h4, h5⟩ := h i hi; ⟨b, o, la, cl, h1, h2, (hb.cell (p := ⟨b, _, none⟩) h2).trans h3, h4.below hb, h5⟩
theorem TRow.mono {B B' : Nat} {w : World} {a : Option Addr} {ts : List (List Cm)} (h : TRow B w a ts) (hb : B ≤ B') : TRow B' w a ts :=
  fun i hi => let ⟨b, o, la, cl, h1, h2, h3, h4, h5⟩ := h i hi; ⟨b, o, la, cl, h1, Nat.lt_of_lt_of_le h2 hb, h3, h4.mono hb, h5⟩
theorem TRow.get {B : Nat} {w : World} {a : Option Addr} {ts : List (List Cm)} (h : TRow B w a ts) (i : Nat) (hi : i < ts.length) (l : List Cm) (hl : ts.getD i [] = l) :
    ∃ b o la cl, a = some ⟨b, o, none⟩ ∧ b < B ∧ w.cell? ⟨b, o + i, none⟩ = some (.slice la l.length cl) ∧ CRow B w la l ∧ l.length ≤ maxLen := by
  have := h i hi
  rw [hl] at this
  exact this
end Go.Proofs.Ytlfljlhppigejaa
namespace Go.Proofs.Ytlfljlhppigejaa
open Go.RowKit

def negC (c : Cm) : Bool := decide (c.player < 0 ∨ c.op < 0 ∨ c.id < 0 ∨ c.kind < 0 ∨ c.x < 0 ∨ c.y < 0 ∨ c.target < 0)
/-- How many ticks there are, and how many commands in each: the error's number. -/
def cntFault (ts : List (List Cm)) (tick : Int) : Nat := if 60 - tick < (ts.length : Int) ∨ ts.any (fun l => decide (8 < l.length)) = true then 2 else 0
def tapeFault (g : G) (ts : List (List Cm)) : Nat :=
  if faultOf g ≠ 0 then faultOf g else if cntFault ts g.tick ≠ 0 then cntFault ts g.tick else if ts.any (fun l => l.any negC) = true then 1 else 0

theorem takeT_at {ts : List (List Cm)} {k : Nat} (h : k < ts.length) : ts.take (k + 1) = ts.take k ++ [ts.getD k []] := by
  rw [List.take_succ_eq_append_getElem h]
  simp [List.getD, h]
theorem takeC_at {ts : List Cm} {k : Nat} (h : k < ts.length) : ts.take (k + 1) = ts.take k ++ [ts.getD k zeroC] := by
  rw [List.take_succ_eq_append_getElem h]
  simp [List.getD, h]

set_option maxHeartbeats 1600000 in
theorem counts_any (ts : List (List Cm)) (ta : Option Addr) (ct : Nat) (tick : Int) (h0 : 0 ≤ tick) (h6 : tick ≤ 60) (hlen : ts.length ≤ maxLen) (w : World) (ht : TRow w.heap.size w ta ts) :
    Calls Try.prog 168 #[.slice ta ts.length ct, .int .i64 tick] w fun e w' => e = .returned (errV (cntFault ts tick)) ∧ w = w' := by
  have HT := Lib.hid ht
  have hm : maxLen ≤ 9223372036854775807 := by unfold maxLen; decide
  have hw : IntKind.i64.wrap (60 - tick) = 60 - tick := IntWalk.i64_in _ (by omega)
  clear ht
  by_cases hb : 60 - tick < (ts.length : Int)
  · have d0 : decide (60 - tick < (ts.length : Int)) = true := decide_eq_true hb
    have HF : Hid (cntFault ts tick = 2) := Lib.hid (by show _ = _; unfold cntFault; rw [if_pos (Or.inl hb)])
    clear hb
    go_enter Try.func168, Try.ntmps168
    go_wp2_with fail
    go_ret
    exact ⟨ret1 (by rw [HF.out]; rfl), rfl⟩
  have d0 : decide (60 - tick < (ts.length : Int)) = false := decide_eq_false hb
  have HB := Lib.hid hb
  clear hb
  go_enter Try.func168, Try.ntmps168
  go_wp2_with fail
  go_loopw [6, 15] (fun l i wr => ∃ k : Nat, i = .int .i64 k ∧ k ≤ ts.length ∧ ((ts.take k).any (fun l => decide (8 < l.length)) = false ∧ w = wr)) (fun _ i _ => (ts.length - intOf i).toNat)
  case atStart => exact ⟨0, rfl, by omega, (by simp), rfl⟩
  case round =>
    obtain ⟨k, rfl, hk, hX, rfl⟩ := hrel
    have HX := Lib.hid hX
    clear hX
    by_cases hlt : k < ts.length
    · obtain ⟨l, hl⟩ : ∃ l, ts.getD k [] = l := ⟨_, rfl⟩
      obtain ⟨b, o, la, cl, rfl, hbB, hc, hcr, hll⟩ := HT.out.get k hlt l hl
      have hki : (0 : Int) ≤ (k : Int) := by omega
      have hkl : (k : Int) < (ts.length : Int) := by omega
      have HL := Lib.hid hl
      clear hl hcr
      by_cases h8 : 8 < l.length
      · have d8 : decide ((8 : Int) < (l.length : Int)) = true := decide_eq_true (by omega)
        have HF : Hid (cntFault ts tick = 2) := Lib.hid (by
          show _ = _
          unfold cntFault
          rw [if_pos (Or.inr ?_)]
          rw [List.any_eq_true]
          refine ⟨l, ?_, by simpa using h8⟩
          rw [← HL.out]
          simp [List.getD, hlt])
        clear h8
        go_wp2_with fail
        go_ret
        exact ⟨ret1 (by rw [HF.out]; rfl), rfl⟩
      · have d8 : decide ((8 : Int) < (l.length : Int)) = false := decide_eq_false (by omega)
        have H8 := Lib.hid h8
        clear h8
        go_wp2_with fail
        go_roundw
        case rel =>
          refine ⟨k + 1, by go_num, by omega, ?_, trivial⟩
          rw [takeT_at hlt, HL.out, List.any_append, HX.out]
          simp only [List.any_cons, List.any_nil, Bool.or_false, Bool.false_or, decide_eq_false_iff_not]
          exact H8.out
        case measure => simp [intOf]; omega
    · obtain rfl : k = ts.length := by omega
      have HF : Hid (cntFault ts tick = 0) := Lib.hid (by
        show _ = _
        have := HX.out
        rw [List.take_length] at this
        unfold cntFault
        rw [if_neg]
        rintro (h | h)
        · have := HB.out; omega
        · rw [this] at h; cases h)
      go_wp2_with fail
      go_ret
      exact ⟨ret1 (by rw [HF.out]; rfl), rfl⟩

/-- What a statement asks of a tape's size. -/
def Light (g : G) (ts : List (List Cm)) : Prop := ts.length ≤ 70 ∧ (∀ k, k < ts.length → (ts.getD k []).length ≤ 12) ∧ g.us.length ≤ 25 ∧ g.free.length ≤ 220

set_option maxHeartbeats 1600000 in
theorem lightelder_any (g : G) (fa ua : Option Addr) (cf cu : Nat) (w : World) :
    Calls Try.prog 53 #[.agg #[.int .i64 g.tick, .int .i64 g.g0, .int .i64 g.g1, .int .i64 g.next, .slice fa g.free.length cf, .slice ua g.us.length cu]] w fun e w' => ∃ b : Bool, e = .returned (.bool b) ∧ (b = true ↔ g.us.length ≤ 25 ∧ g.free.length ≤ 220) ∧ Below w.heap.size w w' := by
  by_cases h1 : g.us.length ≤ 25
  · have d1 : decide ((g.us.length : Int) ≤ 25) = true := decide_eq_true (by omega)
    have H1 := Lib.hid h1
    clear h1
    go_enter Try.func53, Try.ntmps53
    go_wp2_with fail
    go_ret
    exact ⟨_, rfl, by simp; have := H1.out; omega, (Below.refl _ _).alloc (Nat.le_refl _) _⟩
  · have d1 : decide ((g.us.length : Int) ≤ 25) = false := decide_eq_false (by omega)
    have H1 := Lib.hid h1
    clear h1
    go_enter Try.func53, Try.ntmps53
    go_wp2_with fail
    go_ret
    exact ⟨_, rfl, by simp; intro h; exact absurd h H1.out, (Below.refl _ _).alloc (Nat.le_refl _) _⟩

set_option maxHeartbeats 3200000 in
set_option maxRecDepth 100000 in
theorem light_any (g : G) (fa ua ta : Option Addr) (cf cu ct : Nat) (ts : List (List Cm)) (hlen : ts.length ≤ maxLen) (w : World) (ht : TRow w.heap.size w ta ts) :
    Calls Try.prog 54 #[.agg #[.int .i64 g.tick, .int .i64 g.g0, .int .i64 g.g1, .int .i64 g.next, .slice fa g.free.length cf, .slice ua g.us.length cu, .slice ta ts.length ct]] w
      fun e w' => ∃ b : Bool, e = .returned (.bool b) ∧ (b = true → Light g ts) ∧ Below w.heap.size w w' := by
  have hm : maxLen ≤ 9223372036854775807 := by unfold maxLen; decide
  have hbx : Below w.heap.size w (w.alloc (.cells #[.int .i64 g.tick, .int .i64 g.g0, .int .i64 g.g1, .int .i64 g.next, .slice fa g.free.length cf, .slice ua g.us.length cu, .slice ta ts.length ct] 94)) := (Below.refl _ _).alloc (Nat.le_refl _) _
  have HBX := Lib.hid hbx
  have HT := Lib.hid (ht.below hbx)
  clear ht hbx
  by_cases h70 : 70 < ts.length
  · have d0 : decide ((70 : Int) < (ts.length : Int)) = true := decide_eq_true (by omega)
    clear h70
    go_enter Try.func54, Try.ntmps54
    go_wp2_with fail
    go_ret
    exact ⟨false, rfl, by simp, HBX.out⟩
  have d0 : decide ((70 : Int) < (ts.length : Int)) = false := decide_eq_false (by omega)
  go_enter Try.func54, Try.ntmps54
  go_wp2_with fail
  obtain ⟨W, hW⟩ : ∃ W, w.alloc (.cells #[.int .i64 g.tick, .int .i64 g.g0, .int .i64 g.g1, .int .i64 g.next, .slice fa g.free.length cf, .slice ua g.us.length cu, .slice ta ts.length ct] 94) = W := ⟨_, rfl⟩
  have kW : Blk W w.heap.size #[.int .i64 g.tick, .int .i64 g.g0, .int .i64 g.g1, .int .i64 g.next, .slice fa g.free.length cf, .slice ua g.us.length cu, .slice ta ts.length ct] := by rw [← hW]; exact Blk.new w _ _
  rw [hW]
  have hT2 : TRow w.heap.size W ta ts := by rw [← hW]; exact HT.out
  have hb2 : Below w.heap.size w W := by rw [← hW]; exact HBX.out
  have HT2 := Lib.hid hT2
  have HB2 := Lib.hid hb2
  have hs2 := hb2.size
  obtain ⟨l1, c1, -⟩ := id kW
  clear HT HBX hW hT2 hb2
  go_loopw [3] (fun i wr => ∃ k : Nat, i = .int .i64 k ∧ k ≤ ts.length ∧ ((∀ j, j < k → (ts.getD j []).length ≤ 12) ∧ W = wr)) (fun i _ => (ts.length - intOf i).toNat)
  case atStart => exact ⟨0, rfl, by omega, fun j h => absurd h (by omega), rfl⟩
  case round =>
    obtain ⟨k, rfl, hk, hX, rfl⟩ := hrel
    have HX := Lib.hid hX
    clear hX
    by_cases hlt : k < ts.length
    · obtain ⟨l, hl⟩ : ∃ l, ts.getD k [] = l := ⟨_, rfl⟩
      obtain ⟨b, o, la, cl, rfl, hbB, hc, hcr, hll⟩ := HT2.out.get k hlt l hl
      have hki : (0 : Int) ≤ (k : Int) := by omega
      have hkl : (k : Int) < (ts.length : Int) := by omega
      have hbr : b < W.heap.size := by omega
      have HL := Lib.hid hl
      clear hl hcr
      by_cases h12 : 12 < l.length
      · have d8 : decide ((12 : Int) < (l.length : Int)) = true := decide_eq_true (by omega)
        clear h12
        go_wp2_with fail
        go_ret
        exact ⟨false, rfl, by simp, HB2.out⟩
      · have d8 : decide ((12 : Int) < (l.length : Int)) = false := decide_eq_false (by omega)
        have H8 := Lib.hid h12
        clear h12
        go_wp2_with fail
        go_roundw
        case rel =>
          refine ⟨k + 1, by go_num, by omega, ?_, trivial⟩
          intro j hj
          by_cases e : j = k
          · rw [e, HL.out]; have := H8.out; omega
          · exact HX.out j (by omega)
        case measure => simp [intOf]; omega
    · obtain rfl : k = ts.length := by omega
      go_wp2_with fail
      refine (lightelder_any g fa ua cf cu _).mono ?_
      rintro e w1 ⟨b, rfl, hb, b1⟩
      go_wp2_with fail
      go_ret
      exact ⟨_, rfl, fun h => ⟨by omega, HX.out, (hb.1 h).1, (hb.1 h).2⟩, HB2.out.trans (b1.mono hs2)⟩
end Go.Proofs.Ytlfljlhppigejaa
namespace Go.Proofs.Ytlfljlhppigejaa
open Go.RowKit

def mnI (x y : Int) : Int := if y < x then y else x
def min7 (a b c d e f g : Int) : Int := mnI (mnI (mnI (mnI (mnI (mnI a b) c) d) e) f) g
theorem mnI_neg (x y : Int) : mnI x y < 0 ↔ x < 0 ∨ y < 0 := by unfold mnI; split <;> omega
theorem min7_neg (c : Cm) : decide (min7 c.player c.op c.id c.kind c.x c.y c.target < 0) = negC c := by
  unfold min7 negC
  rw [decide_eq_decide]
  simp only [mnI_neg]
  omega
theorem run_min7 {P : Program} {w : World} (ts : Array TypeId) (t : TypeId) (a b c d e f g : Int) : (Builtin.min_ ts t #[.int .i64 a, .int .i64 b, .int .i64 c, .int .i64 d, .int .i64 e, .int .i64 f, .int .i64 g]).run P w = .ok (.int .i64 (min7 a b c d e f g)) w := by
  rfl
attribute [local go_sem] run_min7

def accF (f0 : Nat) (b : Bool) : Nat := if f0 ≠ 0 then f0 else if b = true then 1 else 0

set_option maxHeartbeats 6400000 in
set_option maxRecDepth 100000 in
theorem checktape_any (g : G) (fa ua ta : Option Addr) (cf cu ct : Nat) (hnew : g.new = false) (hcf : g.free.length ≤ 9223372036854775807) (hcu : g.us.length ≤ 9223372036854775807) (ts : List (List Cm)) (hlen : ts.length ≤ maxLen) (w : World)
    (hf : Row w.heap.size w fa g.free.length (fun k => .int .i64 (g.free.getD k 0))) (hu : URow false w.heap.size w ua g.us) (ht : TRow w.heap.size w ta ts) (hfit : ∀ n ∈ g.free, Fits64 n) :
    Calls Try.prog 134 #[.agg #[.int .i64 g.tick, .int .i64 g.g0, .int .i64 g.g1, .int .i64 g.next, .slice fa g.free.length cf, .slice ua g.us.length cu, .slice ta ts.length ct]] w
      fun e w' => e = .returned (errV (tapeFault g ts)) ∧ Below w.heap.size w w' := by
  have hm : maxLen ≤ 9223372036854775807 := by unfold maxLen; decide
  have hbx : Below w.heap.size w (w.alloc (.cells #[.int .i64 g.tick, .int .i64 g.g0, .int .i64 g.g1, .int .i64 g.next, .slice fa g.free.length cf, .slice ua g.us.length cu, .slice ta ts.length ct] 94)) := (Below.refl _ _).alloc (Nat.le_refl _) _
  have hszx := hbx.size
  have HF := Lib.hid ((hf.below hbx).mono hszx)
  have HU := Lib.hid ((hu.below hbx).mono hszx)
  have HT := Lib.hid ht
  have HBX := Lib.hid hbx
  have HFIT := Lib.hid hfit
  have HNEW := Lib.hid hnew
  have K := Lib.hid (Blk.new w #[.int .i64 g.tick, .int .i64 g.g0, .int .i64 g.g1, .int .i64 g.next, .slice fa g.free.length cf, .slice ua g.us.length cu, .slice ta ts.length ct] 94)
  clear hf hu ht hbx hfit hnew
  go_enter Try.func134, Try.ntmps134
  go_wp2_with fail
  refine (check_any g fa ua g.free.length cf g.us.length cu HNEW.out rfl rfl hcf hcu _ HF.out HU.out HFIT.out).mono ?_
  rintro e w1 ⟨rfl, b1⟩
  have HB1 : Hid (Below w.heap.size w w1) := Lib.hid (HBX.out.trans (b1.mono hszx))
  have k1 := K.out.call b1
  have K1 := Lib.hid k1
  obtain ⟨l1, c1, -⟩ := id k1
  have HT1 := Lib.hid (HT.out.below HB1.out)
  have hs1 := HB1.out.size
  obtain ⟨f0, hf0⟩ : ∃ f, (if faultOf g ≠ 0 then faultOf g else cntFault ts g.tick) = f := ⟨_, rfl⟩
  have HF0 := Lib.hid hf0
  clear b1 k1 HF HU HT hf0
  obtain ⟨EF, hEF⟩ : ∃ v, errV f0 = v := ⟨_, rfl⟩
  have HEF := Lib.hid hEF
  obtain ⟨B0, hB0⟩ : ∃ b, decide (faultOf g = 0) = b := ⟨_, rfl⟩
  have HB0 := Lib.hid hB0
  clear hEF
  go_upto_region 2 with fail
  obtain ⟨EG, hEG⟩ : ∃ v, errV (faultOf g) = v := ⟨_, rfl⟩
  have HEG := Lib.hid hEG
  rw [hEG]
  clear hEG
  go_cut [3, 12] (fun s3 s12 wx => s3 = EG ∧ s12 = .bool B0 ∧ w1 = wx)
  case first =>
    by_cases hfault : faultOf g = 0
    · have hb : B0 = true := by rw [← hB0]; exact decide_eq_true hfault
      have he := HEG.out
      rw [hfault, errV_zero] at he
      rw [← he]
      have HBB := Lib.hid hb
      have HEE := Lib.hid he
      clear hfault hb hB0 he
      go_wp2_with fail
      go_meet
      rw [HBB.out, ← HEE.out]
      exact ⟨rfl, rfl, rfl⟩
    · have hb : B0 = false := by rw [← hB0]; exact decide_eq_false hfault
      have he := HEG.out
      rw [errV_pos _ hfault] at he
      rw [← he]
      have HBB := Lib.hid hb
      have HEE := Lib.hid he
      clear hfault hb hB0 he
      go_wp2_with fail
      go_meet
      rw [HBB.out, ← HEE.out]
      exact ⟨rfl, rfl, rfl⟩
  obtain ⟨h3, h12, rfl⟩ := hcut
  rw [h3, h12]
  clear h3 h12 hB0
  go_upto_if 12 with fail
  go_cut [3] (fun s3 wx => s3 = EF ∧ w1 = wx)
  case first =>
    by_cases hfault : faultOf g = 0
    · have he : cntFault ts g.tick = f0 := by rw [← HF0.out, hfault]; rfl
      have hgt := ((right_iff g).1 hfault).head
      unfold headBad at hgt
      have hb : B0 = true := by rw [← HB0.out]; exact decide_eq_true hfault
      rw [hb]
      have HE := Lib.hid he
      clear hfault he hb
      go_wp2_with fail
      refine (counts_any ts ta ct g.tick (by omega) (by omega) hlen _ (HT1.out.mono hs1)).mono ?_
      rintro e w' ⟨rfl, rfl⟩
      rw [HE.out, HEF.out]
      go_wp2_with fail
      go_meet
      exact ⟨rfl, rfl⟩
    · have he : faultOf g = f0 := by rw [← HF0.out, if_pos hfault]
      have hb : B0 = false := by rw [← HB0.out]; exact decide_eq_false hfault
      have hee : EG = EF := by rw [← HEG.out, he, HEF.out]
      rw [hb, hee]
      clear hfault he hb hee
      go_wp2_with fail
      go_meet
      exact ⟨rfl, rfl⟩
  case rest =>
    obtain ⟨rfl, rfl⟩ := hcut
    have hn0 : (0 : Int) ≤ (ts.length : Int) := by omega
    go_wp2_with fail
    go_loopw [3, 5, 22] (fun e l a wr => ∃ k : Nat, a = .int .i64 k ∧ k ≤ ts.length ∧ (e = errV (accF f0 ((ts.take k).any (fun l => l.any negC))) ∧ Below w1.heap.size w1 wr)) (fun _ _ a _ => (ts.length - intOf a).toNat)
    case atStart => exact ⟨0, rfl, by omega, (by rw [← HEF.out]; unfold accF; simp; split <;> simp_all), Below.refl _ _⟩
    case round =>
      obtain ⟨k, rfl, hk, rfl, hX⟩ := hrel
      have HX := Lib.hid hX
      have hszr := hX.size
      clear hX
      by_cases hlt : k < ts.length
      · obtain ⟨l, hl⟩ : ∃ l, ts.getD k [] = l := ⟨_, rfl⟩
        obtain ⟨b, o, la, cl, rfl, hbB, hc, hcr, hll⟩ := (HT1.out.below (HX.out.mono hs1)).get k hlt l hl
        have hki : (0 : Int) ≤ (k : Int) := by omega
        have hkl : (k : Int) < (ts.length : Int) := by omega
        have hbr : b < wr.heap.size := by omega
        have HCR := Lib.hid hcr
        have HL := Lib.hid hl
        obtain ⟨A, hA⟩ : ∃ x, (ts.take k).any (fun l => l.any negC) = x := ⟨_, rfl⟩
        have HA := Lib.hid hA
        rw [hA]
        clear hl hcr hA
        obtain ⟨EA, hEA⟩ : ∃ x, errV (accF f0 A) = x := ⟨_, rfl⟩
        have HEA := Lib.hid hEA
        rw [hEA]
        clear hEA
        have hl0 : (0 : Int) ≤ (l.length : Int) := by omega
        go_wp2_with fail
        go_loopw [3, 28] (fun e a wx => ∃ j : Nat, a = .int .i64 j ∧ j ≤ l.length ∧ (e = errV (accF f0 (A || (l.take j).any negC)) ∧ Below wr.heap.size wr wx)) (fun _ a _ => (l.length - intOf a).toNat)
        case atStart => exact ⟨0, rfl, by omega, (by rw [← HEA.out]; simp), Below.refl _ _⟩
        case round =>
          obtain ⟨j, rfl, hj, rfl, hY⟩ := hrel
          have HY := Lib.hid hY
          have hszy := hY.size
          clear hY
          by_cases hjl : j < l.length
          · obtain ⟨c, hcx⟩ : ∃ c, l.getD j zeroC = c := ⟨_, rfl⟩
            obtain ⟨b2, o2, hla, hbB2, q0, q1, q2, q3, q4, q5, q6⟩ := (HCR.out.below (HY.out.mono (by omega))).get j hjl c hcx
            subst hla
            have hbr2 : b2 < wr.heap.size := by omega
            have hki2 : (0 : Int) ≤ (j : Int) := by omega
            have hkl2 : (j : Int) < (l.length : Int) := by omega
            have HC := Lib.hid hcx
            have hnx : (l.take (j + 1)).any negC = ((l.take j).any negC || negC c) := by
              rw [takeC_at hjl, hcx]; simp
            have HNX := Lib.hid hnx
            obtain ⟨N, hN⟩ : ∃ x, (A || (l.take j).any negC) = x := ⟨_, rfl⟩
            rw [hN]
            have HN := Lib.hid hN
            clear hcx hnx hN
            by_cases hf : accF f0 N = 0
            · rw [hf, errV_zero]
              have HFF := Lib.hid hf
              clear hf
              have h00 : f0 = 0 := by
                have h1 := HFF.out
                unfold accF at h1
                by_cases h0 : f0 ≠ 0
                · rw [if_pos h0] at h1; exact absurd h1 h0
                · omega
              have hN0 : N = false := by
                have h1 := HFF.out
                unfold accF at h1
                rw [h00] at h1
                cases N
                · rfl
                · cases h1
              by_cases hng : negC c = true
              · have dm : decide (min7 c.player c.op c.id c.kind c.x c.y c.target < 0) = true := (min7_neg c).trans hng
                have H00 := Lib.hid h00
                have HN0 := Lib.hid hN0
                have HNG := Lib.hid hng
                clear h00 hN0 hng
                go_wp2_with fail
                go_roundw
                case rel =>
                  refine ⟨j + 1, by go_num, by omega, ?_, HY.out.alloc hszy _⟩
                  rw [HNX.out, ← Bool.or_assoc, HN.out, HN0.out, HNG.out, H00.out]
                  rfl
                case measure => simp [intOf]; omega
              · have hng' : negC c = false := by simpa using hng
                have dm : decide (min7 c.player c.op c.id c.kind c.x c.y c.target < 0) = false := (min7_neg c).trans hng'
                have H00 := Lib.hid h00
                have HN0 := Lib.hid hN0
                have HNG := Lib.hid hng'
                clear h00 hN0 hng hng'
                go_wp2_with fail
                go_roundw
                case rel =>
                  refine ⟨j + 1, by go_num, by omega, ?_, HY.out.alloc hszy _⟩
                  rw [HNX.out, ← Bool.or_assoc, HN.out, HN0.out, HNG.out, H00.out]
                  rfl
                case measure => simp [intOf]; omega
            · rw [errV_pos _ hf]
              have HFF := Lib.hid hf
              clear hf
              go_wp2_with fail
              go_roundw
              case rel =>
                refine ⟨j + 1, by go_num, by omega, ?_, HY.out.alloc hszy _⟩
                rw [HNX.out, ← Bool.or_assoc, HN.out, ← errV_pos _ HFF.out]
                have h1 := HFF.out
                unfold accF at h1 ⊢
                by_cases h0 : f0 ≠ 0
                · rw [if_pos h0, if_pos h0]
                · rw [if_neg h0] at h1 ⊢
                  cases N <;> simp_all
              case measure => simp [intOf]; omega
          · obtain rfl : j = l.length := by omega
            rw [List.take_length]
            have e1 : (A || l.any negC) = (ts.take (k + 1)).any (fun l => l.any negC) := by
              rw [takeT_at hlt, HL.out, List.any_append, HA.out]; simp
            rw [e1]
            clear e1
            go_wp2_with fail
            go_roundw
            case rel => exact ⟨k + 1, by go_num, by omega, rfl, HX.out.trans (HY.out.mono hszr)⟩
            case measure => simp [intOf]; omega
      · obtain rfl : k = ts.length := by omega
        rw [List.take_length]
        have e1 : accF f0 (ts.any (fun l => l.any negC)) = tapeFault g ts := by
          rw [← HF0.out]
          unfold accF tapeFault
          by_cases h1 : faultOf g ≠ 0
          · rw [if_pos h1, if_pos h1, if_pos h1]
          · rw [if_neg h1, if_neg h1]
        rw [e1]
        clear e1
        go_wp2_with fail
        go_ret
        exact ⟨rfl, HB1.out.trans (HX.out.mono hs1)⟩
end Go.Proofs.Ytlfljlhppigejaa
namespace Go.Proofs.Ytlfljlhppigejaa
open Go.RowKit

section
variable {H : Type} {enc : TypeId × Value → H} {w : World}
set_option maxRecDepth 100000 in
/-- An elder state's six cells. -/
theorem open_elder6 {fuel : Nat} {c0 c1 c2 c3 c4 c5 : Value} {x : DataW H × List MemPlace} (hm : DataW.trod enc Try.prog w 0 (fun _ => true) true fuel 90 [c0, c1, c2, c3, c4, c5] = some x) :
    ∃ (g : G) (fa ua : Option Addr) (cf cu : Nat), g.new = false ∧ [c0, c1, c2, c3, c4, c5] = [.int .i64 g.tick, .int .i64 g.g0, .int .i64 g.g1, .int .i64 g.next, .slice fa g.free.length cf, .slice ua g.us.length cu] ∧ g.free.length ≤ maxLen ∧ g.us.length ≤ maxLen ∧
      Row w.heap.size w fa g.free.length (fun k => .int .i64 (g.free.getD k 0)) ∧ URow false w.heap.size w ua g.us ∧ g.Fits := by
  obtain ⟨xs, n, -, -, -, hxl, hf⟩ := DataW.trod_struct Try.underlying90 hm
  have hx5 : xs.length = 5 := hxl
  have hx : ∀ i (hi : i < 5), xs[i]? = some (xs[i]'(by omega)) := fun i hi => List.getElem?_eq_getElem (by omega)
  have g0 := (field_cells (hf 0 _ rfl) 3 0 1 rfl rfl (by kernel_rfl)).trans (hx 0 (by omega))
  have g1 := (field_cells (hf 1 _ rfl) 62 1 2 rfl rfl (by kernel_rfl)).trans (hx 1 (by omega))
  have g2 := (field_cells (hf 2 _ rfl) 3 3 1 rfl rfl (by kernel_rfl)).trans (hx 2 (by omega))
  have g3 := (field_cells (hf 3 _ rfl) 87 4 1 rfl rfl (by kernel_rfl)).trans (hx 3 (by omega))
  have g4 := (field_cells (hf 4 _ rfl) 88 5 1 rfl rfl (by kernel_rfl)).trans (hx 4 (by omega))
  have g0' : DataW.trod enc Try.prog w 0 (fun _ => true) true n 3 [c0] = _ := g0
  have g1' : DataW.trod enc Try.prog w 0 (fun _ => true) true n 62 [c1, c2] = _ := g1
  have g2' : DataW.trod enc Try.prog w 0 (fun _ => true) true n 3 [c3] = _ := g2
  have g3' : DataW.trod enc Try.prog w 0 (fun _ => true) true n 87 [c4] = _ := g3
  have g4' : DataW.trod enc Try.prog w 0 (fun _ => true) true n 88 [c5] = _ := g4
  clear g0 g1 g2 g3 g4 hf hm
  obtain ⟨a0, e0, -, w0⟩ := DataW.trod_int Try.underlying3 g0'
  obtain ⟨a3, e3, -, w3⟩ := DataW.trod_int Try.underlying3 g2'
  obtain ⟨ys, k, -, -, -, hyl, hy⟩ := DataW.trod_array Try.underlying62 g1'
  rw [show Try.prog.cellsOf 3 = 1 from by kernel_rfl] at hy
  have y0 : DataW.trod enc Try.prog w 0 (fun _ => true) true k 3 [c1] = _ := (hy 0 (by omega)).trans (List.getElem?_eq_getElem (by omega))
  have y1 : DataW.trod enc Try.prog w 0 (fun _ => true) true k 3 [c2] = _ := (hy 1 (by omega)).trans (List.getElem?_eq_getElem (by omega))
  obtain ⟨a1, e1, -, w1⟩ := DataW.trod_int Try.underlying3 y0
  obtain ⟨a2, e2, -, w2⟩ := DataW.trod_int Try.underlying3 y1
  injection e0 with e0 _
  injection e1 with e1 _
  injection e2 with e2 _
  injection e3 with e3 _
  subst e0 e1 e2 e3
  have s4 : ∃ a len cap, c4 = .slice a len cap := by
    rcases DataW.trod_slice Try.underlying87 g3' with ⟨h, -⟩ | ⟨a, len, cap, _, _, _, _, h, -⟩
    · injection h with h _; exact ⟨_, _, _, h⟩
    · injection h with h _; exact ⟨_, _, _, h⟩
  have s5 : ∃ a len cap, c5 = .slice a len cap := by
    rcases DataW.trod_slice Try.underlying88 g4' with ⟨h, -⟩ | ⟨a, len, cap, _, _, _, _, h, -⟩
    · injection h with h _; exact ⟨_, _, _, h⟩
    · injection h with h _; exact ⟨_, _, _, h⟩
  obtain ⟨fa, nf, cf, rfl⟩ := s4
  obtain ⟨ua, nu, cu, rfl⟩ := s5
  obtain ⟨hnf, A, rfl, hAw, hrf⟩ := open_nums Try.underlying87 Try.underlying3 (by kernel_rfl) g3'
  obtain ⟨hnu, us, rfl, husf, hru⟩ := open_ents g4'
  exact ⟨⟨false, a0, a1, a2, a3, A, us⟩, fa, ua, cf, cu, rfl, rfl, hnf, hnu, hrf, hru, fits_of w0, fits_of w1, fits_of w2, fits_of w3, fun x hx => fits_of (hAw x hx), husf⟩
end
end Go.Proofs.Ytlfljlhppigejaa
