/-
  A checked tape, played: no step is refused; where it first does not fit. The walk of the document's Unfit. (Printed by gen_fertr.py.)
-/
import Derived.Test.YtlfljlhppigejaaTapeAll
import Derived.Test.YtlfljlhppigejaaPackPure
import Derived.Test.YtlfljlhppigejaaPackFerA
import Derived.Test.YtlfljlhppigejaaPackFerB
import Derived.Test.YtlfljlhppigejaaPackLaw
import Derived.Test.YtlfljlhppigejaaRefTapeF
namespace Go.Proofs.Ytlfljlhppigejaa

def stateAt (g : G) (ts : List (List Cm)) (n : Nat) : G := (playF g (ts.take n)).2
theorem tape_parts {g : G} {ts : List (List Cm)} (h : tapeFault g ts = 0) : faultOf g = 0 ∧ (ts.length : Int) ≤ 60 - g.tick ∧ ∀ l ∈ ts, l.length ≤ 8 := by
  unfold tapeFault at h
  by_cases h1 : faultOf g ≠ 0
  · rw [if_pos h1] at h; exact absurd h h1
  · rw [if_neg h1] at h
    by_cases h2 : cntFault ts g.tick ≠ 0
    · rw [if_pos h2] at h; exact absurd h h2
    · have h3 : cntFault ts g.tick = 0 := by omega
      unfold cntFault at h3
      split at h3
      · cases h3
      · rename_i h4
        refine ⟨by omega, by omega, fun l hl => ?_⟩
        refine Classical.byContradiction fun e => h4 (Or.inr ?_)
        rw [List.any_eq_true]
        exact ⟨l, hl, by simp; omega⟩
theorem tape_play {g : G} (hn : g.new = false) {ts : List (List Cm)} (h : tapeFault g ts = 0) : ∀ n, n ≤ ts.length → (playF g (ts.take n)).1 = 0 ∧ (stateAt g ts n).tick = g.tick + n := by
  obtain ⟨h1, h2, h3⟩ := tape_parts h
  intro n
  induction n with
  | zero => intro _; exact ⟨h1, by show g.tick = g.tick + ((0 : Nat) : Int); omega⟩
  | succ n ih =>
    intro hn1
    obtain ⟨i1, i2⟩ := ih (by omega)
    have hnew : (stateAt g ts n).new = false := (playF_ok hn (ts.take n)).1
    have hr : Right (stateAt g ts n) := (playF_ok hn (ts.take n)).2 i1
    have hl : (ts.getD n []).length ≤ 8 := h3 _ (by
      have : n < ts.length := by omega
      simp [List.getD, this])
    have hs : stepFault (stateAt g ts n) (ts.getD n []) = 0 := by
      unfold stepFault
      rw [if_neg (by simpa using (right_iff _).2 hr), if_neg]
      rintro (h | h)
      · omega
      · rw [i2] at h; omega
    have e := playF_succ g ts n (by omega)
    have e2 : playF g (ts.take (n + 1)) = (0, (stepE (stateAt g ts n) (ts.getD n [])).1) := by
      rw [e]
      unfold playStep
      have hs' : stepFault (playF g (ts.take n)).2 (ts.getD n []) = 0 := hs
      rw [if_neg (by simpa using i1), if_pos hs', hs']
      rfl
    refine ⟨by rw [e2], ?_⟩
    unfold stateAt at *
    rw [e2]
    have := (elder_law hnew hs).tick
    show (stepE _ _).1.tick = _
    rw [this]
    show (stateAt g ts n).tick + 1 = _
    unfold stateAt
    omega
/-- A step of a checked tape. -/
theorem tape_step {g : G} (hn : g.new = false) {ts : List (List Cm)} (h : tapeFault g ts = 0) {n : Nat} (hlt : n < ts.length) :
    (stateAt g ts n).new = false ∧ Right (stateAt g ts n) ∧ stepFault (stateAt g ts n) (ts.getD n []) = 0 ∧ (ts.getD n []).length ≤ 8 ∧ stateAt g ts (n + 1) = (stepE (stateAt g ts n) (ts.getD n [])).1 := by
  obtain ⟨h1, h2, h3⟩ := tape_parts h
  obtain ⟨i1, i2⟩ := tape_play hn h n (by omega)
  have hnew : (stateAt g ts n).new = false := (playF_ok hn (ts.take n)).1
  have hr : Right (stateAt g ts n) := (playF_ok hn (ts.take n)).2 i1
  have hl : (ts.getD n []).length ≤ 8 := h3 _ (by simp [List.getD, hlt])
  have hs : stepFault (stateAt g ts n) (ts.getD n []) = 0 := by
    unfold stepFault
    rw [if_neg (by simpa using (right_iff _).2 hr), if_neg]
    rintro (h | h)
    · omega
    · rw [i2] at h; omega
  refine ⟨hnew, hr, hs, hl, ?_⟩
  have e := playF_succ g ts n hlt
  unfold stateAt at *
  rw [e]
  unfold playStep
  rw [if_neg (by simpa using i1), if_pos hs]
theorem tape_right {g : G} (hn : g.new = false) {ts : List (List Cm)} (h : tapeFault g ts = 0) {n : Nat} (hle : n ≤ ts.length) : (stateAt g ts n).new = false ∧ Right (stateAt g ts n) ∧ playF g (ts.take n) = (0, stateAt g ts n) := by
  obtain ⟨i1, -⟩ := tape_play hn h n hle
  refine ⟨(playF_ok hn (ts.take n)).1, (playF_ok hn (ts.take n)).2 i1, ?_⟩
  rw [← i1]
  rfl
/-- Where it first does not fit: the error's number, the tick beside it. -/
def UnfitR (S : Nat → G) (a b : Nat) (f : Nat) (t : Int) : Prop :=
  (f = 0 ∧ t = 0 ∧ ∀ j, a ≤ j → j ≤ b → fitsB (S j) = true) ∨ (f = 8 ∧ ∃ n, a ≤ n ∧ n ≤ b ∧ fitsB (S n) = false ∧ (∀ j, a ≤ j → j < n → fitsB (S j) = true) ∧ t = (S n).tick)
theorem UnfitR.one {S : Nat → G} {a b f f' : Nat} {t t' : Int} (h : UnfitR S a b f t) (h' : UnfitR S a b f' t') : f = f' ∧ t = t' := by
  rcases h with ⟨rfl, rfl, h1⟩ | ⟨rfl, n, h1, h2, h3, h4, rfl⟩ <;> rcases h' with ⟨rfl, rfl, h1'⟩ | ⟨rfl, n', h1', h2', h3', h4', rfl⟩
  · exact ⟨rfl, rfl⟩
  · rw [h1 n' h1' h2'] at h3'; cases h3'
  · rw [h1' n h1 h2] at h3; cases h3
  · have : n = n' := by
      rcases Nat.lt_trichotomy n n' with h | h | h
      · rw [h4' n h1 h] at h3; cases h3
      · exact h
      · rw [h4 n' h1' h] at h3'; cases h3'
    rw [this]
    exact ⟨rfl, rfl⟩
end Go.Proofs.Ytlfljlhppigejaa
namespace Go.Proofs.Ytlfljlhppigejaa
open Go.RowKit

/-- What Unfit says. -/
def UnfitEnd (g : G) (ts : List (List Cm)) (n : Int) (f : Nat) (t : Int) : Prop :=
  (tapeFault g ts ≠ 0 ∧ f = tapeFault g ts ∧ t = 0) ∨ (tapeFault g ts = 0 ∧ (n < 0 ∨ (ts.length : Int) < n) ∧ f = 1 ∧ t = 0) ∨ (tapeFault g ts = 0 ∧ (0 ≤ n ∧ n ≤ (ts.length : Int)) ∧ UnfitR (stateAt g ts) n.toNat ts.length f t)
theorem UnfitEnd.one {g : G} {ts : List (List Cm)} {n : Int} {f f' : Nat} {t t' : Int} (h : UnfitEnd g ts n f t) (h' : UnfitEnd g ts n f' t') : f = f' ∧ t = t' := by
  rcases h with ⟨h1, rfl, rfl⟩ | ⟨h1, h2, rfl, rfl⟩ | ⟨h1, h2, h3⟩ <;> rcases h' with ⟨h1', rfl, rfl⟩ | ⟨h1', h2', rfl, rfl⟩ | ⟨h1', h2', h3'⟩
  all_goals first
    | exact ⟨rfl, rfl⟩
    | exact absurd h1' h1
    | exact absurd h1 h1'
    | (exfalso; omega)
    | exact h3.one h3'
set_option maxHeartbeats 3200000 in
set_option maxRecDepth 100000 in
theorem unfit_any (g : G) (fa ua ta : Option Addr) (cf cu ct : Nat) (hsl : sinceless g) (hcf : g.free.length ≤ 100000) (hcu : g.us.length ≤ 100000) (ts : List (List Cm)) (hct : ts.length ≤ 100000) (hcap : ts.length ≤ ct) (hll : ∀ l ∈ ts, l.length ≤ 100000) (n : Int) (w : World)
    (hf : Row w.heap.size w fa g.free.length (fun k => .int .i64 (g.free.getD k 0))) (hu : URow false w.heap.size w ua g.us) (ht : TRow w.heap.size w ta ts) :
    Calls Try.prog 75 #[.agg #[.int .i64 g.tick, .int .i64 g.g0, .int .i64 g.g1, .int .i64 g.next, .slice fa g.free.length cf, .slice ua g.us.length cu, .slice ta ts.length ct], .int .i64 n] w fun e w' => ∃ (f : Nat) (t : Int), e = .returned (.tuple #[.int .i64 f, .int .i64 t]) ∧ UnfitEnd g ts n f t ∧ Below w.heap.size w w' := by
  obtain ⟨W, hW⟩ : ∃ W, w.alloc (.cells #[.int .i64 g.tick, .int .i64 g.g0, .int .i64 g.g1, .int .i64 g.next, .slice fa g.free.length cf, .slice ua g.us.length cu, .slice ta ts.length ct] 94) = W := ⟨_, rfl⟩
  have hbW : Below w.heap.size w W := by rw [← hW]; exact (Below.refl _ _).alloc (Nat.le_refl _) _
  have k1 : Blk W w.heap.size #[.int .i64 g.tick, .int .i64 g.g0, .int .i64 g.g1, .int .i64 g.next, .slice fa g.free.length cf, .slice ua g.us.length cu, .slice ta ts.length ct] := by rw [← hW]; exact Blk.new _ _ _
  have HF := Lib.hid ((hf.below hbW).mono hbW.size)
  have HU := Lib.hid ((hu.below hbW).mono hbW.size)
  have HT := Lib.hid ((ht.below hbW).mono hbW.size)
  have HSL := Lib.hid hsl
  have HLL := Lib.hid hll
  have HBW := Lib.hid hbW
  have K1 := Lib.hid k1
  obtain ⟨l1, c1, -⟩ := id k1
  clear hf hu ht hsl hll hbW k1
  obtain ⟨f0, hf0⟩ : ∃ x, tapeFault g ts = x := ⟨_, rfl⟩
  have HF0 := Lib.hid hf0
  clear hf0
  go_enter Try.func75, Try.ntmps75
  go_upto_region 1 with fail
  try rw [hW]
  clear hW
  go_wp2_with fail
  refine (reftapeFault_any g fa ua ta cf cu ct HSL.out.1 hcf hcu ts (by unfold maxLen; omega) _ HF.out HU.out HT.out).mono ?_
  rintro e w1 ⟨rfl, b1⟩
  rw [HF0.out]
  have HB1 := Lib.hid (HBW.out.trans (b1.mono HBW.out.size))
  have K11 := Lib.hid (K1.out.call b1)
  have HF1 := Lib.hid ((HF.out.below b1).mono b1.size)
  have HU1 := Lib.hid ((HU.out.below b1).mono b1.size)
  have HT1 := Lib.hid ((HT.out.below b1).mono b1.size)
  clear b1 c1 l1 HF HU HT K1 HBW
  have c1 := K11.out.cell
  have l1 := K11.out.lt
  by_cases h0 : f0 = 0
  case neg =>
    have e1 : decide ((0 : Int) < (f0 : Int)) = true := decide_eq_true (by omega)
    have e2 : decide (0 < f0) = true := decide_eq_true (by omega)
    have HNE := Lib.hid h0
    clear h0
    go_wp2_with fail
    go_ret2
    exact ⟨f0, 0, rfl, Or.inl ⟨by rw [HF0.out]; exact HNE.out, HF0.out.symm, rfl⟩, HB1.out⟩
  subst h0
  try rw [show ((0 : Nat) : Int) = 0 from rfl]
  by_cases hn : n < 0
  · have d1 : decide (n < 0) = true := decide_eq_true hn
    have HN := Lib.hid hn
    clear hn
    go_wp2_with fail
    go_ret2
    exact ⟨1, 0, rfl, Or.inr (Or.inl ⟨HF0.out, Or.inl HN.out, rfl, rfl⟩), HB1.out⟩
  have d1 : decide (n < 0) = false := decide_eq_false hn
  by_cases hm : (ts.length : Int) < n
  · have d2 : decide ((ts.length : Int) < n) = true := decide_eq_true hm
    have HN := Lib.hid hm
    clear hn hm
    go_wp2_with fail
    go_ret2
    exact ⟨1, 0, rfl, Or.inr (Or.inl ⟨HF0.out, Or.inr HN.out, rfl, rfl⟩), HB1.out⟩
  have d2 : decide ((ts.length : Int) < n) = false := decide_eq_false hm
  obtain ⟨m, rfl⟩ := Int.eq_ofNat_of_zero_le (show 0 ≤ n by omega)
  have hml : m ≤ ts.length := by omega
  have d22 : decide (ts.length < m) = false := decide_eq_false (by omega)
  clear hn hm
  go_wp2_with fail
  clear c1 l1
  go_loopw [7] (fun c wr => ∃ k : Nat, c = .int .i64 k ∧ k ≤ ts.length + 1 ∧ (m ≤ k ∧ (∀ j, m ≤ j → j < k → fitsB (stateAt g ts j) = true) ∧ Below w1.heap.size w1 wr)) (fun c _ => (ts.length + 1 - intOf c).toNat)
  case atStart => exact ⟨m, rfl, by omega, Nat.le_refl _, fun j h1 h2 => absurd h1 (by omega), Below.refl _ _⟩
  case round =>
    obtain ⟨k, rfl, hk, hmk, hX, hb⟩ := hrel
    have HX := Lib.hid hX
    have HBR := Lib.hid (HB1.out.trans (hb.mono HB1.out.size))
    have KR := Lib.hid (K11.out.call hb)
    have HFr := Lib.hid ((HF1.out.below hb).mono hb.size)
    have HUr := Lib.hid ((HU1.out.below hb).mono hb.size)
    have HTr := Lib.hid ((HT1.out.below hb).mono hb.size)
    have HB := Lib.hid hb
    have cR := KR.out.cell
    have lR := KR.out.lt
    clear hX hb
    by_cases hlt : k ≤ ts.length
    · have d3 : decide ((k : Int) ≤ (ts.length : Int)) = true := decide_eq_true (by omega)
      have d4 : decide (k ≤ ts.length) = true := decide_eq_true (by omega)
      obtain ⟨-, hr, hp⟩ := tape_right HSL.out.1 HF0.out hlt
      have hpn : playN g ts (k : Int) = (0, stateAt g ts k) := by
        unfold playN
        rw [if_neg (by omega), Int.toNat_natCast, hp, if_pos rfl]
      obtain ⟨X, hX⟩ : ∃ x, stateAt g ts k = x := ⟨_, rfl⟩
      rw [hX] at hpn hr
      have HPN := Lib.hid hpn
      have HXX := Lib.hid hX
      have hfew := hr.few
      clear hr hp hpn hX
      go_wp2_with fail
      refine (playall_ref g fa ua ta cf cu ct HSL.out hcf hcu ts hct hcap HLL.out (k : Int) _ HFr.out HUr.out HTr.out).mono ?_
      rintro e w2 hall
      rw [HPN.out] at hall
      replace hall : PlayAll (.int .i64 0) X wr e w2 := hall
      obtain ⟨fx, fc, ux, uc, rfl, q1, q2, b2⟩ := hall
      have Q1 := Lib.hid q1
      have Q2 := Lib.hid q2
      have B2 := Lib.hid b2
      clear q1 q2 b2 cR lR
      go_upto_region 10 with fail
      refine gen_world (fun V => Below wr.heap.size wr V ∧ SV V w2.heap.size X fx ux fc uc) ⟨B2.out.alloc B2.out.size _, SV.new Q1.out Q2.out _⟩ ?_
      rintro w3 ⟨b3, s3⟩
      obtain ⟨pX, hpX⟩ : ∃ n, w2.heap.size = n := ⟨_, rfl⟩
      rw [hpX] at s3
      try rw [hpX]
      have S3 := Lib.hid s3
      have B3 := Lib.hid b3
      clear hpX s3 b3 Q1 Q2 B2
      have cX := S3.out.blk.cell
      have lX := S3.out.blk.lt
      go_wp2_with fail
      refine (reffits_any X fx ux fc uc (by omega) _ S3.out.ru).mono ?_
      rintro e w4 ⟨rfl, b4⟩
      have S4 := Lib.hid (S3.out.call b4)
      have B4 := Lib.hid (B3.out.trans (b4.mono B3.out.size))
      clear cX lX b4
      by_cases hfit : fitsB X = true
      · rw [hfit]
        have HFT := Lib.hid hfit
        clear hfit
        go_wp2_with fail
        go_roundw
        case rel =>
          refine ⟨k + 1, by go_num, by omega, by omega, fun j h1 h2 => ?_, HB.out.trans (B4.out.mono HB.out.size)⟩
          by_cases e : j = k
          · rw [e, HXX.out]; exact HFT.out
          · exact HX.out j h1 (by omega)
        case measure => simp [intOf]; omega
      · have hff : fitsB X = false := by simpa using hfit
        rw [hff]
        have HFF := Lib.hid hff
        clear hfit hff
        have cX := S4.out.blk.cell
        have lX := S4.out.blk.lt
        go_wp2_with fail
        go_quiet (fail)
        go_wp2_with fail
        go_ret2
        exact ⟨8, X.tick, rfl, Or.inr (Or.inr ⟨HF0.out, ⟨by omega, by omega⟩, Or.inr ⟨rfl, k, by omega, hlt, by rw [HXX.out]; exact HFF.out, fun j h1 h2 => HX.out j (by omega) h2, by rw [HXX.out]⟩⟩), below_drewN (HBR.out.trans (B4.out.mono HBR.out.size)) _⟩
    · obtain rfl : k = ts.length + 1 := by omega
      have d3 : decide (((ts.length + 1 : Nat) : Int) ≤ (ts.length : Int)) = false := decide_eq_false (by omega)
      have d4 : decide ((ts.length : Int) + 1 ≤ (ts.length : Int)) = false := decide_eq_false (by omega)
      go_wp2_with fail
      go_ret2
      exact ⟨0, 0, rfl, Or.inr (Or.inr ⟨HF0.out, ⟨by omega, by omega⟩, Or.inl ⟨rfl, rfl, fun j h1 h2 => HX.out j (by omega) (by omega)⟩⟩), HBR.out⟩
end Go.Proofs.Ytlfljlhppigejaa
