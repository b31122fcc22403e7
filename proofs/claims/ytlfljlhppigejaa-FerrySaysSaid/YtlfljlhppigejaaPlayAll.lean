/-
  The walk of elder.Play.
-/
import Derived.Test.YtlfljlhppigejaaElderStep
import Derived.Test.YtlfljlhppigejaaPackPure
import Derived.Test.YtlfljlhppigejaaPackGame
import Derived.Test.YtlfljlhppigejaaTapeAll
import Derived.RegionTactic
import Derived.Deep.RegionWith
import Derived.BigRegion
import Derived.Deep.DeepCutAuto
namespace Go.Proofs.Ytlfljlhppigejaa
open Go.RowKit

/-- What is played is handed back. -/
def PlayEnd (s : Nat × G) (w : World) (e : Ending) (w' : World) : Prop :=
  Below w.heap.size w w' ∧ ((s.1 ≠ 0 ∧ e = .returned (.tuple #[.agg #[.int .i64 0, .int .i64 0, .int .i64 0, .int .i64 0, .slice none 0 0, .slice none 0 0], errV s.1])) ∨
    (s.1 = 0 ∧ ∃ fv ev, e = .returned (.tuple #[.agg #[.int .i64 s.2.tick, .int .i64 s.2.g0, .int .i64 s.2.g1, .int .i64 s.2.next, fv, ev], .nilIface]) ∧
      w'.ownsRow w.heap.size 3 1 fv s.2.free.length (intCells s.2.free) ∧ w'.ownsRow w.heap.size 179 10 ev s.2.us.length (cellsAll s.2.us)))

/-- The state that is played, in the variable S. -/
def PlayAt (s : Nat × G) (B S : Nat) (w : World) : Prop :=
  ∃ c : Array Value, c.size = 6 ∧ Blk w S c ∧ (s.1 = 0 → ∃ fv ev, c = #[.int .i64 s.2.tick, .int .i64 s.2.g0, .int .i64 s.2.g1, .int .i64 s.2.next, fv, ev] ∧
    w.ownsRow B 3 1 fv s.2.free.length (intCells s.2.free) ∧ w.ownsRow B 179 10 ev s.2.us.length (cellsAll s.2.us) ∧ fv.ownBlock ≠ some S ∧ ev.ownBlock ≠ some S)
/-- The two rows of a state, each one's own. -/
structure Rows2 (g : G) (B lo : Nat) (w : World) (fv ev : Value) : Prop where
  fr : w.ownsRow B 3 1 fv g.free.length (intCells g.free)
  us : w.ownsRow B 179 10 ev g.us.length (cellsAll g.us)
  f : ∀ b, fv.ownBlock = some b → lo ≤ b ∧ b < w.heap.size
  e : ∀ b, ev.ownBlock = some b → lo ≤ b ∧ b < w.heap.size

theorem play_start {s : Nat × G} {B S : Nat} {w1 wx : World} {fv ev : Value} (o1 : w1.ownsRow B 3 1 fv s.2.free.length (intCells s.2.free)) (o2 : w1.ownsRow B 179 10 ev s.2.us.length (cellsAll s.2.us)) (kp : Kp (fun b => b = S) w1 wx)
    (hb : Blk wx S #[.int .i64 s.2.tick, .int .i64 s.2.g0, .int .i64 s.2.g1, .int .i64 s.2.next, fv, ev]) (h1 : ∀ b, fv.ownBlock = some b → b ≠ S) (h2 : ∀ b, ev.ownBlock = some b → b ≠ S) : PlayAt s B S wx :=
  ⟨_, rfl, hb, fun _ => ⟨fv, ev, rfl, own_kp o1 kp h1, own_kp o2 kp h2, fun e => h1 S e rfl, fun e => h2 S e rfl⟩⟩
theorem Kp.six {S : Nat} {v w : World} (k : Kp (fun b => b = S) v w) (v0 v1 v2 v3 v4 v5 : Value) : Kp (fun b => b = S) v ((((((w.setCell ⟨S, 0, none⟩ v0).setCell ⟨S, 1, none⟩ v1).setCell ⟨S, 2, none⟩ v2).setCell ⟨S, 3, none⟩ v3).setCell ⟨S, 4, none⟩ v4).setCell ⟨S, 5, none⟩ v5) :=
  (((((k.andset ⟨S, 0, none⟩ v0 rfl).andset ⟨S, 1, none⟩ v1 rfl).andset ⟨S, 2, none⟩ v2 rfl).andset ⟨S, 3, none⟩ v3 rfl).andset ⟨S, 4, none⟩ v4 rfl).andset ⟨S, 5, none⟩ v5 rfl
theorem Below.six {B S : Nat} {v w : World} (k : Below B v w) (hS : B ≤ S) (v0 v1 v2 v3 v4 v5 : Value) : Below B v ((((((w.setCell ⟨S, 0, none⟩ v0).setCell ⟨S, 1, none⟩ v1).setCell ⟨S, 2, none⟩ v2).setCell ⟨S, 3, none⟩ v3).setCell ⟨S, 4, none⟩ v4).setCell ⟨S, 5, none⟩ v5) :=
  (((((k.setCell hS v0).setCell hS v1).setCell hS v2).setCell hS v3).setCell hS v4).setCell hS v5

/-- The variable was made first. -/
theorem start_a {f : Nat} {g : G} {W w1 w2 : World} {Z : Array Value} {T : TypeId} {fv ev : Value} (b1 : Below (W.alloc (.cells Z T)).drew.heap.size (W.alloc (.cells Z T)).drew w1) (b2 : Below w1.heap.size w1 w2) (B2 : Below W.heap.size W w2)
    (R : Rows2 g W.heap.size (W.alloc (.cells Z T)).drew.heap.size w1 fv ev) (hZ : Z.size = 6) :
    PlayAt (f, g) W.heap.size W.heap.size ((((((w2.setCell ⟨W.heap.size, 0, none⟩ (.int .i64 g.tick)).setCell ⟨W.heap.size, 1, none⟩ (.int .i64 g.g0)).setCell ⟨W.heap.size, 2, none⟩ (.int .i64 g.g1)).setCell ⟨W.heap.size, 3, none⟩ (.int .i64 g.next)).setCell ⟨W.heap.size, 4, none⟩ fv).setCell ⟨W.heap.size, 5, none⟩ ev) ∧
      Below W.heap.size W ((((((w2.setCell ⟨W.heap.size, 0, none⟩ (.int .i64 g.tick)).setCell ⟨W.heap.size, 1, none⟩ (.int .i64 g.g0)).setCell ⟨W.heap.size, 2, none⟩ (.int .i64 g.g1)).setCell ⟨W.heap.size, 3, none⟩ (.int .i64 g.next)).setCell ⟨W.heap.size, 4, none⟩ fv).setCell ⟨W.heap.size, 5, none⟩ ev) := by
  have hb := ((Blk.new W Z T).drew.call b1).call b2
  have hs : (W.alloc (.cells Z T)).drew.heap.size = W.heap.size + 1 := by simp
  refine ⟨play_start (s := (f, g)) R.fr R.us (Kp.six (kp_of b2 _) _ _ _ _ _ _) (hb.store6 hZ _ _ _ _ _ _) (fun b hb => ?_) (fun b hb => ?_), Below.six B2 (Nat.le_refl _) _ _ _ _ _ _⟩
  · have := (R.f b hb).1; omega
  · have := (R.e b hb).1; omega
/-- .. or between the two calls. -/
theorem start_b {f lo : Nat} {g : G} {W w1 w2 : World} {Z : Array Value} {T : TypeId} {fv ev : Value} (h1 : W.heap.size ≤ w1.heap.size) (b2 : Below (w1.alloc (.cells Z T)).heap.size (w1.alloc (.cells Z T)) w2) (B2 : Below W.heap.size W w2) (R : Rows2 g W.heap.size lo w1 fv ev) (hZ : Z.size = 6) :
    PlayAt (f, g) W.heap.size w1.heap.size ((((((w2.setCell ⟨w1.heap.size, 0, none⟩ (.int .i64 g.tick)).setCell ⟨w1.heap.size, 1, none⟩ (.int .i64 g.g0)).setCell ⟨w1.heap.size, 2, none⟩ (.int .i64 g.g1)).setCell ⟨w1.heap.size, 3, none⟩ (.int .i64 g.next)).setCell ⟨w1.heap.size, 4, none⟩ fv).setCell ⟨w1.heap.size, 5, none⟩ ev) ∧
      Below W.heap.size W ((((((w2.setCell ⟨w1.heap.size, 0, none⟩ (.int .i64 g.tick)).setCell ⟨w1.heap.size, 1, none⟩ (.int .i64 g.g0)).setCell ⟨w1.heap.size, 2, none⟩ (.int .i64 g.g1)).setCell ⟨w1.heap.size, 3, none⟩ (.int .i64 g.next)).setCell ⟨w1.heap.size, 4, none⟩ fv).setCell ⟨w1.heap.size, 5, none⟩ ev) := by
  have hb := (Blk.new w1 Z T).call b2
  refine ⟨play_start (s := (f, g)) R.fr R.us (Kp.six ((kp_of ((Below.refl _ w1).alloc (Nat.le_refl _) _) _).then_ b2) _ _ _ _ _ _) (hb.store6 hZ _ _ _ _ _ _) (fun b hb => ?_) (fun b hb => ?_), Below.six B2 h1 _ _ _ _ _ _⟩
  · have := (R.f b hb).2; omega
  · have := (R.e b hb).2; omega
/-- .. or last. -/
theorem start_c {f lo : Nat} {g : G} {W w1 w2 : World} {T : TypeId} {fv ev : Value} (h2 : W.heap.size ≤ w2.heap.size) (b2 : Below w1.heap.size w1 w2) (B2 : Below W.heap.size W w2) (R : Rows2 g W.heap.size lo w1 fv ev) :
    PlayAt (f, g) W.heap.size w2.heap.size (w2.alloc (.cells #[.int .i64 g.tick, .int .i64 g.g0, .int .i64 g.g1, .int .i64 g.next, fv, ev] T)) ∧ Below W.heap.size W (w2.alloc (.cells #[.int .i64 g.tick, .int .i64 g.g0, .int .i64 g.g1, .int .i64 g.next, fv, ev] T)) := by
  have hs := b2.size
  refine ⟨play_start (s := (f, g)) R.fr R.us ((kp_of b2 _).then_ ((Below.refl _ _).alloc (Nat.le_refl _) _)) (Blk.new w2 _ _) (fun b hb => ?_) (fun b hb => ?_), B2.alloc h2 _⟩
  · have := (R.f b hb).2; omega
  · have := (R.e b hb).2; omega
end Go.Proofs.Ytlfljlhppigejaa
namespace Go.Proofs.Ytlfljlhppigejaa
open Go.RowKit

set_option maxHeartbeats 12800000 in
set_option maxRecDepth 100000 in
theorem play_any (g : G) (fa ua ta : Option Addr) (cf cu ct : Nat) (hnew : g.new = false) (hcf : g.free.length ≤ 100000) (hcu : g.us.length ≤ 100000) (ts : List (List Cm)) (hct : ts.length ≤ maxLen) (hcap : ts.length ≤ ct) (n : Nat) (hn : n ≤ ts.length) (w : World)
    (hf : Row w.heap.size w fa g.free.length (fun k => .int .i64 (g.free.getD k 0))) (hu : URow false w.heap.size w ua g.us) (ht : TRow w.heap.size w ta ts) (hfit : ∀ n ∈ g.free, Fits64 n) :
    Calls Try.prog 62 #[.agg #[.int .i64 g.tick, .int .i64 g.g0, .int .i64 g.g1, .int .i64 g.next, .slice fa g.free.length cf, .slice ua g.us.length cu, .slice ta ts.length ct], .int .i64 n] w (PlayEnd (playF g (ts.take n)) w) := by
  obtain ⟨W, hW⟩ : ∃ W, (w.alloc (.cells #[.int .i64 g.tick, .int .i64 g.g0, .int .i64 g.g1, .int .i64 g.next, .slice fa g.free.length cf, .slice ua g.us.length cu, .slice ta ts.length ct] 94)).alloc (.cells #[.int .i64 0, .int .i64 0, .int .i64 0, .int .i64 0, .slice none 0 0, .slice none 0 0] 90) = W := ⟨_, rfl⟩
  have hbW : Below w.heap.size w W := by rw [← hW]; exact ((Below.refl _ _).alloc (Nat.le_refl _) _).alloc (by simp) _
  have hWs : W.heap.size = w.heap.size + 2 := by rw [← hW]; simp
  have k1 : Blk W w.heap.size #[.int .i64 g.tick, .int .i64 g.g0, .int .i64 g.g1, .int .i64 g.next, .slice fa g.free.length cf, .slice ua g.us.length cu, .slice ta ts.length ct] := by rw [← hW]; exact (Blk.new w _ _).alloc _
  have k2 : Blk W (w.heap.size + 1) #[.int .i64 0, .int .i64 0, .int .i64 0, .int .i64 0, .slice none 0 0, .slice none 0 0] := by
    rw [← hW]
    have := Blk.new (w.alloc (.cells #[.int .i64 g.tick, .int .i64 g.g0, .int .i64 g.g1, .int .i64 g.next, .slice fa g.free.length cf, .slice ua g.us.length cu, .slice ta ts.length ct] 94)) #[.int .i64 0, .int .i64 0, .int .i64 0, .int .i64 0, .slice none 0 0, .slice none 0 0] 90
    simpa using this
  have hszW := hbW.size
  have HF := Lib.hid ((hf.below hbW).mono hszW)
  have HU := Lib.hid ((hu.below hbW).mono hszW)
  have HT := Lib.hid (ht.below hbW)
  have HFIT := Lib.hid hfit
  have HNEW := Lib.hid hnew
  have HBW := Lib.hid hbW
  have K1 := Lib.hid k1
  have K2 := Lib.hid k2
  have HCT := Lib.hid hct
  have d0 : decide ((n : Int) < 0) = false := decide_eq_false (by omega)
  have d1 : decide ((ts.length : Int) < (n : Int)) = false := decide_eq_false (by omega)
  obtain ⟨l1, c1, -⟩ := id k1
  have HWS := Lib.hid hWs
  clear hf hu ht hfit hnew hbW k1 k2 hWs
  go_enter Try.func62, Try.ntmps62
  go_upto_region 3 with fail
  have ownc : ∀ X, Below W.heap.size W X → Calls Try.prog 116 #[.agg #[.int .i64 g.tick, .int .i64 g.g0, .int .i64 g.g1, .int .i64 g.next, .slice fa g.free.length cf, .slice ua g.us.length cu]] X fun e w' => ∃ fva fvc eva evc, e = .returned (.agg #[.int .i64 g.tick, .int .i64 g.g0, .int .i64 g.g1, .int .i64 g.next, .slice fva g.free.length fvc, .slice eva g.us.length evc]) ∧ Below X.heap.size X w' ∧ Below W.heap.size W w' ∧
      Hid (Rows2 g W.heap.size X.heap.size w' (.slice fva g.free.length fvc) (.slice eva g.us.length evc)) := fun X hX =>
    (own_any g.tick g.g0 g.g1 g.next g.free fa g.free.length cf rfl hcf g.us ua g.us.length cu rfl hcu X ((HF.out.below hX).mono hX.size) ((HU.out.below hX).mono hX.size)).mono fun e w' ⟨fv, ev, he, b, o1, o2, _⟩ => (by
      obtain ⟨fva, fvc, rfl⟩ := own_slice o1
      obtain ⟨eva, evc, rfl⟩ := own_slice o2
      exact ⟨fva, fvc, eva, evc, he, b, hX.trans (b.mono hX.size), Lib.hid ⟨own_base o1 hX.size, own_base o2 hX.size, World.ownsRow.lt o1, World.ownsRow.lt o2⟩⟩)
  have chkc : ∀ X, Below W.heap.size W X → Calls Try.prog 58 #[.agg #[.int .i64 g.tick, .int .i64 g.g0, .int .i64 g.g1, .int .i64 g.next, .slice fa g.free.length cf, .slice ua g.us.length cu]] X fun e w' => e = .returned (errV (faultOf g)) ∧ Below X.heap.size X w' ∧ Below W.heap.size W w' := fun X hX =>
    (check_any g fa ua g.free.length cf g.us.length cu HNEW.out rfl rfl (by omega) (by omega) X ((HF.out.below hX).mono hX.size) ((HU.out.below hX).mono hX.size) HFIT.out).mono fun e w' ⟨he, b⟩ => ⟨he, b, hX.trans (b.mono hX.size)⟩
  have OWNC := Lib.hid ownc
  have CHKC := Lib.hid chkc
  clear ownc chkc
  obtain ⟨FLT, hFLT⟩ : ∃ v, errV (faultOf g) = v := ⟨_, rfl⟩
  have HFLT := Lib.hid hFLT
  go_cut [6, 7] (fun s6 s7 wx => ∃ S : Nat, s6 = .pointer (some ⟨S, 0, none⟩) ∧ s7 = FLT ∧ (W.heap.size ≤ S ∧ PlayAt (faultOf g, g) W.heap.size S wx ∧ Below W.heap.size W wx))
  case first =>
    rw [hFLT] at CHKC
    clear hFLT
    go_region_with (first
      | (go_at_call 116
         refine (OWNC.out _ (by repeat (first | assumption | exact Below.refl _ _ | refine Below.drew ?_ | refine Below.alloc ?_ (by first | omega | (simp; try omega)) _))).mono ?_
         rintro e w1 ⟨fva, fvc, eva, evc, rfl, b1, B1, o1⟩
         have hz1 := B1.size
         have la1 : w.heap.size < w1.heap.size := Nat.lt_of_lt_of_le l1 hz1
         obtain ⟨hc1, hf1⟩ := bcell b1
         have hy1 := b1.size
         try simp only [World.size_alloc, World.size_drew] at hy1 hc1 hf1
         try (have lw1 : W.heap.size < w1.heap.size := (by omega))
         try (have lw21 : w2.heap.size < w1.heap.size := (by omega)))
      | (go_at_call 58
         refine (CHKC.out _ (by repeat (first | assumption | exact Below.refl _ _ | refine Below.drew ?_ | refine Below.alloc ?_ (by first | omega | (simp; try omega)) _))).mono ?_
         rintro e w2 ⟨rfl, b2, B2⟩
         have hz2 := B2.size
         have la2 : w.heap.size < w2.heap.size := Nat.lt_of_lt_of_le l1 hz2
         obtain ⟨hc2, hf2⟩ := bcell b2
         have hy2 := b2.size
         try simp only [World.size_alloc, World.size_drew] at hy2 hc2 hf2
         try (have lw2 : W.heap.size < w2.heap.size := (by omega))
         try (have lw12 : w1.heap.size < w2.heap.size := (by omega))))
    all_goals
      go_wp2_with fail
      go_meet
      first
        | (refine ⟨W.heap.size, (by with_reducible rfl), rfl, Nat.le_refl _, ?_⟩
           exact start_a b1 b2 B2 o1.out rfl)
        | (refine ⟨w1.heap.size, (by with_reducible rfl), rfl, hz1, ?_⟩
           exact start_b hz1 b2 B2 o1.out rfl)
        | (refine ⟨w2.heap.size, (by with_reducible rfl), rfl, hz2, ?_⟩
           exact start_c hz2 b2 B2 o1.out)
  case rest =>
    obtain ⟨S, rfl, h7, hS, hat, hbe⟩ := hcut
    rw [h7]
    clear h7 hFLT
    have k1X := K1.out.call hbe
    obtain ⟨l1X, c1X, -⟩ := id k1X
    have HAT := Lib.hid hat
    have HBE := Lib.hid hbe
    have hwW : w.heap.size + 1 < W.heap.size := by have := HWS.out; omega
    have nct : (n : Int) ≤ (ct : Int) := by omega
    have hn0 : (0 : Int) ≤ (n : Int) := by omega
    clear hat hbe k1X c1 l1 d0 d1
    go_wp2_with fail
    go_loopw [7, 9, 32] (fun e _ i wr => ∃ k : Nat, i = .int .i64 k ∧ k ≤ n ∧ (e = errV (playF g (ts.take k)).1 ∧ PlayAt (playF g (ts.take k)) W.heap.size S wr ∧ Below W.heap.size W wr)) (fun _ _ i _ => (n - intOf i).toNat)
    case atStart => exact ⟨0, rfl, by omega, HFLT.out.symm, HAT.out, HBE.out⟩
    case round =>
      obtain ⟨k, rfl, hk, rfl, hat, hX⟩ := hrel
      obtain ⟨s, hs⟩ : ∃ s, playF g (ts.take k) = s := ⟨_, rfl⟩
      rw [hs] at hat ⊢
      have hok : PlayOk s := by rw [← hs]; exact playF_ok HNEW.out _
      have hszr := hX.size
      obtain ⟨c, hc6, hblk, hz⟩ := hat
      have k2r := K2.out.call hX
      obtain ⟨l2r, c2r, f2r⟩ := id k2r
      have HXX := Lib.hid hX
      have HSS := Lib.hid hs
      have HOK := Lib.hid hok
      have K2R := Lib.hid k2r
      have hrow := HT.out.below (hX.mono hszW)
      have HROW := Lib.hid hrow
      clear hX hs hok k2r hrow
      by_cases h0 : s.1 = 0
      · obtain ⟨fv, ev, rfl, o1, o2, n1, n2⟩ := hz h0
        have hr := HOK.out.2 h0
        have hfew := hr.few
        have hunf := hr.unfree
        obtain ⟨fva, fvc, rfl, rF⟩ := ints_at rfl o1
        obtain ⟨eva, evc, rfl, -, rU, -⟩ := URow.of_own o2
        obtain ⟨lS, cS, fS⟩ := id hblk
        rw [h0, errV_zero]
        have HR := Lib.hid hr
        have HBLK := Lib.hid hblk
        have H0 := Lib.hid h0
        have O1 := Lib.hid o1
        have O2 := Lib.hid o2
        have RF := Lib.hid rF
        have RU := Lib.hid rU
        clear hz hr hblk h0 o1 o2 rF rU
        by_cases hlt : k < n
        · obtain ⟨l, hl⟩ : ∃ l, ts.getD k [] = l := ⟨_, rfl⟩
          obtain ⟨b, o, la, cl, hta, hbB, hc, hcr, hll⟩ := HROW.out.get k (by omega) l hl
          subst hta
          have hki : (0 : Int) ≤ (k : Int) := by omega
          have hkl : (k : Int) < (n : Int) := by omega
          have hbr : b < wr.heap.size := by omega
          have HL := Lib.hid hl
          have HCR := Lib.hid (hcr.mono (B' := wr.heap.size) (by omega))
          have hm : maxLen ≤ 9223372036854775807 := by unfold maxLen; decide
          clear hl hcr c2r f2r l2r
          go_wp2_with fail
          refine (step_any s.2 fva eva la fvc evc cl HOK.out.1 (by omega) (by omega) l (by omega) wr RF.out RU.out HCR.out (free_range HR.out HOK.out.1)).mono ?_
          rintro e w1 ⟨b1, hcase⟩
          have kS1 := HBLK.out.call b1
          obtain ⟨lS1, cS1, fS1⟩ := id kS1
          have hnx : playF g (ts.take (k + 1)) = (stepFault s.2 l, if stepFault s.2 l = 0 then (stepE s.2 l).1 else s.2) := by
            rw [playF_succ g ts k (by omega), HSS.out, HL.out]
            unfold playStep
            rw [if_neg (by rw [H0.out]; simp)]
          have HNX := Lib.hid hnx
          have B1 := Lib.hid b1
          have KS1 := Lib.hid kS1
          have hs1 := b1.size
          clear hnx b1 kS1 cS fS
          rcases hcase with ⟨hne, rfl⟩ | ⟨hz, fv', ev', bv', rfl, p1, p2, -⟩
          · rw [errV_pos _ hne]
            have HNE := Lib.hid hne
            clear hne
            go_wp2_with fail
            go_roundw
            case rel =>
              refine ⟨k + 1, by go_num, by omega, ?_, ?_, ?_⟩
              · rw [HNX.out, errV_pos _ HNE.out]
              · rw [HNX.out]
                exact ⟨_, rfl, KS1.out.store6 rfl _ _ _ _ _ _, fun h => absurd h HNE.out⟩
              · exact Below.six (HXX.out.trans (B1.out.mono hszr)) hS _ _ _ _ _ _
            case measure => simp [intOf]; omega
          · obtain ⟨fa2, fc2, rfl⟩ := own_slice p1
            obtain ⟨ea2, ec2, rfl⟩ := own_slice p2
            obtain ⟨q, hq⟩ : ∃ q, (stepE s.2 l).1 = q := ⟨_, rfl⟩
            rw [hq] at p1 p2 ⊢
            have HZ := Lib.hid hz
            have HQ := Lib.hid hq
            have P1 := Lib.hid p1
            have P2 := Lib.hid p2
            clear hz hq p1 p2
            go_wp2_with fail
            go_roundw
            case rel =>
              refine ⟨k + 1, by go_num, by omega, ?_, ?_, ?_⟩
              · rw [HNX.out, HZ.out]; rfl
              · rw [HNX.out, HZ.out, if_pos rfl, HQ.out]
                have hne1 : ∀ b, (Value.slice fa2 q.free.length fc2).ownBlock = some b → b ≠ S := fun b hb => by have := (World.ownsRow.lt P1.out b hb).1; omega
                have hne2 : ∀ b, (Value.slice ea2 q.us.length ec2).ownBlock = some b → b ≠ S := fun b hb => by have := (World.ownsRow.lt P2.out b hb).1; omega
                exact play_start (s := (0, q)) (own_base P1.out hszr) (own_base P2.out hszr) (Kp.six (Kp.refl _ w1) _ _ _ _ _ _) (KS1.out.store6 rfl _ _ _ _ _ _) hne1 hne2
              · exact Below.six (HXX.out.trans (B1.out.mono hszr)) hS _ _ _ _ _ _
            case measure => simp [intOf]; omega
        · obtain rfl : k = n := by omega
          go_wp2_with fail
          refine bodyPost_ret (v := .tuple #[.agg #[.int .i64 s.2.tick, .int .i64 s.2.g0, .int .i64 s.2.g1, .int .i64 s.2.next, .slice fva s.2.free.length fvc, .slice eva s.2.us.length evc], .nilIface]) (ret_pair Try.results62 rfl rfl (K2R.out.store6 rfl (.int .i64 s.2.tick) (.int .i64 s.2.g0) (.int .i64 s.2.g1) (.int .i64 s.2.next) (.slice fva s.2.free.length fvc) (.slice eva s.2.us.length evc)) Try.underlying90 rfl infoElder) rfl ?_
          rw [HSS.out]
          refine ⟨Below.six (HBW.out.trans (HXX.out.mono hszW)) (by omega) _ _ _ _ _ _, Or.inr ⟨H0.out, .slice fva s.2.free.length fvc, .slice eva s.2.us.length evc, rfl, ?_, ?_⟩⟩
          · exact own_base (own_kp O1.out (Kp.six (Kp.refl _ wr) _ _ _ _ _ _) (fun b hb e => by have := (World.ownsRow.lt O1.out b hb).1; have h2 : b = w.heap.size + 1 := e; omega)) hszW
          · exact own_base (own_kp O2.out (Kp.six (Kp.refl _ wr) _ _ _ _ _ _) (fun b hb e => by have := (World.ownsRow.lt O2.out b hb).1; have h2 : b = w.heap.size + 1 := e; omega)) hszW
      · rw [errV_pos _ h0]
        have HNE := Lib.hid h0
        have hfin : playF g (ts.take n) = s := by rw [← HSS.out]; exact playF_stuck hk (by rw [HSS.out]; exact HNE.out)
        have HFIN := Lib.hid hfin
        clear h0 hz hblk hfin
        by_cases hlt : k < n
        · obtain ⟨l, hl⟩ : ∃ l, ts.getD k [] = l := ⟨_, rfl⟩
          obtain ⟨b, o, la, cl, hta, hbB, hc, hcr, hll⟩ := HROW.out.get k (by omega) l hl
          subst hta
          have hki : (0 : Int) ≤ (k : Int) := by omega
          have hkl : (k : Int) < (n : Int) := by omega
          have hbr : b < wr.heap.size := by omega
          clear hl hcr
          go_wp2_with fail
          refine bodyPost_ret (v := .tuple #[.agg #[.int .i64 0, .int .i64 0, .int .i64 0, .int .i64 0, .slice none 0 0, .slice none 0 0], .iface 148 (.int .i64 (s.1 : Nat))]) (ret_pair Try.results62 rfl rfl (K2R.out.store6 rfl (.int .i64 0) (.int .i64 0) (.int .i64 0) (.int .i64 0) (.slice none 0 0) (.slice none 0 0)) Try.underlying90 rfl infoElder) rfl ?_
          rw [HFIN.out]
          exact ⟨Below.six (HBW.out.trans (HXX.out.mono hszW)) (by omega) _ _ _ _ _ _, Or.inl ⟨HNE.out, by rw [errV_pos _ HNE.out]⟩⟩
        · obtain rfl : k = n := by omega
          go_wp2_with fail
          refine bodyPost_ret (v := .tuple #[.agg #[.int .i64 0, .int .i64 0, .int .i64 0, .int .i64 0, .slice none 0 0, .slice none 0 0], .iface 148 (.int .i64 (s.1 : Nat))]) (ret_pair Try.results62 rfl rfl (K2R.out.store6 rfl (.int .i64 0) (.int .i64 0) (.int .i64 0) (.int .i64 0) (.slice none 0 0) (.slice none 0 0)) Try.underlying90 rfl infoElder) rfl ?_
          rw [HFIN.out]
          exact ⟨Below.six (HBW.out.trans (HXX.out.mono hszW)) (by omega) _ _ _ _ _ _, Or.inl ⟨HNE.out, by rw [errV_pos _ HNE.out]⟩⟩
end Go.Proofs.Ytlfljlhppigejaa
