/-
  newer.Play. (Printed by gen_playn.py.)
-/
import Derived.Test.YtlfljlhppigejaaNewStep
import Derived.Test.YtlfljlhppigejaaPackPure
namespace Go.Proofs.Ytlfljlhppigejaa
open Go.RowKit
attribute [local go_sem] qOne qAt qUp qOneK

theorem own_nilN {w : World} {B : Nat} {ua : Option Addr} {cu n : Nat} {xs : List Value} (h : w.ownsRow B 130 11 (.slice ua n cu) n xs) : (ua = none → n = 0 ∧ cu = 0) ∧ n ≤ cu := by
  rcases h.2 with ⟨h1, h2⟩ | ⟨g', cap', cur, h1, -, -, h4, -⟩
  · cases h1
    exact ⟨fun _ => ⟨h2, rfl⟩, by omega⟩
  · cases h1
    exact ⟨(fun e => by cases e), h4⟩
theorem belowFiveN {B : Nat} {w w' : World} {p : Nat} (h : Below B w w') (hp : B ≤ p) (v0 v1 v2 v3 v4 : Value) : Below B w (((((w'.setCell ⟨p, 0, none⟩ v0).setCell ⟨p, 1, none⟩ v1).setCell ⟨p, 2, none⟩ v2).setCell ⟨p, 3, none⟩ v3).setCell ⟨p, 4, none⟩ v4) :=
  ((((h.setCell (p := ⟨p, 0, none⟩) hp v0).setCell (p := ⟨p, 1, none⟩) hp v1).setCell (p := ⟨p, 2, none⟩) hp v2).setCell (p := ⟨p, 3, none⟩) hp v3).setCell (p := ⟨p, 4, none⟩) hp v4
theorem kpFiveN (w : World) (p : Nat) (v0 v1 v2 v3 v4 : Value) : Kp (fun b => b = p) w (((((w.setCell ⟨p, 0, none⟩ v0).setCell ⟨p, 1, none⟩ v1).setCell ⟨p, 2, none⟩ v2).setCell ⟨p, 3, none⟩ v3).setCell ⟨p, 4, none⟩ v4) :=
  (((((Kp.refl (fun b => b = p) w).andset ⟨p, 0, none⟩ v0 rfl).andset ⟨p, 1, none⟩ v1 rfl).andset ⟨p, 2, none⟩ v2 rfl).andset ⟨p, 3, none⟩ v3 rfl).andset ⟨p, 4, none⟩ v4 rfl
/-- What is played of a reel is handed back. -/
def NPlayEnd (s : Nat × G) (w : World) (e : Ending) (w' : World) : Prop :=
  Below w.heap.size w w' ∧ ((s.1 ≠ 0 ∧ e = .returned (.tuple #[.agg #[.int .i64 0, .int .i64 0, .int .i64 0, .int .i64 0, .slice none 0 0], errV s.1])) ∨
    (s.1 = 0 ∧ ∃ ub cb, e = .returned (.tuple #[.agg #[.int .i64 s.2.tick, .int .i64 s.2.g0, .int .i64 s.2.g1, .int .i64 s.2.next, .slice ub s.2.us.length cb], .nilIface]) ∧ w'.ownsRow w.heap.size 130 11 (.slice ub s.2.us.length cb) s.2.us.length (cellsAllN s.2.us)))

set_option maxHeartbeats 12800000 in
set_option maxRecDepth 100000 in
theorem nplay_bad (g : G) (ua ta : Option Addr) (cu ct : Nat) (ts : List (List Cm)) (_hct : ts.length ≤ 100000) (n : Int) (hn : n < 0 ∨ (ts.length : Int) < n) (w : World) :
    Calls Try.prog 50 #[.agg #[.int .i64 g.tick, .int .i64 g.g0, .int .i64 g.g1, .int .i64 g.next, .slice ua g.us.length cu, .slice ta ts.length ct], .int .i64 n] w fun e w' => e = .returned (.tuple #[.agg #[.int .i64 0, .int .i64 0, .int .i64 0, .int .i64 0, .slice none 0 0], errV 1]) ∧ Below w.heap.size w w' := by
  obtain ⟨W, hW⟩ : ∃ W, (w.alloc (.cells #[.int .i64 g.tick, .int .i64 g.g0, .int .i64 g.g1, .int .i64 g.next, .slice ua g.us.length cu, .slice ta ts.length ct] 69)).alloc (.cells #[.int .i64 0, .int .i64 0, .int .i64 0, .int .i64 0, .slice none 0 0] 65) = W := ⟨_, rfl⟩
  have hbW : Below w.heap.size w W := by rw [← hW]; exact ((Below.refl _ _).alloc (Nat.le_refl _) _).alloc (by simp) _
  have k1 : Blk W w.heap.size #[.int .i64 g.tick, .int .i64 g.g0, .int .i64 g.g1, .int .i64 g.next, .slice ua g.us.length cu, .slice ta ts.length ct] := by rw [← hW]; exact (Blk.new w _ _).alloc _
  have k2 : Blk W (w.heap.size + 1) #[.int .i64 0, .int .i64 0, .int .i64 0, .int .i64 0, .slice none 0 0] := by
    rw [← hW]
    have := Blk.new (w.alloc (.cells #[.int .i64 g.tick, .int .i64 g.g0, .int .i64 g.g1, .int .i64 g.next, .slice ua g.us.length cu, .slice ta ts.length ct] 69)) #[.int .i64 0, .int .i64 0, .int .i64 0, .int .i64 0, .slice none 0 0] 65
    simpa using this
  have HW := Lib.hid hbW
  have K2 := Lib.hid k2
  have l1 := k1.lt
  have c1 := k1.cell
  have l2 := k2.lt
  have c2 := k2.cell
  have f2 := k2.free
  rw [errV_pos 1 (by decide)]
  clear hbW k1 k2
  go_enter Try.func50, Try.ntmps50
  go_upto_region 1 with fail
  try rw [hW]
  clear hW
  by_cases h0 : n < 0
  · have d0 : decide (n < 0) = true := decide_eq_true h0
    clear h0 hn
    go_wp2_with fail
    refine bodyPost_ret (v := .tuple #[.agg #[.int .i64 0, .int .i64 0, .int .i64 0, .int .i64 0, .slice none 0 0], .iface 148 (.int .i64 1)]) (ret_cell2n Try.results50 rfl rfl (K2.out.store5n rfl (.int .i64 0) (.int .i64 0) (.int .i64 0) (.int .i64 0) (.slice none 0 0)) Try.underlying65 rfl infoNewerN) rfl ?_
    exact ⟨rfl, belowFiveN HW.out (by omega) _ _ _ _ _⟩
  · have d0 : decide (n < 0) = false := decide_eq_false h0
    have d1 : decide ((ts.length : Int) < n) = true := decide_eq_true (by omega)
    clear h0 hn
    go_wp2_with fail
    refine bodyPost_ret (v := .tuple #[.agg #[.int .i64 0, .int .i64 0, .int .i64 0, .int .i64 0, .slice none 0 0], .iface 148 (.int .i64 1)]) (ret_cell2n Try.results50 rfl rfl (K2.out.store5n rfl (.int .i64 0) (.int .i64 0) (.int .i64 0) (.int .i64 0) (.slice none 0 0)) Try.underlying65 rfl infoNewerN) rfl ?_
    exact ⟨rfl, belowFiveN HW.out (by omega) _ _ _ _ _⟩

set_option maxHeartbeats 12800000 in
set_option maxRecDepth 100000 in
theorem nplay_any (g : G) (ua ta : Option Addr) (cu ct : Nat) (hnew : g.new = true) (hfree : g.free = []) (hcu : g.us.length ≤ 9223372036854775807) (hnil : ua = none → g.us.length = 0 ∧ cu = 0) (hcapu : g.us.length ≤ cu) (ts : List (List Cm)) (hct : ts.length ≤ 100000) (hcap : ts.length ≤ ct)
    (hkt : ∀ l ∈ ts, ∀ c ∈ l, c.kind = c.target ∧ (Lit.int .i64 c.id).wf = true ∧ (Lit.int .i64 c.target).wf = true) (n : Nat) (hn : n ≤ ts.length) (w : World) (hu : URow true w.heap.size w ua g.us) (ht : PRow w.heap.size w ta ts) :
    Calls Try.prog 50 #[.agg #[.int .i64 g.tick, .int .i64 g.g0, .int .i64 g.g1, .int .i64 g.next, .slice ua g.us.length cu, .slice ta ts.length ct], .int .i64 n] w (NPlayEnd (playFN g (ts.take n)) w) := by
  obtain ⟨W, hW⟩ : ∃ W, (w.alloc (.cells #[.int .i64 g.tick, .int .i64 g.g0, .int .i64 g.g1, .int .i64 g.next, .slice ua g.us.length cu, .slice ta ts.length ct] 69)).alloc (.cells #[.int .i64 0, .int .i64 0, .int .i64 0, .int .i64 0, .slice none 0 0] 65) = W := ⟨_, rfl⟩
  have hbW : Below w.heap.size w W := by rw [← hW]; exact ((Below.refl _ _).alloc (Nat.le_refl _) _).alloc (by simp) _
  have k1 : Blk W w.heap.size #[.int .i64 g.tick, .int .i64 g.g0, .int .i64 g.g1, .int .i64 g.next, .slice ua g.us.length cu, .slice ta ts.length ct] := by rw [← hW]; exact (Blk.new w _ _).alloc _
  have k2 : Blk W (w.heap.size + 1) #[.int .i64 0, .int .i64 0, .int .i64 0, .int .i64 0, .slice none 0 0] := by
    rw [← hW]
    have := Blk.new (w.alloc (.cells #[.int .i64 g.tick, .int .i64 g.g0, .int .i64 g.g1, .int .i64 g.next, .slice ua g.us.length cu, .slice ta ts.length ct] 69)) #[.int .i64 0, .int .i64 0, .int .i64 0, .int .i64 0, .slice none 0 0] 65
    simpa using this
  have hszW := hbW.size
  have HU := Lib.hid ((hu.below hbW).mono hszW)
  have HT := Lib.hid (ht.below hbW)
  have HW := Lib.hid hbW
  have K1 := Lib.hid k1
  have K2 := Lib.hid k2
  have HNEW := Lib.hid hnew
  have HFREE := Lib.hid hfree
  have HNIL := Lib.hid hnil
  have HKT := Lib.hid hkt
  have l1 := k1.lt
  have c1 := k1.cell
  have hK2 := k2.lt
  have d0 : decide ((n : Int) < 0) = false := decide_eq_false (by omega)
  have d1 : decide ((ts.length : Int) < (n : Int)) = false := decide_eq_false (by omega)
  clear hu ht hbW k1 k2 hnew hfree hnil hkt
  go_enter Try.func50, Try.ntmps50
  go_upto_region 1 with fail
  try rw [hW]
  clear hW
  go_wp2_with fail
  refine (ncheck_any g ua cu HNEW.out HFREE.out hcu _ HU.out HNIL.out hcapu).mono ?_
  rintro e w1 ⟨rfl, b1⟩
  have HB1 := Lib.hid b1
  have K11 := Lib.hid (K1.out.call b1)
  have K21 := Lib.hid (K2.out.call b1)
  have l11 := K11.out.lt
  have c11 := K11.out.cell
  have l21 := K21.out.lt
  have c21 := K21.out.cell
  have f21 := K21.out.free
  clear b1 c1 l1 d0 d1
  by_cases hfault : faultOf g = 0
  case neg =>
    rw [errV_pos _ hfault]
    have HFA := Lib.hid hfault
    clear hfault
    have HST : Hid (playFN g (ts.take n) = (faultOf g, g)) := Lib.hid (by
      have h1 := playFN_stuck (g := g) (ts := ts) (k := 0) (n := n) (Nat.zero_le _) (by show faultOf g ≠ 0; exact HFA.out)
      rw [h1]
      rfl)
    go_wp2_with fail
    refine bodyPost_ret (v := .tuple #[.agg #[.int .i64 0, .int .i64 0, .int .i64 0, .int .i64 0, .slice none 0 0], .iface 148 (.int .i64 (faultOf g : Nat))]) (ret_cell2n Try.results50 rfl rfl (K21.out.store5n rfl (.int .i64 0) (.int .i64 0) (.int .i64 0) (.int .i64 0) (.slice none 0 0)) Try.underlying65 rfl infoNewerN) rfl ?_
    refine ⟨belowFiveN (HW.out.trans (HB1.out.mono hszW)) (by omega) _ _ _ _ _, Or.inl ⟨by rw [HST.out]; exact HFA.out, by rw [HST.out, errV_pos _ HFA.out]⟩⟩
  rw [hfault, errV_zero]
  have HFA := Lib.hid hfault
  have hg := (right_iff g).1 hfault
  have HG := Lib.hid hg
  clear hfault hg
  go_wp2_with fail
  refine (place_any g ua cu w1 HG.out.sorted HG.out.few (fun u hu => by
    have ok := HG.out.ok hu
    have h1 := on_range ok.on
    have h2 := ok.idT
    have h3 := ok.id1
    rw [HNEW.out] at h2
    exact ⟨h1.1, h1.2.1, h1.2.2.1, h1.2.2.2, wf_int (by have : topOf true = 2000 := rfl; omega)⟩) ((HU.out.below HB1.out).mono HB1.out.size) HNIL.out).mono ?_
  rintro e w2 ⟨S, M, ub, cb, rfl, hS, hM, hSM, hub, b2, bd2, -, own2⟩
  have lS := bd2.lt
  have s0 : w2.cell? ⟨S, 0, none⟩ = some (.int .i64 g.tick) := bd2.2.1 0 (by omega)
  have s1 : w2.cell? ⟨S, 1, none⟩ = some (.int .i64 g.g0) := bd2.2.1 1 (by omega)
  have s2 : w2.cell? ⟨S, 2, none⟩ = some (.int .i64 g.g1) := bd2.2.1 2 (by omega)
  have s3 : w2.cell? ⟨S, 3, none⟩ = some (.int .i64 g.next) := bd2.2.1 3 (by omega)
  have s4 : w2.cell? ⟨S, 4, none⟩ = some (.slice ub g.us.length cb) := bd2.2.1 4 (by omega)
  have HB2 : Hid (Below W.heap.size W w2) := Lib.hid (HB1.out.trans (b2.mono HB1.out.size))
  have HO2 := Lib.hid own2
  have K12 := Lib.hid (K11.out.call b2)
  have hw12 := HB1.out.size
  clear b2 bd2 own2 hub c11 l11 c21 f21 l21 hM hSM hS
  go_upto_region 7 with fail
  have hba : Below w2.heap.size w2 (w2.alloc (.cells #[.int .i64 g.tick, .int .i64 g.g0, .int .i64 g.g1, .int .i64 g.next, .slice ub g.us.length cb] 65)) := (Below.refl _ _).alloc (Nat.le_refl _) _
  refine gen_world (fun V => Below W.heap.size W V ∧ Blk V w2.heap.size #[.int .i64 g.tick, .int .i64 g.g0, .int .i64 g.g1, .int .i64 g.next, .slice ub g.us.length cb] ∧ V.ownsRow w1.heap.size 130 11 (.slice ub g.us.length cb) g.us.length (cellsAllN g.us) ∧ Blk V w.heap.size #[.int .i64 g.tick, .int .i64 g.g0, .int .i64 g.g1, .int .i64 g.next, .slice ua g.us.length cu, .slice ta ts.length ct]) ⟨HB2.out.trans (hba.mono HB2.out.size), Blk.new _ _ _, own_kp HO2.out (kp_of hba (fun _ => False)) (fun _ _ x => x), K12.out.call hba⟩ ?_
  clear hba s0 s1 s2 s3 s4 lS
  rintro V ⟨bV, kP, oV, kG⟩
  have hP : Hid (∀ b, (Value.slice ub g.us.length cb).ownBlock = some b → b ≠ w2.heap.size ∧ W.heap.size ≤ b) := Lib.hid (fun b hb => by
    have h1 := World.ownsRow.lt HO2.out b hb
    omega)
  have hpw : W.heap.size ≤ w2.heap.size := HB2.out.size
  obtain ⟨P, hPP⟩ : ∃ n, w2.heap.size = n := ⟨_, rfl⟩
  rw [hPP] at kP hP hpw
  try rw [hPP]
  have BV := Lib.hid bV
  have KP := Lib.hid kP
  have OV : Hid (V.ownsRow W.heap.size 130 11 (.slice ub g.us.length cb) g.us.length (cellsAllN g.us)) := Lib.hid (own_base oV hw12)
  have lG := kG.lt
  have cG := kG.cell
  have hn0 : (0 : Int) ≤ (n : Int) := by omega
  have hn1 : (n : Int) ≤ (ct : Int) := by omega
  clear hPP bV kP oV kG HO2 HB2 K12
  go_wp2_with fail
  clear lG cG
  go_loopw [39] (fun c wy => ∃ k : Nat, c = .int .i64 k ∧ k ≤ n ∧ ((playFN g (ts.take k)).1 = 0 ∧ (∃ ux cx, Blk wy P #[.int .i64 (playFN g (ts.take k)).2.tick, .int .i64 (playFN g (ts.take k)).2.g0, .int .i64 (playFN g (ts.take k)).2.g1, .int .i64 (playFN g (ts.take k)).2.next, .slice ux (playFN g (ts.take k)).2.us.length cx] ∧ wy.ownsRow W.heap.size 130 11 (.slice ux (playFN g (ts.take k)).2.us.length cx) (playFN g (ts.take k)).2.us.length (cellsAllN (playFN g (ts.take k)).2.us) ∧ ∀ b, (Value.slice ux (playFN g (ts.take k)).2.us.length cx).ownBlock = some b → b ≠ P) ∧ Below W.heap.size W wy)) (fun c _ => (n - intOf c).toNat)
  case atStart => exact ⟨0, rfl, by omega, HFA.out, ⟨ub, cb, KP.out, OV.out, fun b hb => (hP.out b hb).1⟩, BV.out⟩
  case round =>
    obtain ⟨k, rfl, hk, hz, ⟨ux, cx, kx, ox, nx⟩, hb⟩ := hrel
    have hok := playFN_ok HNEW.out HFREE.out (ts.take k)
    obtain ⟨ps, hps⟩ : ∃ x, playFN g (ts.take k) = x := ⟨_, rfl⟩
    rw [hps] at hz kx ox nx hok
    obtain ⟨X, hX⟩ : ∃ x, ps.2 = x := ⟨_, rfl⟩
    unfold PlayOkN at hok
    rw [hX] at kx ox nx hok
    have hright := hok.2.2 hz
    have hfew := hright.few
    have HPS : Hid (playFN g (ts.take k) = (0, X)) := Lib.hid (by rw [hps]; exact Prod.ext hz hX)
    have HOK := Lib.hid hok
    have HKX := Lib.hid kx
    have HOX := Lib.hid ox
    have HNX := Lib.hid nx
    have HBR := Lib.hid hb
    have hszr := hb.size
    have K2R := Lib.hid (K2.out.below hb hK2)
    obtain ⟨va, vc, ve, -, hrow, -⟩ := URow.of_ownN ox
    cases ve
    obtain ⟨on1, on2⟩ := own_nilN ox
    have HROW := Lib.hid hrow
    have HON := Lib.hid on1
    have lX := kx.lt
    have cX := kx.cell
    have fX := kx.free
    have l2R := K2R.out.lt
    have c2R := K2R.out.cell
    have f2R := K2R.out.free
    clear hz kx ox nx hb hps hX hok hright hrow on1
    by_cases hlt : k < n
    · obtain ⟨l, hl⟩ : ∃ l, ts.getD k [] = l := ⟨_, rfl⟩
      obtain ⟨b, o, la, cl, hta, hbB, hc, hor, hll⟩ := (HT.out.below (HBR.out.mono hszW)).get k (by omega) l hl
      subst hta
      have hlm : l ∈ ts := by rw [← hl, List.getD_eq_getElem?_getD, List.getElem?_eq_getElem (by omega)]; exact List.getElem_mem _
      have hsu := playFN_succ g ts k (by omega)
      rw [hl, HPS.out] at hsu
      have hsu2 : playFN g (ts.take (k + 1)) = (stepFault X l, if stepFault X l = 0 then stepN X l else X) := by rw [hsu]; rfl
      have HSU := Lib.hid hsu2
      have HLM := Lib.hid hlm
      have HLT := Lib.hid hlt
      have HOR := Lib.hid (hor.below (Below.refl _ wr))
      have hbr : b < wr.heap.size := by omega
      have HOR2 : Hid (ORow wr.heap.size wr la l) := Lib.hid (fun i hi => let ⟨b, o, h1, h2, h3⟩ := hor i hi; ⟨b, o, h1, by omega, h3⟩)
      have hk0 : (0 : Int) ≤ (k : Int) := by omega
      have hk1 : (k : Int) < (n : Int) := by omega
      have dk : decide ((k : Int) < (n : Int)) = true := decide_eq_true hk1
      clear hl hlm hsu hsu2 hor HOR
      go_wp2_with fail
      refine (nstep_any X ux la cx cl HOK.out.1 HOK.out.2.1 (by omega) l (by unfold maxLen at hll; omega) (HKT.out l HLM.out) wr HROW.out HON.out on2 HOR2.out).mono ?_
      rintro e w3 ⟨b3, ⟨hne, rfl⟩ | ⟨hz3, uz, cz, rfl, oz⟩⟩
      · have KX3 := Lib.hid (HKX.out.call b3)
        have K23 := Lib.hid (K2R.out.call b3)
        have B3 : Hid (Below W.heap.size W w3) := Lib.hid (HBR.out.trans (b3.mono hszr))
        rw [errV_pos _ hne]
        have HNE := Lib.hid hne
        have HEND : Hid (playFN g (ts.take n) = (stepFault X l, X)) := Lib.hid (by
          have h1 := playFN_stuck (g := g) (ts := ts) (k := k + 1) (n := n) (by omega) (by rw [HSU.out]; exact HNE.out)
          rw [h1, HSU.out, if_neg HNE.out])
        have lX3 := KX3.out.lt
        have cX3 := KX3.out.cell
        have fX3 := KX3.out.free
        have l23 := K23.out.lt
        have c23 := K23.out.cell
        have f23 := K23.out.free
        clear hne b3 lX cX fX l2R c2R f2R hc
        go_upto_region 12 with fail
        have k23' : Blk (((((w3.setCell ⟨P, 0, none⟩ (.int .i64 0)).setCell ⟨P, 1, none⟩ (.int .i64 0)).setCell ⟨P, 2, none⟩ (.int .i64 0)).setCell ⟨P, 3, none⟩ (.int .i64 0)).setCell ⟨P, 4, none⟩ (.slice none 0 0)) (w.heap.size + 1) #[.int .i64 0, .int .i64 0, .int .i64 0, .int .i64 0, .slice none 0 0] := K23.out.kp (kpFiveN w3 P _ _ _ _ _) (fun e => by have h2 : w.heap.size + 1 = P := e; omega)
        refine gen_world (fun Z => Blk Z (w.heap.size + 1) #[.int .i64 0, .int .i64 0, .int .i64 0, .int .i64 0, .slice none 0 0] ∧ Below W.heap.size W Z) ⟨k23', belowFiveN B3.out hpw _ _ _ _ _⟩ ?_
        clear k23' lX3 cX3 fX3 l23 c23 f23
        rintro Z ⟨kZ, bZ⟩
        have KZ := Lib.hid kZ
        have BZ := Lib.hid bZ
        have lZ := kZ.lt
        have cZ := kZ.cell
        have fZ := kZ.free
        clear kZ bZ
        go_wp2_with fail
        refine bodyPost_ret (v := .tuple #[.agg #[.int .i64 0, .int .i64 0, .int .i64 0, .int .i64 0, .slice none 0 0], .iface 148 (.int .i64 (stepFault X l : Nat))]) (ret_cell2n Try.results50 rfl rfl (KZ.out.store5n rfl (.int .i64 0) (.int .i64 0) (.int .i64 0) (.int .i64 0) (.slice none 0 0)) Try.underlying65 rfl infoNewerN) rfl ?_
        refine ⟨belowFiveN (HW.out.trans (BZ.out.mono hszW)) (by omega) _ _ _ _ _, Or.inl ⟨by rw [HEND.out]; exact HNE.out, by rw [HEND.out, errV_pos _ HNE.out]⟩⟩
      · obtain ⟨Y, hY⟩ : ∃ y, stepN X l = y := ⟨_, rfl⟩
        rw [hY] at oz
        rw [hY]
        have hnb : ∀ b, (Value.slice uz Y.us.length cz).ownBlock = some b → b ≠ P := fun b hb => by
          have h1 := (World.ownsRow.lt oz b hb).1
          omega
        have HSZ : Hid (playFN g (ts.take (k + 1)) = (0, Y)) := Lib.hid (by rw [HSU.out, hz3, if_pos rfl, hY])
        have KX3 := Lib.hid (HKX.out.call b3)
        have B3 : Hid (Below W.heap.size W w3) := Lib.hid (HBR.out.trans (b3.mono hszr))
        have OZ := Lib.hid oz
        have HNB := Lib.hid hnb
        have lX3 := KX3.out.lt
        have cX3 := KX3.out.cell
        have fX3 := KX3.out.free
        clear b3 oz hz3 hY hnb lX cX fX l2R c2R f2R hc
        go_wp2_with fail
        have kN := KX3.out.store5n rfl (.int .i64 Y.tick) (.int .i64 Y.g0) (.int .i64 Y.g1) (.int .i64 Y.next) (.slice uz Y.us.length cz)
        have oN := own_kp OZ.out (kpFiveN w3 P (.int .i64 Y.tick) (.int .i64 Y.g0) (.int .i64 Y.g1) (.int .i64 Y.next) (.slice uz Y.us.length cz)) (fun b hb e => HNB.out b hb e)
        have bN := belowFiveN B3.out hpw (.int .i64 Y.tick) (.int .i64 Y.g0) (.int .i64 Y.g1) (.int .i64 Y.next) (.slice uz Y.us.length cz)
        go_roundw
        case rel =>
          refine ⟨k + 1, by go_num, by have := HLT.out; omega, ?_⟩
          rw [HSZ.out]
          exact ⟨rfl, ⟨uz, cz, kN, own_base oN hszr, HNB.out⟩, bN⟩
        case measure => have := HLT.out; simp [intOf]; omega
    · obtain rfl : k = n := by omega
      have dk : decide ((k : Int) < (k : Int)) = false := decide_eq_false (by omega)
      go_wp2_with fail
      refine bodyPost_ret (v := .tuple #[.agg #[.int .i64 X.tick, .int .i64 X.g0, .int .i64 X.g1, .int .i64 X.next, .slice ux X.us.length cx], .nilIface]) (ret_cell2n Try.results50 rfl rfl (K2R.out.store5n rfl _ _ _ _ _) Try.underlying65 rfl infoNewerN) rfl ?_
      refine ⟨belowFiveN (HW.out.trans (HBR.out.mono hszW)) (by omega) _ _ _ _ _, Or.inr ⟨by rw [HPS.out], ux, cx, ?_, ?_⟩⟩
      · rw [HPS.out]
      · rw [HPS.out]
        exact own_base (own_kp HOX.out (kpFiveN wr (w.heap.size + 1) _ _ _ _ _) (fun b hb e => by have h1 := (World.ownsRow.lt HOX.out b hb).1; have h2 : b = w.heap.size + 1 := e; omega)) hszW
end Go.Proofs.Ytlfljlhppigejaa
