/-
  The walk of the newer game's steps: who wants to go where. (Printed by gen_steps.py.)
-/
import Derived.Test.YtlfljlhppigejaaNewOrder
namespace Go.Proofs.Ytlfljlhppigejaa
open Go.RowKit
attribute [local go_sem] qOne qAt qUp qOneK

theorem whoV_inv {us : List U} {gg : Nat} {i : Int} {v : Value} (h : whoV (some ⟨gg, 0, none⟩) us i = some v) : ∃ (k : Nat) (u : U), us[k]? = some u ∧ u.id = i ∧ v = .pointer (some ⟨gg, k * 11, none⟩) := by
  rcases ix_find us i with ⟨h1, -⟩ | ⟨k, u, h1, h2, h3, h4, hk⟩
  · rw [whoV_none h1] at h
    cases h
  · rw [whoV_some h1] at h
    exact ⟨k, u, hk, (find_some h4).2, (Option.some.inj h).symm⟩
theorem whoV_is {us : List U} (hs : byId us) {gg k : Nat} {u : U} (hk : us[k]? = some u) : whoV (some ⟨gg, 0, none⟩) us u.id = some (.pointer (some ⟨gg, k * 11, none⟩)) := by
  obtain ⟨hlt, he⟩ := List.getElem?_eq_some_iff.1 hk
  have hm := List.getElem_mem hlt
  rw [he] at hm
  rcases ix_find us u.id with ⟨-, h1⟩ | ⟨k', u', h1, h2, h3, h4, hk'⟩
  · rw [find_mem hs hm] at h1; cases h1
  · rw [find_mem hs hm] at h4
    cases h4
    have : k' = k := by
      rw [getD_lt h2] at h3
      rcases Nat.lt_trichotomy k' k with e | e | e
      · have := byId_iff.1 hs k' k e hlt
        rw [getD_lt h2, getD_lt hlt, h3, he] at this
        omega
      · exact e
      · have := byId_iff.1 hs k k' e h2
        rw [getD_lt h2, getD_lt hlt, h3, he] at this
        omega
    rw [whoV_some h1, this]
theorem done_one {us : List U} {lf : Int → Bool} : 0 ≤ doneS lf (fun _ => 1) us ∧ doneS lf (fun _ => 1) us ≤ us.length := by
  have := doneS_range (lf := lf) (f := fun _ => 1) (m := 1) (by omega) (us := us) (fun u _ => by omega)
  omega

/-- What steps leaves: a map of who wants to go where. -/
def StepsEnd (us : List U) (old : List Int) (w : World) (e : Ending) (w' : World) : Prop :=
  ∃ m n s, e = .returned (.map (some m)) ∧ w.heap.size ≤ m ∧ n ≤ 100 ∧ IM w' m n s (fun id => (toAll true old us id).map pairV) ∧ Below w.heap.size w w'

set_option maxHeartbeats 12800000 in
set_option maxRecDepth 100000 in
theorem steps_any (B S M : Nat) (g : G) (ua : Option Addr) (cu : Nat) (grid : Nat → Int) (fresh : Int) (old : List Int) (w : World) (h : BG w B S M g ua cu grid fresh) (hg : Right g) (hn : g.new = true) (hold : ∀ u ∈ g.us, old.contains u.id = decide (u.id < fresh)) :
    Calls Try.prog 150 #[.pointer (some ⟨S, 0, none⟩)] w (StepsEnd g.us old w) := by
  have hmm := @run_makeMap Try.prog
  have HH := Lib.hid h
  have HG := Lib.hid hg
  have HN := Lib.hid hn
  have HOLD := Lib.hid hold
  clear h hg hn hold
  go_enter Try.func150, Try.ntmps150
  go_upto_region 2 with fail
  refine gen_world (fun V => Below w.heap.size w V ∧ IM V w.heap.size 0 0 (fun _ => none) ∧ V.heap.size = w.heap.size + 1) ⟨(Below.refl _ _).alloc (Nat.le_refl _) _, MapOf.new w, by simp⟩ ?_
  rintro w1 ⟨b1, m1, hs1⟩
  obtain ⟨mO, hmO⟩ : ∃ n, w.heap.size = n := ⟨_, rfl⟩
  rw [hmO] at m1 hs1
  try rw [hmO]
  have HMO : Hid (w.heap.size = mO) := Lib.hid hmO
  have HB1 := Lib.hid b1
  have HM1 := Lib.hid m1
  have hh1 := HH.out.call b1
  have lS := hh1.bd.lt
  have c5 : w1.cell? ⟨S, 5, none⟩ = some (.map (some M)) := hh1.bd.2.1 5 (by omega)
  obtain ⟨n0, s0, hn0, mM⟩ := hh1.mp
  have HH1 := Lib.hid hh1
  have HS1 := Lib.hid hs1
  clear hmO b1 m1 hh1 hs1
  go_wp2_with (at_range; refine list_range (by rfl) _ 155 rfl 3 161 (by kernel_rfl) (by kernel_rfl) M n0 s0 _ rfl mM ?_; intro w5 hrg5 hb5 hs5)
  go_frame
  obtain ⟨R, hR⟩ : ∃ n, w1.heap.size = n := ⟨_, rfl⟩
  rw [hR] at hrg5 hs5
  try rw [hR]
  have HRR : Hid (w1.heap.size = R) := Lib.hid hR
  have HR5 := Lib.hid hrg5
  have HB5 := Lib.hid hb5
  have HH5 := Lib.hid (HH1.out.call hb5)
  have HM5 := Lib.hid (HM1.out.call hb5)
  have HNE : Hid (S < mO ∧ M < mO ∧ R = mO + 1 ∧ ∀ b, (Value.slice ua g.us.length cu).ownBlock = some b → b < mO) := Lib.hid (by
    have h1 := HH.out.bd.lt
    obtain ⟨_, _, _, h2⟩ := HH.out.mp
    have h3 := h2.lt
    have h4 := HMO.out
    have h5 := HS1.out
    refine ⟨by omega, by omega, by omega, fun b hb => ?_⟩
    have := (World.ownsRow.lt HH.out.own b hb).2
    omega)
  have HB15 : Hid (Below w.heap.size w w5) := Lib.hid (HB1.out.trans (hb5.mono HB1.out.size))
  clear hR hrg5 hb5 hs5 mM c5 lS HM1 HH1 HB1 HB5 HS1
  go_loopw [4] (fun _ wy => ∃ (lf : Int → Bool) (cnt : Nat), RgOf Try.prog 3 wy M R n0 (whoV ua g.us) lf cnt ∧ (∃ (n s : Nat), (n : Int) ≤ doneS lf (fun _ => 1) g.us ∧ IM wy mO n s (fun id => (toD true old g.us lf id).map pairV)) ∧ Kp (fun b => b = mO ∨ b = R) w5 wy) (fun _ wy => wy.rangeLeft M R)
  case atStart =>
    refine ⟨_, _, HR5.out, ⟨0, 0, done_one.1, ?_⟩, Kp.refl _ _⟩
    have e : (fun id => (toD true old g.us (fun i => (whoV ua g.us i).isSome) id).map pairV) = fun _ => none := by
      funext id
      unfold toD
      split
      · rfl
      · next h0 =>
        cases ht : toAll true old g.us id with
        | none => rfl
        | some p =>
          exfalso
          obtain ⟨k, u, hk, hid, -⟩ := toAll_some ht
          obtain ⟨gg, hua, -⟩ := own_ua HH.out.own (by have := (List.getElem?_eq_some_iff.1 hk).1; omega)
          apply h0
          show (whoV ua g.us id).isSome = true
          rw [← hid, hua, whoV_is HG.out.sorted hk]
          rfl
    rw [e]
    exact HM5.out
  case round =>
    obtain ⟨lf, cnt, hrg, ⟨nO, sO, hnO, hmO⟩, hK⟩ := hrel
    have HRG := Lib.hid hrg
    have HMM := Lib.hid hmO
    have HK := Lib.hid hK
    have HNO := Lib.hid hnO
    clear hmO hK hnO
    go_wp2_with (at_next; refine list_next (by rfl) _ rfl 3 (by kernel_rfl) M R n0 cnt _ lf rfl hrg ?_ ?_)
    case refine_1 =>
      intro hz0 hall
      have HALL := Lib.hid hall
      clear hz0 hrg hall
      go_wp2_with fail
      go_ret
      have e : (fun id => (toAll true old g.us id).map pairV) = fun id => (toD true old g.us lf id).map pairV := by
        funext id
        unfold toD
        by_cases hi : okI id
        · rw [if_neg (by rw [HALL.out id hi]; simp)]
        · have ht : toAll true old g.us id = none := by
            cases ht : toAll true old g.us id with
            | none => rfl
            | some p =>
              exfalso
              obtain ⟨k, u, hk, hid, -⟩ := toAll_some ht
              have ok := HG.out.ok (List.mem_of_getElem? hk)
              apply hi
              have h1 := ok.idT
              have h2 := ok.id1
              rw [HN.out] at h1
              rw [← hid]
              exact wf_int (by have : topOf true = 2000 := rfl; omega)
          rw [ht]
          split <;> rfl
      have hd := done_one (us := g.us) (lf := lf)
      refine ⟨mO, nO, sO, rfl, by have := HMO.out; omega, by have := HNO.out; have := HG.out.few; omega, by rw [e]; exact HMM.out, ?_⟩
      refine HB15.out.trans (HK.out.below (fun b hb => ?_) HB15.out.size)
      have := HNE.out.2.2.1
      have := HMO.out
      rcases hb with rfl | rfl <;> omega
    case refine_2 =>
      intro i v w6 cnt6 hwi hli hfi hrg6 hlt6 hk6 hs6 hen
      have hne : g.us.length ≠ 0 := fun e => by
        have : g.us = [] := List.eq_nil_of_length_eq_zero e
        rw [this] at hfi
        cases hfi
      obtain ⟨gg, hua, hBgg, -⟩ := own_ua HH5.out.own hne
      subst hua
      obtain ⟨k, u, hk, hid, rfl⟩ := whoV_inv hfi
      subst hid
      have hu : u ∈ g.us := List.mem_of_getElem? hk
      have HK6 := Lib.hid (HK.out.trans hk6 (fun b _ e => Or.inr e))
      have HR6 := Lib.hid hrg6
      have HM6 := Lib.hid (HMM.out.kp hk6 (fun e => by have h1 := HNE.out.2.2.1; have h2 : mO = R := e; omega))
      have HLI := Lib.hid hli
      have HKK := Lib.hid hk
      have HU := Lib.hid hu
      have hh6 := HH5.out.kp HK6.out (fun e => by have h1 := HNE.out; rcases e with e | e <;> omega) (fun e => by have h1 := HNE.out; rcases e with e | e <;> omega) (fun b hb e => by have h1 := HNE.out.2.2.2 b hb; have h2 := HNE.out.2.2.1; rcases e with e | e <;> omega)
      have HH6 := Lib.hid hh6
      have HS6 := Lib.hid hs6
      have HWI := Lib.hid hwi
      have HLT : Hid (wr.rangeLeft M R = cnt ∧ cnt6 < cnt) := Lib.hid ⟨hrg.left_eq, hlt6⟩
      obtain ⟨hgl, -, -, u2, -⟩ := hh6.unit hk
      have HNEXT : Hid (∀ V, Below w6.heap.size w6 V → goer true old g.us u = none → (∃ (lf' : Int → Bool) (cnt' : Nat), RgOf Try.prog 3 V M R n0 (whoV (some ⟨gg, 0, none⟩) g.us) lf' cnt' ∧ (∃ (n s : Nat), (n : Int) ≤ doneS lf' (fun _ => 1) g.us ∧ IM V mO n s (fun id => (toD true old g.us lf' id).map pairV)) ∧ Kp (fun b => b = mO ∨ b = R) w5 V) ∧ V.rangeLeft M R < wr.rangeLeft M R) := Lib.hid (fun V hV hgo => by
        have hr := HR6.out.call hV
        refine ⟨⟨but lf u.id, cnt6, hr, ⟨nO, sO, ?_, ?_⟩, HK6.out.trans (kp_of hV _) (fun _ _ x => x)⟩, by rw [hr.left_eq, HLT.out.1]; exact HLT.out.2⟩
        · rw [doneS_step HG.out.sorted HU.out HLI.out]
          have := HNO.out
          omega
        · have e : (fun id => (toD true old g.us (but lf u.id) id).map pairV) = fun id => (toD true old g.us lf id).map pairV := by
            funext id
            rw [toD_step HG.out.sorted HU.out]
            split
            · next e => subst e; unfold toD; rw [if_pos HLI.out, hgo]
            · rfl
          rw [e]
          exact HM6.out.call hV)
      clear hrg6 hk6 hli hfi hwi hlt6 hs6 hrg hu hh6 hBgg hne
      go_wp2_with fail
      refine (rNewer u.kind _).mono ?_
      rintro e w7 ⟨rfl, bb⟩
      obtain ⟨r, hr⟩ : ∃ r, ruleOf true u.kind = r := ⟨_, rfl⟩
      have HR := Lib.hid hr
      rw [hr]
      have BB := Lib.hid bb
      clear bb hr u2 hgl hen
      go_upto_region 6 with fail
      refine gen_world (fun V => Below w6.heap.size w6 V ∧ Blk V w7.heap.size #[.int .i64 r.cost, .int .i64 r.hp, .int .i64 r.speed, .int .i64 r.harm, .int .i64 r.range, .int .i64 r.load]) ⟨BB.out.alloc BB.out.size _, Blk.new _ _ _⟩ ?_
      rintro V ⟨bV, kR⟩
      obtain ⟨pR, hpR⟩ : ∃ n, w7.heap.size = n := ⟨_, rfl⟩
      rw [hpR] at kR
      try rw [hpR]
      have BV := Lib.hid bV
      have KR := Lib.hid kR
      have HHV := Lib.hid (HH6.out.call bV)
      clear hpR bV kR BB
      obtain ⟨hgl, -, -, -, u3, u4, -, u6, u7, u8, u9, -⟩ := HHV.out.unit HKK.out
      haveI := Cw.ne V
      have x7 : ∀ x : Cw V, x.w.cell? ⟨gg, k * 11 + 7, none⟩ = some (.int .i64 u.gx) := fun x => (x.cell _ _ hgl).trans u7
      have x8 : ∀ x : Cw V, x.w.cell? ⟨gg, k * 11 + 8, none⟩ = some (.int .i64 u.gy) := fun x => (x.cell _ _ hgl).trans u8
      have xl : ∀ x : Cw V, gg < x.w.heap.size := fun x => Nat.lt_of_lt_of_le hgl x.le
      clear u3 u4 u6 u7 u8 u9 hgl
      refine region_cw (by kernel_rfl) (by kernel_rfl) ?_
      repeat (go_big_quiet_step (fail))
      refine wpQuiet_nil ?_
      intro V2 hV2
      have BV2 := Lib.hid (BV.out.trans (hV2.mono BV.out.size))
      have HHV2 := Lib.hid (HHV.out.call hV2)
      have KR2 := Lib.hid (KR.out.call hV2)
      clear hV2 x7 x8 xl KR HHV BV
      obtain ⟨hgl, -, -, -, u3, u4, -, u6, -, -, u9, -⟩ := HHV2.out.unit HKK.out
      have ok := HG.out.ok HU.out
      rw [HN.out] at ok
      obtain ⟨a0, a1, a2, a3⟩ := on_range ok.on
      have HOK := Lib.hid ok
      clear ok
      by_cases ht : 0 < u.target
      · have d0 : decide (0 < u.target) = true := decide_eq_true ht
        obtain ⟨k2, v, hk2, hid2, htg, -, hw2⟩ := tgt_mem (HG.out.aims u HU.out) ht
        have hmf : whoV (some ⟨gg, 0, none⟩) g.us u.target = some (.pointer (some ⟨gg, k2 * 11, none⟩)) := by
          rw [← hid2]; exact whoV_is HG.out.sorted hk2
        have ov := HG.out.ok (List.mem_of_getElem? hk2)
        obtain ⟨b0, b1, b2, b3⟩ := on_range ov.on
        have HT := Lib.hid ht
        have HTG := Lib.hid htg
        have HMF := Lib.hid hmf
        have HK2 := Lib.hid hk2
        have hwt : (Lit.int .i64 u.target).wf = true := by
          have h1 := HOK.out.tgtT
          exact wf_int (by have : topOf true = 2000 := rfl; omega)
        have HWT := Lib.hid hwt
        clear ht hid2 htg hw2 ov hmf hwt hk2
        go_wp2_with fail
        obtain ⟨nM, sM, -, mM⟩ := HHV2.out.mp
        obtain ⟨-, -, -, c2, c3, c4, -, c6, -, -, c9, -⟩ := HHV2.out.unit HKK.out
        obtain ⟨-, -, -, -, e3, e4, -⟩ := HHV2.out.unit HK2.out
        refine (reach_any S M nM sM _ u v gg (k * 11) gg (k2 * 11) _ HHV2.out.bd.lt (HHV2.out.bd.2.1 5 (by omega)) mM HMF.out HWT.out hgl hgl c2 c3 c4 c6 c9 e3 e4 ⟨a0, a1, a2, a3⟩ ⟨b0, b1, b2, b3⟩).mono ?_
        rintro e w8 ⟨rfl, b8⟩
        have hnear := near_reach (n := true) (us := g.us) HOK.out HT.out
        rw [HTG.out] at hnear
        replace hnear : nearF true g.us u = decide (far u.x u.y v.x v.y ≤ reachR u) := hnear
        rw [← hnear]
        obtain ⟨NR, hNR⟩ : ∃ x, nearF true g.us u = x := ⟨_, rfl⟩
        have HNR := Lib.hid hNR
        rw [hNR]
        have BV3 := Lib.hid (BV2.out.trans (b8.mono BV2.out.size))
        have HHV3 := Lib.hid (HHV2.out.call b8)
        have KR3 := Lib.hid (KR2.out.call b8)
        clear hnear hNR b8 nM sM mM c2 c3 c4 c6 c9 e3 e4 hgl u3 u4 u6 u9 KR2 HHV2 BV2
        cases NR
        case true =>
          obtain ⟨q1, q2⟩ := HNEXT.out _ BV3.out (goer_near HOK.out HT.out HNR.out)
          have Q1 := Lib.hid q1
          have Q2 := Lib.hid q2
          clear q1 q2
          go_wp2_with fail
          go_roundw
          case rel => exact Q1.out
          case measure => exact Q2.out
        go_upto_region 9 with fail
        obtain ⟨hgl, -, -, -, u3, u4, -, u6, -, -, u9, -⟩ := HHV3.out.unit HKK.out
        obtain ⟨-, -, -, -, e3, e4, -⟩ := HHV3.out.unit HK2.out
        obtain ⟨nM, sM, -, mM⟩ := HHV3.out.mp
        have lS := HHV3.out.bd.lt
        have cS : w8.cell? ⟨S, 5, none⟩ = some (.map (some M)) := HHV3.out.bd.2.1 5 (by omega)
        haveI := Cw.ne w8
        have z5 : ∀ x : Cw w8, x.w.cell? ⟨S, 5, none⟩ = some (.map (some M)) := fun x => (x.cell _ _ lS).trans cS
        have z9 : ∀ x : Cw w8, x.w.cell? ⟨gg, k * 11 + 9, none⟩ = some (.int .i64 u.target) := fun x => (x.cell _ _ hgl).trans u9
        have z3 : ∀ x : Cw w8, x.w.cell? ⟨gg, k2 * 11 + 3, none⟩ = some (.int .i64 v.x) := fun x => (x.cell _ _ hgl).trans e3
        have z4 : ∀ x : Cw w8, x.w.cell? ⟨gg, k2 * 11 + 4, none⟩ = some (.int .i64 v.y) := fun x => (x.cell _ _ hgl).trans e4
        have zl : ∀ x : Cw w8, S < x.w.heap.size ∧ gg < x.w.heap.size := fun x => by have := x.le; omega
        have zL : ∀ x : Cw w8, (Instr.lookup 155 (.map (some M)) (.int .i64 u.target) false).run Try.prog x.w = .ok (.pointer (some ⟨gg, k2 * 11, none⟩)) x.w := fun x => by
          have := (mM.call x.below).get (intKeys (by kernel_rfl)) (t := 155) (e := 161) (by kernel_rfl) (z := .pointer none) (by kernel_rfl) u.target HWT.out
          rw [HMF.out] at this
          exact this
        clear u3 u4 u6 u9 e3 e4 mM hgl lS cS
        refine region_cw (by kernel_rfl) (by kernel_rfl) ?_
        repeat (go_big_quiet_step (fail))
        refine wpQuiet_nil ?_
        intro V4 hV4
        have BV4 := Lib.hid (BV3.out.trans (hV4.mono BV3.out.size))
        have HHV4 := Lib.hid (HHV3.out.call hV4)
        have KR4 := Lib.hid (KR3.out.call hV4)
        have HDX : Hid (destF g.us u = (v.x, v.y)) := Lib.hid (by unfold destF; rw [if_pos HT.out, HTG.out])
        have HNT : Hid (0 < u.target → nearF true g.us u = false) := Lib.hid (fun _ => HNR.out)
        obtain ⟨dx, hdx⟩ : ∃ x, v.x = x := ⟨_, rfl⟩
        obtain ⟨dy, hdy⟩ : ∃ x, v.y = x := ⟨_, rfl⟩
        rw [hdx, hdy] at HDX
        rw [hdx] at b0 b1
        rw [hdy] at b2 b3
        try rw [hdx]
        try rw [hdy]
        clear hV4 z5 z9 z3 z4 zl zL KR3 HHV3 BV3 hdx hdy d0
        obtain ⟨hgl, -, -, -, u3, u4, -, u6, -, -, -, -⟩ := HHV4.out.unit HKK.out
        have lS := HHV4.out.bd.lt
        have cF : V4.cell? ⟨S, 150, none⟩ = some (.int .i64 fresh) := HHV4.out.bd.2.1 150 (by omega)
        have cR := KR4.out.cell
        have lR := KR4.out.lt
        by_cases e1 : fresh ≤ u.id
        case pos =>
          have f1 : decide (fresh ≤ u.id) = true := decide_eq_true e1
          have hgn : goer true old g.us u = none := goer_new (by rw [HOLD.out u HU.out]; exact decide_eq_false (by omega))
          clear e1
          obtain ⟨q1, q2⟩ := HNEXT.out _ BV4.out (hgn)
          have Q1 := Lib.hid q1
          have Q2 := Lib.hid q2
          clear q1 q2
          go_wp2_with fail
          go_roundw
          case rel => exact Q1.out
          case measure => exact Q2.out
        have f1 : decide (fresh ≤ u.id) = false := decide_eq_false e1
        have HO1 : Hid (old.contains u.id = true) := Lib.hid (by rw [HOLD.out u HU.out]; exact decide_eq_true (by omega))
        clear e1
        by_cases e2 : r.speed = 0
        case pos =>
          have f2 : (r.speed == 0) = true := by simp [e2]
          have hgn : goer true old g.us u = none := goer_slow (by rw [HR.out]; exact e2)
          clear e2
          obtain ⟨q1, q2⟩ := HNEXT.out _ BV4.out (hgn)
          have Q1 := Lib.hid q1
          have Q2 := Lib.hid q2
          clear q1 q2
          go_wp2_with fail
          go_roundw
          case rel => exact Q1.out
          case measure => exact Q2.out
        have f2 : (r.speed == 0) = false := by simp [e2]
        have HE2 := Lib.hid e2
        clear e2
        by_cases e3 : u.does = 0
        case pos =>
          have f3 : (u.does == 0) = true := by simp [e3]
          have hgn : goer true old g.us u = none := goer_idle e3
          clear e3
          obtain ⟨q1, q2⟩ := HNEXT.out _ BV4.out (hgn)
          have Q1 := Lib.hid q1
          have Q2 := Lib.hid q2
          clear q1 q2
          go_wp2_with fail
          go_roundw
          case rel => exact Q1.out
          case measure => exact Q2.out
        have f3 : (u.does == 0) = false := by simp [e3]
        have HE3 := Lib.hid e3
        clear e3
        by_cases e4 : dx = u.x ∧ dy = u.y
        case pos =>
          have f4 : (dx == u.x) = true := by simp [e4.1]
          have f5 : (dy == u.y) = true := by simp [e4.2]
          have hgn : goer true old g.us u = none := goer_there HOK.out (by rw [HDX.out]; exact e4.1) (by rw [HDX.out]; exact e4.2)
          clear e4
          obtain ⟨q1, q2⟩ := HNEXT.out _ BV4.out (hgn)
          have Q1 := Lib.hid q1
          have Q2 := Lib.hid q2
          clear q1 q2
          go_wp2_with fail
          go_roundw
          case rel => exact Q1.out
          case measure => exact Q2.out
        have hgo : goer true old g.us u = some (near1 u.x dx, near1 u.y dy) := by
          have := goer_go (us := g.us) (n := true) HOK.out HO1.out (by rw [HR.out]; exact HE2.out) HE3.out HNT.out (by rw [HDX.out]; exact e4)
          rw [HDX.out] at this
          exact this
        have HGO := Lib.hid hgo
        have f45 : (dx == u.x) = false ∨ ((dx == u.x) = true ∧ (dy == u.y) = false) := by
          by_cases e : dx = u.x
          · exact Or.inr ⟨by simp [e], by simp; exact fun h => e4 ⟨e, h⟩⟩
          · exact Or.inl (by simp [e])
        clear e4 hgo
        have HTW := Lib.hid (fun x : Cw V4 => (rToward u.x u.y dx dy x.w (by omega) (by omega) (by omega) (by omega)).mono (fun e w' h => (⟨h.1, by rw [← h.2]; exact Below.refl _ _⟩ : e = .returned (.tuple #[.int .i64 (near1 u.x dx), .int .i64 (near1 u.y dy)]) ∧ Below x.w.heap.size x.w w')))
        have HPUT : Hid (∀ V, Below V4.heap.size V4 V → ∃ y, (Instr.mapUpdate 219 (.map (some mO)) (.int .i64 u.id) (.agg #[.int .i64 (near1 u.x dx), .int .i64 (near1 u.y dy)])).run Try.prog V = .ok () y ∧ (∃ (lf' : Int → Bool) (cnt' : Nat), RgOf Try.prog 3 y M R n0 (whoV (some ⟨gg, 0, none⟩) g.us) lf' cnt' ∧ (∃ (n s : Nat), (n : Int) ≤ doneS lf' (fun _ => 1) g.us ∧ IM y mO n s (fun id => (toD true old g.us lf' id).map pairV)) ∧ Kp (fun b => b = mO ∨ b = R) w5 y) ∧ y.rangeLeft M R < wr.rangeLeft M R) := Lib.hid (fun V hV => by
          have hV6 := BV4.out.trans (hV.mono BV4.out.size)
          have hd := done_one (us := g.us) (lf := lf)
          have h20 := HG.out.few
          have hno := HNO.out
          obtain ⟨y, ry, my, ty⟩ := (HM6.out.call hV6).put (intKeys (by kernel_rfl)) (t := 219) (e := 62) (by kernel_rfl) (by unfold maxLen; omega) u.id HWI.out (pairV (near1 u.x dx, near1 u.y dy))
          obtain ⟨s9, my⟩ : ∃ s9, IM y mO (nO + 1) s9 (fun j => if j = u.id then some (pairV (near1 u.x dx, near1 u.y dy)) else (toD true old g.us lf j).map pairV) := ⟨_, my⟩
          have ky : Kp (fun b => b = mO) V y := Kp.turned ty
          have hr := (HR6.out.call hV6).kp ky (fun e => by have := HNE.out; omega) (fun e => by have := HNE.out; omega)
          refine ⟨y, ry, ⟨but lf u.id, cnt6, hr, ⟨nO + 1, s9, ?_, ?_⟩, (HK6.out.trans (kp_of hV6 _) (fun _ _ x => x)).trans ky (fun b _ e => Or.inl e)⟩, by rw [hr.left_eq, HLT.out.1]; exact HLT.out.2⟩
          · rw [doneS_step HG.out.sorted HU.out HLI.out]
            omega
          · have e : (fun id => (toD true old g.us (but lf u.id) id).map pairV) = fun j => if j = u.id then some (pairV (near1 u.x dx, near1 u.y dy)) else (toD true old g.us lf j).map pairV := by
              funext id
              rw [toD_step HG.out.sorted HU.out]
              split
              · rw [HGO.out]; rfl
              · rfl
            rw [e]
            exact my)
        rcases f45 with f4 | ⟨f4, f5⟩
        · go_upto_region 11 with fail
          haveI := Cw.ne V4
          have z3 : ∀ x : Cw V4, x.w.cell? ⟨gg, k * 11 + 3, none⟩ = some (.int .i64 u.x) := fun x => (x.cell _ _ hgl).trans u3
          have z4 : ∀ x : Cw V4, x.w.cell? ⟨gg, k * 11 + 4, none⟩ = some (.int .i64 u.y) := fun x => (x.cell _ _ hgl).trans u4
          have zl : ∀ x : Cw V4, gg < x.w.heap.size := fun x => Nat.lt_of_lt_of_le hgl x.le
          clear u3 u4 u6 hgl lS cF cR lR
          refine region_cw (by kernel_rfl) (by kernel_rfl) ?_
          repeat (go_big_quiet_step ((go_at_call 25; refine Calls.cw (HTW.out _))))
          refine wpQuiet_nil ?_
          intro V5 hV5
          obtain ⟨y, ry, q1, q2⟩ := HPUT.out _ hV5
          have Q1 := Lib.hid q1
          have Q2 := Lib.hid q2
          clear q1 q2 z3 z4 zl hV5
          go_wp2_with fail
          go_roundw
          case rel => exact Q1.out
          case measure => exact Q2.out
        · go_upto_region 11 with fail
          haveI := Cw.ne V4
          have z3 : ∀ x : Cw V4, x.w.cell? ⟨gg, k * 11 + 3, none⟩ = some (.int .i64 u.x) := fun x => (x.cell _ _ hgl).trans u3
          have z4 : ∀ x : Cw V4, x.w.cell? ⟨gg, k * 11 + 4, none⟩ = some (.int .i64 u.y) := fun x => (x.cell _ _ hgl).trans u4
          have zl : ∀ x : Cw V4, gg < x.w.heap.size := fun x => Nat.lt_of_lt_of_le hgl x.le
          clear u3 u4 u6 hgl lS cF cR lR
          refine region_cw (by kernel_rfl) (by kernel_rfl) ?_
          repeat (go_big_quiet_step ((go_at_call 25; refine Calls.cw (HTW.out _))))
          refine wpQuiet_nil ?_
          intro V5 hV5
          obtain ⟨y, ry, q1, q2⟩ := HPUT.out _ hV5
          have Q1 := Lib.hid q1
          have Q2 := Lib.hid q2
          clear q1 q2 z3 z4 zl hV5
          go_wp2_with fail
          go_roundw
          case rel => exact Q1.out
          case measure => exact Q2.out
      · have d0 : decide (0 < u.target) = false := decide_eq_false ht
        have HDX : Hid (destF g.us u = (u.gx, u.gy)) := Lib.hid (by unfold destF; rw [if_neg ht])
        have HNT : Hid (0 < u.target → nearF true g.us u = false) := Lib.hid (fun h => absurd h ht)
        have hgo : (0 ≤ u.gx ∧ u.gx < 12) ∧ (0 ≤ u.gy ∧ u.gy < 12) := by
          by_cases e : u.does = 1
          · have := on_range (HOK.out.going e).1
            omega
          · have := HOK.out.still e
            omega
        obtain ⟨⟨b0, b1⟩, b2, b3⟩ := hgo
        go_upto_region 10 with fail
        clear u3 u4 u6 u9 hgl
        obtain ⟨V4, hV4⟩ : ∃ x, V2 = x := ⟨_, rfl⟩
        have BV4 := Lib.hid BV2.out
        have HHV4 := Lib.hid HHV2.out
        have KR4 := Lib.hid KR2.out
        rw [hV4] at BV4 HHV4 KR4
        try rw [hV4]
        obtain ⟨dx, hdx⟩ : ∃ x, u.gx = x := ⟨_, rfl⟩
        obtain ⟨dy, hdy⟩ : ∃ x, u.gy = x := ⟨_, rfl⟩
        rw [hdx, hdy] at HDX
        rw [hdx] at b0 b1
        rw [hdy] at b2 b3
        try rw [hdx]
        try rw [hdy]
        clear hdx hdy hV4 ht KR2 HHV2 BV2 d0
        obtain ⟨hgl, -, -, -, u3, u4, -, u6, -, -, -, -⟩ := HHV4.out.unit HKK.out
        have lS := HHV4.out.bd.lt
        have cF : V4.cell? ⟨S, 150, none⟩ = some (.int .i64 fresh) := HHV4.out.bd.2.1 150 (by omega)
        have cR := KR4.out.cell
        have lR := KR4.out.lt
        by_cases e1 : fresh ≤ u.id
        case pos =>
          have f1 : decide (fresh ≤ u.id) = true := decide_eq_true e1
          have hgn : goer true old g.us u = none := goer_new (by rw [HOLD.out u HU.out]; exact decide_eq_false (by omega))
          clear e1
          obtain ⟨q1, q2⟩ := HNEXT.out _ BV4.out (hgn)
          have Q1 := Lib.hid q1
          have Q2 := Lib.hid q2
          clear q1 q2
          go_wp2_with fail
          go_roundw
          case rel => exact Q1.out
          case measure => exact Q2.out
        have f1 : decide (fresh ≤ u.id) = false := decide_eq_false e1
        have HO1 : Hid (old.contains u.id = true) := Lib.hid (by rw [HOLD.out u HU.out]; exact decide_eq_true (by omega))
        clear e1
        by_cases e2 : r.speed = 0
        case pos =>
          have f2 : (r.speed == 0) = true := by simp [e2]
          have hgn : goer true old g.us u = none := goer_slow (by rw [HR.out]; exact e2)
          clear e2
          obtain ⟨q1, q2⟩ := HNEXT.out _ BV4.out (hgn)
          have Q1 := Lib.hid q1
          have Q2 := Lib.hid q2
          clear q1 q2
          go_wp2_with fail
          go_roundw
          case rel => exact Q1.out
          case measure => exact Q2.out
        have f2 : (r.speed == 0) = false := by simp [e2]
        have HE2 := Lib.hid e2
        clear e2
        by_cases e3 : u.does = 0
        case pos =>
          have f3 : (u.does == 0) = true := by simp [e3]
          have hgn : goer true old g.us u = none := goer_idle e3
          clear e3
          obtain ⟨q1, q2⟩ := HNEXT.out _ BV4.out (hgn)
          have Q1 := Lib.hid q1
          have Q2 := Lib.hid q2
          clear q1 q2
          go_wp2_with fail
          go_roundw
          case rel => exact Q1.out
          case measure => exact Q2.out
        have f3 : (u.does == 0) = false := by simp [e3]
        have HE3 := Lib.hid e3
        clear e3
        by_cases e4 : dx = u.x ∧ dy = u.y
        case pos =>
          have f4 : (dx == u.x) = true := by simp [e4.1]
          have f5 : (dy == u.y) = true := by simp [e4.2]
          have hgn : goer true old g.us u = none := goer_there HOK.out (by rw [HDX.out]; exact e4.1) (by rw [HDX.out]; exact e4.2)
          clear e4
          obtain ⟨q1, q2⟩ := HNEXT.out _ BV4.out (hgn)
          have Q1 := Lib.hid q1
          have Q2 := Lib.hid q2
          clear q1 q2
          go_wp2_with fail
          go_roundw
          case rel => exact Q1.out
          case measure => exact Q2.out
        have hgo : goer true old g.us u = some (near1 u.x dx, near1 u.y dy) := by
          have := goer_go (us := g.us) (n := true) HOK.out HO1.out (by rw [HR.out]; exact HE2.out) HE3.out HNT.out (by rw [HDX.out]; exact e4)
          rw [HDX.out] at this
          exact this
        have HGO := Lib.hid hgo
        have f45 : (dx == u.x) = false ∨ ((dx == u.x) = true ∧ (dy == u.y) = false) := by
          by_cases e : dx = u.x
          · exact Or.inr ⟨by simp [e], by simp; exact fun h => e4 ⟨e, h⟩⟩
          · exact Or.inl (by simp [e])
        clear e4 hgo
        have HTW := Lib.hid (fun x : Cw V4 => (rToward u.x u.y dx dy x.w (by omega) (by omega) (by omega) (by omega)).mono (fun e w' h => (⟨h.1, by rw [← h.2]; exact Below.refl _ _⟩ : e = .returned (.tuple #[.int .i64 (near1 u.x dx), .int .i64 (near1 u.y dy)]) ∧ Below x.w.heap.size x.w w')))
        have HPUT : Hid (∀ V, Below V4.heap.size V4 V → ∃ y, (Instr.mapUpdate 219 (.map (some mO)) (.int .i64 u.id) (.agg #[.int .i64 (near1 u.x dx), .int .i64 (near1 u.y dy)])).run Try.prog V = .ok () y ∧ (∃ (lf' : Int → Bool) (cnt' : Nat), RgOf Try.prog 3 y M R n0 (whoV (some ⟨gg, 0, none⟩) g.us) lf' cnt' ∧ (∃ (n s : Nat), (n : Int) ≤ doneS lf' (fun _ => 1) g.us ∧ IM y mO n s (fun id => (toD true old g.us lf' id).map pairV)) ∧ Kp (fun b => b = mO ∨ b = R) w5 y) ∧ y.rangeLeft M R < wr.rangeLeft M R) := Lib.hid (fun V hV => by
          have hV6 := BV4.out.trans (hV.mono BV4.out.size)
          have hd := done_one (us := g.us) (lf := lf)
          have h20 := HG.out.few
          have hno := HNO.out
          obtain ⟨y, ry, my, ty⟩ := (HM6.out.call hV6).put (intKeys (by kernel_rfl)) (t := 219) (e := 62) (by kernel_rfl) (by unfold maxLen; omega) u.id HWI.out (pairV (near1 u.x dx, near1 u.y dy))
          obtain ⟨s9, my⟩ : ∃ s9, IM y mO (nO + 1) s9 (fun j => if j = u.id then some (pairV (near1 u.x dx, near1 u.y dy)) else (toD true old g.us lf j).map pairV) := ⟨_, my⟩
          have ky : Kp (fun b => b = mO) V y := Kp.turned ty
          have hr := (HR6.out.call hV6).kp ky (fun e => by have := HNE.out; omega) (fun e => by have := HNE.out; omega)
          refine ⟨y, ry, ⟨but lf u.id, cnt6, hr, ⟨nO + 1, s9, ?_, ?_⟩, (HK6.out.trans (kp_of hV6 _) (fun _ _ x => x)).trans ky (fun b _ e => Or.inl e)⟩, by rw [hr.left_eq, HLT.out.1]; exact HLT.out.2⟩
          · rw [doneS_step HG.out.sorted HU.out HLI.out]
            omega
          · have e : (fun id => (toD true old g.us (but lf u.id) id).map pairV) = fun j => if j = u.id then some (pairV (near1 u.x dx, near1 u.y dy)) else (toD true old g.us lf j).map pairV := by
              funext id
              rw [toD_step HG.out.sorted HU.out]
              split
              · rw [HGO.out]; rfl
              · rfl
            rw [e]
            exact my)
        rcases f45 with f4 | ⟨f4, f5⟩
        · go_upto_region 11 with fail
          haveI := Cw.ne V4
          have z3 : ∀ x : Cw V4, x.w.cell? ⟨gg, k * 11 + 3, none⟩ = some (.int .i64 u.x) := fun x => (x.cell _ _ hgl).trans u3
          have z4 : ∀ x : Cw V4, x.w.cell? ⟨gg, k * 11 + 4, none⟩ = some (.int .i64 u.y) := fun x => (x.cell _ _ hgl).trans u4
          have zl : ∀ x : Cw V4, gg < x.w.heap.size := fun x => Nat.lt_of_lt_of_le hgl x.le
          clear u3 u4 u6 hgl lS cF cR lR
          refine region_cw (by kernel_rfl) (by kernel_rfl) ?_
          repeat (go_big_quiet_step ((go_at_call 25; refine Calls.cw (HTW.out _))))
          refine wpQuiet_nil ?_
          intro V5 hV5
          obtain ⟨y, ry, q1, q2⟩ := HPUT.out _ hV5
          have Q1 := Lib.hid q1
          have Q2 := Lib.hid q2
          clear q1 q2 z3 z4 zl hV5
          go_wp2_with fail
          go_roundw
          case rel => exact Q1.out
          case measure => exact Q2.out
        · go_upto_region 11 with fail
          haveI := Cw.ne V4
          have z3 : ∀ x : Cw V4, x.w.cell? ⟨gg, k * 11 + 3, none⟩ = some (.int .i64 u.x) := fun x => (x.cell _ _ hgl).trans u3
          have z4 : ∀ x : Cw V4, x.w.cell? ⟨gg, k * 11 + 4, none⟩ = some (.int .i64 u.y) := fun x => (x.cell _ _ hgl).trans u4
          have zl : ∀ x : Cw V4, gg < x.w.heap.size := fun x => Nat.lt_of_lt_of_le hgl x.le
          clear u3 u4 u6 hgl lS cF cR lR
          refine region_cw (by kernel_rfl) (by kernel_rfl) ?_
          repeat (go_big_quiet_step ((go_at_call 25; refine Calls.cw (HTW.out _))))
          refine wpQuiet_nil ?_
          intro V5 hV5
          obtain ⟨y, ry, q1, q2⟩ := HPUT.out _ hV5
          have Q1 := Lib.hid q1
          have Q2 := Lib.hid q2
          clear q1 q2 z3 z4 zl hV5
          go_wp2_with fail
          go_roundw
          case rel => exact Q1.out
          case measure => exact Q2.out
end Go.Proofs.Ytlfljlhppigejaa
