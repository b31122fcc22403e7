/-
  The walk of the newer game's toil: fights and mines, all at once. (Printed by gen_toiln.py.)
-/
import Derived.Test.YtlfljlhppigejaaNewWalk
namespace Go.Proofs.Ytlfljlhppigejaa
open Go.RowKit
attribute [local go_sem] qOne qAt qUp qOneK

theorem strikeN_false {n : Bool} {old : List Int} {us : List U} {u : U} (h : u.target = 0 ∨ old.contains u.id = false ∨ nearF n us u = false) : strikes n old us u = false := by
  unfold strikes
  rcases h with h | h | h <;> rw [h] <;> simp
theorem strikeN_true {n : Bool} {old : List Int} {us : List U} {u : U} (h1 : u.target ≠ 0) (h2 : old.contains u.id = true) (h3 : nearF n us u = true) : strikes n old us u = true := by
  unfold strikes
  rw [h2, h3]
  simp [h1]
theorem minerN_owner {g : G} (hg : Right g) (hn : g.new = true) {u : U} (hu : u ∈ g.us) (hd : u.does = 3) : u.owner = 0 ∨ u.owner = 1 := by
  have ho := hg.ok hu
  rw [hn] at ho
  have h1 := ho.aim
  have h2 := ho.own0
  have h3 := ho.own2
  have h4 := ho.mine
  obtain ⟨k, v, -, -, -, h, -⟩ := tgt_mem (hg.aims u hu) (h1.1 (by omega))
  have hk : u.kind ≠ 4 := by
    intro hk
    unfold mayDo at h
    rw [hk, hn] at h
    have hl : (ruleOf true 4).load = 0 := rfl
    have hh : (ruleOf true 4).harm = 0 := rfl
    rw [hl, hh] at h
    split at h
    · omega
    · split at h <;> omega
  omega
/-- A state while the work of some is done. -/
def goldN (g : G) (old : List Int) (lf : Int → Bool) : G := { g with g0 := goldD true old g.us lf 0 g.g0, g1 := goldD true old g.us lf 1 g.g1 }
theorem gain_zero {old : List Int} {us : List U} {u : U} (h : strikes true old us u = false ∨ u.does = 2) (o : Int) : gainU true old us o u = 0 := by
  unfold gainU
  rw [if_neg]
  rintro ⟨h1, h2, -⟩
  rcases h with h | h
  · rw [h] at h1; cases h1
  · exact h2 h
theorem goldN_same {g : G} (hg : Right g) {old : List Int} {lf : Int → Bool} {u : U} (hu : u ∈ g.us) (hl : lf u.id = true) (h : strikes true old g.us u = false ∨ u.does = 2) : goldN g old (but lf u.id) = goldN g old lf := by
  have key : ∀ o x, goldD true old g.us (but lf u.id) o x = goldD true old g.us lf o x := fun o x => by
    rw [goldD_step hg.sorted hu hl, gain_zero h]
    unfold goldD
    omega
  unfold goldN
  rw [key, key]
theorem goldN_gain {g : G} (hg : Right g) {old : List Int} {lf : Int → Bool} {u : U} (hu : u ∈ g.us) (hl : lf u.id = true) (hs : strikes true old g.us u = true) (hd : u.does ≠ 2) (ho : u.owner = 0 ∨ u.owner = 1) {GO : Int} (hgo : goldOf (goldN g old lf) u.owner = GO) :
    goldN g old (but lf u.id) = pay (goldN g old lf) u.owner (GO - min 1000 (GO + (ruleOf true u.kind).load)) := by
  have h0 : gainU true old g.us u.owner u = (ruleOf true u.kind).load := by unfold gainU; rw [if_pos ⟨hs, hd, rfl⟩]
  have h1 : ∀ o, o ≠ u.owner → gainU true old g.us o u = 0 := fun o ho => by unfold gainU; rw [if_neg (fun h => ho h.2.2.symm)]
  have hr : richOf true = 1000 := rfl
  have key : ∀ o x, goldD true old g.us (but lf u.id) o x = if o = u.owner then min 1000 (goldD true old g.us lf o x + (ruleOf true u.kind).load) else goldD true old g.us lf o x := fun o x => by
    rw [goldD_step hg.sorted hu hl]
    by_cases e : o = u.owner
    · rw [if_pos e, e, h0, hr]
    · rw [if_neg e, h1 o e]
      unfold goldD
      omega
  unfold goldN
  rw [key, key]
  unfold goldOf goldN at hgo
  unfold pay
  rcases ho with ho | ho
  · rw [ho] at hgo ⊢
    rw [if_pos rfl] at hgo
    rw [if_pos (rfl : (0 : Int) = 0), if_pos (rfl : (0 : Int) = 0), if_neg (show ¬ (1 : Int) = 0 by omega)]
    dsimp only at hgo ⊢
    rw [hgo]
    congr 1
    omega
  · rw [ho] at hgo ⊢
    rw [if_neg (show ¬ (1 : Int) = 0 by omega)] at hgo
    rw [if_neg (show ¬ (0 : Int) = 1 by omega), if_pos (rfl : (1 : Int) = 1), if_neg (show ¬ (1 : Int) = 0 by omega)]
    dsimp only at hgo ⊢
    rw [hgo]
    congr 1
    omega
theorem goldN_range {g : G} (hg : Right g) (hn : g.new = true) (old : List Int) (lf : Int → Bool) (o : Int) : 0 ≤ goldOf (goldN g old lf) o ∧ goldOf (goldN g old lf) o ≤ 1000 := by
  have hh := hg.head
  unfold headBad at hh
  rw [hn] at hh
  have hr : richOf true = 1000 := rfl
  have h0 := goldD_range (n := true) (old := old) (us := g.us) (lf := lf) 0 (g := g.g0) (by omega)
  have h1 := goldD_range (n := true) (old := old) (us := g.us) (lf := lf) 1 (g := g.g1) (by omega)
  rw [hr] at h0 h1
  unfold goldOf goldN
  dsimp only
  split
  · exact h0
  · exact h1
theorem harmV_get (o : Option Int) : (o.map (Value.int .i64)).getD (.int .i64 0) = .int .i64 (o.getD 0) := by cases o <;> rfl

/-- What loop 1 keeps. -/
def ToilI (B S M : Nat) (g : G) (old : List Int) (ua : Option Addr) (cu : Nat) (grid : Nat → Int) (fresh : Int) (w5 : World) (mH R n0 : Nat) (lf : Int → Bool) (cnt : Nat) (y : World) : Prop :=
  RgOf Try.prog 3 y M R n0 (whoV ua g.us) lf cnt ∧ (∃ (n s : Nat), (n : Int) ≤ doneS lf (fun _ => 1) g.us ∧ IM y mH n s (fun id => (harmD true old g.us lf id).map (Value.int .i64))) ∧ BG y B S M (goldN g old lf) ua cu grid fresh ∧ Kp (fun b => b = S ∨ b = mH ∨ b = R) w5 y

set_option maxHeartbeats 12800000 in
set_option maxRecDepth 100000 in
theorem toil_any (B S M : Nat) (g : G) (ua : Option Addr) (cu : Nat) (grid : Nat → Int) (fresh : Int) (old : List Int) (w : World) (h : BG w B S M g ua cu grid fresh) (hg : Right g) (hn : g.new = true) (hold : ∀ u ∈ g.us, old.contains u.id = decide (u.id < fresh)) :
    Calls Try.prog 94 #[.pointer (some ⟨S, 0, none⟩)] w fun e w' => e = .returned (.tuple #[]) ∧ BG w' B S M { g with g0 := gainF true old g.us 0 g.us g.g0, g1 := gainF true old g.us 1 g.us g.g1, us := hurtF true old g.us } ua cu grid fresh ∧ Kp (fun b => b = S ∨ (Value.slice ua g.us.length cu).ownBlock = some b) w w' := by
  have hmm := @run_makeMap Try.prog
  have HH := Lib.hid h
  have HG := Lib.hid hg
  have HN := Lib.hid hn
  have HOLD := Lib.hid hold
  have HOW : Hid (∀ b, (Value.slice ua g.us.length cu).ownBlock = some b → b < w.heap.size) := Lib.hid (fun b hb => (World.ownsRow.lt h.own b hb).2)
  have HSM : Hid (S < w.heap.size ∧ M < w.heap.size ∧ S ≠ M) := Lib.hid ⟨h.bd.lt, (by obtain ⟨_, _, _, h2⟩ := h.mp; exact h2.lt), h.SM⟩
  clear h hg hn hold
  go_enter Try.func94, Try.ntmps94
  go_upto_region 1 with fail
  refine gen_world (fun V => Below w.heap.size w V ∧ IM V w.heap.size 0 0 (fun _ => none) ∧ V.heap.size = w.heap.size + 1) ⟨(Below.refl _ _).alloc (Nat.le_refl _) _, MapOf.new w, by simp⟩ ?_
  rintro w1 ⟨b1, m1, hs1⟩
  obtain ⟨mH, hmH⟩ : ∃ n, w.heap.size = n := ⟨_, rfl⟩
  rw [hmH] at m1 hs1
  try rw [hmH]
  have HMO : Hid (w.heap.size = mH) := Lib.hid hmH
  have HB1 := Lib.hid b1
  have HM1 := Lib.hid m1
  have hh1 := HH.out.call b1
  have lS := hh1.bd.lt
  have c5 : w1.cell? ⟨S, 5, none⟩ = some (.map (some M)) := hh1.bd.2.1 5 (by omega)
  obtain ⟨n0, s0, hn0, mM⟩ := hh1.mp
  have HH1 := Lib.hid hh1
  have HS1 := Lib.hid hs1
  clear hmH b1 m1 hh1 hs1
  go_wp2_with (at_range; refine list_range (by rfl) _ 155 rfl 3 161 (by kernel_rfl) (by kernel_rfl) M n0 s0 _ rfl mM ?_; intro w5 hrg5 hb5 hs5)
  try go_frame
  obtain ⟨R, hR⟩ : ∃ n, w1.heap.size = n := ⟨_, rfl⟩
  rw [hR] at hrg5 hs5
  try rw [hR]
  have HNE : Hid (R = mH + 1 ∧ S < mH ∧ M < mH ∧ S ≠ M ∧ ∀ b, (Value.slice ua g.us.length cu).ownBlock = some b → b < mH) := Lib.hid (by
    have h1 := HSM.out
    have h2 := HMO.out
    have h3 := HS1.out
    refine ⟨by omega, by omega, by omega, h1.2.2, fun b hb => ?_⟩
    have := HOW.out b hb
    omega)
  have HR5 := Lib.hid hrg5
  have HH5 := Lib.hid (HH1.out.call hb5)
  have HM5 := Lib.hid (HM1.out.call hb5)
  have HB5 : Hid (Below w.heap.size w w5) := Lib.hid (HB1.out.trans (hb5.mono HB1.out.size))
  clear hR hrg5 hb5 hs5 mM c5 lS HM1 HH1 HB1 HS1
  go_loopw [3] (fun _ wy => ∃ (lf : Int → Bool) (cnt : Nat), ToilI B S M g old ua cu grid fresh w5 mH R n0 lf cnt wy) (fun _ wy => wy.rangeLeft M R)
  case atStart =>
    have hlf : ∀ u ∈ g.us, (fun i => (whoV ua g.us i).isSome) u.id = true := fun u hu => by
      obtain ⟨k, hk⟩ := List.getElem?_of_mem hu
      obtain ⟨gg, hua, -⟩ := own_ua HH.out.own (by have := (List.getElem?_eq_some_iff.1 hk).1; omega)
      show (whoV ua g.us u.id).isSome = true
      rw [hua, whoV_is HG.out.sorted hk]
      rfl
    have hh := HG.out.head
    unfold headBad at hh
    rw [HN.out] at hh
    have hr : richOf true = 1000 := rfl
    rw [hr] at hh
    refine ⟨_, _, HR5.out, ⟨0, 0, done_one.1, ?_⟩, ?_, Kp.refl _ _⟩
    · have e : (fun id => (harmD true old g.us (fun i => (whoV ua g.us i).isSome) id).map (Value.int .i64)) = fun _ => none := by
        funext id
        rw [harmD_start hlf]
        rfl
      rw [e]
      exact HM5.out
    · have e : goldN g old (fun i => (whoV ua g.us i).isSome) = g := by
        unfold goldN
        rw [goldD_start hlf 0 (by rw [hr]; omega), goldD_start hlf 1 (by rw [hr]; omega)]
      rw [e]
      exact HH5.out
  case round =>
    obtain ⟨lf, cnt, hrg, hmo, hbg, hK⟩ := hrel
    have HRG := Lib.hid hrg
    have HMM := Lib.hid hmo
    have HBG := Lib.hid hbg
    have HK := Lib.hid hK
    clear hmo hbg hK
    go_wp2_with (at_next; refine list_next (by rfl) _ rfl 3 (by kernel_rfl) M R n0 cnt _ lf rfl hrg ?_ ?_)
    case refine_2 =>
      intro i v w6 cnt6 hwi hli hfi hrg6 hlt6 hk6 hs6 hen
      have hne : g.us.length ≠ 0 := fun e => by
        have : g.us = [] := List.eq_nil_of_length_eq_zero e
        rw [this] at hfi
        cases hfi
      obtain ⟨gg, hua, hBgg, -⟩ := own_ua HH5.out.own hne
      subst hua
      obtain ⟨k, u, hk, hid, rfl⟩ := whoV_inv hfi
      subst hid
      have hu : u ∈ g.us := List.mem_of_getElem? hk
      have HK6 := Lib.hid (HK.out.trans hk6 (fun b _ e => Or.inr (Or.inr e)))
      have HR6 := Lib.hid hrg6
      obtain ⟨nO, sO, hnO, hmO⟩ := HMM.out
      have HM6 := Lib.hid (hmO.kp hk6 (fun e => by have h1 := HNE.out.1; have h2 : mH = R := e; omega))
      have HNO := Lib.hid hnO
      have HLI := Lib.hid hli
      have HKK := Lib.hid hk
      have HU := Lib.hid hu
      have hb6 := HBG.out.kp hk6 (fun e => by have h1 := HNE.out; have h2 : S = R := e; omega) (fun e => by have h1 := HNE.out; have h2 : M = R := e; omega) (fun b hb e => by have h1 := HNE.out.2.2.2.2 b hb; have h2 := HNE.out.1; have h3 : b = R := e; omega)
      have HB6 := Lib.hid hb6
      have HWI := Lib.hid hwi
      have HLT : Hid (wr.rangeLeft M R = cnt ∧ cnt6 < cnt) := Lib.hid ⟨hrg.left_eq, hlt6⟩
      have HNEXT : Hid (∀ V, Below w6.heap.size w6 V → strikes true old g.us u = false → (∃ (lf' : Int → Bool) (cnt' : Nat), ToilI B S M g old (some ⟨gg, 0, none⟩) cu grid fresh w5 mH R n0 lf' cnt' V) ∧ V.rangeLeft M R < wr.rangeLeft M R) := Lib.hid (fun V hV hst => by
        have hr := HR6.out.call hV
        refine ⟨⟨but lf u.id, cnt6, hr, ⟨nO, sO, ?_, ?_⟩, ?_, HK6.out.trans (kp_of hV _) (fun _ _ x => x)⟩, by rw [hr.left_eq, HLT.out.1]; exact HLT.out.2⟩
        · rw [doneS_step HG.out.sorted HU.out HLI.out]
          have := HNO.out
          omega
        · have e : (fun id => (harmD true old g.us (but lf u.id) id).map (Value.int .i64)) = fun id => (harmD true old g.us lf id).map (Value.int .i64) := by
            funext id
            rw [harmD_idle HG.out.sorted HU.out HLI.out hst]
          rw [e]
          exact HM6.out.call hV
        · rw [goldN_same HG.out HU.out HLI.out (Or.inl hst)]
          exact HB6.out.call hV)
      have ok := HG.out.ok hu
      rw [HN.out] at ok
      obtain ⟨a0, a1, a2, a3⟩ := on_range ok.on
      have HOK := Lib.hid ok
      have lS := hb6.bd.lt
      have cF : w6.cell? ⟨S, 150, none⟩ = some (.int .i64 fresh) := hb6.bd.2.1 150 (by omega)
      obtain ⟨hgl, -, -, u2, u3, u4, -, u6, u7, u8, u9, -⟩ := hb6.unit (k := k) (u := u) hk
      clear hrg6 hk6 hli hfi hwi hlt6 hs6 hrg hu hb6 hBgg hne hmO hnO ok hk u7 u8
      by_cases e1 : fresh ≤ u.id
      case pos =>
        have d1 : decide (fresh ≤ u.id) = true := decide_eq_true e1
        have hst : strikes true old g.us u = false := strikeN_false (Or.inr (Or.inl (by rw [HOLD.out u HU.out]; exact decide_eq_false (by omega))))
        have HST := Lib.hid hst
        clear e1 hst u3 u4 u6 u2
        go_wp2_with fail
        obtain ⟨q1, q2⟩ := HNEXT.out _ (Below.refl _ _) HST.out
        go_roundw
        case rel => exact q1
        case measure => exact q2
      have d1 : decide (fresh ≤ u.id) = false := decide_eq_false e1
      have HO1 : Hid (old.contains u.id = true) := Lib.hid (by rw [HOLD.out u HU.out]; exact decide_eq_true (by omega))
      clear e1
      by_cases e2 : u.target = 0
      case pos =>
        have d2 : (u.target == 0) = true := by simp [e2]
        have HST : Hid (strikes true old g.us u = false) := Lib.hid (strikeN_false (Or.inl e2))
        clear e2 u3 u4 u6 u2
        go_wp2_with fail
        obtain ⟨q1, q2⟩ := HNEXT.out _ (Below.refl _ _) HST.out
        go_roundw
        case rel => exact q1
        case measure => exact q2
      have d2 : (u.target == 0) = false := by simp [e2]
      have ht : 0 < u.target := by have := HOK.out.tgt0; omega
      have HT := Lib.hid ht
      have HT0 := Lib.hid e2
      obtain ⟨k2, v, hk2, hid2, htg, -, hw2⟩ := tgt_mem (HG.out.aims u HU.out) ht
      have hmf : whoV (some ⟨gg, 0, none⟩) g.us u.target = some (.pointer (some ⟨gg, k2 * 11, none⟩)) := by
        rw [← hid2]; exact whoV_is HG.out.sorted hk2
      have ov := HG.out.ok (List.mem_of_getElem? hk2)
      obtain ⟨b0, b1, b2, b3⟩ := on_range ov.on
      have HTG := Lib.hid htg
      have HMF := Lib.hid hmf
      have HK2 := Lib.hid hk2
      have hwt : (Lit.int .i64 u.target).wf = true := by
        have h1 := HOK.out.tgtT
        exact wf_int (by have : topOf true = 2000 := rfl; omega)
      have HWT := Lib.hid hwt
      clear e2 ht hid2 htg hw2 ov hmf hwt hk2
      go_wp2_with fail
      obtain ⟨nM, sM, -, mM⟩ := HB6.out.mp
      obtain ⟨-, -, -, -, e3, e4, -⟩ := HB6.out.unit (k := k2) (u := v) HK2.out
      refine (reach_any S M nM sM _ u v gg (k * 11) gg (k2 * 11) _ HB6.out.bd.lt (HB6.out.bd.2.1 5 (by omega)) mM HMF.out HWT.out hgl hgl u2 u3 u4 u6 u9 e3 e4 ⟨a0, a1, a2, a3⟩ ⟨b0, b1, b2, b3⟩).mono ?_
      rintro e w7 ⟨rfl, b7⟩
      have hnear := near_reach (n := true) (us := g.us) HOK.out HT.out
      rw [HTG.out] at hnear
      replace hnear : nearF true g.us u = decide (far u.x u.y v.x v.y ≤ reachR u) := hnear
      rw [← hnear]
      obtain ⟨NR, hNR⟩ : ∃ x, nearF true g.us u = x := ⟨_, rfl⟩
      have HNR := Lib.hid hNR
      rw [hNR]
      have BV := Lib.hid b7
      clear hnear hNR b7 nM sM mM e3 e4 hgl u2 u3 u4 u6 u9 lS cF hen
      cases NR
      case false =>
        obtain ⟨q1, q2⟩ := HNEXT.out _ BV.out (strikeN_false (Or.inr (Or.inr HNR.out)))
        have Q1 := Lib.hid q1
        have Q2 := Lib.hid q2
        clear q1 q2
        go_wp2_with fail
        go_roundw
        case rel => exact Q1.out
        case measure => exact Q2.out
      have HST : Hid (strikes true old g.us u = true) := Lib.hid (strikeN_true HT0.out HO1.out HNR.out)
      obtain ⟨hgl, -, -, u2, -⟩ := (HB6.out.call BV.out).unit (k := k) (u := u) HKK.out
      clear HNEXT
      go_wp2_with fail
      refine (rNewer u.kind _).mono ?_
      rintro e w8 ⟨rfl, bb⟩
      obtain ⟨r, hr⟩ : ∃ r, ruleOf true u.kind = r := ⟨_, rfl⟩
      have HR := Lib.hid hr
      have hbd := ruleOf_bd true u.kind
      rw [hr] at hbd
      have HBD := Lib.hid hbd
      rw [hr]
      have BB := Lib.hid (BV.out.trans (bb.mono BV.out.size))
      clear bb hr u2 hgl hbd
      go_upto_region 6 with fail
      refine gen_world (fun V => Below w6.heap.size w6 V ∧ Blk V w8.heap.size #[.int .i64 r.cost, .int .i64 r.hp, .int .i64 r.speed, .int .i64 r.harm, .int .i64 r.range, .int .i64 r.load]) ⟨BB.out.alloc BB.out.size _, Blk.new _ _ _⟩ ?_
      rintro V ⟨bV, kR⟩
      obtain ⟨pR, hpR⟩ : ∃ n, w8.heap.size = n := ⟨_, rfl⟩
      have HPR : Hid (mH < pR ∧ R < pR ∧ S < pR) := Lib.hid (by
        have h1 := HR6.out.lt
        have h2 := HNE.out
        have h3 := BB.out.size
        omega)
      rw [hpR] at kR
      try rw [hpR]
      have BV2 := Lib.hid bV
      have KR := Lib.hid kR
      have HMV := Lib.hid (HM6.out.call bV)
      have HBV := Lib.hid (HB6.out.call bV)
      clear hpR bV kR BB BV
      obtain ⟨hgl, -, u1, -, -, -, -, u6, -, -, u9, -⟩ := HBV.out.unit (k := k) (u := u) HKK.out
      have cR := KR.out.cell
      have lR := KR.out.lt
      obtain ⟨ls, hls⟩ : ∃ x, (harmD true old g.us lf u.target).getD 0 = x := ⟨_, rfl⟩
      have hlr := harmD_range (n := true) (old := old) (us := g.us) (lf := lf) u.target
      rw [hls] at hlr
      have h20 := HG.out.few
      obtain ⟨hl0, hl1⟩ := hlr
      have hl2 : ls ≤ 2000 := by omega
      have hrb : 0 ≤ r.harm ∧ r.harm ≤ 3 ∧ 0 ≤ r.load ∧ r.load ≤ 2 := by have := HBD.out; omega
      obtain ⟨hb0, hb1, hb2, hb3⟩ := hrb
      have HLS := Lib.hid hls
      have HPUT : Hid (∀ (d : Int) (Y : World), blow true u = d → Below V.heap.size V Y → ∃ y sz, (Instr.mapUpdate 202 (.map (some mH)) (.int .i64 u.target) (.int .i64 (ls + d))).run Try.prog Y = .ok () y ∧ IM y mH (nO + 1) sz (fun id => (harmD true old g.us (but lf u.id) id).map (Value.int .i64)) ∧ Kp (fun b => b = mH) Y y) := Lib.hid (fun d Y hd hY => by
        have hno := HNO.out
        have hd1 := done_one (us := g.us) (lf := lf)
        have hf := HG.out.few
        obtain ⟨y, ry, my, ty⟩ := (HMV.out.call hY).put (intKeys (by kernel_rfl)) (t := 202) (e := 3) (by kernel_rfl) (by unfold maxLen; omega) u.target HWT.out (.int .i64 (ls + d))
        obtain ⟨s9, my⟩ : ∃ s9, IM y mH (nO + 1) s9 (fun j => if j = u.target then some (.int .i64 (ls + d)) else (harmD true old g.us lf j).map (Value.int .i64)) := ⟨_, my⟩
        refine ⟨y, s9, ry, ?_, Kp.turned ty⟩
        · have e : (fun id => (harmD true old g.us (but lf u.id) id).map (Value.int .i64)) = fun j => if j = u.target then some (.int .i64 (ls + d)) else (harmD true old g.us lf j).map (Value.int .i64) := by
            funext id
            rw [harmD_hit HG.out.sorted HU.out HLI.out HST.out]
            split
            · next e => subst e; rw [HLS.out, hd]; rfl
            · rfl
          rw [e]
          exact my)
      have HDONE : Hid (((nO + 1 : Nat) : Int) ≤ doneS (but lf u.id) (fun _ => 1) g.us) := Lib.hid (by
        rw [doneS_step HG.out.sorted HU.out HLI.out]
        have := HNO.out
        omega)
      clear hls hl1 h20
      by_cases c2 : u.does = 2
      · have f2 : (u.does == 2) = true := by simp [c2]
        have HC2 := Lib.hid c2
        have HBL : Hid (blow true u = r.harm) := Lib.hid (by unfold blow; rw [if_pos c2, HR.out])
        clear c2
        go_upto_region 7 with fail
        haveI := Cw.ne V
        have y9 : ∀ x : Cw V, x.w.cell? ⟨gg, k * 11 + 9, none⟩ = some (.int .i64 u.target) := fun x => (x.cell _ _ hgl).trans u9
        have yR : ∀ (x : Cw V) (j : Nat), x.w.cell? ⟨pR, j, none⟩ = (#[.int .i64 r.cost, .int .i64 r.hp, .int .i64 r.speed, .int .i64 r.harm, .int .i64 r.range, .int .i64 r.load] : Array Value)[j]? := fun x j => (x.cell _ _ lR).trans (cR j)
        have yl : ∀ x : Cw V, gg < x.w.heap.size ∧ pR < x.w.heap.size := fun x => by have := x.le; omega
        have yL : ∀ x : Cw V, (Instr.lookup 202 (.map (some mH)) (.int .i64 u.target) false).run Try.prog x.w = .ok (.int .i64 ls) x.w := fun x => by
          have := (HMV.out.call x.below).get (intKeys (by kernel_rfl)) (t := 202) (e := 3) (by kernel_rfl) (z := .int .i64 0) (by kernel_rfl) u.target HWT.out
          rw [harmV_get, HLS.out] at this
          exact this
        clear u1 u6 u9 hgl cR lR
        refine region_cw_tail 9 (by kernel_rfl) (by kernel_rfl) ?_
        simp only [List.take_succ_cons, List.take_zero, List.drop_succ_cons, List.drop_zero]
        repeat (go_big_quiet_step (fail))
        refine wpQuiet_nil ?_
        intro Y hY
        obtain ⟨y, sz, ry, my, ky⟩ := HPUT.out (r.harm) Y HBL.out hY
        clear y9 yR yl yL
        refine wpList_plain rfl (fun K hK => ?_); go_simp; refine hK _ _ ?_; clear hK K
        refine wpList_nil ?_
        clear ry
        have hr := (HR6.out.call (BV2.out.trans (hY.mono BV2.out.size))).kp ky (fun e => by have := HNE.out; have h3 : M = mH := e; omega) (fun e => by have := HNE.out; have h3 : R = mH := e; omega)
        have hb := (HBV.out.call hY).kp ky (fun e => by have := HNE.out; have h3 : S = mH := e; omega) (fun e => by have := HNE.out; have h3 : M = mH := e; omega) (fun b hb e => by have h1 := HNE.out.2.2.2.2 b hb; have h3 : b = mH := e; omega)
        have kk : Kp (fun b => b = S ∨ b = mH ∨ b = R) w5 y := (HK6.out.trans (kp_of (BV2.out.trans (hY.mono BV2.out.size)) _) (fun _ _ x => x)).trans ky (fun b _ e => Or.inr (Or.inl e))
        have q1 : ToilI B S M g old (some ⟨gg, 0, none⟩) cu grid fresh w5 mH R n0 (but lf u.id) cnt6 y := ⟨hr, ⟨nO + 1, sz, HDONE.out, my⟩, by rw [goldN_same HG.out HU.out HLI.out (Or.inr HC2.out)]; exact hb, kk⟩
        have q2 : y.rangeLeft M R < wr.rangeLeft M R := by rw [hr.left_eq, HLT.out.1]; exact HLT.out.2
        have Q1 := Lib.hid q1
        have Q2 := Lib.hid q2
        clear q1 q2 hr hb kk my ky hY
        go_wp2_with fail
        go_roundw
        case rel => exact ⟨_, _, Q1.out⟩
        case measure => exact Q2.out
      · have f2 : (u.does == 2) = false := by simp [c2]
        have HC2 := Lib.hid c2
        have HC3 : Hid (u.does = 3) := Lib.hid (by have h1 := HOK.out.aim.2 HT.out; have h2 := HOK.out.does3; omega)
        have HBL : Hid (blow true u = r.load) := Lib.hid (by unfold blow; rw [if_neg c2, HR.out])
        clear c2
        go_upto_region 8 with fail
        haveI := Cw.ne V
        have y9 : ∀ x : Cw V, x.w.cell? ⟨gg, k * 11 + 9, none⟩ = some (.int .i64 u.target) := fun x => (x.cell _ _ hgl).trans u9
        have yR : ∀ (x : Cw V) (j : Nat), x.w.cell? ⟨pR, j, none⟩ = (#[.int .i64 r.cost, .int .i64 r.hp, .int .i64 r.speed, .int .i64 r.harm, .int .i64 r.range, .int .i64 r.load] : Array Value)[j]? := fun x j => (x.cell _ _ lR).trans (cR j)
        have yl : ∀ x : Cw V, gg < x.w.heap.size ∧ pR < x.w.heap.size := fun x => by have := x.le; omega
        have yL : ∀ x : Cw V, (Instr.lookup 202 (.map (some mH)) (.int .i64 u.target) false).run Try.prog x.w = .ok (.int .i64 ls) x.w := fun x => by
          have := (HMV.out.call x.below).get (intKeys (by kernel_rfl)) (t := 202) (e := 3) (by kernel_rfl) (z := .int .i64 0) (by kernel_rfl) u.target HWT.out
          rw [harmV_get, HLS.out] at this
          exact this
        clear u1 u6 u9 hgl cR lR
        refine region_cw_tail 9 (by kernel_rfl) (by kernel_rfl) ?_
        simp only [List.take_succ_cons, List.take_zero, List.drop_succ_cons, List.drop_zero]
        repeat (go_big_quiet_step (fail))
        refine wpQuiet_nil ?_
        intro Y hY
        obtain ⟨y, sz, ry, my, ky⟩ := HPUT.out (r.load) Y HBL.out hY
        clear y9 yR yl yL
        refine wpList_plain rfl (fun K hK => ?_); go_simp; refine hK _ _ ?_; clear hK K
        refine wpList_nil ?_
        clear ry
        have hown := minerN_owner HG.out HN.out HU.out HC3.out
        have ho0 : (0 : Int) ≤ u.owner := by omega
        have ho2 : u.owner < 2 := by omega
        have hb := (HBV.out.call hY).kp ky (fun e => by have := HNE.out; have h3 : S = mH := e; omega) (fun e => by have := HNE.out; have h3 : M = mH := e; omega) (fun b hb e => by have h1 := HNE.out.2.2.2.2 b hb; have h3 : b = mH := e; omega)
        have kRy := (KR.out.call hY).kp ky (fun e => by have := HPR.out; have h3 : pR = mH := e; omega)
        obtain ⟨GO, hgo⟩ : ∃ G, goldOf (goldN g old lf) u.owner = G := ⟨_, rfl⟩
        obtain ⟨gr0, gr1⟩ : 0 ≤ GO ∧ GO ≤ 1000 := by rw [← hgo]; exact goldN_range HG.out HN.out old lf u.owner
        have hgc : y.cell? ⟨S, 1 + u.owner.toNat, none⟩ = some (.int .i64 GO) := by
          rw [← hgo]
          rcases hown with ho | ho
          · rw [ho]; exact hb.bd.2.1 1 (by omega)
          · rw [ho]; exact hb.bd.2.1 2 (by omega)
        have HGO := Lib.hid hgo
        have HOWN := Lib.hid hown
        have HBY := Lib.hid hb
        have HKR := Lib.hid kRy
        have HMY := Lib.hid my
        have HYY : Hid (Below w6.heap.size w6 Y) := Lib.hid (BV2.out.trans (hY.mono BV2.out.size))
        have HKY := Lib.hid ky
        obtain ⟨hgl, -, u1, -⟩ := hb.unit (k := k) (u := u) HKK.out
        have lSy := hb.bd.lt
        have lRy := kRy.lt
        have cRy := kRy.cell
        clear hgo hown hb kRy my hY ky
        go_upto_region 9 with fail
        haveI := Cw.ne y
        have z1 : ∀ x : Cw y, x.w.cell? ⟨gg, k * 11 + 1, none⟩ = some (.int .i64 u.owner) := fun x => (x.cell _ _ hgl).trans u1
        have zR : ∀ (x : Cw y) (j : Nat), x.w.cell? ⟨pR, j, none⟩ = (#[.int .i64 r.cost, .int .i64 r.hp, .int .i64 r.speed, .int .i64 r.harm, .int .i64 r.range, .int .i64 r.load] : Array Value)[j]? := fun x j => (x.cell _ _ lRy).trans (cRy j)
        have zS : ∀ x : Cw y, x.w.cell? ⟨S, 1 + u.owner.toNat, none⟩ = some (.int .i64 GO) := fun x => (x.cell _ _ lSy).trans hgc
        have zl : ∀ x : Cw y, S < x.w.heap.size ∧ gg < x.w.heap.size ∧ pR < x.w.heap.size := fun x => by have := x.le; omega
        have hwg : IntKind.i64.wrap (GO + r.load) = GO + r.load := IntWalk.i64_in _ (by omega)
        clear u1 hgl lSy lRy cRy
        refine region_cw_tail 23 (by kernel_rfl) (by kernel_rfl) ?_
        simp only [List.take_succ_cons, List.take_zero, List.drop_succ_cons, List.drop_zero]
        repeat (go_big_quiet_step (fail))
        refine wpQuiet_nil ?_
        intro Y2 hY2
        have bgy := HBY.out.call hY2
        have hpay := bgy.pay HOWN.out (GO - min 1000 (GO + r.load))
        rw [HGO.out] at hpay
        have hgn : GO - (GO - min 1000 (GO + r.load)) = min 1000 (GO + r.load) := by omega
        rw [hgn] at hpay
        have hgg := goldN_gain HG.out HU.out HLI.out HST.out (by have := HC3.out; omega) HOWN.out HGO.out
        rw [HR.out] at hgg
        rw [← hgg] at hpay
        have hmin : (if GO + r.load < 1000 then GO + r.load else 1000) = min 1000 (GO + r.load) := by split <;> omega
        have fS := bgy.bd.2.2
        have cS2 := (hY2.cell (p := ⟨S, 1 + u.owner.toNat, none⟩) HBY.out.bd.lt).trans hgc
        have HPAY := Lib.hid hpay
        have HMIN := Lib.hid hmin
        have HY2 := Lib.hid hY2
        clear z1 zR zS zl bgy hpay hgn hgg hmin hgc
        refine list_store1 S (1 + u.owner.toNat) (.int .i64 (if GO + r.load < 1000 then GO + r.load else 1000)) 3 (.tmp 92) (.tmp 88) rfl rfl rfl rfl rfl (by rw [cS2]; rfl) (fS _) rfl (by kernel_rfl) (fun Z => BG Z B S M (goldN g old (but lf u.id)) (some ⟨gg, 0, none⟩) cu grid fresh ∧ Kp (fun b => b = S) Y2 Z) ⟨by rw [HMIN.out]; exact HPAY.out, Kp.setCell Y2 ⟨S, 1 + u.owner.toNat, none⟩ _⟩ ?_
        rintro Z ⟨bgZ, kZ⟩
        have k2 : Kp (fun b => b = S ∨ b = mH) Y Z := ((HKY.out.imp (fun b _ e => Or.inr e)).trans (kp_of HY2.out _) (fun _ _ x => x)).trans kZ (fun b _ e => Or.inl e)
        have hr := (HR6.out.call HYY.out).kp k2 (fun e => by have := HNE.out; rcases e with e | e <;> omega) (fun e => by have := HNE.out; rcases e with e | e <;> omega)
        have mm := ((HMY.out.call HY2.out).kp kZ (fun e => by have := HNE.out; have h3 : mH = S := e; omega))
        have kk : Kp (fun b => b = S ∨ b = mH ∨ b = R) w5 Z := (HK6.out.trans (kp_of HYY.out _) (fun _ _ x => x)).trans k2 (fun b _ e => e.elim Or.inl (fun h => Or.inr (Or.inl h)))
        have q1 : ToilI B S M g old (some ⟨gg, 0, none⟩) cu grid fresh w5 mH R n0 (but lf u.id) cnt6 Z := ⟨hr, ⟨nO + 1, sz, HDONE.out, mm⟩, bgZ, kk⟩
        have q2 : Z.rangeLeft M R < wr.rangeLeft M R := by rw [hr.left_eq, HLT.out.1]; exact HLT.out.2
        have Q1 := Lib.hid q1
        have Q2 := Lib.hid q2
        clear q1 q2 hr mm kk k2 bgZ kZ fS cS2
        go_wp2_with fail
        go_roundw
        case rel => exact ⟨_, _, Q1.out⟩
        case measure => exact Q2.out
    case refine_1 =>
      intro hz0 hall
      have hdone : ∀ u ∈ g.us, lf u.id = false := fun u hu => by
        have ok := HG.out.ok hu
        have h1 := ok.idT
        have h2 := ok.id1
        rw [HN.out] at h1
        exact hall u.id (wf_int (by have : topOf true = 2000 := rfl; omega))
      have hh := HG.out.head
      unfold headBad at hh
      rw [HN.out] at hh
      have hr1 : richOf true = 1000 := rfl
      rw [hr1] at hh
      have hgold : goldN g old lf = { g with g0 := gainF true old g.us 0 g.us g.g0, g1 := gainF true old g.us 1 g.us g.g1 } := by
        unfold goldN
        rw [goldD_end hdone 0 (by rw [hr1]; omega), goldD_end hdone 1 (by rw [hr1]; omega)]
      obtain ⟨G2, hG2⟩ : ∃ x, goldN g old lf = x := ⟨_, rfl⟩
      have hg2u : G2.us = g.us := by rw [← hG2]; rfl
      have hbg := HBG.out
      rw [hG2] at hbg
      have HG2 := Lib.hid (hG2.symm.trans hgold)
      have HG2U := Lib.hid hg2u
      have HDONE := Lib.hid hdone
      have HBG2 := Lib.hid hbg
      have hkw : Kp (fun b => b = S) w wr := by
        have k1 : Kp (fun b => b = S ∨ b = mH ∨ b = R) w wr := (kp_of HB5.out _).trans HK.out (fun _ _ x => x)
        exact k1.imp (fun b hb e => e.elim id (fun h => by have := HNE.out; have := HMO.out; rcases h with h | h <;> omega))
      have HKW := Lib.hid hkw
      obtain ⟨nO, sO, hnO, hmO⟩ := HMM.out
      have hn2 : nO ≤ 20 := by have := done_one (us := g.us) (lf := lf); have := HG.out.few; omega
      have HMW := Lib.hid hmO
      have hmw : mH < wr.heap.size := hmO.lt
      have HMW2 := Lib.hid hmw
      clear hz0 hrg hall hdone hh hr1 hgold hG2 hg2u hbg hkw hmO hnO hmw
      go_upto_region 10 with fail
      refine gen_world (fun V => BG V B S M G2 ua cu grid fresh ∧ IM V mH nO sO (fun id => (harmD true old g.us lf id).map (Value.int .i64)) ∧ Kp (fun b => b = S) w V) ⟨HBG2.out, HMW.out, HKW.out⟩ ?_
      clear HBG2 HMW HKW HMM HK HBG HRG HR5 HH5 HM5 HB5
      rintro w2 ⟨bg2, mm2, k2⟩
      have HB2 := Lib.hid bg2
      have HM2 := Lib.hid mm2
      have HK2 := Lib.hid k2
      clear bg2 mm2 k2
      go_wp2_with (at_range; refine list_range (by rfl) _ 202 rfl 3 3 (by kernel_rfl) (by kernel_rfl) mH nO sO _ rfl HM2.out ?_; intro w3 hrg3 hb3 hs3)
      try go_frame
      obtain ⟨R2, hR2⟩ : ∃ n, w2.heap.size = n := ⟨_, rfl⟩
      rw [hR2] at hrg3 hs3
      try rw [hR2]
      have HR2 : Hid (mH < R2 ∧ w.heap.size ≤ R2) := Lib.hid (by rw [← hR2]; exact ⟨HM2.out.lt, HK2.out.size⟩)
      have HR3 := Lib.hid hrg3
      have HB3 := Lib.hid (HB2.out.call hb3)
      have HK3 : Hid (Kp (fun b => b = S) w w3) := Lib.hid (HK2.out.trans (kp_of hb3 _) (fun _ _ x => x))
      clear hR2 hrg3 hb3 hs3 HM2
      go_loopw [7] (fun _ wy => ∃ (l2 : Int → Bool) (cnt : Nat), RgOf Try.prog 3 wy mH R2 nO (fun id => (harmD true old g.us lf id).map (Value.int .i64)) l2 cnt ∧ BG wy B S M { G2 with us := partU l2 id (hurtN true old g.us) g.us } ua cu grid fresh ∧ Kp (fun b => (Value.slice ua g.us.length cu).ownBlock = some b ∨ b = R2) w3 wy) (fun _ wy => wy.rangeLeft mH R2)
      case atStart =>
        refine ⟨_, _, HR3.out, ?_, Kp.refl _ _⟩
        have h1 : (fun i => ((harmD true old g.us lf i).map (Value.int .i64)).isSome) = fun i => (harmD true old g.us lf i).isSome := by funext i; cases harmD true old g.us lf i <;> rfl
        rw [h1, hurt_start HDONE.out, ← HG2U.out]
        exact HB3.out
      case round =>
        obtain ⟨l2, cnt, hrg, hbg, hK⟩ := hrel
        have HRG := Lib.hid hrg
        have HBG := Lib.hid hbg
        have HK := Lib.hid hK
        clear hbg hK
        go_wp2_with (at_next; refine list_next (by rfl) _ rfl 3 (by kernel_rfl) mH R2 nO cnt _ l2 rfl hrg ?_ ?_)
        case refine_1 =>
          intro hz0 hall
          have hdone : ∀ u ∈ g.us, l2 u.id = false := fun u hu => by
            have ok := HG.out.ok hu
            have h1 := ok.idT
            have h2 := ok.id1
            rw [HN.out] at h1
            exact hall u.id (wf_int (by have : topOf true = 2000 := rfl; omega))
          have hbg := HBG.out
          rw [partU_none hdone, HG2.out] at hbg
          have hkw : Kp (fun b => b = S ∨ (Value.slice ua g.us.length cu).ownBlock = some b) w wr := by
            have k1 : Kp (fun b => b = S ∨ ((Value.slice ua g.us.length cu).ownBlock = some b ∨ b = R2)) w wr := (HK3.out.imp (fun _ _ x => Or.inl x)).trans HK.out (fun _ _ x => Or.inr x)
            exact k1.imp (fun b hb e => e.elim Or.inl (fun h => h.elim Or.inr (fun h => by have := HR2.out; omega)))
          have HBF := Lib.hid hbg
          have HKF := Lib.hid hkw
          clear hz0 hrg hall hdone hbg hkw
          go_wp2_with fail
          go_end0
          exact ⟨rfl, HBF.out, HKF.out⟩
        case refine_2 =>
          rintro i v w6 cnt6 hwi hli hp hto rfl hrg6 hlt6 hk6 hs6 hen
          obtain ⟨hpe, u, hu, hst, htg⟩ := (harmD_end HDONE.out i).1 hp hto
          have ok := HG.out.ok hu
          rw [HN.out] at ok
          have ht := strike_tgt ok hst
          obtain ⟨k, t, hk, hid, -, -, -⟩ := tgt_mem (HG.out.aims u hu) ht
          have hti : t.id = i := hid.trans htg
          subst hti
          have htm : t ∈ g.us := List.mem_of_getElem? hk
          have okt := HG.out.ok htm
          rw [HN.out] at okt
          have hne : g.us.length ≠ 0 := by have := (List.getElem?_eq_some_iff.1 hk).1; omega
          obtain ⟨gg, hua, -⟩ := own_ua HH.out.own hne
          subst hua
          have hhp : t.hp ≤ 100 := by
            have h1 := okt.hpT
            have h2 := ruleOf_bd true t.kind
            split at h1 <;> omega
          have hhp1 := okt.hp1
          have hpr := harmD_range (n := true) (old := old) (us := g.us) (lf := lf) t.id
          rw [hto] at hpr
          obtain ⟨hp0, hp1⟩ := hpr
          have h20 := HG.out.few
          replace hp0 : 0 ≤ hp := hp0
          replace hp1 : hp ≤ 100 * (g.us.length : Int) := hp1
          have hp2 : hp ≤ 2000 := by omega
          have hww : IntKind.i64.wrap (t.hp - hp) = t.hp - hp := IntWalk.i64_in _ (by omega)
          have HPE := Lib.hid hpe
          have HKK := Lib.hid hk
          have HLI := Lib.hid hli
          have HR6 := Lib.hid hrg6
          have HLT : Hid (wr.rangeLeft mH R2 = cnt ∧ cnt6 < cnt) := Lib.hid ⟨hrg.left_eq, hlt6⟩
          have HK6 := Lib.hid (HK.out.trans hk6 (fun b _ e => Or.inr e))
          have hb6 := HBG.out.kp hk6 (fun e => by have h1 := HSM.out; have h2 := HR2.out; have h3 : S = R2 := e; omega) (fun e => by have h1 := HSM.out; have h2 := HR2.out; have h3 : M = R2 := e; omega) (fun b hb e => by
            have h2 : gg = b := Option.some.inj hb
            have h1 := HOW.out gg rfl
            have h3 := HR2.out
            have h4 : b = R2 := e
            omega)
          have HB6 := Lib.hid hb6
          have hkP : (partU l2 id (hurtN true old g.us) g.us)[k]? = some t := by
            have := partU_at (lf := l2) (a := id) (b := hurtN true old g.us) hk
            rw [if_pos hli] at this
            exact this
          have HKP := Lib.hid hkP
          obtain ⟨hgl, -, -, -, -, -, t5, -, -, -, -, fz⟩ := hb6.unit (k := k) (u := t) hkP
          have lS := hb6.bd.lt
          have c5 : w6.cell? ⟨S, 5, none⟩ = some (.map (some M)) := hb6.bd.2.1 5 (by omega)
          obtain ⟨nM, sM, -, mM⟩ := hb6.mp
          have hL : (Instr.lookup 155 (.map (some M)) (.int .i64 t.id) false).run Try.prog w6 = .ok (.pointer (some ⟨gg, k * 11, none⟩)) w6 := by
            have := mM.get (intKeys (by kernel_rfl)) (t := 155) (e := 161) (by kernel_rfl) (z := .pointer none) (by kernel_rfl) t.id hwi
            have e : whoV (some ⟨gg, 0, none⟩) (partU l2 id (hurtN true old g.us) g.us) t.id = some (.pointer (some ⟨gg, k * 11, none⟩)) := by
              unfold whoV
              rw [who_ids (partU_ids (lf := l2) (a := id) (b := hurtN true old g.us) (us := g.us) (fun _ _ => rfl) (fun u _ => rfl))]
              exact whoV_is HG.out.sorted hk
            dsimp only at this
            rw [e] at this
            exact this
          clear hpe hst htg ok ht hid htm okt hne hto hp0 hp1 hk hli hrg6 hlt6 hrg hk6 hb6 hkP mM hs6 hwi hu
          go_wp2_with fail
          have hlen : (partU l2 id (hurtN true old g.us) g.us).length = g.us.length := partU_length _ _ _ _
          have hkl : k < (partU l2 id (hurtN true old g.us) g.us).length := (List.getElem?_eq_some_iff.1 HKP.out).1
          have hgd : (partU l2 id (hurtN true old g.us) g.us).getD k zeroU = t := by
            obtain ⟨q1, q2⟩ := List.getElem?_eq_some_iff.1 HKP.out
            rw [getD_lt q1, q2]
          have bgp := HB6.out.poke (k := k) hkl (j := 5) (by decide) (v := .int .i64 (t.hp - hp)) (u' := { t with hp := t.hp - hp }) (by dsimp only; rw [hgd]; rfl) (by dsimp only; rw [hgd])
          have hps : partU (but l2 t.id) id (hurtN true old g.us) g.us = (partU l2 id (hurtN true old g.us) g.us).set k { t with hp := t.hp - hp } := by
            rw [partU_step HG.out.sorted HKK.out]
            unfold hurtN
            rw [HPE.out]
          dsimp only at bgp
          rw [← hps] at bgp
          have kZ : Kp (fun b => b = gg) w6 (w6.setCell ⟨gg, k * 11 + 5, none⟩ (.int .i64 (t.hp - hp))) := Kp.setCell w6 ⟨gg, k * 11 + 5, none⟩ _
          have hr := HR6.out.kp kZ (fun e => by have h1 := HOW.out gg rfl; have h2 := HMO.out; have h3 : mH = gg := e; omega) (fun e => by have h1 := HOW.out gg rfl; have h2 := HR2.out; have h3 : R2 = gg := e; omega)
          have kk : Kp (fun b => (Value.slice (some ⟨gg, 0, none⟩) g.us.length cu).ownBlock = some b ∨ b = R2) w3 (w6.setCell ⟨gg, k * 11 + 5, none⟩ (.int .i64 (t.hp - hp))) := HK6.out.trans kZ (fun b _ e => Or.inl (congrArg some (show gg = b from e.symm)))
          go_roundw
          case rel => exact ⟨but l2 t.id, cnt6, hr, bgp, kk⟩
          case measure => rw [hr.left_eq, HLT.out.1]; exact HLT.out.2
end Go.Proofs.Ytlfljlhppigejaa
