/-
  The walk of the document's toil. (Printed by gen_reftoil.py.)
-/
import Derived.Test.YtlfljlhppigejaaRefBuild
import Derived.Test.YtlfljlhppigejaaPackTell
import Derived.Test.YtlfljlhppigejaaElderWork
namespace Go.Proofs.Ytlfljlhppigejaa
open Go.RowKit
attribute [local go_sem] qOne qAt qUp qOneK

theorem Row.kpx {X : Nat → Prop} {B : Nat} {w w' : World} {a : Option Addr} {n : Nat} {f : Nat → Value} (h : Row B w a n f) (k : Kp X w w') (hB : B ≤ w.heap.size) (hx : ∀ b o, a = some ⟨b, o, none⟩ → b < B → ¬ X b) : Row B w' a n f :=
  fun i hi => let ⟨b, o, h1, h2, h3⟩ := h i hi; ⟨b, o, h1, h2, (k.cell b _ (by omega) (hx b o h1 h2)).trans h3⟩
/-- What those have lost, in a variable. -/
def lessC (n : Bool) (old : List Int) (us : List U) (k : Nat) : Array Value := ((List.range 20).map fun j => Value.int .i64 (lessJ n old us k j)).toArray
theorem lessC_size (n : Bool) (old : List Int) (us : List U) (k : Nat) : (lessC n old us k).size = 20 := by simp [lessC]
theorem lessC_get (n : Bool) (old : List Int) (us : List U) (k j : Nat) (h : j < 20) : (lessC n old us k)[j]? = some (.int .i64 (lessJ n old us k j)) := by simp [lessC, h]
theorem lessC_fn {n : Bool} {old : List Int} {us : List U} {k k' : Nat} (h : ∀ j, lessJ n old us k j = lessJ n old us k' j) : lessC n old us k = lessC n old us k' := by
  unfold lessC
  congr 1
  exact List.map_congr_left (fun j _ => by rw [h j])
theorem lessC_set {n : Bool} {old : List Int} {us : List U} {k q : Nat} {b v : Int} (h : ∀ j, lessJ n old us (k + 1) j = if j = q then lessJ n old us k j + b else lessJ n old us k j) (hq : q < 20) (hv : v = lessJ n old us k q + b) : (lessC n old us k).setIfInBounds q (.int .i64 v) = lessC n old us (k + 1) := by
  apply Array.ext_getElem?
  intro i
  rw [Array.getElem?_setIfInBounds]
  by_cases e : q = i
  · subst e
    rw [if_pos rfl, lessC_size, if_pos hq, lessC_get _ _ _ _ _ hq, h, if_pos rfl, hv]
  · rw [if_neg e]
    by_cases hi : i < 20
    · rw [lessC_get _ _ _ _ _ hi, lessC_get _ _ _ _ _ hi, h, if_neg (fun e2 => e e2.symm)]
    · rw [Array.getElem?_eq_none (by rw [lessC_size]; omega), Array.getElem?_eq_none (by rw [lessC_size]; omega)]
theorem lessC_zero (n : Bool) (old : List Int) (us : List U) : lessC n old us 0 = (List.replicate 20 (Value.int .i64 0)).toArray := by
  unfold lessC
  congr 1
  simp only [lessJ_zero]
  rfl

/-- A state behind the fights of a tick. -/
def toilF (g : G) (old : List Int) : G :=
  { g with
    tick := g.tick + 1
    g0 := gainF g.new old g.us 0 g.us g.g0
    g1 := gainF g.new old g.us 1 g.us g.g1
    free := if g.new then g.free else g.free ++ goneF (hurtF g.new old g.us)
    us := (leftF (hurtF g.new old g.us)).map (idleF (leftF (hurtF g.new old g.us))) }
theorem end_toil (g : G) (old : List Int) : endF g old = toilF { g with us := movesF g.new old g.us } old := rfl

set_option maxHeartbeats 25600000 in
set_option maxRecDepth 100000 in
theorem reftoil_any (B S P0 : Nat) (g : G) (born : List Int) (fv uv bv : Value) (old : List Int) (oa : Option Addr) (no co : Nat) (w : World) (h : GR w B S g born fv uv bv) (hg : Right g) (hS0 : P0 ≠ S) (h0 : w.cell? ⟨P0, 0, none⟩ = some (.slice oa no co)) (hP0 : P0 < w.heap.size) (hol : old.length = no) (hon : no ≤ 1000)
    (hold : Row w.heap.size w oa no (fun k => .int .i64 (old.getD k 0))) (hx1 : ∀ b o, oa = some ⟨b, o, none⟩ → b < w.heap.size → b ≠ S ∧ fv.ownBlock ≠ some b) (hx2 : fv.ownBlock ≠ some P0) :
    Calls Try.prog 157 #[.pointer (some ⟨S, 0, none⟩), .func (.func 155) #[] #[.pointer (some ⟨P0, 0, none⟩)]] w fun e w' => e = .returned (.tuple #[]) ∧ Below B w w' ∧ ∃ fv' uv', GR w' B S (toilF g old) born fv' uv' bv := by
  obtain ⟨ua, cu, rfl, hml, -, -⟩ := URow.of_ownN h.us
  obtain ⟨m, hm⟩ : ∃ m, g.us.length = m := ⟨_, rfl⟩
  have hfew := hg.few
  rw [hm] at h hml hfew
  have hR := h.reads hm (by omega)
  have c0 := hR.c0
  have lS := hR.lt
  obtain ⟨rich, hrich⟩ : ∃ x, richOf g.new = x := ⟨_, rfl⟩
  have HRICH := Lib.hid hrich
  have hrb : 0 ≤ rich ∧ rich ≤ 1000 := by rw [← hrich]; cases g.new <;> decide
  obtain ⟨hrb1, hrb2⟩ := hrb
  have hm0 : (0 : Int) ≤ (m : Int) := by omega
  have HBS := Lib.hid h.base
  have HH := Lib.hid h
  have HG := Lib.hid hg
  have HM := Lib.hid hm
  have HOLD := Lib.hid hold
  have HOL := Lib.hid hol
  have HX1 := Lib.hid hx1
  have HX2 := Lib.hid hx2
  have HP0 := Lib.hid h0
  clear h hg hm hold hol hx1 hx2 hR h0
  go_enter Try.func157, Try.ntmps157
  go_wp2_with fail
  refine (bounds_any g.new S _ c0).mono ?_
  rintro e w' ⟨rfl, rfl⟩
  rw [hrich]
  clear hrich
  go_upto_region 2 with fail
  refine gen_world (fun V => Below w.heap.size w V ∧ Blk V w.heap.size (lessC g.new old g.us 0)) ⟨(Below.refl _ _).alloc (Nat.le_refl _) _, by rw [lessC_zero]; exact Blk.new w _ _⟩ ?_
  rintro W ⟨hbW, kL⟩
  obtain ⟨PL, hPL⟩ : ∃ n, w.heap.size = n := ⟨_, rfl⟩
  rw [hPL] at kL
  try rw [hPL]
  have nPS : PL ≠ S := by omega
  have lPW := kL.lt
  have HBW := Lib.hid hbW
  have HKL := Lib.hid kL
  have HPL := Lib.hid hPL
  have HPF := Lib.hid (fun b hb e => by have := (World.ownsRow.lt HH.out.fr b hb).2; omega : ∀ b, fv.ownBlock = some b → ¬ b = PL)
  have HPU := Lib.hid (fun b hb e => by have := (World.ownsRow.lt HH.out.us b hb).2; omega : ∀ b, (Value.slice ua m cu).ownBlock = some b → ¬ b = PL)
  have HPB := Lib.hid (fun b hb e => by have := (World.ownsRow.lt HH.out.bo b hb).2; omega : ∀ b, bv.ownBlock = some b → ¬ b = PL)
  have HIS : Hid (∀ V, Kp (fun c => c = S ∨ c = PL) W V → ∀ id, Calls Try.prog 155 #[.int .i64 id, .pointer (some ⟨P0, 0, none⟩)] V fun e w' => e = .returned (.bool (old.contains id)) ∧ V = w') := Lib.hid (fun V hV id => by
    have hs := hV.size
    have hs2 := HBW.out.size
    refine refis_any P0 old oa no co id V ?_ HOL.out hon ?_
    · exact (hV.cell P0 0 (by omega) (by omega)).trans ((HBW.out.cell (p := ⟨P0, 0, none⟩) hP0).trans HP0.out)
    · refine ((HOLD.out.below HBW.out).kpx hV hs2 (fun b o e hb hc => ?_)).mono (by omega)
      have h1 := (HX1.out b o e hb).1
      rcases hc with h2 | h2
      · exact h1 h2
      · omega)
  clear hbW kL hPL c0
  go_wp2_with fail
  go_loopw [7, 8, 9, 10, 11, 12, 13] (fun iv _ _ _ _ _ _ wr => ∃ k : Nat, iv = .int .i64 k ∧ k ≤ m ∧ (GR wr B S (goldG g old k) born fv (.slice ua m cu) bv ∧ Blk wr PL (lessC g.new old g.us k) ∧ Kp (fun c => c = S ∨ c = PL) W wr)) (fun iv _ _ _ _ _ _ _ => (m - intOf iv).toNat)
  case atStart => exact ⟨0, rfl, by omega, by rw [goldG_zero]; exact HH.out.call HBW.out, HKL.out, Kp.refl _ _⟩
  case round =>
    obtain ⟨k, rfl, hk, gr, kl, kr⟩ := hrel
    have hki : (0 : Int) ≤ (k : Int) := by omega
    have hRr : Reads wr S g.new g.us ua m cu := GR.reads (g := goldG g old k) gr HM.out (by omega)
    have c6 := hRr.c6
    have lSr := hRr.lt
    have GRR := Lib.hid gr
    have KLR := Lib.hid kl
    have KRR := Lib.hid kr
    by_cases hlt : k < m
    · have hkl : (k : Int) < (m : Int) := by omega
      have hlu : k < g.us.length := by have := HM.out; omega
      obtain ⟨u, hu⟩ : ∃ u, g.us.getD k zeroU = u := ⟨_, rfl⟩
      have hum : u ∈ g.us := by rw [← hu, getD_lt hlu]; exact List.getElem_mem _
      obtain ⟨b, o, rfl, hbB, q0, q1, q2, q3, q4, q5, q6, q7, q8, q9, q10⟩ := hRr.row.getN k hlu u hu
      have HU := Lib.hid hu
      have HLU := Lib.hid hlu
      have HUM := Lib.hid hum
      have HRR := Lib.hid hRr
      have HSK : Hid (strikes g.new old g.us u = false → ∀ V, Below wr.heap.size wr V → (GR V B S (goldG g old (k + 1)) born fv (.slice (some ⟨b, o, none⟩) m cu) bv ∧ Blk V PL (lessC g.new old g.us (k + 1)) ∧ Kp (fun c => c = S ∨ c = PL) W V)) := Lib.hid (fun hs V hV => by
        rw [goldG_same HLU.out HU.out (Or.inl hs), ← lessC_fn (k := k) (fun j => (lessJ_same HLU.out HU.out hs j).symm)]
        exact ⟨GRR.out.call hV, KLR.out.call hV, KRR.out.then_ hV⟩)
      clear gr kl kr hu hlu hum hRr
      go_upto_region 6 with fail
      refine gen_world (fun V => Below wr.heap.size wr V ∧ Blk V wr.heap.size #[.int .i64 u.id, .int .i64 u.owner, .int .i64 u.kind, .int .i64 u.x, .int .i64 u.y, .int .i64 u.hp, .int .i64 u.does, .int .i64 u.gx, .int .i64 u.gy, .int .i64 u.target, .int .i64 u.since]) ⟨(Below.refl _ _).alloc (Nat.le_refl _) _, Blk.new wr _ _⟩ ?_
      rintro w1 ⟨hb1, kU⟩
      obtain ⟨pu, hpu⟩ : ∃ n, wr.heap.size = n := ⟨_, rfl⟩
      rw [hpu] at kU
      try rw [hpu]
      have HPUU := Lib.hid hpu
      have HB1 := Lib.hid hb1
      obtain ⟨lU1, cU1, -⟩ := id kU
      have HKU := Lib.hid kU
      clear hb1 kU hpu q0 q1 q2 q3 q4 q5 q6 q7 q8 q9 q10 c6
      go_wp2_with fail
      refine (HIS.out w1 (KRR.out.then_ HB1.out) u.id).mono ?_
      rintro e w' ⟨rfl, rfl⟩
      obtain ⟨TH, hTH⟩ : ∃ v, old.contains u.id = v := ⟨_, rfl⟩
      have HTH := Lib.hid hTH
      rw [hTH]
      clear hTH
      cases TH
      case false =>
        go_wp2_with fail
        go_roundw
        case rel => exact ⟨k + 1, by go_num, by omega, HSK.out (strike_false (Or.inr (Or.inl HTH.out))) w1 HB1.out⟩
        case measure => simp [intOf]; omega
      by_cases ht : u.target = 0
      · have d1 : (u.target == 0) = true := by simp [ht]
        have HT := Lib.hid ht
        clear ht
        go_wp2_with fail
        go_roundw
        case rel => exact ⟨k + 1, by go_num, by omega, HSK.out (strike_false (Or.inl HT.out)) w1 HB1.out⟩
        case measure => simp [intOf]; omega
      have d1 : (u.target == 0) = false := by simp [ht]
      obtain ⟨q, v, hq, hv, hvm⟩ := aim_there HG.out HUM.out ht
      have HT := Lib.hid ht
      have hqm : q < m := by have := (ixOf_lt hq).1; have := HM.out; omega
      have hNEAR := refnear_any S g.new g.us (some ⟨b, o, none⟩) m cu u v q w1 (HRR.out.call HB1.out) hq hv ((onB_iff _ _).1 (HG.out.ok HUM.out).on) ((onB_iff _ _).1 (HG.out.ok hvm).on)
      obtain ⟨NR, hNR⟩ : ∃ x, nearF g.new g.us u = x := ⟨_, rfl⟩
      rw [hNR] at hNEAR
      have HNEAR := Lib.hid hNEAR
      have HNR := Lib.hid hNR
      have HQ := Lib.hid hq
      clear ht hq hv hvm hNEAR hNR
      go_wp2_with fail
      refine HNEAR.out.mono ?_
      rintro e w2 ⟨rfl, b2⟩
      have HB2 := Lib.hid (HB1.out.trans (b2.mono HB1.out.size))
      have hU2 := HKU.out.call b2
      obtain ⟨lU2, cU2, -⟩ := id hU2
      have HU2 := Lib.hid hU2
      clear b2 hU2 cU1 lU1
      cases NR
      case false =>
        go_wp2_with fail
        go_roundw
        case rel => exact ⟨k + 1, by go_num, by omega, HSK.out (strike_false (Or.inr (Or.inr HNR.out))) w2 HB2.out⟩
        case measure => simp [intOf]; omega
      have hst : strikes g.new old g.us u = true := strike_true HT.out HTH.out HNR.out
      have HST := Lib.hid hst
      have hR2 := HRR.out.call HB2.out
      have c02 := hR2.c0
      have lS2 := hR2.lt
      have HR2 := Lib.hid hR2
      clear hst hR2
      go_upto_region 10 with fail
      haveI := Cw.ne w2
      have hcw := fun (x : Cw w2) => x.cell
      refine region_loose 10 (by kernel_rfl) (by kernel_rfl) ?_
      repeat (refine wpQB_step (fun K hK => ?_); go_simp; first | (refine hK _ ?_; clear hK K) | (apply Exists.intro; refine ⟨fun x => ?_, hK _ ?_⟩; (first | (go_at_call 20; refine (refRule_any g.new u.kind _).mono ?_; rintro e w1 ⟨rfl, b1⟩; exact ⟨rfl, b1⟩)); clear hK K))
      refine wpQB_nil ?_
      refine tail_var (T := 36) (d := 11) (r := 63) (c := #[.int .i64 (ruleOf g.new u.kind).cost, .int .i64 (ruleOf g.new u.kind).hp, .int .i64 (ruleOf g.new u.kind).speed, .int .i64 (ruleOf g.new u.kind).harm, .int .i64 (ruleOf g.new u.kind).range, .int .i64 (ruleOf g.new u.kind).load]) #[.int .i64 0, .int .i64 0, .int .i64 0, .int .i64 0, .int .i64 0, .int .i64 0] rfl rfl rfl rfl (fun _ => rfl) (fun w => by simp [go_sem]) (fun _ => rfl) (by simp) rfl (by kernel_rfl) (by simp [Value.oneCell']) (fun p => ?_)
      refine tail_value (.bool (isRule g.new u.kind)) rfl (fun w => by simp [go_sem]) ?_
      refine tail_nil ?_
      rintro w4 ⟨hb, hp, hk4⟩
      obtain ⟨pr, hpr⟩ : ∃ n, p = n := ⟨_, rfl⟩
      rw [hpr] at hk4 hp
      try rw [hpr]
      clear hpr
      obtain ⟨r, hr⟩ : ∃ r, ruleOf g.new u.kind = r := ⟨_, rfl⟩
      have HRU := Lib.hid hr
      have hbd := ruleOf_bd g.new u.kind
      rw [hr] at hk4 hbd
      try rw [hr]
      obtain ⟨-, -, -, -, -, -, hbd1, hbd2, -, -, hbd3, hbd4⟩ := hbd
      obtain ⟨lR4, cR4, -⟩ := id hk4
      have hU4 := HU2.out.call hb
      obtain ⟨lU4, cU4, -⟩ := id hU4
      have HB4 := Lib.hid (HB2.out.trans (hb.mono HB2.out.size))
      have HR4 := Lib.hid hk4
      have HU4 := Lib.hid hU4
      have HRD4 := Lib.hid (HR2.out.call hb)
      have c64 := HRD4.out.c6
      have lS4 := HRD4.out.lt
      have hs2 := HB2.out.size
      have hpuL := HPUU.out
      have hLPr : PL < wr.heap.size := KLR.out.lt
      have nPU : PL ≠ pu := by omega
      have nPR : PL ≠ pr := by omega
      have nSU : S ≠ pu := by omega
      have nSR : S ≠ pr := by omega
      clear hcw hb hp hk4 hU4 hr cU2 lU2 c02 lS2
      have HG4 := Lib.hid (GRR.out.call HB4.out)
      have HLB := Lib.hid (KLR.out.call HB4.out)
      have HK4 := Lib.hid (KRR.out.then_ HB4.out)
      have hWHO := HRD4.out.who u.target ⟨w4, Below.refl _ _⟩
      dsimp only at hWHO
      rw [HQ.out] at hWHO
      have HWHO := Lib.hid hWHO
      clear hWHO
      obtain ⟨LV, hLV⟩ : ∃ x, lessJ g.new old g.us k q = x := ⟨_, rfl⟩
      have HLV := Lib.hid hLV.symm
      have hLVb := lessJ_range g.new old g.us k q
      rw [hLV, HM.out] at hLVb
      obtain ⟨hLV1, hLV2⟩ := hLVb
      have hq20 : q < 20 := by omega
      have hcL : w4.cell? ⟨PL, q, none⟩ = some (.int .i64 LV) := by rw [HLB.out.cell q, lessC_get _ _ _ _ _ hq20, hLV]
      have hlP4 := HLB.out.lt
      have hq0 : (0 : Int) ≤ (q : Int) := by omega
      have hq20i : (q : Int) < 20 := by omega
      have HEX := Lib.hid (fun j => lessJ_next HG.out.sorted HLU.out HU.out HST.out HQ.out j)
      clear hLV
      go_wp2_with fail
      refine HWHO.out.mono ?_
      rintro e w' ⟨rfl, rfl⟩
      by_cases hd2 : u.does = 2
      · have d2 : (u.does == 2) = true := by simp [hd2]
        have HBL : Hid (blow g.new u = r.harm) := Lib.hid (by show _ = _; unfold blow; rw [if_pos hd2, HRU.out])
        have HD2 := Lib.hid hd2
        clear hd2
        go_upto_region 13 with fail
        haveI := Cw.ne w4
        have hcw := fun (x : Cw w4) => x.cell
        refine region_cw_tail 8 (by kernel_rfl) (by kernel_rfl) ?_
        simp only [List.take_succ_cons, List.take_zero, List.drop_succ_cons, List.drop_zero]
        repeat (go_big_quiet_step (fail))
        refine wpQuiet_nil ?_
        intro Y hY
        have hLY := HLB.out.call hY
        refine list_store1 PL q (.int .i64 (LV + r.harm)) 3 (.tmp 79) (.tmp 78) rfl rfl rfl rfl rfl (by rw [hLY.cell q, lessC_get _ _ _ _ _ hq20]; rfl) (hLY.free q) rfl (by kernel_rfl) (fun Q => GR Q B S (goldG g old k) born fv (.slice (some ⟨b, o, none⟩) m cu) bv ∧ Blk Q PL (lessC g.new old g.us (k + 1)) ∧ Blk Q pu #[.int .i64 u.id, .int .i64 u.owner, .int .i64 u.kind, .int .i64 u.x, .int .i64 u.y, .int .i64 u.hp, .int .i64 u.does, .int .i64 u.gx, .int .i64 u.gy, .int .i64 u.target, .int .i64 u.since] ∧ Blk Q pr #[.int .i64 r.cost, .int .i64 r.hp, .int .i64 r.speed, .int .i64 r.harm, .int .i64 r.range, .int .i64 r.load] ∧ Kp (fun c => c = S ∨ c = PL) W Q) ⟨(HG4.out.call hY).kp (Kp.setCell Y ⟨PL, q, none⟩ _) (fun e => nPS e.symm) HPF.out HPU.out HPB.out, ?_, (HU4.out.call hY).other nPU, (HR4.out.call hY).other nPR, (HK4.out.then_ hY).andset _ _ (Or.inr rfl)⟩ ?_
        · have h1 := hLY.store (.int .i64 (LV + r.harm)) (i := q) (by rw [lessC_size]; exact hq20)
          rw [lessC_set HEX.out hq20 (by rw [HLV.out, HBL.out])] at h1
          exact h1
        rintro Q ⟨gQ, lQ, uQ, rQ, kQ⟩
        clear hcw hLY hY
        go_wp2_with fail
        go_roundw
        case rel =>
          refine ⟨k + 1, by go_num, by omega, ?_, lQ, kQ⟩
          rw [goldG_same HLU.out HU.out (Or.inr HD2.out)]
          exact gQ
        case measure => simp [intOf]; omega
      · have d2 : (u.does == 2) = false := by simp [hd2]
        have HBL : Hid (blow g.new u = r.load) := Lib.hid (by show _ = _; unfold blow; rw [if_neg hd2, HRU.out])
        have HD2 := Lib.hid hd2
        have hd3 : u.does = 3 := by
          have h1 := strike_does HST.out
          omega
        have hown := miner_any HG.out HUM.out hd3
        clear hd2 hd3
        go_upto_region 14 with fail
        haveI := Cw.ne w4
        have hcw := fun (x : Cw w4) => x.cell
        refine region_cw_tail 8 (by kernel_rfl) (by kernel_rfl) ?_
        simp only [List.take_succ_cons, List.take_zero, List.drop_succ_cons, List.drop_zero]
        repeat (go_big_quiet_step (fail))
        refine wpQuiet_nil ?_
        intro Y hY
        have hLY := HLB.out.call hY
        refine list_store1 PL q (.int .i64 (LV + r.load)) 3 (.tmp 87) (.tmp 86) rfl rfl rfl rfl rfl (by rw [hLY.cell q, lessC_get _ _ _ _ _ hq20]; rfl) (hLY.free q) rfl (by kernel_rfl) (fun Q => GR Q B S (goldG g old k) born fv (.slice (some ⟨b, o, none⟩) m cu) bv ∧ Blk Q PL (lessC g.new old g.us (k + 1)) ∧ Blk Q pu #[.int .i64 u.id, .int .i64 u.owner, .int .i64 u.kind, .int .i64 u.x, .int .i64 u.y, .int .i64 u.hp, .int .i64 u.does, .int .i64 u.gx, .int .i64 u.gy, .int .i64 u.target, .int .i64 u.since] ∧ Blk Q pr #[.int .i64 r.cost, .int .i64 r.hp, .int .i64 r.speed, .int .i64 r.harm, .int .i64 r.range, .int .i64 r.load] ∧ Kp (fun c => c = S ∨ c = PL) W Q) ⟨(HG4.out.call hY).kp (Kp.setCell Y ⟨PL, q, none⟩ _) (fun e => nPS e.symm) HPF.out HPU.out HPB.out, ?_, (HU4.out.call hY).other nPU, (HR4.out.call hY).other nPR, (HK4.out.then_ hY).andset _ _ (Or.inr rfl)⟩ ?_
        · have h1 := hLY.store (.int .i64 (LV + r.load)) (i := q) (by rw [lessC_size]; exact hq20)
          rw [lessC_set HEX.out hq20 (by rw [HLV.out, HBL.out])] at h1
          exact h1
        rintro Q ⟨gQ, lQ, uQ, rQ, kQ⟩
        clear hcw hLY hY
        have GQ := Lib.hid gQ
        have LQ := Lib.hid lQ
        have KQ := Lib.hid kQ
        obtain ⟨lUQ, cUQ, -⟩ := id uQ
        obtain ⟨lRQ, cRQ, -⟩ := id rQ
        obtain ⟨GO, hGO⟩ : ∃ x, goldOf (goldG g old k) u.owner = x := ⟨_, rfl⟩
        have hcg : Q.cell? ⟨S, 2 + u.owner.toNat, none⟩ = some (.int .i64 GO) := by
          rw [← hGO, gQ.blk.cell]
          rcases hown with e | e <;> rw [e] <;> rfl
        have hGOb : 0 ≤ GO ∧ GO ≤ 1000 := by
          rw [← hGO]
          have h1 := HG.out.head
          unfold headBad at h1
          have h2 := gainK_range g.new old g.us k 0 g.g0 (by omega) (by omega)
          have h3 := gainK_range g.new old g.us k 1 g.g1 (by omega) (by omega)
          rw [HRICH.out] at h2 h3
          unfold goldOf goldG
          dsimp only
          split <;> omega
        obtain ⟨hGO1, hGO2⟩ := hGOb
        have HGO := Lib.hid hGO
        have HOWN := Lib.hid hown
        have ho0 : 0 ≤ u.owner := by omega
        have ho2 : u.owner < 2 := by omega
        have lSQ := gQ.blk.lt
        have fSQ := gQ.blk.free
        clear gQ lQ kQ uQ rQ hGO hown cR4 cU4 c64 lU4 lR4 hcL hlP4 lS4
        go_upto_region 15 with fail
        haveI := Cw.ne Q
        have hcw := fun (x : Cw Q) => x.cell
        refine region_cw_tail 18 (by kernel_rfl) (by kernel_rfl) ?_
        simp only [List.take_succ_cons, List.take_zero, List.drop_succ_cons, List.drop_zero]
        repeat (go_big_quiet_step (fail))
        refine wpQuiet_nil ?_
        intro Y hY
        have hcgY : Y.cell? ⟨S, 2 + u.owner.toNat, none⟩ = some (.int .i64 GO) := (hY.cell (p := ⟨S, _, none⟩) lSQ).trans hcg
        have hmin : (if GO + r.load < rich then GO + r.load else rich) = min rich (GO + r.load) := by split <;> omega
        have hgY := (GQ.out.call hY).setGold HOWN.out (min rich (GO + r.load))
        have e3 : setGold (goldG g old k) u.owner (min rich (GO + r.load)) = goldG g old (k + 1) := by
          rw [goldG_next HLU.out HU.out HST.out HD2.out HOWN.out, HRICH.out, HGO.out, HRU.out]
          rfl
        rw [e3] at hgY
        have hlY := (LQ.out.call hY).other (T := S) (i := 2 + u.owner.toNat) (v := .int .i64 (min rich (GO + r.load))) (fun e => nPS e.symm)
        have hkY := (KQ.out.then_ hY).andset ⟨S, 2 + u.owner.toNat, none⟩ (.int .i64 (min rich (GO + r.load))) (Or.inl rfl)
        rw [← hmin] at hgY hlY hkY
        refine list_store1 S (2 + u.owner.toNat) (.int .i64 (if GO + r.load < rich then GO + r.load else rich)) 3 (.tmp 105) (.tmp 102) rfl rfl rfl rfl rfl (by rw [hcgY]; rfl) (by rw [hY.frozen (p := ⟨S, _, none⟩) lSQ]; exact fSQ _) rfl (by kernel_rfl) (fun R => GR R B S (goldG g old (k + 1)) born fv (.slice (some ⟨b, o, none⟩) m cu) bv ∧ Blk R PL (lessC g.new old g.us (k + 1)) ∧ Kp (fun c => c = S ∨ c = PL) W R) ⟨hgY, hlY, hkY⟩ ?_
        rintro R ⟨gR, lR, kR⟩
        clear hcw hY hcgY hmin hgY hlY hkY e3
        go_wp2_with fail
        go_roundw
        case rel => exact ⟨k + 1, by go_num, by omega, gR, lR, kR⟩
        case measure => simp [intOf]; omega
    · obtain rfl : k = m := by omega
      clear gr kl kr hRr
      obtain ⟨hs, hhs⟩ : ∃ v, hurtF g.new old g.us = v := ⟨_, rfl⟩
      have HHS := Lib.hid hhs
      have hhl : hs.length = k := by rw [← hhs, ← HM.out]; unfold hurtF; simp
      have HHL := Lib.hid hhl
      have hBw : B ≤ w.heap.size := by have := HBS.out; have := HH.out.blk.lt; omega
      have hPLw : PL = w.heap.size := HPL.out.symm
      have hBE : Below B w wr := (HBW.out.mono hBw).trans (KRR.out.below (fun c hc => by
        have h1 := HBS.out
        rcases hc with h | h <;> omega) (by have := HBW.out.size; omega))
      have HBE := Lib.hid hBE
      have HFL := Lib.hid (fun c hc => (World.ownsRow.lt GRR.out.fr c hc) : ∀ c, fv.ownBlock = some c → B ≤ c ∧ c < wr.heap.size)
      have hszE := hBE.size
      have hszw : w.heap.size ≤ wr.heap.size := by have := HBW.out.size; have := KRR.out.size; omega
      have hk20 : k ≤ 20 := by omega
      clear hhs hhl hBE hPLw
      go_wp2_with fail
      obtain ⟨wl, hwl⟩ : ∃ x, wr = x := ⟨_, rfl⟩
      have HWL := Lib.hid hwl
      have HSL : Hid (S < wl.heap.size ∧ PL < wl.heap.size ∧ w.heap.size ≤ wl.heap.size) := Lib.hid (by rw [← hwl]; refine ⟨by omega, ?_, hszw⟩; exact KLR.out.lt)
      have hm0 : (0 : Int) ≤ (k : Int) := by omega
      go_loopw [14, 15, 16] (fun lv iv _ wz => ∃ j : Nat, iv = .int .i64 j ∧ j ≤ k ∧ (∃ L fv2, (leftF (hs.take j)).length = L ∧ wz.ownsRow wl.heap.size 130 11 lv L (cellsAllN (leftF (hs.take j))) ∧ GR wz B S { goldG g old k with free := if g.new then g.free else g.free ++ goneF (hs.take j) } born fv2 (.slice ua k cu) bv ∧ (∀ c, fv2.ownBlock = some c → lv.ownBlock ≠ some c ∧ c ≠ PL ∧ (fv.ownBlock = some c ∨ wl.heap.size ≤ c)) ∧ Blk wz PL (lessC g.new old g.us k) ∧ Below B w wz ∧ wl.heap.size ≤ wz.heap.size)) (fun _ iv _ _ => (k - intOf iv).toNat)
      case atStart =>
        refine ⟨0, rfl, by omega, 0, fv, rfl, World.ownsRow_nil _ _ _ _, ?_, fun c hc => ⟨(fun e => by cases e), HPF.out c hc, Or.inl hc⟩, KLR.out, HBE.out, by rw [hwl]; exact Nat.le_refl _⟩
        have e : (if g.new then g.free else g.free ++ goneF (hs.take 0)) = g.free := by
          split
          · rfl
          · simp [goneF]
        rw [e]
        exact GRR.out
      case round =>
        obtain ⟨j, rfl, hj, L, fv2, hL, own, gz, hdis, kLz, hBz, hszz⟩ := hrel
        obtain ⟨la, lc, rfl⟩ := own_slice own
        obtain ⟨fa2, fc2, rfl⟩ := own_slice gz.fr
        obtain ⟨fl, hfl⟩ : ∃ x, (if g.new then g.free else g.free ++ goneF (hs.take j)) = x := ⟨_, rfl⟩
        have HFLE := Lib.hid hfl
        rw [hfl] at gz
        obtain ⟨nf, hnf⟩ : ∃ x, fl.length = x := ⟨_, rfl⟩
        dsimp only at hdis
        rw [hfl, hnf] at hdis
        dsimp only at gz
        rw [hnf] at gz
        have hji : (0 : Int) ≤ (j : Int) := by omega
        have hLk : L ≤ 20 := by
          rw [← hL]
          unfold leftF
          refine Nat.le_trans (List.length_filter_le _ _) ?_
          rw [List.length_take]
          omega
        have hRz : Reads wr S g.new g.us ua k cu := GR.reads (g := { goldG g old k with free := fl }) gz HM.out (by omega)
        have c6 := hRz.c6
        have c0 := hRz.c0
        have lSr := hRz.lt
        have HLL := Lib.hid hL
        have OWN := Lib.hid own
        have GZ := Lib.hid gz
        have HDIS := Lib.hid hdis
        have KLZ := Lib.hid kLz
        have HBZ := Lib.hid hBz
        have HRZ := Lib.hid hRz
        have HNF := Lib.hid hnf
        have hszr := hBz.size
        have LVB := Lib.hid (fun b hb => World.ownsRow.lt own b hb : ∀ b, (Value.slice la L lc).ownBlock = some b → wl.heap.size ≤ b ∧ b < wr.heap.size)
        clear own gz hdis kLz hBz hRz hfl hnf hL
        by_cases hlt : j < k
        · have hjk : (j : Int) < (k : Int) := by omega
          have hlu : j < g.us.length := by have := HM.out; omega
          obtain ⟨u, hu⟩ : ∃ u, g.us.getD j zeroU = u := ⟨_, rfl⟩
          have hum : u ∈ g.us := by rw [← hu, getD_lt hlu]; exact List.getElem_mem _
          have hza := hurt_at (n := g.new) (old := old) hlu hu
          obtain ⟨b, o, rfl, hbB, q0, q1, q2, q3, q4, q5, q6, q7, q8, q9, q10⟩ := HRZ.out.row.getN j hlu u hu
          have hj20 : j < 20 := by omega
          have hj20i : (j : Int) < 20 := by omega
          obtain ⟨LV, hLV⟩ : ∃ x, lessJ g.new old g.us k j = x := ⟨_, rfl⟩
          have hlr := lessJ_range g.new old g.us k j
          rw [hLV, HM.out] at hlr
          obtain ⟨hlr1, hlr2⟩ := hlr
          have hhp : u.hp ≤ 100 ∧ 1 ≤ u.hp := by
            have h1 := (HG.out.ok hum).hpT
            have h2 := ruleOf_bd g.new u.kind
            have h3 := (HG.out.ok hum).hp1
            split at h1 <;> omega
          obtain ⟨hhp1, hhp2⟩ := hhp
          obtain ⟨z, hz⟩ : ∃ z : U, { u with hp := u.hp - LV } = z := ⟨_, rfl⟩
          have hzh : hurtU g.new old g.us u = z := by
            rw [← hz]
            unfold hurtU
            have h1 := lessJ_all (n := g.new) (old := old) hlu
            rw [HM.out, hLV, hu] at h1
            rw [h1]
          rw [hzh, HHS.out] at hza
          have HZA := Lib.hid hza
          have hcL : wr.cell? ⟨PL, j, none⟩ = some (.int .i64 LV) := by rw [KLZ.out.cell j, lessC_get _ _ _ _ _ hj20, hLV]
          have lPLr := KLZ.out.lt
          have HZ0 := Lib.hid hz
          clear hum hza hLV hzh hu hlu
          go_upto_region 21 with fail
          refine gen_world (fun V => Below wr.heap.size wr V ∧ Blk V wr.heap.size #[.int .i64 u.id, .int .i64 u.owner, .int .i64 u.kind, .int .i64 u.x, .int .i64 u.y, .int .i64 u.hp, .int .i64 u.does, .int .i64 u.gx, .int .i64 u.gy, .int .i64 u.target, .int .i64 u.since]) ⟨(Below.refl _ _).alloc (Nat.le_refl _) _, Blk.new wr _ _⟩ ?_
          rintro w1 ⟨hb1, kU⟩
          obtain ⟨pu, hpu⟩ : ∃ n, wr.heap.size = n := ⟨_, rfl⟩
          rw [hpu] at kU
          try rw [hpu]
          have hcL1 : w1.cell? ⟨PL, j, none⟩ = some (.int .i64 LV) := (hb1.cell (p := ⟨PL, j, none⟩) lPLr).trans hcL
          have lPL1 : PL < w1.heap.size := Nat.lt_of_lt_of_le lPLr hb1.size
          obtain ⟨lU1, cU1, fU1⟩ := id kU
          have HB1 := Lib.hid hb1
          have HKU := Lib.hid kU
          have HPUU := Lib.hid hpu
          clear hb1 kU hpu q0 q1 q2 q3 q4 q5 q6 q7 q8 q9 q10 c6 hcL
          haveI := Cw.ne w1
          have hcw := fun (x : Cw w1) => x.cell
          refine region_cw_tail 7 (by kernel_rfl) (by kernel_rfl) ?_
          simp only [List.take_succ_cons, List.take_zero, List.drop_succ_cons, List.drop_zero]
          repeat (go_big_quiet_step (fail))
          refine wpQuiet_nil ?_
          intro Y hY
          have hUY := HKU.out.call hY
          have hsY := hUY.store (.int .i64 (u.hp - LV)) (i := 5) (by simp)
          refine list_store1 pu 5 (.int .i64 (u.hp - LV)) 3 (.tmp 128) (.tmp 127) rfl rfl rfl rfl rfl (by rw [hUY.cell]; rfl) (hUY.free 5) rfl (by kernel_rfl) (fun Q => Below wr.heap.size wr Q ∧ Blk Q pu #[.int .i64 z.id, .int .i64 z.owner, .int .i64 z.kind, .int .i64 z.x, .int .i64 z.y, .int .i64 z.hp, .int .i64 z.does, .int .i64 z.gx, .int .i64 z.gy, .int .i64 z.target, .int .i64 z.since]) ⟨(HB1.out.trans (hY.mono HB1.out.size)).setCell (by show wr.heap.size ≤ pu; have := HPUU.out; omega) _, by rw [← HZ0.out]; simpa using hsY⟩ ?_
          rintro Q ⟨hQ, uQ⟩
          have HQ := Lib.hid hQ
          have UQ := Lib.hid uQ
          obtain ⟨lUQ, cUQ, -⟩ := id uQ
          have gQ := GZ.out.call hQ
          have hRQ := HRZ.out.call hQ
          have c0Q := hRQ.c0
          have lSQ := hRQ.lt
          have hsQ := hQ.size
          have hpe := HPUU.out
          clear hcw hY hUY hsY hcL1 lPL1 cU1 fU1 lU1 hQ uQ c0 hRQ gQ
          have ownQ := own_kp OWN.out (kp_of HQ.out (fun _ => False)) (fun _ _ x => x)
          by_cases hp : 0 < z.hp
          · have dp : decide ((0 : Int) < z.hp) = true := decide_eq_true hp
            obtain ⟨g5, cap5, w5, r5, own5, k5, hat5⟩ := push_unit ownQ (by omega) (by omega) z
            have OWN5 := Lib.hid own5
            have K5 := Lib.hid k5
            have HAT := Lib.hid hat5
            have HP := Lib.hid hp
            clear own5 k5 hat5 ownQ hp
            go_wp2_with (at_builtin; refine list_run_append (by rfl) _ _ _ _ (by rfl) (by rfl) (by rfl) (by rfl) r5 ?_)
            go_roundw
            case rel =>
              have kk := K5.out
              obtain ⟨hl1, hl2, hl3⟩ := HSL.out
              have hn1 : leftF (hs.take (j + 1)) = leftF (hs.take j) ++ [z] := by rw [left_next HZA.out.2 HZA.out.1, if_pos HP.out]
              have hn2 : goneF (hs.take (j + 1)) = goneF (hs.take j) := by rw [gone_next HZA.out.2 HZA.out.1, if_pos HP.out]
              have g5' : GR w5 B S { goldG g old k with free := fl } born (.slice fa2 nf fc2) (.slice (some ⟨b, o, none⟩) k cu) bv := (GZ.out.call HQ.out).kp kk (fun e => by have := (LVB.out S e).1; omega) (fun c hc e => (HDIS.out c hc).1 e) (fun c hc e => by have h1 := (World.ownsRow.lt HH.out.us c hc).2; have := (LVB.out c e).1; omega) (fun c hc e => by have h1 := (World.ownsRow.lt HH.out.bo c hc).2; have := (LVB.out c e).1; omega)
              refine ⟨j + 1, by go_num, by omega, L + 1, _, by rw [hn1, List.length_append, HLL.out]; rfl, by rw [hn1]; exact OWN5.out, by rw [hn2, HFLE.out]; exact g5', fun c hc => ⟨fun e => ?_, (HDIS.out c hc).2⟩, (KLZ.out.call HQ.out).kp kk (fun e => by have := (LVB.out PL e).1; omega), (HBZ.out.trans (HQ.out.mono (by omega))).trans (kk.below (fun c hc => by have := (LVB.out c hc).1; omega) (by omega)), by have := kk.size; omega⟩
              have h2 : g5 = c := Option.some.inj (show some g5 = some c from e)
              rcases HAT.out with h | h
              · exact (HDIS.out c hc).1 (by rw [← h2]; exact h)
              · have h3 := (World.ownsRow.lt GZ.out.fr c hc).2; omega
            case measure => simp [intOf]; omega
          · have dp : decide ((0 : Int) < z.hp) = false := decide_eq_false hp
            have HP := Lib.hid hp
            have hn1 : leftF (hs.take (j + 1)) = leftF (hs.take j) := by rw [left_next HZA.out.2 HZA.out.1, if_neg hp]
            have hn2 : goneF (hs.take (j + 1)) = goneF (hs.take j) ++ [z.id] := by rw [gone_next HZA.out.2 HZA.out.1, if_neg hp]
            have HN1 := Lib.hid hn1
            have HN2 := Lib.hid hn2
            have OWNQ := Lib.hid ownQ
            obtain ⟨nw, hnw⟩ : ∃ v, g.new = v := ⟨_, rfl⟩
            have HNW := Lib.hid hnw
            rw [hnw] at c0Q
            clear hp hn1 hn2 ownQ hnw
            cases nw
            case true =>
              go_wp2_with fail
              go_roundw
              case rel =>
                refine ⟨j + 1, by go_num, by omega, L, .slice fa2 nf fc2, by rw [HN1.out]; exact HLL.out, by rw [HN1.out]; exact OWNQ.out, ?_, HDIS.out, KLZ.out.call HQ.out, HBZ.out.trans (HQ.out.mono (by omega)), by omega⟩
                have e : (if g.new then g.free else g.free ++ goneF (hs.take (j + 1))) = fl := by rw [← HFLE.out, if_pos HNW.out, if_pos HNW.out]
                rw [e]
                exact GZ.out.call HQ.out
              case measure => simp [intOf]; omega
            have hfr : Q.ownsRow B 3 1 (.slice fa2 nf fc2) nf (intCells fl) := by
              have h1 := (GZ.out.call HQ.out).fr
              dsimp only at h1
              rw [HNF.out] at h1
              exact h1
            have c5Q : Q.cell? ⟨S, 5, none⟩ = some (.slice fa2 nf fc2) := (GZ.out.call HQ.out).blk.cell 5
            have nS : ¬ (Value.slice fa2 nf fc2).ownBlock = some S := fun e => GZ.out.sf S e rfl
            have hlq : ∀ c, (Value.slice fa2 nf fc2).ownBlock = some c → c < wr.heap.size := fun c hc => (World.ownsRow.lt GZ.out.fr c hc).2
            have nU : ¬ (Value.slice fa2 nf fc2).ownBlock = some pu := fun e => by have := hlq pu e; omega
            obtain ⟨i1, hj0, hj1, hj2, hj3⟩ := info_parts infoInt
            haveI := Kw.ne (fun c => (Value.slice fa2 nf fc2).ownBlock = some c) Q
            have kx1 : ∀ x : Kw (fun c => (Value.slice fa2 nf fc2).ownBlock = some c) Q, x.w.cell? ⟨S, 5, none⟩ = some (.slice fa2 nf fc2) := fun x => (x.cell _ _ lSQ nS).trans c5Q
            have kx2 : ∀ (x : Kw (fun c => (Value.slice fa2 nf fc2).ownBlock = some c) Q) (o : Nat), x.w.cell? ⟨pu, o, none⟩ = Q.cell? ⟨pu, o, none⟩ := fun x o => x.cell _ _ lUQ nU
            have hnf3 : nf ≤ 100000 := by
              rw [← HNF.out, ← HFLE.out]
              have h1 := HG.out.unfree
              split
              · omega
              · rw [List.length_append]
                have h2 : (goneF (hs.take j)).length ≤ (hs.take j).length := by unfold goneF; rw [List.length_map]; exact List.length_filter_le _ _
                rw [List.length_take] at h2
                omega
            have HFR := Lib.hid hfr
            clear hfr
            go_upto_region 25 with fail
            refine region_mix 9 [(false, 0), (false, 1), (false, 2), (false, 3), (false, 4), (false, 5), (false, 6), (true, 7), (true, 8)] (kcl (fun c => (Value.slice fa2 nf fc2).ownBlock = some c) Q (fun x => x.ownsRow B 3 1 (.slice fa2 nf fc2) nf (intCells fl)) (fun x x' h hb => own_kp h (kp_of hb (fun _ => False)) (fun _ _ y => y))) ⟨Kp.drew _ _, HFR.out⟩ (by kernel_rfl) (by kernel_rfl) ?_
            simp only [stepsOf, List.filterMap_cons, List.filterMap_nil, List.getElem?_toArray, List.getElem?_cons_zero, List.getElem?_cons_succ, Option.map_some, List.drop_succ_cons, List.drop_zero]
            repeat (refine mix_readK (fun K hK => ?_); go_simp; refine hK _ ?_; clear hK K)
            refine mix_new (fun q => .slice (some ⟨q, 0, none⟩) 1 1) #[.int .i64 z.id] 3 rfl (fun x => by simp [go_sem]) (fun q => ?_)
            refine mix_append q #[.int .i64 z.id] 3 (.tmp 145) (.tmp 148) 87 rfl rfl B 3 i1 _ 1 8 Try.underlying87 hj0 hj1 hj2 hj3 rfl (by omega) (.slice fa2 nf fc2) nf (intCells fl) rfl rfl HFR.out rfl (by simp [Value.oneCell']) (by unfold maxLen; omega) (by omega) (by omega) (fun c => Iff.rfl) (fun x h => ⟨h.2.1, h.2.2.2⟩) (fun x _ h => h.1) (fun g2 cap2 => ?_)
            refine mix_nil ?_
            rintro w14 ⟨k14, own14, hgg⟩
            have own15 : w14.ownsRow B 3 1 (.slice (some ⟨g2, 0, none⟩) (nf + 1) cap2) (nf + 1) (intCells (fl ++ [z.id])) := by
              have e : intCells (fl ++ [z.id]) = intCells fl ++ [.int .i64 z.id] := by simp [intCells]
              rw [e]
              exact own14
            have hgz : GR Q B S { goldG g old k with free := fl } born (.slice fa2 nf fc2) (.slice (some ⟨b, o, none⟩) k cu) bv := GZ.out.call HQ.out
            have hG6 := hgz.growF k14 own15 (by rw [List.length_append, HNF.out]; rfl) hgg
            have c514 : w14.cell? ⟨S, 5, none⟩ = some (.slice fa2 nf fc2) := (k14.cell _ _ lSQ nS).trans c5Q
            have f514 : w14.frozen? ⟨S, 5, none⟩ = false := (k14.frozen _ _ lSQ nS).trans (hgz.blk.free 5)
            have HG6 := Lib.hid hG6
            have K14 := Lib.hid k14
            have HGG := Lib.hid hgg
            clear hG6 own14 own15 hgz hj0 hj1 hj2 hj3 kx1 kx2 hgg
            refine wpList_plain rfl (fun K hK => ?_); go_simp; refine hK _ _ ?_; clear hK K
            refine wpList_plain rfl (fun K hK => ?_); go_simp; refine hK _ _ ?_; clear hK K
            refine list_store1 S 5 (.slice (some ⟨g2, 0, none⟩) (nf + 1) cap2) 87 (.tmp 151) (.tmp 149) rfl rfl rfl rfl rfl (by rw [c514]; rfl) f514 rfl (by kernel_rfl) (fun Y => GR Y B S { goldG g old k with free := fl ++ [z.id] } born (.slice (some ⟨g2, 0, none⟩) (nf + 1) cap2) (.slice (some ⟨b, o, none⟩) k cu) bv ∧ Kp (fun c => (Value.slice fa2 nf fc2).ownBlock = some c ∨ c = S) Q Y) ⟨HG6.out, (K14.out.imp (fun c _ hc => Or.inl hc)).andset _ _ (Or.inr rfl)⟩ ?_
            rintro Y ⟨gY, kY⟩
            have GY := Lib.hid gY
            have KY := Lib.hid kY
            clear gY kY k14 c514 f514 c5Q
            go_wp2_with fail
            go_roundw
            case rel =>
              obtain ⟨hl1, hl2, hl3⟩ := HSL.out
              have hsy := KY.out.size
              have oY : Y.ownsRow wl.heap.size 130 11 (.slice la L lc) L (cellsAllN (leftF (hs.take j))) := own_kp OWNQ.out KY.out (fun c hc e => by
                rcases e with e | e
                · exact (HDIS.out c e).1 hc
                · have := (LVB.out c hc).1; omega)
              refine ⟨j + 1, by go_num, by omega, L, .slice (some ⟨g2, 0, none⟩) (nf + 1) cap2, by rw [HN1.out]; exact HLL.out, by rw [HN1.out]; exact oY, ?_, fun c hc => ?_, (KLZ.out.call HQ.out).kp KY.out (fun e => ?_), (HBZ.out.trans (HQ.out.mono (by omega))).trans (KY.out.below (fun c hc => ?_) (by omega)), by omega⟩
              · have e : (if g.new then g.free else g.free ++ goneF (hs.take (j + 1))) = fl ++ [z.id] := by rw [← HFLE.out, HNW.out, HN2.out]; simp
                rw [e]
                exact GY.out
              · have h2 : g2 = c := Option.some.inj (show some g2 = some c from hc)
                rcases HGG.out with h | h
                · rw [h2] at h
                  exact HDIS.out c h
                · refine ⟨fun e => ?_, by omega, Or.inr (by omega)⟩
                  have := (LVB.out c e).2; omega
              · rcases e with e | e
                · exact (HDIS.out PL e).2.1 rfl
                · omega
              · have h1 := HBS.out
                rcases hc with e | e
                · rcases (HDIS.out c e).2.2 with h | h
                  · exact (HFL.out c h).1
                  · omega
                · omega
            case measure => simp [intOf]; omega
        · obtain rfl : j = k := by omega
          have hth : hs.take j = hs := by rw [← HHL.out, List.take_length]
          obtain ⟨LF, hLF⟩ : ∃ x, leftF hs = x := ⟨_, rfl⟩
          have hown := OWN.out
          rw [hth, hLF] at hown
          have hll := HLL.out
          rw [hth, hLF] at hll
          obtain ⟨g3, hg3⟩ : ∃ v : G, { goldG g old j with free := fl } = v := ⟨_, rfl⟩
          have hgz := GZ.out
          rw [hg3] at hgz
          obtain ⟨hl1, hl2, hl3⟩ := HSL.out
          have hBl : B ≤ wl.heap.size := by omega
          have hU := hgz.setU (us := LF) (by rw [hll]; exact own_base hown hBl) (fun c hc => ⟨by have := (LVB.out c hc).1; omega, fun e => (HDIS.out c e).1 hc, fun e => by have h1 := (World.ownsRow.lt HH.out.bo c e).2; have := (LVB.out c hc).1; omega⟩)
          have hB4 : Below B w (wr.setCell ⟨S, 6, none⟩ (.slice la L lc)) := HBZ.out.setCell HBS.out _
          have f6 := hgz.blk.free
          have hHU := Lib.hid hU
          have hHB4 := Lib.hid hB4
          have HLF := Lib.hid hLF
          have HG3 := Lib.hid hg3
          have HLLF := Lib.hid hll
          have HTK : Hid (0 ≤ g3.tick ∧ g3.tick ≤ 60) := Lib.hid (by
            rw [← hg3]
            have h1 := HG.out.head
            unfold headBad at h1
            show 0 ≤ g.tick ∧ g.tick ≤ 60
            omega)
          clear hth hown hll hgz hU hB4 hLF hg3
          go_upto_region 27 with fail
          refine gen_world (fun V => GR V B S { g3 with us := LF } born (.slice fa2 nf fc2) (.slice la L lc) bv ∧ Below B w V) ⟨hHU.out, hHB4.out⟩ ?_
          rintro V ⟨gV, bV⟩
          have GV := Lib.hid gV
          have BV := Lib.hid bV
          clear gV bV f6 c6 c0
          go_wp2_with fail
          obtain ⟨wo, rfl⟩ : ∃ x, x = wr := ⟨_, rfl⟩
          go_loopw [17] (fun iv wz => ∃ i : Nat, iv = .int .i64 i ∧ i ≤ L ∧ (GR wz B S { g3 with us := doneU (idleF LF) LF i } born (.slice fa2 nf fc2) (.slice la L lc) bv ∧ Below B w wz)) (fun iv _ => (L - intOf iv).toNat)
          case atStart => exact ⟨0, rfl, by omega, by rw [done_zero]; exact GV.out, BV.out⟩
          case round =>
            obtain ⟨i, rfl, hi, gr, hb⟩ := hrel
            have hii : (0 : Int) ≤ (i : Int) := by omega
            have hll3 : (doneU (idleF LF) LF i).length = L := by rw [done_length, HLLF.out]
            have hRr : Reads wr S g3.new (doneU (idleF LF) LF i) la L lc := GR.reads (g := { g3 with us := doneU (idleF LF) LF i }) gr hll3 (by omega)
            have c6 := hRr.c6
            have lSr := hRr.lt
            have GRI := Lib.hid gr
            have HBI := Lib.hid hb
            have HRI := Lib.hid hRr
            have HL3 := Lib.hid hll3
            clear gr hb hRr hll3
            have hidi : ∀ v ∈ LF, (idleF LF v).id = v.id := fun v _ => by unfold idleF; split <;> rfl
            by_cases hlt : i < L
            · have hil : (i : Int) < (L : Int) := by omega
              have hlf : i < LF.length := by have := HLLF.out; omega
              obtain ⟨u, hu⟩ : ∃ u, LF.getD i zeroU = u := ⟨_, rfl⟩
              have hda := done_at (f := idleF LF) hlf
              rw [hu] at hda
              obtain ⟨b, o, rfl, hbB, q0, q1, q2, q3, q4, q5, q6, q7, q8, q9, q10⟩ := HRI.out.row.getN i (by have := HL3.out; omega) u hda
              have hdn := done_next (f := idleF LF) hlf
              rw [hu] at hdn
              have HDN := Lib.hid hdn
              have HDA := Lib.hid hda
              have HLFI := Lib.hid hlf
              have hget : (doneU (idleF LF) LF i)[i]? = some u := by
                have h1 : i < (doneU (idleF LF) LF i).length := by rw [HL3.out]; exact hlt
                rw [List.getElem?_eq_getElem h1, ← getD_lt h1, hda]
              have HGET := Lib.hid hget
              have HSKIP : Hid (idleF LF u = u → GR wr B S { g3 with us := doneU (idleF LF) LF (i + 1) } born (.slice fa2 nf fc2) (.slice (some ⟨b, o, none⟩) L lc) bv) := Lib.hid (fun e => by
                rw [HDN.out, e]
                have h1 : (doneU (idleF LF) LF i).set i u = doneU (idleF LF) LF i := by
                  refine List.ext_getElem? (fun x => ?_)
                  rw [List.getElem?_set]
                  by_cases hx : i = x
                  · subst hx
                    rw [if_pos rfl, HGET.out, if_pos (by have := HL3.out; omega)]
                  · rw [if_neg hx]
                rw [h1]
                exact GRI.out)
              clear hu hda hdn hlf hget q0 q1 q2 q3 q4 q5 q6 q7 q8 q10
              by_cases ht : 0 < u.target
              case neg =>
                have d1 : decide ((0 : Int) < u.target) = false := decide_eq_false ht
                have HT := Lib.hid ht
                clear ht
                go_wp2_with fail
                go_roundw
                case rel => exact ⟨i + 1, by go_num, by omega, HSKIP.out (by unfold idleF; rw [if_neg (fun h => by have h1 := HT.out; have h2 := h.1; omega)]), HBI.out⟩
                case measure => simp [intOf]; omega
              have d1 : decide ((0 : Int) < u.target) = true := decide_eq_true ht
              have hWHO := HRI.out.who u.target ⟨wr, Below.refl _ _⟩
              dsimp only at hWHO
              rw [ix_ids (done_id hidi i) u.target] at hWHO
              obtain ⟨IX, hIX⟩ : ∃ x, ixOf LF u.target = x := ⟨_, rfl⟩
              rw [hIX] at hWHO
              have HIX := Lib.hid hIX
              have HWHO := Lib.hid hWHO
              have HT := Lib.hid ht
              clear ht hIX hWHO
              go_wp2_with fail
              refine HWHO.out.mono ?_
              rintro e w' ⟨rfl, rfl⟩
              by_cases hx : IX < 0
              case neg =>
                have d2 : decide (IX < 0) = false := decide_eq_false hx
                have HX := Lib.hid hx
                clear hx
                go_wp2_with fail
                go_roundw
                case rel => exact ⟨i + 1, by go_num, by omega, HSKIP.out (by unfold idleF; rw [HIX.out, if_neg (fun h => by have h1 := HX.out; have h2 := h.2; omega)]), HBI.out⟩
                case measure => simp [intOf]; omega
              have d2 : decide (IX < 0) = true := decide_eq_true hx
              have HX := Lib.hid hx
              clear hx
              have hTELL := reftell_any B S { g3 with us := doneU (idleF LF) LF i } born _ _ bv i u 0 0 0 0 wr GRI.out HGET.out
              have HTELL := Lib.hid hTELL
              clear hTELL
              go_wp2_with fail
              refine HTELL.out.mono ?_
              rintro e w5 ⟨rfl, g5, k5⟩
              have G5 := Lib.hid g5
              have K5 := Lib.hid k5
              clear g5 k5
              go_wp2_with fail
              go_roundw
              case rel =>
                refine ⟨i + 1, by go_num, by omega, ?_, HBI.out.trans (K5.out.below (fun c hc => by have := (World.ownsRow.lt GRI.out.us c hc).1; exact this) (by have := HBI.out.size; omega))⟩
                rw [HDN.out]
                have e : idleF LF u = tellU u 0 0 0 0 := by unfold idleF; rw [HIX.out, if_pos ⟨HT.out, HX.out⟩]
                rw [e]
                exact G5.out
              case measure => simp [intOf]; omega
            · obtain rfl : i = L := by omega
              have hda := done_all (idleF LF) LF
              rw [HLLF.out] at hda
              have gE := GRI.out
              rw [hda] at gE
              obtain ⟨ht1, ht2⟩ := HTK.out
              have c1 : wr.cell? ⟨S, 1, none⟩ = some (.int .i64 g3.tick) := gE.blk.cell 1
              have f1 := gE.blk.free 1
              have hT := gE.setTick (g3.tick + 1)
              have HTT := Lib.hid hT
              clear hda gE hT
              go_wp2_with fail
              go_end0
              have e : toilF g old = { g3 with tick := g3.tick + 1, us := LF.map (idleF LF) } := by
                rw [← HG3.out, ← HLF.out, ← HFLE.out]
                have hth : hs.take j = hs := by rw [← HHL.out, List.take_length]
                rw [hth, ← HHS.out]
                unfold toilF goldG
                have e1 := gainK_all g.new old g.us 0 g.g0
                have e2 := gainK_all g.new old g.us 1 g.g1
                rw [HM.out] at e1 e2
                rw [e1, e2]
              rw [e]
              exact ⟨rfl, HBI.out.setCell HBS.out _, _, _, HTT.out⟩
end Go.Proofs.Ytlfljlhppigejaa
