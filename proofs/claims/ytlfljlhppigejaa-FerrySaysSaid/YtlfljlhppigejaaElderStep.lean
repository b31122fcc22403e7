/-
  The walk of elder.Step.
-/
import Derived.Test.YtlfljlhppigejaaElderBury
import Derived.Test.YtlfljlhppigejaaElderCheck
import Derived.Test.YtlfljlhppigejaaPackMix
import Derived.Test.YtlfljlhppigejaaCmdRow
namespace Go.Proofs.Ytlfljlhppigejaa
open Go.RowKit
attribute [local go_sem] qOne qAt qUp qOneK

theorem ret_cell3 {P : Program} {fn : Func} {s t u : Tmp} {ty : TypeId} (h : fn.results = #[.cell s ty, .tmp t, .tmp u]) {tmps : Array Value} {W : World} {p : Nat} {c : Array Value} {d : TypeDesc} {v1 v2 : Value} (hs : tmps.getD s undef = .pointer (some ⟨p, 0, none⟩)) (h1 : tmps.getD t undef = v1) (h2 : tmps.getD u undef = v2)
    (hk : Blk W p c) (hu : P.underlying ty = some d) (hd : d.isRow = true) (hi : (P.info? ty).map (·.size) = some c.size) : (results fn tmps).run P W = .ok (.tuple #[.agg c, v1, v2]) W := by
  have hr : W.rangeAt p 0 c.toList := fun j x hx => by
    rw [Nat.zero_add, hk.cell j]
    simpa using hx
  have hp' : tmps[s]?.getD undef = .pointer (some ⟨p, 0, none⟩) := by simpa using hs
  have h1' : tmps[t]?.getD undef = v1 := by simpa using h1
  have h2' : tmps[u]?.getD undef = v2 := by simpa using h2
  have h3 := run_loadVar_mid W p 0 ty c.toList d hr hu hd (by simpa using hi)
  simp [results, h, hp', h1', h2', asAddr, h3, Sem.run_bind, Result.andThen]

/-- What a step hands back. -/
def StepEnd (g : G) (cs : List Cm) (w : World) (e : Ending) (w' : World) : Prop :=
  Below w.heap.size w w' ∧ ((stepFault g cs ≠ 0 ∧ e = .returned (.tuple #[.agg #[.int .i64 0, .int .i64 0, .int .i64 0, .int .i64 0, .slice none 0 0, .slice none 0 0], .slice none 0 0, errV (stepFault g cs)])) ∨
    (stepFault g cs = 0 ∧ ∃ fv ev bv, e = .returned (.tuple #[.agg #[.int .i64 (stepE g cs).1.tick, .int .i64 (stepE g cs).1.g0, .int .i64 (stepE g cs).1.g1, .int .i64 (stepE g cs).1.next, fv, ev], bv, .nilIface]) ∧
      w'.ownsRow w.heap.size 3 1 fv (stepE g cs).1.free.length (intCells (stepE g cs).1.free) ∧ w'.ownsRow w.heap.size 179 10 ev (stepE g cs).1.us.length (cellsAll (stepE g cs).1.us) ∧ w'.ownsRow w.heap.size 3 1 bv (stepE g cs).2.length (intCells (stepE g cs).2)))

set_option maxHeartbeats 12800000 in
set_option maxRecDepth 100000 in
theorem step_any (g : G) (fa ua la : Option Addr) (cf cu cl : Nat) (hnew : g.new = false) (hcf : g.free.length ≤ 9223372036854775807) (hcu : g.us.length ≤ 9223372036854775807) (cs : List Cm) (hcl : cs.length ≤ 9223372036854775807) (w : World)
    (hf : Row w.heap.size w fa g.free.length (fun k => .int .i64 (g.free.getD k 0))) (hu : URow false w.heap.size w ua g.us) (hc : CRow w.heap.size w la cs) (hfit : ∀ n ∈ g.free, Fits64 n) :
    Calls Try.prog 56 #[.agg #[.int .i64 g.tick, .int .i64 g.g0, .int .i64 g.g1, .int .i64 g.next, .slice fa g.free.length cf, .slice ua g.us.length cu], .slice la cs.length cl] w (StepEnd g cs w) := by
  obtain ⟨W, hW⟩ : ∃ W, (w.alloc (.cells #[.int .i64 g.tick, .int .i64 g.g0, .int .i64 g.g1, .int .i64 g.next, .slice fa g.free.length cf, .slice ua g.us.length cu] 90)).alloc (.cells #[.int .i64 0, .int .i64 0, .int .i64 0, .int .i64 0, .slice none 0 0, .slice none 0 0] 90) = W := ⟨_, rfl⟩
  have hbW : Below w.heap.size w W := by rw [← hW]; exact ((Below.refl _ _).alloc (Nat.le_refl _) _).alloc (by simp) _
  have k1 : Blk W w.heap.size #[.int .i64 g.tick, .int .i64 g.g0, .int .i64 g.g1, .int .i64 g.next, .slice fa g.free.length cf, .slice ua g.us.length cu] := by rw [← hW]; exact (Blk.new w _ _).alloc _
  have k2 : Blk W (w.heap.size + 1) #[.int .i64 0, .int .i64 0, .int .i64 0, .int .i64 0, .slice none 0 0, .slice none 0 0] := by
    rw [← hW]
    have := Blk.new (w.alloc (.cells #[.int .i64 g.tick, .int .i64 g.g0, .int .i64 g.g1, .int .i64 g.next, .slice fa g.free.length cf, .slice ua g.us.length cu] 90)) #[.int .i64 0, .int .i64 0, .int .i64 0, .int .i64 0, .slice none 0 0, .slice none 0 0] 90
    simpa using this
  have HF := Lib.hid hf
  have HU := Lib.hid hu
  have HC := Lib.hid hc
  have HFIT := Lib.hid hfit
  have HNEW := Lib.hid hnew
  have HW := Lib.hid hbW
  have K1 := Lib.hid k1
  have K2 := Lib.hid k2
  have hszW := hbW.size
  obtain ⟨l1, c1, -⟩ := id k1
  clear hf hu hc hfit hnew hbW k1 k2
  go_enter Try.func56, Try.ntmps56
  go_wp2_with fail
  refine (check_any g fa ua g.free.length cf g.us.length cu HNEW.out rfl rfl hcf hcu _ ((HF.out.below HW.out).mono hszW) ((HU.out.below HW.out).mono hszW) HFIT.out).mono ?_
  rintro e w1 ⟨rfl, b1⟩
  have k11 := K1.out.call b1
  have k21 := K2.out.call b1
  have HB1 : Hid (Below w.heap.size w w1) := Lib.hid (HW.out.trans (b1.mono hszW))
  obtain ⟨l11, c11, -⟩ := id k11
  obtain ⟨l21, c21, f21⟩ := id k21
  have K11 := Lib.hid k11
  have K21 := Lib.hid k21
  clear b1 k11 k21 c1 l1
  by_cases hfault : faultOf g = 0
  case neg =>
    rw [errV_pos _ hfault]
    have HFA := Lib.hid hfault
    clear hfault
    have HSF : Hid (stepFault g cs = faultOf g) := Lib.hid (by show _ = _; unfold stepFault; rw [if_pos HFA.out])
    go_wp2_with fail
    refine bodyPost_ret (v := .tuple #[.agg #[.int .i64 0, .int .i64 0, .int .i64 0, .int .i64 0, .slice none 0 0, .slice none 0 0], .slice none 0 0, .iface 148 (.int .i64 (faultOf g : Nat))]) (ret_cell3 Try.results56 rfl rfl rfl (K21.out.store6 rfl (.int .i64 0) (.int .i64 0) (.int .i64 0) (.int .i64 0) (.slice none 0 0) (.slice none 0 0)) Try.underlying90 rfl infoElder) rfl ?_
    refine ⟨?_, Or.inl ⟨by rw [HSF.out]; exact HFA.out, by rw [HSF.out, errV_pos _ (HFA.out)]⟩⟩
    iterate 6 (refine Below.setCell ?_ (by simp) _)
    exact HB1.out
  rw [hfault, errV_zero]
  have HFA := Lib.hid hfault
  have hg := (right_iff g).1 hfault
  have HG := Lib.hid hg
  have hfew := hg.few
  have hunf := hg.unfree
  clear hfault hg
  by_cases m8 : 8 < cs.length
  · have d8 : decide ((8 : Int) < (cs.length : Int)) = true := decide_eq_true (by omega)
    have HSF : Hid (stepFault g cs = 2) := Lib.hid (by show _ = _; unfold stepFault; rw [if_neg (by rw [HFA.out]; simp), if_pos (Or.inl m8)])
    go_wp2_with fail
    refine bodyPost_ret (v := .tuple #[.agg #[.int .i64 0, .int .i64 0, .int .i64 0, .int .i64 0, .slice none 0 0, .slice none 0 0], .slice none 0 0, .iface 148 (.int .i64 2)]) (ret_cell3 Try.results56 rfl rfl rfl (K21.out.store6 rfl (.int .i64 0) (.int .i64 0) (.int .i64 0) (.int .i64 0) (.slice none 0 0) (.slice none 0 0)) Try.underlying90 rfl infoElder) rfl ?_
    refine ⟨?_, Or.inl ⟨by rw [HSF.out]; decide, by rw [HSF.out, errV_pos _ (by decide)]; try rfl⟩⟩
    iterate 6 (refine Below.setCell ?_ (by simp) _)
    exact HB1.out
  have d8 : decide ((8 : Int) < (cs.length : Int)) = false := decide_eq_false (by omega)
  by_cases t60 : g.tick = 60
  · have d60 : (g.tick == 60) = true := by simp [t60]
    have HSF : Hid (stepFault g cs = 2) := Lib.hid (by show _ = _; unfold stepFault; rw [if_neg (by rw [HFA.out]; simp), if_pos (Or.inr t60)])
    clear t60
    go_wp2_with fail
    refine bodyPost_ret (v := .tuple #[.agg #[.int .i64 0, .int .i64 0, .int .i64 0, .int .i64 0, .slice none 0 0, .slice none 0 0], .slice none 0 0, .iface 148 (.int .i64 2)]) (ret_cell3 Try.results56 rfl rfl rfl (K21.out.store6 rfl (.int .i64 0) (.int .i64 0) (.int .i64 0) (.int .i64 0) (.slice none 0 0) (.slice none 0 0)) Try.underlying90 rfl infoElder) rfl ?_
    refine ⟨?_, Or.inl ⟨by rw [HSF.out]; decide, by rw [HSF.out, errV_pos _ (by decide)]; try rfl⟩⟩
    iterate 6 (refine Below.setCell ?_ (by simp) _)
    exact HB1.out
  have d60 : (g.tick == 60) = false := by simp [t60]
  have HSF : Hid (stepFault g cs = 0) := Lib.hid (by show _ = _; unfold stepFault; rw [if_neg (by rw [HFA.out]; simp), if_neg (by rintro (h | h); omega; exact t60 h)])
  have HT60 := Lib.hid t60
  clear t60
  have hs1 := HB1.out.size
  have l2w1 : w.heap.size + 1 < w1.heap.size := K21.out.lt
  have HF1 := Lib.hid ((HF.out.below HB1.out).mono hs1)
  have HU1 := Lib.hid ((HU.out.below HB1.out).mono hs1)
  have HC1 := Lib.hid (HC.out.below HB1.out)
  go_wp2_with fail
  refine (own_any g.tick g.g0 g.g1 g.next g.free fa g.free.length cf rfl (by omega) g.us ua g.us.length cu rfl (by omega) w1 HF1.out HU1.out).mono ?_
  rintro e w2 ⟨fv0, ev0, rfl, b2, of0, oe0, hfe0⟩
  obtain ⟨fva, fvc, rfl⟩ := own_slice of0
  obtain ⟨eva, evc, rfl⟩ := own_slice oe0
  have hs2 := b2.size
  have OF0 := Lib.hid of0
  have OE0 := Lib.hid oe0
  have HFE0 := Lib.hid hfe0
  have B2 := Lib.hid b2
  have K12 := Lib.hid (K11.out.call b2)
  have K22 := Lib.hid (K21.out.call b2)
  obtain ⟨l12, c12, -⟩ := id K12.out
  have hmm := @run_makeMap Try.prog
  clear of0 oe0 hfe0 b2 c11 c21 f21 l11 l21 d8 d60
  go_upto_region 8 with fail
  have hbx : Below w2.heap.size w2 ((w2.alloc (.cells #[.int .i64 g.tick, .int .i64 g.g0, .int .i64 g.g1, .int .i64 g.next, .slice fva g.free.length fvc, .slice eva g.us.length evc, .slice none 0 0] 182)).alloc (.map #[] 0)) := ((Below.refl _ _).alloc (Nat.le_refl _) _).alloc (by simp) _
  have HBX := Lib.hid hbx
  clear hbx
  refine gen_world (fun V => GE V w1.heap.size w2.heap.size g [] (.slice fva g.free.length fvc) (.slice eva g.us.length evc) (.slice none 0 0) ∧ Below w1.heap.size w1 V ∧ IM V (w2.heap.size + 1) 0 0 (fun _ => none) ∧ Blk V w.heap.size #[.int .i64 g.tick, .int .i64 g.g0, .int .i64 g.g1, .int .i64 g.next, .slice fa g.free.length cf, .slice ua g.us.length cu] ∧ Blk V (w.heap.size + 1) #[.int .i64 0, .int .i64 0, .int .i64 0, .int .i64 0, .slice none 0 0, .slice none 0 0]) ⟨⟨?_, hs2, own_kp OF0.out (kp_of HBX.out (fun _ => False)) (fun _ _ x => x), own_kp OE0.out (kp_of HBX.out (fun _ => False)) (fun _ _ x => x), World.ownsRow_nil _ _ _ _, fun b hb => ?_, fun b hb => ?_, fun b hb => (by cases hb), HFE0.out, fun b _ e => (by cases e), fun b _ e => (by cases e)⟩, B2.out.trans (HBX.out.mono hs2), ?_, K12.out.call HBX.out, K22.out.call HBX.out⟩ ?_
  · exact (Blk.new w2 #[.int .i64 g.tick, .int .i64 g.g0, .int .i64 g.g1, .int .i64 g.next, .slice fva g.free.length fvc, .slice eva g.us.length evc, .slice none 0 0] 182).alloc _
  · have := (World.ownsRow.lt OF0.out b hb).2; omega
  · have := (World.ownsRow.lt OE0.out b hb).2; omega
  · have := MapOf.new (P := Try.prog) (k := 3) (emb := Value.int .i64) (ok := fun a => (Lit.int .i64 a).wf = true) (w2.alloc (.cells #[.int .i64 g.tick, .int .i64 g.g0, .int .i64 g.g1, .int .i64 g.next, .slice fva g.free.length fvc, .slice eva g.us.length evc, .slice none 0 0] 182))
    simpa using this
  rintro V ⟨geV, bV, mV, k1V, k2V⟩
  obtain ⟨l1V, c1V, -⟩ := id k1V
  have hMV := mV.lt
  have hrV : URow false w.heap.size V ua g.us := HU.out.below (HB1.out.trans (bV.mono hs1))
  have GEV := Lib.hid geV
  have BV := Lib.hid bV
  have MV := Lib.hid mV
  have K1V := Lib.hid k1V
  have K2V := Lib.hid k2V
  have HRV := Lib.hid hrV
  have hszV := bV.size
  have hn0 : (0 : Int) ≤ (g.us.length : Int) := by omega
  have HFB : Hid (∀ b, (Value.slice fva g.free.length fvc).ownBlock = some b → b < w2.heap.size) := Lib.hid (fun b hb => (World.ownsRow.lt OF0.out b hb).2)
  have HEB : Hid (∀ b, (Value.slice eva g.us.length evc).ownBlock = some b → b < w2.heap.size) := Lib.hid (fun b hb => (World.ownsRow.lt OE0.out b hb).2)
  clear geV bV mV k1V k2V hrV OF0 OE0 HFE0 B2 K12 K22 l12 c12
  go_wp2_with fail
  go_loopw [38] (fun a wr => ∃ k : Nat, a = .int .i64 k ∧ k ≤ g.us.length ∧ (Kp (fun b => b = w2.heap.size + 1) V wr ∧ ∃ n1 s1, n1 ≤ k ∧ IM wr (w2.heap.size + 1) n1 s1 (oldF (idList (g.us.take k))))) (fun a _ => (g.us.length - intOf a).toNat)
  case atStart => exact ⟨0, rfl, by omega, Kp.refl _ _, 0, 0, Nat.le_refl _, MV.out.fn (fun id => (by simp [oldF, idList])) rfl⟩
  case round =>
    obtain ⟨k, rfl, hk, hX⟩ := hrel
    have HX := Lib.hid hX
    clear hX
    by_cases hlt : k < g.us.length
    · obtain ⟨u, hu⟩ : ∃ u, g.us.getD k zeroU = u := ⟨_, rfl⟩
      have hum : u ∈ g.us := by rw [← hu, getD_lt hlt]; exact List.getElem_mem hlt
      obtain ⟨kpr, n1, s1, hn1, hm1⟩ := HX.out
      have hszr := kpr.size
      obtain ⟨b, o, hua, hbB, q0, q1, q2, q3, q4, q5, q6, q7, q8, q9⟩ := HRV.out.getE k hlt u hu
      subst hua
      have hbV : b < V.heap.size := by omega
      have hbM : ¬ b = w2.heap.size + 1 := by omega
      have hc := fun (j : Nat) => kpr.cell b j hbV hbM
      rw [← hc] at q0 q1 q2 q3 q4 q5 q6 q7 q8 q9
      have hbr : b < wr.heap.size := by omega
      have hwf : (Lit.int .i64 u.id).wf = true := by
        have ho := HG.out.ok hum
        have h1 := ho.idT
        have h2 := ho.id1
        rw [HNEW.out] at h1
        exact wf_int (by have : topOf false = 200 := rfl; omega)
      have hbA : Below wr.heap.size wr (wr.alloc (.cells #[.int .i64 u.id, .int .i64 u.owner, .int .i64 u.kind, .int .i64 u.x, .int .i64 u.y, .int .i64 u.hp, .int .i64 u.does, .int .i64 u.gx, .int .i64 u.gy, .int .i64 u.target] 179)) := (Below.refl _ _).alloc (Nat.le_refl _) _
      obtain ⟨y, ry, my, ty⟩ := (hm1.call hbA).put (intKeys (by kernel_rfl)) (t := 183) (e := 4) (by kernel_rfl) (by unfold maxLen; omega) u.id hwf (.bool true)
      have kpy := (kpr.then_ hbA).trans ((Kp.turned ty).imp (Y := fun c => c = w2.heap.size + 1) (fun c _ hc => hc)) (fun _ _ h => h)
      have hki : (0 : Int) ≤ (k : Int) := by omega
      have hkl : (k : Int) < (g.us.length : Int) := by omega
      have HU' := Lib.hid hu
      have MY := Lib.hid my
      have KPY := Lib.hid kpy
      clear hu hum kpr hm1 hc hwf hbA my ty kpy
      go_wp2_with fail
      go_roundw
      case rel =>
        refine ⟨k + 1, by go_num, by omega, KPY.out, n1 + 1, _, by omega, MY.out.fn (fun id => ?_) rfl⟩
        unfold oldF
        rw [take_at hlt, HU'.out]
        unfold idList
        rw [List.map_append]
        by_cases e : id = u.id
        · rw [if_pos e, if_pos (by rw [e]; simp)]
        · rw [if_neg e]
          have : ((g.us.take k).map U.id ++ [u].map U.id).contains id = ((g.us.take k).map U.id).contains id := by
            simp [e]
          rw [this]
      case measure => simp [intOf]; omega
    · obtain rfl : k = g.us.length := by omega
      obtain ⟨kpr, n1, s1, hn1, hm1⟩ := HX.out
      rw [List.take_length] at hm1
      have hMX := kpr.size
      go_upto_region 13 with fail
      refine gen_world (fun R => GE R w1.heap.size w2.heap.size g [] (.slice fva g.free.length fvc) (.slice eva g.us.length evc) (.slice none 0 0) ∧ Below w1.heap.size w1 R ∧ IM R (w2.heap.size + 1) n1 s1 (oldF (idList g.us)) ∧ Blk R (w.heap.size + 1) #[.int .i64 0, .int .i64 0, .int .i64 0, .int .i64 0, .slice none 0 0, .slice none 0 0]) ⟨GEV.out.kp kpr (by omega) (fun b hb e => (by have h8 : b = w2.heap.size + 1 := e; have h9 := HFB.out b hb; omega)) (fun b hb e => (by have h8 : b = w2.heap.size + 1 := e; have h9 := HEB.out b hb; omega)) (fun b hb => (by cases hb)), BV.out.trans (kpr.below (fun b hb => (by have h8 : b = w2.heap.size + 1 := hb; omega)) (by have := BV.out.size; omega)), hm1, K2V.out.kp kpr (by have := GEV.out.base; omega)⟩ ?_
      rintro R ⟨geR, bR, mR, k2R⟩
      clear kpr hm1 HX hlt
      have hszR := bR.size
      have lSR := geR.blk.lt
      have GER := Lib.hid geR
      have BR := Lib.hid bR
      have MR := Lib.hid mR
      have K2R := Lib.hid k2R
      have hMR := mR.lt
      have l2R := k2R.lt
      have hcR : CRow w.heap.size R la cs := HC.out.below (HB1.out.trans (bR.mono hs1))
      have HCR := Lib.hid hcR
      obtain ⟨X, hXd⟩ : ∃ X : Nat → Prop, X = fun b => (b = w2.heap.size ∨ (Value.slice fva g.free.length fvc).ownBlock = some b ∨ (Value.slice eva g.us.length evc).ownBlock = some b) ∨ R.heap.size ≤ b := ⟨_, rfl⟩
      have hXlo : ∀ b, X b → w1.heap.size ≤ b := by
        intro b hb
        rw [hXd] at hb
        rcases hb with (h | h | h) | h
        · omega
        · exact (World.ownsRow.lt GER.out.fr b h).1
        · exact (World.ownsRow.lt GER.out.us b h).1
        · omega
      have hXM : ¬ X (w2.heap.size + 1) := by
        intro hb
        rw [hXd] at hb
        rcases hb with (h | h | h) | h
        · omega
        · have := HFB.out _ h; omega
        · have := HEB.out _ h; omega
        · omega
      have hXn : ∀ b, R.heap.size ≤ b → X b := fun b hb => by rw [hXd]; exact Or.inr hb
      have hX0 : InX X w2.heap.size (.slice fva g.free.length fvc) (.slice eva g.us.length evc) (.slice none 0 0) := ⟨by rw [hXd]; exact Or.inl (Or.inl rfl), fun b hb => by rw [hXd]; exact Or.inl (Or.inr (Or.inl hb)), fun b hb => by rw [hXd]; exact Or.inl (Or.inr (Or.inr hb)), fun b hb => by cases hb⟩
      have HXLO := Lib.hid hXlo
      have HXM := Lib.hid hXM
      have HXN := Lib.hid hXn
      have HX0 := Lib.hid hX0
      have hl0 : (0 : Int) ≤ (cs.length : Int) := by omega
      have hT0 := Track.start HG.out (fun h => by rw [HNEW.out] at h; cases h)
      have HT0 := Lib.hid hT0
      clear geR bR mR k2R hcR hXd hXlo hXM hXn hX0 hT0
      go_wp2_with fail
      go_loopw [48] (fun a wx => ∃ k : Nat, a = .int .i64 k ∧ k ≤ cs.length ∧ ((∃ fv ev bv, GE wx w1.heap.size w2.heap.size ((cs.take k).foldl cmdF (g, [])).1 ((cs.take k).foldl cmdF (g, [])).2 fv ev bv ∧ InX X w2.heap.size fv ev bv) ∧ Kp X R wx)) (fun a _ => (cs.length - intOf a).toNat)
      case atStart => exact ⟨0, rfl, by omega, ⟨_, _, _, GER.out, HX0.out⟩, Kp.refl _ _⟩
      case round =>
        obtain ⟨k, rfl, hk, hY⟩ := hrel
        have HY := Lib.hid hY
        clear hY
        by_cases hlt : k < cs.length
        · obtain ⟨c, hc⟩ : ∃ c, cs.getD k zeroC = c := ⟨_, rfl⟩
          obtain ⟨⟨fv, ev, bv, geY, inY⟩, kpY⟩ := HY.out
          obtain ⟨s, hs⟩ : ∃ s, (cs.take k).foldl cmdF (g, []) = s := ⟨_, rfl⟩
          rw [hs] at geY
          have T : Track g s := by rw [← hs]; exact HT0.out.cmds _
          have hsn : (cs.take (k + 1)).foldl cmdF (g, []) = cmdF s c := by
            have : cs.take (k + 1) = cs.take k ++ [c] := by
              rw [List.take_succ_eq_append_getElem hlt, ← hc]
              simp [List.getD, hlt]
            rw [this, List.foldl_append, hs]
            rfl
          obtain ⟨b, o, hla, hbB, q0, q1, q2, q3, q4, q5, q6⟩ := HCR.out.get k hlt c hc
          subst hla
          have hszY := kpY.size
          have hbX : ¬ X b := fun h => by have := HXLO.out b h; omega
          have hcc := fun (j : Nat) => kpY.cell b j (by omega) hbX
          rw [← hcc] at q0 q1 q2 q3 q4 q5 q6
          have hbr : b < wr.heap.size := by omega
          have hki : (0 : Int) ≤ (k : Int) := by omega
          have hkl : (k : Int) < (cs.length : Int) := by omega
          have hbA : Below wr.heap.size wr (wr.alloc (.cells #[.int .i64 c.player, .int .i64 c.op, .int .i64 c.id, .int .i64 c.kind, .int .i64 c.x, .int .i64 c.y, .int .i64 c.target] 99)) := (Below.refl _ _).alloc (Nat.le_refl _) _
          have hmany := T.many
          have hfew2 := T.going.right.few
          have GEA := Lib.hid (geY.call hbA)
          have INY := Lib.hid inY
          have KPA := Lib.hid (kpY.then_ hbA)
          have HTT := Lib.hid T
          have HSN := Lib.hid hsn
          have hszA := hbA.size
          clear hc geY inY kpY hs T hsn hcc hbA hbX HY
          go_wp2_with fail
          refine (command_any _ w1.heap.size w2.heap.size s.1 s.2 fv ev bv GEA.out (by omega) HTT.out.going.right (HTT.out.going.new.trans HNEW.out) (by omega) c X INY.out (fun b hb => HXN.out b (by omega))).mono ?_
          rintro e w6 ⟨rfl, k6, f6, e6, v6, ge6, x6⟩
          have K6 := Lib.hid (KPA.out.trans k6 (fun _ _ h => h))
          have G6 := Lib.hid ge6
          have X6 := Lib.hid x6
          clear k6 ge6 x6 q0 q1 q2 q3 q4 q5 q6
          go_wp2_with fail
          go_roundw
          case rel =>
            refine ⟨k + 1, by go_num, by omega, ?_, K6.out⟩
            rw [HSN.out]
            exact ⟨f6, e6, v6, G6.out, X6.out⟩
          case measure => simp [intOf]; omega
        · obtain rfl : k = cs.length := by omega
          obtain ⟨⟨fv, ev, bv, geY, inY⟩, kpY⟩ := HY.out
          rw [List.take_length] at geY
          obtain ⟨s, hs⟩ : ∃ s, cs.foldl cmdF (g, []) = s := ⟨_, rfl⟩
          rw [hs] at geY
          have T : Track g s := by rw [← hs]; exact HT0.out.cmds _
          have hr := T.going.right
          have hn := T.going.new.trans HNEW.out
          have hszY := kpY.size
          have HS' := Lib.hid hs
          have HTT := Lib.hid T
          have HR := Lib.hid hr
          have HN := Lib.hid hn
          have mY : Hid (IM wr (w2.heap.size + 1) n1 s1 (oldF (idList g.us))) := Lib.hid (MR.out.kp kpY HXM.out)
          have k2Y := K2R.out.kp kpY (fun h => by have := HXLO.out _ h; omega)
          have K2Y := Lib.hid k2Y
          have hbY : Below w1.heap.size w1 wr := BR.out.trans (kpY.below HXLO.out hszR)
          have HBY := Lib.hid hbY
          have GEY := Lib.hid geY
          have INY := Lib.hid inY
          clear geY inY kpY hs T hr hn k2Y hbY HY hlt
          go_wp2_with fail
          refine (move_any _ w1.heap.size w2.heap.size s.1 s.2 fv ev bv GEY.out (by omega) HR.out HN.out (w2.heap.size + 1) n1 s1 (idList g.us) mY.out (fun h => HXM.out (INY.out.e _ h))).mono ?_
          rintro e w6 ⟨rfl, ge6, k6⟩
          have hs6 := k6.size
          have m6 : Hid (IM w6 (w2.heap.size + 1) n1 s1 (oldF (idList g.us))) := Lib.hid (mY.out.kp k6 (fun h => HXM.out (INY.out.e _ h)))
          obtain ⟨us2, hus2⟩ : ∃ x, movesF false (idList g.us) s.1.us = x := ⟨_, rfl⟩
          rw [hus2] at ge6
          have hr2 : Right { s.1 with us := us2 } := by
            have := right_moves HR.out (idList g.us)
            have e2 : movesF s.1.new (idList g.us) s.1.us = us2 := by rw [HN.out]; exact hus2
            rw [e2] at this
            exact this
          have hbk6 : Below w1.heap.size w1 w6 := HBY.out.trans (k6.below (fun b hb => HXLO.out b (INY.out.e b hb)) (by omega))
          have HUS2 := Lib.hid hus2
          have HR2 := Lib.hid hr2
          have GE6 := Lib.hid ge6
          have HB6 := Lib.hid hbk6
          clear hus2 hr2 ge6 hbk6 k6
          go_wp2_with fail
          refine (work_any _ w1.heap.size w2.heap.size { s.1 with us := us2 } s.2 fv ev bv GE6.out HR2.out HN.out (w2.heap.size + 1) n1 s1 (idList g.us) m6.out (fun h => HXM.out (INY.out.e _ h)) (by omega)).mono ?_
          rintro e w7 ⟨rfl, ge7, k7⟩
          have hs7 := k7.size
          have hbk7 : Below w1.heap.size w1 w7 := HB6.out.trans (k7.below (fun b hb => (by
            rcases hb with h | h
            · omega
            · exact HXLO.out b (INY.out.e b h))) (by omega))
          obtain ⟨g3, hg3⟩ : ∃ x, ({ gained { s.1 with us := us2 } (idList g.us) ({ s.1 with us := us2 } : G).us.length with us := hurtF false (idList g.us) ({ s.1 with us := us2 } : G).us } : G) = x := ⟨_, rfl⟩
          rw [hg3] at ge7
          have hbur : Buriable g3 := by
            rw [← hg3]
            refine ⟨?_, ?_, ?_, ?_⟩
            · have := HR2.out.few
              show (hurtF false (idList g.us) us2).length ≤ 20
              unfold hurtF
              rw [List.length_map]
              exact this
            · have := HR2.out.unfree
              show s.1.free.length ≤ 1000
              exact Nat.le_trans this (by omega)
            · exact byId_map (fun _ _ => rfl) HR2.out.sorted
            · intro v hv ht
              obtain ⟨x, hx, rfl⟩ := List.mem_map.1 (show v ∈ us2.map _ from hv)
              have ho := HR2.out.ok (u := x) hx
              have h1 := ho.aim
              exact ho.still (by have h3 : 0 < x.target := ht; omega)
          have HBUR := Lib.hid hbur
          have HG3 := Lib.hid hg3
          have GE7 := Lib.hid ge7
          have HB7 := Lib.hid hbk7
          clear hbur hg3 ge7 hbk7 k7
          go_wp2_with fail
          refine (bury_any _ w1.heap.size w2.heap.size g3 s.2 fv ev bv GE7.out (by omega) HBUR.out).mono ?_
          rintro e w8 ⟨rfl, b8, f8, e8, v8, ge8⟩
          have hbk8 : Below w1.heap.size w1 w8 := HB7.out.trans b8
          obtain ⟨g4, hg4⟩ : ∃ x, ({ g3 with free := g3.free ++ goneF g3.us, us := (leftF g3.us).map (idleF (leftF g3.us)) } : G) = x := ⟨_, rfl⟩
          rw [hg4] at ge8
          have htk : g4.tick = g.tick := by
            rw [← hg4, ← HG3.out]
            exact HTT.out.going.tick
          have hhead := HG.out.head
          unfold headBad at hhead
          have htr : 0 ≤ g.tick ∧ g.tick ≤ 60 := by omega
          have hend : ({ g4 with tick := g4.tick + 1 }, s.2) = stepE g cs := by
            unfold stepE
            rw [HS'.out]
            have : endF s.1 (idList g.us) = { g4 with tick := g4.tick + 1 } := by
              unfold endF
              rw [HN.out, HUS2.out, ← hg4, ← HG3.out]
              unfold gained
              dsimp only
              rw [gainK_all, gainK_all]
              have hn1 := HN.out
              simp only [← hn1]
              rw [if_neg (by rw [hn1]; simp)]
            rw [this]
          obtain ⟨fa8, fc8, rfl⟩ := own_slice ge8.fr
          obtain ⟨ea8, ec8, rfl⟩ := own_slice ge8.us
          obtain ⟨ba8, bc8, rfl⟩ := own_slice ge8.bo
          have hw8 : IntKind.i64.wrap (g4.tick + 1) = g4.tick + 1 := IntWalk.i64_in _ (by omega)
          obtain ⟨lS8, cS8, fS8⟩ := id ge8.blk
          have ge9 := ge8.setTick (g4.tick + 1)
          have k28 := K21.out.below hbk8 l2w1
          have k29 := k28.other (T := w2.heap.size) (i := 0) (v := .int .i64 (g4.tick + 1)) (by omega)
          have hbk9 := hbk8.setCell (p := ⟨w2.heap.size, 0, none⟩) hs2 (.int .i64 (g4.tick + 1))
          have GE9 := Lib.hid ge9
          have K29 := Lib.hid k29
          have HB9 := Lib.hid hbk9
          have HEND := Lib.hid hend
          clear hg4 htk hhead htr hend ge8 ge9 k28 k29 hbk8 hbk9 b8
          go_upto_region 22 with fail
          refine gen_world (fun Z => GE Z w1.heap.size w2.heap.size { g4 with tick := g4.tick + 1 } s.2 (.slice fa8 g4.free.length fc8) (.slice ea8 g4.us.length ec8) (.slice ba8 s.2.length bc8) ∧ Below w1.heap.size w1 Z ∧ Blk Z (w.heap.size + 1) #[.int .i64 0, .int .i64 0, .int .i64 0, .int .i64 0, .slice none 0 0, .slice none 0 0]) ⟨GE9.out, HB9.out, K29.out⟩ ?_
          rintro Z ⟨geZ, bZ, kZ⟩
          obtain ⟨lSZ, cSZ, -⟩ := id geZ.blk
          have GEZ := Lib.hid geZ
          have BZ := Lib.hid bZ
          have KZ := Lib.hid kZ
          dsimp only at cSZ
          haveI := Kw.ne (fun b => b = w.heap.size + 1) Z
          have kx : ∀ (x : Kw (fun b => b = w.heap.size + 1) Z) (i : Nat), x.w.cell? ⟨w2.heap.size, i, none⟩ = #[.int .i64 (g4.tick + 1), .int .i64 g4.g0, .int .i64 g4.g1, .int .i64 g4.next, .slice fa8 g4.free.length fc8, .slice ea8 g4.us.length ec8, .slice ba8 s.2.length bc8][i]? := fun x i => (x.cell _ _ lSZ (by omega)).trans (cSZ i)
          clear geZ bZ kZ cS8 fS8 cSZ
          refine region_mix 9 [(false, 0), (false, 1), (false, 2), (false, 3), (false, 4), (false, 5), (false, 6), (false, 7), (true, 8)] (kcl (fun b => b = w.heap.size + 1) Z (fun x => Blk x (w.heap.size + 1) #[.int .i64 0, .int .i64 0, .int .i64 0, .int .i64 0, .slice none 0 0, .slice none 0 0]) (fun _ _ h hb => h.call hb)) ⟨Kp.drew _ _, KZ.out⟩ (by kernel_rfl) (by kernel_rfl) ?_
          simp only [stepsOf, List.filterMap_cons, List.filterMap_nil, List.getElem?_toArray, List.getElem?_cons_zero, List.getElem?_cons_succ, Option.map_some, List.drop_succ_cons, List.drop_zero]
          repeat (refine mix_readK (fun K hK => ?_); go_simp; refine hK _ ?_; clear hK K)
          refine mix_store (w.heap.size + 1) #[.int .i64 (g4.tick + 1), .int .i64 g4.g0, .int .i64 g4.g1, .int .i64 g4.next, .slice fa8 g4.free.length fc8, .slice ea8 g4.us.length ec8] 90 (.tmp 4) (.tmp 76) rfl rfl rfl rfl rfl rfl infoElder (by simp [Value.oneCell']) rfl ?_
          refine mix_nil ?_
          rintro Q ⟨kp6, bkQ⟩
          have ow1 := own_kp GEZ.out.fr kp6 (fun b hb e => by have h1 := (World.ownsRow.lt GEZ.out.fr b hb).1; have h2 : b = w.heap.size + 1 := e; omega)
          have ow2 := own_kp GEZ.out.us kp6 (fun b hb e => by have h1 := (World.ownsRow.lt GEZ.out.us b hb).1; have h2 : b = w.heap.size + 1 := e; omega)
          have ow3 := own_kp GEZ.out.bo kp6 (fun b hb e => by have h1 := (World.ownsRow.lt GEZ.out.bo b hb).1; have h2 : b = w.heap.size + 1 := e; omega)
          have hbf : Below w.heap.size w Q := (HB1.out.trans (BZ.out.mono hs1)).trans (kp6.below (fun b hb => by have h2 : b = w.heap.size + 1 := hb; omega) (by have := BZ.out.size; omega))
          have K6F := Lib.hid bkQ
          have OW1 := Lib.hid ow1
          have OW2 := Lib.hid ow2
          have OW3 := Lib.hid ow3
          have HBF := Lib.hid hbf
          clear kx ow1 ow2 ow3 hbf bkQ kp6
          go_wp2_with fail
          refine bodyPost_ret (v := .tuple #[.agg #[.int .i64 (g4.tick + 1), .int .i64 g4.g0, .int .i64 g4.g1, .int .i64 g4.next, .slice fa8 g4.free.length fc8, .slice ea8 g4.us.length ec8], .slice ba8 s.2.length bc8, .nilIface]) (ret_cell3 Try.results56 rfl rfl rfl K6F.out Try.underlying90 rfl infoElder) rfl ?_
          refine ⟨HBF.out, Or.inr ⟨HSF.out, .slice fa8 g4.free.length fc8, .slice ea8 g4.us.length ec8, .slice ba8 s.2.length bc8, ?_, ?_, ?_, ?_⟩⟩
          · rw [← HEND.out]
          · rw [← HEND.out]; exact own_base OW1.out hs1
          · rw [← HEND.out]; exact own_base OW2.out hs1
          · rw [← HEND.out]; exact own_base OW3.out hs1
end Go.Proofs.Ytlfljlhppigejaa
