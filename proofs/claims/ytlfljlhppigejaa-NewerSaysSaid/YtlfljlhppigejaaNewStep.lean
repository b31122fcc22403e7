/-
  newer.Step. (Printed by gen_stepn.py.)
-/
import Derived.Test.YtlfljlhppigejaaNewDel
import Derived.Test.YtlfljlhppigejaaNewCheck
import Derived.Test.YtlfljlhppigejaaReelAll
namespace Go.Proofs.Ytlfljlhppigejaa
open Go.RowKit
attribute [local go_sem] qOne qAt qUp qOneK

theorem infoNewerN : (Try.prog.info? 65).map (·.size) = some 5 := by kernel_rfl
theorem Blk.store5n {w : World} {S : Nat} {c : Array Value} (h : Blk w S c) (hc : c.size = 5) (v0 v1 v2 v3 v4 : Value) :
    Blk (((((w.setCell ⟨S, 0, none⟩ v0).setCell ⟨S, 1, none⟩ v1).setCell ⟨S, 2, none⟩ v2).setCell ⟨S, 3, none⟩ v3).setCell ⟨S, 4, none⟩ v4) S #[v0, v1, v2, v3, v4] := by
  obtain ⟨l⟩ := c
  match l, hc with
  | [a0, a1, a2, a3, a4], _ =>
    have := ((((h.store v0 (i := 0) (by simp)).store v1 (i := 1) (by simp)).store v2 (i := 2) (by simp)).store v3 (i := 3) (by simp)).store v4 (i := 4) (by simp)
    simpa using this
theorem ret_cell2n {P : Program} {fn : Func} {s t : Tmp} {ty : TypeId} (h : fn.results = #[.cell s ty, .tmp t]) {tmps : Array Value} {W : World} {p : Nat} {c : Array Value} {d : TypeDesc} {v1 : Value} (hs : tmps.getD s undef = .pointer (some ⟨p, 0, none⟩)) (h1 : tmps.getD t undef = v1)
    (hk : Blk W p c) (hu : P.underlying ty = some d) (hd : d.isRow = true) (hi : (P.info? ty).map (·.size) = some c.size) : (results fn tmps).run P W = .ok (.tuple #[.agg c, v1]) W := by
  have hr : W.rangeAt p 0 c.toList := fun j x hx => by
    rw [Nat.zero_add, hk.cell j]
    simpa using hx
  have hp' : tmps[s]?.getD undef = .pointer (some ⟨p, 0, none⟩) := by simpa using hs
  have h1' : tmps[t]?.getD undef = v1 := by simpa using h1
  have h3 := run_loadVar_mid W p 0 ty c.toList d hr hu hd (by simpa using hi)
  simp [results, h, hp', h1', asAddr, h3, Result.andThen]

theorem boardV_tk {tick tick' g0 g1 next : Int} {uv : Value} {M : Nat} {grid : Nat → Int} {fresh : Int} (j : Nat) : (if j = 0 then .int .i64 tick' else boardV tick g0 g1 next uv M grid fresh j) = boardV tick' g0 g1 next uv M grid fresh j := by
  match j with
  | 0 => rfl
  | 1 => rfl
  | 2 => rfl
  | 3 => rfl
  | 4 => rfl
  | 5 => rfl
  | n + 6 => rfl
/-- A unit's ID and place are as they were. -/
theorem left_sub {us : List U} {u : U} (h : u ∈ leftF us) : u ∈ us := (List.mem_filter.1 h).1
theorem byId_left {us : List U} (h : byId us) : byId (leftF us) := h.filter _
theorem hurt_mem {old : List Int} {us : List U} {u : U} (h : u ∈ hurtF true old us) : ∃ v ∈ us, u.id = v.id ∧ u.x = v.x ∧ u.y = v.y ∧ u.target = v.target := by
  unfold hurtF at h
  obtain ⟨v, hv, rfl⟩ := List.mem_map.1 h
  exact ⟨v, hv, rfl, rfl, rfl, rfl⟩
theorem moves_mem {old : List Int} {us : List U} {u : U} (h : u ∈ movesF true old us) : ∃ v ∈ us, u.id = v.id := by
  unfold movesF at h
  obtain ⟨v, hv, rfl⟩ := List.mem_map.1 h
  exact ⟨v, hv, by rw [arrive_id, move_id]⟩
theorem idle_idN (us : List U) (u : U) : (idleF us u).id = u.id := by unfold idleF; split <;> rfl
theorem idle_who (us vs : List U) (k : Nat) (a : Option Addr) : whoV a (doneU (idleF vs) us k) = whoV a us := by
  funext i
  unfold whoV
  rw [who_ids (done_id (fun u _ => idle_idN vs u) k)]
/-- What a step of the newer game hands back. -/
def NStepEnd (g : G) (cs : List Cm) (w : World) (e : Ending) (w' : World) : Prop :=
  Below w.heap.size w w' ∧ ((stepFault g cs ≠ 0 ∧ e = .returned (.tuple #[.agg #[.int .i64 0, .int .i64 0, .int .i64 0, .int .i64 0, .slice none 0 0], errV (stepFault g cs)])) ∨
    (stepFault g cs = 0 ∧ ∃ ub cb, e = .returned (.tuple #[.agg #[.int .i64 (stepN g cs).tick, .int .i64 (stepN g cs).g0, .int .i64 (stepN g cs).g1, .int .i64 (stepN g cs).next, .slice ub (stepN g cs).us.length cb], .nilIface]) ∧
      w'.ownsRow w.heap.size 130 11 (.slice ub (stepN g cs).us.length cb) (stepN g cs).us.length (cellsAllN (stepN g cs).us)))

set_option maxHeartbeats 25600000 in
set_option maxRecDepth 100000 in
theorem nstep_any (g : G) (ua la : Option Addr) (cu cl : Nat) (hnew : g.new = true) (hfree : g.free = []) (hcu : g.us.length ≤ 9223372036854775807) (cs : List Cm) (hcl : cs.length ≤ 9223372036854775807) (hkt : ∀ c ∈ cs, c.kind = c.target ∧ (Lit.int .i64 c.id).wf = true ∧ (Lit.int .i64 c.target).wf = true) (w : World)
    (hu : URow true w.heap.size w ua g.us) (hnil : ua = none → g.us.length = 0 ∧ cu = 0) (hcap : g.us.length ≤ cu) (hc : ORow w.heap.size w la cs) :
    Calls Try.prog 44 #[.agg #[.int .i64 g.tick, .int .i64 g.g0, .int .i64 g.g1, .int .i64 g.next, .slice ua g.us.length cu], .slice la cs.length cl] w (NStepEnd g cs w) := by
  obtain ⟨W, hW⟩ : ∃ W, (w.alloc (.cells #[.int .i64 g.tick, .int .i64 g.g0, .int .i64 g.g1, .int .i64 g.next, .slice ua g.us.length cu] 65)).alloc (.cells #[.int .i64 0, .int .i64 0, .int .i64 0, .int .i64 0, .slice none 0 0] 65) = W := ⟨_, rfl⟩
  have hbW : Below w.heap.size w W := by rw [← hW]; exact ((Below.refl _ _).alloc (Nat.le_refl _) _).alloc (by simp) _
  have k1 : Blk W w.heap.size #[.int .i64 g.tick, .int .i64 g.g0, .int .i64 g.g1, .int .i64 g.next, .slice ua g.us.length cu] := by rw [← hW]; exact (Blk.new w _ _).alloc _
  have k2 : Blk W (w.heap.size + 1) #[.int .i64 0, .int .i64 0, .int .i64 0, .int .i64 0, .slice none 0 0] := by
    rw [← hW]
    have := Blk.new (w.alloc (.cells #[.int .i64 g.tick, .int .i64 g.g0, .int .i64 g.g1, .int .i64 g.next, .slice ua g.us.length cu] 65)) #[.int .i64 0, .int .i64 0, .int .i64 0, .int .i64 0, .slice none 0 0] 65
    simpa using this
  have HU := Lib.hid hu
  have HC := Lib.hid hc
  have HW := Lib.hid hbW
  have K1 := Lib.hid k1
  have K2 := Lib.hid k2
  have HNEW := Lib.hid hnew
  have HFREE := Lib.hid hfree
  have HNIL := Lib.hid hnil
  have HKT := Lib.hid hkt
  have l1 := k1.lt
  have c1 := k1.cell
  have hszW := hbW.size
  clear hu hc hbW k1 k2 hnew hfree hnil hkt
  go_enter Try.func44, Try.ntmps44
  go_upto_region 1 with fail
  try rw [hW]
  clear hW
  go_wp2_with fail
  refine (ncheck_any g ua cu HNEW.out HFREE.out hcu _ ((HU.out.below HW.out).mono hszW) HNIL.out hcap).mono ?_
  rintro e w1 ⟨rfl, b1⟩
  have HB1 : Hid (Below w.heap.size w w1) := Lib.hid (HW.out.trans (b1.mono hszW))
  have K11 := Lib.hid (K1.out.call b1)
  have K21 := Lib.hid (K2.out.call b1)
  have l11 := K11.out.lt
  have c11 := K11.out.cell
  have l21 := K21.out.lt
  have c21 := K21.out.cell
  have f21 := K21.out.free
  clear b1 c1 l1
  by_cases hfault : faultOf g = 0
  case neg =>
    rw [errV_pos _ hfault]
    have HFA := Lib.hid hfault
    clear hfault
    have HSF : Hid (stepFault g cs = faultOf g) := Lib.hid (by show _ = _; unfold stepFault; rw [if_pos HFA.out])
    go_wp2_with fail
    refine bodyPost_ret (v := .tuple #[.agg #[.int .i64 0, .int .i64 0, .int .i64 0, .int .i64 0, .slice none 0 0], .iface 148 (.int .i64 (faultOf g : Nat))]) (ret_cell2n Try.results44 rfl rfl (K21.out.store5n rfl (.int .i64 0) (.int .i64 0) (.int .i64 0) (.int .i64 0) (.slice none 0 0)) Try.underlying65 rfl infoNewerN) rfl ?_
    refine ⟨?_, Or.inl ⟨by rw [HSF.out]; exact HFA.out, by rw [HSF.out, errV_pos _ (HFA.out)]⟩⟩
    iterate 5 (refine Below.setCell ?_ (by simp) _)
    exact HB1.out
  rw [hfault, errV_zero]
  have HFA := Lib.hid hfault
  have hg := (right_iff g).1 hfault
  have HG := Lib.hid hg
  clear hfault hg
  by_cases m8 : 8 < cs.length
  · have d8 : decide ((8 : Int) < (cs.length : Int)) = true := decide_eq_true (by omega)
    have HSF : Hid (stepFault g cs = 2) := Lib.hid (by show _ = _; unfold stepFault; rw [if_neg (by rw [HFA.out]; simp), if_pos (Or.inl m8)])
    go_wp2_with fail
    refine bodyPost_ret (v := .tuple #[.agg #[.int .i64 0, .int .i64 0, .int .i64 0, .int .i64 0, .slice none 0 0], .iface 148 (.int .i64 2)]) (ret_cell2n Try.results44 rfl rfl (K21.out.store5n rfl (.int .i64 0) (.int .i64 0) (.int .i64 0) (.int .i64 0) (.slice none 0 0)) Try.underlying65 rfl infoNewerN) rfl ?_
    refine ⟨?_, Or.inl ⟨by rw [HSF.out]; decide, by rw [HSF.out, errV_pos _ (by decide)]; try rfl⟩⟩
    iterate 5 (refine Below.setCell ?_ (by simp) _)
    exact HB1.out
  have d8 : decide ((8 : Int) < (cs.length : Int)) = false := decide_eq_false (by omega)
  by_cases t60 : g.tick = 60
  · have d60 : (g.tick == 60) = true := by simp [t60]
    have HSF : Hid (stepFault g cs = 2) := Lib.hid (by show _ = _; unfold stepFault; rw [if_neg (by rw [HFA.out]; simp), if_pos (Or.inr t60)])
    clear t60
    go_wp2_with fail
    refine bodyPost_ret (v := .tuple #[.agg #[.int .i64 0, .int .i64 0, .int .i64 0, .int .i64 0, .slice none 0 0], .iface 148 (.int .i64 2)]) (ret_cell2n Try.results44 rfl rfl (K21.out.store5n rfl (.int .i64 0) (.int .i64 0) (.int .i64 0) (.int .i64 0) (.slice none 0 0)) Try.underlying65 rfl infoNewerN) rfl ?_
    refine ⟨?_, Or.inl ⟨by rw [HSF.out]; decide, by rw [HSF.out, errV_pos _ (by decide)]; try rfl⟩⟩
    iterate 5 (refine Below.setCell ?_ (by simp) _)
    exact HB1.out
  have d60 : (g.tick == 60) = false := by simp [t60]
  have HSF : Hid (stepFault g cs = 0) := Lib.hid (by show _ = _; unfold stepFault; rw [if_neg (by rw [HFA.out]; simp), if_neg (by rintro (h | h); omega; exact t60 h)])
  have HT60 := Lib.hid t60
  clear t60
  have hs1 := HB1.out.size
  have HU1 := Lib.hid ((HU.out.below HB1.out).mono hs1)
  have HC1 := Lib.hid (HC.out.below HB1.out)
  go_wp2_with fail
  refine (place_any g ua cu w1 HG.out.sorted HG.out.few (fun u hu => by
    have ok := HG.out.ok hu
    have h1 := on_range ok.on
    have h2 := ok.idT
    have h3 := ok.id1
    rw [HNEW.out] at h2
    exact ⟨h1.1, h1.2.1, h1.2.2.1, h1.2.2.2, wf_int (by have : topOf true = 2000 := rfl; omega)⟩) HU1.out HNIL.out).mono ?_
  rintro e w2 ⟨S, M, ub, cb, rfl, hS, hM, hSM, hub, b2, bd2, ⟨n2, s2, hn2, m2⟩, own2⟩
  have hbg : BG w2 w1.heap.size S M g ub cb (gridF g.us) g.next := ⟨bd2, own2, ⟨n2, s2, by have := HG.out.few; omega, m2⟩, hS, hM, hSM, fun e => by
    cases ub with
    | none => cases e
    | some a =>
      rcases own2.2 with ⟨h1, -⟩ | ⟨g', cap', cur, h1, -⟩
      · cases h1
      · cases h1
        exact (hub g' 0 rfl).2.1 (Option.some.inj e), fun e => by
    cases ub with
    | none => cases e
    | some a =>
      rcases own2.2 with ⟨h1, -⟩ | ⟨g', cap', cur, h1, -⟩
      · cases h1
      · cases h1
        exact (hub g' 0 rfl).2.2 (Option.some.inj e)⟩
  have HBG := Lib.hid hbg
  have HB2 := Lib.hid b2
  have HSS := Lib.hid hS
  have HMS := Lib.hid hM
  clear hbg b2 bd2 m2 own2 hub hn2 hS hM hSM d60 d8 c11 l11 c21 f21 l21
  obtain ⟨B, hB⟩ : ∃ n, w1.heap.size = n := ⟨_, rfl⟩
  have HBB := Lib.hid hB
  rw [hB] at HBG HSS HMS
  clear hB
  go_wp2_with fail
  go_loopw [32] (fun c wy => ∃ k : Nat, c = .int .i64 k ∧ k ≤ cs.length ∧ ((∃ ua' cu', BG wy B S M ((cs.take k).foldl ordF (g, [])).1 ua' cu' (gridF ((cs.take k).foldl ordF (g, [])).1.us) g.next) ∧ Below B w1 wy)) (fun c _ => (cs.length - intOf c).toNat)
  case atStart => exact ⟨0, rfl, by omega, ⟨ub, cb, HBG.out⟩, by rw [← HBB.out]; exact HB2.out⟩
  case round =>
    obtain ⟨k, rfl, hk, ⟨ua', cu', hbk⟩, hbel⟩ := hrel
    have HBK := Lib.hid hbk
    have HBEL := Lib.hid hbel
    have trk := (Track.start HG.out (fun _ => HFREE.out)).ords (cs.take k)
    have TRK := Lib.hid trk
    clear hbk hbel trk
    by_cases hlt : k < cs.length
    · obtain ⟨c, hcc⟩ : ∃ c, cs.getD k zeroC = c := ⟨_, rfl⟩
      have hcr := HC1.out.below (HBEL.out.mono (by have := HBB.out; omega))
      obtain ⟨b, o, hla, hbb, q0, q1, q2, q3, q4, q5⟩ := hcr.get k hlt c hcc
      subst hla
      have hcm : c ∈ cs := by rw [← hcc, List.getD_eq_getElem?_getD, List.getElem?_eq_getElem hlt]; exact List.getElem_mem _
      have htk : cs.take (k + 1) = cs.take k ++ [c] := by
        rw [← hcc, List.take_succ_eq_append_getElem hlt, List.getD_eq_getElem?_getD, List.getElem?_eq_getElem hlt]
        rfl
      have HTK := Lib.hid htk
      have HCM := Lib.hid hcm
      have d1 : decide ((k : Int) < (cs.length : Int)) = true := decide_eq_true (by omega)
      have hk0 : (0 : Int) ≤ (k : Int) := by omega
      have hk1 : (k : Int) < (cs.length : Int) := by omega
      have hbbw : b < wr.heap.size := by have := HBEL.out.size; have := HB1.out.size; omega
      clear hcc hcr hcm htk hbb
      go_upto_region 10 with fail
      refine gen_world (fun V => Below wr.heap.size wr V ∧ Blk V wr.heap.size #[.int .i64 c.player, .int .i64 c.op, .int .i64 c.id, .int .i64 c.kind, .int .i64 c.x, .int .i64 c.y]) ⟨(Below.refl _ _).alloc (Nat.le_refl _) _, Blk.new _ _ _⟩ ?_
      rintro V ⟨bV, kP⟩
      obtain ⟨pp, hpp⟩ : ∃ n, wr.heap.size = n := ⟨_, rfl⟩
      rw [hpp] at kP
      try rw [hpp]
      have BV := Lib.hid bV
      have lP := kP.lt
      have cP := kP.cell
      obtain ⟨st, hst⟩ : ∃ s, (cs.take k).foldl ordF (g, []) = s := ⟨_, rfl⟩
      have hbV := HBK.out.call bV
      rw [hst] at hbV
      have trk2 := TRK.out
      rw [hst] at trk2
      have HST := Lib.hid hst
      have HBV := Lib.hid hbV
      have TR2 := Lib.hid trk2
      clear hpp bV kP hst hbV trk2 q0 q1 q2 q3 q4 q5 hbbw
      go_wp2_with fail
      refine (order_any B S M st.1 st.2 ua' cu' g.next c _ HBV.out (by have := BV.out.size; have := HBEL.out.size; have := HBB.out; omega) TR2.out.going.right (TR2.out.going.new.trans HNEW.out) (TR2.out.going.nofree (TR2.out.going.new.trans HNEW.out)) (HKT.out c HCM.out).1 (HKT.out c HCM.out).2.1 (HKT.out c HCM.out).2.2).mono ?_
      rintro e w3 ⟨rfl, ua3, cu3, g3, k3⟩
      have hb3 : Below B V w3 := k3.below (fun b hb => by
        rcases hb with h | h | h
        · have := HSS.out; omega
        · have := HMS.out; omega
        · exact (World.ownsRow.lt HBV.out.own b h).1) (by have := BV.out.size; have := HBEL.out.size; have := HBB.out; omega)
      have e3 : (cs.take (k + 1)).foldl ordF (g, []) = ordF (st.1, st.2) c := by rw [HTK.out, List.foldl_append, HST.out]; rfl
      rw [← e3] at g3
      have G3 := Lib.hid g3
      have HBN : Hid (Below B w1 w3) := Lib.hid ((HBEL.out.trans (BV.out.mono (by have := HBEL.out.size; have := HBB.out; omega))).trans hb3)
      clear g3 k3 hb3 e3 lP cP
      go_wp2_with fail
      go_roundw
      case rel => exact ⟨k + 1, by go_num, by omega, ⟨ua3, cu3, G3.out⟩, HBN.out⟩
      case measure => simp [intOf]; omega
    · obtain rfl : k = cs.length := by omega
      have d1 : decide ((cs.length : Int) < (cs.length : Int)) = false := decide_eq_false (by omega)
      have hbk2 := HBK.out
      have trk2 := TRK.out
      rw [List.take_length] at hbk2 trk2
      obtain ⟨st, hst⟩ : ∃ s, cs.foldl ordF (g, []) = s := ⟨_, rfl⟩
      rw [hst] at hbk2 trk2
      have HST := Lib.hid hst
      have HBS := Lib.hid hbk2
      have TR := Lib.hid trk2
      have HSN : Hid (st.1.new = true) := Lib.hid (trk2.going.new.trans HNEW.out)
      have HOLD : Hid (∀ u ∈ st.1.us, (idList g.us).contains u.id = decide (u.id < g.next)) := Lib.hid (fun u hu => old_lt trk2 HG.out HNEW.out hu)
      have HSR := Lib.hid trk2.going.right
      have HBW := Lib.hid HBEL.out
      clear hbk2 trk2 hst HBK TRK HBEL
      go_upto_region 12 with fail
      refine gen_world (fun V => BG V B S M st.1 ua' cu' (gridF st.1.us) g.next ∧ Below B w1 V) ⟨HBS.out, HBW.out⟩ ?_
      clear HBS HBW
      rintro w3 ⟨bg3, b3⟩
      have BG3 := Lib.hid bg3
      have B3 := Lib.hid b3
      clear bg3 b3
      go_wp2_with fail
      refine (walk_any B S M st.1 ua' cu' g.next (idList g.us) w3 BG3.out HSR.out HSN.out HOLD.out).mono ?_
      rintro e w4 ⟨rfl, bg4, k4⟩
      obtain ⟨M1, hM1⟩ : ∃ x : G, { st.1 with us := movesF true (idList g.us) st.1.us } = x := ⟨_, rfl⟩
      have hm1r : Right M1 := by
        rw [← hM1]
        have := right_moves HSR.out (idList g.us)
        have e : movesF st.1.new (idList g.us) st.1.us = movesF true (idList g.us) st.1.us := by rw [HSN.out]
        rw [e] at this
        exact this
      have hm1n : M1.new = true := by rw [← hM1]; exact HSN.out
      have hm1o : ∀ u ∈ M1.us, (idList g.us).contains u.id = decide (u.id < g.next) := fun u hu => by
        rw [← hM1] at hu
        obtain ⟨v, hv, e⟩ := moves_mem hu
        rw [e]
        exact HOLD.out v hv
      rw [hM1] at bg4
      have hb4 : Below B w3 w4 := k4.below (fun b hb => (World.ownsRow.lt BG3.out.own b hb).1) (by have := B3.out.size; have := HBB.out; omega)
      have BG4 := Lib.hid bg4
      have B4 : Hid (Below B w1 w4) := Lib.hid (B3.out.trans hb4)
      have HM1 := Lib.hid hM1
      have HM1R := Lib.hid hm1r
      have HM1N := Lib.hid hm1n
      have HM1O := Lib.hid hm1o
      clear bg4 k4 hM1 hm1r hm1n hm1o hb4
      go_wp2_with fail
      refine (toil_any B S M M1 ua' cu' (gridF st.1.us) g.next (idList g.us) w4 BG4.out HM1R.out HM1N.out HM1O.out).mono ?_
      rintro e w5 ⟨rfl, bg5, k5⟩
      obtain ⟨G3, hG3⟩ : ∃ x : G, { M1 with g0 := gainF true (idList g.us) M1.us 0 M1.us M1.g0, g1 := gainF true (idList g.us) M1.us 1 M1.us M1.g1, us := hurtF true (idList g.us) M1.us } = x := ⟨_, rfl⟩
      have hg3u : ∀ u ∈ G3.us, ∃ v ∈ M1.us, u.id = v.id ∧ u.x = v.x ∧ u.y = v.y ∧ u.target = v.target := fun u hu => by rw [← hG3] at hu; exact hurt_mem hu
      have hg3s : byId G3.us := by rw [← hG3]; exact byId_mapped HM1R.out.sorted (fun u _ => rfl)
      have hg3l : G3.us.length ≤ 20 := by rw [← hG3]; show (hurtF true _ M1.us).length ≤ 20; unfold hurtF; rw [List.length_map]; exact HM1R.out.few
      rw [hG3] at bg5
      have hb5 : Below B w4 w5 := k5.below (fun b hb => by
        rcases hb with h | h
        · have := HSS.out; omega
        · exact (World.ownsRow.lt BG4.out.own b h).1) (by have := B4.out.size; have := HBB.out; omega)
      have BG5 := Lib.hid bg5
      have B5 : Hid (Below B w1 w5) := Lib.hid (B4.out.trans hb5)
      have HG3 := Lib.hid hG3
      have HG3U := Lib.hid hg3u
      have HG3S := Lib.hid hg3s
      have HG3L := Lib.hid hg3l
      have lS := bg5.bd.lt
      have c4 : w5.cell? ⟨S, 4, none⟩ = some (.slice ua' G3.us.length cu') := bg5.bd.2.1 4 (by omega)
      clear bg5 k5 hG3 hg3u hg3s hg3l hb5
      go_wp2_with fail
      refine (delete_any B G3.us ua' cu' (by have := HG3L.out; omega) w5 BG5.out.own).mono ?_
      rintro e w6 ⟨rfl, own6, k6⟩
      have bd6 := BG5.out.bd.kp k6 BG5.out.uS
      have m6 : ∃ n s, n ≤ 100 ∧ IM w6 M n s (whoV ua' G3.us) := by
        obtain ⟨n, s, hn, hm⟩ := BG5.out.mp
        exact ⟨n, s, hn, hm.kp k6 BG5.out.uM⟩
      have hb6 : Below B w5 w6 := k6.below (fun b hb => (World.ownsRow.lt BG5.out.own b hb).1) (by have := B5.out.size; have := HBB.out; omega)
      have lS6 := bd6.lt
      have c46 := bd6.2.1 4 (by omega)
      have f46 := bd6.2.2 4
      replace c46 : w6.cell? ⟨S, 4, none⟩ = some (.slice ua' G3.us.length cu') := c46
      have BD6 := Lib.hid bd6
      have OW6 := Lib.hid own6
      have HM6 := Lib.hid m6
      have B6 : Hid (Below B w1 w6) := Lib.hid (B5.out.trans hb6)
      clear bd6 own6 m6 hb6 k6 lS c4
      go_upto_region 15 with fail
      have bd7 : Bd (w6.setCell ⟨S, 4, none⟩ (.slice ua' (leftF G3.us).length cu')) S (boardV G3.tick G3.g0 G3.g1 G3.next (.slice ua' (leftF G3.us).length cu') M (gridF st.1.us) g.next) := (BD6.out.store _ (by omega : 4 < 151)).fn (fun j hj => boardV_uv j)
      have own7 := own_kp OW6.out (Kp.setCell w6 ⟨S, 4, none⟩ (.slice ua' (leftF G3.us).length cu')) (fun b hb e => BG5.out.uS (by
        have h2 : b = S := e
        rw [← h2]
        rw [← hb]
        cases ua' <;> rfl))
      have m7 : ∃ n s, n ≤ 100 ∧ IM (w6.setCell ⟨S, 4, none⟩ (.slice ua' (leftF G3.us).length cu')) M n s (whoV ua' G3.us) := by
        obtain ⟨n, s, hn, hm⟩ := HM6.out
        exact ⟨n, s, hn, hm.kp (Kp.setCell w6 ⟨S, 4, none⟩ _) (fun e => BG5.out.SM e.symm)⟩
      have b7 : Below B w1 (w6.setCell ⟨S, 4, none⟩ (.slice ua' (leftF G3.us).length cu')) := B6.out.setCell (by have := HSS.out; exact this) _
      refine gen_world (fun V => Bd V S (boardV G3.tick G3.g0 G3.g1 G3.next (.slice ua' (leftF G3.us).length cu') M (gridF st.1.us) g.next) ∧ V.ownsRow B 130 11 (.slice ua' (leftF G3.us).length cu') (leftF G3.us).length (cellsAllN (leftF G3.us)) ∧ (∃ n s, n ≤ 100 ∧ IM V M n s (whoV ua' G3.us)) ∧ Below B w1 V) ⟨bd7, own7, m7, b7⟩ ?_
      clear bd7 own7 m7 b7 c46 f46 lS6 BD6 OW6 HM6 B6
      rintro w7 ⟨bd7, own7, ⟨n7, s7, hn7, m7⟩, b7⟩
      obtain ⟨va, vc, ve, -, hrow7, -⟩ := URow.of_ownN own7
      cases ve
      obtain ⟨US, hUS⟩ : ∃ x, leftF G3.us = x := ⟨_, rfl⟩
      rw [hUS] at bd7 own7 hrow7
      rw [hUS]
      have husm : ∀ u ∈ US, u ∈ G3.us := fun u hu => by rw [← hUS] at hu; exact left_sub hu
      have huss : byId US := by rw [← hUS]; exact byId_left HG3S.out
      have husl : US.length ≤ 20 := by rw [← hUS]; unfold leftF; exact Nat.le_trans (List.length_filter_le _ _) HG3L.out
      have husok : ∀ v ∈ US, 0 ≤ v.x ∧ v.x < 12 ∧ 0 ≤ v.y ∧ v.y < 12 ∧ (Lit.int .i64 v.id).wf = true := fun v hv => by
        obtain ⟨z, hz, e1, e2, e3, -⟩ := HG3U.out v (husm v hv)
        have ok := HM1R.out.ok hz
        have h1 := on_range ok.on
        have h2 := ok.idT
        have h3 := ok.id1
        rw [HM1N.out] at h2
        rw [e1, e2, e3]
        exact ⟨h1.1, h1.2.1, h1.2.2.1, h1.2.2.2, wf_int (by have : topOf true = 2000 := rfl; omega)⟩
      have HUS := Lib.hid hUS
      have HUSS := Lib.hid huss
      have HUSL := Lib.hid husl
      have HOW7 := Lib.hid own7
      have HB7 := Lib.hid b7
      have hix := index_any { G3 with us := US } S M n7 s7 _ ua' cu' (gridF st.1.us) g.next w7 huss husl husok bd7 m7 BG5.out.SM hrow7 (fun b o e => by
        subst e
        exact ⟨fun e => BG5.out.uS (by rw [← e]; rfl), fun e => BG5.out.uM (by rw [← e]; rfl)⟩)
      have HIX := Lib.hid hix
      clear hix bd7 own7 m7 hrow7 b7 husm huss husl husok hUS
      go_wp2_with fail
      refine HIX.out.mono ?_
      rintro e w8 ⟨rfl, k8, bd8, n8, s8, hn8, m8'⟩
      have hbg8 : BG w8 B S M { G3 with us := US } ua' cu' (gridF US) g.next := ⟨bd8, own_kp HOW7.out k8 (fun b hb e => by
        rcases e with e | e
        · exact BG5.out.uS (by rw [← e, ← hb]; cases ua' <;> rfl)
        · exact BG5.out.uM (by rw [← e, ← hb]; cases ua' <;> rfl)), ⟨n8, s8, Nat.le_trans hn8 (Nat.le_trans HUSL.out (by omega)), m8'⟩, BG5.out.bS, BG5.out.bM, BG5.out.SM, fun e => BG5.out.uS (by rw [← e]; cases ua' <;> rfl), fun e => BG5.out.uM (by rw [← e]; cases ua' <;> rfl)⟩
      have hb8 : Below B w7 w8 := k8.below (fun b hb => by
        rcases hb with h | h
        · have := HSS.out; omega
        · have := HMS.out; omega) (by have := HB7.out.size; have := HBB.out; omega)
      have BG8 := Lib.hid hbg8
      have B8 : Hid (Below B w1 w8) := Lib.hid (HB7.out.trans hb8)
      have lS := hbg8.bd.lt
      have c4 : w8.cell? ⟨S, 4, none⟩ = some (.slice ua' US.length cu') := hbg8.bd.2.1 4 (by omega)
      clear hbg8 hb8 k8 bd8 m8' hn8 HIX
      go_wp2_with fail
      have HUT : Hid (∀ v ∈ US, (Lit.int .i64 v.target).wf = true) := Lib.hid (fun v hv => by
        rw [← HUS.out] at hv
        obtain ⟨z, hz, -, -, -, e4⟩ := HG3U.out v (left_sub hv)
        have ok := HM1R.out.ok hz
        have h2 := ok.tgtT
        have h3 := ok.tgt0
        rw [HM1N.out] at h2
        rw [e4]
        exact wf_int (by have : topOf true = 2000 := rfl; omega))
      clear lS c4
      go_loopw [62] (fun c wy => ∃ k : Nat, c = .int .i64 k ∧ k ≤ US.length ∧ (BG wy B S M { G3 with us := doneU (idleF US) US k } ua' cu' (gridF US) g.next ∧ Below B w1 wy)) (fun c _ => (US.length - intOf c).toNat)
      case atStart =>
        refine ⟨0, rfl, by omega, ?_, B8.out⟩
        rw [done_zero]
        exact BG8.out
      case round =>
        obtain ⟨k, rfl, hk, hbk, hbel⟩ := hrel
        have HBK := Lib.hid hbk
        have HBEL := Lib.hid hbel
        clear hbk hbel
        by_cases hlt : k < US.length
        · have HLT := Lib.hid hlt
          obtain ⟨u, hu⟩ : ∃ u, US.getD k zeroU = u := ⟨_, rfl⟩
          have hdl : (doneU (idleF US) US k).length = US.length := done_length _ _ _
          obtain ⟨gg, hua, -, hggl, -, hcap2⟩ := own_ua HBK.out.own (by dsimp only; rw [hdl]; omega)
          dsimp only at hcap2
          rw [hdl] at hcap2
          subst hua
          have hku : (doneU (idleF US) US k)[k]? = some u := by
            have h1 := done_at (f := idleF US) hlt
            rw [hu] at h1
            have h2 : k < (doneU (idleF US) US k).length := by rw [hdl]; exact hlt
            rw [List.getElem?_eq_getElem h2, ← getD_lt h2, h1]
          have HKU := Lib.hid hku
          have HU := Lib.hid hu
          have HUM : Hid (u ∈ US) := Lib.hid (by rw [← hu, getD_lt hlt]; exact List.getElem_mem _)
          have lS := HBK.out.bd.lt
          have c4 : wr.cell? ⟨S, 4, none⟩ = some (.slice (some ⟨gg, 0, none⟩) US.length cu') := by
            have := HBK.out.bd.2.1 4 (by omega)
            rw [← hdl]
            exact this
          have c5 : wr.cell? ⟨S, 5, none⟩ = some (.map (some M)) := HBK.out.bd.2.1 5 (by omega)
          obtain ⟨hgl, -, -, -, -, -, -, -, -, -, u9, -⟩ := HBK.out.unit (k := k) (u := u) hku
          have d1 : decide ((k : Int) < (US.length : Int)) = true := decide_eq_true (by omega)
          have hk0 : (0 : Int) ≤ (k : Int) := by omega
          have hk1 : (k : Int) < (US.length : Int) := by omega
          have h20 := HUSL.out
          clear hu hku hggl hdl
          go_upto_region 20 with fail
          obtain ⟨nM, sM, -, mM⟩ := HBK.out.mp
          have mM' := mM
          dsimp only at mM'
          rw [idle_who] at mM'
          haveI := Cw.ne wr
          have y9 : ∀ x : Cw wr, x.w.cell? ⟨gg, k * 11 + 9, none⟩ = some (.int .i64 u.target) := fun x => (x.cell _ _ hgl).trans u9
          have y5 : ∀ x : Cw wr, x.w.cell? ⟨S, 5, none⟩ = some (.map (some M)) := fun x => (x.cell _ _ lS).trans c5
          have yl : ∀ x : Cw wr, S < x.w.heap.size ∧ gg < x.w.heap.size := fun x => by have := x.le; omega
          have HSKIP : Hid (∀ Y, Below wr.heap.size wr Y → idleF US u = u → BG Y B S M { G3 with us := doneU (idleF US) US (k + 1) } (some ⟨gg, 0, none⟩) cu' (gridF US) g.next ∧ Below B w1 Y) := Lib.hid (fun Y hY hid => by
            have e : doneU (idleF US) US (k + 1) = doneU (idleF US) US k := by
              rw [done_next HLT.out, HU.out, hid]
              refine List.ext_getElem? (fun i => ?_)
              rw [List.getElem?_set]
              by_cases e : k = i
              · subst e
                rw [if_pos rfl, HKU.out]
                simp [done_length, HLT.out]
              · rw [if_neg e]
            rw [e]
            exact ⟨HBK.out.call hY, HBEL.out.trans (hY.mono (by have := HBEL.out.size; have := HBB.out; omega))⟩)
          have yL : ∀ x : Cw wr, (Instr.lookup 155 (.map (some M)) (.int .i64 u.target) false).run Try.prog x.w = .ok ((whoV (some ⟨gg, 0, none⟩) US u.target).getD (.pointer none)) x.w := fun x =>
            (mM'.call x.below).get (intKeys (by kernel_rfl)) (t := 155) (e := 161) (by kernel_rfl) (z := .pointer none) (by kernel_rfl) u.target (HUT.out u HUM.out)
          clear mM mM' u9 c4 c5 lS hgl
          by_cases ht : 0 < u.target
          case neg =>
            have d2 : decide (0 < u.target) = false := decide_eq_false ht
            have hid : Hid (idleF US u = u) := Lib.hid (by unfold idleF; rw [if_neg (fun h => ht h.1)])
            clear ht yL
            refine region_cw (by kernel_rfl) (by kernel_rfl) ?_
            repeat (go_big_quiet_step (fail))
            refine wpQuiet_nil ?_
            intro Y hY
            obtain ⟨q1, q2⟩ := HSKIP.out Y hY hid.out
            have Q1 := Lib.hid q1
            have Q2 := Lib.hid q2
            clear q1 q2 y9 y5 yl hY
            go_wp2_with fail
            go_roundw
            case rel => exact ⟨k + 1, by go_num, by have := HLT.out; omega, Q1.out, Q2.out⟩
            case measure => have := HLT.out; simp [intOf]; omega
          have d2 : decide (0 < u.target) = true := decide_eq_true ht
          have HT := Lib.hid ht
          clear ht
          rcases ix_find US u.target with ⟨h1, -⟩ | ⟨k2, v2, h1, -, -, -, -⟩
          case inr =>
            have hwv : whoV (some ⟨gg, 0, none⟩) US u.target = some (.pointer (some ⟨gg, k2 * 11, none⟩)) := whoV_some h1
            rw [hwv] at yL
            replace yL : ∀ x : Cw wr, (Instr.lookup 155 (.map (some M)) (.int .i64 u.target) false).run Try.prog x.w = .ok (.pointer (some ⟨gg, k2 * 11, none⟩)) x.w := yL
            have hid : Hid (idleF US u = u) := Lib.hid (by unfold idleF; rw [if_neg (fun h => by have := h.2; omega)])
            clear hwv h1
            refine region_cw (by kernel_rfl) (by kernel_rfl) ?_
            repeat (go_big_quiet_step (fail))
            refine wpQuiet_nil ?_
            intro Y hY
            obtain ⟨q1, q2⟩ := HSKIP.out Y hY hid.out
            have Q1 := Lib.hid q1
            have Q2 := Lib.hid q2
            clear q1 q2 y9 y5 yl hY yL
            go_wp2_with fail
            go_roundw
            case rel => exact ⟨k + 1, by go_num, by have := HLT.out; omega, Q1.out, Q2.out⟩
            case measure => have := HLT.out; simp [intOf]; omega
          have hwv : whoV (some ⟨gg, 0, none⟩) US u.target = none := whoV_none h1
          rw [hwv] at yL
          replace yL : ∀ x : Cw wr, (Instr.lookup 155 (.map (some M)) (.int .i64 u.target) false).run Try.prog x.w = .ok (.pointer none) x.w := yL
          have HID : Hid (idleF US u = tellU u 0 0 0 0) := Lib.hid (by unfold idleF; rw [if_pos ⟨HT.out, h1⟩])
          clear hwv h1
          refine region_cw (by kernel_rfl) (by kernel_rfl) ?_
          repeat (go_big_quiet_step (fail))
          refine wpQuiet_nil ?_
          intro Y hY
          have HYY := Lib.hid hY
          have bgY := HBK.out.call hY
          obtain ⟨hgl, -, -, -, -, -, -, u6, u7, u8, u9, hfg⟩ := bgY.unit (k := k) (u := u) HKU.out
          have BGY := Lib.hid bgY
          clear y9 y5 yl yL hY bgY
          go_wp2_with fail
          refine (set_any gg (k * 11) 0 0 0 0 _ (by rw [u6]; rfl) (by rw [u7]; rfl) (by rw [u8]; rfl) (by rw [u9]; rfl) hfg).mono ?_
          rintro e w9 ⟨rfl, rfl⟩
          have bgt := BGY.out.tell (k := k) (u := u) HKU.out 0 0 0 0
          dsimp only at bgt
          have hdn : doneU (idleF US) US (k + 1) = (doneU (idleF US) US k).set k (tellU u 0 0 0 0) := by rw [done_next HLT.out, HU.out, HID.out]
          rw [← hdn] at bgt
          have hBg : B ≤ gg := (World.ownsRow.lt BGY.out.own gg rfl).1
          have hbf : Below B w1 ((((Y.setCell ⟨gg, k * 11 + 6, none⟩ (.int .i64 0)).setCell ⟨gg, k * 11 + 7, none⟩ (.int .i64 0)).setCell ⟨gg, k * 11 + 8, none⟩ (.int .i64 0)).setCell ⟨gg, k * 11 + 9, none⟩ (.int .i64 0)) := by
            refine Below.setCell ?_ hBg _
            refine Below.setCell ?_ hBg _
            refine Below.setCell ?_ hBg _
            refine Below.setCell ?_ hBg _
            exact HBEL.out.trans (HYY.out.mono (by have := HBEL.out.size; have := HBB.out; omega))
          have Q1 := Lib.hid bgt
          have Q2 := Lib.hid hbf
          clear bgt hdn hbf hBg u6 u7 u8 u9 hfg hgl
          go_wp2_with fail
          go_roundw
          case rel => exact ⟨k + 1, by go_num, by have := HLT.out; omega, Q1.out, Q2.out⟩
          case measure => have := HLT.out; simp [intOf]; omega
        · obtain rfl : k = US.length := by omega
          have d1 : decide ((US.length : Int) < (US.length : Int)) = false := decide_eq_false (by omega)
          have hbk := HBK.out
          rw [done_all] at hbk
          obtain ⟨UF, hUF⟩ : ∃ x, US.map (idleF US) = x := ⟨_, rfl⟩
          rw [hUF] at hbk
          have hufl : UF.length = US.length := by rw [← hUF]; simp
          have htk : G3.tick = g.tick := by rw [← HG3.out, ← HM1.out]; exact TR.out.going.tick
          have hhead := HG.out.head
          unfold headBad at hhead
          have hend : (stepN g cs).tick = G3.tick + 1 ∧ (stepN g cs).g0 = G3.g0 ∧ (stepN g cs).g1 = G3.g1 ∧ (stepN g cs).next = G3.next ∧ (stepN g cs).us = UF := by
            unfold stepN endF
            rw [HST.out, ← hUF, ← HUS.out, ← HG3.out, ← HM1.out]
            dsimp only
            rw [HSN.out]
            exact ⟨rfl, rfl, rfl, rfl, rfl⟩
          have lS := hbk.bd.lt
          have c0 : wr.cell? ⟨S, 0, none⟩ = some (.int .i64 G3.tick) := hbk.bd.2.1 0 (by omega)
          have f0 := hbk.bd.2.2 0
          have ht0 : 0 ≤ G3.tick ∧ G3.tick < 60 := by have := HT60.out; omega
          obtain ⟨ht1, ht2⟩ := ht0
          have hw8 : IntKind.i64.wrap (G3.tick + 1) = G3.tick + 1 := IntWalk.i64_in _ (by omega)
          have k2w := K21.out.below HBEL.out (by have := K21.out.lt; have := HBB.out; omega)
          have HBF := Lib.hid hbk
          have HEND := Lib.hid hend
          have K2W := Lib.hid k2w
          clear hbk hUF hufl htk hhead hend k2w HBK
          go_upto_region 24 with fail
          have hbd9 : Bd (wr.setCell ⟨S, 0, none⟩ (.int .i64 (G3.tick + 1))) S (boardV (G3.tick + 1) G3.g0 G3.g1 G3.next (.slice ua' UF.length cu') M (gridF US) g.next) := (HBF.out.bd.store _ (by omega : 0 < 151)).fn (fun j _ => boardV_tk j)
          have own9 := own_kp HBF.out.own (Kp.setCell wr ⟨S, 0, none⟩ (.int .i64 (G3.tick + 1))) (fun b hb e => HBF.out.uS (by have h2 : b = S := e; rw [← h2]; exact hb))
          have k29 : Blk (wr.setCell ⟨S, 0, none⟩ (.int .i64 (G3.tick + 1))) (w.heap.size + 1) #[.int .i64 0, .int .i64 0, .int .i64 0, .int .i64 0, .slice none 0 0] := K2W.out.other (by have := HSS.out; have := K21.out.lt; have := HBB.out; omega)
          have b9 : Below B w1 (wr.setCell ⟨S, 0, none⟩ (.int .i64 (G3.tick + 1))) := HBEL.out.setCell (by exact HSS.out) _
          refine gen_world (fun Z => Bd Z S (boardV (G3.tick + 1) G3.g0 G3.g1 G3.next (.slice ua' UF.length cu') M (gridF US) g.next) ∧ Z.ownsRow B 130 11 (.slice ua' UF.length cu') UF.length (cellsAllN UF) ∧ Blk Z (w.heap.size + 1) #[.int .i64 0, .int .i64 0, .int .i64 0, .int .i64 0, .slice none 0 0] ∧ Below B w1 Z) ⟨hbd9, own9, k29, b9⟩ ?_
          clear hbd9 own9 k29 b9 c0 f0 lS
          rintro Z ⟨bdZ, owZ, kZ, bZ⟩
          have lS := bdZ.lt
          have z0 : Z.cell? ⟨S, 0, none⟩ = some (.int .i64 (G3.tick + 1)) := bdZ.2.1 0 (by omega)
          have z1 : Z.cell? ⟨S, 1, none⟩ = some (.int .i64 G3.g0) := bdZ.2.1 1 (by omega)
          have z2 : Z.cell? ⟨S, 2, none⟩ = some (.int .i64 G3.g1) := bdZ.2.1 2 (by omega)
          have z3 : Z.cell? ⟨S, 3, none⟩ = some (.int .i64 G3.next) := bdZ.2.1 3 (by omega)
          have z4 : Z.cell? ⟨S, 4, none⟩ = some (.slice ua' UF.length cu') := bdZ.2.1 4 (by omega)
          have lK := kZ.lt
          have cK := kZ.cell
          have fK := kZ.free
          have KZ := Lib.hid kZ
          have OZ := Lib.hid owZ
          have BZ := Lib.hid bZ
          clear bdZ owZ kZ bZ
          go_wp2_with fail
          refine bodyPost_ret (v := .tuple #[.agg #[.int .i64 (G3.tick + 1), .int .i64 G3.g0, .int .i64 G3.g1, .int .i64 G3.next, .slice ua' UF.length cu'], .nilIface]) (ret_cell2n Try.results44 rfl rfl (KZ.out.store5n rfl _ _ _ _ _) Try.underlying65 rfl infoNewerN) rfl ?_
          have hwb : w.heap.size ≤ B := by have := HBB.out; omega
          refine ⟨?_, Or.inr ⟨HSF.out, ua', cu', ?_, ?_⟩⟩
          · iterate 5 (refine Below.setCell ?_ (by simp) _)
            exact HB1.out.trans (BZ.out.mono hwb)
          · rw [HEND.out.1, HEND.out.2.1, HEND.out.2.2.1, HEND.out.2.2.2.1, HEND.out.2.2.2.2]
          · rw [HEND.out.2.2.2.2]
            refine own_base ?_ hwb
            have hne : ∀ b, (Value.slice ua' UF.length cu').ownBlock = some b → b ≠ w.heap.size + 1 := fun b hb e => by
              have h1 := (World.ownsRow.lt OZ.out b hb).1
              have := K21.out.lt
              have := HBB.out
              omega
            refine own_kp (own_kp (own_kp (own_kp (own_kp OZ.out (Kp.setCell _ ⟨w.heap.size + 1, 0, none⟩ _) hne) (Kp.setCell _ ⟨w.heap.size + 1, 1, none⟩ _) hne) (Kp.setCell _ ⟨w.heap.size + 1, 2, none⟩ _) hne) (Kp.setCell _ ⟨w.heap.size + 1, 3, none⟩ _) hne) (Kp.setCell _ ⟨w.heap.size + 1, 4, none⟩ _) hne
end Go.Proofs.Ytlfljlhppigejaa
