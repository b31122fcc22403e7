/-
  The walk of ferry.Translate. (Printed by gen_fertrans.py.)
-/
import Derived.Test.YtlfljlhppigejaaPackFerD
import Derived.Test.YtlfljlhppigejaaFerTick
import Derived.Test.YtlfljlhppigejaaPackFerE
namespace Go.Proofs.Ytlfljlhppigejaa
open Go.RowKit
attribute [local go_sem] qOne qAt qUp qOneK

/-- Ticks lie from a on; each one's slice holds no more than it may. -/
def TRowC (B : Nat) (w : World) (a : Option Addr) (ts : List (List Cm)) : Prop :=
  ∀ i, i < ts.length → ∃ b o la cl, a = some ⟨b, o, none⟩ ∧ b < B ∧ w.cell? ⟨b, o + i, none⟩ = some (.slice la (ts.getD i []).length cl) ∧ CRow B w la (ts.getD i []) ∧ (ts.getD i []).length ≤ maxLen ∧ (ts.getD i []).length ≤ cl
theorem TRowC.row {B : Nat} {w : World} {a : Option Addr} {ts : List (List Cm)} (h : TRowC B w a ts) : TRow B w a ts := fun i hi => let ⟨b, o, la, cl, h1, h2, h3, h4, h5, _⟩ := h i hi; ⟨b, o, la, cl, h1, h2, h3, h4, h5⟩
theorem TRowC.below {B : Nat} {w w' : World} {a : Option Addr} {ts : List (List Cm)} (h : TRowC B w a ts) (hb : Below B w w') : TRowC B w' a ts :=
  fun i hi => let ⟨b, o, la, cl, h1, h2, h3, h4, h5, h6⟩ := h i hi; ⟨b, o, la, cl, h1, h2, (hb.cell (p := ⟨b, _, none⟩) h2).trans h3, h4.below hb, h5, h6⟩
theorem TRowC.mono {B B' : Nat} {w : World} {a : Option Addr} {ts : List (List Cm)} (h : TRowC B w a ts) (hb : B ≤ B') : TRowC B' w a ts :=
  fun i hi => let ⟨b, o, la, cl, h1, h2, h3, h4, h5, h6⟩ := h i hi; ⟨b, o, la, cl, h1, Nat.lt_of_lt_of_le h2 hb, h3, h4.mono hb, h5, h6⟩
/-- The state that is played, in p8; its rows lie elsewhere. -/
def StI (wr : World) (p8 p11 : Nat) (Y : G) : Prop := ∃ fy fd uy ud, Blk wr p8 #[.int .i64 Y.tick, .int .i64 Y.g0, .int .i64 Y.g1, .int .i64 Y.next, .slice fy Y.free.length fd, .slice uy Y.us.length ud] ∧ Row wr.heap.size wr fy Y.free.length (fun k => .int .i64 (Y.free.getD k 0)) ∧ URow false wr.heap.size wr uy Y.us ∧ (0 < Y.free.length → ∀ b o, fy = some ⟨b, o, none⟩ → b ≠ p8 ∧ b ≠ p11) ∧ (0 < Y.us.length → ∀ b o, uy = some ⟨b, o, none⟩ → b ≠ p8 ∧ b ≠ p11)
/-- The ticks that are carried. -/
def OutI (B : Nat) (wr : World) (p11 : Nat) (ts : List (List Cm)) (m j : Nat) (X : G) (ub : Option Addr) (cb : Nat) : Prop := ∃ oa oc xs, Blk wr p11 #[.int .i64 X.tick, .int .i64 X.g0, .int .i64 X.g1, .int .i64 ((X.us.length : Int) + 1), .slice ub X.us.length cb, .slice oa j oc] ∧ wr.ownsRow B 66 1 (.slice oa j oc) j xs ∧ ∀ i, i < j → ∃ a c, xs[i]? = some (.slice a (ts.getD (m + i) []).length c)
structure TInv (g : G) (ts : List (List Cm)) (X : G) (ub : Option Addr) (cb : Nat) (w V0 : World) (M p8 p11 m j : Nat) (wr : World) : Prop where
  fits : ∀ i, i ≤ j → fitsB (stateAt g ts (m + i)) = true
  bel : Below w.heap.size w wr
  kp : Kp (fun b => b = p8 ∨ b = p11 ∨ b = M) V0 wr
  nm : ∃ n1 s1 F1, n1 ≤ 20 + 200 * j ∧ NM wr M n1 s1 F1
  st : StI wr p8 p11 (stateAt g ts (m + j))
  out : OutI V0.heap.size wr p11 ts m j X ub cb
theorem Row.keepQ {Q : Nat → Prop} {B n : Nat} {w w' : World} {a : Option Addr} {f : Nat → Value} (h : Row B w a n f) (hB : B ≤ w.heap.size) (k : Kp Q w w') (hq : 0 < n → ∀ b o, a = some ⟨b, o, none⟩ → ¬ Q b) : Row B w' a n f := fun i hi => by
  obtain ⟨b, o, h1, h2, h3⟩ := h i hi
  exact ⟨b, o, h1, h2, (k.cell b _ (by omega) (hq (by omega) b o h1)).trans h3⟩
theorem URow.keepQ {Q : Nat → Prop} {B : Nat} {w w' : World} {a : Option Addr} {us : List U} (h : URow false B w a us) (hB : B ≤ w.heap.size) (k : Kp Q w w') (hq : 0 < us.length → ∀ b o, a = some ⟨b, o, none⟩ → ¬ Q b) : URow false B w' a us := fun i hi => by
  obtain ⟨b, o, h1, h2, h3⟩ := h i hi
  exact ⟨b, o, h1, h2, fun j hj => (k.cell b _ (by omega) (hq (by omega) b o h1)).trans (h3 j hj)⟩
theorem kp_six {w : World} {p : Nat} (v0 v1 v2 v3 v4 v5 : Value) : Kp (fun b => b = p) w ((((((w.setCell ⟨p, 0, none⟩ v0).setCell ⟨p, 1, none⟩ v1).setCell ⟨p, 2, none⟩ v2).setCell ⟨p, 3, none⟩ v3).setCell ⟨p, 4, none⟩ v4).setCell ⟨p, 5, none⟩ v5) := by
  iterate 6 (refine Kp.andset ?_ _ _ rfl)
  exact Kp.refl _ _
theorem own_ne_map {w : World} {B e s n M : Nat} {v : Value} {xs : List Value} (h : w.ownsRow B e s v n xs) (hm : MapAt w M) : ∀ b, v.ownBlock = some b → b ≠ M := by
  rintro b hb rfl
  obtain ⟨es, c, h1⟩ := hm
  rcases h.2 with ⟨h2, -⟩ | ⟨g, cap, cur, h2, -, h3, -⟩
  · rw [h2] at hb; cases hb
  · rw [h2] at hb
    cases hb
    rw [h3] at h1
    cases h1
theorem infoSl : (Try.prog.info? 66).map (fun i => (i.zero, i.size, i.bytes)) = some (some (.slice none 0 0), 1, 24) := by kernel_rfl
theorem push_tick {w : World} {base : Nat} {v : Value} {n : Nat} {xs : List Value} (own : w.ownsRow base 66 1 v n xs) (hn : n ≤ 100000) (hb : base ≤ w.heap.size) (a : Option Addr) (k c : Nat) :
    ∃ g cap w', (Builtin.append_ #[67, 67] 67 #[v, .slice (some ⟨w.heap.size, 0, none⟩) 1 1]).run Try.prog (w.alloc (.cells #[.slice a k c] 66)) = .ok (.slice (some ⟨g, 0, none⟩) (n + 1) cap) w' ∧
      w'.ownsRow base 66 1 (.slice (some ⟨g, 0, none⟩) (n + 1) cap) (n + 1) (xs ++ [.slice a k c]) ∧ Kp (fun b => v.ownBlock = some b) w w' := by
  obtain ⟨i1, hj0, hj1, hj2, hj3⟩ := info_parts infoSl
  have hbz : Below w.heap.size w (w.alloc (.cells #[.slice a k c] 66)) := (Below.refl _ _).alloc (Nat.le_refl _) _
  have oB := own_kp own (kp_of hbz (fun _ => False)) (fun _ _ x => x)
  obtain ⟨g2, cap, w5, r5, own5, grow5, -, -⟩ := run_append_lies (P := Try.prog) (w.alloc (.cells #[.slice a k c] 66)) 67 67 base 66 i1 _ 1 24 Try.underlying67 hj0 hj1 hj2 hj3 rfl (by omega) v n xs oB ⟨w.heap.size, 0, none⟩ 1 1 [.slice a k c] rfl
    (World.news_of_block (cs := #[.slice a k c]) (heap_alloc_new w _)) (by intro u hu; simp at hu; subst hu; rfl) (by omega) (by unfold maxLen; omega) (by omega) (Nat.le_trans hb hbz.size) (w.heap.size + 1) (by simp)
  exact ⟨g2, cap, w5, r5, own5, (kp_of hbz _).trans (Kp.grown grow5) (fun k _ hk => hk.symm)⟩
theorem infoReel6 : (Try.prog.info? 69).map (·.size) = some 6 := by kernel_rfl
/-- What comes back of Translate. -/
def TransEnd (g : G) (ts : List (List Cm)) (n : Int) (w : World) (e : Ending) (w' : World) : Prop :=
  ∃ (f : Nat) (t : Int), UnfitEnd g ts n f t ∧ Below w.heap.size w w' ∧ (f ≠ 0 → e = .returned (.tuple #[.agg #[.int .i64 0, .int .i64 0, .int .i64 0, .int .i64 0, .slice none 0 0, .slice none 0 0], .int .i64 t, errV f])) ∧
    (f = 0 → ∃ X ub cb oa oc, X = stateAt g ts n.toNat ∧ e = .returned (.tuple #[.agg #[.int .i64 X.tick, .int .i64 X.g0, .int .i64 X.g1, .int .i64 ((X.us.length : Int) + 1), .slice ub X.us.length cb, .slice oa (ts.length - n.toNat) oc], .int .i64 0, .nilIface]) ∧ w'.ownsRow w.heap.size 130 11 (.slice ub X.us.length cb) X.us.length (cellsAllN (carryG X).us) ∧
      ∀ i, i < ts.length - n.toNat → ∃ b o a c, oa = some ⟨b, o, none⟩ ∧ b < w'.heap.size ∧ w'.cell? ⟨b, o + i, none⟩ = some (.slice a (ts.getD (n.toNat + i) []).length c))

set_option maxHeartbeats 12800000 in
set_option maxRecDepth 100000 in
theorem translate_any (g : G) (fa ua ta : Option Addr) (cf cu ct : Nat) (hnew : g.new = false) (hcf : g.free.length ≤ 100000) (hcu : g.us.length ≤ 100000) (ts : List (List Cm)) (hct : ts.length ≤ 100000) (hcap : ts.length ≤ ct) (hci : ∀ l ∈ ts, ∀ c ∈ l, (Lit.int .i64 c.id).wf = true ∧ (Lit.int .i64 c.target).wf = true) (hfit : ∀ n ∈ g.free, Fits64 n) (n : Int) (w : World)
    (hf : Row w.heap.size w fa g.free.length (fun k => .int .i64 (g.free.getD k 0))) (hu : URow false w.heap.size w ua g.us) (ht : TRowC w.heap.size w ta ts) :
    Calls Try.prog 74 #[.agg #[.int .i64 g.tick, .int .i64 g.g0, .int .i64 g.g1, .int .i64 g.next, .slice fa g.free.length cf, .slice ua g.us.length cu, .slice ta ts.length ct], .int .i64 n] w (TransEnd g ts n w) := by
  obtain ⟨W, hW⟩ : ∃ W, (w.alloc (.cells #[.int .i64 g.tick, .int .i64 g.g0, .int .i64 g.g1, .int .i64 g.next, .slice fa g.free.length cf, .slice ua g.us.length cu, .slice ta ts.length ct] 94)).alloc (.cells #[.int .i64 0, .int .i64 0, .int .i64 0, .int .i64 0, .slice none 0 0, .slice none 0 0] 69) = W := ⟨_, rfl⟩
  have hbW : Below w.heap.size w W := by rw [← hW]; exact ((Below.refl _ _).alloc (Nat.le_refl _) _).alloc (by simp) _
  have hsW : W.heap.size = w.heap.size + 2 := by rw [← hW]; simp
  have k1 : Blk W w.heap.size #[.int .i64 g.tick, .int .i64 g.g0, .int .i64 g.g1, .int .i64 g.next, .slice fa g.free.length cf, .slice ua g.us.length cu, .slice ta ts.length ct] := by rw [← hW]; exact (Blk.new w _ _).alloc _
  have k2 : Blk W (w.heap.size + 1) #[.int .i64 0, .int .i64 0, .int .i64 0, .int .i64 0, .slice none 0 0, .slice none 0 0] := by
    rw [← hW]
    have := Blk.new (w.alloc (.cells #[.int .i64 g.tick, .int .i64 g.g0, .int .i64 g.g1, .int .i64 g.next, .slice fa g.free.length cf, .slice ua g.us.length cu, .slice ta ts.length ct] 94)) #[.int .i64 0, .int .i64 0, .int .i64 0, .int .i64 0, .slice none 0 0, .slice none 0 0] 69
    simpa using this
  have HF := Lib.hid hf
  have HU := Lib.hid hu
  have HT := Lib.hid ht
  have HNEW := Lib.hid hnew
  have HCI := Lib.hid hci
  have HFIT := Lib.hid hfit
  have HBW := Lib.hid hbW
  have HSW := Lib.hid hsW
  have K1 := Lib.hid k1
  have K2 := Lib.hid k2
  obtain ⟨l1, c1, -⟩ := id k1
  clear hf hu ht hnew hci hfit hbW k1 k2 hsW
  obtain ⟨f0, hf0⟩ : ∃ x, tapeFault g ts = x := ⟨_, rfl⟩
  have HF0 := Lib.hid hf0
  clear hf0
  go_enter Try.func74, Try.ntmps74
  go_upto_region 1 with fail
  try rw [hW]
  clear hW
  go_wp2_with fail
  refine (checktape_any g fa ua ta cf cu ct HNEW.out (by omega) (by omega) ts (by unfold maxLen; omega) _ ((HF.out.below HBW.out).mono HBW.out.size) ((HU.out.below HBW.out).mono HBW.out.size) ((HT.out.row.below HBW.out).mono HBW.out.size) HFIT.out).mono ?_
  rintro e w1 ⟨rfl, b1⟩
  rw [HF0.out]
  have HB1 := Lib.hid (HBW.out.trans (b1.mono HBW.out.size))
  have K11 := Lib.hid (K1.out.call b1)
  have K21 := Lib.hid (K2.out.call b1)
  clear b1 c1 l1 K1 K2 HBW
  have c1 := K11.out.cell
  have l1 := K11.out.lt
  obtain ⟨lN, cN, fN⟩ := id K21.out
  by_cases h0 : f0 = 0
  case neg =>
    rw [errV_pos _ h0]
    have HNE := Lib.hid h0
    clear h0
    go_wp2_with fail
    refine bodyPost_ret (v := .tuple #[.agg #[.int .i64 0, .int .i64 0, .int .i64 0, .int .i64 0, .slice none 0 0, .slice none 0 0], .int .i64 0, .iface 148 (.int .i64 (f0 : Nat))]) (ret_cell3 Try.results74 rfl rfl rfl (K21.out.store6 rfl (.int .i64 0) (.int .i64 0) (.int .i64 0) (.int .i64 0) (.slice none 0 0) (.slice none 0 0)) Try.underlying69 rfl infoReel6) rfl ?_
    refine ⟨f0, 0, Or.inl ⟨by rw [HF0.out]; exact HNE.out, HF0.out.symm, rfl⟩, ?_, fun _ => by rw [errV_pos _ HNE.out], fun e => absurd e HNE.out⟩
    iterate 6 (refine Below.setCell ?_ (by simp) _)
    exact HB1.out
  subst h0
  rw [errV_zero]
  have hbnd : ∀ b : Prop, b → (n < 0 ∨ (ts.length : Int) < n) → True := fun _ _ _ => trivial
  by_cases hn : n < 0
  · have d1 : decide (n < 0) = true := decide_eq_true hn
    have HN := Lib.hid hn
    clear hn hbnd
    go_wp2_with fail
    refine bodyPost_ret (v := .tuple #[.agg #[.int .i64 0, .int .i64 0, .int .i64 0, .int .i64 0, .slice none 0 0, .slice none 0 0], .int .i64 0, .iface 148 (.int .i64 1)]) (ret_cell3 Try.results74 rfl rfl rfl (K21.out.store6 rfl (.int .i64 0) (.int .i64 0) (.int .i64 0) (.int .i64 0) (.slice none 0 0) (.slice none 0 0)) Try.underlying69 rfl infoReel6) rfl ?_
    refine ⟨1, 0, Or.inr (Or.inl ⟨HF0.out, Or.inl HN.out, rfl, rfl⟩), ?_, fun _ => by rw [errV_pos _ (by decide)]; try rfl, fun e => absurd e (by decide)⟩
    iterate 6 (refine Below.setCell ?_ (by simp) _)
    exact HB1.out
  have d1 : decide (n < 0) = false := decide_eq_false hn
  by_cases hm : (ts.length : Int) < n
  · have d2 : decide ((ts.length : Int) < n) = true := decide_eq_true hm
    have HN := Lib.hid hm
    clear hn hm hbnd
    go_wp2_with fail
    refine bodyPost_ret (v := .tuple #[.agg #[.int .i64 0, .int .i64 0, .int .i64 0, .int .i64 0, .slice none 0 0, .slice none 0 0], .int .i64 0, .iface 148 (.int .i64 1)]) (ret_cell3 Try.results74 rfl rfl rfl (K21.out.store6 rfl (.int .i64 0) (.int .i64 0) (.int .i64 0) (.int .i64 0) (.slice none 0 0) (.slice none 0 0)) Try.underlying69 rfl infoReel6) rfl ?_
    refine ⟨1, 0, Or.inr (Or.inl ⟨HF0.out, Or.inr HN.out, rfl, rfl⟩), ?_, fun _ => by rw [errV_pos _ (by decide)]; try rfl, fun e => absurd e (by decide)⟩
    iterate 6 (refine Below.setCell ?_ (by simp) _)
    exact HB1.out
  have d2 : decide ((ts.length : Int) < n) = false := decide_eq_false hm
  obtain ⟨m, rfl⟩ := Int.eq_ofNat_of_zero_le (show 0 ≤ n by omega)
  have hml : m ≤ ts.length := by omega
  have d22 : decide (ts.length < m) = false := decide_eq_false (by omega)
  clear hn hm hbnd
  obtain ⟨hxn, hxr, hxp⟩ := tape_right HNEW.out HF0.out hml
  have hpn : playN g ts (m : Int) = (0, stateAt g ts m) := by
    unfold playN
    rw [if_neg (by omega), Int.toNat_natCast, hxp, if_pos rfl]
  obtain ⟨X, hX⟩ : ∃ x, stateAt g ts m = x := ⟨_, rfl⟩
  rw [hX] at hxn hxr hpn
  have HPN := Lib.hid hpn
  have HXX := Lib.hid hX
  have HXR := Lib.hid hxr
  have HXN := Lib.hid hxn
  have hxf := hxr.few
  have hxu := hxr.unfree
  have HFX := Lib.hid (free_range hxr hxn)
  have HF00 : Hid (faultOf X = 0) := Lib.hid ((right_iff X).2 hxr)
  have hts : ts.length ≤ 60 := by
    obtain ⟨t1, t2, -⟩ := tape_parts HF0.out
    have hh := ((right_iff g).1 t1).head
    rw [head_old HNEW.out] at hh
    omega
  clear hxn hxr hxp hpn hX
  go_wp2_with fail
  refine (playall_prog g fa ua ta cf cu ct HNEW.out hcf hcu ts hct hcap (m : Int) _ ((HF.out.below HB1.out).mono HB1.out.size) ((HU.out.below HB1.out).mono HB1.out.size) ((HT.out.row.below HB1.out).mono HB1.out.size) HFIT.out).mono ?_
  rintro e w2 hall
  rw [HPN.out] at hall
  replace hall : PlayAll .nilIface X w1 e w2 := hall
  obtain ⟨fx, fc, ux, uc, rfl, q1, q2, b2⟩ := hall
  have HB2 := Lib.hid (HB1.out.trans (b2.mono HB1.out.size))
  have K12 := Lib.hid (K11.out.call b2)
  have K22 := Lib.hid (K21.out.call b2)
  have Q1 := Lib.hid q1
  have Q2 := Lib.hid q2
  clear q1 q2 b2 c1 l1 lN cN fN K11 K21 HB1
  go_upto_region 7 with fail
  have hba : Below w2.heap.size w2 (w2.alloc (.cells #[.int .i64 X.tick, .int .i64 X.g0, .int .i64 X.g1, .int .i64 X.next, .slice fx X.free.length fc, .slice ux X.us.length uc] 90)) := (Below.refl _ _).alloc (Nat.le_refl _) _
  refine gen_world (fun V => (Below w.heap.size w V ∧ w2.heap.size < V.heap.size) ∧ Blk V w.heap.size #[.int .i64 g.tick, .int .i64 g.g0, .int .i64 g.g1, .int .i64 g.next, .slice fa g.free.length cf, .slice ua g.us.length cu, .slice ta ts.length ct] ∧ Blk V (w.heap.size + 1) #[.int .i64 0, .int .i64 0, .int .i64 0, .int .i64 0, .slice none 0 0, .slice none 0 0] ∧ Blk V w2.heap.size #[.int .i64 X.tick, .int .i64 X.g0, .int .i64 X.g1, .int .i64 X.next, .slice fx X.free.length fc, .slice ux X.us.length uc] ∧ Row w2.heap.size V fx X.free.length (fun k => .int .i64 (X.free.getD k 0)) ∧ URow false w2.heap.size V ux X.us) ⟨⟨HB2.out.trans (hba.mono HB2.out.size), by simp⟩, K12.out.call hba, K22.out.call hba, Blk.new _ _ _, Q1.out.below hba, Q2.out.below hba⟩ ?_
  clear hba
  obtain ⟨p8, hp8⟩ : ∃ n, w2.heap.size = n := ⟨_, rfl⟩
  have HP8 : Hid (w.heap.size + 1 < p8) := Lib.hid (by have := K22.out.lt; omega)
  rw [hp8]
  try rw [hp8]
  clear hp8 Q1 Q2 K12 K22 HB2
  rintro w3 ⟨⟨b3, hs3⟩, k13, k23, k8, r1, r2⟩
  have HB3 := Lib.hid b3
  have K13 := Lib.hid k13
  have K23 := Lib.hid k23
  have K8 := Lib.hid k8
  have R1 := Lib.hid r1
  have R2 := Lib.hid r2
  have HS3 := Lib.hid hs3
  clear b3 k13 k23 k8 r1 r2 hs3
  have c8 := K8.out.cell
  have l8 := K8.out.lt
  go_wp2_with fail
  refine (carry_any X fx ux fc uc HXN.out (by omega) (by omega) _ (R1.out.mono (by have := HS3.out; omega)) (R2.out.mono (by have := HS3.out; omega)) HFX.out).mono ?_
  rintro e w4 ⟨b4, hcase⟩
  have HB4 := Lib.hid (HB3.out.trans (b4.mono HB3.out.size))
  have K14 := Lib.hid (K13.out.call b4)
  have K24 := Lib.hid (K23.out.call b4)
  have K84 := Lib.hid (K8.out.call b4)
  have R14 := Lib.hid (R1.out.below (b4.mono (by have := HS3.out; omega)))
  have R24 := Lib.hid (R2.out.below (b4.mono (by have := HS3.out; omega)))
  have hs4 := b4.size
  clear b4 c8 l8 K13 K23 K8 R1 R2 HB3
  rcases hcase with ⟨hne, -⟩ | ⟨-, hff, rfl⟩ | ⟨-, hft, ub, cb, M, nM, szM, rfl, own, hM, hnM, nm⟩
  · exact absurd HF00.out hne
  · rw [errV_pos 8 (by decide)]
    have HFF := Lib.hid hff
    clear hff
    go_upto_region 11 with fail
    refine gen_world (fun V => Below w.heap.size w V ∧ Blk V (w.heap.size + 1) #[.int .i64 0, .int .i64 0, .int .i64 0, .int .i64 0, .slice none 0 0, .slice none 0 0] ∧ Blk V p8 #[.int .i64 X.tick, .int .i64 X.g0, .int .i64 X.g1, .int .i64 X.next, .slice fx X.free.length fc, .slice ux X.us.length uc]) ⟨HB4.out.alloc HB4.out.size _, K24.out.alloc _, K84.out.alloc _⟩ ?_
    clear HB4 K24 K84
    rintro w5 ⟨b5, k25, k85⟩
    have HB4 := Lib.hid b5
    have K24 := Lib.hid k25
    have K84 := Lib.hid k85
    clear b5 k25 k85
    have l8 := K84.out.lt
    have c8 := K84.out.cell
    haveI := Kw.ne (fun b => b = w.heap.size + 1) w5
    have hp81 : p8 ≠ w.heap.size + 1 := by have := HP8.out; omega
    have kx1 : ∀ (x : Kw (fun b => b = w.heap.size + 1) w5) (o : Nat), x.w.cell? ⟨p8, o, none⟩ = w5.cell? ⟨p8, o, none⟩ := fun x o => x.cell _ _ l8 hp81
    refine region_mix 6 [(false, 0), (false, 1), (false, 2), (false, 3), (true, 4), (false, 5)] (kcl (fun b => b = w.heap.size + 1) w5 (fun x => Blk x (w.heap.size + 1) #[.int .i64 0, .int .i64 0, .int .i64 0, .int .i64 0, .slice none 0 0, .slice none 0 0] ∧ True) (fun _ _ h hb => ⟨h.1.call hb, trivial⟩)) ⟨Kp.drew _ _, K24.out, trivial⟩ (by kernel_rfl) (by kernel_rfl) ?_
    simp only [stepsOf, List.filterMap_cons, List.filterMap_nil, List.getElem?_toArray, List.getElem?_cons_zero, List.getElem?_cons_succ, Option.map_some, List.drop_succ_cons, List.drop_zero]
    repeat (refine mix_readK (fun K hK => ?_); go_simp; refine hK _ ?_; clear hK K)
    refine mix_store2 (X := fun b => b = w.heap.size + 1) (v := w5) (w.heap.size + 1) (z := #[.int .i64 0, .int .i64 0, .int .i64 0, .int .i64 0, .slice none 0 0, .slice none 0 0]) #[.int .i64 0, .int .i64 0, .int .i64 0, .int .i64 0, .slice none 0 0, .slice none 0 0] 69 (.tmp 4) (.tmp 54) (by rfl) (by rfl) (by rfl) (by rfl) (by rfl) (by rfl) infoReel6 (by simp [Value.oneCell']) (by rfl) (fun _ => True) (fun _ _ _ _ => trivial) (fun _ _ h hb => ⟨h.1.call hb, trivial⟩) ?_
    refine mix_readK (fun K hK => ?_); go_simp; refine hK _ ?_; clear hK K
    refine mix_nil ?_
    rintro Q ⟨kQ, bQ, -⟩
    have BQ := Lib.hid bQ
    have KQ := Lib.hid kQ
    clear bQ kQ kx1 c8 l8
    refine wpList_plain rfl (fun K hK => ?_); go_simp; refine hK _ _ ?_; clear hK K
    refine wpList_nil ?_
    go_wp2_with fail
    refine bodyPost_ret (v := .tuple #[.agg #[.int .i64 0, .int .i64 0, .int .i64 0, .int .i64 0, .slice none 0 0, .slice none 0 0], .int .i64 X.tick, .iface 148 (.int .i64 (8 : Nat))]) (ret_cell3 Try.results74 rfl rfl rfl BQ.out Try.underlying69 rfl infoReel6) rfl ?_
    refine ⟨8, X.tick, Or.inr (Or.inr ⟨HF0.out, ⟨by omega, by omega⟩, Or.inr ⟨rfl, m, by omega, hml, by rw [HXX.out]; exact HFF.out, fun j h1 h2 => absurd h1 (by omega), by rw [HXX.out]⟩⟩), HB4.out.trans (KQ.out.below (fun b e => by have h2 : b = w.heap.size + 1 := e; omega) HB4.out.size), fun _ => by rw [errV_pos _ (by decide)], fun e => absurd e (by decide)⟩
  · have HFT := Lib.hid hft
    have OW := Lib.hid own
    have OWA : Hid (∀ b, (Value.slice ub X.us.length cb).ownBlock = some b → w3.heap.size ≤ b ∧ b < w4.heap.size ∧ b ≠ M) := Lib.hid (fun b hb => ⟨(World.ownsRow.lt own b hb).1, (World.ownsRow.lt own b hb).2, own_ne_map own nm.at_ b hb⟩)
    have NMM := Lib.hid nm
    have HMM := Lib.hid hM
    clear hft own nm hM
    have hwn : IntKind.i64.wrap ((X.us.length : Int) + 1) = (X.us.length : Int) + 1 := IntWalk.i64_in _ (by omega)
    go_upto_region 14 with fail
    have hba : Below w4.heap.size w4 ((w4.alloc (.cells #[.int .i64 X.tick, .int .i64 X.g0, .int .i64 X.g1, .int .i64 ((X.us.length : Int) + 1), .slice ub X.us.length cb] 65)).alloc (.cells #[.int .i64 X.tick, .int .i64 X.g0, .int .i64 X.g1, .int .i64 ((X.us.length : Int) + 1), .slice ub X.us.length cb, .slice none 0 0] 69)) := ((Below.refl _ _).alloc (Nat.le_refl _) _).alloc (by simp) _
    refine gen_world (fun V => (Below w.heap.size w V ∧ V.heap.size = w4.heap.size + 2) ∧ Blk V w.heap.size #[.int .i64 g.tick, .int .i64 g.g0, .int .i64 g.g1, .int .i64 g.next, .slice fa g.free.length cf, .slice ua g.us.length cu, .slice ta ts.length ct] ∧ Blk V (w.heap.size + 1) #[.int .i64 0, .int .i64 0, .int .i64 0, .int .i64 0, .slice none 0 0, .slice none 0 0] ∧ Blk V p8 #[.int .i64 X.tick, .int .i64 X.g0, .int .i64 X.g1, .int .i64 X.next, .slice fx X.free.length fc, .slice ux X.us.length uc] ∧ Row p8 V fx X.free.length (fun k => .int .i64 (X.free.getD k 0)) ∧ URow false p8 V ux X.us ∧ NM V M nM szM (idF X.us X.us.length) ∧ V.ownsRow w3.heap.size 130 11 (.slice ub X.us.length cb) X.us.length (cellsAllN (carryG X).us) ∧ Blk V (w4.heap.size + 1) #[.int .i64 X.tick, .int .i64 X.g0, .int .i64 X.g1, .int .i64 ((X.us.length : Int) + 1), .slice ub X.us.length cb, .slice none 0 0]) ⟨⟨HB4.out.trans (hba.mono HB4.out.size), by simp⟩, K14.out.call hba, K24.out.call hba, K84.out.call hba, R14.out.below (hba.mono (by have := HS3.out; omega)), R24.out.below (hba.mono (by have := HS3.out; omega)), NMM.out.call hba, own_kp OW.out (kp_of hba (fun _ => False)) (fun _ _ x => x), by
      have := Blk.new (w4.alloc (.cells #[.int .i64 X.tick, .int .i64 X.g0, .int .i64 X.g1, .int .i64 ((X.us.length : Int) + 1), .slice ub X.us.length cb] 65)) #[.int .i64 X.tick, .int .i64 X.g0, .int .i64 X.g1, .int .i64 ((X.us.length : Int) + 1), .slice ub X.us.length cb, .slice none 0 0] 69
      simpa using this⟩ ?_
    clear hba
    obtain ⟨p11, hp11⟩ : ∃ n, w4.heap.size + 1 = n := ⟨_, rfl⟩
    have HP11 : Hid (M < p11 ∧ p8 < p11 ∧ p8 < M) := Lib.hid (by have := NMM.out.lt; have := K84.out.lt; have := HMM.out; have := HS3.out; omega)
    have HP11' : Hid (w4.heap.size + 1 = p11) := Lib.hid hp11
    rw [hp11]
    try rw [hp11]
    clear hp11 K14 K24 K84 R14 R24 HB4 NMM OW
    rintro V0 ⟨⟨b5, hs5⟩, k15, k25, k85, r15, r25, nm5, ow5, k11⟩
    have HB5 := Lib.hid b5
    have K15 := Lib.hid k15
    have K25 := Lib.hid k25
    have K85 := Lib.hid k85
    have R15 := Lib.hid r15
    have R25 := Lib.hid r25
    have NM5 := Lib.hid nm5
    have OW5 := Lib.hid ow5
    have KB := Lib.hid k11
    have HSV : Hid (V0.heap.size = p11 + 1) := Lib.hid (by have := HP11'.out; omega)
    have c1 := k15.cell
    have l1 := k15.lt
    clear b5 hs5 k15 k25 k85 r15 r25 nm5 ow5 k11
    have hm0 : (0 : Int) ≤ (m : Int) := by omega
    have hm1 : (m : Int) ≤ (ts.length : Int) := by omega
    have hm2 : (ts.length : Int) ≤ (ct : Int) := by omega
    have hm3 : (m : Int) ≤ (ct : Int) := by omega
    go_cut [65, 66, 67] (fun a b c wx => ∃ A, a = .slice A (ts.length - m) (ct - m) ∧ b = .int .i64 ((ts.length - m : Nat) : Int) ∧ c = .int .i64 0 ∧ ((m < ts.length → ∃ bt ot, ta = some ⟨bt, ot, none⟩ ∧ A = some ⟨bt, ot + m, none⟩) ∧ wx = V0))
    case first =>
      by_cases hcm : ct = m
      · go_wp2_with fail
        go_meet
        exact ⟨ta, by rw [show ct - m = 0 by omega], rfl, rfl, fun h => absurd h (by omega), rfl⟩
      · by_cases hz : m < ts.length
        · obtain ⟨bt, ot, la0, cl0, rfl, -⟩ := HT.out 0 (by omega)
          go_wp2_with fail
          go_meet
          exact ⟨_, rfl, rfl, rfl, fun h => ⟨bt, ot, rfl, rfl⟩, rfl⟩
        · cases ta with
          | none =>
            go_wp2_with fail
            go_meet
            exact ⟨_, rfl, rfl, rfl, fun h => absurd h hz, rfl⟩
          | some q =>
            go_wp2_with fail
            go_meet
            exact ⟨_, rfl, rfl, rfl, fun h => absurd h hz, rfl⟩
    case rest =>
    obtain ⟨A, rfl, rfl, rfl, hA, rfl⟩ := hcut
    have HA := Lib.hid hA
    clear hA c1 l1
    go_wp2_with fail
    go_loopw [12, 67] (fun nx c wr => ∃ j : Nat, c = .int .i64 j ∧ j ≤ ts.length - m ∧ ((∃ v : Int, nx = .int .i64 v ∧ 0 ≤ v ∧ v ≤ 100 + 20 * (j : Int)) ∧ TInv g ts X ub cb w wc M p8 p11 m j wr)) (fun _ c _ => (ts.length - m - intOf c).toNat)
    case atStart =>
      have hmz : stateAt g ts (m + 0) = X := HXX.out
      have hle : p8 ≤ wc.heap.size := by have := HP11.out; have := HSV.out; omega
      refine ⟨0, rfl, by omega, ⟨_, rfl, by omega, by omega⟩, fun i hi => ?_, HB5.out, Kp.refl _ _, ⟨nM, szM, _, by omega, NM5.out⟩, ?_, none, 0, [], KB.out, World.ownsRow_nil _ _ _ _, fun i hi => absurd hi (by omega)⟩
      · obtain rfl : i = 0 := by omega
        rw [hmz]; exact HFT.out
      · rw [hmz]
        refine ⟨fx, fc, ux, uc, K85.out, R15.out.mono hle, R25.out.mono hle, fun h0 b o e => ?_, fun h0 b o e => ?_⟩
        · obtain ⟨b', o', e', hlt, -⟩ := R15.out 0 h0
          rw [e] at e'
          cases e'
          have := HP11.out
          omega
        · obtain ⟨b', o', e', hlt, -⟩ := R25.out 0 h0
          rw [e] at e'
          cases e'
          have := HP11.out
          omega
    case round =>
      obtain ⟨j, rfl, hj, ⟨v, rfl, hv0, hv1⟩, inv⟩ := hrel
      have hsr := inv.kp.size
      obtain ⟨Y, hY⟩ : ∃ y, stateAt g ts (m + j) = y := ⟨_, rfl⟩
      have hst := inv.st
      rw [hY] at hst
      obtain ⟨fy, fd, uy, ud, k8, r1, r2, a1, a2⟩ := hst
      have HY := Lib.hid hY
      have INV := Lib.hid inv
      have K8 := Lib.hid k8
      have R1 := Lib.hid r1
      have R2 := Lib.hid r2
      have A1 := Lib.hid a1
      have A2 := Lib.hid a2
      have K1r := Lib.hid (inv.kp.out K15.out (fun e => by have := HP8.out; have := HP11.out; omega))
      have K2r := Lib.hid (inv.kp.out K25.out (fun e => by have := HP8.out; have := HP11.out; omega))
      clear hY inv k8 r1 r2 a1 a2
      by_cases hlt : j < ts.length - m
      · have hmj : m + j < ts.length := by omega
        obtain ⟨l, hl⟩ : ∃ l, ts.getD (m + j) [] = l := ⟨_, rfl⟩
        obtain ⟨hyn, hyr, hys, hl8, hnx⟩ := tape_step HNEW.out HF0.out hmj
        rw [HY.out] at hyn hyr hys hnx
        rw [hl] at hys hl8 hnx
        obtain ⟨bt, ot, la, cl, hta, hbt, hct2, hcr, hcm, hlc⟩ := (HT.out.below INV.out.bel) (m + j) hmj
        obtain ⟨bt', ot', hta', hAA⟩ := HA.out (by omega)
        rw [hta] at hta'
        cases hta'
        rw [hl] at hct2 hcr hlc
        have hyf := hyr.few
        have hyu := hyr.unfree
        have hlm : l ∈ ts := by rw [← hl]; simp [List.getD, hmj]
        subst hAA
        have hct3 : wr.cell? ⟨bt, ot + m + j, none⟩ = some (.slice la l.length cl) := by rw [Nat.add_assoc]; exact hct2
        have hbtr : bt < wr.heap.size := by have := INV.out.bel.size; omega
        have hjl : (j : Int) < ((ts.length - m : Nat) : Int) := by omega
        have HL := Lib.hid hl
        have HYN := Lib.hid hyn
        have HYR := Lib.hid hyr
        have HYS := Lib.hid hys
        have HNX := Lib.hid hnx
        have HCR := Lib.hid hcr
        have HCL := Lib.hid (HCI.out l hlm)
        have HYF := Lib.hid (free_range hyr hyn)
        have c8 := K8.out.cell
        have l8 := K8.out.lt
        clear hl hyn hyr hys hnx hta hbt hct2 hcr hcm hlm
        go_wp2_with fail
        obtain ⟨n1, s1, F1, hn1, nm1⟩ := INV.out.nm
        refine (tick_any Y fy uy la fd ud cl HYN.out (by omega) (by omega) l HYS.out hl8 hlc HCL.out v hv0 (by omega) M (20 + 200 * j) (by omega) _ R1.out R2.out (HCR.out.mono INV.out.bel.size) HYF.out ⟨Kp.refl _ _, n1, s1, F1, hn1, nm1⟩).mono ?_
        rintro e w6 ⟨oq, oqc, fz, fe, uz, ue, rfl, q1, q2, tI, b1, b2⟩
        obtain ⟨Z, hZ⟩ : ∃ z, (stepE Y l).1 = z := ⟨_, rfl⟩
        obtain ⟨nb, hnb⟩ : ∃ z, (stepE Y l).2.length = z := ⟨_, rfl⟩
        have hb20 : nb ≤ 20 := by rw [← hnb]; exact (born_fit HYN.out HYS.out).2
        have hzr : Right Z := by rw [← hZ]; exact (right_iff _).1 (elder_law HYN.out HYS.out).right
        have hzf := hzr.few
        have hzu := hzr.unfree
        rw [hZ] at q1 q2
        rw [hZ, hnb]
        have HZ : Hid (stateAt g ts (m + (j + 1)) = Z) := Lib.hid (by rw [← Nat.add_assoc, HNX.out, hZ])
        have hp8r := K8.out.lt
        have hs6 := tI.1.size
        obtain ⟨oa, oc, xs, kO, oO, hO⟩ := INV.out.out
        have hp11r := kO.lt
        have HOL : Hid (∀ b, (Value.slice oa j oc).ownBlock = some b → b < wr.heap.size) := Lib.hid (fun b hb => (World.ownsRow.lt oO b hb).2)
        have HZ1 : Hid (∀ b o, fz = some ⟨b, o, none⟩ → wr.heap.size ≤ b) := Lib.hid b1
        have HZ2 : Hid (∀ b o, uz = some ⟨b, o, none⟩ → wr.heap.size ≤ b) := Lib.hid b2
        have hM8 : p8 ≠ M := by have := HP11.out; omega
        have hM11 : p11 ≠ M := by have := HP11.out; omega
        have HO := Lib.hid hO
        have KO6 := Lib.hid (tI.1.out kO hM11)
        have K86 := Lib.hid (tI.1.out K8.out hM8)
        have K16 := Lib.hid (tI.1.out K1r.out (by have := HP8.out; have := HP11.out; omega))
        have K26 := Lib.hid (tI.1.out K2r.out (by have := HP8.out; have := HP11.out; omega))
        have OO6 := Lib.hid (own_kp oO tI.1 (fun b hb e => by have := (World.ownsRow.lt oO b hb).1; have := HP11.out; have := HSV.out; omega))
        have HK6 := Lib.hid (INV.out.kp.trans tI.1 (fun b _ e => Or.inr (Or.inr e)))
        have HB6 : Hid (Below w.heap.size w w6) := Lib.hid (INV.out.bel.trans (tI.1.below (fun b e => by have := HP8.out; have := HP11.out; omega) INV.out.bel.size))
        have TI6 := Lib.hid tI.2
        have Q1 := Lib.hid q1
        have Q2 := Lib.hid q2
        have AZ1 : Hid (∀ b o, fz = some ⟨b, o, none⟩ → b ≠ p8 ∧ b ≠ p11) := Lib.hid (fun b o e => by have := b1 b o e; omega)
        have AZ2 : Hid (∀ b o, uz = some ⟨b, o, none⟩ → b ≠ p8 ∧ b ≠ p11) := Lib.hid (fun b o e => by have := b2 b o e; omega)
        clear hZ hnb hzr kO oO hO tI q1 q2 b1 b2 nm1 c8 l8 hct3
        go_upto_region 18 with fail
        have hba : Below w6.heap.size w6 (w6.alloc (.cells #[.int .i64 Z.tick, .int .i64 Z.g0, .int .i64 Z.g1, .int .i64 Z.next, .slice fz Z.free.length fe, .slice uz Z.us.length ue] 90)) := (Below.refl _ _).alloc (Nat.le_refl _) _
        refine gen_world (fun V => Below w6.heap.size w6 V ∧ Blk V w6.heap.size #[.int .i64 Z.tick, .int .i64 Z.g0, .int .i64 Z.g1, .int .i64 Z.next, .slice fz Z.free.length fe, .slice uz Z.us.length ue]) ⟨hba, Blk.new _ _ _⟩ ?_
        clear hba
        obtain ⟨p16, hp16⟩ : ∃ n, w6.heap.size = n := ⟨_, rfl⟩
        have HP16 := Lib.hid hp16
        rintro w7 ⟨b7, k7⟩
        have HB7 := Lib.hid b7
        rw [hp16] at k7
        try rw [hp16]
        have K7 := Lib.hid k7
        have K87 := Lib.hid (K86.out.call b7)
        have hwv : IntKind.i64.wrap (v + (nb : Int)) = v + (nb : Int) := IntWalk.i64_in _ (by omega)
        have c7 := K7.out.cell
        have l7 := K7.out.lt
        obtain ⟨l8, c8, f8⟩ := id K87.out
        clear b7 k7 hp16
        go_upto_region 21 with fail
        refine gen_world (fun V => Kp (fun b => b = p8) w7 V ∧ Blk V p8 #[.int .i64 Z.tick, .int .i64 Z.g0, .int .i64 Z.g1, .int .i64 Z.next, .slice fz Z.free.length fe, .slice uz Z.us.length ue]) ⟨kp_six _ _ _ _ _ _, K87.out.store6 rfl _ _ _ _ _ _⟩ ?_
        clear c7 l7 l8 c8 f8
        rintro w8 ⟨kp8, k88⟩
        have K68 := Lib.hid ((kp_of HB7.out (fun b => b = p8)).trans kp8 (fun _ _ x => x))
        have hs8 := K68.out.size
        have K88 := Lib.hid k88
        have HKT := Lib.hid (HK6.out.trans K68.out (fun b _ e => Or.inl e))
        have HBT := Lib.hid (HB6.out.trans (K68.out.below (fun b e => by have := HP8.out; omega) HB6.out.size))
        have KO8 := Lib.hid (K68.out.out KO6.out (by have := HP11.out; omega))
        have K28 := Lib.hid (K68.out.out K26.out (by have := HP8.out; omega))
        have OO8 := Lib.hid (own_kp OO6.out K68.out (fun b hb e => by have := (World.ownsRow.lt OO6.out b hb).1; have := HP11.out; have := HSV.out; omega))
        obtain ⟨n6, s6, F6, hn6, nm6⟩ := TI6.out
        have NM8 := Lib.hid (show NM w8 M n6 s6 F6 from nm6.blk (K68.out.block M nm6.lt (fun e => hM8 e.symm)))
        have RZ := Lib.hid ((Q1.out.keepQ (Nat.le_refl _) K68.out (fun _ b o e => (AZ1.out b o e).1)).mono hs8)
        have UZ := Lib.hid ((Q2.out.keepQ (Nat.le_refl _) K68.out (fun _ b o e => (AZ2.out b o e).1)).mono hs8)
        have c8 := k88.cell
        have l8 := k88.lt
        clear kp8 k88 K87 K7 HB7 HK6 HB6 KO6 K26 OO6 TI6 nm6 Q1 Q2 K86 K16
        go_wp2_with fail
        refine (ferfits_any Z fz uz fe ue (by omega) _ UZ.out).mono ?_
        rintro e w9 ⟨rfl, b9⟩
        have HKU := Lib.hid (HKT.out.then_ b9)
        have HBU := Lib.hid (HBT.out.trans (b9.mono HBT.out.size))
        have KO9 := Lib.hid (KO8.out.call b9)
        have K29 := Lib.hid (K28.out.call b9)
        have K89 := Lib.hid (K88.out.call b9)
        have OO9 := Lib.hid (own_kp OO8.out (kp_of b9 (fun _ => False)) (fun _ _ x => x))
        have NM9 := Lib.hid (NM8.out.call b9)
        have RZ9 := Lib.hid ((RZ.out.below b9).mono b9.size)
        have UZ9 := Lib.hid ((UZ.out.below b9).mono b9.size)
        clear b9 c8 l8 HKT HBT KO8 K28 K88 OO8 NM8 RZ UZ
        by_cases hfz : fitsB Z = true
        · rw [hfz]
          have HFZ := Lib.hid hfz
          clear hfz
          have lO := KO9.out.lt
          have cO := KO9.out.cell
          obtain ⟨g9, cap9, w10, r10, own10, k10⟩ := push_tick OO9.out (by omega) (by have := HKU.out.size; omega) oq l.length oqc
          have lo := fun c hc => World.ownsRow.lt OO9.out c hc
          have hOl := HOL.out
          have hX10 : Blk w10 p11 _ := k10.out KO9.out (fun e => by have := (lo p11 e).1; have := HSV.out; omega)
          obtain ⟨lX, cX, fX⟩ := id hX10
          have hst := hX10.store (i := 5) (.slice (some ⟨g9, 0, none⟩) (j + 1) cap9) (by simp)
          have HST := Lib.hid hst
          have kv : Kp (fun b => b = p8 ∨ b = p11 ∨ b = M) wc w10 := HKU.out.trans k10 (fun b hb e => by have := (lo b e).1; omega)
          have KV := Lib.hid (kv.andset ⟨p11, 5, none⟩ (.slice (some ⟨g9, 0, none⟩) (j + 1) cap9) (Or.inr (Or.inl rfl)))
          have HS10 := k10.size
          have K10 := Lib.hid k10
          have O10 := Lib.hid own10
          have LO := Lib.hid lo
          have hp8o : p8 < wc.heap.size := by have := HP11.out; have := HSV.out; omega
          have hMo : M < wc.heap.size := by have := HP11.out; have := HSV.out; omega
          have hwo : w.heap.size ≤ wc.heap.size := by have := HB5.out.size; omega
          clear k10 own10 lo hX10 hst kv
          go_wp2_with (at_builtin; refine list_run_append (by rfl) _ _ _ _ (by rfl) (by rfl) (by rfl) (by rfl) r10 ?_)
          go_roundw
          case rel =>
            refine ⟨j + 1, by go_num, by omega, ⟨v + (nb : Int), rfl, by omega, by omega⟩, fun i hi => ?_, ?_, KV.out, ⟨n6, s6, F6, by omega, ?_⟩, ?_, some ⟨g9, 0, none⟩, cap9, _, by simpa using HST.out, own_kp O10.out (Kp.setCell w10 ⟨p11, 5, none⟩ _) (fun b hb e => ?_), fun i hi => ?_⟩
            · by_cases e : i = j + 1
              · rw [e, HZ.out]; exact HFZ.out
              · exact INV.out.fits i (by omega)
            · exact (HBU.out.trans (K10.out.below (fun b e => by have := (LO.out b e).1; omega) HBU.out.size)).setCell (p := ⟨p11, 5, none⟩) (by have := HP11.out; have := HP8.out; show w.heap.size ≤ p11; omega) _
            · exact MapOf.set (show NM w10 M n6 s6 F6 from NM9.out.blk (K10.out.block M NM9.out.lt (fun e => by have := (LO.out M e).1; omega))) (by show M ≠ p11; have := HP11.out; omega) _
            · rw [HZ.out]
              have kq : Kp (fun b => (Value.slice oa j oc).ownBlock = some b ∨ b = p11) w9 (w10.setCell ⟨p11, 5, none⟩ (.slice (some ⟨g9, 0, none⟩) (j + 1) cap9)) := (K10.out.imp (fun b _ e => Or.inl e)).andset ⟨p11, 5, none⟩ _ (Or.inr rfl)
              refine ⟨fz, fe, uz, ue, kq.out K89.out ?_, (RZ9.out.keepQ (Nat.le_refl _) kq (fun _ b o e hq => ?_)).mono kq.size, (UZ9.out.keepQ (Nat.le_refl _) kq (fun _ b o e hq => ?_)).mono kq.size, fun _ b o e => AZ1.out b o e, fun _ b o e => AZ2.out b o e⟩
              · rintro (e | e)
                · have := (LO.out p8 e).1; omega
                · have := HP11.out; omega
              · rcases hq with hq | hq
                · have := HOL.out b hq; have := HZ1.out b o e; omega
                · exact (AZ1.out b o e).2 hq
              · rcases hq with hq | hq
                · have := HOL.out b hq; have := HZ2.out b o e; omega
                · exact (AZ2.out b o e).2 hq
            · have h1 := (World.ownsRow.lt O10.out b hb).1
              have h2 : b = p11 := e
              have := HSV.out
              omega
            · have hxl : xs.length = j := by have := OO9.out.1; omega
              by_cases e : i < j
              · obtain ⟨a, c, h1⟩ := HO.out i e
                exact ⟨a, c, by rw [List.getElem?_append_left (by omega)]; exact h1⟩
              · obtain rfl : i = j := by omega
                refine ⟨oq, oqc, ?_⟩
                rw [List.getElem?_append_right (by omega), hxl, Nat.sub_self, HL.out]
                rfl
          case measure => simp [intOf]; omega
        · have hff : fitsB Z = false := by simpa using hfz
          rw [hff]
          have HFF := Lib.hid hff
          clear hfz hff
          go_upto_region 22 with fail
          have l8 := K89.out.lt
          have c8 := K89.out.cell
          haveI := Kw.ne (fun b => b = w.heap.size + 1) w9
          have hp81 : p8 ≠ w.heap.size + 1 := by have := HP8.out; omega
          have kx1 : ∀ (x : Kw (fun b => b = w.heap.size + 1) w9) (o : Nat), x.w.cell? ⟨p8, o, none⟩ = w9.cell? ⟨p8, o, none⟩ := fun x o => x.cell _ _ l8 hp81
          refine region_mix 6 [(false, 0), (false, 1), (false, 2), (false, 3), (true, 4), (false, 5)] (kcl (fun b => b = w.heap.size + 1) w9 (fun x => Blk x (w.heap.size + 1) #[.int .i64 0, .int .i64 0, .int .i64 0, .int .i64 0, .slice none 0 0, .slice none 0 0] ∧ True) (fun _ _ h hb => ⟨h.1.call hb, trivial⟩)) ⟨Kp.drew _ _, K29.out, trivial⟩ (by kernel_rfl) (by kernel_rfl) ?_
          simp only [stepsOf, List.filterMap_cons, List.filterMap_nil, List.getElem?_toArray, List.getElem?_cons_zero, List.getElem?_cons_succ, Option.map_some, List.drop_succ_cons, List.drop_zero]
          repeat (refine mix_readK (fun K hK => ?_); go_simp; refine hK _ ?_; clear hK K)
          refine mix_store2 (X := fun b => b = w.heap.size + 1) (v := w9) (w.heap.size + 1) (z := #[.int .i64 0, .int .i64 0, .int .i64 0, .int .i64 0, .slice none 0 0, .slice none 0 0]) #[.int .i64 0, .int .i64 0, .int .i64 0, .int .i64 0, .slice none 0 0, .slice none 0 0] 69 (.tmp 4) (.tmp 92) (by rfl) (by rfl) (by rfl) (by rfl) (by rfl) (by rfl) infoReel6 (by simp [Value.oneCell']) (by rfl) (fun _ => True) (fun _ _ _ _ => trivial) (fun _ _ h hb => ⟨h.1.call hb, trivial⟩) ?_
          refine mix_readK (fun K hK => ?_); go_simp; refine hK _ ?_; clear hK K
          refine mix_nil ?_
          rintro Q ⟨kQ, bQ, -⟩
          have BQ := Lib.hid bQ
          have KQ := Lib.hid kQ
          clear bQ kQ kx1 c8 l8
          refine wpList_plain rfl (fun K hK => ?_); go_simp; refine hK _ _ ?_; clear hK K
          refine wpList_nil ?_
          go_wp2_with fail
          refine bodyPost_ret (v := .tuple #[.agg #[.int .i64 0, .int .i64 0, .int .i64 0, .int .i64 0, .slice none 0 0, .slice none 0 0], .int .i64 Z.tick, .iface 148 (.int .i64 (8 : Nat))]) (ret_cell3 Try.results74 rfl rfl rfl BQ.out Try.underlying69 rfl infoReel6) rfl ?_
          refine ⟨8, Z.tick, Or.inr (Or.inr ⟨HF0.out, ⟨by omega, by omega⟩, Or.inr ⟨rfl, m + (j + 1), by omega, by omega, by rw [HZ.out]; exact HFF.out, fun i h1 h2 => by have := INV.out.fits (i - m) (by omega); rwa [show m + (i - m) = i by omega] at this, by rw [HZ.out]⟩⟩), HBU.out.trans (KQ.out.below (fun b e => by have h2 : b = w.heap.size + 1 := e; omega) HBU.out.size), fun _ => by rw [errV_pos _ (by decide)], fun e => absurd e (by decide)⟩
      · obtain rfl : j = ts.length - m := by omega
        obtain ⟨oa, oc, xs, kO, oO, hO⟩ := INV.out.out
        obtain ⟨lO, cO, -⟩ := id kO
        obtain ⟨lN, cN, fN⟩ := id K2r.out
        have KO := Lib.hid kO
        have OO := Lib.hid oO
        have HO := Lib.hid hO
        clear kO oO hO
        go_wp2_with fail
        refine bodyPost_ret (v := .tuple #[.agg #[.int .i64 X.tick, .int .i64 X.g0, .int .i64 X.g1, .int .i64 ((X.us.length : Int) + 1), .slice ub X.us.length cb, .slice oa (ts.length - m) oc], .int .i64 0, .nilIface]) (ret_cell3 Try.results74 rfl rfl rfl (K2r.out.store6 rfl (.int .i64 X.tick) (.int .i64 X.g0) (.int .i64 X.g1) (.int .i64 ((X.us.length : Int) + 1)) (.slice ub X.us.length cb) (.slice oa (ts.length - m) oc)) Try.underlying69 rfl infoReel6) rfl ?_
        have k6 := kp_six (w := wr) (p := w.heap.size + 1) (.int .i64 X.tick) (.int .i64 X.g0) (.int .i64 X.g1) (.int .i64 ((X.us.length : Int) + 1)) (.slice ub X.us.length cb) (.slice oa (ts.length - m) oc)
        refine ⟨0, 0, Or.inr (Or.inr ⟨HF0.out, ⟨by omega, by omega⟩, Or.inl ⟨rfl, rfl, fun i h1 h2 => ?_⟩⟩), INV.out.bel.trans (k6.below (fun b e => by have h2 : b = w.heap.size + 1 := e; omega) INV.out.bel.size), fun e => absurd rfl e, fun _ => ⟨X, ub, cb, oa, oc, HXX.out.symm, rfl, ?_, fun i hi => ?_⟩⟩
        · have := INV.out.fits (i - m) (by omega)
          rwa [show m + (i - m) = i by omega] at this
        · have o1 := own_kp OW5.out INV.out.kp (fun b hb e => by
            obtain ⟨h1, h2, h3⟩ := OWA.out b hb
            have := HS3.out
            have := HP11'.out
            omega)
          exact own_base (own_kp o1 k6 (fun b hb e => by
            obtain ⟨h1, h2, h3⟩ := OWA.out b hb
            have h4 : b = w.heap.size + 1 := e
            have := HS3.out
            have := HP8.out
            omega)) (by have := HS3.out; have := HP8.out; omega)
        · have hi' : i < ts.length - m := by simpa using hi
          obtain ⟨a, c, hx⟩ := HO.out i hi'
          have hoo := OO.out
          rcases hoo.2 with ⟨-, h2⟩ | ⟨g0, cap0, cur0, h2, h3, -⟩
          · omega
          · cases h2
            have hg := World.ownsRow.lt hoo g0 rfl
            have hc := World.ownsRow.cellAt hoo i (by omega)
            refine ⟨g0, 0, a, c, rfl, by have := k6.size; omega, ?_⟩
            rw [Nat.zero_add]
            refine ((k6.cell g0 i hg.2 (fun e => ?_)).trans hc).trans hx
            have h4 : g0 = w.heap.size + 1 := e
            have := HB5.out.size
            have := HSV.out
            have := HP11.out
            have := HP8.out
            omega
end Go.Proofs.Ytlfljlhppigejaa
