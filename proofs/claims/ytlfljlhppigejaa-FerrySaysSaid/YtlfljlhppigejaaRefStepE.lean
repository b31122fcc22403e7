/-
  The walk of the document's StepElder. (Printed by gen_refstepe.py.)
-/
import Derived.Test.YtlfljlhppigejaaRefEnds
import Derived.Test.YtlfljlhppigejaaPackPlay
namespace Go.Proofs.Ytlfljlhppigejaa
open Go.RowKit
attribute [local go_sem] qOne qAt qUp qOneK

theorem blk_setCells {w : World} {p : Nat} {z c : Array Value} (hk : Blk w p z) (hsz : z.size = c.size) : Blk (w.setCells p 0 c.toList) p c := by
  have ht : w.there p 0 c.size := fun j hj => ⟨by rw [Nat.zero_add, hk.cell j, Array.getElem?_eq_getElem (by omega)]; rfl, by rw [Nat.zero_add]; exact hk.free j⟩
  have hfro : ∀ (l : List Value) (o : Nat) (v : World) (b : Addr), (v.setCells p o l).frozen? b = v.frozen? b := by
    intro l
    induction l with
    | nil => intro o v b; rfl
    | cons x l ih => intro o v b; exact (ih (o + 1) _ b).trans free_set
  refine ⟨Nat.lt_of_lt_of_le hk.lt (kp_setCells p _ 0 w).size, fun i => ?_, fun i => (hfro _ _ _ _).trans (hk.free i)⟩
  by_cases hic : i < c.size
  · have := World.rangeAt_setCells_same w p 0 c.toList (by simpa using ht) i c[i] (by simp [hic])
    rw [Nat.zero_add] at this
    rw [this, Array.getElem?_eq_getElem hic]
  · rw [World.cell?_setCells_out p c.toList 0 w ⟨p, i, none⟩ (fun _ _ => Or.inr (by simp; omega)), hk.cell i, Array.getElem?_eq_none (by omega), Array.getElem?_eq_none (by omega)]
section
variable {P : Program} {ops : Array Oper} {X : Nat → Prop} {v : World}
/-- A block that turns is written whole, while something else is kept. -/
theorem mix_store2 {L : Act → Cli (InK X v) → Prop} {a : Act} {o : Oper} {r : List (Bool × Oper)} (p : Nat) {z : Array Value} (c : Array Value) (ty : TypeId) (x y : Operand) (ho : o.op = .store ty x y) (hg : o.guard = none) (hd : o.dst = none)
    (hx : a.eval x = .pointer (some ⟨p, 0, none⟩)) (hy : a.eval y = .agg c) (hsz : z.size = c.size) (hi : (P.info? ty).map (·.size) = some c.size) (h1 : c.all (·.oneCell') = true) (hX : X p) (R2 : World → Prop) (h2 : ∀ w w', R2 w → Kp (fun b => b = p) w w' → R2 w')
    {hcl : ∀ w w', (Blk w p z ∧ R2 w) → Below w.heap.size w w' → (Blk w' p z ∧ R2 w')} (hcl' : ∀ w w', (Blk w p c ∧ R2 w) → Below w.heap.size w w' → (Blk w' p c ∧ R2 w'))
    (hk : wpMix P ops L r a (kcl X v (fun w => Blk w p c ∧ R2 w) hcl')) : wpMix P ops L ((true, o) :: r) a (kcl X v (fun w => Blk w p z ∧ R2 w) hcl) := by
  refine mix_write (ι := Unit) (fun _ => undef) (fun _ => kcl X v (fun w => Blk w p c ∧ R2 w) hcl') (by simp [Region.wanted, hg]) (fun w h => ?_) (fun _ => ?_)
  · have ht : w.there p 0 c.size := fun j hj => ⟨by rw [Nat.zero_add, h.2.1.cell j, Array.getElem?_eq_getElem (by omega)]; rfl, by rw [Nat.zero_add]; exact h.2.1.free j⟩
    refine ⟨(), w.setCells p 0 c.toList, Or.inr ⟨?_, rfl⟩, h.1.trans (kp_setCells p _ 0 w) (fun b _ hb => by rw [hb]; exact hX), blk_setCells h.2.1 hsz, h2 _ _ h.2.2 (kp_setCells p _ 0 w)⟩
    unfold execOp
    simp only [ho, hx, hy, Sem.run_bind, run_storeAt_mid w p 0 ty c ht hi h1, Result.andThen_ok]
    rfl
  · rw [show a.put o.dst undef = a from by rw [hd]; rfl]
    exact hk
end
/-- What the document's step hands back. -/
def RStepEnd (g : G) (cs : List Cm) (w : World) (e : Ending) (w' : World) : Prop :=
  Below w.heap.size w w' ∧ ((stepFault g cs ≠ 0 ∧ e = .returned (.tuple #[.agg #[.int .i64 0, .int .i64 0, .int .i64 0, .int .i64 0, .slice none 0 0, .slice none 0 0], .slice none 0 0, .int .i64 (stepFault g cs : Nat)])) ∨
    (stepFault g cs = 0 ∧ ∃ fv ev bv, e = .returned (.tuple #[.agg #[.int .i64 (stepE g cs).1.tick, .int .i64 (stepE g cs).1.g0, .int .i64 (stepE g cs).1.g1, .int .i64 (stepE g cs).1.next, fv, ev], bv, .int .i64 0]) ∧
      w'.ownsRow w.heap.size 3 1 fv (stepE g cs).1.free.length (intCells (stepE g cs).1.free) ∧ w'.ownsRow w.heap.size 179 10 ev (stepE g cs).1.us.length (cellsAll (stepE g cs).1.us) ∧ w'.ownsRow w.heap.size 3 1 bv (stepE g cs).2.length (intCells (stepE g cs).2)))
theorem right_end_few {g : G} {cs : List Cm} (hs : stepFault g cs = 0) (hn : g.new = false) : (stepE g cs).1.us.length ≤ 1000 := by
  have h1 := (right_iff _).1 (elder_law hn hs).right
  have := h1.few
  omega
theorem foldl_next {α β : Type} {l : List α} {k : Nat} (hk : k < l.length) (f : β → α → β) (s : β) (z x : α) (hx : l.getD k z = x) : (l.take (k + 1)).foldl f s = f ((l.take k).foldl f s) x := by
  rw [List.take_succ_eq_append_getElem hk, List.foldl_append]
  have : l[k] = x := by rw [← hx]; simp [List.getD, hk]
  rw [this]
  rfl

set_option maxHeartbeats 25600000 in
set_option maxRecDepth 100000 in
theorem refstepe_any (g : G) (fa ua la : Option Addr) (cf cu cl : Nat) (hlf : g.free.length ≤ 100000) (hlu : g.us.length ≤ 100000) (cs : List Cm) (hcl : cs.length ≤ 100000) (w : World) (hf : Row w.heap.size w fa g.free.length (fun k => .int .i64 (g.free.getD k 0))) (hu : URow false w.heap.size w ua g.us) (hc : CRow w.heap.size w la cs) :
    Calls Try.prog 57 #[.agg #[.int .i64 g.tick, .int .i64 g.g0, .int .i64 g.g1, .int .i64 g.next, .slice fa g.free.length cf, .slice ua g.us.length cu], .slice la cs.length cl] w (RStepEnd (backG false g) cs w) := by
  obtain ⟨W, hW⟩ : ∃ W, (w.alloc (.cells #[.int .i64 g.tick, .int .i64 g.g0, .int .i64 g.g1, .int .i64 g.next, .slice fa g.free.length cf, .slice ua g.us.length cu] 90)).alloc (.cells #[.int .i64 0, .int .i64 0, .int .i64 0, .int .i64 0, .slice none 0 0, .slice none 0 0] 90) = W := ⟨_, rfl⟩
  have hbW : Below w.heap.size w W := by rw [← hW]; exact ((Below.refl _ _).alloc (Nat.le_refl _) _).alloc (by simp) _
  have kS : Blk W w.heap.size #[.int .i64 g.tick, .int .i64 g.g0, .int .i64 g.g1, .int .i64 g.next, .slice fa g.free.length cf, .slice ua g.us.length cu] := by rw [← hW]; exact (Blk.new w _ _).alloc _
  have kR : Blk W (w.heap.size + 1) #[.int .i64 0, .int .i64 0, .int .i64 0, .int .i64 0, .slice none 0 0, .slice none 0 0] := by
    rw [← hW]
    have := Blk.new (w.alloc (.cells #[.int .i64 g.tick, .int .i64 g.g0, .int .i64 g.g1, .int .i64 g.next, .slice fa g.free.length cf, .slice ua g.us.length cu] 90)) #[.int .i64 0, .int .i64 0, .int .i64 0, .int .i64 0, .slice none 0 0, .slice none 0 0] 90
    rw [World.size_alloc] at this
    exact this
  have hsW := hbW.size
  obtain ⟨g0, hg0⟩ : ∃ v, backG false g = v := ⟨_, rfl⟩
  have hnew : g0.new = false := by rw [← hg0]; rfl
  have hOF := ofelder_any g fa ua cf cu hlf hlu W ((hf.below hbW).mono hsW) ((hu.below hbW).mono hsW)
  rw [hg0] at hOF ⊢
  have hfl : g0.free.length ≤ 100000 := by rw [← hg0]; exact hlf
  have hul : g0.us.length ≤ 100000 := by rw [← hg0]; show (g.us.map _).length ≤ _; rw [List.length_map]; exact hlu
  have htk : g.tick = g0.tick := by rw [← hg0]; rfl
  obtain ⟨n, hn⟩ : ∃ n, cs.length = n := ⟨_, rfl⟩
  have HN := Lib.hid hn
  have HOF := Lib.hid hOF
  have HNEW := Lib.hid hnew
  have HC := Lib.hid hc
  have HBW := Lib.hid hbW
  have HTK := Lib.hid htk
  have KS := Lib.hid kS
  have KR := Lib.hid kR
  obtain ⟨lS0, cS0, -⟩ := id kS
  rw [hn] at hcl
  have hn0 : (0 : Int) ≤ (n : Int) := by omega
  rw [show (Value.slice la cs.length cl) = .slice la n cl from by rw [hn]]
  clear hf hu hc hbW kS kR hg0 hOF hnew htk hn
  go_enter Try.func57, Try.ntmps57
  go_upto_region 1 with fail
  try rw [hW]
  clear hW
  go_wp2_with fail
  refine HOF.out.mono ?_
  rintro e w1 ⟨S, fv, uv, rfl, gr, hb1⟩
  have hFA := fault_game gr hfl hul
  have HB1 := Lib.hid (HBW.out.trans (hb1.mono hsW))
  have KRES := Lib.hid (KR.out.call hb1)
  have KS1 := Lib.hid (KS.out.call hb1)
  obtain ⟨lS1, cS1, -⟩ := id KS1.out
  have HGR := Lib.hid gr
  have HFA := Lib.hid hFA
  have hs1 := HB1.out.size
  have hsW1 := hb1.size
  have hKW := KR.out.lt
  clear gr hb1 hFA cS0 lS0
  go_wp2_with fail
  refine HFA.out.mono ?_
  rintro e w2 ⟨rfl, hb2⟩
  have HG2 := Lib.hid (HGR.out.call hb2)
  have HB2 := Lib.hid (HB1.out.trans (hb2.mono hs1))
  have KRES := Lib.hid (KRES.out.call hb2)
  have KS2 := Lib.hid (KS1.out.call hb2)
  obtain ⟨lR2, -, fR2⟩ := id KRES.out
  obtain ⟨lS2, cS2, -⟩ := id KS2.out
  have hs2 := HB2.out.size
  have hs12 := hb2.size
  obtain ⟨z0, z1, z2, z3, z4, z5⟩ : w2.cell? ⟨w.heap.size + 1, 0, none⟩ = some (.int .i64 0) ∧ w2.cell? ⟨w.heap.size + 1, 1, none⟩ = some (.int .i64 0) ∧ w2.cell? ⟨w.heap.size + 1, 2, none⟩ = some (.int .i64 0) ∧ w2.cell? ⟨w.heap.size + 1, 3, none⟩ = some (.int .i64 0) ∧ w2.cell? ⟨w.heap.size + 1, 4, none⟩ = some (.slice none 0 0) ∧ w2.cell? ⟨w.heap.size + 1, 5, none⟩ = some (.slice none 0 0) := ⟨KRES.out.cell 0, KRES.out.cell 1, KRES.out.cell 2, KRES.out.cell 3, KRES.out.cell 4, KRES.out.cell 5⟩
  clear hb2 cS1 lS1
  by_cases hfault : faultOf g0 = 0
  case neg =>
    obtain ⟨FF, hFF⟩ : ∃ x, faultOf g0 = x := ⟨_, rfl⟩
    rw [hFF] at hfault ⊢
    have HFF := Lib.hid hFF
    have d0 : decide ((0 : Int) < (FF : Int)) = true := decide_eq_true (by omega)
    have d0' : decide (0 < FF) = true := decide_eq_true (by omega)
    have HSF : Hid (stepFault g0 cs = FF) := Lib.hid (by show _ = _; unfold stepFault; rw [hFF, if_pos hfault])
    have HNF := Lib.hid hfault
    clear hfault hFF
    go_wp2_with fail
    refine bodyPost_ret (v := .tuple #[.agg #[.int .i64 0, .int .i64 0, .int .i64 0, .int .i64 0, .slice none 0 0, .slice none 0 0], .slice none 0 0, .int .i64 ((FF : Nat))]) (ret_cell3 Try.results57 rfl rfl rfl (KRES.out.store6 rfl (.int .i64 0) (.int .i64 0) (.int .i64 0) (.int .i64 0) (.slice none 0 0) (.slice none 0 0)) Try.underlying90 rfl infoElder) rfl ?_
    refine ⟨Below.six HB2.out (by omega) _ _ _ _ _ _, Or.inl ⟨by rw [HSF.out]; exact HNF.out, by rw [HSF.out]⟩⟩
  have HFZ := Lib.hid hfault
  have hright := (right_iff g0).1 hfault
  have HRG := Lib.hid hright
  rw [hfault]
  clear hfault hright
  by_cases hn8 : 8 < n
  case pos =>
    have d1 : decide ((8 : Int) < (n : Int)) = true := decide_eq_true (by omega)
    have HSF : Hid (stepFault g0 cs = 2) := Lib.hid (by show _ = _; unfold stepFault; rw [HFZ.out, if_neg (by simp), if_pos (Or.inl (by rw [HN.out]; exact hn8))])
    clear hn8
    go_wp2_with fail
    refine bodyPost_ret (v := .tuple #[.agg #[.int .i64 0, .int .i64 0, .int .i64 0, .int .i64 0, .slice none 0 0, .slice none 0 0], .slice none 0 0, .int .i64 (2)]) (ret_cell3 Try.results57 rfl rfl rfl (KRES.out.store6 rfl (.int .i64 0) (.int .i64 0) (.int .i64 0) (.int .i64 0) (.slice none 0 0) (.slice none 0 0)) Try.underlying90 rfl infoElder) rfl ?_
    refine ⟨Below.six HB2.out (by omega) _ _ _ _ _ _, Or.inl ⟨by rw [HSF.out]; decide, by rw [HSF.out]; rfl⟩⟩
  have d1 : decide ((8 : Int) < (n : Int)) = false := decide_eq_false (by omega)
  by_cases ht6 : g.tick = 60
  case pos =>
    have d2 : (g.tick == 60) = true := by simp [ht6]
    have HSF : Hid (stepFault g0 cs = 2) := Lib.hid (by show _ = _; unfold stepFault; rw [HFZ.out, if_neg (by simp), if_pos (Or.inr (by rw [← HTK.out]; exact ht6))])
    clear ht6
    go_wp2_with fail
    refine bodyPost_ret (v := .tuple #[.agg #[.int .i64 0, .int .i64 0, .int .i64 0, .int .i64 0, .slice none 0 0, .slice none 0 0], .slice none 0 0, .int .i64 (2)]) (ret_cell3 Try.results57 rfl rfl rfl (KRES.out.store6 rfl (.int .i64 0) (.int .i64 0) (.int .i64 0) (.int .i64 0) (.slice none 0 0) (.slice none 0 0)) Try.underlying90 rfl infoElder) rfl ?_
    refine ⟨Below.six HB2.out (by omega) _ _ _ _ _ _, Or.inl ⟨by rw [HSF.out]; decide, by rw [HSF.out]; rfl⟩⟩
  have d2 : (g.tick == 60) = false := by simp [ht6]
  have HSF : Hid (stepFault g0 cs = 0) := Lib.hid (by show _ = _; unfold stepFault; rw [HFZ.out, if_neg (by simp), if_neg (by rw [HN.out, ← HTK.out]; omega)])
  clear ht6
  have hfew := HRG.out.few
  obtain ⟨ua0, cu0, rfl, -, -, -⟩ := URow.of_ownN HG2.out.us
  have hIDS := refids_any S g0.new g0.us ua0 g0.us.length cu0 w2 (HG2.out.reads rfl (by omega))
  have HIDS := Lib.hid hIDS
  clear hIDS
  go_wp2_with fail
  refine HIDS.out.mono ?_
  rintro e V ⟨⟨oa, oc, rfl, oown⟩, hbV⟩
  have HOO := Lib.hid oown
  have hG := HG2.out.call hbV
  have HGV := Lib.hid hG
  have HBV := Lib.hid (HB2.out.trans (hbV.mono hs2))
  have KRV := Lib.hid (KRES.out.call hbV)
  have hsV := hbV.size
  obtain ⟨X, hX⟩ : ∃ X : Nat → Prop, X = fun c => (W.heap.size ≤ c ∧ c < w2.heap.size) ∨ V.heap.size ≤ c := ⟨_, rfl⟩
  have HX := Lib.hid hX
  have hInX : InX X S fv (.slice ua0 g0.us.length cu0) (.slice none 0 0) := by
    rw [hX]
    refine ⟨Or.inl ⟨HG2.out.base, HG2.out.blk.lt⟩, fun b hb => Or.inl (World.ownsRow.lt HG2.out.fr b hb), fun b hb => Or.inl (World.ownsRow.lt HG2.out.us b hb), fun b hb => (by cases hb)⟩
  have HIX0 := Lib.hid hInX
  have HXN : Hid (∀ z : World, V.heap.size ≤ z.heap.size → ∀ b, z.heap.size ≤ b → X b) := Lib.hid (fun z hz b hb => by rw [HX.out]; exact Or.inr (by omega))
  have HXL : Hid (∀ c, X c → W.heap.size ≤ c) := Lib.hid (fun c hc => by
    rw [HX.out] at hc
    rcases hc with h | h
    · exact h.1
    · omega)
  have HX2 : Hid (∀ c, w2.heap.size ≤ c → c < V.heap.size → ¬ X c) := Lib.hid (fun c h1 h2 hc => by
    rw [HX.out] at hc
    rcases hc with h | h
    · omega
    · omega)
  obtain ⟨oid, hoid⟩ : ∃ v, idList g0.us = v := ⟨_, rfl⟩
  have HOID := Lib.hid hoid
  clear hG hbV hX hInX z0 z1 z2 z3 z4 z5 fR2 lR2 cS2 oown hoid lS2
  go_wp2_with fail
  go_loopw [10, 11, 12, 63, 72, 79, 86, 97] (fun kv _ _ _ _ _ _ _ wr => ∃ k : Nat, kv = .int .i64 k ∧ k ≤ n ∧ (∃ fv1 uv1 bv1, GR wr W.heap.size S ((cs.take k).foldl cmdF (g0, [])).1 ((cs.take k).foldl cmdF (g0, [])).2 fv1 uv1 bv1 ∧ InX X S fv1 uv1 bv1 ∧ Kp X V wr)) (fun kv _ _ _ _ _ _ _ _ => (n - intOf kv).toNat)
  case atStart => exact ⟨0, rfl, by omega, _, _, _, HGV.out, HIX0.out, Kp.refl _ _⟩
  case round =>
    obtain ⟨k, rfl, hk, fv1, uv1, bv1, gr, ix, kr⟩ := hrel
    have hki : (0 : Int) ≤ (k : Int) := by omega
    obtain ⟨s, hs⟩ : ∃ s, (cs.take k).foldl cmdF (g0, []) = s := ⟨_, rfl⟩
    have hT : Track g0 s := by rw [← hs]; exact (Track.start HRG.out (fun h => by rw [HNEW.out] at h; cases h)).cmds _
    rw [hs] at gr
    have hszr := kr.size
    have hVr : Below w.heap.size w wr := HBV.out.trans (kr.below (fun c hc => by have := HXL.out c hc; omega) HBV.out.size)
    have HGRR := Lib.hid gr
    have HIXR := Lib.hid ix
    have HKR := Lib.hid kr
    have HS := Lib.hid hs
    have HT := Lib.hid hT
    have HVR := Lib.hid hVr
    have hfewr := hT.going.right.few
    have hbnr : s.2.length ≤ 1000 := by have := hT.many; omega
    clear gr ix kr hs hT hVr
    by_cases hlt : k < n
    · have hkl : (k : Int) < (n : Int) := by omega
      obtain ⟨c, hc⟩ : ∃ c, cs.getD k zeroC = c := ⟨_, rfl⟩
      obtain ⟨bl, ol, rfl, hblB, q0, q1, q2, q3, q4, q5, q6⟩ := (HC.out.below HVR.out).get k (by have := HN.out; omega) c hc
      have hblr : bl < wr.heap.size := by have := HVR.out.size; omega
      have hstep := foldl_next (l := cs) (k := k) (by have := HN.out; omega) cmdF (g0, []) zeroC c hc
      rw [HS.out] at hstep
      have HSTEP := Lib.hid hstep
      clear hc hstep
      go_upto_region 12 with fail
      refine gen_world (fun Z => Below wr.heap.size wr Z ∧ Blk Z wr.heap.size #[.int .i64 c.player, .int .i64 c.op, .int .i64 c.id, .int .i64 c.kind, .int .i64 c.x, .int .i64 c.y, .int .i64 c.target]) ⟨(Below.refl _ _).alloc (Nat.le_refl _) _, Blk.new wr _ _⟩ ?_
      rintro w3 ⟨hb3, kC⟩
      obtain ⟨pc, hpc⟩ : ∃ x, wr.heap.size = x := ⟨_, rfl⟩
      rw [hpc] at kC
      try rw [hpc]
      have hG3 := HGRR.out.call hb3
      obtain ⟨ua3, cu3, e3, -, -, -⟩ := URow.of_ownN hG3.us
      subst e3
      have hR3 := hG3.reads rfl (by omega)
      have hWHO := hR3.who c.id ⟨w3, Below.refl _ _⟩
      dsimp only at hWHO
      obtain ⟨IX, hIX⟩ : ∃ x, ixOf s.1.us c.id = x := ⟨_, rfl⟩
      have hir := ixOf_range s.1.us c.id
      rw [hIX] at hWHO hir
      obtain ⟨hir1, hir2⟩ := hir
      obtain ⟨lC, cC, -⟩ := id kC
      have c63 := hR3.c6
      have lS3 := hR3.lt
      have HKC := Lib.hid kC
      have HWHO := Lib.hid hWHO
      have HIX := Lib.hid hIX
      have HG3 := Lib.hid hG3
      have HR3 := Lib.hid hR3
      have hK3 := HKR.out.then_ hb3
      have HK3 := Lib.hid hK3
      have hs3 := hb3.size
      have HSKIP : Hid (cmdF s c = s → ∀ Z, Below w3.heap.size w3 Z → ∃ k_1 : Nat, Value.int IntKind.i64 ((k : Int) + 1) = Value.int IntKind.i64 (k_1 : Int) ∧ k_1 ≤ n ∧ (∃ fv1 uv1 bv1, GR Z W.heap.size S ((cs.take k_1).foldl cmdF (g0, [])).1 ((cs.take k_1).foldl cmdF (g0, [])).2 fv1 uv1 bv1 ∧ InX X S fv1 uv1 bv1 ∧ Kp X V Z)) := Lib.hid (fun e Z hZ => by
        refine ⟨k + 1, by go_num, by omega, fv1, _, bv1, ?_, HIXR.out, HK3.out.then_ hZ⟩
        rw [HSTEP.out, e]
        exact HG3.out.call hZ)
      clear hb3 kC hpc hG3 hR3 hWHO hIX hK3 q0 q1 q2 q3 q4 q5 q6
      go_wp2_with fail
      refine HWHO.out.mono ?_
      rintro e w' ⟨rfl, rfl⟩
      by_cases hx : IX < 0
      case pos =>
        have dx : decide (IX < 0) = true := decide_eq_true hx
        have HXX := Lib.hid hx
        clear hx
        go_upto_region 13 with fail
        haveI := Cw.ne w3
        have hcw := fun (x : Cw w3) => x.cell
        refine region_cw (by kernel_rfl) (by kernel_rfl) ?_
        repeat (go_big_quiet_step (fail))
        refine wpQuiet_nil ?_
        intro Z hZ
        have HZ := Lib.hid hZ
        clear hZ hcw
        go_wp2_with fail
        go_roundw
        case rel => exact HSKIP.out (cmd_skip (Or.inl (by rw [HIX.out]; exact HXX.out))) _ HZ.out
        case measure => simp [intOf]; omega
      have dx : decide (IX < 0) = false := decide_eq_false hx
      obtain ⟨i, rfl⟩ := Int.eq_ofNat_of_zero_le (show 0 ≤ IX by omega)
      clear hx hir1
      have hi0 : (0 : Int) ≤ (i : Int) := by omega
      obtain ⟨u, hu⟩ : ∃ u, s.1.us.getD i zeroU = u := ⟨_, rfl⟩
      have hil : i < s.1.us.length := by omega
      have hget : s.1.us[i]? = some u := by rw [List.getElem?_eq_getElem hil, ← getD_lt hil, hu]
      obtain ⟨b, o, ea, hbB, q0, q1, -⟩ := HR3.out.row.getN i hil u hu
      subst ea
      have HU := Lib.hid (⟨hu, hget⟩ : s.1.us.getD i zeroU = u ∧ s.1.us[i]? = some u)
      clear hu hget hil
      by_cases hpl : u.owner = c.player
      case neg =>
        have dp : (u.owner != c.player) = true := by simp [hpl]
        have HP := Lib.hid hpl
        clear hpl
        go_upto_region 13 with fail
        haveI := Cw.ne w3
        have hcw := fun (x : Cw w3) => x.cell
        refine region_cw (by kernel_rfl) (by kernel_rfl) ?_
        repeat (go_big_quiet_step (fail))
        refine wpQuiet_nil ?_
        intro Z hZ
        have HZ := Lib.hid hZ
        clear hZ hcw
        go_wp2_with fail
        go_roundw
        case rel => exact HSKIP.out (cmd_skip (Or.inr (by rw [HIX.out, Int.toNat_natCast, HU.out.1]; exact HP.out))) _ HZ.out
        case measure => simp [intOf]; omega
      have dp : (u.owner != c.player) = false := by simp [hpl]
      have HDO := Lib.hid (cmd_do (s := s) (c := c) HIX.out HU.out.1 hpl)
      clear hpl
      go_upto_region 13 with fail
      haveI := Cw.ne w3
      have hcw := fun (x : Cw w3) => x.cell
      refine region_cw (by kernel_rfl) (by kernel_rfl) ?_
      repeat (go_big_quiet_step (fail))
      refine wpQuiet_nil ?_
      intro Z hZ
      have hGZ := HG3.out.call hZ
      have HGZ := Lib.hid hGZ
      have HKZ := Lib.hid (HK3.out.then_ hZ)
      obtain ⟨lCZ, cCZ, -⟩ := id (HKC.out.call hZ)
      have HZ := Lib.hid hZ
      have hsZ := hZ.size
      have HNEXT : Hid (∀ (w5 : World) (fv5 uv5 bv5 : Value), GR w5 W.heap.size S (cmdF s c).1 (cmdF s c).2 fv5 uv5 bv5 → InX X S fv5 uv5 bv5 → Kp X Z w5 → ∃ k_1 : Nat, Value.int IntKind.i64 ((k : Int) + 1) = Value.int IntKind.i64 (k_1 : Int) ∧ k_1 ≤ n ∧ (∃ fv1 uv1 bv1, GR w5 W.heap.size S ((cs.take k_1).foldl cmdF (g0, [])).1 ((cs.take k_1).foldl cmdF (g0, [])).2 fv1 uv1 bv1 ∧ InX X S fv1 uv1 bv1 ∧ Kp X V w5)) := Lib.hid (fun w5 fv5 uv5 bv5 h1 h2 h3 => by
        refine ⟨k + 1, by go_num, by omega, fv5, uv5, bv5, ?_, h2, HKZ.out.trans h3 (fun _ _ h => h)⟩
        rw [HSTEP.out]
        exact h1)
      have HXNZ := Lib.hid (HXN.out Z (by have := HKZ.out.size; omega))
      clear hZ hcw hGZ q0 q1 c63 lS3 cC lC
      by_cases o1 : c.op = 1
      · have d1 : (c.op == 1) = true := by simp [o1]
        have hd : cmdF s c = withUs s (goesF s.1.new s.1.us i c.x c.y) := by rw [HDO.out, if_pos o1]
        have HD := Lib.hid hd
        clear o1 hd
        rw [HD.out] at HNEXT
        have HC1 := Lib.hid (refgoes_any W.heap.size S s.1 s.2 _ _ _ i u c.x c.y Z HGZ.out HU.out.2)
        go_wp2_with fail
        refine HC1.out.mono ?_
        rintro e w5 hend
        obtain ⟨rfl, kX, fv5, uv5, bv5, g5, iX⟩ := gone_turn hend HIXR.out
        have KX := Lib.hid kX
        have G5 := Lib.hid g5
        have IX5 := Lib.hid iX
        clear kX g5 iX hend
        go_wp2_with fail
        go_roundw
        case rel => exact HNEXT.out w5 fv5 uv5 bv5 G5.out IX5.out KX.out
        case measure => simp [intOf]; omega
      have d1 : (c.op == 1) = false := by simp [o1]
      by_cases o2 : c.op = 2
      · have d2 : (c.op == 2) = true := by simp [o2]
        have hd : cmdF s c = withUs s (aimsF s.1.new s.1.us i c.target 2) := by rw [HDO.out, if_neg o1, if_pos o2]
        have HD := Lib.hid hd
        clear o1 o2 hd
        rw [HD.out] at HNEXT
        have HC1 := Lib.hid (refaims_any W.heap.size S s.1 s.2 _ _ _ i u c.target 2 Z HGZ.out HU.out.2 (by omega))
        go_wp2_with fail
        refine HC1.out.mono ?_
        rintro e w5 hend
        obtain ⟨rfl, kX, fv5, uv5, bv5, g5, iX⟩ := gone_turn hend HIXR.out
        have KX := Lib.hid kX
        have G5 := Lib.hid g5
        have IX5 := Lib.hid iX
        clear kX g5 iX hend
        go_wp2_with fail
        go_roundw
        case rel => exact HNEXT.out w5 fv5 uv5 bv5 G5.out IX5.out KX.out
        case measure => simp [intOf]; omega
      have d2 : (c.op == 2) = false := by simp [o2]
      by_cases o3 : c.op = 3
      · have d3 : (c.op == 3) = true := by simp [o3]
        have hd : cmdF s c = withUs s (aimsF s.1.new s.1.us i c.target 3) := by rw [HDO.out, if_neg o1, if_neg o2, if_pos o3]
        have HD := Lib.hid hd
        clear o1 o2 o3 hd
        rw [HD.out] at HNEXT
        have HC1 := Lib.hid (refaims_any W.heap.size S s.1 s.2 _ _ _ i u c.target 3 Z HGZ.out HU.out.2 (by omega))
        go_wp2_with fail
        refine HC1.out.mono ?_
        rintro e w5 hend
        obtain ⟨rfl, kX, fv5, uv5, bv5, g5, iX⟩ := gone_turn hend HIXR.out
        have KX := Lib.hid kX
        have G5 := Lib.hid g5
        have IX5 := Lib.hid iX
        clear kX g5 iX hend
        go_wp2_with fail
        go_roundw
        case rel => exact HNEXT.out w5 fv5 uv5 bv5 G5.out IX5.out KX.out
        case measure => simp [intOf]; omega
      have d3 : (c.op == 3) = false := by simp [o3]
      by_cases o4 : c.op = 4
      · have d4 : (c.op == 4) = true := by simp [o4]
        have hd : cmdF s c = buildsF s i c.kind c.x c.y := by rw [HDO.out, if_neg o1, if_neg o2, if_neg o3, if_pos o4]
        have HD := Lib.hid hd
        clear o1 o2 o3 o4 hd
        rw [HD.out] at HNEXT
        have HC1 := Lib.hid (refbuilds_any W.heap.size S s.1 s.2 _ _ _ i u c.kind c.x c.y X Z HGZ.out HT.out.going.right HU.out.2 hbnr HIXR.out HXNZ.out)
        go_wp2_with fail
        refine HC1.out.mono ?_
        rintro e w5 hend
        obtain ⟨rfl, kX, fv5, uv5, bv5, g5, iX⟩ := id hend
        have KX := Lib.hid kX
        have G5 := Lib.hid g5
        have IX5 := Lib.hid iX
        clear kX g5 iX hend
        go_wp2_with fail
        go_roundw
        case rel => exact HNEXT.out w5 fv5 uv5 bv5 G5.out IX5.out KX.out
        case measure => simp [intOf]; omega
      have d4 : (c.op == 4) = false := by simp [o4]
      by_cases o5 : c.op = 5
      · have d5 : (c.op == 5) = true := by simp [o5]
        have hd : cmdF s c = withUs s (s.1.us.set i (tellU u 0 0 0 0)) := by rw [HDO.out, if_neg o1, if_neg o2, if_neg o3, if_neg o4, if_pos o5]
        have HD := Lib.hid hd
        clear o1 o2 o3 o4 o5 hd
        rw [HD.out] at HNEXT
        have HC1 := Lib.hid (reftell_any W.heap.size S s.1 s.2 _ _ _ i u 0 0 0 0 Z HGZ.out HU.out.2)
        go_wp2_with fail
        refine HC1.out.mono ?_
        rintro e w5 hend
        obtain ⟨rfl, kX, fv5, uv5, bv5, g5, iX⟩ := gone_turn hend HIXR.out
        have KX := Lib.hid kX
        have G5 := Lib.hid g5
        have IX5 := Lib.hid iX
        clear kX g5 iX hend
        go_wp2_with fail
        go_roundw
        case rel => exact HNEXT.out w5 fv5 uv5 bv5 G5.out IX5.out KX.out
        case measure => simp [intOf]; omega
      have d5 : (c.op == 5) = false := by simp [o5]
      have hd : cmdF s c = s := by rw [HDO.out, if_neg o1, if_neg o2, if_neg o3, if_neg o4, if_neg o5]
      have HD := Lib.hid hd
      clear o1 o2 o3 o4 o5 hd
      go_wp2_with fail
      go_roundw
      case rel => exact HSKIP.out HD.out _ HZ.out
      case measure => simp [intOf]; omega
    · obtain rfl : k = n := by omega
      have hct : cs.take k = cs := by rw [← HN.out, List.take_length]
      have hsE : stepE g0 cs = (endF s.1 oid, s.2) := by
        unfold stepE
        rw [← HS.out, hct, HOID.out]
      have HSE := Lib.hid hsE
      have hoR : Row wr.heap.size wr oa g0.us.length (fun q => .int .i64 (oid.getD q 0)) := by
        have h1 := own_kp HOO.out HKR.out (fun b hb => HX2.out b (World.ownsRow.lt HOO.out b hb).1 (World.ownsRow.lt HOO.out b hb).2)
        rw [HOID.out] at h1
        exact ints_in (by rw [← HOID.out]; simp [idList]) h1
      have hE := refends_any W.heap.size S s.1 s.2 fv1 uv1 bv1 oid oa g0.us.length oc wr HGRR.out HT.out.going.right (by rw [← HOID.out]; simp [idList]) (by omega) hoR (fun b o e hb => by
        have h0 := World.ownsRow.lt HOO.out b (by rw [e]; rfl)
        have h1 := HX2.out b h0.1 h0.2
        exact ⟨fun h => h1 (by rw [h]; exact HIXR.out.s), fun h => h1 (HIXR.out.f b h), fun h => h1 (HIXR.out.e b h)⟩)
      have HE := Lib.hid hE
      have HGE := Lib.hid (right_end_few HSF.out HNEW.out)
      clear hct hsE hoR hE
      go_wp2_with fail
      refine HE.out.mono ?_
      rintro e w5 ⟨rfl, hb5, fv5, uv5, g5⟩
      obtain ⟨gE, hgE⟩ : ∃ v, endF s.1 oid = v := ⟨_, rfl⟩
      rw [hgE] at g5
      have hbn5 : gE.us.length ≤ 1000 := by
        have h1 := HGE.out
        rw [HSE.out] at h1
        rw [← hgE]
        exact h1
      obtain ⟨fa5, fc5, rfl⟩ := own_slice g5.fr
      obtain ⟨ba5, bc5, rfl⟩ := own_slice g5.bo
      have HGE2 := Lib.hid hgE
      have HG5 := Lib.hid g5
      have HB5 := Lib.hid hb5
      have hP5 := ((KRV.out.kp HKR.out (fun h => by have := HXL.out _ h; omega)).below hb5 hKW)
      have HP5 := Lib.hid hP5
      have c75 : w5.cell? ⟨S, 7, none⟩ = some (.slice ba5 s.2.length bc5) := g5.blk.cell 7
      have lS5 := g5.blk.lt
      have hs5 := hb5.size
      have hbT : Below w.heap.size w w5 := HVR.out.trans (hb5.mono (by omega))
      have HBT := Lib.hid hbT
      clear hgE g5 hb5 hP5 hbT
      go_upto_region 26 with fail
      have hPS : S ≠ w.heap.size + 1 := by have := HG5.out.base; omega
      have bfr := fun c hc => (World.ownsRow.lt HG5.out.fr c hc).1
      have bus := fun c hc => (World.ownsRow.lt HG5.out.us c hc).1
      have bbo := fun c hc => (World.ownsRow.lt HG5.out.bo c hc).1
      haveI := Kw.ne (fun b => b = w.heap.size + 1) w5
      have kx1 : ∀ x : Kw (fun b => b = w.heap.size + 1) w5, x.w.cell? ⟨S, 7, none⟩ = some (.slice ba5 s.2.length bc5) := fun x => (x.cell _ _ lS5 hPS).trans c75
      refine region_mix 7 [(false, 0), (false, 2), (false, 3), (false, 4), (false, 5), (true, 1), (true, 6)] (kcl (fun b => b = w.heap.size + 1) w5 (fun x => Blk x (w.heap.size + 1) #[.int .i64 0, .int .i64 0, .int .i64 0, .int .i64 0, .slice none 0 0, .slice none 0 0]) (fun _ _ h hb => h.call hb)) ⟨Kp.drew _ _, HP5.out⟩ (by kernel_rfl) (by kernel_rfl) ?_
      simp only [stepsOf, List.filterMap_cons, List.filterMap_nil, List.getElem?_toArray, List.getElem?_cons_zero, List.getElem?_cons_succ, Option.map_some, List.drop_succ_cons, List.drop_zero]
      repeat (refine mix_readK (fun K hK => ?_); go_simp; refine hK _ ?_; clear hK K)
      refine mix_call (ι := Option Addr × Nat) (fun q => .agg #[.int .i64 gE.tick, .int .i64 gE.g0, .int .i64 gE.g1, .int .i64 gE.next, .slice fa5 gE.free.length fc5, .slice q.1 gE.us.length q.2]) (fun q => kcl (fun b => b = w.heap.size + 1) w5 (fun x => Blk x (w.heap.size + 1) #[.int .i64 0, .int .i64 0, .int .i64 0, .int .i64 0, .slice none 0 0, .slice none 0 0] ∧ x.ownsRow w5.heap.size 179 10 (.slice q.1 gE.us.length q.2) gE.us.length (cellsAll gE.us)) (fun x x' h hb => ⟨h.1.call hb, own_kp h.2 (kp_of hb (fun _ => False)) (fun _ _ y => y)⟩)) 121 #[.pointer (some ⟨S, 0, none⟩)] rfl (fun x => by simp [go_sem]) (fun x hx => ?_) (fun q => ?_)
      · refine (refelder_any W.heap.size S gE s.2 fa5 gE.free.length fc5 uv5 (.slice ba5 s.2.length bc5) x (HG5.out.kp hx.1 hPS (fun c hc e => by have := bfr c hc; omega) (fun c hc e => by have := bus c hc; omega) (fun c hc e => by have := bbo c hc; omega)) hbn5).mono ?_
        rintro e x' ⟨⟨a, c, rfl, ho⟩, hb⟩
        exact ⟨(a, c), rfl, hx.1.then_ hb, hx.2.call hb, own_base ho hx.1.size⟩
      dsimp only
      refine mix_store2 (X := fun b => b = w.heap.size + 1) (v := w5) (w.heap.size + 1) (z := #[.int .i64 0, .int .i64 0, .int .i64 0, .int .i64 0, .slice none 0 0, .slice none 0 0]) #[.int .i64 gE.tick, .int .i64 gE.g0, .int .i64 gE.g1, .int .i64 gE.next, .slice fa5 gE.free.length fc5, .slice q.1 gE.us.length q.2] 90 (.tmp 4) (.tmp 106) (by rfl) (by rfl) (by rfl) (by rfl) (by rfl) (by rfl) infoElder (by simp [Value.oneCell']) (by rfl) (fun x => x.ownsRow w5.heap.size 179 10 (.slice q.1 gE.us.length q.2) gE.us.length (cellsAll gE.us)) (fun x x' h hk => own_kp h hk (fun c hc e => by have h1 := (World.ownsRow.lt h c hc).1; omega)) (fun x x' h hb => ⟨h.1.call hb, own_kp h.2 (kp_of hb (fun _ => False)) (fun _ _ y => y)⟩) ?_
      refine mix_nil ?_
      rintro Q ⟨kQ, bQ, oQ⟩
      have o1 := own_kp HG5.out.fr kQ (fun c hc e => by have := bfr c hc; omega)
      have o3 := own_kp HG5.out.bo kQ (fun c hc e => by have := bbo c hc; omega)
      have o2 : Q.ownsRow W.heap.size 179 10 (.slice q.1 gE.us.length q.2) gE.us.length (cellsAll gE.us) := own_base oQ (by omega)
      have hQ : Below w.heap.size w Q := HBT.out.trans (kQ.below (fun b h => by have h2 : b = w.heap.size + 1 := h; omega) HBT.out.size)
      have BQ := Lib.hid bQ
      have O1 := Lib.hid o1
      have O2 := Lib.hid o2
      have O3 := Lib.hid o3
      have HQ := Lib.hid hQ
      clear kQ oQ bQ o1 o2 o3 hQ kx1 c75
      refine wpList_plain rfl (fun K hK => ?_); go_simp; refine hK _ _ ?_; clear hK K
      refine wpList_plain rfl (fun K hK => ?_); go_simp; refine hK _ _ ?_; clear hK K
      refine wpList_nil ?_
      go_wp2_with fail
      refine bodyPost_ret (v := .tuple #[.agg #[.int .i64 gE.tick, .int .i64 gE.g0, .int .i64 gE.g1, .int .i64 gE.next, .slice fa5 gE.free.length fc5, .slice q.1 gE.us.length q.2], .slice ba5 s.2.length bc5, .int .i64 0]) (ret_cell3 Try.results57 rfl rfl rfl BQ.out Try.underlying90 rfl infoElder) rfl ?_
      refine ⟨HQ.out, Or.inr ⟨HSF.out, .slice fa5 gE.free.length fc5, .slice q.1 gE.us.length q.2, .slice ba5 s.2.length bc5, ?_, ?_, ?_, ?_⟩⟩
      · rw [HSE.out, HGE2.out]
      · rw [HSE.out, HGE2.out]; exact own_base O1.out hsW
      · rw [HSE.out, HGE2.out]; exact own_base O2.out hsW
      · rw [HSE.out]; exact own_base O3.out hsW
end Go.Proofs.Ytlfljlhppigejaa
