/-
  The walk of the document's StepNewer. (Printed by gen_refstepn.py.)
-/
import Derived.Test.YtlfljlhppigejaaRefEnds
import Derived.Test.YtlfljlhppigejaaPackLast
import Derived.Test.YtlfljlhppigejaaPackTell
namespace Go.Proofs.Ytlfljlhppigejaa
open Go.RowKit
attribute [local go_sem] qOne qAt qUp qOneK

/-- What the document's step hands back. -/
def RNStepEnd (g : G) (cs : List Cm) (w : World) (e : Ending) (w' : World) : Prop :=
  Below w.heap.size w w' ∧ ((stepFault g cs ≠ 0 ∧ e = .returned (.tuple #[.agg #[.int .i64 0, .int .i64 0, .int .i64 0, .int .i64 0, .slice none 0 0], .int .i64 (stepFault g cs : Nat)])) ∨
    (stepFault g cs = 0 ∧ ∃ ua cu, e = .returned (.tuple #[.agg #[.int .i64 (stepN g cs).tick, .int .i64 (stepN g cs).g0, .int .i64 (stepN g cs).g1, .int .i64 (stepN g cs).next, .slice ua (stepN g cs).us.length cu], .int .i64 0]) ∧
      w'.ownsRow w.heap.size 130 11 (.slice ua (stepN g cs).us.length cu) (stepN g cs).us.length (cellsAllN (stepN g cs).us)))
theorem belowFive {B : Nat} {w w' : World} {p : Nat} (h : Below B w w') (hp : B ≤ p) (v0 v1 v2 v3 v4 : Value) : Below B w (((((w'.setCell ⟨p, 0, none⟩ v0).setCell ⟨p, 1, none⟩ v1).setCell ⟨p, 2, none⟩ v2).setCell ⟨p, 3, none⟩ v3).setCell ⟨p, 4, none⟩ v4) :=
  ((((h.setCell (p := ⟨p, 0, none⟩) hp v0).setCell (p := ⟨p, 1, none⟩) hp v1).setCell (p := ⟨p, 2, none⟩) hp v2).setCell (p := ⟨p, 3, none⟩) hp v3).setCell (p := ⟨p, 4, none⟩) hp v4
theorem back_true {g : G} (hn : g.new = true) (hf : g.free = []) : backG true g = g := by
  cases g
  dsimp only at hn hf
  subst hn hf
  unfold backG
  dsimp only
  congr 1
  exact List.map_id _
theorem ord_skip {s : GB} {c : Cm} (h : ixOf s.1.us c.id < 0 ∨ (s.1.us.getD (ixOf s.1.us c.id).toNat zeroU).owner ≠ c.player) : ordF s c = s := by
  unfold ordF
  rw [if_pos h]
theorem ord_do {s : GB} {c : Cm} {k : Nat} {u : U} (h : ixOf s.1.us c.id = k) (hu : s.1.us.getD k zeroU = u) (ho : u.owner = c.player) : ordF s c =
    if c.op = 1 then withUs s (goesF s.1.new s.1.us k c.x c.y)
    else if c.op = 2 then
      if ixOf s.1.us c.target < 0 then s
      else withUs s (aimsF s.1.new s.1.us k c.target (mayDo s.1.new u (s.1.us.getD (ixOf s.1.us c.target).toNat zeroU)))
    else if c.op = 3 then buildsF s k c.kind c.x c.y
    else if c.op = 4 then withUs s (s.1.us.set k (tellU u 0 0 0 0))
    else s := by
  unfold ordF
  rw [if_neg (by rw [h, Int.toNat_natCast, hu]; rintro (e | e); omega; exact e ho), h, Int.toNat_natCast, hu]
theorem rightN_end_few {g : G} {cs : List Cm} (hs : stepFault g cs = 0) (hn : g.new = true) (hf : g.free = []) : (stepN g cs).us.length ≤ 1000 := by
  have h1 := (right_iff _).1 (newer_law hn hf hs).right
  have := h1.few
  omega
theorem foldl_nextN {α β : Type} {l : List α} {k : Nat} (hk : k < l.length) (f : β → α → β) (s : β) (z x : α) (hx : l.getD k z = x) : (l.take (k + 1)).foldl f s = f ((l.take k).foldl f s) x := by
  rw [List.take_succ_eq_append_getElem hk, List.foldl_append]
  have : l[k] = x := by rw [← hx]; simp [List.getD, hk]
  rw [this]
  rfl

set_option maxHeartbeats 25600000 in
set_option maxRecDepth 100000 in
theorem refstepn_any (g : G) (ua la : Option Addr) (cu cl : Nat) (hgn : g.new = true) (hgf : g.free = []) (hlu : g.us.length ≤ 100000) (cs : List Cm) (hcl : cs.length ≤ 100000) (hkt : ∀ c ∈ cs, c.kind = c.target) (w : World) (hu : URow true w.heap.size w ua g.us) (hc : ORow w.heap.size w la cs) :
    Calls Try.prog 45 #[.agg #[.int .i64 g.tick, .int .i64 g.g0, .int .i64 g.g1, .int .i64 g.next, .slice ua g.us.length cu], .slice la cs.length cl] w (RNStepEnd g cs w) := by
  obtain ⟨W, hW⟩ : ∃ W, (w.alloc (.cells #[.int .i64 g.tick, .int .i64 g.g0, .int .i64 g.g1, .int .i64 g.next, .slice ua g.us.length cu] 65)).alloc (.cells #[.int .i64 0, .int .i64 0, .int .i64 0, .int .i64 0, .slice none 0 0] 65) = W := ⟨_, rfl⟩
  have hbW : Below w.heap.size w W := by rw [← hW]; exact ((Below.refl _ _).alloc (Nat.le_refl _) _).alloc (by simp) _
  have kS : Blk W w.heap.size #[.int .i64 g.tick, .int .i64 g.g0, .int .i64 g.g1, .int .i64 g.next, .slice ua g.us.length cu] := by rw [← hW]; exact (Blk.new w _ _).alloc _
  have kR : Blk W (w.heap.size + 1) #[.int .i64 0, .int .i64 0, .int .i64 0, .int .i64 0, .slice none 0 0] := by
    rw [← hW]
    have := Blk.new (w.alloc (.cells #[.int .i64 g.tick, .int .i64 g.g0, .int .i64 g.g1, .int .i64 g.next, .slice ua g.us.length cu] 65)) #[.int .i64 0, .int .i64 0, .int .i64 0, .int .i64 0, .slice none 0 0] 65
    rw [World.size_alloc] at this
    exact this
  have hsW := hbW.size
  have hOF0 := ofnewer_any g ua cu hlu W ((hu.below hbW).mono hsW)
  rw [back_true hgn hgf] at hOF0
  obtain ⟨g0, hg0⟩ : ∃ v : G, v = g := ⟨_, rfl⟩
  have hOF : Calls Try.prog 47 #[.agg #[.int .i64 g.tick, .int .i64 g.g0, .int .i64 g.g1, .int .i64 g.next, .slice ua g.us.length cu]] W (OfEnd g0 W) := by rw [hg0]; exact hOF0
  clear hOF0
  have hnew : g0.new = true := by rw [hg0]; exact hgn
  have hfree : g0.free = [] := by rw [hg0]; exact hgf
  have hfl : g0.free.length ≤ 100000 := by rw [hfree]; exact Nat.zero_le _
  have hul : g0.us.length ≤ 100000 := by rw [hg0]; exact hlu
  have htk : g.tick = g0.tick := by rw [hg0]
  rw [show RNStepEnd g cs w = RNStepEnd g0 cs w from by rw [hg0]]
  have HFREE := Lib.hid hfree
  have HKT := Lib.hid hkt
  obtain ⟨n, hn⟩ : ∃ n, cs.length = n := ⟨_, rfl⟩
  have HN := Lib.hid hn
  have HOF := Lib.hid hOF
  have HNEW := Lib.hid hnew
  have HC := Lib.hid hc
  have HBW := Lib.hid hbW
  have HTK := Lib.hid htk
  have KS := Lib.hid kS
  have KR := Lib.hid kR
  obtain ⟨lS0, cS0, -⟩ := id kS
  rw [hn] at hcl
  have hn0 : (0 : Int) ≤ (n : Int) := by omega
  rw [show (Value.slice la cs.length cl) = .slice la n cl from by rw [hn]]
  clear hu hc hbW kS kR hg0 hOF hnew htk hn hfree hkt hgn hgf
  go_enter Try.func45, Try.ntmps45
  go_upto_region 1 with fail
  try rw [hW]
  clear hW
  go_wp2_with fail
  refine HOF.out.mono ?_
  rintro e w1 ⟨S, fv, uv, rfl, gr, hb1⟩
  have hFA := fault_game gr hfl hul
  have HB1 := Lib.hid (HBW.out.trans (hb1.mono hsW))
  have KRES := Lib.hid (KR.out.call hb1)
  have KS1 := Lib.hid (KS.out.call hb1)
  obtain ⟨lS1, cS1, -⟩ := id KS1.out
  have HGR := Lib.hid gr
  have HFA := Lib.hid hFA
  have hs1 := HB1.out.size
  have hsW1 := hb1.size
  have hKW := KR.out.lt
  clear gr hb1 hFA cS0 lS0
  go_wp2_with fail
  refine HFA.out.mono ?_
  rintro e w2 ⟨rfl, hb2⟩
  have HG2 := Lib.hid (HGR.out.call hb2)
  have HB2 := Lib.hid (HB1.out.trans (hb2.mono hs1))
  have KRES := Lib.hid (KRES.out.call hb2)
  have KS2 := Lib.hid (KS1.out.call hb2)
  obtain ⟨lR2, -, fR2⟩ := id KRES.out
  obtain ⟨lS2, cS2, -⟩ := id KS2.out
  have hs2 := HB2.out.size
  have hs12 := hb2.size
  obtain ⟨z0, z1, z2, z3, z4⟩ : w2.cell? ⟨w.heap.size + 1, 0, none⟩ = some (.int .i64 0) ∧ w2.cell? ⟨w.heap.size + 1, 1, none⟩ = some (.int .i64 0) ∧ w2.cell? ⟨w.heap.size + 1, 2, none⟩ = some (.int .i64 0) ∧ w2.cell? ⟨w.heap.size + 1, 3, none⟩ = some (.int .i64 0) ∧ w2.cell? ⟨w.heap.size + 1, 4, none⟩ = some (.slice none 0 0) := ⟨KRES.out.cell 0, KRES.out.cell 1, KRES.out.cell 2, KRES.out.cell 3, KRES.out.cell 4⟩
  clear hb2 cS1 lS1
  by_cases hfault : faultOf g0 = 0
  case neg =>
    obtain ⟨FF, hFF⟩ : ∃ x, faultOf g0 = x := ⟨_, rfl⟩
    rw [hFF] at hfault ⊢
    have HFF := Lib.hid hFF
    have d0 : decide ((0 : Int) < (FF : Int)) = true := decide_eq_true (by omega)
    have d0' : decide (0 < FF) = true := decide_eq_true (by omega)
    have HSF : Hid (stepFault g0 cs = FF) := Lib.hid (by show _ = _; unfold stepFault; rw [hFF, if_pos hfault])
    have HNF := Lib.hid hfault
    clear hfault hFF
    go_wp2_with fail
    refine bodyPost_ret (v := .tuple #[.agg #[.int .i64 0, .int .i64 0, .int .i64 0, .int .i64 0, .slice none 0 0], .int .i64 ((FF : Nat))]) (ret_cell2n Try.results45 rfl rfl (KRES.out.store5n rfl (.int .i64 0) (.int .i64 0) (.int .i64 0) (.int .i64 0) (.slice none 0 0)) Try.underlying65 rfl infoNewerN) rfl ?_
    refine ⟨belowFive HB2.out (by omega) _ _ _ _ _, Or.inl ⟨by rw [HSF.out]; exact HNF.out, by rw [HSF.out]⟩⟩
  have HFZ := Lib.hid hfault
  have hright := (right_iff g0).1 hfault
  have HRG := Lib.hid hright
  rw [hfault]
  clear hfault hright
  by_cases hn8 : 8 < n
  case pos =>
    have d1 : decide ((8 : Int) < (n : Int)) = true := decide_eq_true (by omega)
    have HSF : Hid (stepFault g0 cs = 2) := Lib.hid (by show _ = _; unfold stepFault; rw [HFZ.out, if_neg (by simp), if_pos (Or.inl (by rw [HN.out]; exact hn8))])
    clear hn8
    go_wp2_with fail
    refine bodyPost_ret (v := .tuple #[.agg #[.int .i64 0, .int .i64 0, .int .i64 0, .int .i64 0, .slice none 0 0], .int .i64 (2)]) (ret_cell2n Try.results45 rfl rfl (KRES.out.store5n rfl (.int .i64 0) (.int .i64 0) (.int .i64 0) (.int .i64 0) (.slice none 0 0)) Try.underlying65 rfl infoNewerN) rfl ?_
    refine ⟨belowFive HB2.out (by omega) _ _ _ _ _, Or.inl ⟨by rw [HSF.out]; decide, by rw [HSF.out]; rfl⟩⟩
  have d1 : decide ((8 : Int) < (n : Int)) = false := decide_eq_false (by omega)
  by_cases ht6 : g.tick = 60
  case pos =>
    have d2 : (g.tick == 60) = true := by simp [ht6]
    have HSF : Hid (stepFault g0 cs = 2) := Lib.hid (by show _ = _; unfold stepFault; rw [HFZ.out, if_neg (by simp), if_pos (Or.inr (by rw [← HTK.out]; exact ht6))])
    clear ht6
    go_wp2_with fail
    refine bodyPost_ret (v := .tuple #[.agg #[.int .i64 0, .int .i64 0, .int .i64 0, .int .i64 0, .slice none 0 0], .int .i64 (2)]) (ret_cell2n Try.results45 rfl rfl (KRES.out.store5n rfl (.int .i64 0) (.int .i64 0) (.int .i64 0) (.int .i64 0) (.slice none 0 0)) Try.underlying65 rfl infoNewerN) rfl ?_
    refine ⟨belowFive HB2.out (by omega) _ _ _ _ _, Or.inl ⟨by rw [HSF.out]; decide, by rw [HSF.out]; rfl⟩⟩
  have d2 : (g.tick == 60) = false := by simp [ht6]
  have HSF : Hid (stepFault g0 cs = 0) := Lib.hid (by show _ = _; unfold stepFault; rw [HFZ.out, if_neg (by simp), if_neg (by rw [HN.out, ← HTK.out]; omega)])
  clear ht6
  have hfew := HRG.out.few
  obtain ⟨ua0, cu0, rfl, -, -, -⟩ := URow.of_ownN HG2.out.us
  have hIDS := refids_any S g0.new g0.us ua0 g0.us.length cu0 w2 (HG2.out.reads rfl (by omega))
  have HIDS := Lib.hid hIDS
  clear hIDS
  go_wp2_with fail
  refine HIDS.out.mono ?_
  rintro e V ⟨⟨oa, oc, rfl, oown⟩, hbV⟩
  have HOO := Lib.hid oown
  have hG := HG2.out.call hbV
  have HGV := Lib.hid hG
  have HBV := Lib.hid (HB2.out.trans (hbV.mono hs2))
  have KRV := Lib.hid (KRES.out.call hbV)
  have hsV := hbV.size
  obtain ⟨X, hX⟩ : ∃ X : Nat → Prop, X = fun c => (W.heap.size ≤ c ∧ c < w2.heap.size) ∨ V.heap.size ≤ c := ⟨_, rfl⟩
  have HX := Lib.hid hX
  have hInX : InX X S fv (.slice ua0 g0.us.length cu0) (.slice none 0 0) := by
    rw [hX]
    refine ⟨Or.inl ⟨HG2.out.base, HG2.out.blk.lt⟩, fun b hb => Or.inl (World.ownsRow.lt HG2.out.fr b hb), fun b hb => Or.inl (World.ownsRow.lt HG2.out.us b hb), fun b hb => (by cases hb)⟩
  have HIX0 := Lib.hid hInX
  have HXN : Hid (∀ z : World, V.heap.size ≤ z.heap.size → ∀ b, z.heap.size ≤ b → X b) := Lib.hid (fun z hz b hb => by rw [HX.out]; exact Or.inr (by omega))
  have HXL : Hid (∀ c, X c → W.heap.size ≤ c) := Lib.hid (fun c hc => by
    rw [HX.out] at hc
    rcases hc with h | h
    · exact h.1
    · omega)
  have HX2 : Hid (∀ c, w2.heap.size ≤ c → c < V.heap.size → ¬ X c) := Lib.hid (fun c h1 h2 hc => by
    rw [HX.out] at hc
    rcases hc with h | h
    · omega
    · omega)
  obtain ⟨oid, hoid⟩ : ∃ v, idList g0.us = v := ⟨_, rfl⟩
  have HOID := Lib.hid hoid
  clear hG hbV hX hInX z0 z1 z2 z3 z4 fR2 lR2 cS2 oown hoid lS2
  go_wp2_with fail
  go_loopw [9] (fun kv wr => ∃ k : Nat, kv = .int .i64 k ∧ k ≤ n ∧ (∃ fv1 uv1 bv1, GR wr W.heap.size S ((cs.take k).foldl ordF (g0, [])).1 ((cs.take k).foldl ordF (g0, [])).2 fv1 uv1 bv1 ∧ InX X S fv1 uv1 bv1 ∧ Kp X V wr)) (fun kv _ => (n - intOf kv).toNat)
  case atStart => exact ⟨0, rfl, by omega, _, _, _, HGV.out, HIX0.out, Kp.refl _ _⟩
  case round =>
    obtain ⟨k, rfl, hk, fv1, uv1, bv1, gr, ix, kr⟩ := hrel
    have hki : (0 : Int) ≤ (k : Int) := by omega
    obtain ⟨s, hs⟩ : ∃ s, (cs.take k).foldl ordF (g0, []) = s := ⟨_, rfl⟩
    have hT : Track g0 s := by rw [← hs]; exact (Track.start HRG.out (fun _ => HFREE.out)).ords _
    rw [hs] at gr
    have hszr := kr.size
    have hVr : Below w.heap.size w wr := HBV.out.trans (kr.below (fun c hc => by have := HXL.out c hc; omega) HBV.out.size)
    have HGRR := Lib.hid gr
    have HIXR := Lib.hid ix
    have HKR := Lib.hid kr
    have HS := Lib.hid hs
    have HT := Lib.hid hT
    have HVR := Lib.hid hVr
    have hfewr := hT.going.right.few
    have hbnr : s.2.length ≤ 1000 := by have := hT.many; omega
    clear gr ix kr hs hT hVr
    by_cases hlt : k < n
    · have hkl : (k : Int) < (n : Int) := by omega
      obtain ⟨c, hc⟩ : ∃ c, cs.getD k zeroC = c := ⟨_, rfl⟩
      obtain ⟨bl, ol, rfl, hblB, q0, q1, q2, q3, q4, q5⟩ := (HC.out.below HVR.out).get k (by have := HN.out; omega) c hc
      have hblr : bl < wr.heap.size := by have := HVR.out.size; omega
      have hstep := foldl_nextN (l := cs) (k := k) (by have := HN.out; omega) ordF (g0, []) zeroC c hc
      rw [HS.out] at hstep
      have HSTEP := Lib.hid hstep
      have HKC2 : Hid (c.kind = c.target) := Lib.hid (HKT.out c (by rw [← hc, List.getD_eq_getElem?_getD, List.getElem?_eq_getElem (by have := HN.out; omega)]; exact List.getElem_mem _))
      clear hc hstep
      go_upto_region 12 with fail
      refine gen_world (fun Z => Below wr.heap.size wr Z ∧ Blk Z wr.heap.size #[.int .i64 c.player, .int .i64 c.op, .int .i64 c.id, .int .i64 c.kind, .int .i64 c.x, .int .i64 c.y]) ⟨(Below.refl _ _).alloc (Nat.le_refl _) _, Blk.new wr _ _⟩ ?_
      rintro w3 ⟨hb3, kC⟩
      obtain ⟨pc, hpc⟩ : ∃ x, wr.heap.size = x := ⟨_, rfl⟩
      rw [hpc] at kC
      try rw [hpc]
      have hG3 := HGRR.out.call hb3
      obtain ⟨ua3, cu3, e3, -, -, -⟩ := URow.of_ownN hG3.us
      subst e3
      have hR3 := hG3.reads rfl (by omega)
      have hWHO := hR3.who c.id ⟨w3, Below.refl _ _⟩
      dsimp only at hWHO
      obtain ⟨IX, hIX⟩ : ∃ x, ixOf s.1.us c.id = x := ⟨_, rfl⟩
      have hir := ixOf_range s.1.us c.id
      rw [hIX] at hWHO hir
      obtain ⟨hir1, hir2⟩ := hir
      obtain ⟨lC, cC, -⟩ := id kC
      have c63 := hR3.c6
      have lS3 := hR3.lt
      have HKC := Lib.hid kC
      have HWHO := Lib.hid hWHO
      have HIX := Lib.hid hIX
      have HG3 := Lib.hid hG3
      have HR3 := Lib.hid hR3
      have hK3 := HKR.out.then_ hb3
      have HK3 := Lib.hid hK3
      have hs3 := hb3.size
      have HSKIP : Hid (ordF s c = s → ∀ Z, Below w3.heap.size w3 Z → ∃ k_1 : Nat, Value.int IntKind.i64 ((k : Int) + 1) = Value.int IntKind.i64 (k_1 : Int) ∧ k_1 ≤ n ∧ (∃ fv1 uv1 bv1, GR Z W.heap.size S ((cs.take k_1).foldl ordF (g0, [])).1 ((cs.take k_1).foldl ordF (g0, [])).2 fv1 uv1 bv1 ∧ InX X S fv1 uv1 bv1 ∧ Kp X V Z)) := Lib.hid (fun e Z hZ => by
        refine ⟨k + 1, by go_num, by omega, fv1, _, bv1, ?_, HIXR.out, HK3.out.then_ hZ⟩
        rw [HSTEP.out, e]
        exact HG3.out.call hZ)
      clear hb3 kC hpc hG3 hR3 hWHO hIX hK3 q0 q1 q2 q3 q4 q5
      go_wp2_with fail
      refine HWHO.out.mono ?_
      rintro e w' ⟨rfl, rfl⟩
      by_cases hx : IX < 0
      case pos =>
        have dx : decide (IX < 0) = true := decide_eq_true hx
        have HXX := Lib.hid hx
        clear hx
        go_upto_region 13 with fail
        haveI := Cw.ne w3
        have hcw := fun (x : Cw w3) => x.cell
        refine region_cw (by kernel_rfl) (by kernel_rfl) ?_
        repeat (go_big_quiet_step (fail))
        refine wpQuiet_nil ?_
        intro Z hZ
        have HZ := Lib.hid hZ
        clear hZ hcw
        go_wp2_with fail
        go_roundw
        case rel => exact HSKIP.out (ord_skip (Or.inl (by rw [HIX.out]; exact HXX.out))) _ HZ.out
        case measure => simp [intOf]; omega
      have dx : decide (IX < 0) = false := decide_eq_false hx
      obtain ⟨i, rfl⟩ := Int.eq_ofNat_of_zero_le (show 0 ≤ IX by omega)
      clear hx hir1
      have hi0 : (0 : Int) ≤ (i : Int) := by omega
      obtain ⟨u, hu⟩ : ∃ u, s.1.us.getD i zeroU = u := ⟨_, rfl⟩
      have hil : i < s.1.us.length := by omega
      have hget : s.1.us[i]? = some u := by rw [List.getElem?_eq_getElem hil, ← getD_lt hil, hu]
      obtain ⟨b, o, ea, hbB, q0, q1, -⟩ := HR3.out.row.getN i hil u hu
      subst ea
      have HU := Lib.hid (⟨hu, hget⟩ : s.1.us.getD i zeroU = u ∧ s.1.us[i]? = some u)
      clear hu hget hil
      by_cases hpl : u.owner = c.player
      case neg =>
        have dp : (u.owner != c.player) = true := by simp [hpl]
        have HP := Lib.hid hpl
        clear hpl
        go_upto_region 13 with fail
        haveI := Cw.ne w3
        have hcw := fun (x : Cw w3) => x.cell
        refine region_cw (by kernel_rfl) (by kernel_rfl) ?_
        repeat (go_big_quiet_step (fail))
        refine wpQuiet_nil ?_
        intro Z hZ
        have HZ := Lib.hid hZ
        clear hZ hcw
        go_wp2_with fail
        go_roundw
        case rel => exact HSKIP.out (ord_skip (Or.inr (by rw [HIX.out, Int.toNat_natCast, HU.out.1]; exact HP.out))) _ HZ.out
        case measure => simp [intOf]; omega
      have dp : (u.owner != c.player) = false := by simp [hpl]
      have HDO := Lib.hid (ord_do (s := s) (c := c) HIX.out HU.out.1 hpl)
      clear hpl
      go_upto_region 13 with fail
      haveI := Cw.ne w3
      have hcw := fun (x : Cw w3) => x.cell
      refine region_cw (by kernel_rfl) (by kernel_rfl) ?_
      repeat (go_big_quiet_step (fail))
      refine wpQuiet_nil ?_
      intro Z hZ
      have hGZ := HG3.out.call hZ
      have HGZ := Lib.hid hGZ
      have HKZ := Lib.hid (HK3.out.then_ hZ)
      obtain ⟨lCZ, cCZ, -⟩ := id (HKC.out.call hZ)
      have HZ := Lib.hid hZ
      have hsZ := hZ.size
      have HNEXT : Hid (∀ (w5 : World) (fv5 uv5 bv5 : Value), GR w5 W.heap.size S (ordF s c).1 (ordF s c).2 fv5 uv5 bv5 → InX X S fv5 uv5 bv5 → Kp X Z w5 → ∃ k_1 : Nat, Value.int IntKind.i64 ((k : Int) + 1) = Value.int IntKind.i64 (k_1 : Int) ∧ k_1 ≤ n ∧ (∃ fv1 uv1 bv1, GR w5 W.heap.size S ((cs.take k_1).foldl ordF (g0, [])).1 ((cs.take k_1).foldl ordF (g0, [])).2 fv1 uv1 bv1 ∧ InX X S fv1 uv1 bv1 ∧ Kp X V w5)) := Lib.hid (fun w5 fv5 uv5 bv5 h1 h2 h3 => by
        refine ⟨k + 1, by go_num, by omega, fv5, uv5, bv5, ?_, h2, HKZ.out.trans h3 (fun _ _ h => h)⟩
        rw [HSTEP.out]
        exact h1)
      have HXNZ := Lib.hid (HXN.out Z (by have := HKZ.out.size; omega))
      clear hZ hcw hGZ q0 q1 c63 lS3 cC lC
      by_cases o1 : c.op = 1
      · have d1 : (c.op == 1) = true := by simp [o1]
        have hd : ordF s c = withUs s (goesF s.1.new s.1.us i c.x c.y) := by rw [HDO.out, if_pos o1]
        have HD := Lib.hid hd
        clear o1 hd
        rw [HD.out] at HNEXT
        have HC1 := Lib.hid (refgoes_any W.heap.size S s.1 s.2 _ _ _ i u c.x c.y Z HGZ.out HU.out.2)
        go_wp2_with fail
        refine HC1.out.mono ?_
        rintro e w5 hend
        obtain ⟨rfl, kX, fv5, uv5, bv5, g5, iX⟩ := gone_turn hend HIXR.out
        have KX := Lib.hid kX
        have G5 := Lib.hid g5
        have IX5 := Lib.hid iX
        clear kX g5 iX hend
        go_wp2_with fail
        go_roundw
        case rel => exact HNEXT.out w5 fv5 uv5 bv5 G5.out IX5.out KX.out
        case measure => simp [intOf]; omega
      have d1 : (c.op == 1) = false := by simp [o1]
      by_cases o2 : c.op = 2
      · have d2 : (c.op == 2) = true := by simp [o2]
        have O12 : Hid (¬ c.op = 1 ∧ c.op = 2) := Lib.hid ⟨o1, o2⟩
        clear o1 o2
        obtain ⟨ua4, cu4, e4, -, -, -⟩ := URow.of_ownN HGZ.out.us
        cases e4
        have hR4 := HGZ.out.reads rfl (by omega)
        have hW4 := hR4.who c.target ⟨Z, Below.refl _ _⟩
        dsimp only at hW4
        rw [← HKC2.out] at hW4
        obtain ⟨IT, hIT⟩ : ∃ x, ixOf s.1.us c.kind = x := ⟨_, rfl⟩
        have hit := ixOf_range s.1.us c.kind
        rw [hIT] at hW4 hit
        obtain ⟨hit1, hit2⟩ := hit
        have HW4 := Lib.hid hW4
        have HIT : Hid (ixOf s.1.us c.target = IT) := Lib.hid (by rw [← HKC2.out]; exact hIT)
        have HR4 := Lib.hid hR4
        clear hR4 hW4 hIT
        go_wp2_with fail
        refine HW4.out.mono ?_
        rintro e w' ⟨rfl, rfl⟩
        by_cases ht : IT < 0
        case pos =>
          have dt : decide (0 ≤ IT) = false := decide_eq_false (by omega)
          have hd : ordF s c = s := by rw [HDO.out, if_neg O12.out.1, if_pos O12.out.2, if_pos (by rw [HIT.out]; exact ht)]
          have HD := Lib.hid hd
          clear ht hd
          go_wp2_with fail
          go_roundw
          case rel => exact HSKIP.out HD.out _ HZ.out
          case measure => simp [intOf]; omega
        have dt : decide (0 ≤ IT) = true := decide_eq_true (by omega)
        obtain ⟨j, rfl⟩ := Int.eq_ofNat_of_zero_le (show 0 ≤ IT by omega)
        clear ht hit1
        obtain ⟨v, hv⟩ : ∃ v, s.1.us.getD j zeroU = v := ⟨_, rfl⟩
        obtain ⟨b2, o2, ea2, hbB2, p0, p1, p2, p3, p4, p5, p6, p7, p8, p9, p10⟩ := HR4.out.row.getN j (by omega) v hv
        cases ea2
        obtain ⟨b3, o3, ea3, hbB3, r0, r1, r2, r3, r4, r5, r6, r7, r8, r9, r10⟩ := HR4.out.row.getN i (by omega) u HU.out.1
        cases ea3
        obtain ⟨mv, hmv⟩ : ∃ x, mayDo s.1.new u v = x := ⟨_, rfl⟩
        have hd : ordF s c = withUs s (aimsF s.1.new s.1.us i c.kind mv) := by rw [HDO.out, if_neg O12.out.1, if_pos O12.out.2, if_neg (by rw [HIT.out]; omega), HIT.out, Int.toNat_natCast, hv, hmv, HKC2.out]
        have HD := Lib.hid hd
        have hj0 : (0 : Int) ≤ (j : Int) := by omega
        have hj1 : (j : Int) < (s.1.us.length : Int) := by omega
        have hi1 : (i : Int) < (s.1.us.length : Int) := by omega
        have hMAY := fun x : Cw Z => (refmay_any s.1.new S u v x.w (HR4.out.call x.below).lt (HR4.out.call x.below).c0).mono (fun e w' h => (⟨by rw [h.1, hmv], h.2⟩ : e = .returned (.int .i64 mv) ∧ Below x.w.heap.size x.w w'))
        have HMAY := Lib.hid hMAY
        have c64 := HR4.out.c6
        have lS4 := HR4.out.lt
        clear hd hMAY hv hmv
        rw [HD.out] at HNEXT
        go_upto_region 20 with fail
        haveI := Cw.ne Z
        have hcw := fun (x : Cw Z) => x.cell
        refine region_cw_tail 20 (by kernel_rfl) (by kernel_rfl) ?_
        simp only [List.take_succ_cons, List.take_zero, List.drop_succ_cons, List.drop_zero]
        repeat (go_big_quiet_step ((go_at_call 103; refine Calls.cw (HMAY.out _))))
        refine wpQuiet_nil ?_
        intro Z2 hZ2
        have HGZ2 := Lib.hid (HGZ.out.call hZ2)
        have HZ2 := Lib.hid hZ2
        clear hZ2 hcw p0 p1 p2 p3 p4 p5 p6 p7 p8 p9 p10 r0 r1 r2 r3 r4 r5 r6 r7 r8 r9 r10 c64 lS4 hbB2 hbB3
        have HC1 := Lib.hid (refaims_any W.heap.size S s.1 s.2 _ _ _ i u c.kind mv Z2 HGZ2.out HU.out.2 (by omega))
        refine wpList_plain rfl (fun K hK => ?_)
        go_simp
        refine HC1.out.mono ?_
        rintro e w5 hend
        obtain ⟨rfl, kX, fv5, uv5, bv5, g5, iX⟩ := gone_turn hend HIXR.out
        have KX := Lib.hid ((kp_of HZ2.out X).trans kX (fun _ _ h => h))
        have G5 := Lib.hid g5
        have IX5 := Lib.hid iX
        clear kX g5 iX hend
        refine hK _ _ ?_
        clear hK K
        refine wpList_nil ?_
        go_wp2_with fail
        go_roundw
        case rel => exact HNEXT.out w5 fv5 uv5 bv5 G5.out IX5.out KX.out
        case measure => simp [intOf]; omega
      have d2 : (c.op == 2) = false := by simp [o2]
      by_cases o3 : c.op = 3
      · have d3 : (c.op == 3) = true := by simp [o3]
        have hd : ordF s c = buildsF s i c.kind c.x c.y := by rw [HDO.out, if_neg o1, if_neg o2, if_pos o3]
        have HD := Lib.hid hd
        clear o1 o2 o3 hd
        rw [HD.out] at HNEXT
        have HC1 := Lib.hid (refbuilds_any W.heap.size S s.1 s.2 _ _ _ i u c.kind c.x c.y X Z HGZ.out HT.out.going.right HU.out.2 hbnr HIXR.out HXNZ.out)
        go_wp2_with fail
        refine HC1.out.mono ?_
        rintro e w5 hend
        obtain ⟨rfl, kX, fv5, uv5, bv5, g5, iX⟩ := id hend
        have KX := Lib.hid kX
        have G5 := Lib.hid g5
        have IX5 := Lib.hid iX
        clear kX g5 iX hend
        go_wp2_with fail
        go_roundw
        case rel => exact HNEXT.out w5 fv5 uv5 bv5 G5.out IX5.out KX.out
        case measure => simp [intOf]; omega
      have d3 : (c.op == 3) = false := by simp [o3]
      by_cases o4 : c.op = 4
      · have d4 : (c.op == 4) = true := by simp [o4]
        have hd : ordF s c = withUs s (s.1.us.set i (tellU u 0 0 0 0)) := by rw [HDO.out, if_neg o1, if_neg o2, if_neg o3, if_pos o4]
        have HD := Lib.hid hd
        clear o1 o2 o3 o4 hd
        rw [HD.out] at HNEXT
        have HC1 := Lib.hid (reftell_any W.heap.size S s.1 s.2 _ _ _ i u 0 0 0 0 Z HGZ.out HU.out.2)
        go_wp2_with fail
        refine HC1.out.mono ?_
        rintro e w5 hend
        obtain ⟨rfl, kX, fv5, uv5, bv5, g5, iX⟩ := gone_turn hend HIXR.out
        have KX := Lib.hid kX
        have G5 := Lib.hid g5
        have IX5 := Lib.hid iX
        clear kX g5 iX hend
        go_wp2_with fail
        go_roundw
        case rel => exact HNEXT.out w5 fv5 uv5 bv5 G5.out IX5.out KX.out
        case measure => simp [intOf]; omega
      have d4 : (c.op == 4) = false := by simp [o4]
      have hd : ordF s c = s := by rw [HDO.out, if_neg o1, if_neg o2, if_neg o3, if_neg o4]
      have HD := Lib.hid hd
      clear o1 o2 o3 o4 hd
      go_wp2_with fail
      go_roundw
      case rel => exact HSKIP.out HD.out _ HZ.out
      case measure => simp [intOf]; omega
    · obtain rfl : k = n := by omega
      have hct : cs.take k = cs := by rw [← HN.out, List.take_length]
      have hsE : stepN g0 cs = endF s.1 oid := by
        unfold stepN
        rw [← HS.out, hct, HOID.out]
      have HSE := Lib.hid hsE
      have hoR : Row wr.heap.size wr oa g0.us.length (fun q => .int .i64 (oid.getD q 0)) := by
        have h1 := own_kp HOO.out HKR.out (fun b hb => HX2.out b (World.ownsRow.lt HOO.out b hb).1 (World.ownsRow.lt HOO.out b hb).2)
        rw [HOID.out] at h1
        exact ints_in (by rw [← HOID.out]; simp [idList]) h1
      have hE := refends_any W.heap.size S s.1 s.2 fv1 uv1 bv1 oid oa g0.us.length oc wr HGRR.out HT.out.going.right (by rw [← HOID.out]; simp [idList]) (by omega) hoR (fun b o e hb => by
        have h0 := World.ownsRow.lt HOO.out b (by rw [e]; rfl)
        have h1 := HX2.out b h0.1 h0.2
        exact ⟨fun h => h1 (by rw [h]; exact HIXR.out.s), fun h => h1 (HIXR.out.f b h), fun h => h1 (HIXR.out.e b h)⟩)
      have HE := Lib.hid hE
      have HGE := Lib.hid (rightN_end_few HSF.out HNEW.out HFREE.out)
      clear hct hsE hoR hE
      go_wp2_with fail
      refine HE.out.mono ?_
      rintro e w5 ⟨rfl, hb5, fv5, uv5, g5⟩
      obtain ⟨gE, hgE⟩ : ∃ v, endF s.1 oid = v := ⟨_, rfl⟩
      rw [hgE] at g5
      have hbn5 : gE.us.length ≤ 1000 := by
        have h1 := HGE.out
        rw [HSE.out] at h1
        rw [← hgE]
        exact h1
      obtain ⟨ua5, cu5, rfl, -, -, -⟩ := URow.of_ownN g5.us
      have HGE2 := Lib.hid hgE
      have HG5 := Lib.hid g5
      have HB5 := Lib.hid hb5
      have hP5 := ((KRV.out.kp HKR.out (fun h => by have := HXL.out _ h; omega)).below hb5 hKW)
      have HP5 := Lib.hid hP5
      have hs5 := hb5.size
      have hbT : Below w.heap.size w w5 := HVR.out.trans (hb5.mono (by omega))
      have HBT := Lib.hid hbT
      clear hgE g5 hb5 hP5 hbT
      have hNW := refnewer_any W.heap.size S gE s.2 fv5 _ ua5 cu5 w5 HG5.out
      have HNW := Lib.hid hNW
      clear hNW
      go_wp2_with fail
      refine HNW.out.mono ?_
      rintro e w6 ⟨rfl, hb6⟩
      have HP6 := Lib.hid (HP5.out.call hb6)
      have HG6 := Lib.hid (HG5.out.call hb6)
      have HB6 := Lib.hid (HBT.out.trans (hb6.mono HBT.out.size))
      have lP := HP6.out.lt
      have cP := HP6.out.cell
      have fP := HP6.out.free
      clear hb6
      go_wp2_with fail
      refine bodyPost_ret (v := .tuple #[.agg #[.int .i64 gE.tick, .int .i64 gE.g0, .int .i64 gE.g1, .int .i64 gE.next, .slice ua5 gE.us.length cu5], .int .i64 0]) (ret_cell2n Try.results45 rfl rfl (HP6.out.store5n rfl _ _ _ _ _) Try.underlying65 rfl infoNewerN) rfl ?_
      refine ⟨belowFive HB6.out (by omega) _ _ _ _ _, Or.inr ⟨HSF.out, ua5, cu5, ?_, ?_⟩⟩
      · rw [HSE.out, HGE2.out]
      · rw [HSE.out, HGE2.out]
        have hne : ∀ b, (Value.slice ua5 gE.us.length cu5).ownBlock = some b → b ≠ w.heap.size + 1 := fun b hb e => by
          have h1 := (World.ownsRow.lt HG6.out.us b hb).1
          omega
        refine own_base (own_kp (own_kp (own_kp (own_kp (own_kp HG6.out.us (Kp.setCell _ ⟨w.heap.size + 1, 0, none⟩ _) hne) (Kp.setCell _ ⟨w.heap.size + 1, 1, none⟩ _) hne) (Kp.setCell _ ⟨w.heap.size + 1, 2, none⟩ _) hne) (Kp.setCell _ ⟨w.heap.size + 1, 3, none⟩ _) hne) (Kp.setCell _ ⟨w.heap.size + 1, 4, none⟩ _) hne) hsW
end Go.Proofs.Ytlfljlhppigejaa
