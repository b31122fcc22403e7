/-
  The walk of the document's Carried. (Printed by gen_fercd.py.) Carry, by the program and by the document, in one form. (Printed by gen_ferall.py.)
-/
import Derived.Test.YtlfljlhppigejaaPackFerB
import Derived.Test.YtlfljlhppigejaaFerParts
import Derived.Test.YtlfljlhppigejaaPackRef
import Derived.Test.YtlfljlhppigejaaPackPure
namespace Go.Proofs.Ytlfljlhppigejaa
open Go.RowKit

theorem URow.keepLt {n : Bool} {B p : Nat} {w w' : World} {a : Option Addr} {us : List U} (h : URow n B w a us) (hBw : B ≤ w.heap.size) (hB : B ≤ p) (k : Kp (fun b => b = p) w w') : URow n B w' a us := fun i hi => by
  obtain ⟨b, o, h1, h2, h3⟩ := h i hi
  exact ⟨b, o, h1, h2, fun j hj => (k.cell b _ (by omega) (by omega)).trans (h3 j hj)⟩
theorem who_target {g : G} (hr : Right g) {u : U} (hu : u ∈ g.us) : (0 < u.target → 1 + ixOf g.us u.target = (whoT g.us u.target : Nat)) ∧ (¬ 0 < u.target → u.target = (whoT g.us u.target : Nat)) := by
  refine ⟨fun _ => ?_, fun h => ?_⟩
  · unfold ixOf whoT
    cases whoIx g.us u.target with
    | none => rfl
    | some i => show 1 + (i : Int) = ((i + 1 : Nat) : Int); omega
  · have h0 : u.target = 0 := by have := (hr.ok hu).tgt0; omega
    have : whoIx g.us 0 = none := by
      unfold whoIx
      rw [List.findIdx?_eq_none_iff]
      intro v hv
      have := (hr.ok hv).id1
      simp
      omega
    rw [h0]
    unfold whoT
    rw [this]
    rfl
/-- What comes back of Carried. -/
def RCarriedEnd (f : Nat) (g : G) (w : World) (e : Ending) (w' : World) : Prop :=
  Below w.heap.size w w' ∧ ((faultOf g ≠ 0 ∧ f = faultOf g ∧ e = .returned (.tuple #[.agg #[.int .i64 0, .int .i64 0, .int .i64 0, .int .i64 0, .slice none 0 0], .int .i64 (f : Nat)])) ∨ (faultOf g = 0 ∧ fitsB g = false ∧ f = 8 ∧ e = .returned (.tuple #[.agg #[.int .i64 0, .int .i64 0, .int .i64 0, .int .i64 0, .slice none 0 0], .int .i64 (f : Nat)])) ∨
    (faultOf g = 0 ∧ fitsB g = true ∧ f = 0 ∧ ∃ ub cb, e = .returned (.tuple #[.agg #[.int .i64 g.tick, .int .i64 g.g0, .int .i64 g.g1, .int .i64 ((g.us.length : Int) + 1), .slice ub g.us.length cb], .int .i64 (f : Nat)]) ∧ w'.ownsRow w.heap.size 130 11 (.slice ub g.us.length cb) g.us.length (cellsAllN (carryG g).us)))

set_option maxHeartbeats 6400000 in
set_option maxRecDepth 100000 in
theorem refcarried_any (g : G) (fa ua : Option Addr) (cf cu : Nat) (hsl : sinceless g) (hcf : g.free.length ≤ 100000) (hcu : g.us.length ≤ 100000) (w : World) (hf : Row w.heap.size w fa g.free.length (fun k => .int .i64 (g.free.getD k 0))) (hu : URow false w.heap.size w ua g.us) :
    Calls Try.prog 73 #[.agg #[.int .i64 g.tick, .int .i64 g.g0, .int .i64 g.g1, .int .i64 g.next, .slice fa g.free.length cf, .slice ua g.us.length cu]] w fun e w' => ∃ f, RCarriedEnd f g w e w' := by
  obtain ⟨W, hW⟩ : ∃ W, (w.alloc (.cells #[.int .i64 g.tick, .int .i64 g.g0, .int .i64 g.g1, .int .i64 g.next, .slice fa g.free.length cf, .slice ua g.us.length cu] 90)).alloc (.cells #[.int .i64 0, .int .i64 0, .int .i64 0, .int .i64 0, .slice none 0 0] 65) = W := ⟨_, rfl⟩
  have hbW : Below w.heap.size w W := by rw [← hW]; exact ((Below.refl _ _).alloc (Nat.le_refl _) _).alloc (by simp) _
  have hsW : W.heap.size = w.heap.size + 2 := by rw [← hW]; simp
  have k1 : Blk W w.heap.size #[.int .i64 g.tick, .int .i64 g.g0, .int .i64 g.g1, .int .i64 g.next, .slice fa g.free.length cf, .slice ua g.us.length cu] := by rw [← hW]; exact (Blk.new w _ _).alloc _
  have k2 : Blk W (w.heap.size + 1) #[.int .i64 0, .int .i64 0, .int .i64 0, .int .i64 0, .slice none 0 0] := by
    rw [← hW]
    have := Blk.new (w.alloc (.cells #[.int .i64 g.tick, .int .i64 g.g0, .int .i64 g.g1, .int .i64 g.next, .slice fa g.free.length cf, .slice ua g.us.length cu] 90)) #[.int .i64 0, .int .i64 0, .int .i64 0, .int .i64 0, .slice none 0 0] 65
    simpa using this
  have HF := Lib.hid ((hf.below hbW).mono hbW.size)
  have HU := Lib.hid ((hu.below hbW).mono hbW.size)
  have HSL := Lib.hid hsl
  have HW := Lib.hid hbW
  have HSW := Lib.hid hsW
  have K1 := Lib.hid k1
  have K2 := Lib.hid k2
  obtain ⟨l1, c1, -⟩ := id k1
  clear hf hu hsl hbW k1 k2 hsW
  go_enter Try.func73, Try.ntmps73
  go_upto_region 1 with fail
  try rw [hW]
  clear hW
  go_wp2_with fail
  refine (ofelder_any g fa ua cf cu hcf hcu _ HF.out HU.out).mono ?_
  rintro e w1 ⟨S, fv, uv, rfl, gr, b1⟩
  rw [back_self HSL.out] at gr
  obtain ⟨ga, gc, va, vc, rfl, rfl, -, -, -, -⟩ := gr.rows
  have GR1 := Lib.hid gr
  have HB1 := Lib.hid (HW.out.trans (b1.mono HW.out.size))
  have K11 := Lib.hid (K1.out.call b1)
  have K21 := Lib.hid (K2.out.call b1)
  have HU1 := Lib.hid ((HU.out.below b1).mono b1.size)
  clear b1 gr c1 l1
  go_wp2_with fail
  refine (fault_game GR1.out hcf hcu).mono ?_
  rintro e w2 ⟨rfl, b2⟩
  obtain ⟨F, hF⟩ : ∃ x, faultOf g = x := ⟨_, rfl⟩
  rw [hF]
  have HF0 := Lib.hid hF
  have GR2 := Lib.hid (GR1.out.call b2)
  have HB2 := Lib.hid (HB1.out.trans (b2.mono HB1.out.size))
  have K12 := Lib.hid (K11.out.call b2)
  have K22 := Lib.hid (K21.out.call b2)
  have HU2 := Lib.hid ((HU1.out.below b2).mono b2.size)
  clear b2 hF GR1 HB1 K11 K21 HU1
  by_cases h0 : F = 0
  case neg =>
    have e1 : decide ((0 : Int) < (F : Int)) = true := decide_eq_true (by omega)
    have e2 : decide (0 < F) = true := decide_eq_true (by omega)
    have HNE := Lib.hid h0
    obtain ⟨lN, cN, fN⟩ := id K22.out
    clear h0
    go_wp2_with fail
    refine bodyPost_ret (v := .tuple #[.agg #[.int .i64 0, .int .i64 0, .int .i64 0, .int .i64 0, .slice none 0 0], .int .i64 (F : Nat)]) (ret_pair Try.results73 rfl rfl (K22.out.store5 rfl (.int .i64 0) (.int .i64 0) (.int .i64 0) (.int .i64 0) (.slice none 0 0)) Try.underlying65 rfl infoNewer) rfl ?_
    refine ⟨F, ?_, Or.inl ⟨by rw [HF0.out]; exact HNE.out, HF0.out.symm, rfl⟩⟩
    iterate 5 (refine Below.setCell ?_ (by simp) _)
    exact HB2.out
  subst h0
  have c1 := K12.out.cell
  have l1 := K12.out.lt
  go_wp2_with fail
  refine (reffits_any g fa ua cf cu hcu _ HU2.out).mono ?_
  rintro e w3 ⟨rfl, b3⟩
  have GR3 := Lib.hid (GR2.out.call b3)
  have HB3 := Lib.hid (HB2.out.trans (b3.mono HB2.out.size))
  have K13 := Lib.hid (K12.out.call b3)
  have K23 := Lib.hid (K22.out.call b3)
  clear b3 GR2 HB2 K12 K22 HU2 c1 l1
  by_cases hfits : fitsB g = true
  case neg =>
    have hff : fitsB g = false := by simpa using hfits
    rw [hff]
    have HFF := Lib.hid hff
    obtain ⟨lN, cN, fN⟩ := id K23.out
    clear hfits hff
    go_wp2_with fail
    refine bodyPost_ret (v := .tuple #[.agg #[.int .i64 0, .int .i64 0, .int .i64 0, .int .i64 0, .slice none 0 0], .int .i64 8]) (ret_pair Try.results73 rfl rfl (K23.out.store5 rfl (.int .i64 0) (.int .i64 0) (.int .i64 0) (.int .i64 0) (.slice none 0 0)) Try.underlying65 rfl infoNewer) rfl ?_
    refine ⟨8, ?_, Or.inr (Or.inl ⟨HF0.out, HFF.out, rfl, rfl⟩)⟩
    iterate 5 (refine Below.setCell ?_ (by simp) _)
    exact HB3.out
  rw [hfits]
  have HFITS := Lib.hid hfits
  have hg := (right_iff g).1 HF0.out
  have HG := Lib.hid hg
  have hfew := hg.few
  clear hfits hg
  have hwn : IntKind.i64.wrap (1 + (g.us.length : Int)) = (g.us.length : Int) + 1 := by rw [IntWalk.i64_in _ (by omega)]; omega
  have c1 := K13.out.cell
  have l1 := K13.out.lt
  go_upto_region 9 with fail
  obtain ⟨vb, vcb, vce, -, hvu, -⟩ := URow.of_ownN GR3.out.us
  cases vce
  refine gen_world (fun V => (Below w.heap.size w V ∧ w3.heap.size < V.heap.size) ∧ Blk V w.heap.size #[.int .i64 g.tick, .int .i64 g.g0, .int .i64 g.g1, .int .i64 g.next, .slice fa g.free.length cf, .slice ua g.us.length cu] ∧ Blk V (w.heap.size + 1) #[.int .i64 0, .int .i64 0, .int .i64 0, .int .i64 0, .slice none 0 0] ∧ Blk V S (gameC g (.slice ga g.free.length gc) (.slice va g.us.length vc) (.slice none 0 0)) ∧ URow true w3.heap.size V va g.us ∧ Blk V w3.heap.size #[.int .i64 g.tick, .int .i64 g.g0, .int .i64 g.g1, .int .i64 ((g.us.length : Int) + 1), .slice none 0 0]) ⟨⟨HB3.out.alloc HB3.out.size _, by simp⟩, K13.out.alloc _, K23.out.alloc _, GR3.out.blk.alloc _, hvu.below ((Below.refl _ _).alloc (Nat.le_refl _) _), Blk.new _ _ _⟩ ?_
  obtain ⟨pX, hpX⟩ : ∃ n, w3.heap.size = n := ⟨_, rfl⟩
  have HSX : Hid (S < pX) := Lib.hid (by rw [← hpX]; exact GR3.out.blk.lt)
  have HWX : Hid (w.heap.size + 1 < pX) := Lib.hid (by have := K23.out.lt; omega)
  rw [hpX]
  try rw [hpX]
  clear hpX K13 K23 GR3 HB3 hvu c1 l1
  rintro V0 ⟨⟨b4, hXV⟩, k14, k24, kS, hvu, kX⟩
  have HB4 := Lib.hid b4
  have K14 := Lib.hid k14
  have K24 := Lib.hid k24
  have KS := Lib.hid kS
  have HVU := Lib.hid hvu
  have KX := Lib.hid kX
  clear b4 k14 k24 kS hvu kX
  go_wp2_with fail
  go_loopw [8] (fun c wr => ∃ k : Nat, c = .int .i64 k ∧ k ≤ g.us.length ∧ (Kp (fun b => b = pX) V0 wr ∧ ∃ xa xc, Blk wr pX #[.int .i64 g.tick, .int .i64 g.g0, .int .i64 g.g1, .int .i64 ((g.us.length : Int) + 1), .slice xa k xc] ∧ wr.ownsRow V0.heap.size 130 11 (.slice xa k xc) k (cellsAllN (carryL g.us g.tick k)))) (fun c _ => (g.us.length - intOf c).toNat)
  case atStart => exact ⟨0, rfl, by omega, Kp.refl _ _, none, 0, KX.out, World.ownsRow_nil _ _ _ _⟩
  case round =>
    obtain ⟨k, rfl, hk, hK, xa, xc, kx, ox⟩ := hrel
    have hsr := hK.size
    have HK := Lib.hid hK
    have KXX := Lib.hid kx
    have OX := Lib.hid ox
    have K1r := Lib.hid (hK.out K14.out (by have := HWX.out; omega))
    have K2r := Lib.hid (hK.out K24.out (by have := HWX.out; omega))
    have KSr := Lib.hid (hK.out KS.out (by have := HSX.out; omega))
    have HVr := Lib.hid (HVU.out.keepLt (by omega) (Nat.le_refl _) hK)
    have lS := KSr.out.lt
    have cS6 : wr.cell? ⟨S, 6, none⟩ = some (.slice va g.us.length vc) := KSr.out.cell 6
    clear hK kx ox
    by_cases hlt : k < g.us.length
    · obtain ⟨u, hue⟩ : ∃ u, g.us.getD k zeroU = u := ⟨_, rfl⟩
      obtain ⟨b, o, rfl, hbB, q0, q1, q2, q3, q4, q5, q6, q7, q8, q9, q10⟩ := HVr.out.getN k hlt u hue
      have hum : u ∈ g.us := by rw [← hue, getD_lt hlt]; exact List.getElem_mem hlt
      obtain ⟨hw1, hw0⟩ := who_target HG.out hum
      have hix : -1 ≤ ixOf g.us u.target ∧ ixOf g.us u.target < 100000 := by
        unfold ixOf
        split
        · rename_i i hi
          have := (List.findIdx?_eq_some_iff_getElem.1 hi).1
          omega
        · omega
      have HUE := Lib.hid hue
      have HW1 := Lib.hid hw1
      have HW0 := Lib.hid hw0
      have hbr : b < wr.heap.size := by omega
      have hwk : IntKind.i64.wrap (1 + (k : Int)) = (k : Int) + 1 := by rw [IntWalk.i64_in _ (by omega)]; omega
      clear hue hum hw1 hw0
      go_upto_region 13 with fail
      refine gen_world (fun Z => Below wr.heap.size wr Z ∧ Blk Z wr.heap.size #[.int .i64 u.id, .int .i64 u.owner, .int .i64 u.kind, .int .i64 u.x, .int .i64 u.y, .int .i64 u.hp, .int .i64 u.does, .int .i64 u.gx, .int .i64 u.gy, .int .i64 u.target, .int .i64 u.since]) ⟨(Below.refl _ _).alloc (Nat.le_refl _) _, Blk.new wr _ _⟩ ?_
      rintro w5 ⟨b5, kU⟩
      obtain ⟨pu, hpu⟩ : ∃ n, wr.heap.size = n := ⟨_, rfl⟩
      have HPU := Lib.hid hpu
      have K15 := Lib.hid (K1r.out.call b5)
      have HB5 := Lib.hid b5
      rw [hpu] at kU
      try rw [hpu]
      obtain ⟨lU, cU, fU⟩ := id kU
      have c15 := K15.out.cell
      have l15 := K15.out.lt
      have KU := Lib.hid kU
      clear hpu b5 kU q0 q1 q2 q3 q4 q5 q6 q7 q8 q9 q10 cS6 lS
      have hp1 : ¬ (w.heap.size = pu) := by have := HPU.out; have := HWX.out; have := KXX.out.lt; omega
      have hp2 : ¬ (pu = w.heap.size) := fun e => hp1 e.symm
      go_upto_region 15 with fail
      refine gen_world (fun Z => Below wr.heap.size wr Z ∧ Blk Z pu #[.int .i64 ((k : Int) + 1), .int .i64 u.owner, .int .i64 u.kind, .int .i64 u.x, .int .i64 u.y, .int .i64 u.hp, .int .i64 u.does, .int .i64 u.gx, .int .i64 u.gy, .int .i64 u.target, .int .i64 g.tick]) ⟨((HB5.out.setCell (p := ⟨pu, 0, none⟩) (by have := HPU.out; show wr.heap.size ≤ pu; omega) _).setCell (p := ⟨pu, 10, none⟩) (by have := HPU.out; show wr.heap.size ≤ pu; omega) _), ?_⟩ ?_
      · have := Blk.store (i := 10) (.int .i64 g.tick) (Blk.store (i := 0) (.int .i64 ((k : Int) + 1)) KU.out (by simp)) (by simp)
        simpa using this
      clear lU cU fU c15 l15 KU HB5 K15 hp1 hp2
      rintro w6 ⟨b6, kU⟩
      have KU := Lib.hid kU
      have HB6 := Lib.hid b6
      have lU := kU.lt
      have cU := kU.cell
      have fU := kU.free
      have KS6 := Lib.hid (KSr.out.call b6)
      have lS := KS6.out.lt
      have cS6 : w6.cell? ⟨S, 6, none⟩ = some (.slice (some ⟨b, o, none⟩) g.us.length vc) := KS6.out.cell 6
      have HV6 := Lib.hid ((HVr.out.mono (B' := wr.heap.size) (by omega)).below b6)
      clear b6 kU
      by_cases ht : 0 < u.target
      · have d1 : decide (0 < u.target) = true := decide_eq_true ht
        have hwx : IntKind.i64.wrap (1 + ixOf g.us u.target) = (whoT g.us u.target : Nat) := by rw [← HW1.out ht, IntWalk.i64_in _ (by omega)]
        clear ht
        go_wp2_with fail
        refine (who_any S (some ⟨b, o, none⟩) g.us.length vc g.us u.target rfl hcu _ cS6 (HV6.out.mono HB6.out.size)).mono ?_
        rintro e w7 ⟨rfl, rfl⟩
        go_upto_region 17 with fail
        refine gen_world (fun Z => Below wr.heap.size wr Z ∧ Blk Z pu #[.int .i64 ((k : Int) + 1), .int .i64 u.owner, .int .i64 u.kind, .int .i64 u.x, .int .i64 u.y, .int .i64 u.hp, .int .i64 u.does, .int .i64 u.gx, .int .i64 u.gy, .int .i64 (whoT g.us u.target : Nat), .int .i64 g.tick]) ⟨HB6.out.setCell (p := ⟨pu, 9, none⟩) (by have := HPU.out; show wr.heap.size ≤ pu; omega) _, ?_⟩ ?_
        · have := Blk.store (i := 9) (.int .i64 (whoT g.us u.target : Nat)) KU.out (by simp)
          simpa using this
        rintro w8 ⟨b8, kU8⟩
        have HB8 := Lib.hid b8
        have KU8 := Lib.hid kU8
        clear b8 kU8 lU cU fU lS cS6 KU
        have K18 := Lib.hid (K1r.out.call HB8.out)
        have kx8 := KXX.out.call HB8.out
        have o8 := own_kp OX.out (kp_of HB8.out (fun _ => False)) (fun _ _ x => x)
        have hs8 := HB8.out.size
        have lU := KU8.out.lt
        have cU := KU8.out.cell
        have cX8 := kx8.cell
        have lX8 := kx8.lt
        obtain ⟨g9, cap9, w9, r9, own9, k9, hat9⟩ := push_unit o8 (by omega) (by omega) (carryU g.us g.tick k u)
        have r9' : (Builtin.append_ #[63, 63] 63 #[.slice xa k xc, .slice (some ⟨w8.heap.size, 0, none⟩) 1 1]).run Try.prog (w8.alloc (.cells #[.int .i64 ((k : Int) + 1), .int .i64 u.owner, .int .i64 u.kind, .int .i64 u.x, .int .i64 u.y, .int .i64 u.hp, .int .i64 u.does, .int .i64 u.gx, .int .i64 u.gy, .int .i64 (whoT g.us u.target : Nat), .int .i64 g.tick] 130)) = .ok (.slice (some ⟨g9, 0, none⟩) (k + 1) cap9) w9 := r9
        have lo := fun c hc => World.ownsRow.lt o8 c hc
        have hX9 : Blk w9 pX _ := kx8.kp k9 (fun e => by have := (lo pX e).1; omega)
        obtain ⟨lX9, cX9, fX9⟩ := id hX9
        have hst := hX9.store (i := 4) (.slice (some ⟨g9, 0, none⟩) (k + 1) cap9) (by simp)
        have HST := Lib.hid hst
        have kk : Kp (fun b => b = pX) V0 w9 := ((HK.out.then_ HB8.out).trans k9 (fun c hc e => by have := (lo c e).1; omega))
        have KK := Lib.hid (kk.andset ⟨pX, 4, none⟩ (.slice (some ⟨g9, 0, none⟩) (k + 1) cap9) rfl)
        have O9 := Lib.hid (own_kp own9 (Kp.setCell w9 ⟨pX, 4, none⟩ (.slice (some ⟨g9, 0, none⟩) (k + 1) cap9)) (fun c hc e => by have h1 := (World.ownsRow.lt own9 c hc).1; have h2 : c = pX := e; omega))
        clear kx8 o8 r9 own9 k9 hat9 lo hX9 hst kk
        go_wp2_with (at_builtin; refine list_run_append (by rfl) _ _ _ _ (by rfl) (by rfl) (by rfl) (by rfl) r9' ?_)
        go_roundw
        case rel =>
          refine ⟨k + 1, by go_num, by omega, KK.out, some ⟨g9, 0, none⟩, cap9, by simpa using HST.out, ?_⟩
          rw [carryL_next, HUE.out]
          exact O9.out
        case measure => simp [intOf]; omega
      · have d1 : decide (0 < u.target) = false := decide_eq_false ht
        have HE := Lib.hid (HW0.out ht)
        clear ht lS cS6
        go_upto_region 17 with fail
        refine gen_world (fun Z => Below wr.heap.size wr Z ∧ Blk Z pu #[.int .i64 ((k : Int) + 1), .int .i64 u.owner, .int .i64 u.kind, .int .i64 u.x, .int .i64 u.y, .int .i64 u.hp, .int .i64 u.does, .int .i64 u.gx, .int .i64 u.gy, .int .i64 (whoT g.us u.target : Nat), .int .i64 g.tick]) ⟨HB6.out, by have := KU.out; rw [HE.out] at this; exact this⟩ ?_
        rintro w8 ⟨b8, kU8⟩
        have HB8 := Lib.hid b8
        have KU8 := Lib.hid kU8
        clear b8 kU8 lU cU fU KU
        have K18 := Lib.hid (K1r.out.call HB8.out)
        have kx8 := KXX.out.call HB8.out
        have o8 := own_kp OX.out (kp_of HB8.out (fun _ => False)) (fun _ _ x => x)
        have hs8 := HB8.out.size
        have lU := KU8.out.lt
        have cU := KU8.out.cell
        have cX8 := kx8.cell
        have lX8 := kx8.lt
        obtain ⟨g9, cap9, w9, r9, own9, k9, hat9⟩ := push_unit o8 (by omega) (by omega) (carryU g.us g.tick k u)
        have r9' : (Builtin.append_ #[63, 63] 63 #[.slice xa k xc, .slice (some ⟨w8.heap.size, 0, none⟩) 1 1]).run Try.prog (w8.alloc (.cells #[.int .i64 ((k : Int) + 1), .int .i64 u.owner, .int .i64 u.kind, .int .i64 u.x, .int .i64 u.y, .int .i64 u.hp, .int .i64 u.does, .int .i64 u.gx, .int .i64 u.gy, .int .i64 (whoT g.us u.target : Nat), .int .i64 g.tick] 130)) = .ok (.slice (some ⟨g9, 0, none⟩) (k + 1) cap9) w9 := r9
        have lo := fun c hc => World.ownsRow.lt o8 c hc
        have hX9 : Blk w9 pX _ := kx8.kp k9 (fun e => by have := (lo pX e).1; omega)
        obtain ⟨lX9, cX9, fX9⟩ := id hX9
        have hst := hX9.store (i := 4) (.slice (some ⟨g9, 0, none⟩) (k + 1) cap9) (by simp)
        have HST := Lib.hid hst
        have kk : Kp (fun b => b = pX) V0 w9 := ((HK.out.then_ HB8.out).trans k9 (fun c hc e => by have := (lo c e).1; omega))
        have KK := Lib.hid (kk.andset ⟨pX, 4, none⟩ (.slice (some ⟨g9, 0, none⟩) (k + 1) cap9) rfl)
        have O9 := Lib.hid (own_kp own9 (Kp.setCell w9 ⟨pX, 4, none⟩ (.slice (some ⟨g9, 0, none⟩) (k + 1) cap9)) (fun c hc e => by have h1 := (World.ownsRow.lt own9 c hc).1; have h2 : c = pX := e; omega))
        clear kx8 o8 r9 own9 k9 hat9 lo hX9 hst kk
        go_wp2_with (at_builtin; refine list_run_append (by rfl) _ _ _ _ (by rfl) (by rfl) (by rfl) (by rfl) r9' ?_)
        go_roundw
        case rel =>
          refine ⟨k + 1, by go_num, by omega, KK.out, some ⟨g9, 0, none⟩, cap9, by simpa using HST.out, ?_⟩
          rw [carryL_next, HUE.out]
          exact O9.out
        case measure => simp [intOf]; omega
    · obtain rfl : k = g.us.length := by omega
      obtain ⟨lX, cX, -⟩ := id KXX.out
      obtain ⟨lN, cN, fN⟩ := id K2r.out
      go_wp2_with fail
      refine bodyPost_ret (v := .tuple #[.agg #[.int .i64 g.tick, .int .i64 g.g0, .int .i64 g.g1, .int .i64 ((g.us.length : Int) + 1), .slice xa g.us.length xc], .int .i64 0]) (ret_pair Try.results73 rfl rfl (K2r.out.store5 rfl (.int .i64 g.tick) (.int .i64 g.g0) (.int .i64 g.g1) (.int .i64 ((g.us.length : Int) + 1)) (.slice xa g.us.length xc)) Try.underlying65 rfl infoNewer) rfl ?_
      refine ⟨0, ?_, Or.inr (Or.inr ⟨HF0.out, HFITS.out, rfl, xa, xc, rfl, ?_⟩)⟩
      · iterate 5 (refine Below.setCell ?_ (by simp) _)
        exact HB4.out.trans (HK.out.below (fun b e => by have := HWX.out; have h2 : b = pX := e; omega) HB4.out.size)
      · have o1 := own_base OX.out (show w.heap.size ≤ V0.heap.size by have := HB4.out.size; omega)
        have lo := fun c hc => World.ownsRow.lt OX.out c hc
        refine own_kp o1 (X := fun b => b = w.heap.size + 1) ?_ (fun c hc e => by have := (lo c hc).1; have h2 : c = w.heap.size + 1 := e; have := HWX.out; omega)
        iterate 5 (refine Kp.andset ?_ _ _ rfl)
        exact Kp.refl _ _
end Go.Proofs.Ytlfljlhppigejaa
namespace Go.Proofs.Ytlfljlhppigejaa
open Go.RowKit

def carF (g : G) : Nat := if faultOf g ≠ 0 then faultOf g else if fitsB g = true then 0 else 8
/-- The state that is carried: zero, if it is not. -/
def carX (g : G) : G := if carF g = 0 then carryG g else zeroG true
theorem carF_ok {g : G} (h0 : faultOf g = 0) (h1 : fitsB g = true) : carF g = 0 := by unfold carF; rw [if_neg (by rw [h0]; simp), if_pos h1]
theorem carF_bad {g : G} (h0 : faultOf g ≠ 0) : carF g = faultOf g := by unfold carF; rw [if_pos h0]
theorem carF_odd {g : G} (h0 : faultOf g = 0) (h1 : fitsB g = false) : carF g = 8 := by unfold carF; rw [if_neg (by rw [h0]; simp), if_neg (by rw [h1]; simp)]
theorem carX_len (g : G) : (carX g).us.length ≤ g.us.length := by
  unfold carX
  split
  · show (carryL g.us g.tick g.us.length).length ≤ _
    rw [carryL_length]
    exact Nat.le_refl _
  · exact Nat.zero_le _
def CarAll (err : Value) (g : G) (w : World) (e : Ending) (w' : World) : Prop :=
  ∃ ub cb, e = .returned (.tuple #[.agg #[.int .i64 (carX g).tick, .int .i64 (carX g).g0, .int .i64 (carX g).g1, .int .i64 (carX g).next, .slice ub (carX g).us.length cb], err]) ∧ URow true w'.heap.size w' ub (carX g).us ∧ Below w.heap.size w w'
theorem carall_zero {err : Value} {g : G} {w w' : World} (h : carF g ≠ 0) (hb : Below w.heap.size w w') : CarAll err g w (.returned (.tuple #[.agg #[.int .i64 0, .int .i64 0, .int .i64 0, .int .i64 0, .slice none 0 0], err])) w' := by
  have : carX g = zeroG true := by unfold carX; rw [if_neg h]
  unfold CarAll
  rw [this]
  exact ⟨none, 0, rfl, fun k hk => absurd hk (Nat.not_lt_zero k), hb⟩
theorem carall_one {err : Value} {g : G} {w w' : World} {ub : Option Addr} {cb : Nat} (h : carF g = 0) (hb : Below w.heap.size w w') (own : w'.ownsRow w.heap.size 130 11 (.slice ub g.us.length cb) g.us.length (cellsAllN (carryG g).us)) :
    CarAll err g w (.returned (.tuple #[.agg #[.int .i64 g.tick, .int .i64 g.g0, .int .i64 g.g1, .int .i64 ((g.us.length : Int) + 1), .slice ub g.us.length cb], err])) w' := by
  have hx : carX g = carryG g := by unfold carX; rw [if_pos h]
  have hl : (carryG g).us.length = g.us.length := carryL_length _ _ _
  rw [← hl] at own
  obtain ⟨vb, vcb, vce, -, hvu, -⟩ := URow.of_ownN own
  cases vce
  unfold CarAll
  rw [hx, hl]
  exact ⟨ub, cb, rfl, hvu, hb⟩
theorem carall_prog {err : Value} {g : G} {w w' : World} {e : Ending} (h : CarriedEnd err g w e w') : err = errV (carF g) ∧ CarAll (errV (carF g)) g w e w' := by
  obtain ⟨hb, ⟨h0, rfl, rfl⟩ | ⟨h0, h1, rfl, rfl⟩ | ⟨h0, h1, rfl, ub, cb, rfl, own⟩⟩ := h
  · rw [carF_bad h0]
    have := carall_zero (err := errV (faultOf g)) (by rw [carF_bad h0]; exact h0) hb
    exact ⟨rfl, this⟩
  · rw [carF_odd h0 h1]
    have := carall_zero (g := g) (err := errV 8) (by rw [carF_odd h0 h1]; decide) hb
    exact ⟨rfl, this⟩
  · have hc := carF_ok h0 h1
    rw [hc, errV_zero]
    exact ⟨rfl, carall_one hc hb own⟩
theorem carall_ref {f : Nat} {g : G} {w w' : World} {e : Ending} (h : RCarriedEnd f g w e w') : f = carF g ∧ CarAll (.int .i64 (carF g : Nat)) g w e w' := by
  obtain ⟨hb, ⟨h0, rfl, rfl⟩ | ⟨h0, h1, rfl, rfl⟩ | ⟨h0, h1, rfl, ub, cb, rfl, own⟩⟩ := h
  · rw [carF_bad h0]
    exact ⟨rfl, carall_zero (by rw [carF_bad h0]; exact h0) hb⟩
  · rw [carF_odd h0 h1]
    exact ⟨rfl, carall_zero (by rw [carF_odd h0 h1]; decide) hb⟩
  · have hc := carF_ok h0 h1
    rw [hc]
    exact ⟨rfl, carall_one hc hb own⟩
end Go.Proofs.Ytlfljlhppigejaa
