/-
  The walk of names.tick. (Printed by gen_fertick.py.)
-/
import Derived.Test.YtlfljlhppigejaaFerParts
import Derived.Test.YtlfljlhppigejaaRefPlayE
namespace Go.Proofs.Ytlfljlhppigejaa
open Go.RowKit
attribute [local go_sem] qOne qAt qUp qOneK

/-- What comes back of a tick. -/
def TickEnd (g : G) (l : List Cm) (M N : Nat) (w : World) (e : Ending) (w' : World) : Prop :=
  ∃ oa oc fx fc ux uc, e = .returned (.tuple #[.slice oa l.length oc, .agg #[.int .i64 (stepE g l).1.tick, .int .i64 (stepE g l).1.g0, .int .i64 (stepE g l).1.g1, .int .i64 (stepE g l).1.next, .slice fx (stepE g l).1.free.length fc, .slice ux (stepE g l).1.us.length uc], .int .i64 ((stepE g l).2.length : Nat), .nilIface]) ∧
    Row w'.heap.size w' fx (stepE g l).1.free.length (fun k => .int .i64 ((stepE g l).1.free.getD k 0)) ∧ URow false w'.heap.size w' ux (stepE g l).1.us ∧ TickI w M (N + 200) w' ∧ (∀ b o, fx = some ⟨b, o, none⟩ → w.heap.size ≤ b) ∧ (∀ b o, ux = some ⟨b, o, none⟩ → w.heap.size ≤ b)
/-- What a step in a tick hands back, by its cells. -/
abbrev SixB := {q : Array Value × (Option Addr × Nat) // q.1.size = 6 ∧ q.1.all (·.oneCell') = true}

set_option maxHeartbeats 12800000 in
set_option maxRecDepth 100000 in
theorem tick_any (g : G) (fa ua la : Option Addr) (cf cu cl : Nat) (hnew : g.new = false) (hcf : g.free.length ≤ 100000) (hcu : g.us.length ≤ 100000) (l : List Cm) (h0 : stepFault g l = 0) (hl8 : l.length ≤ 8) (hlc : l.length ≤ cl) (hci : ∀ c ∈ l, (Lit.int .i64 c.id).wf = true ∧ (Lit.int .i64 c.target).wf = true) (next : Int) (hn0 : 0 ≤ next) (hn1 : next ≤ 50000) (M N : Nat) (hN : N ≤ 50000) (w : World)
    (hf : Row w.heap.size w fa g.free.length (fun k => .int .i64 (g.free.getD k 0))) (hu : URow false w.heap.size w ua g.us) (hc : CRow w.heap.size w la l) (hfit : ∀ n ∈ g.free, Fits64 n) (hm : TickI w M N w) :
    Calls Try.prog 135 #[.map (some M), .agg #[.int .i64 g.tick, .int .i64 g.g0, .int .i64 g.g1, .int .i64 g.next, .slice fa g.free.length cf, .slice ua g.us.length cu], .slice la l.length cl, .int .i64 next] w (TickEnd g l M N w) := by
  obtain ⟨W, hW⟩ : ∃ W, (w.alloc (.cells #[.int .i64 g.tick, .int .i64 g.g0, .int .i64 g.g1, .int .i64 g.next, .slice fa g.free.length cf, .slice ua g.us.length cu] 90)).alloc (.cells #[.int .i64 0, .int .i64 0, .int .i64 0, .int .i64 0, .slice none 0 0, .slice none 0 0] 90) = W := ⟨_, rfl⟩
  have hbW : Below w.heap.size w W := by rw [← hW]; exact ((Below.refl _ _).alloc (Nat.le_refl _) _).alloc (by simp) _
  have hsW : W.heap.size = w.heap.size + 2 := by rw [← hW]; simp
  have k1 : Blk W w.heap.size #[.int .i64 g.tick, .int .i64 g.g0, .int .i64 g.g1, .int .i64 g.next, .slice fa g.free.length cf, .slice ua g.us.length cu] := by rw [← hW]; exact (Blk.new w _ _).alloc _
  have k2 : Blk W (w.heap.size + 1) #[.int .i64 0, .int .i64 0, .int .i64 0, .int .i64 0, .slice none 0 0, .slice none 0 0] := by
    rw [← hW]
    have := Blk.new (w.alloc (.cells #[.int .i64 g.tick, .int .i64 g.g0, .int .i64 g.g1, .int .i64 g.next, .slice fa g.free.length cf, .slice ua g.us.length cu] 90)) #[.int .i64 0, .int .i64 0, .int .i64 0, .int .i64 0, .slice none 0 0, .slice none 0 0] 90
    simpa using this
  have HF := Lib.hid ((hf.below hbW).mono hbW.size)
  have HU := Lib.hid ((hu.below hbW).mono hbW.size)
  have HC := Lib.hid ((hc.below hbW).mono hbW.size)
  have HFIT := Lib.hid hfit
  have HNEW := Lib.hid hnew
  have H0 := Lib.hid h0
  have HCI := Lib.hid hci
  have HSW := Lib.hid hsW
  have HKW := Lib.hid (kp_of hbW (fun b => b = M))
  have HMw : Hid (M < w.heap.size) := Lib.hid hm.lt
  have hm1 := hm.call hbW
  have HM := Lib.hid (show TickI W M N W from ⟨Kp.refl _ _, hm1.2⟩)
  have K1 := Lib.hid k1
  have K2 := Lib.hid k2
  clear hf hu hc hfit hnew hbW k1 k2 hm hm1 h0 hci hsW
  go_enter Try.func135, Try.ntmps135
  go_upto_region 1 with fail
  try rw [hW]
  clear hW
  go_wp2_with fail
  go_loopw [12, 31] (fun o c wr => ∃ k : Nat, c = .int .i64 k ∧ k ≤ l.length ∧ (TickI W M (N + 20 * k) wr ∧ ∃ oa oc xs, o = .slice oa k oc ∧ wr.ownsRow W.heap.size 73 6 (.slice oa k oc) k xs)) (fun _ c _ => (l.length - intOf c).toNat)
  case atStart => exact ⟨0, rfl, by omega, HM.out, none, 0, [], rfl, World.ownsRow_nil _ _ _ _⟩
  case round =>
    obtain ⟨k, rfl, hk, hT, oa, oc, xs, rfl, ow⟩ := hrel
    have HT := Lib.hid hT
    have HOW := Lib.hid ow
    have hTs := hT.1.size
    have KR1 := Lib.hid (hT.1.out K1.out (by have := HMw.out; omega))
    have KR2 := Lib.hid (hT.1.out K2.out (by have := HMw.out; omega))
    have HFr := Lib.hid ((HF.out.keepM (Nat.le_refl _) HM.out.at_ hT.1).mono hTs)
    have HUr := Lib.hid ((HU.out.keepM (Nat.le_refl _) HM.out.at_ hT.1).mono hTs)
    have HCr := Lib.hid ((HC.out.keepM (Nat.le_refl _) HM.out.at_ hT.1).mono hTs)
    have cR := KR1.out.cell
    have lR := KR1.out.lt
    clear hT ow
    by_cases hlt : k < l.length
    · obtain ⟨c, hce⟩ : ∃ c, l.getD k zeroC = c := ⟨_, rfl⟩
      obtain ⟨b, o, rfl, hbB, q0, q1, q2, q3, q4, q5, q6⟩ := HCr.out.get k hlt c hce
      have hcm : c ∈ l := by rw [← hce]; simp [List.getD, hlt]
      have HCC := Lib.hid (HCI.out c hcm)
      clear hce hcm
      go_upto_region 5 with fail
      refine gen_world (fun Z => Below wr.heap.size wr Z ∧ Blk Z wr.heap.size #[.int .i64 c.player, .int .i64 c.op, .int .i64 c.id, .int .i64 c.kind, .int .i64 c.x, .int .i64 c.y, .int .i64 c.target]) ⟨(Below.refl _ _).alloc (Nat.le_refl _) _, Blk.new wr _ _⟩ ?_
      rintro V ⟨bV, kC⟩
      obtain ⟨pC, hpC⟩ : ∃ n, wr.heap.size = n := ⟨_, rfl⟩
      have HTV := Lib.hid (HT.out.call bV)
      have HOV := Lib.hid (own_kp HOW.out (kp_of bV (fun _ => False)) (fun _ _ x => x))
      have KV1 := Lib.hid (KR1.out.call bV)
      have KV2 := Lib.hid (KR2.out.call bV)
      have HFV := Lib.hid ((HFr.out.below bV).mono bV.size)
      have HUV := Lib.hid ((HUr.out.below bV).mono bV.size)
      have HCV := Lib.hid ((HCr.out.below bV).mono bV.size)
      have hVs : W.heap.size ≤ V.heap.size := by have := bV.size; omega
      rw [hpC] at kC
      try rw [hpC]
      have KC := Lib.hid kC
      have HPC0 : Hid (M < pC) := Lib.hid (by have := HT.out.lt; omega)
      clear bV kC hpC cR lR q0 q1 q2 q3 q4 q5 q6
      obtain ⟨B0, hB0⟩ : ∃ x, (stepE g (l.take k)).2 = x := ⟨_, rfl⟩
      have hbf := born_fit HNEW.out (stepFault_take H0.out k)
      rw [hB0] at hbf
      have HBF := Lib.hid hbf.1
      have hB20 := hbf.2
      have HB0 := Lib.hid hB0
      clear hbf hB0
      go_cut [16, 17] (fun b c wx => ∃ ba bc, b = .slice ba B0.length bc ∧ c = .nilIface ∧ (Row wx.heap.size wx ba B0.length (fun j => .int .i64 (B0.getD j 0)) ∧ Below V.heap.size V wx))
      case first =>
        have lE := KV1.out.lt
        have cE := KV1.out.cell
        haveI := Kw.ne (fun b => V.heap.size ≤ b) V
        have kx1 : ∀ (x : Kw (fun b => V.heap.size ≤ b) V) (o : Nat), x.w.cell? ⟨w.heap.size, o, none⟩ = V.cell? ⟨w.heap.size, o, none⟩ := fun x o => x.cell _ _ lE (by omega)
        have hki : (0 : Int) ≤ (k : Int) := by omega
        have hkc : (k : Int) ≤ (cl : Int) := by omega
        have CALL : Hid (∀ x, Kp (fun b => V.heap.size ≤ b) V x → Calls Try.prog 56 #[.agg #[.int .i64 g.tick, .int .i64 g.g0, .int .i64 g.g1, .int .i64 g.next, .slice fa g.free.length cf, .slice ua g.us.length cu], .slice (some ⟨b, o, none⟩) k cl] x fun e w' => ∃ q : SixB, e = .returned (.tuple #[.agg q.1.1, .slice q.1.2.1 B0.length q.1.2.2, .nilIface]) ∧ Below x.heap.size x w' ∧ w'.ownsRow x.heap.size 3 1 (.slice q.1.2.1 B0.length q.1.2.2) B0.length (intCells B0)) := Lib.hid (fun x hx => by
          have hb := kw_below hx 0
          have hlk : (l.take k).length = k := by rw [List.length_take]; omega
          have := step_ok g fa ua (some ⟨b, o, none⟩) cf cu cl HNEW.out hcf hcu (l.take k) (by omega) (stepFault_take H0.out k) x ((HFV.out.below hb).mono hb.size) ((HUV.out.below hb).mono hb.size) (((HCV.out.below hb).mono hb.size).take k) HFIT.out
          rw [hlk] at this
          refine this.mono ?_
          rintro e x' ⟨fx, fc, ux, uc, ba, bc, rfl, -, -, o3, hb', -, -⟩
          rw [HB0.out] at o3
          refine ⟨⟨(#[.int .i64 (stepE g (l.take k)).1.tick, .int .i64 (stepE g (l.take k)).1.g0, .int .i64 (stepE g (l.take k)).1.g1, .int .i64 (stepE g (l.take k)).1.next, .slice fx (stepE g (l.take k)).1.free.length fc, .slice ux (stepE g (l.take k)).1.us.length uc], (ba, bc)), by exact ⟨rfl, by simp [Value.oneCell']⟩⟩, by rw [HB0.out], hb', o3⟩)
        refine region_plan 12 (.read 0 (.read 1 (.read 2 (.read 3 (.fork 4 (.read 5 (.read 6 (.read 7 (.read 8 (.write 9 (.write 10 (.read 11 .done))))))) 9 (.write 4 (.read 5 (.read 6 (.read 7 (.read 8 (.write 10 (.read 11 .done)))))))))))) (kall (fun b => V.heap.size ≤ b) V) (kall_start _ _) (by kernel_rfl) (by kernel_rfl) ?_
        iterate 4 (refine plan_read rfl ?_; refine mix_readK (fun K hK => ?_); go_simp; refine hK _ (mix_nil ?_); clear hK K)
        refine plan_fork ?_ ?_
        · refine plan_write rfl (mix_call (ι := SixB) (fun q => .tuple #[.agg q.1.1, .slice q.1.2.1 B0.length q.1.2.2, .nilIface]) (fun q => kcl (fun b => V.heap.size ≤ b) V (fun x => x.ownsRow V.heap.size 3 1 (.slice q.1.2.1 B0.length q.1.2.2) B0.length (intCells B0)) (fun _ _ h hb => own_kp h (kp_of hb (fun _ => False)) (fun _ _ y => y))) 56 #[.agg #[.int .i64 g.tick, .int .i64 g.g0, .int .i64 g.g1, .int .i64 g.next, .slice fa g.free.length cf, .slice ua g.us.length cu], .slice (some ⟨b, o, none⟩) k cl] rfl (fun x => by simp [go_sem]) (fun x hx => ?_) (fun q => mix_nil ?_))
          · refine (CALL.out x hx.1).mono ?_
            rintro e x' ⟨q, rfl, hb, hq⟩
            exact ⟨q, rfl, hx.1.then_ hb, own_base hq hx.1.size⟩
          try dsimp only
          iterate 4 (refine plan_read rfl ?_; refine mix_readK (fun K hK => ?_); go_simp; refine hK _ (mix_nil ?_); clear hK K)
          refine plan_write rfl ?_
          refine mix_write (ι := {p : Nat // V.heap.size ≤ p}) (fun p => .pointer (some ⟨p.1, 0, none⟩)) (fun p => kcl (fun b => V.heap.size ≤ b) V (fun x => Blk x p.1 #[.int .i64 0, .int .i64 0, .int .i64 0, .int .i64 0, .slice none 0 0, .slice none 0 0] ∧ x.ownsRow V.heap.size 3 1 (.slice q.1.2.1 B0.length q.1.2.2) B0.length (intCells B0) ∧ ∀ b, (Value.slice q.1.2.1 B0.length q.1.2.2).ownBlock = some b → b ≠ p.1) (fun _ _ h hb => ⟨h.1.call hb, own_kp h.2.1 (kp_of hb (fun _ => False)) (fun _ _ y => y), h.2.2⟩)) rfl (fun x h => ⟨⟨x.heap.size, h.1.size⟩, _, Or.inl (by simp [go_sem]; rfl), ?_⟩) (fun p => mix_nil ?_)
          · have hb : Below x.heap.size x (x.alloc (.cells #[.int .i64 0, .int .i64 0, .int .i64 0, .int .i64 0, .slice none 0 0, .slice none 0 0] 90)) := (Below.refl _ _).alloc (Nat.le_refl _) _
            exact ⟨h.1.then_ hb, Blk.new x _ _, own_kp h.2 (kp_of hb (fun _ => False)) (fun _ _ y => y), fun b hb2 => by have := (World.ownsRow.lt h.2 b hb2).2; show b ≠ x.heap.size; omega⟩
          refine plan_write rfl ?_
          try dsimp only
          refine mix_store2 (X := fun b => V.heap.size ≤ b) (v := V) p.1 (z := #[.int .i64 0, .int .i64 0, .int .i64 0, .int .i64 0, .slice none 0 0, .slice none 0 0]) q.1.1 90 (.tmp 15) (.tmp 42) (by rfl) (by rfl) (by rfl) (by rfl) (by rfl) (by rw [q.2.1]; rfl) (by rw [q.2.1]; exact infoElder) q.2.2 p.2 (fun x => x.ownsRow V.heap.size 3 1 (.slice q.1.2.1 B0.length q.1.2.2) B0.length (intCells B0) ∧ ∀ b, (Value.slice q.1.2.1 B0.length q.1.2.2).ownBlock = some b → b ≠ p.1) (fun _ _ h hk => ⟨own_kp h.1 hk (fun b hb => h.2 b hb), h.2⟩) (fun _ _ h hb => ⟨h.1.call hb, own_kp h.2.1 (kp_of hb (fun _ => False)) (fun _ _ y => y), h.2.2⟩) (mix_nil ?_)
          refine plan_read rfl ?_; refine mix_readK (fun K hK => ?_); go_simp; refine hK _ (mix_nil ?_); clear hK K
          refine plan_done ?_
          rintro w5 ⟨k5, b5, h5, -⟩
          go_simp
          go_wp2_with fail
          go_meet
          obtain ⟨ra, rc, re, rr⟩ := ints_at rfl h5
          cases re
          exact ⟨q.1.2.1, q.1.2.2, rfl, rfl, rr, kw_below k5 0⟩
        · refine plan_write rfl ?_
          refine mix_write (ι := {p : Nat // V.heap.size ≤ p}) (fun p => .pointer (some ⟨p.1, 0, none⟩)) (fun p => kcl (fun b => V.heap.size ≤ b) V (fun x => Blk x p.1 #[.int .i64 0, .int .i64 0, .int .i64 0, .int .i64 0, .slice none 0 0, .slice none 0 0]) (fun _ _ h hb => h.call hb)) rfl (fun x h => ⟨⟨x.heap.size, h.1.size⟩, _, Or.inl (by simp [go_sem]; rfl), ?_⟩) (fun p => mix_nil ?_)
          · exact ⟨h.1.then_ ((Below.refl _ _).alloc (Nat.le_refl _) _), Blk.new x _ _⟩
          refine plan_write rfl (mix_call (ι := SixB) (fun q => .tuple #[.agg q.1.1, .slice q.1.2.1 B0.length q.1.2.2, .nilIface]) (fun q => kcl (fun b => V.heap.size ≤ b) V (fun x => Blk x p.1 #[.int .i64 0, .int .i64 0, .int .i64 0, .int .i64 0, .slice none 0 0, .slice none 0 0] ∧ x.ownsRow V.heap.size 3 1 (.slice q.1.2.1 B0.length q.1.2.2) B0.length (intCells B0) ∧ ∀ b, (Value.slice q.1.2.1 B0.length q.1.2.2).ownBlock = some b → b ≠ p.1) (fun _ _ h hb => ⟨h.1.call hb, own_kp h.2.1 (kp_of hb (fun _ => False)) (fun _ _ y => y), h.2.2⟩)) 56 #[.agg #[.int .i64 g.tick, .int .i64 g.g0, .int .i64 g.g1, .int .i64 g.next, .slice fa g.free.length cf, .slice ua g.us.length cu], .slice (some ⟨b, o, none⟩) k cl] rfl (fun x => by simp [go_sem]) (fun x hx => ?_) (fun q => mix_nil ?_))
          · refine (CALL.out x hx.1).mono ?_
            rintro e x' ⟨q, rfl, hb, hq⟩
            have hpl := hx.2.lt
            exact ⟨q, rfl, hx.1.then_ hb, hx.2.call hb, own_base hq hx.1.size, fun b hb2 => by have := (World.ownsRow.lt hq b hb2).1; omega⟩
          try dsimp only
          iterate 4 (refine plan_read rfl ?_; refine mix_readK (fun K hK => ?_); go_simp; refine hK _ (mix_nil ?_); clear hK K)
          refine plan_write rfl ?_
          try dsimp only
          refine mix_store2 (X := fun b => V.heap.size ≤ b) (v := V) p.1 (z := #[.int .i64 0, .int .i64 0, .int .i64 0, .int .i64 0, .slice none 0 0, .slice none 0 0]) q.1.1 90 (.tmp 15) (.tmp 42) (by rfl) (by rfl) (by rfl) (by rfl) (by rfl) (by rw [q.2.1]; rfl) (by rw [q.2.1]; exact infoElder) q.2.2 p.2 (fun x => x.ownsRow V.heap.size 3 1 (.slice q.1.2.1 B0.length q.1.2.2) B0.length (intCells B0) ∧ ∀ b, (Value.slice q.1.2.1 B0.length q.1.2.2).ownBlock = some b → b ≠ p.1) (fun _ _ h hk => ⟨own_kp h.1 hk (fun b hb => h.2 b hb), h.2⟩) (fun _ _ h hb => ⟨h.1.call hb, own_kp h.2.1 (kp_of hb (fun _ => False)) (fun _ _ y => y), h.2.2⟩) (mix_nil ?_)
          refine plan_read rfl ?_; refine mix_readK (fun K hK => ?_); go_simp; refine hK _ (mix_nil ?_); clear hK K
          refine plan_done ?_
          rintro w5 ⟨k5, b5, h5, -⟩
          go_simp
          go_wp2_with fail
          go_meet
          obtain ⟨ra, rc, re, rr⟩ := ints_at rfl h5
          cases re
          exact ⟨q.1.2.1, q.1.2.2, rfl, rfl, rr, kw_below k5 0⟩
      case rest =>
      obtain ⟨ba, bc, rfl, rfl, hrow, hbx⟩ := hcut
      have HTX := Lib.hid (HTV.out.call hbx)
      have HOX := Lib.hid (own_kp HOV.out (kp_of hbx (fun _ => False)) (fun _ _ x => x))
      have KX1 := Lib.hid (KV1.out.call hbx)
      have KX2 := Lib.hid (KV2.out.call hbx)
      have KXC := Lib.hid (KC.out.call hbx)
      have HUX := Lib.hid ((HUV.out.below hbx).mono hbx.size)
      have ROW := Lib.hid hrow
      have hXs := hbx.size
      clear hrow hbx
      have HPC : Hid (M < pC) := Lib.hid HPC0.out
      go_wp2_with fail
      go_loopw [51] (fun c wy => ∃ j : Nat, c = .int .i64 j ∧ j ≤ B0.length ∧ (TickI W M (N + 20 * k + j) wy ∧ Kp (fun b => b = M) wc wy)) (fun c _ => (B0.length - intOf c).toNat)
      case atStart => exact ⟨0, rfl, by omega, HTX.out, Kp.refl _ _⟩
      case round =>
        obtain ⟨j, rfl, hj, hI, hK⟩ := hrel
        have HI := Lib.hid hI
        have HK := Lib.hid hK
        clear hI hK
        by_cases hlt : j < B0.length
        · obtain ⟨rb, ro, rfl, hrb, hrc⟩ := ROW.out j hlt
          obtain ⟨x, hx⟩ : ∃ x, B0.getD j 0 = x := ⟨_, rfl⟩
          dsimp only at hrc
          rw [hx] at hrc
          have hmem : x ∈ B0 := by
            have hl : j < B0.length := hlt
            rw [← hx]
            simp [List.getD, hl]
          have hbx := HBF.out x hmem
          have hwx := wf_int (a := x) (by omega)
          have hrc2 := HTX.out.at_.keep HK.out hrb hrc
          obtain ⟨y, ry, ty, ky⟩ := HI.out.put (by omega) x hwx (next + (j : Int))
          have hwn : IntKind.i64.wrap (next + (j : Int)) = next + (j : Int) := IntWalk.i64_in _ (by omega)
          have TY := Lib.hid ty
          have KY := Lib.hid (HK.out.trans ky (fun _ _ x => x))
          clear hx hmem hbx hwx hrc ty ky hrb
          go_wp2_with fail
          go_roundw
          case rel => exact ⟨j + 1, by go_num, by omega, TY.out.le (by omega), KY.out⟩
          case measure => simp [intOf]; omega
        · obtain rfl : j = B0.length := by omega
          have kM : ∀ b, M < b → ¬ (b = M) := fun b h e => by omega
          have hws := HK.out.size
          have K71 := HK.out.out KX1.out (kM _ HMw.out)
          have K72 := HK.out.out KX2.out (kM _ (by have := HMw.out; omega))
          have K7C := HK.out.out KXC.out (kM _ HPC.out)
          have HU7 := Lib.hid ((HUX.out.keepM (Nat.le_refl _) HTX.out.at_ HK.out).mono hws)
          have HO7 := Lib.hid (own_kp HOX.out HK.out (fun b hb e => by have := (World.ownsRow.lt HOX.out b hb).1; have h2 : b = M := e; have := HMw.out; have := HSW.out; omega))
          have KS1 := Lib.hid K71
          have KS2 := Lib.hid K72
          have KSC := Lib.hid K7C
          have c71 := K71.cell
          have l71 := K71.lt
          have c7C := K7C.cell
          have l7C := K7C.lt
          clear K71 K72 K7C
          go_wp2_with fail
          obtain ⟨n2, s2, F2, hn2, hm2⟩ := HI.out.2
          refine (order_any g fa ua cf cu c M n2 s2 F2 hcu HCC.out.1 HCC.out.2 _ HU7.out hm2).mono ?_
          rintro e w7 ⟨a0, a1, a2, a3, a4, a5, rfl, b7⟩
          have own7 := own_kp HO7.out (kp_of b7 (fun _ => False)) (fun _ _ x => x)
          obtain ⟨g8, cap8, w8, ys, r8, own8, b8⟩ := push_order own7 (by omega) (by have := b7.size; omega) a0 a1 a2 a3 a4 a5
          have HT8 := Lib.hid ((HI.out.call b7).above b8 (by have := HMw.out; have := HSW.out; omega))
          have HO8 := Lib.hid own8
          clear own7 own8 b7 b8 hm2 c71 l71 c7C l7C
          go_wp2_with (at_builtin; refine list_run_append (by rfl) _ _ _ _ (by rfl) (by rfl) (by rfl) (by rfl) r8 ?_)
          go_roundw
          case rel => exact ⟨k + 1, by go_num, by omega, HT8.out.le (by omega), some ⟨g8, 0, none⟩, cap8, ys, rfl, HO8.out⟩
          case measure => simp [intOf]; omega
    · obtain rfl : k = l.length := by omega
      obtain ⟨X, hX⟩ : ∃ x, (stepE g l).1 = x := ⟨_, rfl⟩
      obtain ⟨B1, hB1⟩ : ∃ x, (stepE g l).2 = x := ⟨_, rfl⟩
      have hbf := born_fit HNEW.out H0.out
      rw [hB1] at hbf
      have HBF := Lib.hid hbf.1
      have hB20 := hbf.2
      have hrx : Right X := by rw [← hX]; exact (right_iff _).1 (elder_law HNEW.out H0.out).right
      have hnx : X.new = false := by rw [← hX]; exact step_new HNEW.out l H0.out
      have HRX := Lib.hid hrx
      have HNX := Lib.hid hnx
      have HX := Lib.hid hX
      have HB1 := Lib.hid hB1
      have hxf := hrx.few
      have hxu := hrx.unfree
      clear hbf hrx hnx hX hB1
      go_wp2_with fail
      refine (step_ok g fa ua la cf cu cl HNEW.out hcf hcu l (by omega) H0.out _ HFr.out HUr.out HCr.out HFIT.out).mono ?_
      rintro e w2 ⟨fx, fc, ux, uc, ba, bc, rfl, r1, r2, o3, b2, hA1, hA2⟩
      have HA1 : Hid (∀ b o, fx = some ⟨b, o, none⟩ → b ≠ w.heap.size + 1) := Lib.hid (fun b o e => by have := hA1 b o e; have := HSW.out; omega)
      have HA2 : Hid (∀ b o, ux = some ⟨b, o, none⟩ → b ≠ w.heap.size + 1) := Lib.hid (fun b o e => by have := hA2 b o e; have := HSW.out; omega)
      have HA3 : Hid (∀ b o, fx = some ⟨b, o, none⟩ → w.heap.size ≤ b) := Lib.hid (fun b o e => by have := hA1 b o e; have := HSW.out; omega)
      have HA4 : Hid (∀ b o, ux = some ⟨b, o, none⟩ → w.heap.size ≤ b) := Lib.hid (fun b o e => by have := hA2 b o e; have := HSW.out; omega)
      clear hA1 hA2
      rw [HX.out] at r1 r2
      rw [HB1.out] at o3
      rw [HX.out, HB1.out]
      obtain ⟨ra, rc, re, r3⟩ := ints_at rfl o3
      cases re
      have HT2 := Lib.hid (HT.out.call b2)
      have HO2 := Lib.hid (own_kp HOW.out (kp_of b2 (fun _ => False)) (fun _ _ x => x))
      have K22 := Lib.hid (KR2.out.call b2)
      have R1 := Lib.hid r1
      have R2 := Lib.hid r2
      have R3 := Lib.hid r3
      have hs2 := b2.size
      clear r1 r2 r3 o3 b2 cR lR
      go_upto_region 16 with fail
      have hba : Below w2.heap.size w2 (w2.alloc (.cells #[.int .i64 X.tick, .int .i64 X.g0, .int .i64 X.g1, .int .i64 X.next, .slice fx X.free.length fc, .slice ux X.us.length uc] 90)) := (Below.refl _ _).alloc (Nat.le_refl _) _
      refine gen_world (fun V => (W.heap.size ≤ V.heap.size ∧ TickI W M (N + 20 * l.length) V) ∧ Blk V (w.heap.size + 1) #[.int .i64 0, .int .i64 0, .int .i64 0, .int .i64 0, .slice none 0 0, .slice none 0 0] ∧ Blk V w2.heap.size #[.int .i64 X.tick, .int .i64 X.g0, .int .i64 X.g1, .int .i64 X.next, .slice fx X.free.length fc, .slice ux X.us.length uc] ∧ Row V.heap.size V fx X.free.length (fun k => .int .i64 (X.free.getD k 0)) ∧ URow false V.heap.size V ux X.us ∧ Row V.heap.size V ba B1.length (fun k => .int .i64 (B1.getD k 0))) ⟨⟨by have := hba.size; omega, HT2.out.call hba⟩, K22.out.call hba, Blk.new _ _ _, (R1.out.below hba).mono hba.size, (R2.out.below hba).mono hba.size, (R3.out.below hba).mono hba.size⟩ ?_
      clear hba
      obtain ⟨pA, hpA⟩ : ∃ n, w2.heap.size = n := ⟨_, rfl⟩
      have HPA : Hid (M < pA) := Lib.hid (by have := HT2.out.lt; omega)
      have HPAW : Hid (W.heap.size ≤ pA) := Lib.hid (by omega)
      rw [hpA]
      try rw [hpA]
      clear hpA R1 R2 R3 K22 HT2 HO2
      rintro w3 ⟨⟨hs3, t3⟩, k32, kA, r1, r2, r3⟩
      have HT3 := Lib.hid t3
      have K32 := Lib.hid k32
      have KA := Lib.hid kA
      have RF := Lib.hid r1
      have RU := Lib.hid r2
      have ROW := Lib.hid r3
      clear t3 k32 kA r1 r2 r3
      go_wp2_with fail
      go_loopw [83] (fun c wy => ∃ j : Nat, c = .int .i64 j ∧ j ≤ B1.length ∧ (TickI W M (N + 20 * l.length + j) wy ∧ Kp (fun b => b = M) w3 wy)) (fun c _ => (B1.length - intOf c).toNat)
      case atStart => exact ⟨0, rfl, by omega, HT3.out, Kp.refl _ _⟩
      case round =>
        obtain ⟨j, rfl, hj, hI, hK⟩ := hrel
        have HI := Lib.hid hI
        have HK := Lib.hid hK
        clear hI hK
        by_cases hlt : j < B1.length
        · obtain ⟨rb, ro, rfl, hrb, hrc⟩ := ROW.out j hlt
          obtain ⟨x, hx⟩ : ∃ x, B1.getD j 0 = x := ⟨_, rfl⟩
          dsimp only at hrc
          rw [hx] at hrc
          have hmem : x ∈ B1 := by
            have hl : j < B1.length := hlt
            rw [← hx]
            simp [List.getD, hl]
          have hbx := HBF.out x hmem
          have hwx := wf_int (a := x) (by omega)
          have hrc2 := HT3.out.at_.keep HK.out hrb hrc
          obtain ⟨y, ry, ty, ky⟩ := HI.out.put (by omega) x hwx (next + (j : Int))
          have hwn : IntKind.i64.wrap (next + (j : Int)) = next + (j : Int) := IntWalk.i64_in _ (by omega)
          have TY := Lib.hid ty
          have KY := Lib.hid (HK.out.trans ky (fun _ _ x => x))
          clear hx hmem hbx hwx hrc ty ky hrb
          go_wp2_with fail
          go_roundw
          case rel => exact ⟨j + 1, by go_num, by omega, TY.out.le (by omega), KY.out⟩
          case measure => simp [intOf]; omega
        · obtain rfl : j = B1.length := by omega
          have kM : ∀ b, M < b → ¬ (b = M) := fun b h e => by omega
          have hws := HK.out.size
          have hmm := @run_makeMap Try.prog
          go_upto_region 24 with fail
          have hM0 := MapOf.new (P := Try.prog) (k := 3) (emb := Value.int .i64) (ok := fun a => (Lit.int .i64 a).wf = true) wr
          have hba : Below wr.heap.size wr (wr.alloc (.map #[] 0)) := (Below.refl _ _).alloc (Nat.le_refl _) _
          refine gen_world (fun V => (W.heap.size ≤ V.heap.size ∧ TickI W M (N + 20 * l.length + B1.length) V) ∧ Blk V (w.heap.size + 1) #[.int .i64 0, .int .i64 0, .int .i64 0, .int .i64 0, .slice none 0 0, .slice none 0 0] ∧ Blk V pA #[.int .i64 X.tick, .int .i64 X.g0, .int .i64 X.g1, .int .i64 X.next, .slice fx X.free.length fc, .slice ux X.us.length uc] ∧ Row V.heap.size V fx X.free.length (fun k => .int .i64 (X.free.getD k 0)) ∧ URow false V.heap.size V ux X.us ∧ HereI V wr.heap.size 0) ⟨⟨by have := hba.size; omega, HI.out.call hba⟩, (HK.out.out K32.out (kM _ (by have := HMw.out; omega))).call hba, (HK.out.out KA.out (kM _ HPA.out)).call hba, (((RF.out.keepM (Nat.le_refl _) HT3.out.at_ HK.out).mono hws).below hba).mono hba.size, (((RU.out.keepM (Nat.le_refl _) HT3.out.at_ HK.out).mono hws).below hba).mono hba.size, 0, 0, fun _ => false, Nat.le_refl _, hM0.fn (fun _ => rfl) rfl⟩ ?_
          clear hM0 hba
          obtain ⟨H2, hH2⟩ : ∃ n, wr.heap.size = n := ⟨_, rfl⟩
          have HHM : Hid (M < H2) := Lib.hid (by have := HI.out.lt; omega)
          have HHW : Hid (W.heap.size ≤ H2) := Lib.hid (by omega)
          have HHA : Hid (pA < H2) := Lib.hid (by have := (HK.out.out KA.out (kM _ HPA.out)).lt; omega)
          rw [hH2]
          try rw [hH2]
          clear hH2 K32 KA RF RU ROW HT3 HI HK
          rintro w4 ⟨⟨hs4, t4⟩, k42, kA, r1, r2, h4⟩
          have HT4 := Lib.hid t4
          have K42 := Lib.hid k42
          have KA := Lib.hid kA
          have RF := Lib.hid r1
          have RU := Lib.hid r2
          have HH4 := Lib.hid h4
          have cA := kA.cell
          have lA := kA.lt
          clear t4 k42 kA r1 r2 h4 hmm
          go_wp2_with fail
          clear cA lA
          go_loopw [98] (fun c wy => ∃ j : Nat, c = .int .i64 j ∧ j ≤ X.us.length ∧ (Kp (fun b => b = H2) w4 wy ∧ HereI wy H2 j)) (fun c _ => (X.us.length - intOf c).toNat)
          case atStart => exact ⟨0, rfl, by omega, Kp.refl _ _, HH4.out⟩
          case round =>
            obtain ⟨j, rfl, hj, hK, hH⟩ := hrel
            have HK := Lib.hid hK
            have HH := Lib.hid hH
            have hws := hK.size
            have hru := (RU.out.keepM (Nat.le_refl _) HH4.out.at_ hK).mono hws
            clear hK hH
            by_cases hlt : j < X.us.length
            · obtain ⟨u, hue⟩ : ∃ u, X.us.getD j zeroU = u := ⟨_, rfl⟩
              obtain ⟨b, o, rfl, hbB, q0, q1, q2, q3, q4, q5, q6, q7, q8, q9⟩ := hru.getE j hlt u hue
              have hum : u ∈ X.us := by rw [← hue, getD_lt hlt]; exact List.getElem_mem hlt
              have hok := HRX.out.ok hum
              have hwf : (Lit.int .i64 u.id).wf = true := by
                have h1 := hok.idT
                have h2 := hok.id1
                rw [HNX.out] at h1
                exact wf_int (by have : topOf false = 200 := rfl; omega)
              clear hue hum hok hru
              go_upto_region 27 with fail
              refine gen_world (fun Z => Below wr.heap.size wr Z ∧ Blk Z wr.heap.size #[.int .i64 u.id, .int .i64 u.owner, .int .i64 u.kind, .int .i64 u.x, .int .i64 u.y, .int .i64 u.hp, .int .i64 u.does, .int .i64 u.gx, .int .i64 u.gy, .int .i64 u.target]) ⟨(Below.refl _ _).alloc (Nat.le_refl _) _, Blk.new wr _ _⟩ ?_
              rintro w5 ⟨b5, kU⟩
              obtain ⟨pu, hpu⟩ : ∃ n, wr.heap.size = n := ⟨_, rfl⟩
              rw [hpu] at kU
              try rw [hpu]
              obtain ⟨lU, cU, -⟩ := id kU
              obtain ⟨y, ry, hy, ky⟩ := (HH.out.call b5).put (by omega) u.id hwf
              have HY := Lib.hid hy
              have KY := Lib.hid ((HK.out.then_ b5).trans ky (fun _ _ x => x))
              clear b5 kU hpu hy ky hwf q0 q1 q2 q3 q4 q5 q6 q7 q8 q9
              go_wp2_with fail
              go_roundw
              case rel => exact ⟨j + 1, by go_num, by omega, KY.out, HY.out⟩
              case measure => simp [intOf]; omega
            · obtain rfl : j = X.us.length := by omega
              clear hru
              have hTw := HT4.out.kp HK.out (fun b e => by have := HHW.out; omega) (by have := HMw.out; have := HSW.out; omega)
              obtain ⟨n5, s5, F5, hn5, m5⟩ := hTw.2
              go_wp2_with (at_range; refine list_range (by rfl) _ 203 rfl 3 3 (by kernel_rfl) (by kernel_rfl) M n5 s5 _ rfl m5 ?_; intro w5 hrg5 hb5 hs5)
              go_frame
              obtain ⟨R, hR⟩ : ∃ n, wr.heap.size = n := ⟨_, rfl⟩
              rw [hR] at hrg5 hs5
              try rw [hR]
              have HRR : Hid (wr.heap.size = R) := Lib.hid hR
              have HHR : Hid (H2 < R) := Lib.hid (by have := HH.out.lt; omega)
              have HARR : Hid (w4.heap.size ≤ R) := Lib.hid (by omega)
              have HR5 := Lib.hid hrg5
              have HB5 := Lib.hid hb5
              have HTw := Lib.hid hTw
              have hs45 : w4.heap.size ≤ w5.heap.size := by have := hb5.size; omega
              have HH5 := Lib.hid (HH.out.call hb5)
              have HK5 := Lib.hid (HK.out.trans (kp_of hb5 (fun b => b = H2)) (fun _ _ x => x))
              clear hR hrg5 hb5 hTw m5 hs5
              go_loopw [28] (fun _ wy => (∃ (F : Int → Option Int) (lf : Int → Bool) (cnt : Nat), RgOf Try.prog 3 wy M R n5 (fun j => (F j).map (Value.int .i64)) lf cnt) ∧ Kp (fun b => b = M ∨ b = R) w5 wy) (fun _ wy => wy.rangeLeft M R)
              case atStart => exact ⟨⟨F5, _, _, HR5.out⟩, Kp.refl _ _⟩
              case round =>
                obtain ⟨⟨F, lf, cnt, hrg⟩, hK5⟩ := hrel
                have HRG := Lib.hid hrg
                have HKY := Lib.hid hK5
                have hne2 : ¬ (H2 = M ∨ H2 = R) := by have := HHM.out; have := HHR.out; omega
                go_wp2_with (at_next; refine list_next (by rfl) _ rfl 3 (by kernel_rfl) M R n5 cnt _ lf rfl hrg ?_ ?_)
                case refine_1 =>
                  intro hz0 _
                  clear hz0 hrg
                  go_upto_region 34 with fail
                  have hws := HKY.out.size
                  have KK : Kp (fun b => (b = M ∨ b = R) ∨ b = H2) w4 wr := (HK5.out.imp (fun _ _ x => Or.inr x)).trans HKY.out (fun _ _ x => Or.inl x)
                  have bne : ∀ b, b < H2 → b ≠ M → ¬ ((b = M ∨ b = R) ∨ b = H2) := fun b h1 h2 e => by have := HHR.out; omega
                  have KRES := Lib.hid (KK.out K42.out (bne _ (by have := HHW.out; have := HSW.out; omega) (by have := HMw.out; omega)))
                  have KAW := Lib.hid (KK.out KA.out (bne _ HHA.out (by have := HPA.out; omega)))
                  have hRF := (((RF.out.keepM (Nat.le_refl _) HH4.out.at_ HK.out).below (HB5.out.mono (by have := HK.out.size; omega))).keep2 (by omega) HARR.out HR5.out.at_ HKY.out).mono (B' := wr.heap.size) (by omega)
                  have hRU := (((RU.out.keepM (Nat.le_refl _) HH4.out.at_ HK.out).below (HB5.out.mono (by have := HK.out.size; omega))).keep2 (by omega) HARR.out HR5.out.at_ HKY.out).mono (B' := wr.heap.size) (by omega)
                  obtain ⟨F6, lf6, cnt6, hrg6⟩ : ∃ F6 lf6 cnt6, RgOf Try.prog 3 wr M R n5 (fun j => Option.map (Value.int .i64) (F6 j)) lf6 cnt6 := ⟨F, lf, cnt, HRG.out⟩
                  obtain ⟨sz6, m6⟩ := hrg6.map
                  have hTf : TickI W M (N + 200) wr := ⟨((HTw.out.1.trans (kp_of HB5.out (fun b => b = M)) (fun _ _ x => x))).trans HKY.out (fun b hb e => by rcases e with e | e; exact e; exfalso; have := HHR.out; have := HHW.out; omega), n5, sz6, F6, by omega, m6⟩
                  have HTF := Lib.hid hTf
                  have HRF := Lib.hid hRF
                  have HRU := Lib.hid hRU
                  clear KK bne hRF hRU hrg6 m6 hTf hne2
                  have lA := KAW.out.lt
                  have cA := KAW.out.cell
                  haveI := Kw.ne (fun b => b = w.heap.size + 1) wr
                  have hpA1 : pA ≠ w.heap.size + 1 := by have := HPAW.out; have := HSW.out; omega
                  have kx1 : ∀ (x : Kw (fun b => b = w.heap.size + 1) wr) (o : Nat), x.w.cell? ⟨pA, o, none⟩ = wr.cell? ⟨pA, o, none⟩ := fun x o => x.cell _ _ lA hpA1
                  refine region_mix 6 [(false, 0), (false, 1), (false, 2), (false, 3), (false, 4), (true, 5)] (kcl (fun b => b = w.heap.size + 1) wr (fun x => Blk x (w.heap.size + 1) #[.int .i64 0, .int .i64 0, .int .i64 0, .int .i64 0, .slice none 0 0, .slice none 0 0] ∧ True) (fun _ _ h hb => ⟨h.1.call hb, trivial⟩)) ⟨Kp.drew _ _, KRES.out, trivial⟩ (by kernel_rfl) (by kernel_rfl) ?_
                  simp only [stepsOf, List.filterMap_cons, List.filterMap_nil, List.getElem?_toArray, List.getElem?_cons_zero, List.getElem?_cons_succ, Option.map_some, List.drop_succ_cons, List.drop_zero]
                  repeat (refine mix_readK (fun K hK => ?_); go_simp; refine hK _ ?_; clear hK K)
                  refine mix_store2 (X := fun b => b = w.heap.size + 1) (v := wr) (w.heap.size + 1) (z := #[.int .i64 0, .int .i64 0, .int .i64 0, .int .i64 0, .slice none 0 0, .slice none 0 0]) #[.int .i64 X.tick, .int .i64 X.g0, .int .i64 X.g1, .int .i64 X.next, .slice fx X.free.length fc, .slice ux X.us.length uc] 90 (.tmp 9) (.tmp 119) (by rfl) (by rfl) (by rfl) (by rfl) (by rfl) (by rfl) infoElder (by simp [Value.oneCell']) (by rfl) (fun _ => True) (fun _ _ _ _ => trivial) (fun _ _ h hb => ⟨h.1.call hb, trivial⟩) ?_
                  refine mix_nil ?_
                  rintro Q ⟨kQ, bQ, -⟩
                  have BQ := Lib.hid bQ
                  have KQ := Lib.hid kQ
                  clear bQ kQ kx1
                  refine wpList_plain rfl (fun K hK => ?_); go_simp; refine hK _ _ ?_; clear hK K
                  refine wpList_plain rfl (fun K hK => ?_); go_simp; refine hK _ _ ?_; clear hK K
                  refine wpList_nil ?_
                  go_wp2_with fail
                  refine bodyPost_ret (v := .tuple #[.slice oa l.length oc, .agg #[.int .i64 X.tick, .int .i64 X.g0, .int .i64 X.g1, .int .i64 X.next, .slice fx X.free.length fc, .slice ux X.us.length uc], .int .i64 (B1.length : Nat), .nilIface]) (ret_cell4 Try.results135 rfl rfl rfl rfl BQ.out Try.underlying90 rfl infoElder) rfl ?_
                  have hle := KQ.out.size
                  have hwz := HSW.out
                  refine ⟨oa, oc, fx, fc, ux, uc, by rw [HX.out, HB1.out], ?_, ?_, ?_, HA3.out, HA4.out⟩
                  · rw [HX.out]; exact (HRF.out.keepP (Nat.le_refl _) KQ.out HA1.out).mono hle
                  · rw [HX.out]; exact (HRU.out.keepP (Nat.le_refl _) KQ.out HA2.out).mono hle
                  · have t0 : TickI w M (N + 200) wr := ⟨HKW.out.trans HTF.out.1 (fun _ _ x => x), HTF.out.2⟩
                    exact t0.kp KQ.out (fun b e => by have h2 : b = w.heap.size + 1 := e; omega) HMw.out
                case refine_2 =>
                  rintro i v w6 cnt6 hwi hli x hfi rfl hrg6 hlt6 hk6 hs6 hen
                  have hH6 : HereI w6 H2 X.us.length := (HH5.out.kp HKY.out hne2).kp hk6 (fun e => by have := HHR.out; omega)
                  obtain ⟨hb, hlk⟩ := hH6.get i hwi
                  have HK6 := Lib.hid (HKY.out.trans hk6 (fun b _ e => Or.inr e))
                  have HR6 := Lib.hid hrg6
                  clear hH6 hk6 hli hrg
                  cases hb with
                  | true =>
                    clear hrg6
                    go_wp2_with fail
                    go_roundw
                    case rel => exact ⟨⟨F, _, cnt6, HR6.out⟩, HK6.out⟩
                    case measure => rw [HR6.out.left_eq, HRG.out.left_eq]; omega
                  | false =>
                    go_wp2_with (at_delete; refine list_delete (by rfl) _ _ 203 3 rfl (by kernel_rfl) 3 (by kernel_rfl) M R n5 cnt6 _ _ i hwi rfl rfl hrg6 ?_; intro w7 cnt7 hrg7 hle7 ht7; go_frame)
                    refine ⟨⟨⟨fun j => if j = i then none else F j, fun j => (lf j && !decide (j = i)) && !decide (j = i), cnt7, ?_⟩, HK6.out.trans (Kp.turned ht7 : Kp (fun b => b = M) w6 w7) (fun b _ e => Or.inl e)⟩, by rw [hrg7.left_eq, HRG.out.left_eq]; omega⟩
                    have e : (fun j => if j = i then none else Option.map (Value.int .i64) (F j)) = fun j => Option.map (Value.int .i64) (if j = i then none else F j) := by
                      funext j
                      by_cases e : j = i
                      · rw [if_pos e, if_pos e]; rfl
                      · rw [if_neg e, if_neg e]
                    rw [← e]
                    exact hrg7
end Go.Proofs.Ytlfljlhppigejaa
