/-
  The walks of ferry.Carry, kind, names.order. (Printed by gen_fer.py.) The walk of names.order: it comes back with some order. (Printed by gen_fer.py.)
-/
import Derived.Test.YtlfljlhppigejaaPackFerB
import Derived.Test.YtlfljlhppigejaaPlayAll
import Derived.Test.YtlfljlhppigejaaCmdRow
namespace Go.Proofs.Ytlfljlhppigejaa
open Go.RowKit

/-- What comes back of Carry. -/
def CarriedEnd (err : Value) (g : G) (w : World) (e : Ending) (w' : World) : Prop :=
  Below w.heap.size w w' ∧ ((faultOf g ≠ 0 ∧ err = errV (faultOf g) ∧ e = .returned (.tuple #[.agg #[.int .i64 0, .int .i64 0, .int .i64 0, .int .i64 0, .slice none 0 0], err])) ∨ (faultOf g = 0 ∧ fitsB g = false ∧ err = errV 8 ∧ e = .returned (.tuple #[.agg #[.int .i64 0, .int .i64 0, .int .i64 0, .int .i64 0, .slice none 0 0], err])) ∨
    (faultOf g = 0 ∧ fitsB g = true ∧ err = .nilIface ∧ ∃ ub cb, e = .returned (.tuple #[.agg #[.int .i64 g.tick, .int .i64 g.g0, .int .i64 g.g1, .int .i64 ((g.us.length : Int) + 1), .slice ub g.us.length cb], err]) ∧ w'.ownsRow w.heap.size 130 11 (.slice ub g.us.length cb) g.us.length (cellsAllN (carryG g).us)))

set_option maxHeartbeats 3200000 in
set_option maxRecDepth 100000 in
theorem carryout_any (g : G) (fa ua : Option Addr) (cf cu : Nat) (hnew : g.new = false) (hcf : g.free.length ≤ 100000) (hcu : g.us.length ≤ 100000) (w : World) (hf : Row w.heap.size w fa g.free.length (fun k => .int .i64 (g.free.getD k 0))) (hu : URow false w.heap.size w ua g.us) (hfit : ∀ n ∈ g.free, Fits64 n) :
    Calls Try.prog 72 #[.agg #[.int .i64 g.tick, .int .i64 g.g0, .int .i64 g.g1, .int .i64 g.next, .slice fa g.free.length cf, .slice ua g.us.length cu]] w fun e w' => ∃ err, CarriedEnd err g w e w' := by
  obtain ⟨W, hW⟩ : ∃ W, (w.alloc (.cells #[.int .i64 g.tick, .int .i64 g.g0, .int .i64 g.g1, .int .i64 g.next, .slice fa g.free.length cf, .slice ua g.us.length cu] 90)).alloc (.cells #[.int .i64 0, .int .i64 0, .int .i64 0, .int .i64 0, .slice none 0 0] 65) = W := ⟨_, rfl⟩
  have hbW : Below w.heap.size w W := by rw [← hW]; exact ((Below.refl _ _).alloc (Nat.le_refl _) _).alloc (by simp) _
  have k1 : Blk W w.heap.size #[.int .i64 g.tick, .int .i64 g.g0, .int .i64 g.g1, .int .i64 g.next, .slice fa g.free.length cf, .slice ua g.us.length cu] := by rw [← hW]; exact (Blk.new w _ _).alloc _
  have k2 : Blk W (w.heap.size + 1) #[.int .i64 0, .int .i64 0, .int .i64 0, .int .i64 0, .slice none 0 0] := by
    rw [← hW]
    have := Blk.new (w.alloc (.cells #[.int .i64 g.tick, .int .i64 g.g0, .int .i64 g.g1, .int .i64 g.next, .slice fa g.free.length cf, .slice ua g.us.length cu] 90)) #[.int .i64 0, .int .i64 0, .int .i64 0, .int .i64 0, .slice none 0 0] 65
    simpa using this
  have HF := Lib.hid ((hf.below hbW).mono hbW.size)
  have HU := Lib.hid ((hu.below hbW).mono hbW.size)
  have HFIT := Lib.hid hfit
  have HNEW := Lib.hid hnew
  have HW := Lib.hid hbW
  have K2 := Lib.hid k2
  have hszW := hbW.size
  have HSW : Hid (W.heap.size = w.heap.size + 2) := Lib.hid (by rw [← hW]; simp)
  obtain ⟨l1, c1, -⟩ := k1
  clear hf hu hfit hnew hbW k2
  go_enter Try.func72, Try.ntmps72
  go_upto_region 1 with fail
  try rw [hW]
  clear hW
  go_wp2_with fail
  refine (carry_any g fa ua cf cu HNEW.out hcf hcu _ HF.out HU.out HFIT.out).mono ?_
  rintro e w1 ⟨b1, hcase⟩
  have k21 := K2.out.call b1
  have HB1 : Hid (Below w.heap.size w w1) := Lib.hid (HW.out.trans (b1.mono hszW))
  have K21 := Lib.hid k21
  clear b1 k21 c1 l1 K2
  rcases hcase with ⟨hne, rfl⟩ | ⟨h0, hff, rfl⟩ | ⟨h0, hft, ub, cb, M, n, sz, rfl, own, hM, -, -⟩
  · have HNE := Lib.hid hne
    clear hne
    rw [errV_pos _ HNE.out]
    go_upto_region 2 with fail
    refine gen_world (fun V => Below w.heap.size w V ∧ Blk V (w.heap.size + 1) #[.int .i64 0, .int .i64 0, .int .i64 0, .int .i64 0, .slice none 0 0] ∧ Blk V w1.heap.size #[Value.int .i64 0, Value.int .i64 0, Value.int .i64 0, Value.int .i64 0, Value.slice none 0 0]) ⟨HB1.out.alloc HB1.out.size _, K21.out.alloc _, Blk.new _ _ _⟩ ?_
    rintro w2 ⟨b2, k22, kX⟩
    obtain ⟨pX, hpX⟩ : ∃ n, w1.heap.size = n := ⟨_, rfl⟩
    rw [hpX] at kX
    try rw [hpX]
    clear hpX
    obtain ⟨lX, cX, -⟩ := id kX
    obtain ⟨lN, cN, fN⟩ := id k22
    have K22 := Lib.hid k22
    have B2 := Lib.hid b2
    clear b2 k22 kX
    go_wp2_with fail
    refine bodyPost_ret (v := .tuple #[.agg #[Value.int .i64 0, Value.int .i64 0, Value.int .i64 0, Value.int .i64 0, Value.slice none 0 0], .iface 148 (.int .i64 (faultOf g : Nat))]) (ret_pair Try.results72 rfl rfl (K22.out.store5 rfl (Value.int .i64 0) (Value.int .i64 0) (Value.int .i64 0) (Value.int .i64 0) (Value.slice none 0 0)) Try.underlying65 rfl infoNewer) rfl ?_
    refine ⟨.iface 148 (.int .i64 (faultOf g : Nat)), ?_, Or.inl ⟨HNE.out, (errV_pos _ HNE.out).symm, rfl⟩⟩
    · iterate 5 (refine Below.setCell ?_ (by simp) _)
      exact B2.out
  · have HFF := Lib.hid (And.intro h0 hff)
    clear h0 hff
    rw [errV_pos 8 (by decide)]
    go_upto_region 2 with fail
    refine gen_world (fun V => Below w.heap.size w V ∧ Blk V (w.heap.size + 1) #[.int .i64 0, .int .i64 0, .int .i64 0, .int .i64 0, .slice none 0 0] ∧ Blk V w1.heap.size #[Value.int .i64 0, Value.int .i64 0, Value.int .i64 0, Value.int .i64 0, Value.slice none 0 0]) ⟨HB1.out.alloc HB1.out.size _, K21.out.alloc _, Blk.new _ _ _⟩ ?_
    rintro w2 ⟨b2, k22, kX⟩
    obtain ⟨pX, hpX⟩ : ∃ n, w1.heap.size = n := ⟨_, rfl⟩
    rw [hpX] at kX
    try rw [hpX]
    clear hpX
    obtain ⟨lX, cX, -⟩ := id kX
    obtain ⟨lN, cN, fN⟩ := id k22
    have K22 := Lib.hid k22
    have B2 := Lib.hid b2
    clear b2 k22 kX
    go_wp2_with fail
    refine bodyPost_ret (v := .tuple #[.agg #[Value.int .i64 0, Value.int .i64 0, Value.int .i64 0, Value.int .i64 0, Value.slice none 0 0], .iface 148 (.int .i64 (8 : Nat))]) (ret_pair Try.results72 rfl rfl (K22.out.store5 rfl (Value.int .i64 0) (Value.int .i64 0) (Value.int .i64 0) (Value.int .i64 0) (Value.slice none 0 0)) Try.underlying65 rfl infoNewer) rfl ?_
    refine ⟨.iface 148 (.int .i64 (8 : Nat)), ?_, Or.inr (Or.inl ⟨HFF.out.1, HFF.out.2, (errV_pos 8 (by decide)).symm, rfl⟩)⟩
    · iterate 5 (refine Below.setCell ?_ (by simp) _)
      exact B2.out
  · have HFT := Lib.hid (And.intro h0 hft)
    have OW := Lib.hid own
    clear h0 hft own hM
    go_upto_region 2 with fail
    refine gen_world (fun V => Below w.heap.size w V ∧ Blk V (w.heap.size + 1) #[.int .i64 0, .int .i64 0, .int .i64 0, .int .i64 0, .slice none 0 0] ∧ Blk V w1.heap.size #[Value.int .i64 g.tick, Value.int .i64 g.g0, Value.int .i64 g.g1, Value.int .i64 ((g.us.length : Int) + 1), Value.slice ub g.us.length cb] ∧ (V.ownsRow W.heap.size 130 11 (.slice ub g.us.length cb) g.us.length (cellsAllN (carryG g).us))) ⟨HB1.out.alloc HB1.out.size _, K21.out.alloc _, Blk.new _ _ _, own_kp OW.out (kp_of ((Below.refl _ _).alloc (Nat.le_refl _) _) (fun _ => False)) (fun _ _ x => x)⟩ ?_
    rintro w2 ⟨b2, k22, kX, o2⟩
    obtain ⟨pX, hpX⟩ : ∃ n, w1.heap.size = n := ⟨_, rfl⟩
    rw [hpX] at kX
    try rw [hpX]
    clear hpX
    obtain ⟨lX, cX, -⟩ := id kX
    obtain ⟨lN, cN, fN⟩ := id k22
    have K22 := Lib.hid k22
    have B2 := Lib.hid b2
    clear b2 k22 kX
    go_wp2_with fail
    refine bodyPost_ret (v := .tuple #[.agg #[Value.int .i64 g.tick, Value.int .i64 g.g0, Value.int .i64 g.g1, Value.int .i64 ((g.us.length : Int) + 1), Value.slice ub g.us.length cb], .nilIface]) (ret_pair Try.results72 rfl rfl (K22.out.store5 rfl (Value.int .i64 g.tick) (Value.int .i64 g.g0) (Value.int .i64 g.g1) (Value.int .i64 ((g.us.length : Int) + 1)) (Value.slice ub g.us.length cb)) Try.underlying65 rfl infoNewer) rfl ?_
    refine ⟨.nilIface, ?_, Or.inr (Or.inr ⟨HFT.out.1, HFT.out.2, rfl, ub, cb, rfl, ?_⟩)⟩
    · iterate 5 (refine Below.setCell ?_ (by simp) _)
      exact B2.out
    · have lo := fun c hc => World.ownsRow.lt o2 c hc
      have hW2 : W.heap.size = w.heap.size + 2 := HSW.out
      refine own_kp (own_base o2 (by omega)) (X := fun b => b = w.heap.size + 1) ?_ (fun c hc e => by have := (lo c hc).1; have h2 : c = w.heap.size + 1 := e; omega)
      iterate 5 (refine Kp.andset ?_ _ _ rfl)
      exact Kp.refl _ _

set_option maxHeartbeats 1600000 in
set_option maxRecDepth 100000 in
theorem kind_any (g : G) (fa ua : Option Addr) (cf cu : Nat) (want : Int) (hcu : g.us.length ≤ 100000) (w : World) (hu : URow false w.heap.size w ua g.us) :
    Calls Try.prog 177 #[.agg #[.int .i64 g.tick, .int .i64 g.g0, .int .i64 g.g1, .int .i64 g.next, .slice fa g.free.length cf, .slice ua g.us.length cu], .int .i64 want] w fun e w' => ∃ k : Int, e = .returned (.int .i64 k) ∧ Below w.heap.size w w' := by
  obtain ⟨W, hW⟩ : ∃ W, w.alloc (.cells #[.int .i64 g.tick, .int .i64 g.g0, .int .i64 g.g1, .int .i64 g.next, .slice fa g.free.length cf, .slice ua g.us.length cu] 90) = W := ⟨_, rfl⟩
  have hbW : Below w.heap.size w W := by rw [← hW]; exact (Below.refl _ _).alloc (Nat.le_refl _) _
  have k1 : Blk W w.heap.size #[.int .i64 g.tick, .int .i64 g.g0, .int .i64 g.g1, .int .i64 g.next, .slice fa g.free.length cf, .slice ua g.us.length cu] := by rw [← hW]; exact Blk.new _ _ _
  obtain ⟨l1, c1, -⟩ := k1
  have HBW := Lib.hid hbW
  have HU0 := Lib.hid hu
  clear hu hbW
  go_enter Try.func177, Try.ntmps177
  go_upto_region 1 with fail
  try rw [hW]
  clear hW
  go_wp2_with fail
  go_loopw [10] (fun c wr => ∃ k : Nat, c = .int .i64 k ∧ k ≤ g.us.length ∧ Below w.heap.size w wr) (fun c _ => (g.us.length - intOf c).toNat)
  case atStart => exact ⟨0, rfl, by omega, HBW.out⟩
  case round =>
    obtain ⟨k, rfl, hk, hb⟩ := hrel
    by_cases hlt : k < g.us.length
    · obtain ⟨u, hue⟩ : ∃ u, g.us.getD k zeroU = u := ⟨_, rfl⟩
      obtain ⟨b, o, rfl, hbB, q0, q1, q2, q3, q4, q5, q6, q7, q8, q9⟩ := (HU0.out.below hb).getE k hlt u hue
      have HB := Lib.hid hb
      clear hue hb
      go_upto_region 4 with fail
      refine gen_world (fun Z => Below wr.heap.size wr Z ∧ Blk Z wr.heap.size #[.int .i64 u.id, .int .i64 u.owner, .int .i64 u.kind, .int .i64 u.x, .int .i64 u.y, .int .i64 u.hp, .int .i64 u.does, .int .i64 u.gx, .int .i64 u.gy, .int .i64 u.target]) ⟨(Below.refl _ _).alloc (Nat.le_refl _) _, Blk.new wr _ _⟩ ?_
      rintro w1 ⟨hb1, kU⟩
      obtain ⟨pu, hpu⟩ : ∃ n, wr.heap.size = n := ⟨_, rfl⟩
      have HB1 := Lib.hid (HB.out.trans (hb1.mono HB.out.size))
      rw [hpu] at kU
      try rw [hpu]
      obtain ⟨lU, cU, -⟩ := id kU
      clear hb1 kU hpu q0 q1 q2 q3 q4 q5 q6 q7 q8 q9
      by_cases he : u.id = want
      · have d5 : (u.id == want) = true := by simp [he]
        clear he
        go_wp2_with fail
        go_ret
        exact ⟨_, rfl, HB1.out⟩
      · have d5 : (u.id == want) = false := by simp [he]
        clear he
        go_wp2_with fail
        go_roundw
        case rel => exact ⟨k + 1, by go_num, by omega, HB1.out⟩
        case measure => simp [intOf]; omega
    · obtain rfl : k = g.us.length := by omega
      have HB := Lib.hid hb
      clear hb
      go_wp2_with fail
      go_ret
      exact ⟨_, rfl, HB.out⟩
end Go.Proofs.Ytlfljlhppigejaa
namespace Go.Proofs.Ytlfljlhppigejaa
open Go.RowKit

theorem Kp.drewN' (X : Nat → Prop) (w : World) (n : Nat) : Kp X w (w.drewN n) := ⟨rfl, rfl, rfl, Nat.le_refl _, fun _ _ _ => rfl⟩
theorem Kp.thendrew {X : Nat → Prop} {w w' : World} (k : Kp X w w') : Kp X w w'.drew := k.trans (Kp.drew X w') (fun _ _ x => x)
theorem infoOrder : (Try.prog.info? 73).map (·.size) = some 6 := by kernel_rfl

set_option maxHeartbeats 6400000 in
set_option maxRecDepth 100000 in
theorem order_any (g : G) (fa ua : Option Addr) (cf cu : Nat) (c : Cm) (M n sz : Nat) (F : Int → Option Int) (hcu : g.us.length ≤ 100000) (hci : (Lit.int .i64 c.id).wf = true) (hct : (Lit.int .i64 c.target).wf = true) (w : World) (hu : URow false w.heap.size w ua g.us) (hm : NM w M n sz F) :
    Calls Try.prog 169 #[.map (some M), .agg #[.int .i64 g.tick, .int .i64 g.g0, .int .i64 g.g1, .int .i64 g.next, .slice fa g.free.length cf, .slice ua g.us.length cu], .agg #[.int .i64 c.player, .int .i64 c.op, .int .i64 c.id, .int .i64 c.kind, .int .i64 c.x, .int .i64 c.y, .int .i64 c.target]] w fun e w' => ∃ a0 a1 a2 a3 a4 a5 : Int, e = .returned (.agg #[.int .i64 a0, .int .i64 a1, .int .i64 a2, .int .i64 a3, .int .i64 a4, .int .i64 a5]) ∧ Below w.heap.size w w' := by
  obtain ⟨W, hW⟩ : ∃ W, ((w.alloc (.cells #[.int .i64 g.tick, .int .i64 g.g0, .int .i64 g.g1, .int .i64 g.next, .slice fa g.free.length cf, .slice ua g.us.length cu] 90)).alloc (.cells #[.int .i64 c.player, .int .i64 c.op, .int .i64 c.id, .int .i64 c.kind, .int .i64 c.x, .int .i64 c.y, .int .i64 c.target] 99)).alloc (.cells #[.int .i64 0, .int .i64 0, .int .i64 0, .int .i64 0, .int .i64 0, .int .i64 0] 73) = W := ⟨_, rfl⟩
  have hsW : W.heap.size = w.heap.size + 3 := by rw [← hW]; simp
  have hbW : Below w.heap.size w W := by rw [← hW]; exact (((Below.refl _ _).alloc (Nat.le_refl _) _).alloc (by simp) _).alloc (by simp; omega) _
  have k1 : Blk W w.heap.size #[.int .i64 g.tick, .int .i64 g.g0, .int .i64 g.g1, .int .i64 g.next, .slice fa g.free.length cf, .slice ua g.us.length cu] := by rw [← hW]; exact ((Blk.new w _ _).alloc _).alloc _
  have k2 : Blk W (w.heap.size + 1) #[.int .i64 c.player, .int .i64 c.op, .int .i64 c.id, .int .i64 c.kind, .int .i64 c.x, .int .i64 c.y, .int .i64 c.target] := by
    rw [← hW]
    have := (Blk.new (w.alloc (.cells #[.int .i64 g.tick, .int .i64 g.g0, .int .i64 g.g1, .int .i64 g.next, .slice fa g.free.length cf, .slice ua g.us.length cu] 90)) #[.int .i64 c.player, .int .i64 c.op, .int .i64 c.id, .int .i64 c.kind, .int .i64 c.x, .int .i64 c.y, .int .i64 c.target] 99).alloc (.cells #[.int .i64 0, .int .i64 0, .int .i64 0, .int .i64 0, .int .i64 0, .int .i64 0] 73)
    simpa using this
  have k3 : Blk W (w.heap.size + 2) #[.int .i64 0, .int .i64 0, .int .i64 0, .int .i64 0, .int .i64 0, .int .i64 0] := by
    rw [← hW]
    have := Blk.new ((w.alloc (.cells #[.int .i64 g.tick, .int .i64 g.g0, .int .i64 g.g1, .int .i64 g.next, .slice fa g.free.length cf, .slice ua g.us.length cu] 90)).alloc (.cells #[.int .i64 c.player, .int .i64 c.op, .int .i64 c.id, .int .i64 c.kind, .int .i64 c.x, .int .i64 c.y, .int .i64 c.target] 99)) #[.int .i64 0, .int .i64 0, .int .i64 0, .int .i64 0, .int .i64 0, .int .i64 0] 73
    simpa using this
  have HU := Lib.hid ((hu.below hbW).mono hbW.size)
  have HM := Lib.hid (hm.call hbW)
  have hl1 := nm_get HM.out c.id hci
  have HMw : Hid (M < w.heap.size) := Lib.hid hm.lt
  have HBW := Lib.hid hbW
  have HSW := Lib.hid hsW
  have K1 := Lib.hid k1
  have K2 := Lib.hid k2
  have K3 := Lib.hid k3
  obtain ⟨l1, c1, -⟩ := k1
  obtain ⟨l2, c2, -⟩ := k2
  clear hu hm hbW hsW k3
  go_enter Try.func169, Try.ntmps169
  go_upto_region 1 with fail
  try rw [hW]
  clear hW
  go_upto_region 2 with fail
  clear hl1
  obtain ⟨i0, hi0⟩ : ∃ x, (F c.id).getD 0 = x := ⟨_, rfl⟩
  try rw [hi0]
  refine gen_world (fun V => Below W.heap.size W V ∧ Blk V W.heap.size #[.int .i64 c.player, .int .i64 0, .int .i64 i0, .int .i64 0, .int .i64 0, .int .i64 0]) ⟨(Below.refl _ _).alloc (Nat.le_refl _) _, Blk.new _ _ _⟩ ?_
  rintro w1 ⟨b1, kO⟩
  obtain ⟨pO, hpO⟩ : ∃ n, W.heap.size = n := ⟨_, rfl⟩
  have HPW : Hid (pO = w.heap.size + 3) := Lib.hid (by have := HSW.out; omega)
  have k11 := K1.out.call b1
  have k21 := K2.out.call b1
  have k31 := K3.out.call b1
  have HB1 := Lib.hid (HBW.out.trans (b1.mono HBW.out.size))
  have HU1 := Lib.hid ((HU.out.below b1).mono b1.size)
  have HM1 := Lib.hid (HM.out.call b1)
  rw [hpO] at kO
  try rw [hpO]
  have KO := Lib.hid kO
  have K11 := Lib.hid k11
  have K21 := Lib.hid k21
  have K31 := Lib.hid k31
  clear c1 l1 c2 l2
  obtain ⟨l1, c1, -⟩ := k11
  obtain ⟨l2, c2, -⟩ := k21
  clear b1 hpO hi0 kO k31 HU HM HBW K1 K2 K3
  go_wp2_with fail
  refine (kind_any g fa ua cf cu c.target hcu _ HU1.out).mono ?_
  rintro e w2 ⟨kd, rfl, b2⟩
  have k12 := K11.out.call b2
  have k22 := K21.out.call b2
  have k32 := K31.out.call b2
  have kO2 := KO.out.call b2
  have HB2 := Lib.hid (HB1.out.trans (b2.mono HB1.out.size))
  have HM2 := Lib.hid (HM1.out.call b2)
  have KO2 := Lib.hid kO2
  have K32 := Lib.hid k32
  clear c1 l1 c2 l2
  obtain ⟨l2, c2, -⟩ := k22
  obtain ⟨lO, cO, fO⟩ := kO2
  obtain ⟨l3, c3, f3⟩ := k32
  clear b2 k12 HU1 HM1 HB1 K11 K21 K31 KO
  obtain ⟨mine, hmine⟩ : ∃ x, (kd == 4) = x := ⟨_, rfl⟩
  obtain ⟨t0, ht0⟩ : ∃ x, (F c.target).getD 0 = x := ⟨_, rfl⟩
  have HT0 := Lib.hid ht0
  have HCT := Lib.hid hct
  clear ht0 hct hci
  have hMpO : Hid (M ≠ pO) := Lib.hid (by have := HPW.out; have := HMw.out; omega)
  have hl2 := nm_get HM2.out.drew c.target HCT.out
  have hl3 := fun (o : Nat) (v : Value) => nm_get (HM2.out.set (a := ⟨pO, o, none⟩) hMpO.out v).drew c.target HCT.out
  simp only [HT0.out] at hl2 hl3
  by_cases h1 : c.op = 1
  · clear hl2 hl3
    have d1 : (c.op == 1) = true := by simp [h1]
    have d2 : (c.op == 2) = false := by simp [h1]
    have d3 : (c.op == 3) = false := by simp [h1]
    have d4 : (c.op == 4) = false := by simp [h1]
    have d5 : (c.op == 5) = false := by simp [h1]
    clear h1
    go_wp2_with fail
    go_region
    go_upto_region 13 with fail
    refine gen_world (fun V => Below w.heap.size w V ∧ Blk V (w.heap.size + 2) #[.int .i64 0, .int .i64 0, .int .i64 0, .int .i64 0, .int .i64 0, .int .i64 0] ∧ Blk V pO #[.int .i64 c.player, .int .i64 1, .int .i64 i0, .int .i64 0, .int .i64 c.x, .int .i64 c.y]) ⟨?_, ?_, ?_⟩ ?_
    · refine HB2.out.trans (Kp.below (X := fun b => b = pO) ?_ (fun b e => by have := HPW.out; omega) HB2.out.size)
      repeat (first | exact Kp.refl _ _ | exact Kp.drewN' _ _ _ | refine Kp.andset ?_ _ _ rfl | refine Kp.thendrew ?_)
    · refine K32.out.kp (X := fun b => b = pO) ?_ (fun e => by have := HPW.out; omega)
      repeat (first | exact Kp.refl _ _ | exact Kp.drewN' _ _ _ | refine Kp.andset ?_ _ _ rfl | refine Kp.thendrew ?_)
    · have := Blk.store (i := 5) (.int .i64 c.y) (Blk.store (i := 4) (.int .i64 c.x) (Blk.store (i := 1) (.int .i64 1) (KO2.out) (by simp)) (by simp)) (by simp)
      have t : Blk (World.setCell (World.setCell (World.setCell (w2) ⟨pO, 1, none⟩ (.int .i64 1)) ⟨pO, 4, none⟩ (.int .i64 c.x)) ⟨pO, 5, none⟩ (.int .i64 c.y)) pO #[.int .i64 c.player, .int .i64 1, .int .i64 i0, .int .i64 0, .int .i64 c.x, .int .i64 c.y] := by simpa using this
      exact t
    rintro V ⟨bV, kR, kF⟩
    have BF := Lib.hid bV
    have KR := Lib.hid kR
    have KF := Lib.hid kF
    clear bV kR kF lO cO fO l3 c3 f3
    obtain ⟨lO, cO, fO⟩ := KF.out
    obtain ⟨l3, c3, f3⟩ := KR.out
    go_wp2_with fail
    refine bodyPost_ret (v := .agg #[Value.int .i64 c.player, Value.int .i64 1, Value.int .i64 i0, Value.int .i64 0, Value.int .i64 c.x, Value.int .i64 c.y]) (ret_cell (d := _) Try.results169 rfl (KR.out.store6 rfl (.int .i64 c.player) (.int .i64 1) (.int .i64 i0) (.int .i64 0) (.int .i64 c.x) (.int .i64 c.y)) Try.underlying73 rfl infoOrder) rfl ?_
    refine ⟨_, _, _, _, _, _, rfl, ?_⟩
    iterate 6 (refine Below.setCell ?_ (by show w.heap.size ≤ w.heap.size + 2; omega) _)
    exact BF.out
  by_cases h2 : c.op = 2
  · cases mine with
    | true =>
      clear h1 hl2 hl3
      have d1 : (c.op == 1) = false := by simp [h2]
      have d2 : (c.op == 2) = true := by simp [h2]
      have d3 : (c.op == 3) = false := by simp [h2]
      have d4 : (c.op == 4) = false := by simp [h2]
      have d5 : (c.op == 5) = false := by simp [h2]
      clear h2
      go_wp2_with fail
      refine bodyPost_ret (v := .agg #[.int .i64 0, .int .i64 0, .int .i64 0, .int .i64 0, .int .i64 0, .int .i64 0]) (ret_cell (d := _) Try.results169 rfl (K32.out.store6 rfl (.int .i64 0) (.int .i64 0) (.int .i64 0) (.int .i64 0) (.int .i64 0) (.int .i64 0)) Try.underlying73 rfl infoOrder) rfl ?_
      refine ⟨_, _, _, _, _, _, rfl, ?_⟩
      iterate 6 (refine Below.setCell ?_ (by show w.heap.size ≤ w.heap.size + 2; omega) _)
      exact HB2.out
    | false =>
      clear h1
      have d1 : (c.op == 1) = false := by simp [h2]
      have d2 : (c.op == 2) = true := by simp [h2]
      have d3 : (c.op == 3) = false := by simp [h2]
      have d4 : (c.op == 4) = false := by simp [h2]
      have d5 : (c.op == 5) = false := by simp [h2]
      clear h2
      go_wp2_with fail
      go_region
      go_upto_region 13 with fail
      refine gen_world (fun V => Below w.heap.size w V ∧ Blk V (w.heap.size + 2) #[.int .i64 0, .int .i64 0, .int .i64 0, .int .i64 0, .int .i64 0, .int .i64 0] ∧ Blk V pO #[.int .i64 c.player, .int .i64 2, .int .i64 i0, .int .i64 t0, .int .i64 0, .int .i64 0]) ⟨?_, ?_, ?_⟩ ?_
      · refine HB2.out.trans (Kp.below (X := fun b => b = pO) ?_ (fun b e => by have := HPW.out; omega) HB2.out.size)
        repeat (first | exact Kp.refl _ _ | exact Kp.drewN' _ _ _ | refine Kp.andset ?_ _ _ rfl | refine Kp.thendrew ?_)
      · refine K32.out.kp (X := fun b => b = pO) ?_ (fun e => by have := HPW.out; omega)
        repeat (first | exact Kp.refl _ _ | exact Kp.drewN' _ _ _ | refine Kp.andset ?_ _ _ rfl | refine Kp.thendrew ?_)
      · have := Blk.store (i := 3) (.int .i64 t0) (Blk.store (i := 1) (.int .i64 2) (KO2.out) (by simp)) (by simp)
        have t : Blk (World.setCell (World.setCell (w2) ⟨pO, 1, none⟩ (.int .i64 2)) ⟨pO, 3, none⟩ (.int .i64 t0)) pO #[.int .i64 c.player, .int .i64 2, .int .i64 i0, .int .i64 t0, .int .i64 0, .int .i64 0] := by simpa using this
        exact t
      rintro V ⟨bV, kR, kF⟩
      have BF := Lib.hid bV
      have KR := Lib.hid kR
      have KF := Lib.hid kF
      clear bV kR kF lO cO fO l3 c3 f3
      obtain ⟨lO, cO, fO⟩ := KF.out
      obtain ⟨l3, c3, f3⟩ := KR.out
      go_wp2_with fail
      refine bodyPost_ret (v := .agg #[Value.int .i64 c.player, Value.int .i64 2, Value.int .i64 i0, Value.int .i64 t0, Value.int .i64 0, Value.int .i64 0]) (ret_cell (d := _) Try.results169 rfl (KR.out.store6 rfl (.int .i64 c.player) (.int .i64 2) (.int .i64 i0) (.int .i64 t0) (.int .i64 0) (.int .i64 0)) Try.underlying73 rfl infoOrder) rfl ?_
      refine ⟨_, _, _, _, _, _, rfl, ?_⟩
      iterate 6 (refine Below.setCell ?_ (by show w.heap.size ≤ w.heap.size + 2; omega) _)
      exact BF.out
  by_cases h3 : c.op = 3
  · cases mine with
    | false =>
      clear h1 h2 hl2 hl3
      have d1 : (c.op == 1) = false := by simp [h3]
      have d2 : (c.op == 2) = false := by simp [h3]
      have d3 : (c.op == 3) = true := by simp [h3]
      have d4 : (c.op == 4) = false := by simp [h3]
      have d5 : (c.op == 5) = false := by simp [h3]
      clear h3
      go_wp2_with fail
      refine bodyPost_ret (v := .agg #[.int .i64 0, .int .i64 0, .int .i64 0, .int .i64 0, .int .i64 0, .int .i64 0]) (ret_cell (d := _) Try.results169 rfl (K32.out.store6 rfl (.int .i64 0) (.int .i64 0) (.int .i64 0) (.int .i64 0) (.int .i64 0) (.int .i64 0)) Try.underlying73 rfl infoOrder) rfl ?_
      refine ⟨_, _, _, _, _, _, rfl, ?_⟩
      iterate 6 (refine Below.setCell ?_ (by show w.heap.size ≤ w.heap.size + 2; omega) _)
      exact HB2.out
    | true =>
      clear h1 h2
      have d1 : (c.op == 1) = false := by simp [h3]
      have d2 : (c.op == 2) = false := by simp [h3]
      have d3 : (c.op == 3) = true := by simp [h3]
      have d4 : (c.op == 4) = false := by simp [h3]
      have d5 : (c.op == 5) = false := by simp [h3]
      clear h3
      go_wp2_with fail
      go_region
      go_upto_region 13 with fail
      refine gen_world (fun V => Below w.heap.size w V ∧ Blk V (w.heap.size + 2) #[.int .i64 0, .int .i64 0, .int .i64 0, .int .i64 0, .int .i64 0, .int .i64 0] ∧ Blk V pO #[.int .i64 c.player, .int .i64 2, .int .i64 i0, .int .i64 t0, .int .i64 0, .int .i64 0]) ⟨?_, ?_, ?_⟩ ?_
      · refine HB2.out.trans (Kp.below (X := fun b => b = pO) ?_ (fun b e => by have := HPW.out; omega) HB2.out.size)
        repeat (first | exact Kp.refl _ _ | exact Kp.drewN' _ _ _ | refine Kp.andset ?_ _ _ rfl | refine Kp.thendrew ?_)
      · refine K32.out.kp (X := fun b => b = pO) ?_ (fun e => by have := HPW.out; omega)
        repeat (first | exact Kp.refl _ _ | exact Kp.drewN' _ _ _ | refine Kp.andset ?_ _ _ rfl | refine Kp.thendrew ?_)
      · have := Blk.store (i := 3) (.int .i64 t0) (Blk.store (i := 1) (.int .i64 2) (KO2.out) (by simp)) (by simp)
        have t : Blk (World.setCell (World.setCell (w2) ⟨pO, 1, none⟩ (.int .i64 2)) ⟨pO, 3, none⟩ (.int .i64 t0)) pO #[.int .i64 c.player, .int .i64 2, .int .i64 i0, .int .i64 t0, .int .i64 0, .int .i64 0] := by simpa using this
        exact t
      rintro V ⟨bV, kR, kF⟩
      have BF := Lib.hid bV
      have KR := Lib.hid kR
      have KF := Lib.hid kF
      clear bV kR kF lO cO fO l3 c3 f3
      obtain ⟨lO, cO, fO⟩ := KF.out
      obtain ⟨l3, c3, f3⟩ := KR.out
      go_wp2_with fail
      refine bodyPost_ret (v := .agg #[Value.int .i64 c.player, Value.int .i64 2, Value.int .i64 i0, Value.int .i64 t0, Value.int .i64 0, Value.int .i64 0]) (ret_cell (d := _) Try.results169 rfl (KR.out.store6 rfl (.int .i64 c.player) (.int .i64 2) (.int .i64 i0) (.int .i64 t0) (.int .i64 0) (.int .i64 0)) Try.underlying73 rfl infoOrder) rfl ?_
      refine ⟨_, _, _, _, _, _, rfl, ?_⟩
      iterate 6 (refine Below.setCell ?_ (by show w.heap.size ≤ w.heap.size + 2; omega) _)
      exact BF.out
  by_cases h4 : c.op = 4
  · clear h1 h2 h3 hl2 hl3
    have d1 : (c.op == 1) = false := by simp [h4]
    have d2 : (c.op == 2) = false := by simp [h4]
    have d3 : (c.op == 3) = false := by simp [h4]
    have d4 : (c.op == 4) = true := by simp [h4]
    have d5 : (c.op == 5) = false := by simp [h4]
    clear h4
    go_wp2_with fail
    go_region
    go_upto_region 13 with fail
    refine gen_world (fun V => Below w.heap.size w V ∧ Blk V (w.heap.size + 2) #[.int .i64 0, .int .i64 0, .int .i64 0, .int .i64 0, .int .i64 0, .int .i64 0] ∧ Blk V pO #[.int .i64 c.player, .int .i64 3, .int .i64 i0, .int .i64 c.kind, .int .i64 c.x, .int .i64 c.y]) ⟨?_, ?_, ?_⟩ ?_
    · refine HB2.out.trans (Kp.below (X := fun b => b = pO) ?_ (fun b e => by have := HPW.out; omega) HB2.out.size)
      repeat (first | exact Kp.refl _ _ | exact Kp.drewN' _ _ _ | refine Kp.andset ?_ _ _ rfl | refine Kp.thendrew ?_)
    · refine K32.out.kp (X := fun b => b = pO) ?_ (fun e => by have := HPW.out; omega)
      repeat (first | exact Kp.refl _ _ | exact Kp.drewN' _ _ _ | refine Kp.andset ?_ _ _ rfl | refine Kp.thendrew ?_)
    · have := Blk.store (i := 5) (.int .i64 c.y) (Blk.store (i := 4) (.int .i64 c.x) (Blk.store (i := 3) (.int .i64 c.kind) (Blk.store (i := 1) (.int .i64 3) (KO2.out) (by simp)) (by simp)) (by simp)) (by simp)
      have t : Blk (World.setCell (World.setCell (World.setCell (World.setCell (w2) ⟨pO, 1, none⟩ (.int .i64 3)) ⟨pO, 3, none⟩ (.int .i64 c.kind)) ⟨pO, 4, none⟩ (.int .i64 c.x)) ⟨pO, 5, none⟩ (.int .i64 c.y)) pO #[.int .i64 c.player, .int .i64 3, .int .i64 i0, .int .i64 c.kind, .int .i64 c.x, .int .i64 c.y] := by simpa using this
      exact t
    rintro V ⟨bV, kR, kF⟩
    have BF := Lib.hid bV
    have KR := Lib.hid kR
    have KF := Lib.hid kF
    clear bV kR kF lO cO fO l3 c3 f3
    obtain ⟨lO, cO, fO⟩ := KF.out
    obtain ⟨l3, c3, f3⟩ := KR.out
    go_wp2_with fail
    refine bodyPost_ret (v := .agg #[Value.int .i64 c.player, Value.int .i64 3, Value.int .i64 i0, Value.int .i64 c.kind, Value.int .i64 c.x, Value.int .i64 c.y]) (ret_cell (d := _) Try.results169 rfl (KR.out.store6 rfl (.int .i64 c.player) (.int .i64 3) (.int .i64 i0) (.int .i64 c.kind) (.int .i64 c.x) (.int .i64 c.y)) Try.underlying73 rfl infoOrder) rfl ?_
    refine ⟨_, _, _, _, _, _, rfl, ?_⟩
    iterate 6 (refine Below.setCell ?_ (by show w.heap.size ≤ w.heap.size + 2; omega) _)
    exact BF.out
  by_cases h5 : c.op = 5
  · clear h1 h2 h3 h4 hl2 hl3
    cases mine with
    | true =>
      have d1 : (c.op == 1) = false := by simp [h5]
      have d2 : (c.op == 2) = false := by simp [h5]
      have d3 : (c.op == 3) = false := by simp [h5]
      have d4 : (c.op == 4) = false := by simp [h5]
      have d5 : (c.op == 5) = true := by simp [h5]
      clear h5
      go_upto_region 12 with fail
      go_upto_region 13 with fail
      refine gen_world (fun V => Below w.heap.size w V ∧ Blk V (w.heap.size + 2) #[.int .i64 0, .int .i64 0, .int .i64 0, .int .i64 0, .int .i64 0, .int .i64 0] ∧ Blk V pO #[.int .i64 c.player, .int .i64 4, .int .i64 i0, .int .i64 0, .int .i64 0, .int .i64 0]) ⟨?_, ?_, ?_⟩ ?_
      · refine HB2.out.trans (Kp.below (X := fun b => b = pO) ?_ (fun b e => by have := HPW.out; omega) HB2.out.size)
        repeat (first | exact Kp.refl _ _ | exact Kp.drewN' _ _ _ | refine Kp.andset ?_ _ _ rfl | refine Kp.thendrew ?_)
      · refine K32.out.kp (X := fun b => b = pO) ?_ (fun e => by have := HPW.out; omega)
        repeat (first | exact Kp.refl _ _ | exact Kp.drewN' _ _ _ | refine Kp.andset ?_ _ _ rfl | refine Kp.thendrew ?_)
      · have := Blk.store (i := 1) (.int .i64 4) (KO2.out) (by simp)
        have t : Blk (World.setCell (w2) ⟨pO, 1, none⟩ (.int .i64 4)) pO #[.int .i64 c.player, .int .i64 4, .int .i64 i0, .int .i64 0, .int .i64 0, .int .i64 0] := by simpa using this
        exact t
      rintro V ⟨bV, kR, kF⟩
      have BF := Lib.hid bV
      have KR := Lib.hid kR
      have KF := Lib.hid kF
      clear bV kR kF lO cO fO l3 c3 f3
      obtain ⟨lO, cO, fO⟩ := KF.out
      obtain ⟨l3, c3, f3⟩ := KR.out
      go_wp2_with fail
      refine bodyPost_ret (v := .agg #[Value.int .i64 c.player, Value.int .i64 4, Value.int .i64 i0, Value.int .i64 0, Value.int .i64 0, Value.int .i64 0]) (ret_cell (d := _) Try.results169 rfl (KR.out.store6 rfl (.int .i64 c.player) (.int .i64 4) (.int .i64 i0) (.int .i64 0) (.int .i64 0) (.int .i64 0)) Try.underlying73 rfl infoOrder) rfl ?_
      refine ⟨_, _, _, _, _, _, rfl, ?_⟩
      iterate 6 (refine Below.setCell ?_ (by show w.heap.size ≤ w.heap.size + 2; omega) _)
      exact BF.out
    | false =>
      have d1 : (c.op == 1) = false := by simp [h5]
      have d2 : (c.op == 2) = false := by simp [h5]
      have d3 : (c.op == 3) = false := by simp [h5]
      have d4 : (c.op == 4) = false := by simp [h5]
      have d5 : (c.op == 5) = true := by simp [h5]
      clear h5
      go_upto_region 12 with fail
      go_upto_region 13 with fail
      refine gen_world (fun V => Below w.heap.size w V ∧ Blk V (w.heap.size + 2) #[.int .i64 0, .int .i64 0, .int .i64 0, .int .i64 0, .int .i64 0, .int .i64 0] ∧ Blk V pO #[.int .i64 c.player, .int .i64 4, .int .i64 i0, .int .i64 0, .int .i64 0, .int .i64 0]) ⟨?_, ?_, ?_⟩ ?_
      · refine HB2.out.trans (Kp.below (X := fun b => b = pO) ?_ (fun b e => by have := HPW.out; omega) HB2.out.size)
        repeat (first | exact Kp.refl _ _ | exact Kp.drewN' _ _ _ | refine Kp.andset ?_ _ _ rfl | refine Kp.thendrew ?_)
      · refine K32.out.kp (X := fun b => b = pO) ?_ (fun e => by have := HPW.out; omega)
        repeat (first | exact Kp.refl _ _ | exact Kp.drewN' _ _ _ | refine Kp.andset ?_ _ _ rfl | refine Kp.thendrew ?_)
      · have := Blk.store (i := 1) (.int .i64 4) (KO2.out) (by simp)
        have t : Blk (World.setCell (w2) ⟨pO, 1, none⟩ (.int .i64 4)) pO #[.int .i64 c.player, .int .i64 4, .int .i64 i0, .int .i64 0, .int .i64 0, .int .i64 0] := by simpa using this
        exact t
      rintro V ⟨bV, kR, kF⟩
      have BF := Lib.hid bV
      have KR := Lib.hid kR
      have KF := Lib.hid kF
      clear bV kR kF lO cO fO l3 c3 f3
      obtain ⟨lO, cO, fO⟩ := KF.out
      obtain ⟨l3, c3, f3⟩ := KR.out
      go_wp2_with fail
      refine bodyPost_ret (v := .agg #[Value.int .i64 c.player, Value.int .i64 4, Value.int .i64 i0, Value.int .i64 0, Value.int .i64 0, Value.int .i64 0]) (ret_cell (d := _) Try.results169 rfl (KR.out.store6 rfl (.int .i64 c.player) (.int .i64 4) (.int .i64 i0) (.int .i64 0) (.int .i64 0) (.int .i64 0)) Try.underlying73 rfl infoOrder) rfl ?_
      refine ⟨_, _, _, _, _, _, rfl, ?_⟩
      iterate 6 (refine Below.setCell ?_ (by show w.heap.size ≤ w.heap.size + 2; omega) _)
      exact BF.out
  clear hl2 hl3
  cases mine with
  | true =>
    have d1 : (c.op == 1) = false := by simp; omega
    have d2 : (c.op == 2) = false := by simp; omega
    have d3 : (c.op == 3) = false := by simp; omega
    have d4 : (c.op == 4) = false := by simp; omega
    have d5 : (c.op == 5) = false := by simp; omega
    clear h1 h2 h3 h4 h5
    go_wp2_with fail
    refine bodyPost_ret (v := .agg #[.int .i64 0, .int .i64 0, .int .i64 0, .int .i64 0, .int .i64 0, .int .i64 0]) (ret_cell (d := _) Try.results169 rfl (K32.out.store6 rfl (.int .i64 0) (.int .i64 0) (.int .i64 0) (.int .i64 0) (.int .i64 0) (.int .i64 0)) Try.underlying73 rfl infoOrder) rfl ?_
    refine ⟨_, _, _, _, _, _, rfl, ?_⟩
    iterate 6 (refine Below.setCell ?_ (by show w.heap.size ≤ w.heap.size + 2; omega) _)
    exact HB2.out
  | false =>
    have d1 : (c.op == 1) = false := by simp; omega
    have d2 : (c.op == 2) = false := by simp; omega
    have d3 : (c.op == 3) = false := by simp; omega
    have d4 : (c.op == 4) = false := by simp; omega
    have d5 : (c.op == 5) = false := by simp; omega
    clear h1 h2 h3 h4 h5
    go_wp2_with fail
    refine bodyPost_ret (v := .agg #[.int .i64 0, .int .i64 0, .int .i64 0, .int .i64 0, .int .i64 0, .int .i64 0]) (ret_cell (d := _) Try.results169 rfl (K32.out.store6 rfl (.int .i64 0) (.int .i64 0) (.int .i64 0) (.int .i64 0) (.int .i64 0) (.int .i64 0)) Try.underlying73 rfl infoOrder) rfl ?_
    refine ⟨_, _, _, _, _, _, rfl, ?_⟩
    iterate 6 (refine Below.setCell ?_ (by show w.heap.size ≤ w.heap.size + 2; omega) _)
    exact HB2.out
end Go.Proofs.Ytlfljlhppigejaa
