/-
  The walks of fits: the ferry's and the document's. The walk of ferry.carry. (Printed by gen_fer.py.)
-/
import Derived.Test.YtlfljlhppigejaaPackFerA
import Derived.Test.YtlfljlhppigejaaElderCheck
import Derived.Test.YtlfljlhppigejaaPackBase
import Derived.Test.YtlfljlhppigejaaElderStep
import Derived.Test.YtlfljlhppigejaaPackIn
import Derived.Test.YtlfljlhppigejaaPackTell
namespace Go.Proofs.Ytlfljlhppigejaa
open Go.RowKit

set_option maxHeartbeats 1600000 in
set_option maxRecDepth 100000 in
theorem reffits_any (g : G) (fa ua : Option Addr) (cf cu : Nat) (hlu : g.us.length ≤ 100000) (w : World) (hu : URow false w.heap.size w ua g.us) :
    Calls Try.prog 133 #[.agg #[.int .i64 g.tick, .int .i64 g.g0, .int .i64 g.g1, .int .i64 g.next, .slice fa g.free.length cf, .slice ua g.us.length cu]] w fun e w' => e = .returned (.bool (fitsB g)) ∧ Below w.heap.size w w' := by
  obtain ⟨W, hW⟩ : ∃ W, w.alloc (.cells #[.int .i64 g.tick, .int .i64 g.g0, .int .i64 g.g1, .int .i64 g.next, .slice fa g.free.length cf, .slice ua g.us.length cu] 90) = W := ⟨_, rfl⟩
  have hbW : Below w.heap.size w W := by rw [← hW]; exact (Below.refl _ _).alloc (Nat.le_refl _) _
  have k1 : Blk W w.heap.size #[.int .i64 g.tick, .int .i64 g.g0, .int .i64 g.g1, .int .i64 g.next, .slice fa g.free.length cf, .slice ua g.us.length cu] := by rw [← hW]; exact Blk.new _ _ _
  obtain ⟨l1, c1, -⟩ := id k1
  have HBW := Lib.hid hbW
  have HU := Lib.hid (hu.below hbW)
  clear hu hbW k1
  go_enter Try.func133, Try.ntmps133
  go_upto_region 1 with fail
  try rw [hW]
  clear hW
  go_wp2_with fail
  go_loop [3] (fun i => ∃ k : Nat, i = .int .i64 k ∧ k ≤ g.us.length ∧ (∀ j, j < k → oddU (g.us.getD j zeroU) = false)) (fun i => (g.us.length - intOf i).toNat)
  case atStart => exact ⟨0, rfl, by omega, fun j hj => absurd hj (by omega)⟩
  case round =>
    obtain ⟨k, rfl, hk, hX⟩ := hrel
    have HX := Lib.hid hX
    clear hX
    by_cases hlt : k < g.us.length
    · obtain ⟨u, hue⟩ : ∃ u, g.us.getD k zeroU = u := ⟨_, rfl⟩
      obtain ⟨b, o, rfl, hbB, q0, q1, q2, -⟩ := HU.out.getE k hlt u hue
      have HUE := Lib.hid hue
      clear hue q0 q1
      by_cases h5 : u.kind = 5
      · have d5 : (u.kind == 5) = true := by simp [h5]
        have HO : Hid (oddU u = true) := Lib.hid (by simp [oddU, h5])
        clear h5
        go_wp2_with fail
        go_ret
        exact ⟨ret1 (boolv (fits_odd hlt HUE.out HO.out).symm), HBW.out⟩
      · have d5 : (u.kind == 5) = false := by simp [h5]
        by_cases h3 : u.kind = 3
        · have d3 : (u.kind == 3) = true := by simp [h3]
          have HO : Hid (oddU u = true) := Lib.hid (by simp [oddU, h3])
          clear h5 h3
          go_wp2_with fail
          go_ret
          exact ⟨ret1 (boolv (fits_odd hlt HUE.out HO.out).symm), HBW.out⟩
        · have d3 : (u.kind == 3) = false := by simp [h3]
          have HO : Hid (oddU u = false) := Lib.hid (by simp [oddU, h3, h5])
          clear h5 h3
          go_wp2_with fail
          go_round
          case rel =>
            refine ⟨k + 1, by go_num, by omega, ?_⟩
            intro j hj
            by_cases e : j = k
            · rw [e, HUE.out]; exact HO.out
            · exact HX.out j (by omega)
          case measure => simp [intOf]; omega
    · obtain rfl : k = g.us.length := by omega
      by_cases h0 : g.g0 = 40
      · have d0 : (g.g0 == 40) = true := by simp [h0]
        have e0 : (g.g0 != 40) = false := by simp [h0]
        have HG := Lib.hid h0
        clear h0
        go_wp2_with fail
        go_ret
        exact ⟨ret1 (boolv (fits_gold (Or.inl HG.out)).symm), HBW.out⟩
      · have d0 : (g.g0 == 40) = false := by simp [h0]
        have e0 : (g.g0 != 40) = true := by simp [h0]
        by_cases h1 : g.g1 = 40
        · have d1 : (g.g1 == 40) = true := by simp [h1]
          have e1 : (g.g1 != 40) = false := by simp [h1]
          have HG := Lib.hid h1
          clear h0 h1
          go_wp2_with fail
          go_ret
          exact ⟨ret1 (boolv (fits_gold (Or.inr HG.out)).symm), HBW.out⟩
        · have d1 : (g.g1 == 40) = false := by simp [h1]
          have e1 : (g.g1 != 40) = true := by simp [h1]
          have HG := Lib.hid (And.intro h0 h1)
          clear h0 h1
          go_wp2_with fail
          go_ret
          exact ⟨ret1 (boolv (by rw [fits_even HX.out]; simp [HG.out.1, HG.out.2])), HBW.out⟩

set_option maxHeartbeats 3200000 in
set_option maxRecDepth 100000 in
theorem ferfits_any (g : G) (fa ua : Option Addr) (cf cu : Nat) (hlu : g.us.length ≤ 100000) (w : World) (hu : URow false w.heap.size w ua g.us) :
    Calls Try.prog 136 #[.agg #[.int .i64 g.tick, .int .i64 g.g0, .int .i64 g.g1, .int .i64 g.next, .slice fa g.free.length cf, .slice ua g.us.length cu]] w fun e w' => e = .returned (.bool (fitsB g)) ∧ Below w.heap.size w w' := by
  obtain ⟨W, hW⟩ : ∃ W, w.alloc (.cells #[.int .i64 g.tick, .int .i64 g.g0, .int .i64 g.g1, .int .i64 g.next, .slice fa g.free.length cf, .slice ua g.us.length cu] 90) = W := ⟨_, rfl⟩
  have hbW : Below w.heap.size w W := by rw [← hW]; exact (Below.refl _ _).alloc (Nat.le_refl _) _
  have k1 : Blk W w.heap.size #[.int .i64 g.tick, .int .i64 g.g0, .int .i64 g.g1, .int .i64 g.next, .slice fa g.free.length cf, .slice ua g.us.length cu] := by rw [← hW]; exact Blk.new _ _ _
  obtain ⟨l1, c1, -⟩ := id k1
  have hi0 : ∀ W, (Instr.index 62 (.agg #[.int .i64 g.g0, .int .i64 g.g1]) (.int .i64 0)).run Try.prog W = .ok (.int .i64 g.g0) W := fun _ => by kernel_rfl
  have hi1 : ∀ W, (Instr.index 62 (.agg #[.int .i64 g.g0, .int .i64 g.g1]) (.int .i64 1)).run Try.prog W = .ok (.int .i64 g.g1) W := fun _ => by kernel_rfl
  have HI0 := Lib.hid hi0
  have HI1 := Lib.hid hi1
  have HBW := Lib.hid hbW
  have HU0 := Lib.hid hu
  have HK1 := Lib.hid k1
  clear hu hbW k1 hi0 hi1
  go_enter Try.func136, Try.ntmps136
  go_upto_region 1 with fail
  try rw [hW]
  clear hW
  go_wp2_with fail
  go_loopw [9] (fun c wr => ∃ k : Nat, c = .int .i64 k ∧ k ≤ 2 ∧ (((0 < k → g.g0 ≠ 40) ∧ (1 < k → g.g1 ≠ 40)) ∧ wr = W)) (fun c _ => (2 - intOf c).toNat)
  case atStart => exact ⟨0, rfl, by omega, ⟨fun h => absurd h (by omega), fun h => absurd h (by omega)⟩, rfl⟩
  case round =>
    obtain ⟨k, rfl, hk, hX, rfl⟩ := hrel
    by_cases hk2 : k < 2
    · have hk3 : k = 0 ∨ k = 1 := by omega
      have HX := Lib.hid hX
      clear hX
      rcases hk3 with rfl | rfl
      · have hi := HI0.out
        by_cases h0 : g.g0 = 40
        · have d0 : (g.g0 == 40) = true := by simp [h0]
          have HG := Lib.hid h0
          clear h0
          go_wp2_with fail
          go_ret
          exact ⟨ret1 (boolv (fits_gold (Or.inl HG.out)).symm), HBW.out⟩
        · have d0 : (g.g0 == 40) = false := by simp [h0]
          have HG := Lib.hid h0
          clear h0
          go_wp2_with fail
          go_roundw
          case rel => exact ⟨1, rfl, by omega, ⟨fun _ => HG.out, fun h => absurd h (by omega)⟩, trivial⟩
          case measure => simp [intOf]
      · have hi := HI1.out
        by_cases h0 : g.g1 = 40
        · have d0 : (g.g1 == 40) = true := by simp [h0]
          have HG := Lib.hid h0
          clear h0
          go_wp2_with fail
          go_ret
          exact ⟨ret1 (boolv (fits_gold (Or.inr HG.out)).symm), HBW.out⟩
        · have d0 : (g.g1 == 40) = false := by simp [h0]
          have HG := Lib.hid h0
          clear h0
          go_wp2_with fail
          go_roundw
          case rel => exact ⟨2, rfl, by omega, ⟨fun _ => HX.out.1 (by omega), fun _ => HG.out⟩, trivial⟩
          case measure => simp [intOf]
    · obtain rfl : k = 2 := by omega
      have HG := Lib.hid (And.intro (hX.1 (by omega)) (hX.2 (by omega)))
      clear hX
      go_wp2_with fail
      go_loopw [18] (fun c wr => ∃ k : Nat, c = .int .i64 k ∧ k ≤ g.us.length ∧ ((∀ j, j < k → oddU (g.us.getD j zeroU) = false) ∧ Below w.heap.size w wr)) (fun c _ => (g.us.length - intOf c).toNat)
      case atStart => exact ⟨0, rfl, by omega, fun j hj => absurd hj (by omega), HBW.out⟩
      case round =>
        obtain ⟨k, rfl, hk, hX, hb⟩ := hrel
        have HX := Lib.hid hX
        clear hX
        by_cases hlt : k < g.us.length
        · obtain ⟨u, hue⟩ : ∃ u, g.us.getD k zeroU = u := ⟨_, rfl⟩
          obtain ⟨b, o, rfl, hbB, q0, q1, q2, q3, q4, q5, q6, q7, q8, q9⟩ := (HU0.out.below hb).getE k hlt u hue
          have HUE := Lib.hid hue
          have HB := Lib.hid hb
          clear hue hb
          go_upto_region 10 with fail
          refine gen_world (fun Z => Below wr.heap.size wr Z ∧ Blk Z wr.heap.size #[.int .i64 u.id, .int .i64 u.owner, .int .i64 u.kind, .int .i64 u.x, .int .i64 u.y, .int .i64 u.hp, .int .i64 u.does, .int .i64 u.gx, .int .i64 u.gy, .int .i64 u.target]) ⟨(Below.refl _ _).alloc (Nat.le_refl _) _, Blk.new wr _ _⟩ ?_
          rintro w1 ⟨hb1, kU⟩
          obtain ⟨pu, hpu⟩ : ∃ n, wr.heap.size = n := ⟨_, rfl⟩
          have HB1 := Lib.hid (HB.out.trans (hb1.mono HB.out.size))
          rw [hpu] at kU
          try rw [hpu]
          obtain ⟨lU, cU, -⟩ := id kU
          clear hb1 kU hpu q0 q1 q2 q3 q4 q5 q6 q7 q8 q9
          by_cases h5 : u.kind = 5
          · have d5 : (u.kind == 5) = true := by simp [h5]
            have HO : Hid (oddU u = true) := Lib.hid (by simp [oddU, h5])
            clear h5
            go_wp2_with fail
            go_ret
            exact ⟨ret1 (boolv (fits_odd hlt HUE.out HO.out).symm), HB1.out⟩
          · have d5 : (u.kind == 5) = false := by simp [h5]
            by_cases h3 : u.kind = 3
            · have d3 : (u.kind == 3) = true := by simp [h3]
              have HO : Hid (oddU u = true) := Lib.hid (by simp [oddU, h3])
              clear h5 h3
              go_wp2_with fail
              go_ret
              exact ⟨ret1 (boolv (fits_odd hlt HUE.out HO.out).symm), HB1.out⟩
            · have d3 : (u.kind == 3) = false := by simp [h3]
              have HO : Hid (oddU u = false) := Lib.hid (by simp [oddU, h3, h5])
              clear h5 h3
              go_wp2_with fail
              go_roundw
              case rel =>
                refine ⟨k + 1, by go_num, by omega, ?_, HB1.out⟩
                intro j hj
                by_cases e : j = k
                · rw [e, HUE.out]; exact HO.out
                · exact HX.out j (by omega)
              case measure => simp [intOf]; omega
        · obtain rfl : k = g.us.length := by omega
          have HB := Lib.hid hb
          clear hb
          go_wp2_with fail
          go_ret
          exact ⟨ret1 (boolv (by rw [fits_even HX.out]; simp [HG.out.1, HG.out.2])), HB.out⟩
end Go.Proofs.Ytlfljlhppigejaa
namespace Go.Proofs.Ytlfljlhppigejaa
open Go.RowKit

/-- Names: the newer game's numbers, by the elder's. -/
abbrev NM (w : World) (b n sz : Nat) (F : Int → Option Int) : Prop := MapOf Try.prog 3 (Value.int .i64) (fun a => (Lit.int .i64 a).wf = true) w b n sz (fun j => (F j).map (Value.int .i64))
theorem nm_get {w : World} {b n sz : Nat} {F : Int → Option Int} (h : NM w b n sz F) (j : Int) (hj : (Lit.int .i64 j).wf = true) :
    (Instr.lookup 203 (.map (some b)) (.int .i64 j) false).run Try.prog w = .ok (.int .i64 ((F j).getD 0)) w := by
  have := h.get (intKeys (by kernel_rfl)) (t := 203) (e := 3) (by kernel_rfl) (z := .int .i64 0) (by kernel_rfl) j hj
  rw [this]
  cases F j <;> rfl
theorem nm_put {w : World} {b n sz : Nat} {F : Int → Option Int} (h : NM w b n sz F) (hn : n ≤ 100000) (j : Int) (hj : (Lit.int .i64 j).wf = true) (v : Int) :
    ∃ w' sz', (Instr.mapUpdate 203 (.map (some b)) (.int .i64 j) (.int .i64 v)).run Try.prog w = .ok () w' ∧ NM w' b (n + 1) sz' (fun i => if i = j then some v else F i) ∧ w.mapTurned w' b := by
  obtain ⟨w', r, m, t⟩ := h.put (intKeys (by kernel_rfl)) (t := 203) (e := 3) (by kernel_rfl) (by unfold maxLen; omega) j hj (.int .i64 v)
  refine ⟨w', _, r, m.fn (fun i => ?_) rfl, t⟩
  by_cases e : i = j
  · subst e; simp
  · simp [e]
/-- What comes back of carry. -/
def CarryEnd (g : G) (w : World) (e : Ending) (w' : World) : Prop :=
  Below w.heap.size w w' ∧ ((faultOf g ≠ 0 ∧ e = .returned (.tuple #[.agg #[.int .i64 0, .int .i64 0, .int .i64 0, .int .i64 0, .slice none 0 0], .map none, errV (faultOf g)])) ∨ (faultOf g = 0 ∧ fitsB g = false ∧ e = .returned (.tuple #[.agg #[.int .i64 0, .int .i64 0, .int .i64 0, .int .i64 0, .slice none 0 0], .map none, errV 8])) ∨
    (faultOf g = 0 ∧ fitsB g = true ∧ ∃ ub cb M n sz, e = .returned (.tuple #[.agg #[.int .i64 g.tick, .int .i64 g.g0, .int .i64 g.g1, .int .i64 ((g.us.length : Int) + 1), .slice ub g.us.length cb], .map (some M), .nilIface]) ∧ w'.ownsRow w.heap.size 130 11 (.slice ub g.us.length cb) g.us.length (cellsAllN (carryG g).us) ∧
      w.heap.size ≤ M ∧ n ≤ 20 ∧ NM w' M n sz (idF g.us g.us.length)))

set_option maxHeartbeats 6400000 in
set_option maxRecDepth 100000 in
theorem carry_any (g : G) (fa ua : Option Addr) (cf cu : Nat) (hnew : g.new = false) (hcf : g.free.length ≤ 100000) (hcu : g.us.length ≤ 100000) (w : World) (hf : Row w.heap.size w fa g.free.length (fun k => .int .i64 (g.free.getD k 0))) (hu : URow false w.heap.size w ua g.us) (hfit : ∀ n ∈ g.free, Fits64 n) :
    Calls Try.prog 132 #[.agg #[.int .i64 g.tick, .int .i64 g.g0, .int .i64 g.g1, .int .i64 g.next, .slice fa g.free.length cf, .slice ua g.us.length cu]] w (CarryEnd g w) := by
  obtain ⟨W, hW⟩ : ∃ W, (w.alloc (.cells #[.int .i64 g.tick, .int .i64 g.g0, .int .i64 g.g1, .int .i64 g.next, .slice fa g.free.length cf, .slice ua g.us.length cu] 90)).alloc (.cells #[.int .i64 0, .int .i64 0, .int .i64 0, .int .i64 0, .slice none 0 0] 65) = W := ⟨_, rfl⟩
  have hbW : Below w.heap.size w W := by rw [← hW]; exact ((Below.refl _ _).alloc (Nat.le_refl _) _).alloc (by simp) _
  have k1 : Blk W w.heap.size #[.int .i64 g.tick, .int .i64 g.g0, .int .i64 g.g1, .int .i64 g.next, .slice fa g.free.length cf, .slice ua g.us.length cu] := by rw [← hW]; exact (Blk.new w _ _).alloc _
  have k2 : Blk W (w.heap.size + 1) #[.int .i64 0, .int .i64 0, .int .i64 0, .int .i64 0, .slice none 0 0] := by
    rw [← hW]
    have := Blk.new (w.alloc (.cells #[.int .i64 g.tick, .int .i64 g.g0, .int .i64 g.g1, .int .i64 g.next, .slice fa g.free.length cf, .slice ua g.us.length cu] 90)) #[.int .i64 0, .int .i64 0, .int .i64 0, .int .i64 0, .slice none 0 0] 65
    simpa using this
  have HF := Lib.hid ((hf.below hbW).mono hbW.size)
  have HU := Lib.hid hu
  have HFIT := Lib.hid hfit
  have HNEW := Lib.hid hnew
  have HW := Lib.hid hbW
  have K1 := Lib.hid k1
  have K2 := Lib.hid k2
  have hszW := hbW.size
  obtain ⟨l1, c1, -⟩ := id k1
  clear hf hu hfit hnew hbW k1 k2
  go_enter Try.func132, Try.ntmps132
  go_upto_region 1 with fail
  try rw [hW]
  clear hW
  go_wp2_with fail
  refine (check_any g fa ua g.free.length cf g.us.length cu HNEW.out rfl rfl (by omega) (by omega) _ HF.out ((HU.out.below HW.out).mono hszW) HFIT.out).mono ?_
  rintro e w1 ⟨rfl, b1⟩
  have k11 := K1.out.call b1
  have k21 := K2.out.call b1
  have HB1 : Hid (Below w.heap.size w w1) := Lib.hid (HW.out.trans (b1.mono hszW))
  obtain ⟨l11, c11, -⟩ := id k11
  obtain ⟨l21, c21, f21⟩ := id k21
  have K11 := Lib.hid k11
  have K21 := Lib.hid k21
  clear b1 k11 k21 c1 l1
  by_cases hfault : faultOf g = 0
  case neg =>
    rw [errV_pos _ hfault]
    have HFA := Lib.hid hfault
    clear hfault
    go_wp2_with fail
    refine bodyPost_ret (v := .tuple #[.agg #[.int .i64 0, .int .i64 0, .int .i64 0, .int .i64 0, .slice none 0 0], .map none, .iface 148 (.int .i64 (faultOf g : Nat))]) (ret_cell3 Try.results132 rfl rfl rfl (K21.out.store5 rfl (.int .i64 0) (.int .i64 0) (.int .i64 0) (.int .i64 0) (.slice none 0 0)) Try.underlying65 rfl infoNewer) rfl ?_
    refine ⟨?_, Or.inl ⟨HFA.out, by rw [errV_pos _ (HFA.out)]⟩⟩
    iterate 5 (refine Below.setCell ?_ (by simp) _)
    exact HB1.out
  rw [hfault, errV_zero]
  have HFA := Lib.hid hfault
  have hg := (right_iff g).1 hfault
  have HG := Lib.hid hg
  have hfew := hg.few
  clear hfault hg
  go_wp2_with fail
  refine (ferfits_any g fa ua cf cu hcu _ ((HU.out.below HB1.out).mono HB1.out.size)).mono ?_
  rintro e w2 ⟨rfl, b2⟩
  have k12 := K11.out.call b2
  have k22 := K21.out.call b2
  have HB2 : Hid (Below w.heap.size w w2) := Lib.hid (HB1.out.trans (b2.mono HB1.out.size))
  clear l11 c11 l21 c21 f21
  obtain ⟨l12, c12, -⟩ := id k12
  obtain ⟨l22, c22, f22⟩ := id k22
  have K12 := Lib.hid k12
  have K22 := Lib.hid k22
  clear b2 k12 k22 K11 K21 HB1
  by_cases hfits : fitsB g = true
  case neg =>
    have hff : fitsB g = false := by simpa using hfits
    rw [hff]
    have HFF := Lib.hid hff
    clear hfits hff
    go_wp2_with fail
    refine bodyPost_ret (v := .tuple #[.agg #[.int .i64 0, .int .i64 0, .int .i64 0, .int .i64 0, .slice none 0 0], .map none, .iface 148 (.int .i64 8)]) (ret_cell3 Try.results132 rfl rfl rfl (K22.out.store5 rfl (.int .i64 0) (.int .i64 0) (.int .i64 0) (.int .i64 0) (.slice none 0 0)) Try.underlying65 rfl infoNewer) rfl ?_
    refine ⟨?_, Or.inr (Or.inl ⟨HFA.out, HFF.out, by rw [errV_pos _ (by decide)]; try rfl⟩)⟩
    iterate 5 (refine Below.setCell ?_ (by simp) _)
    exact HB2.out
  rw [hfits]
  have HFITS := Lib.hid hfits
  clear hfits
  have hmm := @run_makeMap Try.prog
  go_upto_region 7 with fail
  have hM0 := MapOf.new (P := Try.prog) (k := 3) (emb := Value.int .i64) (ok := fun a => (Lit.int .i64 a).wf = true) w2
  refine gen_world (fun V => (Below w.heap.size w V ∧ w2.heap.size ≤ V.heap.size) ∧ Blk V w.heap.size #[.int .i64 g.tick, .int .i64 g.g0, .int .i64 g.g1, .int .i64 g.next, .slice fa g.free.length cf, .slice ua g.us.length cu] ∧ Blk V (w.heap.size + 1) #[.int .i64 0, .int .i64 0, .int .i64 0, .int .i64 0, .slice none 0 0] ∧ NM V w2.heap.size 0 0 (idF g.us 0)) ⟨⟨HB2.out.alloc HB2.out.size _, by simp⟩, K12.out.alloc _, K22.out.alloc _, hM0⟩ ?_
  clear hM0 l12 c12 l22 c22 f22
  obtain ⟨M, hM⟩ : ∃ n, w2.heap.size = n := ⟨_, rfl⟩
  have hMw : w.heap.size + 1 < M := by have := K22.out.lt; omega
  rw [hM]
  try rw [hM]
  clear hM K12 K22 HB2
  rintro w3 ⟨⟨b3, hMs⟩, k13, k23, m3⟩
  have B3 := Lib.hid b3
  have K13 := Lib.hid k13
  have K23 := Lib.hid k23
  have M3 := Lib.hid m3
  have l13 := k13.lt
  have c13 := k13.cell
  clear b3 k13 k23 m3
  go_wp2_with fail
  go_loopw [27] (fun c wr => ∃ k : Nat, c = .int .i64 k ∧ k ≤ g.us.length ∧ (Below w.heap.size w wr ∧ Blk wr w.heap.size #[.int .i64 g.tick, .int .i64 g.g0, .int .i64 g.g1, .int .i64 g.next, .slice fa g.free.length cf, .slice ua g.us.length cu] ∧ Blk wr (w.heap.size + 1) #[.int .i64 0, .int .i64 0, .int .i64 0, .int .i64 0, .slice none 0 0] ∧ ∃ n sz, n ≤ k ∧ NM wr M n sz (idF g.us k))) (fun c _ => (g.us.length - intOf c).toNat)
  case atStart => exact ⟨0, rfl, by omega, B3.out, K13.out, K23.out, 0, 0, by omega, M3.out⟩
  case round =>
    obtain ⟨k, rfl, hk, hb, k1, k2, n1, s1, hn1, m1⟩ := hrel
    have HBR := Lib.hid hb
    have KR1 := Lib.hid k1
    have KR2 := Lib.hid k2
    have MR := Lib.hid m1
    clear hb k1 k2 m1 l13 c13
    by_cases hlt : k < g.us.length
    · obtain ⟨u, hue⟩ : ∃ u, g.us.getD k zeroU = u := ⟨_, rfl⟩
      obtain ⟨b, o, rfl, hbB, q0, q1, q2, q3, q4, q5, q6, q7, q8, q9⟩ := (HU.out.below HBR.out).getE k hlt u hue
      have hum : u ∈ g.us := by rw [← hue, getD_lt hlt]; exact List.getElem_mem hlt
      have hok := HG.out.ok hum
      have hwf : (Lit.int .i64 u.id).wf = true := by
        have h1 := hok.idT
        have h2 := hok.id1
        rw [HNEW.out] at h1
        exact wf_int (by have : topOf false = 200 := rfl; omega)
      have HUE := Lib.hid hue
      clear hue hum hok
      go_upto_region 10 with fail
      refine gen_world (fun Z => Below wr.heap.size wr Z ∧ Blk Z wr.heap.size #[.int .i64 u.id, .int .i64 u.owner, .int .i64 u.kind, .int .i64 u.x, .int .i64 u.y, .int .i64 u.hp, .int .i64 u.does, .int .i64 u.gx, .int .i64 u.gy, .int .i64 u.target]) ⟨(Below.refl _ _).alloc (Nat.le_refl _) _, Blk.new wr _ _⟩ ?_
      rintro w4 ⟨b4, kU⟩
      obtain ⟨pu, hpu⟩ : ∃ n, wr.heap.size = n := ⟨_, rfl⟩
      have HB4 := Lib.hid (HBR.out.trans (b4.mono HBR.out.size))
      have k14 := KR1.out.call b4
      have k24 := KR2.out.call b4
      have m4 := MR.out.call b4
      rw [hpu] at kU
      try rw [hpu]
      obtain ⟨lU, cU, -⟩ := id kU
      obtain ⟨w5, s5, r5, m5, t5⟩ := nm_put m4 (by omega) u.id hwf ((k : Int) + 1)
      have hwk : IntKind.i64.wrap ((k : Int) + 1) = (k : Int) + 1 := IntWalk.i64_in _ (by omega)
      have HB5 := Lib.hid (Below.turned HB4.out t5 (by omega))
      have K15 := Lib.hid (k14.turned t5 (by omega))
      have K25 := Lib.hid (k24.turned t5 (by omega))
      have M5 := Lib.hid m5
      clear b4 kU hpu k14 k24 m4 m5 t5 q0 q1 q2 q3 q4 q5 q6 q7 q8 q9
      go_wp2_with fail
      go_roundw
      case rel =>
        refine ⟨k + 1, by go_num, by omega, HB5.out, K15.out, K25.out, n1 + 1, s5, by omega, ?_⟩
        refine M5.out.fn (fun j => ?_) rfl
        show _ = Option.map _ (if j = (g.us.getD k zeroU).id then _ else _)
        rw [HUE.out]
      case measure => simp [intOf]; omega
    · obtain rfl : k = g.us.length := by omega
      have lR1 := KR1.out.lt
      have cR1 := KR1.out.cell
      have hwn : IntKind.i64.wrap ((g.us.length : Int) + 1) = (g.us.length : Int) + 1 := IntWalk.i64_in _ (by omega)
      go_upto_region 13 with fail
      refine gen_world (fun Z => Below wr.heap.size wr Z ∧ Blk Z wr.heap.size #[.int .i64 g.tick, .int .i64 g.g0, .int .i64 g.g1, .int .i64 ((g.us.length : Int) + 1), .slice none 0 0]) ⟨(Below.refl _ _).alloc (Nat.le_refl _) _, Blk.new wr _ _⟩ ?_
      rintro w4 ⟨b4, kX⟩
      obtain ⟨pX, hpX⟩ : ∃ n, wr.heap.size = n := ⟨_, rfl⟩
      have hpX1 : pX < w4.heap.size := by rw [← hpX]; exact kX.lt
      have HB4 := Lib.hid (HBR.out.trans (b4.mono HBR.out.size))
      have K14 := Lib.hid (KR1.out.call b4)
      have K24 := Lib.hid (KR2.out.call b4)
      have M4 := Lib.hid (MR.out.call b4)
      have hMX : M < pX := by rw [← hpX]; exact MR.out.lt
      rw [hpX] at kX
      try rw [hpX]
      have KX := Lib.hid kX
      have l14 := K14.out.lt
      have c14 := K14.out.cell
      clear b4 kX hpX lR1 cR1
      go_wp2_with fail
      go_loopw [50] (fun c wx => ∃ k : Nat, c = .int .i64 k ∧ k ≤ g.us.length ∧ (Below w.heap.size w wx ∧ w4.heap.size ≤ wx.heap.size ∧ Blk wx w.heap.size #[.int .i64 g.tick, .int .i64 g.g0, .int .i64 g.g1, .int .i64 g.next, .slice fa g.free.length cf, .slice ua g.us.length cu] ∧ Blk wx (w.heap.size + 1) #[.int .i64 0, .int .i64 0, .int .i64 0, .int .i64 0, .slice none 0 0] ∧ NM wx M n1 s1 (idF g.us g.us.length) ∧ ∃ xa xc, Blk wx pX #[.int .i64 g.tick, .int .i64 g.g0, .int .i64 g.g1, .int .i64 ((g.us.length : Int) + 1), .slice xa k xc] ∧ wx.ownsRow w4.heap.size 130 11 (.slice xa k xc) k (cellsAllN (carryL g.us g.tick k)))) (fun c _ => (g.us.length - intOf c).toNat)
      case atStart => exact ⟨0, rfl, by omega, HB4.out, Nat.le_refl _, K14.out, K24.out, M4.out, none, 0, KX.out, World.ownsRow_nil _ _ _ _⟩
      case round =>
        obtain ⟨k, rfl, hk, hb, hsx, k1, k2, m1, xa, xc, kx, ox⟩ := hrel
        have HBX := Lib.hid hb
        have KX1 := Lib.hid k1
        have KX2 := Lib.hid k2
        have MX := Lib.hid m1
        have KXX := Lib.hid kx
        have OX := Lib.hid ox
        clear hb k1 k2 m1 kx ox l14 c14
        by_cases hlt : k < g.us.length
        · obtain ⟨u, hue⟩ : ∃ u, g.us.getD k zeroU = u := ⟨_, rfl⟩
          obtain ⟨b, o, rfl, hbB, q0, q1, q2, q3, q4, q5, q6, q7, q8, q9⟩ := (HU.out.below HBX.out).getE k hlt u hue
          have hum : u ∈ g.us := by rw [← hue, getD_lt hlt]; exact List.getElem_mem hlt
          have hok := HG.out.ok hum
          have hwf : (Lit.int .i64 u.id).wf = true := by
            have h1 := hok.idT
            have h2 := hok.id1
            rw [HNEW.out] at h1
            exact wf_int (by have : topOf false = 200 := rfl; omega)
          have hwt : (Lit.int .i64 u.target).wf = true := by
            have h1 := hok.tgtT
            have h2 := hok.tgt0
            rw [HNEW.out] at h1
            exact wf_int (by have : topOf false = 200 := rfl; omega)
          have HUE := Lib.hid hue
          clear hum hok
          go_upto_region 16 with fail
          refine gen_world (fun Z => Below wr.heap.size wr Z ∧ Blk Z wr.heap.size #[.int .i64 u.id, .int .i64 u.owner, .int .i64 u.kind, .int .i64 u.x, .int .i64 u.y, .int .i64 u.hp, .int .i64 u.does, .int .i64 u.gx, .int .i64 u.gy, .int .i64 u.target]) ⟨(Below.refl _ _).alloc (Nat.le_refl _) _, Blk.new wr _ _⟩ ?_
          rintro w5 ⟨b5, kU⟩
          obtain ⟨pu, hpu⟩ : ∃ n, wr.heap.size = n := ⟨_, rfl⟩
          have HB5 := Lib.hid (HBX.out.trans (b5.mono HBX.out.size))
          have k15 := KX1.out.call b5
          have k25 := KX2.out.call b5
          have m5 := MX.out.call b5
          have kx5 := KXX.out.call b5
          have o5 := own_kp OX.out (kp_of b5 (fun _ => False)) (fun _ _ x => x)
          have hs5 := b5.size
          rw [hpu] at kU
          try rw [hpu]
          obtain ⟨lU, cU, -⟩ := id kU
          have c15 := k15.cell
          have l15 := k15.lt
          have cX5 := kx5.cell
          have lX5 := kx5.lt
          have hl1 := nm_get m5 u.id hwf
          have hl2 := nm_get m5 u.target hwt
          have e1 : (idF g.us g.us.length u.id).getD 0 = (k : Int) + 1 := by
            have := idF_some HG.out.sorted g.us.length (Nat.le_refl _) k hlt
            rw [hue] at this
            rw [this]; rfl
          rw [e1] at hl1
          rw [idF_who HG.out.sorted] at hl2
          obtain ⟨g6, cap6, w6, r6, own6, k6, hat6⟩ := push_unit o5 (by omega) (by omega) (carryU g.us g.tick k u)
          have r6' : (Builtin.append_ #[63, 63] 63 #[.slice xa k xc, .slice (some ⟨w5.heap.size, 0, none⟩) 1 1]).run Try.prog (w5.alloc (.cells #[.int .i64 ((k : Int) + 1), .int .i64 u.owner, .int .i64 u.kind, .int .i64 u.x, .int .i64 u.y, .int .i64 u.hp, .int .i64 u.does, .int .i64 u.gx, .int .i64 u.gy, .int .i64 (whoT g.us u.target : Nat), .int .i64 g.tick] 130)) = .ok (.slice (some ⟨g6, 0, none⟩) (k + 1) cap6) w6 := r6
          have lo := fun c hc => World.ownsRow.lt o5 c hc
          have hX6 : Blk w6 pX _ := kx5.kp k6 (fun e => by have := (lo pX e).1; omega)
          have k16 : Blk w6 w.heap.size _ := k15.kp k6 (fun e => by have := (lo _ e).1; omega)
          have k26 : Blk w6 (w.heap.size + 1) _ := k25.kp k6 (fun e => by have := (lo _ e).1; omega)
          have m6 : NM w6 M n1 s1 (idF g.us g.us.length) := m5.blk (k6.block M m5.lt (fun e => by have := (lo _ e).1; omega))
          have hb6 : Below w.heap.size w w6 := HB5.out.trans (k6.below (fun c hc => by have := (lo c hc).1; omega) (by have := HB5.out.size; omega))
          obtain ⟨lX6, cX6, fX6⟩ := id hX6
          have hst := hX6.store (i := 4) (.slice (some ⟨g6, 0, none⟩) (k + 1) cap6) (by simp)
          have HST := Lib.hid hst
          have K16 := Lib.hid (k16.kp (Kp.setCell w6 ⟨pX, 4, none⟩ (.slice (some ⟨g6, 0, none⟩) (k + 1) cap6)) (fun e => by have h2 : w.heap.size = pX := e; omega))
          have K26 := Lib.hid (k26.kp (Kp.setCell w6 ⟨pX, 4, none⟩ (.slice (some ⟨g6, 0, none⟩) (k + 1) cap6)) (fun e => by have h2 : w.heap.size + 1 = pX := e; omega))
          have M6 := Lib.hid (m6.set (a := ⟨pX, 4, none⟩) (by show M ≠ pX; omega) (.slice (some ⟨g6, 0, none⟩) (k + 1) cap6))
          have HB6 := Lib.hid (hb6.setCell (p := ⟨pX, 4, none⟩) (by show w.heap.size ≤ pX; omega) (.slice (some ⟨g6, 0, none⟩) (k + 1) cap6))
          have HS6 : Hid (w4.heap.size ≤ w6.heap.size) := Lib.hid (by have := k6.size; omega)
          have O6 := Lib.hid (own_kp own6 (Kp.setCell w6 ⟨pX, 4, none⟩ (.slice (some ⟨g6, 0, none⟩) (k + 1) cap6)) (fun c hc e => by have h1 := (World.ownsRow.lt own6 c hc).1; have h2 : c = pX := e; omega))
          clear b5 kU hpu k15 k25 m5 kx5 o5 e1 r6 own6 k6 hat6 lo hX6 k16 k26 m6 hb6 hst hue q0 q1 q2 q3 q4 q5 q6 q7 q8 q9
          go_wp2_with (at_builtin; refine list_run_append (by rfl) _ _ _ _ (by rfl) (by rfl) (by rfl) (by rfl) r6' ?_)
          go_roundw
          case rel =>
            refine ⟨k + 1, by go_num, by omega, HB6.out, by simpa using HS6.out, K16.out, K26.out, M6.out, some ⟨g6, 0, none⟩, cap6, by simpa using HST.out, ?_⟩
            rw [carryL_next, HUE.out]
            exact O6.out
          case measure => simp [intOf]; omega
        · obtain rfl : k = g.us.length := by omega
          obtain ⟨lX, cX, -⟩ := id KXX.out
          obtain ⟨lN, cN, fN⟩ := id KX2.out
          have HSX := Lib.hid hsx
          have HMX := Lib.hid hMX
          go_wp2_with fail
          refine bodyPost_ret (v := .tuple #[.agg #[.int .i64 g.tick, .int .i64 g.g0, .int .i64 g.g1, .int .i64 ((g.us.length : Int) + 1), .slice xa g.us.length xc], .map (some M), .nilIface]) (ret_cell3 Try.results132 rfl rfl rfl (KX2.out.store5 rfl (.int .i64 g.tick) (.int .i64 g.g0) (.int .i64 g.g1) (.int .i64 ((g.us.length : Int) + 1)) (.slice xa g.us.length xc)) Try.underlying65 rfl infoNewer) rfl ?_
          refine ⟨?_, Or.inr (Or.inr ⟨HFA.out, HFITS.out, xa, xc, M, n1, s1, rfl, ?_, by omega, by omega, ?_⟩)⟩
          · iterate 5 (refine Below.setCell ?_ (by simp) _)
            exact HBX.out
          · have o1 := own_base OX.out (show w.heap.size ≤ w4.heap.size by have := HB4.out.size; omega)
            have lo := fun c hc => World.ownsRow.lt OX.out c hc
            refine own_kp o1 (X := fun b => b = w.heap.size + 1) ?_ (fun c hc e => by have := (lo c hc).1; have h2 : c = w.heap.size + 1 := e; omega)
            iterate 5 (refine Kp.andset ?_ _ _ rfl)
            exact Kp.refl _ _
          · iterate 5 (refine MapOf.set ?_ (by show M ≠ w.heap.size + 1; omega) _)
            exact MX.out
end Go.Proofs.Ytlfljlhppigejaa
