/-
  The walks of newer.set and of the board's reach.
-/
import Derived.Test.YtlfljlhppigejaaNewGame
import Derived.Test.YtlfljlhppigejaaToward
namespace Go.Proofs.Ytlfljlhppigejaa
open Go.RowKit
attribute [local go_sem] qOne qAt qUp

set_option maxHeartbeats 800000 in
set_option maxRecDepth 100000 in
theorem set_any (b o : Nat) (d x y t : Int) (w : World) (c6 : (w.cell? ⟨b, o + 6, none⟩).isSome = true) (c7 : (w.cell? ⟨b, o + 7, none⟩).isSome = true) (c8 : (w.cell? ⟨b, o + 8, none⟩).isSome = true) (c9 : (w.cell? ⟨b, o + 9, none⟩).isSome = true) (hf : ∀ i, w.frozen? ⟨b, i, none⟩ = false) :
    Calls Try.prog 98 #[.pointer (some ⟨b, o, none⟩), .int .i64 d, .int .i64 x, .int .i64 y, .int .i64 t] w fun e w' => e = .returned (.tuple #[]) ∧
      w' = (((w.setCell ⟨b, o + 6, none⟩ (.int .i64 d)).setCell ⟨b, o + 7, none⟩ (.int .i64 x)).setCell ⟨b, o + 8, none⟩ (.int .i64 y)).setCell ⟨b, o + 9, none⟩ (.int .i64 t) := by
  obtain ⟨v6, e6⟩ := Option.isSome_iff_exists.1 c6
  obtain ⟨v7, e7⟩ := Option.isSome_iff_exists.1 c7
  obtain ⟨v8, e8⟩ := Option.isSome_iff_exists.1 c8
  obtain ⟨v9, e9⟩ := Option.isSome_iff_exists.1 c9
  clear c6 c7 c8 c9
  go_enter Try.func98, Try.ntmps98
  go_wp2_with fail
  go_end0
  exact ⟨rfl, rfl⟩

/-- How far a unit reaches. -/
def reachR (u : U) : Int := if u.does = 3 then 1 else (ruleOf true u.kind).range
set_option maxHeartbeats 1600000 in
set_option maxRecDepth 100000 in
theorem reach_any (S M n s : Nat) (mf : Int → Option Value) (u v : U) (b o b2 o2 : Nat) (w : World) (hS : S < w.heap.size) (c5 : w.cell? ⟨S, 5, none⟩ = some (.map (some M))) (hM : IM w M n s mf) (hmf : mf u.target = some (.pointer (some ⟨b2, o2, none⟩))) (hwf : (Lit.int .i64 u.target).wf = true)
    (l1 : b < w.heap.size) (l2 : b2 < w.heap.size) (u2 : w.cell? ⟨b, o + 2, none⟩ = some (.int .i64 u.kind)) (u3 : w.cell? ⟨b, o + 3, none⟩ = some (.int .i64 u.x)) (u4 : w.cell? ⟨b, o + 4, none⟩ = some (.int .i64 u.y)) (u6 : w.cell? ⟨b, o + 6, none⟩ = some (.int .i64 u.does)) (u9 : w.cell? ⟨b, o + 9, none⟩ = some (.int .i64 u.target))
    (v3 : w.cell? ⟨b2, o2 + 3, none⟩ = some (.int .i64 v.x)) (v4 : w.cell? ⟨b2, o2 + 4, none⟩ = some (.int .i64 v.y)) (hu : 0 ≤ u.x ∧ u.x < 12 ∧ 0 ≤ u.y ∧ u.y < 12) (hv : 0 ≤ v.x ∧ v.x < 12 ∧ 0 ≤ v.y ∧ v.y < 12) :
    Calls Try.prog 151 #[.pointer (some ⟨S, 0, none⟩), .pointer (some ⟨b, o, none⟩)] w fun e w' => e = .returned (.bool (decide (far u.x u.y v.x v.y ≤ reachR u))) ∧ Below w.heap.size w w' := by
  haveI := Cw.ne w
  have xS : ∀ x : Cw w, x.w.cell? ⟨S, 5, none⟩ = some (.map (some M)) := fun x => (x.cell _ _ hS).trans c5
  have xL : ∀ x : Cw w, (Instr.lookup 155 (.map (some M)) (.int .i64 u.target) false).run Try.prog x.w = .ok (.pointer (some ⟨b2, o2, none⟩)) x.w := fun x => by
    have := (hM.call x.below).get (intKeys (by kernel_rfl)) (t := 155) (e := 161) (by kernel_rfl) (z := .pointer none) (by kernel_rfl) u.target hwf
    rw [hmf] at this
    exact this
  have x9 : ∀ x : Cw w, x.w.cell? ⟨b, o + 9, none⟩ = some (.int .i64 u.target) := fun x => (x.cell _ _ l1).trans u9
  go_enter Try.func151, Try.ntmps151
  go_upto_region 1 with fail
  refine region_cw (by kernel_rfl) (by kernel_rfl) ?_
  repeat (go_big_quiet_step (fail))
  refine wpQuiet_nil ?_
  intro Z hZ
  have HZ := Lib.hid hZ
  have hsz := hZ.size
  have z2 := (hZ.cell (p := ⟨b, o + 2, none⟩) l1).trans u2
  have z3 := (hZ.cell (p := ⟨b, o + 3, none⟩) l1).trans u3
  have z4 := (hZ.cell (p := ⟨b, o + 4, none⟩) l1).trans u4
  have z6 := (hZ.cell (p := ⟨b, o + 6, none⟩) l1).trans u6
  have y3 := (hZ.cell (p := ⟨b2, o2 + 3, none⟩) l2).trans v3
  have y4 := (hZ.cell (p := ⟨b2, o2 + 4, none⟩) l2).trans v4
  have lb : b < Z.heap.size := by omega
  have lb2 : b2 < Z.heap.size := by omega
  clear hZ xS xL x9 c5 hM hmf u2 u3 u4 u6 u9 v3 v4
  go_wp2_with fail
  refine (rNewer u.kind _).mono ?_
  rintro e w1 ⟨rfl, b1⟩
  have HB1 := Lib.hid b1
  have hs1 := b1.size
  have t3 := (b1.cell (p := ⟨b, o + 3, none⟩) lb).trans z3
  have t4 := (b1.cell (p := ⟨b, o + 4, none⟩) lb).trans z4
  have t6 := (b1.cell (p := ⟨b, o + 6, none⟩) lb).trans z6
  have s3 := (b1.cell (p := ⟨b2, o2 + 3, none⟩) lb2).trans y3
  have s4 := (b1.cell (p := ⟨b2, o2 + 4, none⟩) lb2).trans y4
  have lw : b < w1.heap.size := by omega
  have lw2 : b2 < w1.heap.size := by omega
  obtain ⟨r, hr⟩ : ∃ r, ruleOf true u.kind = r := ⟨_, rfl⟩
  have HR := Lib.hid hr
  rw [hr]
  clear b1 z2 z3 z4 z6 y3 y4 hr
  by_cases h3 : u.does = 3
  · have d3 : (u.does == 3) = true := by simp [h3]
    have H3 := Lib.hid h3
    clear h3
    go_upto_region 5 with fail
    obtain ⟨V, hV⟩ : ∃ V, w1.alloc (.cells #[.int .i64 r.cost, .int .i64 r.hp, .int .i64 r.speed, .int .i64 r.harm, .int .i64 (1), .int .i64 r.load] 33) = V := ⟨_, rfl⟩
    have bV : Below w1.heap.size w1 V := by rw [← hV]; exact (Below.refl _ _).alloc (Nat.le_refl _) _
    have kV : Blk V w1.heap.size #[.int .i64 r.cost, .int .i64 r.hp, .int .i64 r.speed, .int .i64 r.harm, .int .i64 (1), .int .i64 r.load] := by rw [← hV]; exact Blk.new w1 _ _
    rw [hV]
    haveI := Cw.ne V
    have lk := kV.lt
    have hsV := bV.size
    have xr : ∀ x : Cw V, x.w.cell? ⟨w1.heap.size, 4, none⟩ = some (.int .i64 (1)) := fun x => (x.cell _ _ lk).trans (kV.cell 4)
    have xa : ∀ x : Cw V, x.w.cell? ⟨b, o + 3, none⟩ = some (.int .i64 u.x) := fun x => (x.cell _ _ (by omega)).trans ((bV.cell (p := ⟨b, o + 3, none⟩) lw).trans t3)
    have xb : ∀ x : Cw V, x.w.cell? ⟨b, o + 4, none⟩ = some (.int .i64 u.y) := fun x => (x.cell _ _ (by omega)).trans ((bV.cell (p := ⟨b, o + 4, none⟩) lw).trans t4)
    have xc : ∀ x : Cw V, x.w.cell? ⟨b2, o2 + 3, none⟩ = some (.int .i64 v.x) := fun x => (x.cell _ _ (by omega)).trans ((bV.cell (p := ⟨b2, o2 + 3, none⟩) lw2).trans s3)
    have xd : ∀ x : Cw V, x.w.cell? ⟨b2, o2 + 4, none⟩ = some (.int .i64 v.y) := fun x => (x.cell _ _ (by omega)).trans ((bV.cell (p := ⟨b2, o2 + 4, none⟩) lw2).trans s4)
    have HF := Lib.hid (fun x : Cw V => (rFar u.x u.y v.x v.y x.w (by omega) (by omega) (by omega) (by omega)).mono (fun e w' h => (⟨h.1, by rw [← h.2]; exact Below.refl _ _⟩ : e = .returned (.int .i64 (far u.x u.y v.x v.y)) ∧ Below x.w.heap.size x.w w')))
    have HBV := Lib.hid (HZ.out.trans ((HB1.out.trans (bV.mono hs1)).mono hsz))
    clear bV kV hV t3 t4 t6 s3 s4
    refine region_cw (by kernel_rfl) (by kernel_rfl) ?_
    repeat (go_big_quiet_step ((go_at_call 27; refine Calls.cw (HF.out _))))
    refine wpQuiet_nil ?_
    intro Y hY
    have HY := Lib.hid (HBV.out.trans (hY.mono HBV.out.size))
    clear hY xr xa xb xc xd
    go_wp2_with fail
    go_ret
    exact ⟨ret1 (boolv (by unfold reachR; rw [if_pos H3.out])), HY.out⟩
  · have d3 : (u.does == 3) = false := by simp [h3]
    have H3 := Lib.hid h3
    clear h3
    go_upto_region 5 with fail
    obtain ⟨V, hV⟩ : ∃ V, w1.alloc (.cells #[.int .i64 r.cost, .int .i64 r.hp, .int .i64 r.speed, .int .i64 r.harm, .int .i64 (r.range), .int .i64 r.load] 33) = V := ⟨_, rfl⟩
    have bV : Below w1.heap.size w1 V := by rw [← hV]; exact (Below.refl _ _).alloc (Nat.le_refl _) _
    have kV : Blk V w1.heap.size #[.int .i64 r.cost, .int .i64 r.hp, .int .i64 r.speed, .int .i64 r.harm, .int .i64 (r.range), .int .i64 r.load] := by rw [← hV]; exact Blk.new w1 _ _
    rw [hV]
    haveI := Cw.ne V
    have lk := kV.lt
    have hsV := bV.size
    have xr : ∀ x : Cw V, x.w.cell? ⟨w1.heap.size, 4, none⟩ = some (.int .i64 (r.range)) := fun x => (x.cell _ _ lk).trans (kV.cell 4)
    have xa : ∀ x : Cw V, x.w.cell? ⟨b, o + 3, none⟩ = some (.int .i64 u.x) := fun x => (x.cell _ _ (by omega)).trans ((bV.cell (p := ⟨b, o + 3, none⟩) lw).trans t3)
    have xb : ∀ x : Cw V, x.w.cell? ⟨b, o + 4, none⟩ = some (.int .i64 u.y) := fun x => (x.cell _ _ (by omega)).trans ((bV.cell (p := ⟨b, o + 4, none⟩) lw).trans t4)
    have xc : ∀ x : Cw V, x.w.cell? ⟨b2, o2 + 3, none⟩ = some (.int .i64 v.x) := fun x => (x.cell _ _ (by omega)).trans ((bV.cell (p := ⟨b2, o2 + 3, none⟩) lw2).trans s3)
    have xd : ∀ x : Cw V, x.w.cell? ⟨b2, o2 + 4, none⟩ = some (.int .i64 v.y) := fun x => (x.cell _ _ (by omega)).trans ((bV.cell (p := ⟨b2, o2 + 4, none⟩) lw2).trans s4)
    have HF := Lib.hid (fun x : Cw V => (rFar u.x u.y v.x v.y x.w (by omega) (by omega) (by omega) (by omega)).mono (fun e w' h => (⟨h.1, by rw [← h.2]; exact Below.refl _ _⟩ : e = .returned (.int .i64 (far u.x u.y v.x v.y)) ∧ Below x.w.heap.size x.w w')))
    have HBV := Lib.hid (HZ.out.trans ((HB1.out.trans (bV.mono hs1)).mono hsz))
    clear bV kV hV t3 t4 t6 s3 s4
    refine region_cw (by kernel_rfl) (by kernel_rfl) ?_
    repeat (go_big_quiet_step ((go_at_call 27; refine Calls.cw (HF.out _))))
    refine wpQuiet_nil ?_
    intro Y hY
    have HY := Lib.hid (HBV.out.trans (hY.mono HBV.out.size))
    clear hY xr xa xb xc xd
    go_wp2_with fail
    go_ret
    exact ⟨ret1 (boolv (by unfold reachR; rw [if_neg H3.out, HR.out])), HY.out⟩
end Go.Proofs.Ytlfljlhppigejaa
