/-
  The walk of elder.build.
-/
import Derived.Test.YtlfljlhppigejaaPackGame
import Derived.Test.YtlfljlhppigejaaPackMix
import Derived.Test.YtlfljlhppigejaaPackPure
import Derived.Deep.RegionHeld3
import Derived.Deep.AppendLies
import Derived.Deep.RegionLaw
import Derived.BigRegion
import Derived.RegionTactic
namespace Go.Proofs.Ytlfljlhppigejaa
open Go.RowKit
attribute [local go_sem] qOne qAt qUp qOneK

set_option maxHeartbeats 800000 in
set_option maxRecDepth 100000 in
theorem build1_any (S T0 T1 : Nat) (a : Option Addr) (n c : Nat) (us : List U) (id : Int) (hn : us.length = n) (i : Nat) (hi : i < n) (W0 W : World) (hW : Below W0.heap.size W0 W)
    (h0 : W0.cell? ⟨T0, 0, none⟩ = some (.pointer (some ⟨S, 0, none⟩))) (h1 : W0.cell? ⟨T1, 0, none⟩ = some (.int .i64 id)) (h5 : W0.cell? ⟨S, 5, none⟩ = some (.slice a n c)) (hT0 : T0 < W0.heap.size) (hT1 : T1 < W0.heap.size) (hS : S < W0.heap.size) (hu : URow false W0.heap.size W0 a us) :
    Calls Try.prog 175 #[.int .i64 i, .pointer (some ⟨T0, 0, none⟩), .pointer (some ⟨T1, 0, none⟩)] W fun e W' => e = .returned (.bool (decide (id ≤ (us.getD i zeroU).id))) ∧ Below W0.heap.size W0 W' := by
  have h0' := (hW.cell (p := ⟨T0, 0, none⟩) hT0).trans h0
  have h1' := (hW.cell (p := ⟨T1, 0, none⟩) hT1).trans h1
  have h5' := (hW.cell (p := ⟨S, 5, none⟩) hS).trans h5
  obtain ⟨u, hue⟩ : ∃ u, us.getD i zeroU = u := ⟨_, rfl⟩
  obtain ⟨b, o, rfl, hbB, q0, -⟩ := (hu.below hW).getE i (by omega) u hue
  rw [hue]
  have HW := Lib.hid hW
  have hi0 : (0 : Int) ≤ (i : Int) := by omega
  have hin : (i : Int) < (n : Int) := by omega
  clear h0 h1 h5 hu hW hue hn
  go_enter Try.func175, Try.ntmps175
  go_wp2_with fail
  go_quiet (fail)
  go_wp2_with fail
  go_ret
  exact ⟨rfl, below_drewN HW.out _⟩

theorem infoEnt : (Try.prog.info? 179).map (fun i => (i.zero, i.size, i.bytes)) = some (some (.agg #[.int .i64 0, .int .i64 0, .int .i64 0, .int .i64 0, .int .i64 0, .int .i64 0, .int .i64 0, .int .i64 0, .int .i64 0, .int .i64 0]), 10, 80) := by kernel_rfl
theorem infoInt : (Try.prog.info? 3).map (fun i => (i.zero, i.size, i.bytes)) = some (some (.int .i64 0), 1, 8) := by kernel_rfl
/-- What a command leaves of a game. -/
def Gone (w : World) (B S : Nat) (s : GB) (_e : Ending) (w' : World) : Prop := Below B w w' ∧ ∃ fv ev bv, GE w' B S s.1 s.2 fv ev bv

/-- The game's blocks lie in X. -/
structure InX (X : Nat → Prop) (S : Nat) (fv ev bv : Value) : Prop where
  s : X S
  f : ∀ b, fv.ownBlock = some b → X b
  e : ∀ b, ev.ownBlock = some b → X b
  b : ∀ b, bv.ownBlock = some b → X b
/-- .. and of what was there nothing but blocks in X has turned. -/
def GoneX (w : World) (B S : Nat) (X : Nat → Prop) (s : GB) (_e : Ending) (w' : World) : Prop := Kp X w w' ∧ ∃ fv ev bv, GE w' B S s.1 s.2 fv ev bv ∧ InX X S fv ev bv

set_option maxHeartbeats 12800000 in
set_option maxRecDepth 100000 in
theorem build_any (w : World) (B S : Nat) (g : G) (born : List Int) (fv ev bv : Value) (h : GE w B S g born fv ev bv) (hB : B ≤ w.heap.size) (hg : Right g) (hold : g.new = false) (hbn : born.length ≤ 1000) (i : Nat) (u : U) (hi : g.us[i]? = some u) (c : Cm) (X : Nat → Prop) (hX : InX X S fv ev bv) (hXn : ∀ b, w.heap.size ≤ b → X b) :
    Calls Try.prog 162 #[.pointer (some ⟨S, 0, none⟩), .agg #[.int .i64 u.id, .int .i64 u.owner, .int .i64 u.kind, .int .i64 u.x, .int .i64 u.y, .int .i64 u.hp, .int .i64 u.does, .int .i64 u.gx, .int .i64 u.gy, .int .i64 u.target], .agg #[.int .i64 c.player, .int .i64 c.op, .int .i64 c.id, .int .i64 c.kind, .int .i64 c.x, .int .i64 c.y, .int .i64 c.target]] w fun e w' => e = .returned (.tuple #[]) ∧ GoneX w B S X (buildsF (g, born) i c.kind c.x c.y) e w' := by
  have HXI := Lib.hid hX
  have HXN := Lib.hid hXn
  clear hX hXn
  have hu : u ∈ g.us := List.mem_of_getElem? hi
  have hd : g.us.getD i zeroU = u := by simp [List.getD, hi]
  have hok := hg.ok hu
  have hfew := hg.few
  have hon := (onB_iff _ _).1 hok.on
  obtain ⟨ua, uc, rfl, -, hrow, hua⟩ := URow.of_own h.us
  have hS := h.blk.lt
  obtain ⟨W0, hW0⟩ : ∃ W0, ((w.alloc (.cells #[.pointer (some ⟨S, 0, none⟩)] 180)).alloc (.cells #[.int .i64 u.id, .int .i64 u.owner, .int .i64 u.kind, .int .i64 u.x, .int .i64 u.y, .int .i64 u.hp, .int .i64 u.does, .int .i64 u.gx, .int .i64 u.gy, .int .i64 u.target] 179)).alloc (.cells #[.int .i64 c.player, .int .i64 c.op, .int .i64 c.id, .int .i64 c.kind, .int .i64 c.x, .int .i64 c.y, .int .i64 c.target] 99) = W0 := ⟨_, rfl⟩
  have hb0 : Below w.heap.size w W0 := by rw [← hW0]; exact (((Below.refl _ _).alloc (Nat.le_refl _) _).alloc (by simp) _).alloc (by simp; omega) _
  have k3 : Blk W0 w.heap.size #[.pointer (some ⟨S, 0, none⟩)] := by rw [← hW0]; exact ((Blk.new w _ _).alloc _).alloc _
  have k4 : Blk W0 (w.heap.size + 1) #[.int .i64 u.id, .int .i64 u.owner, .int .i64 u.kind, .int .i64 u.x, .int .i64 u.y, .int .i64 u.hp, .int .i64 u.does, .int .i64 u.gx, .int .i64 u.gy, .int .i64 u.target] := by
    rw [← hW0]
    have := (Blk.new (w.alloc (.cells #[.pointer (some ⟨S, 0, none⟩)] 180)) #[.int .i64 u.id, .int .i64 u.owner, .int .i64 u.kind, .int .i64 u.x, .int .i64 u.y, .int .i64 u.hp, .int .i64 u.does, .int .i64 u.gx, .int .i64 u.gy, .int .i64 u.target] 179).alloc (.cells #[.int .i64 c.player, .int .i64 c.op, .int .i64 c.id, .int .i64 c.kind, .int .i64 c.x, .int .i64 c.y, .int .i64 c.target] 99)
    simpa using this
  have k5 : Blk W0 (w.heap.size + 1 + 1) #[.int .i64 c.player, .int .i64 c.op, .int .i64 c.id, .int .i64 c.kind, .int .i64 c.x, .int .i64 c.y, .int .i64 c.target] := by
    rw [← hW0]
    have := Blk.new ((w.alloc (.cells #[.pointer (some ⟨S, 0, none⟩)] 180)).alloc (.cells #[.int .i64 u.id, .int .i64 u.owner, .int .i64 u.kind, .int .i64 u.x, .int .i64 u.y, .int .i64 u.hp, .int .i64 u.does, .int .i64 u.gx, .int .i64 u.gy, .int .i64 u.target] 179)) #[.int .i64 c.player, .int .i64 c.op, .int .i64 c.id, .int .i64 c.kind, .int .i64 c.x, .int .i64 c.y, .int .i64 c.target] 99
    simpa using this
  have K3 := Lib.hid k3
  have K4 := Lib.hid k4
  have K5 := Lib.hid k5
  have HB0 := Lib.hid hb0
  have HH := Lib.hid h
  have HROW := Lib.hid hrow
  have hevL : ∀ b, (Value.slice ua g.us.length uc).ownBlock = some b → b < w.heap.size := fun b hb => (World.ownsRow.lt h.us b hb).2
  have hbvL : ∀ b, bv.ownBlock = some b → b < w.heap.size := fun b hb => (World.ownsRow.lt h.bo b hb).2
  have HEVL := Lib.hid hevL
  have HBVL := Lib.hid hbvL
  have HG := Lib.hid hg
  have HD := Lib.hid hd
  have HI := Lib.hid hi
  have HOLD := Lib.hid hold
  have HOK := Lib.hid hok
  obtain ⟨lk5, ck5, -⟩ := id k5
  clear k3 k4 k5 hb0 h hrow hua hevL hbvL hg hd hi hold hok hu
  go_enter Try.func162, Try.ntmps162
  go_wp2_with fail
  refine (rElder c.kind _).mono ?_
  rintro e w1 ⟨rfl, b1⟩
  have hw1 : w.heap.size + 1 + 1 < w1.heap.size := by have := K5.out.lt; have := b1.size; omega
  obtain ⟨r, hrr⟩ : ∃ r, ruleOf false c.kind = r := ⟨_, rfl⟩
  have HR := Lib.hid hrr
  rw [hrr]
  clear hrr ck5 lk5
  go_wp2_with fail
  refine gen_world (fun W => Below w.heap.size w W ∧ Blk W w.heap.size #[.pointer (some ⟨S, 0, none⟩)] ∧ Blk W (w.heap.size + 1) #[.int .i64 u.id, .int .i64 u.owner, .int .i64 u.kind, .int .i64 u.x, .int .i64 u.y, .int .i64 u.hp, .int .i64 u.does, .int .i64 u.gx, .int .i64 u.gy, .int .i64 u.target] ∧ Blk W (w.heap.size + 1 + 1) #[.int .i64 c.player, .int .i64 c.op, .int .i64 c.id, .int .i64 c.kind, .int .i64 c.x, .int .i64 c.y, .int .i64 c.target] ∧ Blk W w1.heap.size #[.int .i64 r.cost, .int .i64 r.hp, .int .i64 r.speed, .int .i64 r.harm, .int .i64 r.range, .int .i64 r.load]) ⟨(HB0.out.trans (b1.mono (by have := HB0.out.size; omega))).alloc (by have := HB0.out.size; have := b1.size; omega) _, (K3.out.call b1).alloc _, (K4.out.call b1).alloc _, (K5.out.call b1).alloc _, Blk.new w1 _ _⟩ ?_
  rintro W ⟨hbW, kA, kB, kC, kR⟩
  have ge := HH.out.call hbW
  have gb := ge.blk
  obtain ⟨lA, cA, -⟩ := id kA
  obtain ⟨lB, cB, -⟩ := id kB
  obtain ⟨lC, cC, -⟩ := id kC
  obtain ⟨lR, cR, -⟩ := id kR
  obtain ⟨lS, cS, -⟩ := id gb
  have HW := Lib.hid hbW
  have HKA := Lib.hid kA
  have HKB := Lib.hid kB
  have HKC := Lib.hid kC
  have HKR := Lib.hid kR
  have GEW := Lib.hid ge
  have HU : Hid (URow false W.heap.size W ua g.us) := Lib.hid ((HROW.out.below hbW).mono hbW.size)
  have H5 : Hid (W.cell? ⟨S, 5, none⟩ = some (.slice ua g.us.length uc)) := Lib.hid (by rw [cS 5]; rfl)
  have hS : S < W.heap.size := lS
  haveI := Cw.ne W
  have hcw := fun (x : Cw W) => x.cell
  have FIN : Hid (∀ (e : Ending) (w2 : World), Below W.heap.size W w2 → ¬ canBuild g i c.kind c.x c.y → GoneX w B S X (buildsF (g, born) i c.kind c.x c.y) e w2) := Lib.hid (fun e w2 hb2 hn => by
    unfold buildsF
    rw [if_neg hn]
    exact ⟨(kp_of HW.out X).then_ hb2, fv, _, bv, GEW.out.call hb2, HXI.out⟩)
  have HCB : Hid (canBuild g i c.kind c.x c.y ↔ isRule false c.kind = true ∧ c.kind ≠ 4 ∧ u.kind = 1 ∧ onB c.x c.y = true ∧ standsAt g.us c.x c.y = false ∧ far u.x u.y c.x c.y ≤ 1 ∧ r.cost ≤ goldOf g u.owner ∧ g.us.length ≠ 20 ∧ (g.free ≠ [] ∨ g.next ≤ 200)) := Lib.hid (by
    unfold canBuild
    rw [HD.out, HOLD.out, HR.out]
    exact Iff.rfl)
  obtain ⟨rb, hrb⟩ : ∃ b, isRule false c.kind = b := ⟨_, rfl⟩
  obtain ⟨ob, hob⟩ : ∃ b, onB c.x c.y = b := ⟨_, rfl⟩
  obtain ⟨sb, hsb⟩ : ∃ b, standsAt g.us c.x c.y = b := ⟨_, rfl⟩
  obtain ⟨fr, hfr⟩ : ∃ n, far u.x u.y c.x c.y = n := ⟨_, rfl⟩
  rw [hrb]
  rw [hrb, hob, hsb, hfr] at HCB
  have HOB := Lib.hid hob
  have HSB := Lib.hid hsb
  have HFR := Lib.hid hfr
  clear hrb hob hsb hfr hbW kA kB kC kR ge gb
  clear HH HROW K3 K4 K5 HB0 b1
  refine region_cw (by kernel_rfl) (by kernel_rfl) ?_
  repeat (go_big_quiet_step ((first | (go_at_call 23; refine Calls.cw_same (rOn _ _ _)) | (go_at_call 27; refine Calls.cw_same (rFar _ _ _ _ _ (by omega) (by omega) (by omega) (by omega))) | (go_at_call 164; rename_i xx; refine Calls.cw (taken_any S ua g.us.length uc g.us c.x c.y rfl (by omega) _ (Nat.lt_of_lt_of_le hS xx.le) ((xx.below.cell (p := ⟨S, 5, none⟩) hS).trans H5.out) ((HU.out.below xx.below).mono xx.le))))))
  cases rb
  · simp only [Bool.not_false]
    repeat (go_big_quiet_step ((first | (go_at_call 23; refine Calls.cw_same (rOn _ _ _)) | (go_at_call 27; refine Calls.cw_same (rFar _ _ _ _ _ (by omega) (by omega) (by omega) (by omega))) | (go_at_call 164; rename_i xx; refine Calls.cw (taken_any S ua g.us.length uc g.us c.x c.y rfl (by omega) _ (Nat.lt_of_lt_of_le hS xx.le) ((xx.below.cell (p := ⟨S, 5, none⟩) hS).trans H5.out) ((HU.out.below xx.below).mono xx.le))))))
    refine wpQuiet_nil ?_
    intro w2 hb2
    go_wp2_with fail
    refine bodyPost_ret (v := .tuple #[]) (by simp [results, Try.results162]) rfl ?_
    exact ⟨rfl, FIN.out _ _ hb2 (fun h => absurd (HCB.out.1 h).1 (by simp))⟩
  simp only [Bool.not_true]
  repeat (go_big_quiet_step ((first | (go_at_call 23; refine Calls.cw_same (rOn _ _ _)) | (go_at_call 27; refine Calls.cw_same (rFar _ _ _ _ _ (by omega) (by omega) (by omega) (by omega))) | (go_at_call 164; rename_i xx; refine Calls.cw (taken_any S ua g.us.length uc g.us c.x c.y rfl (by omega) _ (Nat.lt_of_lt_of_le hS xx.le) ((xx.below.cell (p := ⟨S, 5, none⟩) hS).trans H5.out) ((HU.out.below xx.below).mono xx.le))))))
  by_cases c2 : c.kind = 4
  · rw [show (c.kind == 4) = true from by simp [c2]]
    have C2 := Lib.hid c2
    clear c2
    repeat (go_big_quiet_step ((first | (go_at_call 23; refine Calls.cw_same (rOn _ _ _)) | (go_at_call 27; refine Calls.cw_same (rFar _ _ _ _ _ (by omega) (by omega) (by omega) (by omega))) | (go_at_call 164; rename_i xx; refine Calls.cw (taken_any S ua g.us.length uc g.us c.x c.y rfl (by omega) _ (Nat.lt_of_lt_of_le hS xx.le) ((xx.below.cell (p := ⟨S, 5, none⟩) hS).trans H5.out) ((HU.out.below xx.below).mono xx.le))))))
    refine wpQuiet_nil ?_
    intro w2 hb2
    go_wp2_with fail
    refine bodyPost_ret (v := .tuple #[]) (by simp [results, Try.results162]) rfl ?_
    exact ⟨rfl, FIN.out _ _ hb2 (fun h => (HCB.out.1 h).2.1 C2.out)⟩
  rw [show (c.kind == 4) = false from by simp [c2]]
  repeat (go_big_quiet_step ((first | (go_at_call 23; refine Calls.cw_same (rOn _ _ _)) | (go_at_call 27; refine Calls.cw_same (rFar _ _ _ _ _ (by omega) (by omega) (by omega) (by omega))) | (go_at_call 164; rename_i xx; refine Calls.cw (taken_any S ua g.us.length uc g.us c.x c.y rfl (by omega) _ (Nat.lt_of_lt_of_le hS xx.le) ((xx.below.cell (p := ⟨S, 5, none⟩) hS).trans H5.out) ((HU.out.below xx.below).mono xx.le))))))
  by_cases c3 : u.kind = 1
  case neg =>
    first
      | rw [show (u.kind != 1) = true from by simp [c3]]
      | rw [show (u.kind == 1) = false from by simp [c3]]
    try simp only [Bool.not_false]
    repeat (go_big_quiet_step ((first | (go_at_call 23; refine Calls.cw_same (rOn _ _ _)) | (go_at_call 27; refine Calls.cw_same (rFar _ _ _ _ _ (by omega) (by omega) (by omega) (by omega))) | (go_at_call 164; rename_i xx; refine Calls.cw (taken_any S ua g.us.length uc g.us c.x c.y rfl (by omega) _ (Nat.lt_of_lt_of_le hS xx.le) ((xx.below.cell (p := ⟨S, 5, none⟩) hS).trans H5.out) ((HU.out.below xx.below).mono xx.le))))))
    refine wpQuiet_nil ?_
    intro w2 hb2
    go_wp2_with fail
    refine bodyPost_ret (v := .tuple #[]) (by simp [results, Try.results162]) rfl ?_
    exact ⟨rfl, FIN.out _ _ hb2 (fun h => c3 (HCB.out.1 h).2.2.1)⟩
  first
    | rw [show (u.kind != 1) = false from by simp [c3]]
    | rw [show (u.kind == 1) = true from by simp [c3]]
  try simp only [Bool.not_true]
  have C3 := Lib.hid c3
  have hown : Hid (u.owner = 0 ∨ u.owner = 1) := Lib.hid (by
    have h1 := HOK.out.own0
    have h2 := HOK.out.own2
    have h3 := HOK.out.mine
    rw [C3.out] at h3
    omega)
  clear c3
  repeat (go_big_quiet_step ((first | (go_at_call 23; refine Calls.cw_same (rOn _ _ _)) | (go_at_call 27; refine Calls.cw_same (rFar _ _ _ _ _ (by omega) (by omega) (by omega) (by omega))) | (go_at_call 164; rename_i xx; refine Calls.cw (taken_any S ua g.us.length uc g.us c.x c.y rfl (by omega) _ (Nat.lt_of_lt_of_le hS xx.le) ((xx.below.cell (p := ⟨S, 5, none⟩) hS).trans H5.out) ((HU.out.below xx.below).mono xx.le))))))
  rw [HOB.out]
  cases ob
  · try simp only [Bool.not_false]
    repeat (go_big_quiet_step ((first | (go_at_call 23; refine Calls.cw_same (rOn _ _ _)) | (go_at_call 27; refine Calls.cw_same (rFar _ _ _ _ _ (by omega) (by omega) (by omega) (by omega))) | (go_at_call 164; rename_i xx; refine Calls.cw (taken_any S ua g.us.length uc g.us c.x c.y rfl (by omega) _ (Nat.lt_of_lt_of_le hS xx.le) ((xx.below.cell (p := ⟨S, 5, none⟩) hS).trans H5.out) ((HU.out.below xx.below).mono xx.le))))))
    refine wpQuiet_nil ?_
    intro w2 hb2
    go_wp2_with fail
    refine bodyPost_ret (v := .tuple #[]) (by simp [results, Try.results162]) rfl ?_
    exact ⟨rfl, FIN.out _ _ hb2 (fun h => absurd (HCB.out.1 h).2.2.2.1 (by simp))⟩
  try simp only [Bool.not_true]
  have hcon := (onB_iff _ _).1 HOB.out
  repeat (go_big_quiet_step ((first | (go_at_call 23; refine Calls.cw_same (rOn _ _ _)) | (go_at_call 27; refine Calls.cw_same (rFar _ _ _ _ _ (by omega) (by omega) (by omega) (by omega))) | (go_at_call 164; rename_i xx; refine Calls.cw (taken_any S ua g.us.length uc g.us c.x c.y rfl (by omega) _ (Nat.lt_of_lt_of_le hS xx.le) ((xx.below.cell (p := ⟨S, 5, none⟩) hS).trans H5.out) ((HU.out.below xx.below).mono xx.le))))))
  rw [HFR.out]
  by_cases c5 : 1 < fr
  · rw [show decide (1 < fr) = true from decide_eq_true c5]
    repeat (go_big_quiet_step ((first | (go_at_call 23; refine Calls.cw_same (rOn _ _ _)) | (go_at_call 27; refine Calls.cw_same (rFar _ _ _ _ _ (by omega) (by omega) (by omega) (by omega))) | (go_at_call 164; rename_i xx; refine Calls.cw (taken_any S ua g.us.length uc g.us c.x c.y rfl (by omega) _ (Nat.lt_of_lt_of_le hS xx.le) ((xx.below.cell (p := ⟨S, 5, none⟩) hS).trans H5.out) ((HU.out.below xx.below).mono xx.le))))))
    refine wpQuiet_nil ?_
    intro w2 hb2
    go_wp2_with fail
    refine bodyPost_ret (v := .tuple #[]) (by simp [results, Try.results162]) rfl ?_
    exact ⟨rfl, FIN.out _ _ hb2 (fun h => by have := (HCB.out.1 h).2.2.2.2.2.1; omega)⟩
  rw [show decide (1 < fr) = false from decide_eq_false c5]
  repeat (go_big_quiet_step ((first | (go_at_call 23; refine Calls.cw_same (rOn _ _ _)) | (go_at_call 27; refine Calls.cw_same (rFar _ _ _ _ _ (by omega) (by omega) (by omega) (by omega))) | (go_at_call 164; rename_i xx; refine Calls.cw (taken_any S ua g.us.length uc g.us c.x c.y rfl (by omega) _ (Nat.lt_of_lt_of_le hS xx.le) ((xx.below.cell (p := ⟨S, 5, none⟩) hS).trans H5.out) ((HU.out.below xx.below).mono xx.le))))))
  rw [HSB.out]
  cases sb
  case true =>
    repeat (go_big_quiet_step ((first | (go_at_call 23; refine Calls.cw_same (rOn _ _ _)) | (go_at_call 27; refine Calls.cw_same (rFar _ _ _ _ _ (by omega) (by omega) (by omega) (by omega))) | (go_at_call 164; rename_i xx; refine Calls.cw (taken_any S ua g.us.length uc g.us c.x c.y rfl (by omega) _ (Nat.lt_of_lt_of_le hS xx.le) ((xx.below.cell (p := ⟨S, 5, none⟩) hS).trans H5.out) ((HU.out.below xx.below).mono xx.le))))))
    refine wpQuiet_nil ?_
    intro w2 hb2
    go_wp2_with fail
    refine bodyPost_ret (v := .tuple #[]) (by simp [results, Try.results162]) rfl ?_
    exact ⟨rfl, FIN.out _ _ hb2 (fun h => absurd (HCB.out.1 h).2.2.2.2.1 (by simp))⟩
  obtain ⟨GO, hgo⟩ : ∃ G, goldOf g u.owner = G := ⟨_, rfl⟩
  rw [hgo] at HCB
  have hgc : W.cell? ⟨S, 1 + u.owner.toNat, none⟩ = some (.int .i64 GO) := by
    rw [← hgo]
    unfold goldOf
    rcases hown.out with ho | ho
    · rw [ho, if_pos rfl]; exact cS 1
    · rw [ho, if_neg (by omega)]; exact cS 2
  have ho0 : (0 : Int) ≤ u.owner := by have := hown.out; omega
  have ho2 : u.owner < 2 := by have := hown.out; omega
  have HGO := Lib.hid hgo
  have hs5 := H5.out
  clear hgo cS
  repeat (go_big_quiet_step ((first | (go_at_call 23; refine Calls.cw_same (rOn _ _ _)) | (go_at_call 27; refine Calls.cw_same (rFar _ _ _ _ _ (by omega) (by omega) (by omega) (by omega))) | (go_at_call 164; rename_i xx; refine Calls.cw (taken_any S ua g.us.length uc g.us c.x c.y rfl (by omega) _ (Nat.lt_of_lt_of_le hS xx.le) ((xx.below.cell (p := ⟨S, 5, none⟩) hS).trans H5.out) ((HU.out.below xx.below).mono xx.le))))))
  by_cases c7 : GO < r.cost
  · rw [show decide (GO < r.cost) = true from decide_eq_true c7]
    repeat (go_big_quiet_step ((first | (go_at_call 23; refine Calls.cw_same (rOn _ _ _)) | (go_at_call 27; refine Calls.cw_same (rFar _ _ _ _ _ (by omega) (by omega) (by omega) (by omega))) | (go_at_call 164; rename_i xx; refine Calls.cw (taken_any S ua g.us.length uc g.us c.x c.y rfl (by omega) _ (Nat.lt_of_lt_of_le hS xx.le) ((xx.below.cell (p := ⟨S, 5, none⟩) hS).trans H5.out) ((HU.out.below xx.below).mono xx.le))))))
    refine wpQuiet_nil ?_
    intro w2 hb2
    go_wp2_with fail
    refine bodyPost_ret (v := .tuple #[]) (by simp [results, Try.results162]) rfl ?_
    exact ⟨rfl, FIN.out _ _ hb2 (fun h => by have := (HCB.out.1 h).2.2.2.2.2.2.1; omega)⟩
  rw [show decide (GO < r.cost) = false from decide_eq_false c7]
  repeat (go_big_quiet_step ((first | (go_at_call 23; refine Calls.cw_same (rOn _ _ _)) | (go_at_call 27; refine Calls.cw_same (rFar _ _ _ _ _ (by omega) (by omega) (by omega) (by omega))) | (go_at_call 164; rename_i xx; refine Calls.cw (taken_any S ua g.us.length uc g.us c.x c.y rfl (by omega) _ (Nat.lt_of_lt_of_le hS xx.le) ((xx.below.cell (p := ⟨S, 5, none⟩) hS).trans H5.out) ((HU.out.below xx.below).mono xx.le))))))
  by_cases c8 : g.us.length = 20
  · rw [show ((g.us.length : Int) == 20) = true from by simp; omega]
    repeat (go_big_quiet_step ((first | (go_at_call 23; refine Calls.cw_same (rOn _ _ _)) | (go_at_call 27; refine Calls.cw_same (rFar _ _ _ _ _ (by omega) (by omega) (by omega) (by omega))) | (go_at_call 164; rename_i xx; refine Calls.cw (taken_any S ua g.us.length uc g.us c.x c.y rfl (by omega) _ (Nat.lt_of_lt_of_le hS xx.le) ((xx.below.cell (p := ⟨S, 5, none⟩) hS).trans H5.out) ((HU.out.below xx.below).mono xx.le))))))
    refine wpQuiet_nil ?_
    intro w2 hb2
    go_wp2_with fail
    refine bodyPost_ret (v := .tuple #[]) (by simp [results, Try.results162]) rfl ?_
    exact ⟨rfl, FIN.out _ _ hb2 (fun h => (HCB.out.1 h).2.2.2.2.2.2.2.1 c8)⟩
  rw [show ((g.us.length : Int) == 20) = false from by simp; omega]
  repeat (go_big_quiet_step ((first | (go_at_call 23; refine Calls.cw_same (rOn _ _ _)) | (go_at_call 27; refine Calls.cw_same (rFar _ _ _ _ _ (by omega) (by omega) (by omega) (by omega))) | (go_at_call 164; rename_i xx; refine Calls.cw (taken_any S ua g.us.length uc g.us c.x c.y rfl (by omega) _ (Nat.lt_of_lt_of_le hS xx.le) ((xx.below.cell (p := ⟨S, 5, none⟩) hS).trans H5.out) ((HU.out.below xx.below).mono xx.le))))))
  refine wpQuiet_nil ?_
  intro w2 hb2
  have HW2 : Hid (Below w.heap.size w w2) := Lib.hid (HW.out.trans (hb2.mono HW.out.size))
  have HB2W : Hid (Below W.heap.size W w2) := Lib.hid hb2
  have ge2 := GEW.out.call hb2
  have kA := HKA.out.call hb2
  have kB := HKB.out.call hb2
  have kC := HKC.out.call hb2
  have kR := HKR.out.call hb2
  clear hcw cA cB cC cR hs5 lA lB lC lR hgc hb2
  have HA2 := Lib.hid kA
  have HB2 := Lib.hid kB
  have HC2 := Lib.hid kC
  have HR2 := Lib.hid kR
  have GE2 := Lib.hid ge2
  obtain ⟨lA, cA, -⟩ := id kA
  clear kA kB kC kR ge2
  go_wp2_with fail
  have hhead := HG.out.head
  have hnx : 1 ≤ g.next ∧ g.next ≤ 201 := by
    unfold headBad at hhead
    rw [HOLD.out] at hhead
    have : topOf false = 200 := rfl
    omega
  refine (number_any w2 B S g born fv (.slice ua g.us.length uc) bv GE2.out hnx (by
    have := HG.out.unfree
    omega)).mono ?_
  rintro e w3 ⟨k3, hcase⟩
  clear hhead hnx
  rcases hcase with ⟨hfree, hnx, rfl, rfl⟩ | ⟨hcan, rfl, fv', ge3, hfv'⟩
  · go_wp2_with fail
    refine bodyPost_ret (v := .tuple #[]) (by simp [results, Try.results162]) rfl ?_
    refine ⟨rfl, FIN.out _ _ ?_ (fun h => ?_)⟩
    · repeat (first | exact HB2W.out | refine Below.setCell ?_ (by first | exact HB2W.out.size | (simp; done)) _ | refine Below.alloc ?_ HB2W.out.size _ | refine Below.drew ?_ | refine below_drewN ?_ _)
    · rcases (HCB.out.1 h).2.2.2.2.2.2.2.2 with h1 | h1
      · exact h1 hfree
      · omega
  obtain ⟨nid, hnid⟩ : ∃ n, newId g = n := ⟨_, rfl⟩
  have hfresh := newId_fresh HG.out (by rw [HOLD.out]; exact hcan) (fun h => by rw [HOLD.out] at h; cases h)
  rw [hnid] at hfresh ⊢
  obtain ⟨f1, f2, f3, f4⟩ := hfresh
  rw [HOLD.out, show topOf false = 200 from rfl] at f2
  have HN3 := Lib.hid f3
  have HNID := Lib.hid hnid
  have HCAN := Lib.hid hcan
  have hd0 : (nid == 0) = false := by simp; omega
  have sz2 := HW2.out.size
  have lR2 := HR2.out.lt
  have kA3 := HA2.out.kp k3 (by omega)
  have kB3 := HB2.out.kp k3 (by omega)
  have kC3 := HC2.out.kp k3 (by omega)
  have kR3 := HR2.out.kp k3 (by have := HKR.out.lt; have := HKC.out.lt; omega)
  have HFV' := Lib.hid hfv'
  have hb3 : Kp X w w3 := (kp_of HW2.out X).trans k3 (fun c _ hc => (by rw [hc]; exact HXI.out.s))
  have HBA : Hid (Below w3.heap.size w3 (w3.alloc (.cells #[.int .i64 nid] 3))) := Lib.hid ((Below.refl _ _).alloc (Nat.le_refl _) _)
  have HA3 := Lib.hid (kA3.call HBA.out)
  have HB3 := Lib.hid (kB3.call HBA.out)
  have HC3 := Lib.hid (kC3.call HBA.out)
  have HR3 := Lib.hid (kR3.call HBA.out)
  have HG3 := Lib.hid (ge3.call HBA.out)
  have HX3 : Hid (Kp X w (w3.alloc (.cells #[.int .i64 nid] 3))) := Lib.hid (hb3.then_ HBA.out)
  have sz3 := k3.size
  clear kA3 kB3 kC3 kR3 hb3 hfv' ge3 k3 lA cA
  go_wp2_with fail
  refine gen_world (fun V => GE V B S { g with next := if g.free = [] then g.next + 1 else g.next, free := g.free.dropLast } born fv' (.slice ua g.us.length uc) bv ∧ Kp X w V ∧ Blk V w.heap.size #[.pointer (some ⟨S, 0, none⟩)] ∧ Blk V (w.heap.size + 1) #[.int .i64 u.id, .int .i64 u.owner, .int .i64 u.kind, .int .i64 u.x, .int .i64 u.y, .int .i64 u.hp, .int .i64 u.does, .int .i64 u.gx, .int .i64 u.gy, .int .i64 u.target] ∧ Blk V (w.heap.size + 1 + 1) #[.int .i64 c.player, .int .i64 c.op, .int .i64 c.id, .int .i64 c.kind, .int .i64 c.x, .int .i64 c.y, .int .i64 c.target] ∧ Blk V w1.heap.size #[.int .i64 r.cost, .int .i64 r.hp, .int .i64 r.speed, .int .i64 r.harm, .int .i64 r.range, .int .i64 r.load] ∧ Blk V w3.heap.size #[.int .i64 nid]) ⟨HG3.out, HX3.out, HA3.out, HB3.out, HC3.out, HR3.out, Blk.new _ _ _⟩ ?_
  rintro V ⟨geV, bV, vA, vB, vC, vR, vI⟩
  have gbV := geV.blk
  obtain ⟨lA, cA, -⟩ := id vA
  obtain ⟨lB, cB, -⟩ := id vB
  obtain ⟨lR, cR, -⟩ := id vR
  obtain ⟨lS, cS, fS⟩ := id gbV
  have hgc : V.cell? ⟨S, 1 + u.owner.toNat, none⟩ = some (.int .i64 GO) := by
    rw [← HGO.out]
    unfold goldOf
    rcases hown.out with ho | ho
    · rw [ho, if_pos rfl]; exact cS 1
    · rw [ho, if_neg (by omega)]; exact cS 2
  have hgo' : goldOf { g with next := if g.free = [] then g.next + 1 else g.next, free := g.free.dropLast } u.owner = GO := HGO.out
  have HGO' := Lib.hid hgo'
  have hbd := ruleOf_bd false c.kind
  rw [HR.out] at hbd
  have hgold : 0 ≤ GO ∧ GO ≤ 40 := by
    have hhead := HG.out.head
    unfold headBad at hhead
    rw [HOLD.out, show richOf false = 40 from rfl] at hhead
    rw [← HGO.out]
    unfold goldOf
    split <;> omega
  have hwr : IntKind.i64.wrap (GO - r.cost) = GO - r.cost := IntWalk.i64_in _ (by omega)
  have HGV := Lib.hid geV
  have HVA := Lib.hid vA
  have HVB := Lib.hid vB
  have HVC := Lib.hid vC
  have HVR := Lib.hid vR
  have HVI := Lib.hid vI
  have HBV := Lib.hid bV
  clear hgo' cS gbV vA vB vC vR vI bV hbd
  haveI := Cw.ne V
  have hcw := fun (x : Cw V) => x.cell
  refine region_cw_tail 15 (by kernel_rfl) (by kernel_rfl) ?_
  simp only [List.take_succ_cons, List.take_zero, List.drop_succ_cons, List.drop_zero]
  repeat (go_big_quiet_step (fail))
  refine wpQuiet_nil ?_
  intro V2 hV2
  have ge4 := HGV.out.call hV2
  obtain ⟨lS4, cS4, fS4⟩ := id ge4.blk
  have hpay := ge4.pay hown.out r.cost
  rw [HGO'.out] at hpay
  have hTS : w.heap.size ≠ S := by omega
  have kA4 := (HVA.out.call hV2)
  refine list_store1 S (1 + u.owner.toNat) (.int .i64 (GO - r.cost)) 3 (.tmp 96) (.tmp 92) rfl rfl rfl rfl rfl ?_ (fS4 _) rfl (by kernel_rfl) (fun Z => GE Z B S (pay { g with next := if g.free = [] then g.next + 1 else g.next, free := g.free.dropLast } u.owner r.cost) born fv' (.slice ua g.us.length uc) bv ∧ Kp X w Z ∧ Blk Z w.heap.size #[.pointer (some ⟨S, 0, none⟩)] ∧ Blk Z (w.heap.size + 1) #[.int .i64 u.id, .int .i64 u.owner, .int .i64 u.kind, .int .i64 u.x, .int .i64 u.y, .int .i64 u.hp, .int .i64 u.does, .int .i64 u.gx, .int .i64 u.gy, .int .i64 u.target] ∧ Blk Z (w.heap.size + 1 + 1) #[.int .i64 c.player, .int .i64 c.op, .int .i64 c.id, .int .i64 c.kind, .int .i64 c.x, .int .i64 c.y, .int .i64 c.target] ∧ Blk Z w1.heap.size #[.int .i64 r.cost, .int .i64 r.hp, .int .i64 r.speed, .int .i64 r.harm, .int .i64 r.range, .int .i64 r.load] ∧ Blk Z w3.heap.size #[.int .i64 nid]) ⟨hpay, ?_, kA4.other (by omega), (HVB.out.call hV2).other (by omega), (HVC.out.call hV2).other (by omega), (HVR.out.call hV2).other (by omega), (HVI.out.call hV2).other (by omega)⟩ ?_
  · rw [cS4]
    rcases hown.out with ho | ho <;> rw [ho] <;> rfl
  · exact (HBV.out.then_ hV2).andset ⟨S, 1 + u.owner.toNat, none⟩ _ HXI.out.s
  rintro Z ⟨geZ, bZ, zA, zB, zC, zR, zI⟩
  obtain ⟨g4, hg4⟩ : ∃ x, pay { g with next := if g.free = [] then g.next + 1 else g.next, free := g.free.dropLast } u.owner r.cost = x := ⟨_, rfl⟩
  have us4 : g4.us = g.us := by rw [← hg4]; unfold pay; split <;> rfl
  rw [hg4] at geZ
  have HG4 := Lib.hid hg4
  obtain ⟨a', c', he', -, hrowZ, huaZ⟩ := URow.of_own geZ.us
  rw [us4] at he' hrowZ
  cases he'
  obtain ⟨lA, cA, -⟩ := id zA
  obtain ⟨lI, cI, -⟩ := id zI
  obtain ⟨lS, cS, -⟩ := id geZ.blk
  have US4 := Lib.hid us4
  have HROZ := Lib.hid hrowZ
  have HZA := Lib.hid zA
  have HZB := Lib.hid zB
  have HZC := Lib.hid zC
  have HZR := Lib.hid zR
  have HZI := Lib.hid zI
  have HGZ := Lib.hid geZ
  have HBZ := Lib.hid bZ
  clear ge4 lS4 cS4 fS4 hpay kA4 hV2 us4 hg4 hrowZ huaZ zA zB zC zR zI bZ geZ hcw cB cR lB lR hgc
  go_wp2_with fail
  refine (search_build (.pointer (some ⟨w.heap.size, 0, none⟩)) (.pointer (some ⟨w3.heap.size, 0, none⟩)) g.us.length (by omega) (fun k => decide (nid ≤ (g.us.getD k zeroU).id)) (fun W => Below Z.heap.size Z W) (Lib.hid (fun k W hk hW => build1_any S w.heap.size w3.heap.size ua g.us.length uc g.us nid rfl k hk Z W hW (by rw [HZA.out.cell]; rfl) (by rw [HZI.out.cell]; rfl) (by rw [HGZ.out.blk.cell]; rfl) lA lI lS HROZ.out)) _ (Lib.hid (Below.refl _ _))).mono ?_
  rintro e w7 ⟨p, rfl, hp, hp1, hp2, b7⟩
  have ge7 := HGZ.out.call b7
  have kA7 := HZA.out.call b7
  have HA7 := Lib.hid kA7
  have HB7 := Lib.hid (HZB.out.call b7)
  have HC7 := Lib.hid (HZC.out.call b7)
  have HR7 := Lib.hid (HZR.out.call b7)
  have HI7 := Lib.hid (HZI.out.call b7)
  have HX7 : Hid (Kp X w w7) := Lib.hid (HBZ.out.then_ b7)
  have HP := Lib.hid hp
  have HP1 := Lib.hid hp1
  have HP2 := Lib.hid hp2
  have HG7 := Lib.hid ge7
  have hA0 : w7.cell? ⟨w.heap.size, 0, none⟩ = some (.pointer (some ⟨S, 0, none⟩)) := by rw [kA7.cell]; rfl
  have hS5 : w7.cell? ⟨S, 5, none⟩ = some (.slice ua g.us.length uc) := by rw [ge7.blk.cell]; rfl
  have hF5 : w7.frozen? ⟨S, 5, none⟩ = false := ge7.blk.free 5
  have lA7 := kA7.lt
  have lS7 := ge7.blk.lt
  have own7 := ge7.us
  rw [US4.out] at own7
  have HOWN7 := Lib.hid own7
  obtain ⟨i0, hi0, hz0, hz1, hz2⟩ := info_parts infoEnt
  have hB7 : B ≤ w7.heap.size := by have := HX7.out.size; omega
  have nA : ∀ b, (Value.slice ua g.us.length uc).ownBlock = some b → b ≠ w.heap.size := fun b hb => by have := HEVL.out b hb; omega
  have nS : (Value.slice ua g.us.length uc).ownBlock ≠ some S := fun h => ge7.se S h rfl
  have nA' : (Value.slice ua g.us.length uc).ownBlock ≠ some w.heap.size := fun h => nA _ h rfl
  have hFa : ∀ o : Obj, (w7.alloc o).drew.frozen? ⟨S, 5, none⟩ = false := fun o => by
    show (w7.alloc o).frozen? ⟨S, 5, none⟩ = false
    rw [World.frozen?_alloc_old w7 o _ (Nat.ne_of_lt lS7)]
    exact hF5
  clear cA cI lA lI lS cS b7 hp hp1 hp2 ge7 kA7 own7
  go_wp2_with fail
  haveI := Kw.ne (fun k => (Value.slice ua g.us.length uc).ownBlock = some k) w7
  have kx1 : ∀ x : Kw (fun k => (Value.slice ua g.us.length uc).ownBlock = some k) w7, x.w.cell? ⟨w.heap.size, 0, none⟩ = some (.pointer (some ⟨S, 0, none⟩)) := fun x => (x.cell _ _ lA7 nA').trans hA0
  have kx2 : ∀ x : Kw (fun k => (Value.slice ua g.us.length uc).ownBlock = some k) w7, x.w.cell? ⟨S, 5, none⟩ = some (.slice ua g.us.length uc) := fun x => (x.cell _ _ lS7 nS).trans hS5
  refine region_mix 9 [(false, 0), (false, 1), (false, 2), (false, 3), (false, 4), (false, 5), (false, 6), (true, 7), (true, 8)] (kcl (fun k => (Value.slice ua g.us.length uc).ownBlock = some k) w7 (fun x => x.ownsRow B 179 10 (.slice ua g.us.length uc) g.us.length (cellsAll g.us)) (fun x x' h hb => own_kp h (kp_of hb (fun _ => False)) (fun _ _ y => y))) ⟨Kp.drew _ _, HOWN7.out⟩ (by kernel_rfl) (by kernel_rfl) ?_
  simp only [stepsOf, List.filterMap_cons, List.filterMap_nil, List.getElem?_toArray, List.getElem?_cons_zero, List.getElem?_cons_succ, Option.map_some, List.drop_succ_cons, List.drop_zero]
  repeat (refine mix_readK (fun K hK => ?_); go_simp; refine hK _ ?_; clear hK K)
  refine mix_new (fun q => .slice (some ⟨q, 0, none⟩) 1 1) #[.int .i64 0, .int .i64 0, .int .i64 0, .int .i64 0, .int .i64 0, .int .i64 0, .int .i64 0, .int .i64 0, .int .i64 0, .int .i64 0] 179 rfl (fun w => by simp [go_sem]) (fun q => ?_)
  refine mix_append q #[.int .i64 0, .int .i64 0, .int .i64 0, .int .i64 0, .int .i64 0, .int .i64 0, .int .i64 0, .int .i64 0, .int .i64 0, .int .i64 0] 179 (.tmp 110) (.tmp 112) 88 rfl rfl B 179 i0 _ 10 80 Try.underlying88 hi0 hz0 hz1 hz2 rfl (by omega) (.slice ua g.us.length uc) g.us.length (cellsAll g.us) rfl rfl HOWN7.out rfl (by simp [Value.oneCell']) (by unfold maxLen; omega) (by omega) hB7 (fun k => Iff.rfl) (fun w h => ⟨h.2.1, h.2.2.2⟩) (fun w _ h => h.1) (fun gg cap => ?_)
  refine mix_nil ?_
  rintro w8 ⟨k8, own8, hgg⟩
  have HGG : Hid (gg < w.heap.size ∨ w7.heap.size ≤ gg) := Lib.hid (hgg.imp (fun h => HEVL.out gg h) (fun h => h))
  have gu8 := HG7.out.growU (gg := gg) (cap := cap) (us := g.us ++ [zeroU]) k8 (by
    rw [List.length_append, cellsAll_append]
    exact own8) hgg
  rw [List.length_append, List.length_singleton] at gu8
  have nX : ∀ b, w.heap.size ≤ b → ¬ (Value.slice ua g.us.length uc).ownBlock = some b := fun b hb e => by have := HEVL.out b e; omega
  have kA8 := HA7.out.kp k8 nA'
  have kB8 := HB7.out.kp k8 (nX _ (by omega))
  have kC8 := HC7.out.kp k8 (nX _ (by omega))
  have kR8 := HR7.out.kp k8 (nX _ (by omega))
  have kI8 := HI7.out.kp k8 (nX _ (by omega))
  have hb8 : Kp X w w8 := HX7.out.trans k8 (fun c _ hc => HXI.out.e c hc)
  have HGX : Hid (X gg) := Lib.hid (hgg.elim (fun h => HXI.out.e gg h) (fun h => HXN.out gg (by have := HX7.out.size; omega)))
  have hS8 : w8.cell? ⟨S, 5, none⟩ = some (.slice ua g.us.length uc) := (k8.cell _ _ lS7 nS).trans hS5
  have hF8 : w8.frozen? ⟨S, 5, none⟩ = false := (k8.frozen _ _ lS7 nS).trans hF5
  iterate 3 (refine wpList_plain rfl (fun K hK => ?_); go_simp; refine hK _ _ ?_; clear hK K)
  refine list_store1 S 5 (.slice (some ⟨gg, 0, none⟩) (g.us.length + 1) cap) 88 (.tmp 116) (.tmp 113) rfl rfl rfl rfl rfl (by rw [hS8]; rfl) hF8 rfl (by kernel_rfl) (fun Z => GE Z B S { g4 with us := g.us ++ [zeroU] } born fv' (.slice (some ⟨gg, 0, none⟩) (g.us.length + 1) cap) bv ∧ Kp X w Z ∧ Blk Z w.heap.size #[.pointer (some ⟨S, 0, none⟩)] ∧ Blk Z (w.heap.size + 1) #[.int .i64 u.id, .int .i64 u.owner, .int .i64 u.kind, .int .i64 u.x, .int .i64 u.y, .int .i64 u.hp, .int .i64 u.does, .int .i64 u.gx, .int .i64 u.gy, .int .i64 u.target] ∧ Blk Z (w.heap.size + 1 + 1) #[.int .i64 c.player, .int .i64 c.op, .int .i64 c.id, .int .i64 c.kind, .int .i64 c.x, .int .i64 c.y, .int .i64 c.target] ∧ Blk Z w1.heap.size #[.int .i64 r.cost, .int .i64 r.hp, .int .i64 r.speed, .int .i64 r.harm, .int .i64 r.range, .int .i64 r.load] ∧ Blk Z w3.heap.size #[.int .i64 nid]) ⟨gu8, hb8.andset ⟨S, 5, none⟩ _ HXI.out.s, kA8.other (by omega), kB8.other (by omega), kC8.other (by omega), kR8.other (by omega), kI8.other (by omega)⟩ ?_
  rintro V9 ⟨ge9, b9, vA, vB, vC, vR, vI⟩
  have gb9 := ge9.blk
  obtain ⟨lA, cA, -⟩ := id vA
  obtain ⟨lS, cS, -⟩ := id gb9
  have hul : (g.us ++ [zeroU]).length = g.us.length + 1 := by simp
  have own9 := ge9.us
  dsimp only at own9
  rw [hul] at own9
  have HOWN9 := Lib.hid own9
  have hcap := own_cap own9
  obtain ⟨hcap1, hcap2⟩ := hcap
  unfold maxLen at hcap2
  have HG9 := Lib.hid ge9
  have HV9A := Lib.hid vA
  have HV9B := Lib.hid vB
  have HV9C := Lib.hid vC
  have HV9R := Lib.hid vR
  have HV9I := Lib.hid vI
  have HB9 := Lib.hid b9
  have hp' := HP.out
  have hpw : IntKind.i64.wrap ((p : Int) + 1) = ((p + 1 : Nat) : Int) := by rw [IntWalk.i64_in _ (by omega)]; omega
  have hp0 : (0 : Int) ≤ (p : Int) := by omega
  have hp1' : (0 : Int) ≤ ((p + 1 : Nat) : Int) := by omega
  have hp2' : ((p + 1 : Nat) : Int) ≤ ((g.us.length + 1 : Nat) : Int) := by omega
  have hp3' : ((g.us.length + 1 : Nat) : Int) ≤ (cap : Int) := by omega
  have hp4' : (p : Int) ≤ ((g.us.length + 1 : Nat) : Int) := by omega
  have hcA : V9.cell? ⟨w.heap.size, 0, none⟩ = some (.pointer (some ⟨S, 0, none⟩)) := by rw [cA]; rfl
  have hcS : V9.cell? ⟨S, 5, none⟩ = some (.slice (some ⟨gg, 0, none⟩) (g.us.length + 1) cap) := by rw [cS]; rfl
  clear kx1 kx2 cA cS gb9 vA vB vC vR vI b9 ge9 own9 gu8 k8 own8 hgg kA8 kB8 kC8 kR8 kI8 hb8 hS8 hF8 hA0 hS5 hF5 lA7 lS7 hFa nA nS nA' nX hi0 hz0 hz1 hz2 hB7
  go_wp2_with fail
  haveI := Cw.ne V9
  have hcw := fun (x : Cw V9) => x.cell
  refine region_cw_tail 15 (by kernel_rfl) (by kernel_rfl) ?_
  simp only [List.take_succ_cons, List.take_zero, List.drop_succ_cons, List.drop_zero]
  repeat (go_big_quiet_step (fail))
  refine wpQuiet_nil ?_
  intro V10 hV10
  have own10 := own_kp HOWN9.out (kp_of hV10 (fun _ => False)) (fun _ _ y => y)
  have hlen : (cellsAll (g.us.drop p)).length = (g.us.length - p) * 10 := by rw [cellsAll_length, List.length_drop]
  have hxs : (cellsAll (g.us ++ [zeroU])).length = (g.us.length + 1) * 10 := by rw [cellsAll_length, hul]
  have hrows : ∀ j, j < (g.us.length - p) * 10 → V10.cell? ⟨gg, p * 10 + j, none⟩ = (cellsAll (g.us.drop p))[j]? := by
    intro j hj
    rw [World.ownsRow.cellAt own10 _ (by omega), cellsAll_append, List.getElem?_append_left (by rw [cellsAll_length]; omega), ← cellsAll_drop, List.getElem?_drop]
  have hpart := own_part (us := g.us ++ [zeroU]) (by rw [hul]; exact own10) (p + 1) (g.us.drop p) (by rw [hul, List.length_drop]; omega)
  have hnil : (g.us ++ [zeroU]).drop (p + 1 + (g.us.drop p).length) = [] := List.drop_eq_nil_of_le (by rw [hul, List.length_drop]; omega)
  rw [hnil, List.append_nil, hul] at hpart
  obtain ⟨p1, p2⟩ := hpart
  have hl2 : ((g.us ++ [zeroU]).take (p + 1) ++ g.us.drop p).length = g.us.length + 1 := by rw [List.length_append, List.length_take, hul, List.length_drop]; omega
  have h37 := HI7.out.lt
  have ggW : ∀ b, w.heap.size ≤ b → b ≤ w3.heap.size → ¬ b = gg := by
    intro b h1 h2 e
    rcases HGG.out with h | h <;> omega
  have HGW := Lib.hid ggW
  have ge10 := (HG9.out.call hV10).turnU (us := (g.us ++ [zeroU]).take (p + 1) ++ g.us.drop p) (p2.imp (fun k _ hk => by rw [hk]; rfl)) (by
    rw [hl2]
    exact p1)
  refine list_copy2 (.tmp 124) (.tmp 131) 88 88 179 rfl rfl gg ((p + 1) * 10) _ _ ⟨gg, p * 10, none⟩ _ _ 10 (g.us.length - p) (cellsAll (g.us.drop p)) _ rfl rfl (by omega) Try.underlying88 (by kernel_rfl) ?_ hlen ?_ ?_ ?_ ?_ (fun Z => GE Z B S { g4 with us := (g.us ++ [zeroU]).take (p + 1) ++ g.us.drop p } born fv' (.slice (some ⟨gg, 0, none⟩) (g.us.length + 1) cap) bv ∧ Kp X w Z ∧ Blk Z w.heap.size #[.pointer (some ⟨S, 0, none⟩)] ∧ Blk Z (w.heap.size + 1) #[.int .i64 u.id, .int .i64 u.owner, .int .i64 u.kind, .int .i64 u.x, .int .i64 u.y, .int .i64 u.hp, .int .i64 u.does, .int .i64 u.gx, .int .i64 u.gy, .int .i64 u.target] ∧ Blk Z (w.heap.size + 1 + 1) #[.int .i64 c.player, .int .i64 c.op, .int .i64 c.id, .int .i64 c.kind, .int .i64 c.x, .int .i64 c.y, .int .i64 c.target] ∧ Blk Z w1.heap.size #[.int .i64 r.cost, .int .i64 r.hp, .int .i64 r.speed, .int .i64 r.harm, .int .i64 r.range, .int .i64 r.load] ∧ Blk Z w3.heap.size #[.int .i64 nid]) ⟨ge10, ?_, (HV9A.out.call hV10).kp p2 ?_, (HV9B.out.call hV10).kp p2 ?_, (HV9C.out.call hV10).kp p2 ?_, (HV9R.out.call hV10).kp p2 ?_, (HV9I.out.call hV10).kp p2 ?_⟩ ?_
  · exact (Nat.min_eq_right (by omega)).symm
  · intro j v hv
    have hj := (List.getElem?_eq_some_iff.1 hv).1
    rw [hlen] at hj
    rw [addr_add, hrows j hj]
    exact hv
  · intro j hj
    rw [hlen] at hj
    rw [World.ownsRow.cellAt own10 _ (by omega), List.getElem?_eq_getElem (by omega)]
    rfl
  · intro j _
    exact World.ownsRow.frozenAt own10 _
  · exact cellsAll_one _
  · exact (HB9.out.then_ hV10).trans p2 (fun c _ hc => (by rw [hc]; exact HGX.out))
  · exact ggW _ (by omega) (by omega)
  · exact ggW _ (by omega) (by omega)
  · exact ggW _ (by omega) (by omega)
  · exact ggW _ (by omega) (by have := HKR.out.lt; have := HB2W.out.size; omega)
  · exact ggW _ (by omega) (by omega)
  clear own10 hlen hxs hrows hnil p1 p2 ge10 ggW hcap1 hcap2 hcw hV10
  rintro V11 ⟨ge11, b11, vA, vB, vC, vR, vI⟩
  generalize (if cap = p + 1 then (some ⟨gg, 0, none⟩ : Option Addr) else some ⟨gg, (p + 1) * 10, none⟩) = zz
  refine wpList_nil ?_
  go_simp
  obtain ⟨us', hus'⟩ : ∃ x, (g.us ++ [zeroU]).take (p + 1) ++ g.us.drop p = x := ⟨_, rfl⟩
  rw [hus'] at ge11 hl2
  have HUS' := Lib.hid hus'
  have own11 := ge11.us
  dsimp only at own11
  rw [hl2] at own11
  have HOWN11 := Lib.hid own11
  have HL2 := Lib.hid hl2
  obtain ⟨lA, cA, -⟩ := id vA
  obtain ⟨lB, cB, -⟩ := id vB
  obtain ⟨lC, cC, -⟩ := id vC
  obtain ⟨lR, cR, -⟩ := id vR
  obtain ⟨lI, cI, -⟩ := id vI
  have gb11 := ge11.blk
  obtain ⟨lS, cS, -⟩ := id gb11
  have hcS : V11.cell? ⟨S, 5, none⟩ = some (.slice (some ⟨gg, 0, none⟩) (g.us.length + 1) cap) := by rw [cS]; rfl
  have HG11 := Lib.hid ge11
  have HVA := Lib.hid vA
  have HVB := Lib.hid vB
  have HVC := Lib.hid vC
  have HVR := Lib.hid vR
  have HVI := Lib.hid vI
  have HBV11 := Lib.hid b11
  have hpn' : (p : Int) < ((g.us.length + 1 : Nat) : Int) := by omega
  clear cS gb11 vA vB vC vR vI b11 ge11 own11 hus' hl2
  go_wp2_with fail
  haveI := Cw.ne V11
  have hcw := fun (x : Cw V11) => x.cell
  refine region_cw_tail 19 (by kernel_rfl) (by kernel_rfl) ?_
  simp only [List.take_succ_cons, List.take_zero, List.drop_succ_cons, List.drop_zero]
  repeat (go_big_quiet_step (fail))
  refine wpQuiet_nil ?_
  intro V12 hV12
  have own12 := own_kp HOWN11.out (kp_of hV12 (fun _ => False)) (fun _ _ y => y)
  rw [← HL2.out] at own12
  obtain ⟨un, hun⟩ : ∃ x : U, (⟨nid, u.owner, c.kind, c.x, c.y, r.hp, 0, 0, 0, 0, 0⟩ : U) = x := ⟨_, rfl⟩
  have hcu : cellsAll [un] = [.int .i64 nid, .int .i64 u.owner, .int .i64 c.kind, .int .i64 c.x, .int .i64 c.y, .int .i64 r.hp, .int .i64 0, .int .i64 0, .int .i64 0, .int .i64 0] := by rw [← hun]; rfl
  obtain ⟨p1, p2⟩ := own_part own12 p [un] (by rw [HL2.out, List.length_singleton]; omega)
  have hfin : us'.take p ++ [un] ++ us'.drop (p + 1) = g.us.take p ++ un :: g.us.drop p := by
    rw [← HUS'.out]
    have h1 : ((g.us ++ [zeroU]).take (p + 1) ++ g.us.drop p).take p = g.us.take p := by
      rw [List.take_append_of_le_length (by rw [List.length_take, List.length_append, List.length_singleton]; omega), List.take_take, Nat.min_eq_left (by omega), List.take_append_of_le_length hp']
    have h2 : ((g.us ++ [zeroU]).take (p + 1) ++ g.us.drop p).drop (p + 1) = g.us.drop p := by
      have hl : ((g.us ++ [zeroU]).take (p + 1)).length = p + 1 := by rw [List.length_take, List.length_append, List.length_singleton]; omega
      rw [List.drop_append_of_le_length (by omega), List.drop_eq_nil_of_le (by omega), List.nil_append]
    rw [h1, h2, List.append_assoc]
    rfl
  rw [List.length_singleton, hfin] at p1
  have hth := own_there own12 (i := p) (by rw [HL2.out]; omega)
  rw [hcu] at p1 p2
  have hl3 : (g.us.take p ++ un :: g.us.drop p).length = g.us.length + 1 := by rw [List.length_append, List.length_take, List.length_cons, List.length_drop]; omega
  have ge12 := (HG11.out.call hV12).turnU (us := g.us.take p ++ un :: g.us.drop p) (p2.imp (fun k _ hk => by rw [hk]; rfl)) (by
    rw [hl3, ← HL2.out]
    exact p1)
  have h37 := HI7.out.lt
  have ggW : ∀ b, w.heap.size ≤ b → b ≤ w3.heap.size → ¬ b = gg := HGW.out
  refine list_storeM gg (p * 10) #[.int .i64 nid, .int .i64 u.owner, .int .i64 c.kind, .int .i64 c.x, .int .i64 c.y, .int .i64 r.hp, .int .i64 0, .int .i64 0, .int .i64 0, .int .i64 0] 179 (.tmp 151) (.tmp 150) rfl rfl rfl rfl rfl hth (by kernel_rfl) (by simp [Value.oneCell']) (fun Z => GE Z B S { g4 with us := g.us.take p ++ un :: g.us.drop p } born fv' (.slice (some ⟨gg, 0, none⟩) (g.us.length + 1) cap) bv ∧ Kp X w Z ∧ Blk Z w.heap.size #[.pointer (some ⟨S, 0, none⟩)] ∧ Blk Z w3.heap.size #[.int .i64 nid]) ⟨ge12, ?_, (HVA.out.call hV12).kp p2 ?_, (HVI.out.call hV12).kp p2 ?_⟩ ?_
  · exact (HBV11.out.then_ hV12).trans p2 (fun c _ hc => (by rw [hc]; exact HGX.out))
  · exact ggW _ (by omega) (by omega)
  · exact ggW _ (by omega) (by omega)
  clear own12 hcu p1 p2 hfin hth ge12 ggW hcw hV12 cA cB cC cR cI lA lB lC lR lI hcS
  rintro V13 ⟨ge13, b13, vA, vI⟩
  have hA0 : V13.cell? ⟨w.heap.size, 0, none⟩ = some (.pointer (some ⟨S, 0, none⟩)) := by rw [vA.cell]; rfl
  have hI0 : V13.cell? ⟨w3.heap.size, 0, none⟩ = some (.int .i64 nid) := by rw [vI.cell]; rfl
  have hS6 : V13.cell? ⟨S, 6, none⟩ = some bv := by rw [ge13.blk.cell]; rfl
  have hF6 : V13.frozen? ⟨S, 6, none⟩ = false := ge13.blk.free 6
  have lA13 := vA.lt
  have lI13 := vI.lt
  have lS13 := ge13.blk.lt
  have nS : bv.ownBlock ≠ some S := fun h => ge13.sb S h rfl
  have nA : bv.ownBlock ≠ some w.heap.size := fun h => by have := HBVL.out _ h; omega
  have nI : bv.ownBlock ≠ some w3.heap.size := fun h => by have := HBVL.out _ h; omega
  have hB13 : B ≤ V13.heap.size := by have := b13.size; omega
  have HOWNB := Lib.hid ge13.bo
  have HG13 := Lib.hid ge13
  have HB13 := Lib.hid b13
  obtain ⟨i1, hi0, hz0, hz1, hz2⟩ := info_parts infoInt
  clear vA vI ge13 b13
  refine wpList_nil ?_
  go_simp
  go_wp2_with fail
  haveI := Kw.ne (fun k => bv.ownBlock = some k) V13
  have kx1 : ∀ x : Kw (fun k => bv.ownBlock = some k) V13, x.w.cell? ⟨w.heap.size, 0, none⟩ = some (.pointer (some ⟨S, 0, none⟩)) := fun x => (x.cell _ _ lA13 nA).trans hA0
  have kx2 : ∀ x : Kw (fun k => bv.ownBlock = some k) V13, x.w.cell? ⟨S, 6, none⟩ = some bv := fun x => (x.cell _ _ lS13 nS).trans hS6
  have kx3 : ∀ x : Kw (fun k => bv.ownBlock = some k) V13, x.w.cell? ⟨w3.heap.size, 0, none⟩ = some (.int .i64 nid) := fun x => (x.cell _ _ lI13 nI).trans hI0
  refine region_mix 8 [(false, 0), (false, 1), (false, 2), (false, 3), (false, 4), (false, 5), (true, 6), (true, 7)] (kcl (fun k => bv.ownBlock = some k) V13 (fun x => x.ownsRow B 3 1 bv born.length (intCells born)) (fun x x' h hb => own_kp h (kp_of hb (fun _ => False)) (fun _ _ y => y))) ⟨Kp.drew _ _, HOWNB.out⟩ (by kernel_rfl) (by kernel_rfl) ?_
  simp only [stepsOf, List.filterMap_cons, List.filterMap_nil, List.getElem?_toArray, List.getElem?_cons_zero, List.getElem?_cons_succ, Option.map_some, List.drop_succ_cons, List.drop_zero]
  repeat (refine mix_readK (fun K hK => ?_); go_simp; refine hK _ ?_; clear hK K)
  refine mix_new (fun q => .slice (some ⟨q, 0, none⟩) 1 1) #[.int .i64 nid] 3 rfl (fun w => by simp [go_sem]) (fun q => ?_)
  refine mix_append q #[.int .i64 nid] 3 (.tmp 156) (.tmp 158) 87 rfl rfl B 3 i1 _ 1 8 Try.underlying87 hi0 hz0 hz1 hz2 rfl (by omega) bv born.length (intCells born) rfl rfl HOWNB.out rfl (by simp [Value.oneCell']) (by unfold maxLen; omega) (by omega) hB13 (fun k => Iff.rfl) (fun w h => ⟨h.2.1, h.2.2.2⟩) (fun w _ h => h.1) (fun g2 cap2 => ?_)
  refine mix_nil ?_
  rintro w14 ⟨k14, own14, hgg⟩
  have gb14 := HG13.out.growB (gg := g2) (cap := cap2) (l := born ++ [nid]) k14 (by
    rw [List.length_append]
    have : intCells (born ++ [nid]) = intCells born ++ [.int .i64 nid] := by simp [intCells]
    rw [this]
    exact own14) hgg
  rw [List.length_append, List.length_singleton] at gb14
  have hb14 : Kp X w w14 := HB13.out.trans k14 (fun c _ hc => HXI.out.b c hc)
  have HG2 : Hid (X g2) := Lib.hid (hgg.elim (fun h => HXI.out.b g2 h) (fun h => HXN.out g2 (by have := HB13.out.size; omega)))
  have hS14 : w14.cell? ⟨S, 6, none⟩ = some bv := (k14.cell _ _ lS13 nS).trans hS6
  have hF14 : w14.frozen? ⟨S, 6, none⟩ = false := (k14.frozen _ _ lS13 nS).trans hF6
  iterate 2 (refine wpList_plain rfl (fun K hK => ?_); go_simp; refine hK _ _ ?_; clear hK K)
  refine list_store1 S 6 (.slice (some ⟨g2, 0, none⟩) (born.length + 1) cap2) 87 (.tmp 161) (.tmp 159) rfl rfl rfl rfl rfl (by rw [hS14]; rfl) hF14 rfl (by kernel_rfl) (fun Z => GE Z B S { g4 with us := g.us.take p ++ un :: g.us.drop p } (born ++ [nid]) fv' (.slice (some ⟨gg, 0, none⟩) (g.us.length + 1) cap) (.slice (some ⟨g2, 0, none⟩) (born.length + 1) cap2) ∧ Kp X w Z) ⟨gb14, hb14.andset ⟨S, 6, none⟩ _ HXI.out.s⟩ ?_
  rintro V15 ⟨ge15, b15⟩
  go_wp2_with fail
  go_end0
  refine ⟨rfl, b15, fv', .slice (some ⟨gg, 0, none⟩) (g.us.length + 1) cap, .slice (some ⟨g2, 0, none⟩) (born.length + 1) cap2, ?_, HXI.out.s, fun c hc => HXI.out.f c (HFV'.out c hc), fun c hc => (by have h2 : gg = c := Option.some.inj (show some gg = some c from hc); rw [← h2]; exact HGX.out), fun c hc => (by have h2 : g2 = c := Option.some.inj (show some g2 = some c from hc); rw [← h2]; exact HG2.out)⟩
  have hcan2 : canBuild g i c.kind c.x c.y := HCB.out.2 ⟨(by simp), c2, C3.out, (by simp), (by simp), by omega, by omega, c8, HCAN.out⟩
  have hins : g.us.take p ++ un :: g.us.drop p = insU g.us un := by
    refine (ins_at HG.out.sorted (fun v hv => ?_) hp' (fun h => ?_) (fun h => ?_)).symm
    · rw [← hun]; exact HN3.out v hv
    · have := HP1.out h
      rw [← hun]; exact of_decide_eq_true this
    · have := HP2.out h
      rw [← hun]
      have := of_decide_eq_false this
      dsimp only
      omega
  have hbu : builtU g i c.kind c.x c.y = un := by
    rw [← hun]
    unfold builtU
    rw [HNID.out, HD.out, HOLD.out, HR.out]
    rfl
  have hgame : (buildsF (g, born) i c.kind c.x c.y) = ({ g4 with us := g.us.take p ++ un :: g.us.drop p }, born ++ [nid]) := by
    unfold buildsF
    rw [if_pos hcan2]
    show (built g i c.kind c.x c.y, born ++ [newId g]) = _
    rw [HNID.out]
    unfold built
    rw [hbu, HD.out, HOLD.out, HR.out, hins, ← HG4.out]
    unfold pay
    split <;> rfl
  rw [hgame]
  exact ge15
end Go.Proofs.Ytlfljlhppigejaa
