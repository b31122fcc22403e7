/-
  The walk of elder.command.
-/
import Derived.Test.YtlfljlhppigejaaElderCmd
import Derived.Deep.DeepCutAuto
namespace Go.Proofs.Ytlfljlhppigejaa
open Go.RowKit
attribute [local go_sem] qOne qAt qUp qOneK

/-- A command passed over. -/
theorem cmd_skip {s : GB} {c : Cm} (h : ixOf s.1.us c.id < 0 ∨ (s.1.us.getD (ixOf s.1.us c.id).toNat zeroU).owner ≠ c.player) : cmdF s c = s := by
  unfold cmdF
  rw [if_pos h]

theorem cmd_do {s : GB} {c : Cm} {k : Nat} {u : U} (h : ixOf s.1.us c.id = k) (hu : s.1.us.getD k zeroU = u) (ho : u.owner = c.player) : cmdF s c =
    if c.op = 1 then withUs s (goesF s.1.new s.1.us k c.x c.y)
    else if c.op = 2 then withUs s (aimsF s.1.new s.1.us k c.target 2)
    else if c.op = 3 then withUs s (aimsF s.1.new s.1.us k c.target 3)
    else if c.op = 4 then buildsF s k c.kind c.x c.y
    else if c.op = 5 then withUs s (s.1.us.set k (tellU u 0 0 0 0))
    else s := by
  unfold cmdF
  rw [h, Int.toNat_natCast, hu, if_neg]
  rintro (h1 | h1)
  · omega
  · exact h1 ho
theorem goes_yes {n : Bool} {us : List U} {k : Nat} {u : U} {x y : Int} (hu : us.getD k zeroU = u) (h1 : onB x y = true) (h2 : 0 < (ruleOf n u.kind).speed) : goesF n us k x y = us.set k (tellU u 1 x y 0) := by
  unfold goesF
  rw [hu, if_pos ⟨h1, h2⟩]
theorem goes_no {n : Bool} {us : List U} {k : Nat} {u : U} {x y : Int} (hu : us.getD k zeroU = u) (h : ¬ (onB x y = true ∧ 0 < (ruleOf n u.kind).speed)) : goesF n us k x y = us := by
  unfold goesF
  rw [hu, if_neg h]
theorem aims_yes {n : Bool} {us : List U} {k j : Nat} {u v : U} {t d : Int} (hu : us.getD k zeroU = u) (hj : ixOf us t = j) (hv : us.getD j zeroU = v) (hd : 0 < d) (hm : mayDo n u v = d) : aimsF n us k t d = us.set k (tellU u d 0 0 t) := by
  unfold aimsF
  rw [hj, Int.toNat_natCast, hu, hv, if_pos ⟨by omega, hd, hm⟩]
theorem aims_no {n : Bool} {us : List U} {k j : Nat} {u v : U} {t d : Int} (hu : us.getD k zeroU = u) (hj : ixOf us t = j) (hv : us.getD j zeroU = v) (hm : ¬ mayDo n u v = d) : aimsF n us k t d = us := by
  unfold aimsF
  rw [hj, Int.toNat_natCast, hu, hv, if_neg (fun h => hm h.2.2)]
theorem aims_nobody {n : Bool} {us : List U} {k : Nat} {t d : Int} (hj : ixOf us t < 0) : aimsF n us k t d = us := by
  unfold aimsF
  rw [if_neg (fun h => by omega)]
theorem with_same (g : G) (born : List Int) : withUs (g, born) g.us = (g, born) := rfl

set_option maxHeartbeats 12800000 in
set_option maxRecDepth 100000 in
theorem command_any (w : World) (B S : Nat) (g : G) (born : List Int) (fv ev bv : Value) (h : GE w B S g born fv ev bv) (hB : B ≤ w.heap.size) (hg : Right g) (hold : g.new = false) (hbn : born.length ≤ 1000) (c : Cm) (X : Nat → Prop) (hX : InX X S fv ev bv) (hXn : ∀ b, w.heap.size ≤ b → X b) :
    Calls Try.prog 117 #[.pointer (some ⟨S, 0, none⟩), .agg #[.int .i64 c.player, .int .i64 c.op, .int .i64 c.id, .int .i64 c.kind, .int .i64 c.x, .int .i64 c.y, .int .i64 c.target]] w fun e w' => e = .returned (.tuple #[]) ∧ GoneX w B S X (cmdF (g, born) c) e w' := by
  have HXI := Lib.hid hX
  have HXN := Lib.hid hXn
  clear hX hXn
  have hfew := hg.few
  have hss := byId_iff.1 hg.sorted
  obtain ⟨ua, uc, rfl, -, hrow, hua⟩ := URow.of_own h.us
  have hS := h.blk.lt
  have hevL : ∀ b, (Value.slice ua g.us.length uc).ownBlock = some b → b < w.heap.size := fun b hb => (World.ownsRow.lt h.us b hb).2
  have HEVL := Lib.hid hevL
  obtain ⟨W, hW⟩ : ∃ W, w.alloc (.cells #[.int .i64 c.player, .int .i64 c.op, .int .i64 c.id, .int .i64 c.kind, .int .i64 c.x, .int .i64 c.y, .int .i64 c.target] 99) = W := ⟨_, rfl⟩
  have hbW : Below w.heap.size w W := by rw [← hW]; exact (Below.refl _ _).alloc (Nat.le_refl _) _
  have kC : Blk W w.heap.size #[.int .i64 c.player, .int .i64 c.op, .int .i64 c.id, .int .i64 c.kind, .int .i64 c.x, .int .i64 c.y, .int .i64 c.target] := by rw [← hW]; exact Blk.new w _ _
  have ge := h.call hbW
  have gb := ge.blk
  obtain ⟨lC, cC, -⟩ := id kC
  obtain ⟨lS, cS, -⟩ := id gb
  have HW := Lib.hid hbW
  have HKC := Lib.hid kC
  have GEW := Lib.hid ge
  have HU : Hid (URow false W.heap.size W ua g.us) := Lib.hid ((hrow.below hbW).mono hbW.size)
  have hS5 : W.cell? ⟨S, 5, none⟩ = some (.slice ua g.us.length uc) := by rw [cS 5]; rfl
  have HG := Lib.hid hg
  have HSS := Lib.hid hss
  have HOLD := Lib.hid hold
  clear h hrow hua hevL hbW kC ge gb cS hg hss hold
  haveI := Cw.ne W
  have hcw := fun (x : Cw W) => x.cell
  obtain ⟨ix, hix⟩ : ∃ i, ixOf g.us c.id = i := ⟨_, rfl⟩
  have HIX := Lib.hid hix
  go_enter Try.func117, Try.ntmps117
  go_wp2_with fail
  clear hix
  refine region_cw (by kernel_rfl) (by kernel_rfl) ?_
  repeat (go_big_quiet_step ((go_at_call 159; rename_i xx; refine Calls.cw (at_any ua g.us.length uc g.us c.id rfl (by omega) HSS.out _ ((HU.out.below xx.below).mono xx.le)))))
  refine wpQuiet_nil ?_
  intro V hV
  rw [HIX.out]
  have HWV : Hid (Below w.heap.size w V) := Lib.hid (HW.out.trans (hV.mono HW.out.size))
  have hszW := HW.out.size
  have kCV := HKC.out.call hV
  have geV := GEW.out.call hV
  have HUV : Hid (URow false V.heap.size V ua g.us) := Lib.hid ((HU.out.below hV).mono hV.size)
  obtain ⟨lCV, cCV, -⟩ := id kCV
  have gbV := geV.blk
  obtain ⟨lSV, cSV, -⟩ := id gbV
  have hS5V : V.cell? ⟨S, 5, none⟩ = some (.slice ua g.us.length uc) := by rw [cSV 5]; rfl
  have HCV := Lib.hid kCV
  have GEV := Lib.hid geV
  have HV := Lib.hid hV
  clear hcw cC hS5 hV kCV geV cSV gbV
  haveI := Cw.ne V
  have hcw := fun (x : Cw V) => x.cell
  have SKIP : Hid (∀ (e : Ending) (w2 : World), Below V.heap.size V w2 → (ix < 0 ∨ (g.us.getD ix.toNat zeroU).owner ≠ c.player) → GoneX w B S X (cmdF (g, born) c) e w2) := Lib.hid (fun e w2 hb2 hn => by
    rw [cmd_skip (by rw [HIX.out]; exact hn)]
    exact ⟨(kp_of HWV.out X).then_ hb2, fv, _, bv, GEV.out.call hb2, HXI.out⟩)
  by_cases h0 : ix < 0
  · have d0 : decide (ix < 0) = true := decide_eq_true h0
    go_wp2_with fail
    refine region_cw (by kernel_rfl) (by kernel_rfl) ?_
    repeat (go_big_quiet_step (fail))
    refine wpQuiet_nil ?_
    intro V2 hV2
    go_wp2_with fail
    refine bodyPost_ret (v := .tuple #[]) (by simp [results, Try.results117]) rfl ?_
    exact ⟨rfl, SKIP.out _ _ hV2 (Or.inl h0)⟩
  obtain ⟨k, u, hk1, hk2, hk3, -, hk5⟩ := (ix_find g.us c.id).resolve_left (fun hh => h0 (by rw [← HIX.out]; exact hh.1))
  rw [HIX.out] at hk1
  subst hk1
  have d0 : decide (((k : Nat) : Int) < 0) = false := decide_eq_false h0
  obtain ⟨gg, o0, hua, hgg, q0, q1, q2, q3, q4, q5, q6, q7, q8, q9⟩ := HUV.out.getE k hk2 u hk3
  subst hua
  have hk0 : (0 : Int) ≤ (k : Int) := by omega
  have hkn : (k : Int) < (g.us.length : Int) := by omega
  by_cases h1 : u.owner = c.player
  case neg =>
    have d1 : (u.owner != c.player) = true := by simp [h1]
    go_wp2_with fail
    refine region_cw (by kernel_rfl) (by kernel_rfl) ?_
    repeat (go_big_quiet_step (fail))
    refine wpQuiet_nil ?_
    intro V2 hV2
    go_wp2_with fail
    refine bodyPost_ret (v := .tuple #[]) (by simp [results, Try.results117]) rfl ?_
    exact ⟨rfl, SKIP.out _ _ hV2 (Or.inr (by rw [Int.toNat_natCast, hk3]; exact h1))⟩
  have d1 : (u.owner != c.player) = false := by simp [h1]
  go_wp2_with fail
  refine region_cw (by kernel_rfl) (by kernel_rfl) ?_
  repeat (go_big_quiet_step (fail))
  refine wpQuiet_nil ?_
  intro V2 hV2
  have ho0 : o0 = 0 := by
    rcases GEV.out.us.2 with ⟨e1, -⟩ | ⟨g2, c2, cur, e1, -⟩
    · cases e1
    · cases e1; rfl
  subst ho0
  rw [Nat.zero_add] at q0 q1 q2 q3 q4 q5 q6 q7 q8 q9
  have HW2 : Hid (Below w.heap.size w V2) := Lib.hid (HWV.out.trans (hV2.mono HWV.out.size))
  have hggw : gg < w.heap.size := HEVL.out gg rfl
  have hszV := HWV.out.size
  have GE2 := Lib.hid (GEV.out.call hV2)
  have HC2 := Lib.hid (HCV.out.call hV2)
  have hs5 : V2.cell? ⟨S, 5, none⟩ = some (.slice (some ⟨gg, 0, none⟩) g.us.length uc) := (hV2.cell (p := ⟨S, 5, none⟩) lSV).trans hS5V
  have hq2 : V2.cell? ⟨gg, k * 10 + 2, none⟩ = some (.int .i64 u.kind) := (hV2.cell (p := ⟨gg, _, none⟩) (by show gg < _; omega)).trans q2
  have hsz2 := hV2.size
  have lS2 : S < V2.heap.size := by omega
  have lg2 : gg < V2.heap.size := by omega
  have HUV2 : Hid (URow false V2.heap.size V2 (some ⟨gg, 0, none⟩) g.us) := Lib.hid ((HUV.out.below hV2).mono hV2.size)
  clear hcw q0 q1 q2 q3 q4 q5 q6 q7 q8 q9 hS5V cCV d0 d1 hV2
  have HK5 := Lib.hid hk5
  have HK3 := Lib.hid hk3
  have HO1 := Lib.hid h1
  clear hk5 hk3 h1
  go_wp2_with fail
  refine (rElder u.kind _).mono ?_
  rintro e w1 ⟨rfl, b1⟩
  obtain ⟨r, hrr⟩ : ∃ r, ruleOf false u.kind = r := ⟨_, rfl⟩
  obtain ⟨rb, hrb⟩ : ∃ b, isRule false u.kind = b := ⟨_, rfl⟩
  rw [hrr, hrb]
  have HR := Lib.hid hrr
  clear hrr hrb
  have hbA : Below V2.heap.size V2 (V2.alloc (.cells #[.pointer (some ⟨gg, k * 10, none⟩)] 228)) := (Below.refl _ _).alloc (Nat.le_refl _) _
  have k5 := (Blk.new V2 #[.pointer (some ⟨gg, k * 10, none⟩)] 228).call b1
  have hb1' : Below V2.heap.size V2 w1 := hbA.trans (b1.mono (by simp))
  have lw1 : V2.heap.size < w1.heap.size := k5.lt
  have hz := fun (T : TypeId) => hb1'.alloc hb1'.size (.cells #[.int .i64 r.cost, .int .i64 r.hp, .int .i64 r.speed, .int .i64 r.harm, .int .i64 r.range, .int .i64 r.load] T)
  have HZ := Lib.hid hz
  have HK5' := Lib.hid k5
  have HB1 := Lib.hid hb1'
  clear hbA k5 hb1' hz b1 hq2
  go_upto_region 6 with fail
  refine gen_world (fun Z => GE Z B S g born fv (.slice (some ⟨gg, 0, none⟩) g.us.length uc) bv ∧ Below w.heap.size w Z ∧ Below V2.heap.size V2 Z ∧ Blk Z w.heap.size #[.int .i64 c.player, .int .i64 c.op, .int .i64 c.id, .int .i64 c.kind, .int .i64 c.x, .int .i64 c.y, .int .i64 c.target] ∧ Blk Z V2.heap.size #[.pointer (some ⟨gg, k * 10, none⟩)] ∧ Blk Z w1.heap.size #[.int .i64 r.cost, .int .i64 r.hp, .int .i64 r.speed, .int .i64 r.harm, .int .i64 r.range, .int .i64 r.load]) ⟨GE2.out.call (HZ.out _), HW2.out.trans ((HZ.out _).mono (by have := HW2.out.size; omega)), HZ.out _, HC2.out.call (HZ.out _), HK5'.out.alloc _, Blk.new w1 _ _⟩ ?_
  rintro Z ⟨geZ, bZ, bX, zC, zE, zR⟩
  have HDO : Hid _ := Lib.hid (cmd_do (s := (g, born)) (c := c) HIX.out HK3.out HO1.out)
  rw [HOLD.out] at HDO
  have gbZ := geZ.blk
  obtain ⟨lC, cC, -⟩ := id zC
  obtain ⟨lE, cE, -⟩ := id zE
  obtain ⟨lR, cR, -⟩ := id zR
  obtain ⟨lS, cS, -⟩ := id gbZ
  have hS5 : Z.cell? ⟨S, 5, none⟩ = some (.slice (some ⟨gg, 0, none⟩) g.us.length uc) := by rw [cS 5]; rfl
  have HZC := Lib.hid zC
  have HZE := Lib.hid zE
  have HZR := Lib.hid zR
  have HGZ := Lib.hid geZ
  have HBZ := Lib.hid bZ
  have HBX := Lib.hid bX
  have hszZ := bZ.size
  have lgZ : gg < Z.heap.size := by omega
  have nE : V2.heap.size ≠ gg := by omega
  have hmZ := Nat.le_trans hB hszZ
  clear zC zE zR geZ bZ bX cS gbZ hs5
  have FIN : Hid (∀ (e : Ending) (w2 : World), Below Z.heap.size Z w2 → cmdF (g, born) c = (g, born) → GoneX w B S X (cmdF (g, born) c) e w2) := Lib.hid (fun e w2 hb2 hn => by
    rw [hn]
    exact ⟨(kp_of HBZ.out X).then_ hb2, fv, _, bv, HGZ.out.call hb2, HXI.out⟩)
  have TELL : Hid (∀ (Y : World), Below Z.heap.size Z Y → ∀ d : Int, Calls Try.prog 160 #[.int .i64 d, .pointer (some ⟨V2.heap.size, 0, none⟩)] Y fun e w' => e = .returned (.tuple #[]) ∧ GE w' B S { g with us := g.us.set k (tellU u d 0 0 0) } born fv (.slice (some ⟨gg, 0, none⟩) g.us.length uc) bv ∧ Kp X w w' ∧ Blk w' w.heap.size #[.int .i64 c.player, .int .i64 c.op, .int .i64 c.id, .int .i64 c.kind, .int .i64 c.x, .int .i64 c.y, .int .i64 c.target] ∧ Blk w' V2.heap.size #[.pointer (some ⟨gg, k * 10, none⟩)] ∧ Blk w' w1.heap.size #[.int .i64 r.cost, .int .i64 r.hp, .int .i64 r.speed, .int .i64 r.harm, .int .i64 r.range, .int .i64 r.load]) := Lib.hid (fun Y hY d => by
    have geY := HGZ.out.call hY
    have own := geY.us
    have kE := HZE.out.call hY
    have hsY := hY.size
    refine (tell_any V2.heap.size gg (k * 10) d Y kE.lt (by omega) (by rw [kE.cell]; rfl) (by omega) (fun j hj => ?_) (fun j _ => World.ownsRow.frozenAt own _)).mono ?_
    · have hl : (cellsAll g.us).length = g.us.length * 10 := cellsAll_length g.us
      exact ⟨_, (World.ownsRow.cellAt own (k * 10 + j) (by omega)).trans (List.getElem?_eq_getElem (by omega))⟩
    · rintro e w' ⟨rfl, n, rfl⟩
      have hbn := below_drewN (Below.refl Y.heap.size Y) n
      have ge := geY.call hbn
      have hkp := kp_tell (Y.drewN n) gg (k * 10 + 6) (k * 10 + 7) (k * 10 + 8) (k * 10 + 9) (.int .i64 d) (.int .i64 0) (.int .i64 0) (.int .i64 0)
      refine ⟨rfl, ge.tell HK5.out d, ?_, (((HZC.out.call hY).call hbn).kp hkp (by omega)), ((kE.call hbn).kp hkp (by omega)), (((HZR.out.call hY).call hbn).kp hkp (by omega))⟩
      exact (((kp_of HBZ.out X).then_ hY).then_ hbn).trans hkp (fun c _ hc => (by rw [hc]; exact HXI.out.e gg rfl)))
  by_cases o1 : c.op = 1
  · have e1 : (c.op == 1) = true := by simp [o1]
    rw [if_pos o1] at HDO
    have HDO := Lib.hid HDO.out
    clear o1
    go_wp2_with fail
    refine (rOn c.x c.y _).mono ?_
    rintro e w' ⟨rfl, rfl⟩
    by_cases hon : onB c.x c.y = true
    · rw [hon]
      by_cases hsp : 0 < r.speed
      · have HDO2 : Hid (cmdF (g, born) c = withUs (g, born) (g.us.set k (tellU u 1 c.x c.y 0))) := Lib.hid (by
          refine HDO.out.trans ?_
          show withUs (g, born) (goesF false g.us k c.x c.y) = _
          rw [goes_yes HK3.out hon (by rw [HR.out]; exact hsp)])
        go_wp2_with fail
        refine (TELL.out _ (Below.refl _ _) 1).mono ?_
        rintro e w5 ⟨rfl, ge5, b5, z5C, z5E, z5R⟩
        have own5 := ge5.us
        have hul : (g.us.set k (tellU u 1 0 0 0)).length = g.us.length := by simp
        dsimp only at own5
        rw [hul] at own5
        have hl : (cellsAll (g.us.set k (tellU u 1 0 0 0))).length = g.us.length * 10 := by rw [cellsAll_length, hul]
        obtain ⟨u7, q7⟩ : ∃ u7, w5.cell? ⟨gg, k * 10 + 7, none⟩ = some u7 := ⟨_, (World.ownsRow.cellAt own5 _ (by omega)).trans (List.getElem?_eq_getElem (by omega))⟩
        obtain ⟨u8, q8⟩ : ∃ u8, w5.cell? ⟨gg, k * 10 + 8, none⟩ = some u8 := ⟨_, (World.ownsRow.cellAt own5 _ (by omega)).trans (List.getElem?_eq_getElem (by omega))⟩
        have f7 : w5.frozen? ⟨gg, k * 10 + 7, none⟩ = false := World.ownsRow.frozenAt own5 _
        have f8 : w5.frozen? ⟨gg, k * 10 + 8, none⟩ = false := World.ownsRow.frozenAt own5 _
        have x5 : w5.cell? ⟨V2.heap.size, 0, none⟩ = some (.pointer (some ⟨gg, k * 10, none⟩)) := by rw [z5E.cell]; rfl
        have x4 : w5.cell? ⟨w.heap.size, 4, none⟩ = some (.int .i64 c.x) := by rw [z5C.cell]; rfl
        have x6 : w5.cell? ⟨w.heap.size, 5, none⟩ = some (.int .i64 c.y) := by rw [z5C.cell]; rfl
        have n1 : gg ≠ V2.heap.size := by omega
        have n2 : gg ≠ w.heap.size := by omega
        have G5 := Lib.hid ge5
        have B5 := Lib.hid b5
        clear own5 hul hl z5C z5E z5R ge5 b5 cC cE cR hS5 lC lE lR lS
        go_wp2_with fail
        go_region_held3 (fun w' => w'.cell? ⟨V2.heap.size, 0, none⟩ = some (.pointer (some ⟨gg, k * 10, none⟩)) ∧ w'.cell? ⟨w.heap.size, 4, none⟩ = some (.int .i64 c.x) ∧ w'.cell? ⟨w.heap.size, 5, none⟩ = some (.int .i64 c.y)) (go_keep) (fail)
        go_end0
        have hdr : Below w5.heap.size w5 w5.drew := (Below.refl _ _).drew
        have p1 := (G5.out.call hdr).poke rfl (k := k) (by simpa using hk2) (j := 7) (by decide) (v := .int .i64 c.x) (u' := tellU u 1 c.x 0 0) (by rw [getD_lt (by simpa using hk2)]; simp [tellU, cellsE])
        dsimp only at p1
        rw [List.set_set] at p1
        have p2 := p1.poke rfl (k := k) (by simpa using hk2) (j := 8) (by decide) (v := .int .i64 c.y) (u' := tellU u 1 c.x c.y 0) (by rw [getD_lt (by simpa using hk2)]; simp [tellU, cellsE])
        dsimp only at p2
        rw [List.set_set] at p2
        refine ⟨rfl, ?_⟩
        rw [HDO2.out]
        exact ⟨((B5.out.then_ hdr).andset ⟨gg, k * 10 + 7, none⟩ _ (HXI.out.e gg rfl)).andset ⟨gg, k * 10 + 8, none⟩ _ (HXI.out.e gg rfl), fv, _, bv, p2, HXI.out⟩
      · go_wp2_with fail
        go_end0
        refine ⟨rfl, FIN.out _ _ (Below.refl _ _) ?_⟩
        refine HDO.out.trans ?_
        show withUs (g, born) (goesF false g.us k c.x c.y) = _
        rw [goes_no HK3.out (fun hh => by have h2 := hh.2; rw [HR.out] at h2; omega)]
        exact with_same g born
    · have hon' : onB c.x c.y = false := by simpa using hon
      rw [hon']
      go_wp2_with fail
      go_end0
      refine ⟨rfl, FIN.out _ _ (Below.refl _ _) ?_⟩
      refine HDO.out.trans ?_
      show withUs (g, born) (goesF false g.us k c.x c.y) = _
      rw [goes_no HK3.out (fun hh => hon hh.1)]
      exact with_same g born
  by_cases o2 : c.op = 2
  · skip; rw [if_neg o1] at HDO
    have e1 : (c.op == 2) = true := by simp [o2]
    skip; have e10 : (c.op == 1) = false := (by simp [o1])
    rw [if_pos o2] at HDO
    have HDO := Lib.hid HDO.out
    have HOP := Lib.hid o2
    obtain ⟨jx, hjx⟩ : ∃ j, ixOf g.us c.target = j := ⟨_, rfl⟩
    have HJX := Lib.hid hjx
    have HUZ : Hid (URow false Z.heap.size Z (some ⟨gg, 0, none⟩) g.us) := Lib.hid ((HUV2.out.below HBX.out).mono HBX.out.size)
    clear hjx o2
    haveI := Cw.ne Z
    have hcw := fun (x : Cw Z) => x.cell
    go_wp2_with fail
    refine region_cw (by kernel_rfl) (by kernel_rfl) ?_
    repeat (go_big_quiet_step ((go_at_call 159; rename_i xx; refine Calls.cw (at_any (some ⟨gg, 0, none⟩) g.us.length uc g.us c.target rfl (by omega) HSS.out _ ((HUZ.out.below xx.below).mono xx.le)))))
    refine wpQuiet_nil ?_
    intro Y hY
    rw [HJX.out]
    have hsY := hY.size
    have m0 := MapOf.new (P := Try.prog) (k := 3) (emb := Value.int .i64) (ok := fun a => (Lit.int .i64 a).wf = true) Y
    obtain ⟨y1, r1, m1, t1⟩ := m0.put (intKeys (by kernel_rfl)) (t := 202) (e := 3) (by kernel_rfl) (by unfold maxLen; omega) 2 (by decide) (.int .i64 2)
    obtain ⟨y2, r2, m2, t2⟩ := m1.put (intKeys (by kernel_rfl)) (t := 202) (e := 3) (by kernel_rfl) (by unfold maxLen; omega) 3 (by decide) (.int .i64 3)
    have r3 := m2.get (intKeys (by kernel_rfl)) (t := 202) (e := 3) (by kernel_rfl) (z := .int .i64 0) (by kernel_rfl) c.op (by rw [HOP.out]; decide)
    have hv3 : ((if c.op = 3 then some (Value.int .i64 3) else if c.op = 2 then some (Value.int .i64 2) else none).getD (.int .i64 0)) = .int .i64 2 := by rw [HOP.out]; rfl
    rw [hv3] at r3
    have hby : Below Y.heap.size Y y2 := Below.turned (Below.turned ((Below.refl Y.heap.size Y).alloc (Nat.le_refl _) (.map #[] 0)) t1 (Nat.le_refl _)) t2 (Nat.le_refl _)
    have hZy : Below Z.heap.size Z y2 := hY.trans (hby.mono hsY)
    have HZY := Lib.hid hZy
    have kC2 := HZC.out.call hZy
    have kCY := HZC.out.call hY
    obtain ⟨lC2, cC2, -⟩ := id kC2
    obtain ⟨lCY, cCY, -⟩ := id kCY
    have hmm := @run_makeMap Try.prog
    clear hcw cC cE cR hS5 hv3 m0 m1 m2 t1 t2 kC2 kCY hby hZy
    go_upto_region 15 with fail
    refine gen_world (fun Y3 => Below Z.heap.size Z Y3) HZY.out ?_
    intro Y3 hY3
    have kE3 := HZE.out.call hY3
    have kC3 := HZC.out.call hY3
    have ge3 := HGZ.out.call hY3
    have gb3 := ge3.blk
    obtain ⟨lE3, cE3, -⟩ := id kE3
    obtain ⟨lC3, cC3, -⟩ := id kC3
    obtain ⟨lS3, cS3, -⟩ := id gb3
    have hS53 : Y3.cell? ⟨S, 5, none⟩ = some (.slice (some ⟨gg, 0, none⟩) g.us.length uc) := by rw [cS3 5]; rfl
    have hU3 : URow false Y3.heap.size Y3 (some ⟨gg, 0, none⟩) g.us := (HUZ.out.below hY3).mono hY3.size
    have hl3 := hY3.size
    have hggY : gg < Y3.heap.size := by omega
    have HU3 := Lib.hid hU3
    have HY3 := Lib.hid hY3
    have HG3 := Lib.hid ge3
    clear kE3 kC3 ge3 gb3 cS3 hU3 hY3 cC2 cCY lC2 lCY r1 r2 r3 hmm HZY
    haveI := Cw.ne Y3
    have hcw := fun (x : Cw Y3) => x.cell
    by_cases j0 : jx < 0
    · have d0 : decide (0 ≤ jx) = false := decide_eq_false (by omega)
      refine region_cw (by kernel_rfl) (by kernel_rfl) ?_
      repeat (go_big_quiet_step (fail))
      refine wpQuiet_nil ?_
      intro X2 hX2
      go_wp2_with fail
      go_end0
      refine ⟨rfl, FIN.out _ _ (HY3.out.trans (hX2.mono HY3.out.size)) ?_⟩
      refine HDO.out.trans ?_
      show withUs (g, born) (aimsF false g.us k c.target 2) = _
      rw [aims_nobody (by rw [HJX.out]; exact j0)]
      exact with_same g born
    obtain ⟨j, v, hj1, hj2, hj3, -, -⟩ := (ix_find g.us c.target).resolve_left (fun hh => j0 (by rw [← HJX.out]; exact hh.1))
    rw [HJX.out] at hj1
    subst hj1
    have d0 : decide (0 ≤ ((j : Nat) : Int)) = true := decide_eq_true (by omega)
    have hj0 : (0 : Int) ≤ (j : Int) := by omega
    have hjn : (j : Int) < (g.us.length : Int) := by omega
    obtain ⟨_, _, ea, -, p0, p1, p2, p3, p4, p5, p6, p7, p8, p9⟩ := HU3.out.getE j hj2 v hj3
    cases ea
    obtain ⟨_, _, ea, -, q0, q1, q2, q3, q4, q5, q6, q7, q8, q9⟩ := HU3.out.getE k hk2 u HK3.out
    cases ea
    rw [Nat.zero_add] at p0 p1 p2 p3 p4 p5 p6 p7 p8 p9 q0 q1 q2 q3 q4 q5 q6 q7 q8 q9
    have HJ3 := Lib.hid hj3
    clear hj3
    refine region_cw (by kernel_rfl) (by kernel_rfl) ?_
    repeat (go_big_quiet_step ((go_at_call 161; refine Calls.cw (may_any u v _))))
    obtain ⟨m, hm⟩ : ∃ m, mayDo false u v = m := ⟨_, rfl⟩
    rw [hm]
    have HM := Lib.hid hm
    clear hm
    by_cases mw : m = 2
    case neg =>
      have d1 : (m == 2) = false := by simp [mw]
      have MW := Lib.hid mw
      clear mw
      repeat (go_big_quiet_step (fail))
      refine wpQuiet_nil ?_
      intro X2 hX2
      go_wp2_with fail
      go_end0
      refine ⟨rfl, FIN.out _ _ (HY3.out.trans (hX2.mono HY3.out.size)) ?_⟩
      refine HDO.out.trans ?_
      show withUs (g, born) (aimsF false g.us k c.target 2) = _
      rw [aims_no HK3.out HJX.out HJ3.out (by rw [HM.out]; exact MW.out)]
      exact with_same g born
    have d1 : (m == 2) = true := by simp [mw]
    have MW := Lib.hid mw
    clear mw
    repeat (go_big_quiet_step (fail))
    refine wpQuiet_nil ?_
    intro X2 hX2
    have HX : Hid (Below Z.heap.size Z X2) := Lib.hid (HY3.out.trans (hX2.mono HY3.out.size))
    clear hcw p0 p1 p2 p3 p4 p5 p6 p7 p8 p9 q0 q1 q2 q3 q4 q5 q6 q7 q8 q9 cE3 cC3 hS53 lE3 lC3 lS3 hX2
    go_wp2_with fail
    refine (TELL.out _ HX.out 2).mono ?_
    rintro e w5 ⟨rfl, ge5, b5, z5C, z5E, z5R⟩
    have own5 := ge5.us
    have hul : (g.us.set k (tellU u 2 0 0 0)).length = g.us.length := by simp
    dsimp only at own5
    rw [hul] at own5
    have hl : (cellsAll (g.us.set k (tellU u 2 0 0 0))).length = g.us.length * 10 := by rw [cellsAll_length, hul]
    obtain ⟨u9, q9⟩ : ∃ u9, w5.cell? ⟨gg, k * 10 + 9, none⟩ = some u9 := ⟨_, (World.ownsRow.cellAt own5 _ (by omega)).trans (List.getElem?_eq_getElem (by omega))⟩
    have f9 : w5.frozen? ⟨gg, k * 10 + 9, none⟩ = false := World.ownsRow.frozenAt own5 _
    have x5 : w5.cell? ⟨V2.heap.size, 0, none⟩ = some (.pointer (some ⟨gg, k * 10, none⟩)) := by rw [z5E.cell]; rfl
    have x6 : w5.cell? ⟨w.heap.size, 6, none⟩ = some (.int .i64 c.target) := by rw [z5C.cell]; rfl
    have n1 : gg ≠ V2.heap.size := by omega
    have n2 : gg ≠ w.heap.size := by omega
    have G5 := Lib.hid ge5
    have B5 := Lib.hid b5
    clear own5 hul hl z5C z5E z5R ge5 b5
    go_wp2_with fail
    go_end0
    have p1 := G5.out.poke rfl (k := k) (by simpa using hk2) (j := 9) (by decide) (v := .int .i64 c.target) (u' := tellU u 2 0 0 c.target) (by rw [getD_lt (by simpa using hk2)]; simp [tellU, cellsE])
    dsimp only at p1
    rw [List.set_set] at p1
    refine ⟨rfl, ?_⟩
    rw [HDO.out]
    refine ⟨B5.out.andset ⟨gg, k * 10 + 9, none⟩ _ (HXI.out.e gg rfl), fv, .slice (some ⟨gg, 0, none⟩) g.us.length uc, bv, ?_, HXI.out⟩
    show GE _ B S { g with us := aimsF false g.us k c.target 2 } born _ _ _
    rw [aims_yes HK3.out HJX.out HJ3.out (by omega) (HM.out.trans MW.out)]
    exact p1

  by_cases o3 : c.op = 3
  · skip; rw [if_neg o1] at HDO; rw [if_neg o2] at HDO
    have e1 : (c.op == 3) = true := by simp [o3]
    skip; have e10 : (c.op == 1) = false := (by simp [o1]); have e20 : (c.op == 2) = false := (by simp [o2])
    rw [if_pos o3] at HDO
    have HDO := Lib.hid HDO.out
    have HOP := Lib.hid o3
    obtain ⟨jx, hjx⟩ : ∃ j, ixOf g.us c.target = j := ⟨_, rfl⟩
    have HJX := Lib.hid hjx
    have HUZ : Hid (URow false Z.heap.size Z (some ⟨gg, 0, none⟩) g.us) := Lib.hid ((HUV2.out.below HBX.out).mono HBX.out.size)
    clear hjx o3
    haveI := Cw.ne Z
    have hcw := fun (x : Cw Z) => x.cell
    go_wp2_with fail
    refine region_cw (by kernel_rfl) (by kernel_rfl) ?_
    repeat (go_big_quiet_step ((go_at_call 159; rename_i xx; refine Calls.cw (at_any (some ⟨gg, 0, none⟩) g.us.length uc g.us c.target rfl (by omega) HSS.out _ ((HUZ.out.below xx.below).mono xx.le)))))
    refine wpQuiet_nil ?_
    intro Y hY
    rw [HJX.out]
    have hsY := hY.size
    have m0 := MapOf.new (P := Try.prog) (k := 3) (emb := Value.int .i64) (ok := fun a => (Lit.int .i64 a).wf = true) Y
    obtain ⟨y1, r1, m1, t1⟩ := m0.put (intKeys (by kernel_rfl)) (t := 202) (e := 3) (by kernel_rfl) (by unfold maxLen; omega) 2 (by decide) (.int .i64 2)
    obtain ⟨y2, r2, m2, t2⟩ := m1.put (intKeys (by kernel_rfl)) (t := 202) (e := 3) (by kernel_rfl) (by unfold maxLen; omega) 3 (by decide) (.int .i64 3)
    have r3 := m2.get (intKeys (by kernel_rfl)) (t := 202) (e := 3) (by kernel_rfl) (z := .int .i64 0) (by kernel_rfl) c.op (by rw [HOP.out]; decide)
    have hv3 : ((if c.op = 3 then some (Value.int .i64 3) else if c.op = 2 then some (Value.int .i64 2) else none).getD (.int .i64 0)) = .int .i64 3 := by rw [HOP.out]; rfl
    rw [hv3] at r3
    have hby : Below Y.heap.size Y y2 := Below.turned (Below.turned ((Below.refl Y.heap.size Y).alloc (Nat.le_refl _) (.map #[] 0)) t1 (Nat.le_refl _)) t2 (Nat.le_refl _)
    have hZy : Below Z.heap.size Z y2 := hY.trans (hby.mono hsY)
    have HZY := Lib.hid hZy
    have kC2 := HZC.out.call hZy
    have kCY := HZC.out.call hY
    obtain ⟨lC2, cC2, -⟩ := id kC2
    obtain ⟨lCY, cCY, -⟩ := id kCY
    have hmm := @run_makeMap Try.prog
    clear hcw cC cE cR hS5 hv3 m0 m1 m2 t1 t2 kC2 kCY hby hZy
    go_upto_region 15 with fail
    refine gen_world (fun Y3 => Below Z.heap.size Z Y3) HZY.out ?_
    intro Y3 hY3
    have kE3 := HZE.out.call hY3
    have kC3 := HZC.out.call hY3
    have ge3 := HGZ.out.call hY3
    have gb3 := ge3.blk
    obtain ⟨lE3, cE3, -⟩ := id kE3
    obtain ⟨lC3, cC3, -⟩ := id kC3
    obtain ⟨lS3, cS3, -⟩ := id gb3
    have hS53 : Y3.cell? ⟨S, 5, none⟩ = some (.slice (some ⟨gg, 0, none⟩) g.us.length uc) := by rw [cS3 5]; rfl
    have hU3 : URow false Y3.heap.size Y3 (some ⟨gg, 0, none⟩) g.us := (HUZ.out.below hY3).mono hY3.size
    have hl3 := hY3.size
    have hggY : gg < Y3.heap.size := by omega
    have HU3 := Lib.hid hU3
    have HY3 := Lib.hid hY3
    have HG3 := Lib.hid ge3
    clear kE3 kC3 ge3 gb3 cS3 hU3 hY3 cC2 cCY lC2 lCY r1 r2 r3 hmm HZY
    haveI := Cw.ne Y3
    have hcw := fun (x : Cw Y3) => x.cell
    by_cases j0 : jx < 0
    · have d0 : decide (0 ≤ jx) = false := decide_eq_false (by omega)
      refine region_cw (by kernel_rfl) (by kernel_rfl) ?_
      repeat (go_big_quiet_step (fail))
      refine wpQuiet_nil ?_
      intro X2 hX2
      go_wp2_with fail
      go_end0
      refine ⟨rfl, FIN.out _ _ (HY3.out.trans (hX2.mono HY3.out.size)) ?_⟩
      refine HDO.out.trans ?_
      show withUs (g, born) (aimsF false g.us k c.target 3) = _
      rw [aims_nobody (by rw [HJX.out]; exact j0)]
      exact with_same g born
    obtain ⟨j, v, hj1, hj2, hj3, -, -⟩ := (ix_find g.us c.target).resolve_left (fun hh => j0 (by rw [← HJX.out]; exact hh.1))
    rw [HJX.out] at hj1
    subst hj1
    have d0 : decide (0 ≤ ((j : Nat) : Int)) = true := decide_eq_true (by omega)
    have hj0 : (0 : Int) ≤ (j : Int) := by omega
    have hjn : (j : Int) < (g.us.length : Int) := by omega
    obtain ⟨_, _, ea, -, p0, p1, p2, p3, p4, p5, p6, p7, p8, p9⟩ := HU3.out.getE j hj2 v hj3
    cases ea
    obtain ⟨_, _, ea, -, q0, q1, q2, q3, q4, q5, q6, q7, q8, q9⟩ := HU3.out.getE k hk2 u HK3.out
    cases ea
    rw [Nat.zero_add] at p0 p1 p2 p3 p4 p5 p6 p7 p8 p9 q0 q1 q2 q3 q4 q5 q6 q7 q8 q9
    have HJ3 := Lib.hid hj3
    clear hj3
    refine region_cw (by kernel_rfl) (by kernel_rfl) ?_
    repeat (go_big_quiet_step ((go_at_call 161; refine Calls.cw (may_any u v _))))
    obtain ⟨m, hm⟩ : ∃ m, mayDo false u v = m := ⟨_, rfl⟩
    rw [hm]
    have HM := Lib.hid hm
    clear hm
    by_cases mw : m = 3
    case neg =>
      have d1 : (m == 3) = false := by simp [mw]
      have MW := Lib.hid mw
      clear mw
      repeat (go_big_quiet_step (fail))
      refine wpQuiet_nil ?_
      intro X2 hX2
      go_wp2_with fail
      go_end0
      refine ⟨rfl, FIN.out _ _ (HY3.out.trans (hX2.mono HY3.out.size)) ?_⟩
      refine HDO.out.trans ?_
      show withUs (g, born) (aimsF false g.us k c.target 3) = _
      rw [aims_no HK3.out HJX.out HJ3.out (by rw [HM.out]; exact MW.out)]
      exact with_same g born
    have d1 : (m == 3) = true := by simp [mw]
    have MW := Lib.hid mw
    clear mw
    repeat (go_big_quiet_step (fail))
    refine wpQuiet_nil ?_
    intro X2 hX2
    have HX : Hid (Below Z.heap.size Z X2) := Lib.hid (HY3.out.trans (hX2.mono HY3.out.size))
    clear hcw p0 p1 p2 p3 p4 p5 p6 p7 p8 p9 q0 q1 q2 q3 q4 q5 q6 q7 q8 q9 cE3 cC3 hS53 lE3 lC3 lS3 hX2
    go_wp2_with fail
    refine (TELL.out _ HX.out 3).mono ?_
    rintro e w5 ⟨rfl, ge5, b5, z5C, z5E, z5R⟩
    have own5 := ge5.us
    have hul : (g.us.set k (tellU u 3 0 0 0)).length = g.us.length := by simp
    dsimp only at own5
    rw [hul] at own5
    have hl : (cellsAll (g.us.set k (tellU u 3 0 0 0))).length = g.us.length * 10 := by rw [cellsAll_length, hul]
    obtain ⟨u9, q9⟩ : ∃ u9, w5.cell? ⟨gg, k * 10 + 9, none⟩ = some u9 := ⟨_, (World.ownsRow.cellAt own5 _ (by omega)).trans (List.getElem?_eq_getElem (by omega))⟩
    have f9 : w5.frozen? ⟨gg, k * 10 + 9, none⟩ = false := World.ownsRow.frozenAt own5 _
    have x5 : w5.cell? ⟨V2.heap.size, 0, none⟩ = some (.pointer (some ⟨gg, k * 10, none⟩)) := by rw [z5E.cell]; rfl
    have x6 : w5.cell? ⟨w.heap.size, 6, none⟩ = some (.int .i64 c.target) := by rw [z5C.cell]; rfl
    have n1 : gg ≠ V2.heap.size := by omega
    have n2 : gg ≠ w.heap.size := by omega
    have G5 := Lib.hid ge5
    have B5 := Lib.hid b5
    clear own5 hul hl z5C z5E z5R ge5 b5
    go_wp2_with fail
    go_end0
    have p1 := G5.out.poke rfl (k := k) (by simpa using hk2) (j := 9) (by decide) (v := .int .i64 c.target) (u' := tellU u 3 0 0 c.target) (by rw [getD_lt (by simpa using hk2)]; simp [tellU, cellsE])
    dsimp only at p1
    rw [List.set_set] at p1
    refine ⟨rfl, ?_⟩
    rw [HDO.out]
    refine ⟨B5.out.andset ⟨gg, k * 10 + 9, none⟩ _ (HXI.out.e gg rfl), fv, .slice (some ⟨gg, 0, none⟩) g.us.length uc, bv, ?_, HXI.out⟩
    show GE _ B S { g with us := aimsF false g.us k c.target 3 } born _ _ _
    rw [aims_yes HK3.out HJX.out HJ3.out (by omega) (HM.out.trans MW.out)]
    exact p1

  by_cases o4 : c.op = 4
  · skip; rw [if_neg o1] at HDO; rw [if_neg o2] at HDO; rw [if_neg o3] at HDO
    have e1 : (c.op == 4) = true := by simp [o4]
    skip; have e10 : (c.op == 1) = false := (by simp [o1]); have e20 : (c.op == 2) = false := (by simp [o2]); have e30 : (c.op == 3) = false := (by simp [o3])
    rw [if_pos o4] at HDO
    have HDO := Lib.hid HDO.out
    clear o1 o2 o3 o4
    have HUZ : Hid (URow false Z.heap.size Z (some ⟨gg, 0, none⟩) g.us) := Lib.hid ((HUV2.out.below HBX.out).mono HBX.out.size)
    obtain ⟨_, _, ea, -, q0, q1, q2, q3, q4, q5, q6, q7, q8, q9⟩ := HUZ.out.getE k hk2 u HK3.out
    cases ea
    rw [Nat.zero_add] at q0 q1 q2 q3 q4 q5 q6 q7 q8 q9
    haveI := Cw.ne Z
    have hcw := fun (x : Cw Z) => x.cell
    go_upto_region 19 with fail
    refine region_cw_tail 5 (by kernel_rfl) (by kernel_rfl) ?_
    simp only [List.take_succ_cons, List.take_zero, List.drop_succ_cons, List.drop_zero]
    repeat (go_big_quiet_step (fail))
    refine wpQuiet_nil ?_
    intro X2 hX2
    have GEX := Lib.hid (HGZ.out.call hX2)
    have hBX : B ≤ X2.heap.size := Nat.le_trans hmZ hX2.size
    have HXX := Lib.hid hX2
    clear hcw q0 q1 q2 q3 q4 q5 q6 q7 q8 q9 hX2
    go_wp2_with fail
    refine (build_any X2 B S g born fv (.slice (some ⟨gg, 0, none⟩) g.us.length uc) bv GEX.out hBX HG.out HOLD.out hbn k u HK5.out c X HXI.out (fun b hb => HXN.out b (Nat.le_trans (Nat.le_trans hszZ HXX.out.size) hb))).mono ?_
    rintro e w6 ⟨rfl, b6, f6, e6, v6, ge6, x6⟩
    go_wp2_with fail
    go_end0
    refine ⟨rfl, ?_⟩
    rw [HDO.out]
    exact ⟨((kp_of HBZ.out X).then_ HXX.out).trans b6 (fun _ _ h => h), f6, e6, v6, ge6, x6⟩

  by_cases o5 : c.op = 5
  · skip; rw [if_neg o1] at HDO; rw [if_neg o2] at HDO; rw [if_neg o3] at HDO; rw [if_neg o4] at HDO
    have e1 : (c.op == 5) = true := by simp [o5]
    skip; have e10 : (c.op == 1) = false := (by simp [o1]); have e20 : (c.op == 2) = false := (by simp [o2]); have e30 : (c.op == 3) = false := (by simp [o3]); have e40 : (c.op == 4) = false := (by simp [o4])
    rw [if_pos o5] at HDO
    have HDO := Lib.hid HDO.out
    clear o1 o2 o3 o4 o5
    go_wp2_with fail
    refine (TELL.out _ (Below.refl _ _) 0).mono ?_
    rintro e w5 ⟨rfl, ge5, b5, z5C, z5E, z5R⟩
    go_wp2_with fail
    go_end0
    refine ⟨rfl, ?_⟩
    rw [HDO.out]
    exact ⟨b5, fv, _, bv, ge5, HXI.out⟩
  skip; rw [if_neg o1] at HDO; rw [if_neg o2] at HDO; rw [if_neg o3] at HDO; rw [if_neg o4] at HDO; rw [if_neg o5] at HDO
  skip; have e10 : (c.op == 1) = false := (by simp [o1]); have e20 : (c.op == 2) = false := (by simp [o2]); have e30 : (c.op == 3) = false := (by simp [o3]); have e40 : (c.op == 4) = false := (by simp [o4]); have e50 : (c.op == 5) = false := (by simp [o5])
  have HDO := Lib.hid HDO.out
  clear o1 o2 o3 o4 o5
  go_wp2_with fail
  go_end0
  exact ⟨rfl, FIN.out _ _ (Below.refl _ _) HDO.out⟩
end Go.Proofs.Ytlfljlhppigejaa
