/-
  The walk of the newer game's raise.
-/
import Derived.Test.YtlfljlhppigejaaNewRaise
import Derived.Test.YtlfljlhppigejaaPackMix
import Derived.Test.YtlfljlhppigejaaNewPay
import Derived.Test.YtlfljlhppigejaaPackPure
namespace Go.Proofs.Ytlfljlhppigejaa
open Go.RowKit
attribute [local go_sem] qOne qAt qUp qOneK

/-- What a game on a board is left as. -/
def BGone (w : World) (B S M : Nat) (g : G) (uv : Value) (fresh : Int) (e : Ending) (w' : World) : Prop :=
  e = .returned (.tuple #[]) ∧ ∃ ua cu, BG w' B S M g ua cu (gridF g.us) fresh ∧ Kp (fun b => b = S ∨ b = M ∨ uv.ownBlock = some b) w w'

theorem boardV_uv {tick g0 g1 next : Int} {uv uv' : Value} {M : Nat} {grid : Nat → Int} {fresh : Int} (j : Nat) : (if j = 4 then uv' else boardV tick g0 g1 next uv M grid fresh j) = boardV tick g0 g1 next uv' M grid fresh j := by
  match j with
  | 0 => rfl
  | 1 => rfl
  | 2 => rfl
  | 3 => rfl
  | 4 => rfl
  | 5 => rfl
  | n + 6 => rfl
theorem boardV_nx {tick g0 g1 next next' : Int} {uv : Value} {M : Nat} {grid : Nat → Int} {fresh : Int} (j : Nat) : (if j = 3 then .int .i64 next' else boardV tick g0 g1 next uv M grid fresh j) = boardV tick g0 g1 next' uv M grid fresh j := by
  match j with
  | 0 => rfl
  | 1 => rfl
  | 2 => rfl
  | 3 => rfl
  | 4 => rfl
  | 5 => rfl
  | n + 6 => rfl
/-- What raise reads. -/
structure RaiseAt (x : World) (g : G) (c : Cm) (u : U) (r : RuleR) (S p q b o : Nat) (uv : Value) : Prop where
  lb : b < x.heap.size
  lS : S < x.heap.size
  kC : Blk x p #[.int .i64 c.player, .int .i64 c.op, .int .i64 c.id, .int .i64 c.kind, .int .i64 c.x, .int .i64 c.y]
  kR : Blk x q #[.int .i64 r.cost, .int .i64 r.hp, .int .i64 r.speed, .int .i64 r.harm, .int .i64 r.range, .int .i64 r.load]
  u1 : x.cell? ⟨b, o + 1, none⟩ = some (.int .i64 u.owner)
  u2 : x.cell? ⟨b, o + 2, none⟩ = some (.int .i64 u.kind)
  u3 : x.cell? ⟨b, o + 3, none⟩ = some (.int .i64 u.x)
  u4 : x.cell? ⟨b, o + 4, none⟩ = some (.int .i64 u.y)
  s3 : x.cell? ⟨S, 3, none⟩ = some (.int .i64 g.next)
  s4 : x.cell? ⟨S, 4, none⟩ = some uv
  sg : u.kind = 1 → x.cell? ⟨S, 1 + u.owner.toNat, none⟩ = some (.int .i64 (goldOf g u.owner))
  sp : onB c.x c.y = true → x.cell? ⟨S, 6 + c.y.toNat * 12 + c.x.toNat, none⟩ = some (.int .i64 (gridF g.us (c.y * 12 + c.x).toNat))
theorem RaiseAt.call {x y : World} {g : G} {c : Cm} {u : U} {r : RuleR} {S p q b o : Nat} {uv : Value} (h : RaiseAt x g c u r S p q b o uv) (hb : Below x.heap.size x y) : RaiseAt y g c u r S p q b o uv :=
  ⟨Nat.lt_of_lt_of_le h.lb hb.size, Nat.lt_of_lt_of_le h.lS hb.size, h.kC.call hb, h.kR.call hb, (hb.cell (p := ⟨b, _, none⟩) h.lb).trans h.u1, (hb.cell (p := ⟨b, _, none⟩) h.lb).trans h.u2, (hb.cell (p := ⟨b, _, none⟩) h.lb).trans h.u3, (hb.cell (p := ⟨b, _, none⟩) h.lb).trans h.u4,
    (hb.cell (p := ⟨S, _, none⟩) h.lS).trans h.s3, (hb.cell (p := ⟨S, _, none⟩) h.lS).trans h.s4, fun e => (hb.cell (p := ⟨S, _, none⟩) h.lS).trans (h.sg e), fun e => (hb.cell (p := ⟨S, _, none⟩) h.lS).trans (h.sp e)⟩
theorem on_range {x y : Int} (h : onB x y = true) : 0 ≤ x ∧ x < 12 ∧ 0 ≤ y ∧ y < 12 := by
  unfold onB at h
  simpa [and_assoc] using h

set_option maxHeartbeats 12800000 in
set_option maxRecDepth 100000 in
theorem raise_any (B S M : Nat) (g : G) (born : List Int) (ua : Option Addr) (cu : Nat) (fresh : Int) (c : Cm) (i b o : Nat) (u : U) (w : World) (h : BG w B S M g ua cu (gridF g.us) fresh) (hB : B ≤ w.heap.size) (hg : Right g) (hn : g.new = true) (hfree : g.free = []) (hi : g.us[i]? = some u) (ha : ua = some ⟨b, o, none⟩) :
    Calls Try.prog 149 #[.pointer (some ⟨S, 0, none⟩), .pointer (some ⟨b, o + i * 11, none⟩), .agg #[.int .i64 c.player, .int .i64 c.op, .int .i64 c.id, .int .i64 c.kind, .int .i64 c.x, .int .i64 c.y]] w (BGone w B S M (buildsF (g, born) i c.kind c.x c.y).1 (.slice ua g.us.length cu) fresh) := by
  obtain ⟨hlt, he⟩ := List.getElem?_eq_some_iff.1 hi
  have hu : g.us.getD i zeroU = u := by rw [getD_lt hlt, he]
  have hum : u ∈ g.us := by rw [← he]; exact List.getElem_mem _
  obtain ⟨ua', cu', euv, -, hrow, -⟩ := URow.of_ownN h.own
  cases euv
  obtain ⟨b', o', ea, hbB, q0, q1, q2, q3, q4, -⟩ := hrow.getN i hlt u hu
  rw [ha] at ea
  cases ea
  have ok := hg.ok hum
  have hS := h.bd.lt
  obtain ⟨W, hW⟩ : ∃ W, w.alloc (.cells #[.int .i64 c.player, .int .i64 c.op, .int .i64 c.id, .int .i64 c.kind, .int .i64 c.x, .int .i64 c.y] 73) = W := ⟨_, rfl⟩
  have hbW : Below w.heap.size w W := by rw [← hW]; exact (Below.refl _ _).alloc (Nat.le_refl _) _
  have kW : Blk W w.heap.size #[.int .i64 c.player, .int .i64 c.op, .int .i64 c.id, .int .i64 c.kind, .int .i64 c.x, .int .i64 c.y] := by rw [← hW]; exact Blk.new w _ _
  have lW := kW.lt
  have cW := kW.cell
  have HBW := Lib.hid hbW
  have KW := Lib.hid kW
  have HQ := Lib.hid (⟨q1, q2, q3, q4⟩ : w.cell? ⟨b, o + i * 11 + 1, none⟩ = some (.int .i64 u.owner) ∧ w.cell? ⟨b, o + i * 11 + 2, none⟩ = some (.int .i64 u.kind) ∧ w.cell? ⟨b, o + i * 11 + 3, none⟩ = some (.int .i64 u.x) ∧ w.cell? ⟨b, o + i * 11 + 4, none⟩ = some (.int .i64 u.y))
  have HI := Lib.hid (⟨hi, hu⟩ : g.us[i]? = some u ∧ g.us.getD i zeroU = u)
  have HN := Lib.hid (⟨hn, hfree⟩ : g.new = true ∧ g.free = [])
  have HH := Lib.hid h
  have HOK := Lib.hid ok
  have HG := Lib.hid hg
  have HA := Lib.hid ha
  have HLBW := Lib.hid hbB
  clear q0 q1 q2 q3 q4 hbW kW he hu hum hrow hi hn hfree h ok hg ha
  go_enter Try.func149, Try.ntmps149
  go_upto_region 1 with fail
  try rw [hW]
  clear hW
  go_wp2_with fail
  refine (rNewer c.kind _).mono ?_
  rintro e w1 ⟨rfl, b1⟩
  obtain ⟨r, hr⟩ : ∃ r, ruleOf true c.kind = r := ⟨_, rfl⟩
  have HR := Lib.hid hr
  rw [hr]
  obtain ⟨IS, hIS⟩ : ∃ x, isRule true c.kind = x := ⟨_, rfl⟩
  have HIS := Lib.hid hIS
  rw [hIS]
  obtain ⟨V, hV⟩ : ∃ V, w1.alloc (.cells #[.int .i64 r.cost, .int .i64 r.hp, .int .i64 r.speed, .int .i64 r.harm, .int .i64 r.range, .int .i64 r.load] 33) = V := ⟨_, rfl⟩
  have bV : Below w1.heap.size w1 V := by rw [← hV]; exact (Below.refl _ _).alloc (Nat.le_refl _) _
  have kV : Blk V w1.heap.size #[.int .i64 r.cost, .int .i64 r.hp, .int .i64 r.speed, .int .i64 r.harm, .int .i64 r.range, .int .i64 r.load] := by rw [← hV]; exact Blk.new w1 _ _
  have hsW := HBW.out.size
  have hb1 := b1.size
  have bWV : Below w.heap.size w V := HBW.out.trans ((b1.trans (bV.mono hb1)).mono hsW)
  have hsV := bWV.size
  have HWW : Hid (w.heap.size ≤ w1.heap.size) := Lib.hid (by omega)
  have own01 : u.kind = 1 → u.owner = 0 ∨ u.owner = 1 := fun e => by
    have h1 := HOK.out.own0
    have h2 := HOK.out.own2
    have h3 := HOK.out.mine
    omega
  have RA : RaiseAt V g c u r S w.heap.size w1.heap.size b (o + i * 11) (.slice ua g.us.length cu) :=
    ⟨Nat.lt_of_lt_of_le hbB hsV, Nat.lt_of_lt_of_le hS hsV, (KW.out.call b1).call bV, kV, (bWV.cell (p := ⟨b, _, none⟩) hbB).trans HQ.out.1, (bWV.cell (p := ⟨b, _, none⟩) hbB).trans HQ.out.2.1, (bWV.cell (p := ⟨b, _, none⟩) hbB).trans HQ.out.2.2.1, (bWV.cell (p := ⟨b, _, none⟩) hbB).trans HQ.out.2.2.2,
      (bWV.cell (p := ⟨S, _, none⟩) hS).trans (HH.out.bd.2.1 3 (by omega)), (bWV.cell (p := ⟨S, _, none⟩) hS).trans (HH.out.bd.2.1 4 (by omega)), fun e => by
        refine (bWV.cell (p := ⟨S, _, none⟩) hS).trans ?_
        rcases own01 e with h1 | h1
        · rw [h1]; exact HH.out.bd.2.1 1 (by omega)
        · rw [h1]; exact HH.out.bd.2.1 2 (by omega), fun e => by
        refine (bWV.cell (p := ⟨S, _, none⟩) hS).trans ?_
        obtain ⟨h1, h2, h3, h4⟩ := on_range e
        have e1 : 6 + c.y.toNat * 12 + c.x.toNat = (c.y * 12 + c.x).toNat + 6 := by omega
        rw [e1, HH.out.bd.2.1 _ (by omega)]
        exact congrArg some (boardV_grid _ _ _ _ _ _ _ _ _ (by omega))⟩
  have HRA := Lib.hid RA
  have HBV := Lib.hid bWV
  have HNO : Hid (∀ y, Below w.heap.size w y → ¬ canBuild g i c.kind c.x c.y → BGone w B S M (buildsF (g, born) i c.kind c.x c.y).1 (.slice ua g.us.length cu) fresh (.returned (.tuple #[])) y) := Lib.hid (fun y hy hno => by
    have e : buildsF (g, born) i c.kind c.x c.y = (g, born) := if_neg hno
    rw [e]
    exact ⟨rfl, ua, cu, HH.out.call hy, kp_of hy _⟩)
  have cR := kV.cell
  have lR := kV.lt
  have cC := RA.kC.cell
  have lC := RA.kC.lt
  clear bV kV bWV RA b1 hr hIS cW lW
  cases IS
  case false =>
    go_wp2_with fail
    go_end0
    refine HNO.out _ HBV.out (fun hc => ?_)
    have h1 := hc.1
    rw [HN.out.1, HIS.out] at h1
    cases h1
  by_cases k4 : c.kind = 4
  case pos =>
    have d4 : (c.kind == 4) = true := by simp [k4]
    have K4 := Lib.hid k4
    clear k4
    go_wp2_with fail
    go_end0
    refine HNO.out _ HBV.out (fun hc => ?_)
    exact hc.2.1 K4.out
  have d4 : (c.kind == 4) = false := by simp [k4]
  have K4 := Lib.hid k4
  have c2 := HRA.out.u2
  have lb2 := HRA.out.lb
  clear k4
  by_cases k1 : u.kind = 1
  case neg =>
    have d1 : (u.kind != 1) = true := by simp [k1]
    have K1 := Lib.hid k1
    clear k1
    go_wp2_with fail
    go_end0
    refine HNO.out _ HBV.out (fun hc => ?_)
    have h1 := hc.2.2.1
    rw [HI.out.2] at h1
    exact K1.out h1
  have d1 : (u.kind != 1) = false := by simp [k1]
  have K1 := Lib.hid k1
  clear k1
  go_wp2_with fail
  refine (rOn c.x c.y _).mono ?_
  rintro e y ⟨rfl, rfl⟩
  obtain ⟨ON, hON⟩ : ∃ x, onB c.x c.y = x := ⟨_, rfl⟩
  have HON := Lib.hid hON
  rw [hON]
  clear hON
  cases ON
  case false =>
    go_wp2_with fail
    go_end0
    refine HNO.out _ HBV.out (fun hc => ?_)
    have h1 := hc.2.2.2.1
    rw [HON.out] at h1
    cases h1
  obtain ⟨hx0, hx1, hy0, hy1⟩ := on_range HON.out
  obtain ⟨hu0, hu1, hu2, hu3⟩ := on_range HOK.out.on
  have HFAR := Lib.hid (fun x : Cw V => (rFar u.x u.y c.x c.y x.w (by omega) (by omega) (by omega) (by omega)).mono (fun e w' h => (⟨h.1, by rw [← h.2]; exact Below.refl _ _⟩ : e = .returned (.int .i64 (far u.x u.y c.x c.y)) ∧ Below x.w.heap.size x.w w')))
  go_upto_region 10 with fail
  haveI := Cw.ne V
  have xl : ∀ x : Cw V, b < x.w.heap.size := fun x => (HRA.out.call x.below).lb
  have xp : ∀ x : Cw V, w.heap.size < x.w.heap.size := fun x => (HRA.out.call x.below).kC.lt
  have x3 : ∀ x : Cw V, x.w.cell? ⟨b, o + i * 11 + 3, none⟩ = some (.int .i64 u.x) := fun x => (HRA.out.call x.below).u3
  have x4 : ∀ x : Cw V, x.w.cell? ⟨b, o + i * 11 + 4, none⟩ = some (.int .i64 u.y) := fun x => (HRA.out.call x.below).u4
  have xc : ∀ (x : Cw V) (k : Nat), x.w.cell? ⟨w.heap.size, k, none⟩ = (#[.int .i64 c.player, .int .i64 c.op, .int .i64 c.id, .int .i64 c.kind, .int .i64 c.x, .int .i64 c.y] : Array Value)[k]? := fun x k => (HRA.out.call x.below).kC.cell k
  refine region_cw (by kernel_rfl) (by kernel_rfl) ?_
  repeat (go_big_quiet_step ((go_at_call 27; refine Calls.cw (HFAR.out _))))
  refine wpQuiet_nil ?_
  intro Z hZ
  have HRAZ := Lib.hid (HRA.out.call hZ)
  have HBZ := Lib.hid (HBV.out.trans (hZ.mono HBV.out.size))
  clear hZ xl xp x3 x4 xc cR lR cC lC c2 lb2 HFAR
  by_cases hfar : 1 < far u.x u.y c.x c.y
  case pos =>
    have d5 : decide ((1 : Int) < far u.x u.y c.x c.y) = true := decide_eq_true hfar
    have HFA := Lib.hid hfar
    go_wp2_with fail
    go_end0
    refine HNO.out _ HBZ.out (fun hc => ?_)
    have h1 := hc.2.2.2.2.2.1
    rw [HI.out.2] at h1
    have := HFA.out
    omega
  have d5 : decide ((1 : Int) < far u.x u.y c.x c.y) = false := decide_eq_false hfar
  have HFA := Lib.hid hfar
  have hfar2 : far u.x u.y c.x c.y ≤ 1 := by omega
  obtain ⟨GV, hGV⟩ : ∃ x, gridF g.us (c.y * 12 + c.x).toNat = x := ⟨_, rfl⟩
  have HGV := Lib.hid hGV
  have hcg := HRAZ.out.sp HON.out
  rw [hGV] at hcg
  have HCG := Lib.hid hcg
  have lSZ := HRAZ.out.lS
  have hGZ : GV = 0 ↔ standsAt g.us c.x c.y = false := by
    rw [← hGV]
    exact grid_zero (fun v hv => by
      have h1 := (HG.out.ok hv)
      have h2 := on_range h1.on
      exact ⟨h2.1, h2.2.1, h2.2.2.1, h2.2.2.2, h1.id1⟩) ⟨hx0, hx1⟩ ⟨hy0, hy1⟩
  have HGZ := Lib.hid hGZ
  clear hGV hcg hGZ
  go_upto_region 11 with fail
  haveI := Cw.ne Z
  have xs : ∀ x : Cw Z, S < x.w.heap.size := fun x => (HRAZ.out.call x.below).lS
  have xp : ∀ x : Cw Z, w.heap.size < x.w.heap.size := fun x => (HRAZ.out.call x.below).kC.lt
  have xg : ∀ x : Cw Z, x.w.cell? ⟨S, 6 + c.y.toNat * 12 + c.x.toNat, none⟩ = some (.int .i64 GV) := fun x => (x.cell _ _ lSZ).trans HCG.out
  have xc : ∀ (x : Cw Z) (k : Nat), x.w.cell? ⟨w.heap.size, k, none⟩ = (#[.int .i64 c.player, .int .i64 c.op, .int .i64 c.id, .int .i64 c.kind, .int .i64 c.x, .int .i64 c.y] : Array Value)[k]? := fun x k => (HRAZ.out.call x.below).kC.cell k
  refine region_cw (by kernel_rfl) (by kernel_rfl) ?_
  repeat (go_big_quiet_step (fail))
  refine wpQuiet_nil ?_
  intro Z2 hZ2
  have HRAZ2 := Lib.hid (HRAZ.out.call hZ2)
  have HBZ2 := Lib.hid (HBZ.out.trans (hZ2.mono HBZ.out.size))
  clear hZ2 xs xp xg xc lSZ
  by_cases hgv : GV = 0
  case neg =>
    have d6 : (GV != 0) = true := by simp [hgv]
    have HGN := Lib.hid hgv
    go_wp2_with fail
    go_end0
    refine HNO.out _ HBZ2.out (fun hc => ?_)
    exact HGN.out (HGZ.out.2 hc.2.2.2.2.1)
  have d6 : (GV != 0) = false := by simp [hgv]
  have HG0 := Lib.hid hgv
  clear hgv
  obtain ⟨GO, hGO⟩ : ∃ x, goldOf g u.owner = x := ⟨_, rfl⟩
  have HGO := Lib.hid hGO
  have hsg := HRAZ2.out.sg K1.out
  rw [hGO] at hsg
  have HSG := Lib.hid hsg
  have lSZ := HRAZ2.out.lS
  have hown := own01 K1.out
  have ho0 : 0 ≤ u.owner := by omega
  have ho2 : u.owner < 2 := by omega
  have HOWN := Lib.hid hown
  clear hGO hsg hown own01
  go_upto_region 12 with fail
  haveI := Cw.ne Z2
  have xl : ∀ x : Cw Z2, b < x.w.heap.size := fun x => (HRAZ2.out.call x.below).lb
  have xs : ∀ x : Cw Z2, S < x.w.heap.size := fun x => (HRAZ2.out.call x.below).lS
  have xq : ∀ x : Cw Z2, w1.heap.size < x.w.heap.size := fun x => (HRAZ2.out.call x.below).kR.lt
  have x1 : ∀ x : Cw Z2, x.w.cell? ⟨b, o + i * 11 + 1, none⟩ = some (.int .i64 u.owner) := fun x => (HRAZ2.out.call x.below).u1
  have xg : ∀ x : Cw Z2, x.w.cell? ⟨S, 1 + u.owner.toNat, none⟩ = some (.int .i64 GO) := fun x => (x.cell _ _ lSZ).trans HSG.out
  have xr : ∀ (x : Cw Z2) (k : Nat), x.w.cell? ⟨w1.heap.size, k, none⟩ = (#[.int .i64 r.cost, .int .i64 r.hp, .int .i64 r.speed, .int .i64 r.harm, .int .i64 r.range, .int .i64 r.load] : Array Value)[k]? := fun x k => (HRAZ2.out.call x.below).kR.cell k
  refine region_cw (by kernel_rfl) (by kernel_rfl) ?_
  repeat (go_big_quiet_step (fail))
  refine wpQuiet_nil ?_
  intro Z3 hZ3
  have HRAZ3 := Lib.hid (HRAZ2.out.call hZ3)
  have HBZ3 := Lib.hid (HBZ2.out.trans (hZ3.mono HBZ2.out.size))
  clear hZ3 xl xs xq x1 xg xr lSZ
  by_cases hgo : GO < r.cost
  case pos =>
    have d7 : decide (GO < r.cost) = true := decide_eq_true hgo
    have HGN := Lib.hid hgo
    go_wp2_with fail
    go_end0
    refine HNO.out _ HBZ3.out (fun hc => ?_)
    have h1 := hc.2.2.2.2.2.2.1
    rw [HI.out.2, HN.out.1, HR.out, HGO.out] at h1
    have := HGN.out
    omega
  have d7 : decide (GO < r.cost) = false := decide_eq_false hgo
  have hgo2 : r.cost ≤ GO := by omega
  have c4 := HRAZ3.out.s4
  have c3 := HRAZ3.out.s3
  have lS3 := HRAZ3.out.lS
  by_cases h20 : g.us.length = 20
  case pos =>
    have d8 : ((g.us.length : Int) == 20) = true := by simp; omega
    have H20 := Lib.hid h20
    clear h20
    go_wp2_with fail
    go_end0
    refine HNO.out _ HBZ3.out (fun hc => ?_)
    exact hc.2.2.2.2.2.2.2.1 H20.out
  have d8 : ((g.us.length : Int) == 20) = false := by simp; omega
  have H20 := Lib.hid h20
  clear h20
  by_cases hnx : 2000 < g.next
  case pos =>
    have d9 : decide (2000 < g.next) = true := decide_eq_true hnx
    have HNX := Lib.hid hnx
    go_wp2_with fail
    go_end0
    refine HNO.out _ HBZ3.out (fun hc => ?_)
    have h1 := hc.2.2.2.2.2.2.2.2
    rw [HN.out.1, HN.out.2] at h1
    have := HNX.out
    rcases h1 with h1 | h1
    · exact h1 rfl
    · unfold topOf at h1; simp at h1; omega
  have d9 : decide (2000 < g.next) = false := decide_eq_false hnx
  have hnx2 : g.next ≤ 2000 := by omega
  go_upto_region 2 with fail
  have hgo3 : 0 ≤ GO ∧ GO ≤ 1000 := by
    have h1 := HG.out.head
    unfold headBad at h1
    rw [HN.out.1] at h1
    have h2 := HGO.out
    unfold goldOf at h2
    have h3 : richOf true = 1000 := rfl
    rw [h3] at h1
    split at h2 <;> omega
  have hco : 0 ≤ r.cost ∧ r.cost ≤ 1000 := by
    rw [← HR.out]
    unfold ruleOf
    repeat' split
    all_goals simp
  obtain ⟨hgo4, hgo5⟩ := hgo3
  obtain ⟨hco1, hco2⟩ := hco
  haveI := Cw.ne Z3
  have hsg := HRAZ3.out.sg K1.out
  rw [HGO.out] at hsg
  have xl : ∀ x : Cw Z3, b < x.w.heap.size := fun x => (HRAZ3.out.call x.below).lb
  have xs : ∀ x : Cw Z3, S < x.w.heap.size := fun x => (HRAZ3.out.call x.below).lS
  have xq : ∀ x : Cw Z3, w1.heap.size < x.w.heap.size := fun x => (HRAZ3.out.call x.below).kR.lt
  have x1 : ∀ x : Cw Z3, x.w.cell? ⟨b, o + i * 11 + 1, none⟩ = some (.int .i64 u.owner) := fun x => (HRAZ3.out.call x.below).u1
  have xg : ∀ x : Cw Z3, x.w.cell? ⟨S, 1 + u.owner.toNat, none⟩ = some (.int .i64 GO) := fun x => (x.cell _ _ lS3).trans hsg
  have xr : ∀ (x : Cw Z3) (k : Nat), x.w.cell? ⟨w1.heap.size, k, none⟩ = (#[.int .i64 r.cost, .int .i64 r.hp, .int .i64 r.speed, .int .i64 r.harm, .int .i64 r.range, .int .i64 r.load] : Array Value)[k]? := fun x k => (HRAZ3.out.call x.below).kR.cell k
  refine region_cw_tail 17 (by kernel_rfl) (by kernel_rfl) ?_
  simp only [List.take_succ_cons, List.take_zero, List.drop_succ_cons, List.drop_zero]
  repeat (go_big_quiet_step (fail))
  refine wpQuiet_nil ?_
  intro Y hY
  have HRAY := Lib.hid (HRAZ3.out.call hY)
  have HBY := Lib.hid (HBZ3.out.trans (hY.mono HBZ3.out.size))
  have bgY := HH.out.call HBY.out
  have hsg2 := HRAY.out.sg K1.out
  rw [HGO.out] at hsg2
  have hpay := bgY.pay HOWN.out r.cost
  rw [HGO.out] at hpay
  have HPAY := Lib.hid hpay
  have fY := bgY.bd.2.2
  clear hY xl xs xq x1 xg xr hsg bgY hpay
  refine list_store1 S (1 + u.owner.toNat) (.int .i64 (GO - r.cost)) 3 (.tmp 30) (.tmp 26) rfl rfl rfl rfl rfl (by rw [hsg2]; rfl) (fY _) rfl (by kernel_rfl) (fun Z => BG Z B S M (pay g u.owner r.cost) ua cu (gridF g.us) fresh ∧ Kp (fun b => b = S) Y Z) ⟨HPAY.out, Kp.setCell Y ⟨S, 1 + u.owner.toNat, none⟩ _⟩ ?_
  rintro Q ⟨bgQ, kQ⟩
  have HBQ := Lib.hid bgQ
  have HKQ := Lib.hid kQ
  clear bgQ kQ fY hsg2
  have hpu : (pay g u.owner r.cost).us = g.us ∧ (pay g u.owner r.cost).next = g.next ∧ (pay g u.owner r.cost).tick = g.tick ∧ (pay g u.owner r.cost).free = g.free ∧ (pay g u.owner r.cost).new = g.new := by unfold pay; split <;> exact ⟨rfl, rfl, rfl, rfl, rfl⟩
  obtain ⟨G1, hG1⟩ : ∃ x, pay g u.owner r.cost = x := ⟨_, rfl⟩
  rw [hG1] at hpu
  have HG1 := Lib.hid hG1
  have HPU := Lib.hid hpu
  have hbq := HBQ.out
  rw [hG1] at hbq
  have hbd := hbq.bd
  rw [hpu.1, hpu.2.1, hpu.2.2.1] at hbd
  have hown := hbq.own
  rw [hpu.1] at hown
  have hmp := hbq.mp
  rw [hpu.1] at hmp
  have huS := hbq.uS
  rw [hpu.1] at huS
  have huM := hbq.uM
  rw [hpu.1] at huM
  have HBD := Lib.hid hbd
  have HOWNQ := Lib.hid hown
  have HMP := Lib.hid hmp
  have HUS := Lib.hid huS
  have HUM := Lib.hid huM
  have HBS := Lib.hid hbq.bS
  have HBM := Lib.hid hbq.bM
  have HSM := Lib.hid hbq.SM
  have hnx1 : 1 ≤ g.next := by
    have h1 := HG.out.head
    unfold headBad at h1
    omega
  have HCAN : Hid (canBuild g i c.kind c.x c.y) := Lib.hid (by
    refine ⟨by rw [HN.out.1]; exact HIS.out, K4.out, by rw [HI.out.2]; exact K1.out, HON.out, HGZ.out.1 HG0.out, by rw [HI.out.2]; exact hfar2, by rw [HI.out.2, HN.out.1, HR.out, HGO.out]; exact hgo2, H20.out, Or.inr (by rw [HN.out.1]; exact hnx2)⟩)
  obtain ⟨un, hun⟩ : ∃ x : U, x = ⟨g.next, u.owner, c.kind, c.x, c.y, r.hp, 0, 0, 0, 0, g.tick⟩ := ⟨_, rfl⟩
  have HBU : Hid (built g i c.kind c.x c.y = { G1 with next := g.next + 1, us := g.us ++ [un] }) := Lib.hid (by
    rw [built_end HG.out HN.out.2]
    unfold builtU
    rw [newId_next HN.out.2, HI.out.2, HN.out.1, HR.out, hG1, hun]
    rfl)
  have HUN := Lib.hid hun
  clear hpu hG1 hbq hbd hown hmp huS huM hun hgo2 hfar2 hfar hgo d5 d6 d7 d8 d9
  go_upto_region 3 with fail
  have HRAQ : Hid (b < Q.heap.size ∧ S < Q.heap.size) := Lib.hid ⟨Nat.lt_of_lt_of_le HRAY.out.lb HKQ.out.size, Nat.lt_of_lt_of_le HRAY.out.lS HKQ.out.size⟩
  obtain ⟨i1, hj0, hj1, hj2, hj3⟩ := info_parts infoUnit
  have lQb := HRAQ.out.1
  have lQS := HRAQ.out.2
  have hbo : (Value.slice ua g.us.length cu).ownBlock = some b := by rw [HA.out]; rfl
  have HBO := Lib.hid hbo
  have hbw : b < w.heap.size := HLBW.out
  have hpw1 : w.heap.size ≤ w1.heap.size := HWW.out
  have kCQ : Blk Q w.heap.size #[.int .i64 c.player, .int .i64 c.op, .int .i64 c.id, .int .i64 c.kind, .int .i64 c.x, .int .i64 c.y] := HRAY.out.kC.kp HKQ.out (fun e => by have := HH.out.bd.lt; omega)
  have kRQ : Blk Q w1.heap.size #[.int .i64 r.cost, .int .i64 r.hp, .int .i64 r.speed, .int .i64 r.harm, .int .i64 r.range, .int .i64 r.load] := HRAY.out.kR.kp HKQ.out (fun e => by have := HH.out.bd.lt; omega)
  have lQC := kCQ.lt
  have lQR := kRQ.lt
  have u1Q : Q.cell? ⟨b, o + i * 11 + 1, none⟩ = some (.int .i64 u.owner) := (HKQ.out.cell b _ HRAY.out.lb (fun e => HUS.out (by rw [hbo, e]))).trans HRAY.out.u1
  have nS : ¬ (Value.slice ua g.us.length cu).ownBlock = some S := HUS.out
  have nC : ¬ (Value.slice ua g.us.length cu).ownBlock = some w.heap.size := fun e => by rw [hbo] at e; have := Option.some.inj e; omega
  have nR : ¬ (Value.slice ua g.us.length cu).ownBlock = some w1.heap.size := fun e => by rw [hbo] at e; have := Option.some.inj e; omega
  haveI := Kw.ne (fun j => (Value.slice ua g.us.length cu).ownBlock = some j) Q
  have yl : ∀ x : Kw (fun j => (Value.slice ua g.us.length cu).ownBlock = some j) Q, b < x.w.heap.size ∧ S < x.w.heap.size ∧ w.heap.size < x.w.heap.size ∧ w1.heap.size < x.w.heap.size := fun x => by have := x.kp.size; omega
  have y4 : ∀ x : Kw (fun j => (Value.slice ua g.us.length cu).ownBlock = some j) Q, x.w.cell? ⟨S, 4, none⟩ = some (.slice ua g.us.length cu) := fun x => (x.cell _ _ lQS nS).trans (HBD.out.2.1 4 (by omega))
  have y3 : ∀ x : Kw (fun j => (Value.slice ua g.us.length cu).ownBlock = some j) Q, x.w.cell? ⟨S, 3, none⟩ = some (.int .i64 g.next) := fun x => (x.cell _ _ lQS nS).trans (HBD.out.2.1 3 (by omega))
  have y0 : ∀ x : Kw (fun j => (Value.slice ua g.us.length cu).ownBlock = some j) Q, x.w.cell? ⟨S, 0, none⟩ = some (.int .i64 g.tick) := fun x => (x.cell _ _ lQS nS).trans (HBD.out.2.1 0 (by omega))
  have yc : ∀ (x : Kw (fun j => (Value.slice ua g.us.length cu).ownBlock = some j) Q) (k : Nat), x.w.cell? ⟨w.heap.size, k, none⟩ = (#[.int .i64 c.player, .int .i64 c.op, .int .i64 c.id, .int .i64 c.kind, .int .i64 c.x, .int .i64 c.y] : Array Value)[k]? := fun x k => (x.cell _ _ lQC nC).trans (kCQ.cell k)
  have yr : ∀ (x : Kw (fun j => (Value.slice ua g.us.length cu).ownBlock = some j) Q) (k : Nat), x.w.cell? ⟨w1.heap.size, k, none⟩ = (#[.int .i64 r.cost, .int .i64 r.hp, .int .i64 r.speed, .int .i64 r.harm, .int .i64 r.range, .int .i64 r.load] : Array Value)[k]? := fun x k => (x.cell _ _ lQR nR).trans (kRQ.cell k)
  refine region_mix 31 [(false, 0), (false, 1), (false, 2), (false, 3), (false, 4), (false, 5), (false, 6), (false, 7), (false, 8), (false, 9), (false, 10), (false, 11), (false, 12), (false, 13), (false, 15), (false, 16), (false, 17), (false, 18), (false, 19), (false, 20), (false, 21), (false, 22), (false, 23), (false, 24), (false, 25), (false, 26), (false, 27), (true, 14), (false, 28), (true, 29), (true, 30)] (kcl (fun j => (Value.slice ua g.us.length cu).ownBlock = some j) Q (fun x => (b < x.heap.size ∧ x.cell? ⟨b, o + i * 11 + 1, none⟩ = some (.int .i64 u.owner)) ∧ x.ownsRow B 130 11 (.slice ua g.us.length cu) g.us.length (cellsAllN g.us)) (fun _ _ h hb => ⟨⟨Nat.lt_of_lt_of_le h.1.1 hb.size, (hb.cell (p := ⟨b, _, none⟩) h.1.1).trans h.1.2⟩, own_kp h.2 (kp_of hb (fun _ => False)) (fun _ _ y => y)⟩)) ⟨Kp.drew _ _, ⟨lQb, u1Q⟩, HOWNQ.out⟩ (by kernel_rfl) (by kernel_rfl) ?_
  simp only [stepsOf, List.filterMap_cons, List.filterMap_nil, List.getElem?_toArray, List.getElem?_cons_zero, List.getElem?_cons_succ, Option.map_some, List.drop_succ_cons, List.drop_zero]
  repeat (refine mix_readK (fun K hK => ?_); go_simp; refine hK _ ?_; clear hK K)
  have hBQ : B ≤ Q.heap.size := by have := HKQ.out.size; have := HBY.out.size; omega
  refine mix_write (ι := Unit) (fun _ => .int .i64 u.owner) (fun _ => _) rfl (fun x h => ⟨(), x, Or.inl (by simp [go_sem, h.2.1.2]), h⟩) (fun _ => ?_)
  refine mix_readK (fun K hK => ?_); go_simp; refine hK _ ?_; clear hK K
  refine mix_new (fun q => .slice (some ⟨q, 0, none⟩) 1 1) #[.int .i64 g.next, .int .i64 u.owner, .int .i64 c.kind, .int .i64 c.x, .int .i64 c.y, .int .i64 r.hp, .int .i64 0, .int .i64 0, .int .i64 0, .int .i64 0, .int .i64 g.tick] 130 rfl (fun w => by simp [go_sem]) (fun q => ?_)
  refine mix_append q #[.int .i64 g.next, .int .i64 u.owner, .int .i64 c.kind, .int .i64 c.x, .int .i64 c.y, .int .i64 r.hp, .int .i64 0, .int .i64 0, .int .i64 0, .int .i64 0, .int .i64 g.tick] 130 (.tmp 36) (.tmp 60) 63 rfl rfl B 130 i1 _ 11 88 Try.underlying63 hj0 hj1 hj2 hj3 rfl (by omega) (.slice ua g.us.length cu) g.us.length (cellsAllN g.us) rfl rfl HOWNQ.out rfl (by simp [Value.oneCell']) (by have := HG.out.few; unfold maxLen; omega) (by have := HG.out.few; omega) hBQ (fun k => Iff.rfl) (fun w h => ⟨h.2.1, h.2.2.2⟩) (fun w _ h => h.1.2) (fun gg cap => ?_)
  refine mix_nil ?_
  rintro w8 ⟨k8, own8, hgg⟩
  have bd8 := HBD.out.kp k8 nS
  have hcat : cellsAllN g.us ++ (#[.int .i64 g.next, .int .i64 u.owner, .int .i64 c.kind, .int .i64 c.x, .int .i64 c.y, .int .i64 r.hp, .int .i64 0, .int .i64 0, .int .i64 0, .int .i64 0, .int .i64 g.tick] : Array Value).toList = cellsAllN (g.us ++ [un]) := by rw [cellsAllN_append, HUN.out]; rfl
  rw [hcat] at own8
  have hul : (g.us ++ [un]).length = g.us.length + 1 := by simp
  rw [← hul] at own8
  have HGS : Hid (gg ≠ S ∧ gg ≠ M ∧ B ≤ gg) := Lib.hid (by
    have hbg : B ≤ gg := by
      rcases own8.2 with ⟨e1, -⟩ | ⟨g', cap', cur, e1, e2, -⟩
      · cases e1
      · cases e1; exact e2
    rcases hgg with e | e
    · exact ⟨fun h => HUS.out (by rw [e, h]), fun h => HUM.out (by rw [e, h]), hbg⟩
    · have h1 := HBD.out.lt
      obtain ⟨_, _, _, h2⟩ := HMP.out
      have h3 := h2.lt
      exact ⟨by omega, by omega, hbg⟩)
  have m8 : ∃ n s, n ≤ 100 ∧ IM w8 M n s (whoV ua g.us) := by
    obtain ⟨n, s, hn, hm⟩ := HMP.out
    exact ⟨n, s, hn, hm.kp k8 HUM.out⟩
  have cS8 := bd8.2.1 4 (by omega)
  have fS8 := bd8.2.2 4
  have hgo : Hid ((Value.slice ua g.us.length cu).ownBlock = some gg ∨ Q.heap.size ≤ gg) := Lib.hid hgg
  iterate 3 (refine wpList_plain rfl (fun K hK => ?_); go_simp; refine hK _ _ ?_; clear hK K)
  refine list_store1 S 4 (.slice (some ⟨gg, 0, none⟩) (g.us.length + 1) cap) 63 (.tmp 64) (.tmp 61) rfl rfl rfl rfl rfl (by rw [cS8]; rfl) fS8 rfl (by kernel_rfl) (fun Z => Bd Z S (boardV g.tick G1.g0 G1.g1 g.next (.slice (some ⟨gg, 0, none⟩) (g.us ++ [un]).length cap) M (gridF g.us) fresh) ∧ Z.ownsRow B 130 11 (.slice (some ⟨gg, 0, none⟩) (g.us ++ [un]).length cap) (g.us ++ [un]).length (cellsAllN (g.us ++ [un])) ∧ (∃ n s, n ≤ 100 ∧ IM Z M n s (whoV ua g.us)) ∧ Kp (fun b => b = S ∨ (Value.slice ua g.us.length cu).ownBlock = some b) Q Z) ⟨?_, ?_, ?_, ?_⟩ ?_
  · refine (bd8.store _ (by omega : 4 < 151)).fn (fun j hj => ?_)
    rw [hul]
    exact boardV_uv j
  · exact own_kp own8 (Kp.setCell w8 ⟨S, 4, none⟩ _) (fun b hb e => HGS.out.1 (by have h1 := Option.some.inj hb; have h2 : b = S := e; exact h1.trans h2))
  · obtain ⟨n, s, hn, hm⟩ := m8
    exact ⟨n, s, hn, hm.kp (Kp.setCell w8 ⟨S, 4, none⟩ _) (fun e => HSM.out e.symm)⟩
  · exact (k8.imp (fun _ _ x => Or.inr x)).trans (Kp.setCell w8 ⟨S, 4, none⟩ _) (fun b _ e => Or.inl e)
  rintro Z4 ⟨bd4, own4, m4, k4'⟩
  have HB4 := Lib.hid bd4
  have HO4 := Lib.hid own4
  have HM4 := Lib.hid m4
  have HK4 := Lib.hid k4'
  have lS4 := bd4.lt
  have c34 := bd4.2.1 3 (by omega)
  have f34 := bd4.2.2 3
  replace c34 : Z4.cell? ⟨S, 3, none⟩ = some (.int .i64 g.next) := c34
  clear bd4 own4 m4 k4' bd8 own8 hgg m8 cS8 fS8 yl y4 y3 y0 yc yr kCQ kRQ lQC lQR lQb lQS hcat k8
  go_upto_region 5 with fail
  have bd5 : Bd (Z4.setCell ⟨S, 3, none⟩ (.int .i64 (g.next + 1))) S (boardV g.tick G1.g0 G1.g1 (g.next + 1) (.slice (some ⟨gg, 0, none⟩) (g.us ++ [un]).length cap) M (gridF g.us) fresh) := (HB4.out.store _ (by omega : 3 < 151)).fn (fun j hj => boardV_nx j)
  have own5 := own_kp HO4.out (Kp.setCell Z4 ⟨S, 3, none⟩ (.int .i64 (g.next + 1))) (fun b hb e => HGS.out.1 (by have h1 := Option.some.inj hb; have h2 : b = S := e; exact h1.trans h2))
  have m5 : ∃ n s, n ≤ 100 ∧ IM (Z4.setCell ⟨S, 3, none⟩ (.int .i64 (g.next + 1))) M n s (whoV ua g.us) := by
    obtain ⟨n, s, hn, hm⟩ := HM4.out
    exact ⟨n, s, hn, hm.kp (Kp.setCell Z4 ⟨S, 3, none⟩ _) (fun e => HSM.out e.symm)⟩
  have k5 : Kp (fun b => b = S ∨ (Value.slice ua g.us.length cu).ownBlock = some b) Q (Z4.setCell ⟨S, 3, none⟩ (.int .i64 (g.next + 1))) := HK4.out.andset ⟨S, 3, none⟩ _ (Or.inl rfl)
  refine gen_world (fun V => Bd V S (boardV g.tick G1.g0 G1.g1 (g.next + 1) (.slice (some ⟨gg, 0, none⟩) (g.us ++ [un]).length cap) M (gridF g.us) fresh) ∧ V.ownsRow B 130 11 (.slice (some ⟨gg, 0, none⟩) (g.us ++ [un]).length cap) (g.us ++ [un]).length (cellsAllN (g.us ++ [un])) ∧ (∃ n s, n ≤ 100 ∧ IM V M n s (whoV ua g.us)) ∧ Kp (fun b => b = S ∨ (Value.slice ua g.us.length cu).ownBlock = some b) Q V) ⟨bd5, own5, m5, k5⟩ ?_
  clear bd5 own5 m5 k5 c34 f34 lS4 HB4 HO4 HM4 HK4
  rintro V5 ⟨bd5, own5, ⟨n5, s5, hn5, m5⟩, k5⟩
  obtain ⟨va, vc, ve, -, hrow5, -⟩ := URow.of_ownN own5
  cases ve
  have hr5 := right_builds HG.out HI.out.1 HCAN.out (fun _ => HN.out.2)
  rw [HBU.out] at hr5
  have HR5 := Lib.hid hr5
  have HO5 := Lib.hid own5
  have HK5 := Lib.hid k5
  have hix := index_any { G1 with next := g.next + 1, us := g.us ++ [un] } S M n5 s5 _ (some ⟨gg, 0, none⟩) cap (gridF g.us) fresh V5 hr5.sorted hr5.few (fun v hv => by
    have h1 := hr5.ok hv
    have h2 := on_range h1.on
    have h3 := h1.id1
    have h4 := h1.idT
    have h5 : G1.new = true := HPU.out.2.2.2.2.trans HN.out.1
    refine ⟨h2.1, h2.2.1, h2.2.2.1, h2.2.2.2, wf_int ?_⟩
    have h6 : topOf G1.new = 2000 := by rw [h5]; rfl
    dsimp only at h4
    omega) (by rw [← HPU.out.2.2.1] at bd5; exact bd5) m5 HSM.out hrow5 (fun b o e => by cases e; exact ⟨HGS.out.1, HGS.out.2.1⟩)
  have HIX := Lib.hid hix
  clear hix hr5 own5 k5 bd5 m5 hrow5
  go_wp2_with fail
  refine HIX.out.mono ?_
  rintro e w9 ⟨rfl, k9, bd9, n9, s9, hn9, m9⟩
  have K9 := Lib.hid k9
  have BD9 := Lib.hid bd9
  have M9 := Lib.hid m9
  clear k9 bd9 m9 HIX
  go_wp2_with fail
  go_end0
  have e : (buildsF (g, born) i c.kind c.x c.y).1 = { G1 with next := g.next + 1, us := g.us ++ [un] } := by
    unfold buildsF
    rw [if_pos HCAN.out]
    exact HBU.out
  rw [e]
  have hsQ := HKQ.out.size
  have hs5 := HK5.out.size
  have hgm : ∀ b, (Value.slice (some ⟨gg, 0, none⟩) (g.us ++ [un]).length cap).ownBlock = some b → b = gg := fun b hb => (Option.some.inj hb).symm
  refine ⟨rfl, some ⟨gg, 0, none⟩, cap, ⟨BD9.out, own_kp HO5.out K9.out (fun b hb => by rw [hgm b hb]; rintro (e | e); exact HGS.out.1 e; exact HGS.out.2.1 e), ⟨n9, s9, Nat.le_trans hn9 (Nat.le_trans HR5.out.few (by omega)), M9.out⟩, HBS.out, HBM.out, HSM.out, fun e => HGS.out.1 (Option.some.inj e), fun e => HGS.out.2.1 (Option.some.inj e)⟩, ?_⟩
  refine (((kp_of HBY.out _).trans (HKQ.out.imp (fun b _ e => Or.inl e)) (fun _ _ x => x)).trans (HK5.out.imp (fun b _ e => e.elim Or.inl (fun h => Or.inr (Or.inr h)))) (fun _ _ x => x)).trans K9.out (fun b _ e => e.elim Or.inl (fun h => Or.inr (Or.inl h)))
end Go.Proofs.Ytlfljlhppigejaa
