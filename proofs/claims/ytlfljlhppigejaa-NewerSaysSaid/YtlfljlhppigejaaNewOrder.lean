/-
  The walk of the newer game's order. (Printed by gen_order.py.)
-/
import Derived.Test.YtlfljlhppigejaaNewRaiseW
namespace Go.Proofs.Ytlfljlhppigejaa
open Go.RowKit
attribute [local go_sem] qOne qAt qUp qOneK

def keyU (u : U) : Int × Int × Int := (u.id, u.x, u.y)
theorem grid_keys (us : List U) : ∀ (vs : List U) (f : Nat → Int), us.map keyU = vs.map keyU → us.foldl gridStep f = vs.foldl gridStep f := by
  induction us with
  | nil =>
    intro vs f h
    cases vs with
    | nil => rfl
    | cons v vs => cases h
  | cons u us ih =>
    intro vs f h
    cases vs with
    | nil => cases h
    | cons v vs =>
      simp only [List.map_cons, List.cons.injEq] at h
      rw [List.foldl_cons, List.foldl_cons]
      have e : gridStep f u = gridStep f v := by
        have h1 := h.1
        unfold keyU at h1
        simp only [Prod.mk.injEq] at h1
        unfold gridStep
        rw [h1.1, h1.2.1, h1.2.2]
      rw [e]
      exact ih vs _ h.2
theorem grid_told {us : List U} {k : Nat} {u : U} (hk : us[k]? = some u) (d x y t : Int) : gridF (us.set k (tellU u d x y t)) = gridF us := by
  refine grid_keys _ _ _ ?_
  obtain ⟨hlt, he⟩ := List.getElem?_eq_some_iff.1 hk
  rw [List.map_set]
  refine List.ext_getElem (by simp) (fun i h1 h2 => ?_)
  rw [List.getElem_set]
  split
  · next e => subst e; simp [he]; rfl
  · rfl
theorem own_ua {w : World} {B : Nat} {ua : Option Addr} {cu : Nat} {us : List U} (h : w.ownsRow B 130 11 (.slice ua us.length cu) us.length (cellsAllN us)) (hn : us.length ≠ 0) : ∃ gg, ua = some ⟨gg, 0, none⟩ ∧ B ≤ gg ∧ gg < w.heap.size ∧ (∀ i, w.frozen? ⟨gg, i, none⟩ = false) ∧ us.length ≤ cu := by
  rcases h.2 with ⟨h1, h2⟩ | ⟨g', cap', cur, h1, hb, h3, h4, -⟩
  · exact absurd h2 hn
  · cases h1
    exact ⟨g', rfl, hb, (Array.getElem?_eq_some_iff.1 h3).1, fun i => by simp [World.frozen?, h3], h4⟩
/-- One is told something, and the board is left. -/
theorem told_gone {w x : World} {B S M : Nat} {g : G} {ua : Option Addr} {cu : Nat} {fresh : Int} {k gg : Nat} {u : U} (h : BG w B S M g ua cu (gridF g.us) fresh) (hb : Below w.heap.size w x) (hua : ua = some ⟨gg, 0, none⟩) (hk : g.us[k]? = some u) (d gx gy t : Int) :
    BGone w B S M { g with us := g.us.set k (tellU u d gx gy t) } (.slice ua g.us.length cu) fresh (.returned (.tuple #[])) ((((x.setCell ⟨gg, k * 11 + 6, none⟩ (.int .i64 d)).setCell ⟨gg, k * 11 + 7, none⟩ (.int .i64 gx)).setCell ⟨gg, k * 11 + 8, none⟩ (.int .i64 gy)).setCell ⟨gg, k * 11 + 9, none⟩ (.int .i64 t)) := by
  subst hua
  refine ⟨rfl, some ⟨gg, 0, none⟩, cu, ?_, ?_⟩
  · have := (h.call hb).tell hk d gx gy t
    rw [← grid_told hk d gx gy t] at this
    exact this
  · have hX : (fun b => b = S ∨ b = M ∨ (Value.slice (some ⟨gg, 0, none⟩) g.us.length cu).ownBlock = some b) gg := Or.inr (Or.inr rfl)
    exact ((((kp_of hb _).andset ⟨gg, _, none⟩ _ hX).andset ⟨gg, _, none⟩ _ hX).andset ⟨gg, _, none⟩ _ hX).andset ⟨gg, _, none⟩ _ hX
theorem whoV_none {us : List U} {id : Int} {a : Option Addr} (h : ixOf us id < 0) : whoV a us id = none := by
  unfold ixOf at h
  unfold whoV
  split at h
  · omega
  · next e => rw [e]; rfl
theorem whoV_some {us : List U} {id : Int} {gg k : Nat} (h : ixOf us id = k) : whoV (some ⟨gg, 0, none⟩) us id = some (.pointer (some ⟨gg, k * 11, none⟩)) := by
  unfold ixOf at h
  unfold whoV
  split at h
  · next i e =>
    obtain rfl : i = k := by omega
    rw [e]
    show some (Value.pointer (some ⟨gg, 0 + i * 11, none⟩)) = _
    rw [Nat.zero_add]
  · omega
theorem BG.unit {w : World} {B S M : Nat} {g : G} {gg cu : Nat} {grid : Nat → Int} {fresh : Int} (h : BG w B S M g (some ⟨gg, 0, none⟩) cu grid fresh) {k : Nat} {u : U} (hk : g.us[k]? = some u) :
    gg < w.heap.size ∧ w.cell? ⟨gg, k * 11, none⟩ = some (.int .i64 u.id) ∧ w.cell? ⟨gg, k * 11 + 1, none⟩ = some (.int .i64 u.owner) ∧ w.cell? ⟨gg, k * 11 + 2, none⟩ = some (.int .i64 u.kind) ∧ w.cell? ⟨gg, k * 11 + 3, none⟩ = some (.int .i64 u.x) ∧ w.cell? ⟨gg, k * 11 + 4, none⟩ = some (.int .i64 u.y) ∧ w.cell? ⟨gg, k * 11 + 5, none⟩ = some (.int .i64 u.hp) ∧
      w.cell? ⟨gg, k * 11 + 6, none⟩ = some (.int .i64 u.does) ∧ w.cell? ⟨gg, k * 11 + 7, none⟩ = some (.int .i64 u.gx) ∧ w.cell? ⟨gg, k * 11 + 8, none⟩ = some (.int .i64 u.gy) ∧ w.cell? ⟨gg, k * 11 + 9, none⟩ = some (.int .i64 u.target) ∧ ∀ i, w.frozen? ⟨gg, i, none⟩ = false := by
  obtain ⟨hlt, he⟩ := List.getElem?_eq_some_iff.1 hk
  obtain ⟨ua', cu', euv, -, hrow, -⟩ := URow.of_ownN h.own
  cases euv
  obtain ⟨b', o', ea, hbB, q0, q1, q2, q3, q4, q5, q6, q7, q8, q9, -⟩ := hrow.getN k hlt u (by rw [getD_lt hlt, he])
  cases ea
  rw [Nat.zero_add] at q0 q1 q2 q3 q4 q5 q6 q7 q8 q9
  obtain ⟨gg', eg, -, -, hf, -⟩ := own_ua h.own (by omega)
  cases eg
  exact ⟨hbB, q0, q1, q2, q3, q4, q5, q6, q7, q8, q9, hf⟩

set_option maxHeartbeats 12800000 in
set_option maxRecDepth 100000 in
theorem order_any (B S M : Nat) (g : G) (born : List Int) (ua : Option Addr) (cu : Nat) (fresh : Int) (c : Cm) (w : World) (h : BG w B S M g ua cu (gridF g.us) fresh) (hB : B ≤ w.heap.size) (hg : Right g) (hn : g.new = true) (hfree : g.free = []) (hkt : c.kind = c.target) (hwi : (Lit.int .i64 c.id).wf = true) (hwt : (Lit.int .i64 c.target).wf = true) :
    Calls Try.prog 92 #[.pointer (some ⟨S, 0, none⟩), .agg #[.int .i64 c.player, .int .i64 c.op, .int .i64 c.id, .int .i64 c.kind, .int .i64 c.x, .int .i64 c.y]] w (BGone w B S M (ordF (g, born) c).1 (.slice ua g.us.length cu) fresh) := by
  obtain ⟨W, hW⟩ : ∃ W, w.alloc (.cells #[.int .i64 c.player, .int .i64 c.op, .int .i64 c.id, .int .i64 c.kind, .int .i64 c.x, .int .i64 c.y] 73) = W := ⟨_, rfl⟩
  have hbW : Below w.heap.size w W := by rw [← hW]; exact (Below.refl _ _).alloc (Nat.le_refl _) _
  have kW : Blk W w.heap.size #[.int .i64 c.player, .int .i64 c.op, .int .i64 c.id, .int .i64 c.kind, .int .i64 c.x, .int .i64 c.y] := by rw [← hW]; exact Blk.new w _ _
  have HBW := Lib.hid hbW
  have KW := Lib.hid kW
  have HH := Lib.hid h
  have HHW := Lib.hid (h.call hbW)
  have HG := Lib.hid hg
  have HN := Lib.hid hn
  have HFR := Lib.hid hfree
  have HKT := Lib.hid hkt
  have lW := kW.lt
  have cW := kW.cell
  have hSlt := (h.call hbW).bd.lt
  have c5 : W.cell? ⟨S, 5, none⟩ = some (.map (some M)) := (h.call hbW).bd.2.1 5 (by omega)
  have hmp := (h.call hbW).mp
  obtain ⟨n0, s0, hn0, hM⟩ := hmp
  haveI := Cw.ne W
  have xS : ∀ x : Cw W, x.w.cell? ⟨S, 5, none⟩ = some (.map (some M)) := fun x => (x.cell _ _ hSlt).trans c5
  have xl : ∀ x : Cw W, S < x.w.heap.size ∧ w.heap.size < x.w.heap.size := fun x => by have := x.le; omega
  have xc : ∀ (x : Cw W) (k : Nat), x.w.cell? ⟨w.heap.size, k, none⟩ = (#[.int .i64 c.player, .int .i64 c.op, .int .i64 c.id, .int .i64 c.kind, .int .i64 c.x, .int .i64 c.y] : Array Value)[k]? := fun x k => (x.cell _ _ lW).trans (cW k)
  have HNO : Hid (∀ y, Below w.heap.size w y → (ordF (g, born) c).1 = g → BGone w B S M (ordF (g, born) c).1 (.slice ua g.us.length cu) fresh (.returned (.tuple #[])) y) := Lib.hid (fun y hy e => by
    rw [e]
    exact ⟨rfl, ua, cu, h.call hy, kp_of hy _⟩)
  have xLg : ∀ (id : Int), (Lit.int .i64 id).wf = true → ∀ x : Cw W, (Instr.lookup 155 (.map (some M)) (.int .i64 id) false).run Try.prog x.w = .ok ((whoV ua g.us id).getD (.pointer none)) x.w := fun id hid x =>
    (hM.call x.below).get (intKeys (by kernel_rfl)) (t := 155) (e := 161) (by kernel_rfl) (z := .pointer none) (by kernel_rfl) id hid
  have XLG := Lib.hid xLg
  have xL := xLg c.id hwi
  have HWT := Lib.hid hwt
  clear xLg hbW kW h hg hn hfree hkt hwi hwt hM c5
  go_enter Try.func92, Try.ntmps92
  go_upto_region 1 with fail
  try rw [hW]
  clear hW
  rcases ix_find g.us c.id with ⟨h1, -⟩ | ⟨k, u, h1, h2, h3, h4, hk⟩
  · -- nobody has that number
    have hwv : whoV ua g.us c.id = none := whoV_none h1
    rw [hwv] at xL
    replace xL : ∀ x : Cw W, (Instr.lookup 155 (.map (some M)) (.int .i64 c.id) false).run Try.prog x.w = .ok (.pointer none) x.w := xL
    have HX1 := Lib.hid h1
    clear hwv h1
    refine region_cw (by kernel_rfl) (by kernel_rfl) ?_
    repeat (go_big_quiet_step (fail))
    refine wpQuiet_nil ?_
    intro Z hZ
    have HZ := Lib.hid (HBW.out.trans (hZ.mono HBW.out.size))
    clear hZ xS xl xc xL lW cW hSlt
    go_upto_region 2 with fail
    haveI := Cw.ne Z
    refine region_cw (by kernel_rfl) (by kernel_rfl) ?_
    repeat (go_big_quiet_step (fail))
    refine wpQuiet_nil ?_
    intro Y hY
    have HY := Lib.hid (HZ.out.trans (hY.mono HZ.out.size))
    clear hY
    go_wp2_with fail
    go_end0
    refine HNO.out _ HY.out ?_
    unfold ordF
    rw [if_pos (Or.inl HX1.out)]
  · obtain ⟨gg, hua, hBgg, hgl, hfg, hlc⟩ := own_ua HHW.out.own (by omega)
    subst hua
    have hwv : whoV (some ⟨gg, 0, none⟩) g.us c.id = some (.pointer (some ⟨gg, k * 11, none⟩)) := whoV_some h1
    rw [hwv] at xL
    replace xL : ∀ x : Cw W, (Instr.lookup 155 (.map (some M)) (.int .i64 c.id) false).run Try.prog x.w = .ok (.pointer (some ⟨gg, k * 11, none⟩)) x.w := xL
    have HX1 := Lib.hid h1
    have HX3 := Lib.hid h3
    have HK := Lib.hid hk
    have HGG := Lib.hid hBgg
    have HGGW : Hid (gg < w.heap.size) := Lib.hid (by
      obtain ⟨gg2, e2, -, hgl2, -⟩ := own_ua HH.out.own (by omega)
      cases e2
      exact hgl2)
    clear hwv h1 h3 h4 h2 hBgg hgl hfg hlc
    refine region_cw (by kernel_rfl) (by kernel_rfl) ?_
    repeat (go_big_quiet_step (fail))
    refine wpQuiet_nil ?_
    intro Z hZ
    have HZ := Lib.hid (HBW.out.trans (hZ.mono HBW.out.size))
    have HZW := Lib.hid hZ
    have hgz := HHW.out.call hZ
    have HHZ := Lib.hid hgz
    have KZ := Lib.hid (KW.out.call hZ)
    obtain ⟨hgl, q0, q1, q2, q3, q4, q5, q6, q7, q8, q9, hfz⟩ := hgz.unit HK.out
    have hlz := KZ.out.lt
    have hcz := KZ.out.cell
    clear hZ xS xl xc xL lW cW hSlt
    go_upto_region 2 with fail
    haveI := Cw.ne Z
    have y1 : ∀ x : Cw Z, x.w.cell? ⟨gg, k * 11 + 1, none⟩ = some (.int .i64 u.owner) := fun x => (x.cell _ _ hgl).trans q1
    have yc : ∀ (x : Cw Z) (j : Nat), x.w.cell? ⟨w.heap.size, j, none⟩ = (#[.int .i64 c.player, .int .i64 c.op, .int .i64 c.id, .int .i64 c.kind, .int .i64 c.x, .int .i64 c.y] : Array Value)[j]? := fun x j => (x.cell _ _ hlz).trans (hcz j)
    have yl : ∀ x : Cw Z, gg < x.w.heap.size ∧ w.heap.size < x.w.heap.size := fun x => by have := x.le; omega
    by_cases how : u.owner = c.player
    case neg =>
      have d1 : (u.owner != c.player) = true := by simp [how]
      have HOW := Lib.hid how
      clear how
      refine region_cw (by kernel_rfl) (by kernel_rfl) ?_
      repeat (go_big_quiet_step (fail))
      refine wpQuiet_nil ?_
      intro Y hY
      have HY := Lib.hid (HZ.out.trans (hY.mono HZ.out.size))
      clear hY y1 yc yl
      go_wp2_with fail
      go_end0
      refine HNO.out _ HY.out ?_
      unfold ordF
      rw [if_pos (Or.inr (by rw [HX1.out, Int.toNat_natCast, HX3.out]; exact HOW.out))]
    have d1 : (u.owner != c.player) = false := by simp [how]
    have HOW := Lib.hid how
    clear how
    refine region_cw (by kernel_rfl) (by kernel_rfl) ?_
    repeat (go_big_quiet_step (fail))
    refine wpQuiet_nil ?_
    intro Y hY
    have HY := Lib.hid (HZ.out.trans (hY.mono HZ.out.size))
    have hgy := HHZ.out.call hY
    have HHY := Lib.hid hgy
    have KY := Lib.hid (KZ.out.call hY)
    have HYW := Lib.hid (HZW.out.trans (hY.mono HZW.out.size))
    clear hY y1 yc yl q0 q1 q2 q3 q4 q5 q6 q7 q8 q9 hfz hgl hlz hcz
    obtain ⟨hgl, q0, q1, q2, q3, q4, q5, q6, q7, q8, q9, hfz⟩ := hgy.unit HK.out
    have hlz := KY.out.lt
    have hcz := KY.out.cell
    have HND : Hid (∀ {s : GB}, s = (g, born) → ¬ (ixOf s.1.us c.id < 0 ∨ (s.1.us.getD (ixOf s.1.us c.id).toNat zeroU).owner ≠ c.player)) := Lib.hid (fun hs => by
      subst hs
      rintro (e | e)
      · rw [HX1.out] at e; omega
      · rw [HX1.out, Int.toNat_natCast, HX3.out] at e; exact e HOW.out)
    have HIX : Hid ((ixOf g.us c.id).toNat = k) := Lib.hid (by rw [HX1.out, Int.toNat_natCast])
    clear hgy d1
    have HKA : Hid (c.kind = c.target) := HKT
    have RET : Hid (∀ y us, (ordF (g, born) c).1 = { g with us := us } → Below w.heap.size w y → us = g.us → BGone w B S M (ordF (g, born) c).1 (.slice (some ⟨gg, 0, none⟩) g.us.length cu) fresh (.returned (.tuple #[])) y) := Lib.hid (fun y us e hy eu => HNO.out y hy (by rw [e, eu]))
    by_cases v1 : c.op = 1
    case pos =>
      have b1 : (c.op == 1) = true := by simp [v1]
      have HO : Hid ((ordF (g, born) c).1 = { g with us := goesF true g.us k c.x c.y }) := Lib.hid (by
        unfold ordF
        rw [if_neg (HND.out rfl), if_pos v1]
        dsimp only [withUs]
        rw [HIX.out, HN.out])
      clear v1
      go_wp2_with fail
      refine (rNewer u.kind _).mono ?_
      rintro e w1 ⟨rfl, bb⟩
      obtain ⟨r, hr⟩ : ∃ r, ruleOf true u.kind = r := ⟨_, rfl⟩
      have HR := Lib.hid hr
      rw [hr]
      have BB := Lib.hid bb
      clear bb hr
      go_upto_region 6 with fail
      refine gen_world (fun V => Below Y.heap.size Y V ∧ Blk V w1.heap.size #[.int .i64 r.cost, .int .i64 r.hp, .int .i64 r.speed, .int .i64 r.harm, .int .i64 r.range, .int .i64 r.load]) ⟨BB.out.alloc BB.out.size _, Blk.new _ _ _⟩ ?_
      rintro V ⟨bV, kR⟩
      obtain ⟨pR, hpR⟩ : ∃ n, w1.heap.size = n := ⟨_, rfl⟩
      rw [hpR] at kR
      try rw [hpR]
      have BV := Lib.hid bV
      have cR := kR.cell
      have lR := kR.lt
      have kc := KY.out.call bV
      have lcV := kc.lt
      have ccV := kc.cell
      clear hpR bV kR kc BB hlz hcz
      by_cases sp : 0 < r.speed
      case neg =>
        have e1 : decide (0 < r.speed) = false := decide_eq_false sp
        have HSP := Lib.hid sp
        clear sp
        go_wp2_with fail
        go_end0
        refine RET.out _ _ HO.out (HY.out.trans (BV.out.mono HY.out.size)) ?_
        unfold goesF
        rw [HX3.out, HR.out, if_neg (fun h => by have h1 := h.2; have h2 := HSP.out; omega)]
      have e1 : decide (0 < r.speed) = true := decide_eq_true sp
      have HSP := Lib.hid sp
      clear sp
      go_wp2_with fail
      refine (rOn c.x c.y _).mono ?_
      rintro e y ⟨rfl, rfl⟩
      obtain ⟨ON, hON⟩ : ∃ x, onB c.x c.y = x := ⟨_, rfl⟩
      have HON := Lib.hid hON
      rw [hON]
      clear hON
      cases ON
      case false =>
        go_wp2_with fail
        go_end0
        refine RET.out _ _ HO.out (HY.out.trans (BV.out.mono HY.out.size)) ?_
        unfold goesF
        rw [HX3.out, HR.out, if_neg (fun h => by rw [HON.out] at h; cases h.1)]
      go_wp2_with fail
      refine (set_any gg (k * 11) (1) (c.x) (c.y) (0) _ (by rw [(BV.out.cell (p := ⟨gg, _, none⟩) hgl).trans q6]; rfl) (by rw [(BV.out.cell (p := ⟨gg, _, none⟩) hgl).trans q7]; rfl) (by rw [(BV.out.cell (p := ⟨gg, _, none⟩) hgl).trans q8]; rfl) (by rw [(BV.out.cell (p := ⟨gg, _, none⟩) hgl).trans q9]; rfl) (fun i => (BV.out.frozen (p := ⟨gg, i, none⟩) hgl).trans (hfz i))).mono ?_
      rintro e w2 ⟨rfl, rfl⟩
      go_wp2_with fail
      go_end0
      have := told_gone HH.out (HY.out.trans (BV.out.mono HY.out.size)) rfl HK.out 1 c.x c.y 0
      rw [HO.out]
      have e : goesF true g.us k c.x c.y = g.us.set k (tellU u 1 c.x c.y 0) := by
        unfold goesF
        rw [HX3.out, HR.out, if_pos ⟨HON.out, HSP.out⟩]
      rw [e]
      exact this
    have b1 : (c.op == 1) = false := by simp [v1]
    have V1 := Lib.hid v1
    clear v1
    by_cases v2 : c.op = 2
    case pos =>
      have b2 : (c.op == 2) = true := by simp [v2]
      have V2 := Lib.hid v2
      clear v2
      go_upto_region 9 with fail
      haveI := Cw.ne Y
      have hSY := HHY.out.bd.lt
      have hS5 : Y.cell? ⟨S, 5, none⟩ = some (.map (some M)) := HHY.out.bd.2.1 5 (by omega)
      have zS : ∀ x : Cw Y, x.w.cell? ⟨S, 5, none⟩ = some (.map (some M)) := fun x => (x.cell _ _ hSY).trans hS5
      have zl : ∀ x : Cw Y, S < x.w.heap.size ∧ w.heap.size < x.w.heap.size := fun x => by have := x.le; omega
      have zc : ∀ (x : Cw Y) (j : Nat), x.w.cell? ⟨w.heap.size, j, none⟩ = (#[.int .i64 c.player, .int .i64 c.op, .int .i64 c.id, .int .i64 c.kind, .int .i64 c.x, .int .i64 c.y] : Array Value)[j]? := fun x j => (x.cell _ _ hlz).trans (hcz j)
      have zL : ∀ x : Cw Y, (Instr.lookup 155 (.map (some M)) (.int .i64 c.kind) false).run Try.prog x.w = .ok ((whoV (some ⟨gg, 0, none⟩) g.us c.target).getD (.pointer none)) x.w := fun x => by
        have := XLG.out c.target HWT.out ⟨x.w, HYW.out.trans (x.below.mono HYW.out.size)⟩
        rw [HKA.out]
        exact this
      clear hS5
      rcases ix_find g.us c.target with ⟨h1, -⟩ | ⟨k2, v, h1, h2, h3, h4, hk2⟩
      · have hwv : whoV (some ⟨gg, 0, none⟩) g.us c.target = none := whoV_none h1
        rw [hwv] at zL
        replace zL : ∀ x : Cw Y, (Instr.lookup 155 (.map (some M)) (.int .i64 c.kind) false).run Try.prog x.w = .ok (.pointer none) x.w := zL
        have HX2 := Lib.hid h1
        clear hwv h1
        refine region_cw (by kernel_rfl) (by kernel_rfl) ?_
        repeat (go_big_quiet_step (fail))
        refine wpQuiet_nil ?_
        intro Z2 hZ2
        have HZ2 := Lib.hid (HY.out.trans (hZ2.mono HY.out.size))
        clear hZ2 zS zl zc zL
        go_wp2_with fail
        go_end0
        refine HNO.out _ HZ2.out ?_
        unfold ordF
        rw [if_neg (HND.out rfl), if_neg V1.out, if_pos V2.out, if_pos HX2.out]
      · have hwv : whoV (some ⟨gg, 0, none⟩) g.us c.target = some (.pointer (some ⟨gg, k2 * 11, none⟩)) := whoV_some h1
        rw [hwv] at zL
        replace zL : ∀ x : Cw Y, (Instr.lookup 155 (.map (some M)) (.int .i64 c.kind) false).run Try.prog x.w = .ok (.pointer (some ⟨gg, k2 * 11, none⟩)) x.w := zL
        have HX2 := Lib.hid h1
        have HX4 := Lib.hid h3
        have HK2 := Lib.hid hk2
        clear hwv h1 h3 h4 h2 hk2
        refine region_cw (by kernel_rfl) (by kernel_rfl) ?_
        repeat (go_big_quiet_step (fail))
        refine wpQuiet_nil ?_
        intro Z2 hZ2
        have HZ2 := Lib.hid hZ2
        obtain ⟨hgl2, -, p1, p2, -⟩ := (HHY.out.call hZ2).unit HK.out
        obtain ⟨-, -, r1, r2, -⟩ := (HHY.out.call hZ2).unit HK2.out
        have kz := KY.out.call hZ2
        have lzz := kz.lt
        have czz := kz.cell
        clear hZ2 zS zl zc zL kz
        go_wp2_with fail
        refine (task_any u v gg (k * 11) gg (k2 * 11) _ hgl2 hgl2 p1 p2 r1 r2).mono ?_
        rintro e w3 ⟨rfl, b3⟩
        obtain ⟨mv, hmv⟩ : ∃ x, mayDo true u v = x := ⟨_, rfl⟩
        have HMV := Lib.hid hmv
        rw [hmv]
        have B3 := Lib.hid (HZ2.out.trans (b3.mono HZ2.out.size))
        have kz := KY.out.call (HZ2.out.trans (b3.mono HZ2.out.size))
        have HO : Hid ((ordF (g, born) c).1 = { g with us := aimsF true g.us k c.target mv }) := Lib.hid (by
          unfold ordF
          rw [if_neg (HND.out rfl), if_neg V1.out, if_pos V2.out, if_neg (by dsimp only; rw [HX2.out]; omega)]
          dsimp only [withUs]
          rw [HIX.out, HN.out, HX2.out, Int.toNat_natCast, HX3.out, HX4.out, hmv])
        clear b3 p1 p2 r1 r2 lzz czz hmv
        have lzz := kz.lt
        have czz := kz.cell
        clear kz
        by_cases h0 : mv = 0
        · have b0 : (mv != 0) = false := by simp [h0]
          have H0 := Lib.hid h0
          clear h0
          go_wp2_with fail
          go_end0
          refine RET.out _ _ HO.out (HY.out.trans (B3.out.mono HY.out.size)) ?_
          unfold aimsF
          rw [if_neg (fun h => by have := h.2.1; have := H0.out; omega)]
        · have b0 : (mv != 0) = true := by simp [h0]
          have H0 := Lib.hid h0
          clear h0
          go_wp2_with fail
          refine (set_any gg (k * 11) (mv) (0) (0) (c.kind) _ (by rw [(B3.out.cell (p := ⟨gg, _, none⟩) hgl).trans q6]; rfl) (by rw [(B3.out.cell (p := ⟨gg, _, none⟩) hgl).trans q7]; rfl) (by rw [(B3.out.cell (p := ⟨gg, _, none⟩) hgl).trans q8]; rfl) (by rw [(B3.out.cell (p := ⟨gg, _, none⟩) hgl).trans q9]; rfl) (fun i => (B3.out.frozen (p := ⟨gg, i, none⟩) hgl).trans (hfz i))).mono ?_
          rintro e w2 ⟨rfl, rfl⟩
          go_wp2_with fail
          go_end0
          have := told_gone HH.out (HY.out.trans (B3.out.mono HY.out.size)) rfl HK.out mv 0 0 c.kind
          rw [HO.out]
          have e : aimsF true g.us k c.target mv = g.us.set k (tellU u mv 0 0 c.kind) := by
            unfold aimsF
            rw [HX2.out, Int.toNat_natCast, HX3.out, HX4.out, HMV.out, if_pos ⟨by omega, by have := may_range true u v; have := H0.out; have := HMV.out; omega, rfl⟩, HKA.out]
          rw [e]
          exact this
    have b2 : (c.op == 2) = false := by simp [v2]
    have V2 := Lib.hid v2
    clear v2
    by_cases v3 : c.op = 3
    case pos =>
      have b3 : (c.op == 3) = true := by simp [v3]
      have HO : Hid ((ordF (g, born) c).1 = (buildsF (g, born) k c.kind c.x c.y).1) := Lib.hid (by
        unfold ordF
        rw [if_neg (HND.out rfl), if_neg V1.out, if_neg V2.out, if_pos v3]
        dsimp only
        rw [HIX.out])
      clear v3
      go_wp2_with fail
      have hr := raise_any B S M g born (some ⟨gg, 0, none⟩) cu fresh c k gg 0 u Y HHY.out (by have := HY.out.size; omega) HG.out HN.out HFR.out HK.out rfl
      rw [Nat.zero_add] at hr
      have HRR := Lib.hid hr
      clear hr
      refine HRR.out.mono ?_
      rintro e w3 ⟨rfl, ua3, cu3, g3, k3⟩
      have G3 := Lib.hid g3
      have K3 := Lib.hid k3
      clear g3 k3 HRR
      go_wp2_with fail
      go_end0
      rw [HO.out]
      exact ⟨rfl, ua3, cu3, G3.out, (kp_of HY.out _).trans K3.out (fun _ _ x => x)⟩
    have b3 : (c.op == 3) = false := by simp [v3]
    have V3 := Lib.hid v3
    clear v3
    by_cases v4 : c.op = 4
    case pos =>
      have b4 : (c.op == 4) = true := by simp [v4]
      have HO : Hid ((ordF (g, born) c).1 = { g with us := g.us.set k (tellU u 0 0 0 0) }) := Lib.hid (by
        unfold ordF
        rw [if_neg (HND.out rfl), if_neg V1.out, if_neg V2.out, if_neg V3.out, if_pos v4]
        dsimp only [withUs]
        rw [HIX.out, HX3.out])
      have BV := Lib.hid (Below.refl Y.heap.size Y)
      clear v4
      go_wp2_with fail
      refine (set_any gg (k * 11) (0) (0) (0) (0) _ (by rw [(BV.out.cell (p := ⟨gg, _, none⟩) hgl).trans q6]; rfl) (by rw [(BV.out.cell (p := ⟨gg, _, none⟩) hgl).trans q7]; rfl) (by rw [(BV.out.cell (p := ⟨gg, _, none⟩) hgl).trans q8]; rfl) (by rw [(BV.out.cell (p := ⟨gg, _, none⟩) hgl).trans q9]; rfl) (fun i => (BV.out.frozen (p := ⟨gg, i, none⟩) hgl).trans (hfz i))).mono ?_
      rintro e w2 ⟨rfl, rfl⟩
      go_wp2_with fail
      go_end0
      have := told_gone HH.out HY.out rfl HK.out 0 0 0 0
      rw [HO.out]
      exact this
    have b4 : (c.op == 4) = false := by simp [v4]
    have V4 := Lib.hid v4
    clear v4
    go_wp2_with fail
    go_end0
    refine HNO.out _ HY.out ?_
    unfold ordF
    rw [if_neg (HND.out rfl), if_neg V1.out, if_neg V2.out, if_neg V3.out, if_neg V4.out]
end Go.Proofs.Ytlfljlhppigejaa
