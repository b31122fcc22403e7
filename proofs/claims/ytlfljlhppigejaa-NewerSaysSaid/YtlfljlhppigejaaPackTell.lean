/-
  The document's game: one is told something; the walk of tell. The walks of what the document's answer asks of a game on its way: near, wish. (Printed by gen_refnear.py.) append of one, in a plain region, onto a row that is owned. (Printed by gen_refput.py.) The walk of the document's put. (Printed by gen_refput.py.) The walk of the document's stands. The walk of the document's wish. (Printed by gen_refwish.py.) The walks of the document's ids and of Ends' closure. (Printed by gen_refbuild.py.)
-/
import Derived.Test.YtlfljlhppigejaaPackRef
import Derived.Test.YtlfljlhppigejaaNewGame
import Derived.Test.YtlfljlhppigejaaPackPure
import Derived.Test.YtlfljlhppigejaaRulesLaw
namespace Go.Proofs.Ytlfljlhppigejaa
open Go.RowKit

/-- Where a row of units lies that is not empty. -/
theorem own_unit {w : World} {B : Nat} {v : Value} {us : List U} (h : w.ownsRow B 130 11 v us.length (cellsAllN us)) {i : Nat} (hi : i < us.length) : ∃ b c, v = .slice (some ⟨b, 0, none⟩) us.length c ∧ b < w.heap.size ∧ us.length ≤ maxLen := by
  rcases h.2 with ⟨-, h2⟩ | ⟨g, cap, cur, h1, -, -, h4, h5, -⟩
  · omega
  · subst h1
    exact ⟨g, cap, rfl, (World.ownsRow.lt h g rfl).2, by omega⟩
/-- The units' row has turned. -/
theorem GR.turn {w w' : World} {B S : Nat} {g : G} {born : List Int} {fv uv bv : Value} (h : GR w B S g born fv uv bv) (k : Kp (fun b => uv.ownBlock = some b) w w') {us : List U} (o : w'.ownsRow B 130 11 uv us.length (cellsAllN us)) : GR w' B S { g with us := us } born fv uv bv :=
  ⟨h.blk.kp k (fun e => h.su S e rfl), h.base, own_kp h.fr k h.fu, o, own_kp h.bo k (fun b hb e => h.ub b e hb), h.sf, h.su, h.sb, h.fu, h.fb, h.ub⟩
/-- One cell of a unit is written. -/
theorem GR.poke {w : World} {B S : Nat} {g : G} {born : List Int} {fv bv : Value} {gg n cu : Nat} (h : GR w B S g born fv (.slice (some ⟨gg, 0, none⟩) n cu) bv) (hn : g.us.length = n) {k j : Nat} (hk : k < n) (hj : j < 11) {v : Value} {u' : U} (hu : cellsN u' = (cellsN (g.us.getD k zeroU)).set j v) :
    GR (w.setCell ⟨gg, k * 11 + j, none⟩ v) B S { g with us := g.us.set k u' } born fv (.slice (some ⟨gg, 0, none⟩) n cu) bv ∧ Kp (fun b => b = gg) w (w.setCell ⟨gg, k * 11 + j, none⟩ v) := by
  subst hn
  obtain ⟨h1, -⟩ := World.ownsRow.stored h.us (k * 11 + j) v
  rw [cellsAllN_set hk hj hu] at h1
  have kp : Kp (fun b => b = gg) w (w.setCell ⟨gg, k * 11 + j, none⟩ v) := Kp.setCell w ⟨gg, k * 11 + j, none⟩ v
  exact ⟨h.turn (kp.imp (fun b _ e => by rw [e]; rfl)) (by rw [List.length_set]; exact h1), kp⟩
/-- One is told something. -/
theorem GR.tell {w : World} {B S : Nat} {g : G} {born : List Int} {fv bv : Value} {gg n cu : Nat} (h : GR w B S g born fv (.slice (some ⟨gg, 0, none⟩) n cu) bv) (hn : g.us.length = n) {k : Nat} {u : U} (hi : g.us[k]? = some u) (d x y t : Int) :
    GR ((((w.setCell ⟨gg, k * 11 + 6, none⟩ (.int .i64 d)).setCell ⟨gg, k * 11 + 7, none⟩ (.int .i64 x)).setCell ⟨gg, k * 11 + 8, none⟩ (.int .i64 y)).setCell ⟨gg, k * 11 + 9, none⟩ (.int .i64 t)) B S { g with us := g.us.set k (tellU u d x y t) } born fv (.slice (some ⟨gg, 0, none⟩) n cu) bv ∧
      Kp (fun b => b = gg) w ((((w.setCell ⟨gg, k * 11 + 6, none⟩ (.int .i64 d)).setCell ⟨gg, k * 11 + 7, none⟩ (.int .i64 x)).setCell ⟨gg, k * 11 + 8, none⟩ (.int .i64 y)).setCell ⟨gg, k * 11 + 9, none⟩ (.int .i64 t)) := by
  subst hn
  obtain ⟨hk, he⟩ := List.getElem?_eq_some_iff.1 hi
  have hd : g.us.getD k zeroU = u := by rw [getD_lt hk, he]
  have s1 : ∀ v : U, (g.us.set k v).getD k zeroU = v := fun v => by rw [getD_lt (by simpa using hk)]; simp
  obtain ⟨g1, k1⟩ := h.poke rfl hk (j := 6) (by decide) (v := .int .i64 d) (u' := { u with does := d }) (by rw [hd]; rfl)
  obtain ⟨g2, k2⟩ := g1.poke (k := k) (by simp) hk (j := 7) (by decide) (v := .int .i64 x) (u' := { u with does := d, gx := x }) (by rw [s1]; rfl)
  dsimp only at g2
  rw [List.set_set] at g2
  obtain ⟨g3, k3⟩ := g2.poke (k := k) (by simp) hk (j := 8) (by decide) (v := .int .i64 y) (u' := { u with does := d, gx := x, gy := y }) (by dsimp only; rw [s1]; rfl)
  dsimp only at g3
  rw [List.set_set] at g3
  obtain ⟨g4, k4⟩ := g3.poke (k := k) (by simp) hk (j := 9) (by decide) (v := .int .i64 t) (u' := { u with does := d, gx := x, gy := y, target := t }) (by dsimp only; rw [s1]; rfl)
  dsimp only at g4
  rw [List.set_set] at g4
  exact ⟨g4, ((k1.trans k2 (fun _ _ h => h)).trans k3 (fun _ _ h => h)).trans k4 (fun _ _ h => h)⟩
/-- What is there of a unit. -/
theorem GR.there {w : World} {B S : Nat} {g : G} {born : List Int} {fv bv : Value} {gg n cu : Nat} (h : GR w B S g born fv (.slice (some ⟨gg, 0, none⟩) n cu) bv) (hn : g.us.length = n) {k j : Nat} (hk : k < n) (hj : j < 11) : w.cell? ⟨gg, k * 11 + j, none⟩ = (cellsN (g.us.getD k zeroU))[j]? ∧ w.frozen? ⟨gg, k * 11 + j, none⟩ = false := by
  subst hn
  refine ⟨?_, World.ownsRow.frozenAt h.us _⟩
  rw [World.ownsRow.cellAt h.us _ (by omega), cellsAllN_get g.us k j hk hj]

/-- A store into the game's own block. -/
theorem GR.store {w : World} {B S : Nat} {g : G} {born : List Int} {fv uv bv : Value} (h : GR w B S g born fv uv bv) {i : Nat} (hi : i < 8) (v : Value) :
    Blk (w.setCell ⟨S, i, none⟩ v) S ((gameC g fv uv bv).setIfInBounds i v) ∧ (w.setCell ⟨S, i, none⟩ v).ownsRow B 3 1 fv g.free.length (intCells g.free) ∧
      (w.setCell ⟨S, i, none⟩ v).ownsRow B 130 11 uv g.us.length (cellsAllN g.us) ∧ (w.setCell ⟨S, i, none⟩ v).ownsRow B 3 1 bv born.length (intCells born) ∧ Kp (fun b => b = S) w (w.setCell ⟨S, i, none⟩ v) :=
  ⟨h.blk.store v (by show i < (gameC g fv uv bv).size; simpa [gameC] using hi), own_kp h.fr (Kp.setCell w ⟨S, i, none⟩ v) (fun b hb => h.sf b hb), own_kp h.us (Kp.setCell w ⟨S, i, none⟩ v) (fun b hb => h.su b hb), own_kp h.bo (Kp.setCell w ⟨S, i, none⟩ v) (fun b hb => h.sb b hb), Kp.setCell w ⟨S, i, none⟩ v⟩
theorem GR.setTick {w : World} {B S : Nat} {g : G} {born : List Int} {fv uv bv : Value} (h : GR w B S g born fv uv bv) (n : Int) : GR (w.setCell ⟨S, 1, none⟩ (.int .i64 n)) B S { g with tick := n } born fv uv bv :=
  let ⟨h1, h2, h3, h4, _⟩ := h.store (i := 1) (by decide) (.int .i64 n)
  ⟨by simpa [gameC] using h1, h.base, h2, h3, h4, h.sf, h.su, h.sb, h.fu, h.fb, h.ub⟩
theorem GR.setNext {w : World} {B S : Nat} {g : G} {born : List Int} {fv uv bv : Value} (h : GR w B S g born fv uv bv) (n : Int) : GR (w.setCell ⟨S, 4, none⟩ (.int .i64 n)) B S { g with next := n } born fv uv bv :=
  let ⟨h1, h2, h3, h4, _⟩ := h.store (i := 4) (by decide) (.int .i64 n)
  ⟨by simpa [gameC] using h1, h.base, h2, h3, h4, h.sf, h.su, h.sb, h.fu, h.fb, h.ub⟩
/-- A player's gold is set. -/
def setGold (g : G) (o n : Int) : G := if o = 0 then { g with g0 := n } else { g with g1 := n }
theorem GR.setGold {w : World} {B S : Nat} {g : G} {born : List Int} {fv uv bv : Value} (h : GR w B S g born fv uv bv) {o : Int} (ho : o = 0 ∨ o = 1) (n : Int) : GR (w.setCell ⟨S, 2 + o.toNat, none⟩ (.int .i64 n)) B S (setGold g o n) born fv uv bv := by
  rcases ho with rfl | rfl
  · obtain ⟨h1, h2, h3, h4, -⟩ := h.store (i := 2) (by decide) (.int .i64 n)
    exact ⟨by simpa [gameC, Go.Proofs.Ytlfljlhppigejaa.setGold] using h1, h.base, h2, h3, h4, h.sf, h.su, h.sb, h.fu, h.fb, h.ub⟩
  · obtain ⟨h1, h2, h3, h4, -⟩ := h.store (i := 3) (by decide) (.int .i64 n)
    exact ⟨by simpa [gameC, Go.Proofs.Ytlfljlhppigejaa.setGold] using h1, h.base, h2, h3, h4, h.sf, h.su, h.sb, h.fu, h.fb, h.ub⟩
/-- Another row of units. -/
theorem GR.setU {w : World} {B S : Nat} {g : G} {born : List Int} {fv uv bv uv' : Value} (h : GR w B S g born fv uv bv) {us : List U} (o : w.ownsRow B 130 11 uv' us.length (cellsAllN us)) (n1 : ∀ b, uv'.ownBlock = some b → b ≠ S ∧ fv.ownBlock ≠ some b ∧ bv.ownBlock ≠ some b) :
    GR (w.setCell ⟨S, 6, none⟩ uv') B S { g with us := us } born fv uv' bv := by
  obtain ⟨h1, h2, h3, h4, k⟩ := h.store (i := 6) (by decide) uv'
  exact ⟨by simpa [gameC] using h1, h.base, h2, own_kp o k (fun b hb => (n1 b hb).1), h4, h.sf, fun b hb => (n1 b hb).1, h.sb, fun b hb e => (n1 b e).2.1 hb, h.fb, fun b hb => (n1 b hb).2.2⟩
/-- Another row of free IDs. -/
theorem GR.setF {w : World} {B S : Nat} {g : G} {born : List Int} {fv uv bv fv' : Value} (h : GR w B S g born fv uv bv) {l : List Int} (o : w.ownsRow B 3 1 fv' l.length (intCells l)) (n1 : ∀ b, fv'.ownBlock = some b → b ≠ S ∧ uv.ownBlock ≠ some b ∧ bv.ownBlock ≠ some b) :
    GR (w.setCell ⟨S, 5, none⟩ fv') B S { g with free := l } born fv' uv bv := by
  obtain ⟨h1, h2, h3, h4, k⟩ := h.store (i := 5) (by decide) fv'
  exact ⟨by simpa [gameC] using h1, h.base, own_kp o k (fun b hb => (n1 b hb).1), h3, h4, fun b hb => (n1 b hb).1, h.su, h.sb, fun b hb => (n1 b hb).2.1, fun b hb => (n1 b hb).2.2, h.ub⟩
/-- What a game of the document's is left as, when nothing but its units has turned. -/
def TurnEnd (w : World) (B S : Nat) (g : G) (born : List Int) (fv uv bv : Value) (e : Ending) (w' : World) : Prop := e = .returned (.tuple #[]) ∧ GR w' B S g born fv uv bv ∧ Kp (fun b => uv.ownBlock = some b) w w'

set_option maxHeartbeats 1600000 in
set_option maxRecDepth 100000 in
theorem reftell_any (B S : Nat) (g : G) (born : List Int) (fv uv bv : Value) (i : Nat) (u : U) (d x y t : Int) (w : World) (h : GR w B S g born fv uv bv) (hi : g.us[i]? = some u) :
    Calls Try.prog 105 #[.pointer (some ⟨S, 0, none⟩), .int .i64 i, .int .i64 d, .int .i64 x, .int .i64 y, .int .i64 t] w (TurnEnd w B S { g with us := g.us.set i (tellU u d x y t) } born fv uv bv) := by
  obtain ⟨hlt, he⟩ := List.getElem?_eq_some_iff.1 hi
  have hu : g.us.getD i zeroU = u := by rw [getD_lt hlt, he]
  obtain ⟨b, cu, rfl, hbB, hml⟩ := own_unit h.us hlt
  obtain ⟨n, hn⟩ : ∃ n, g.us.length = n := ⟨_, rfl⟩
  rw [hn] at h hlt hml ⊢
  unfold maxLen at hml
  have hbS : b ≠ S := h.su b rfl
  have hSb : S ≠ b := fun e => hbS e.symm
  obtain ⟨lS, cS, fS⟩ := id h.blk
  have hin : (i : Int) < (n : Int) := by omega
  have hi0 : (0 : Int) ≤ (i : Int) := by omega
  have HH := Lib.hid h
  have HU := Lib.hid hu
  have HN := Lib.hid hn
  have HT := Lib.hid (h.tell hn hi d x y t)
  clear h hi he hu hn
  go_enter Try.func105, Try.ntmps105
  have c6 : w.cell? ⟨S, 6, none⟩ = some (.slice (some ⟨b, 0, none⟩) n cu) := cS 6
  obtain ⟨t6, f6⟩ := HH.out.there HN.out hlt (j := 6) (by decide)
  rw [HU.out] at t6
  have t6' : w.cell? ⟨b, i * 11 + 6, none⟩ = some (.int .i64 u.does) := t6
  obtain ⟨t7, f7⟩ := HH.out.there HN.out hlt (j := 7) (by decide)
  rw [HU.out] at t7
  have t7' : w.cell? ⟨b, i * 11 + 7, none⟩ = some (.int .i64 u.gx) := t7
  obtain ⟨t8, f8⟩ := HH.out.there HN.out hlt (j := 8) (by decide)
  rw [HU.out] at t8
  have t8' : w.cell? ⟨b, i * 11 + 8, none⟩ = some (.int .i64 u.gy) := t8
  obtain ⟨t9, f9⟩ := HH.out.there HN.out hlt (j := 9) (by decide)
  rw [HU.out] at t9
  have t9' : w.cell? ⟨b, i * 11 + 9, none⟩ = some (.int .i64 u.target) := t9
  clear cS fS t6 t7 t8 t9
  go_wp2_with fail
  go_end0
  exact ⟨rfl, HT.out.1, HT.out.2.imp (fun _ _ e => by rw [e]; rfl)⟩
end Go.Proofs.Ytlfljlhppigejaa
namespace Go.Proofs.Ytlfljlhppigejaa
open Go.RowKit
attribute [local go_sem] qOne qAt qUp

/-- A game of the document's that is read. -/
structure Reads (w : World) (S : Nat) (n : Bool) (us : List U) (ua : Option Addr) (m cu : Nat) : Prop where
  lt : S < w.heap.size
  c0 : w.cell? ⟨S, 0, none⟩ = some (.bool n)
  c6 : w.cell? ⟨S, 6, none⟩ = some (.slice ua m cu)
  row : URow true w.heap.size w ua us
  len : us.length = m
  few : m ≤ 1000
theorem Reads.call {w w' : World} {S : Nat} {n : Bool} {us : List U} {ua : Option Addr} {m cu : Nat} (h : Reads w S n us ua m cu) (hb : Below w.heap.size w w') : Reads w' S n us ua m cu :=
  ⟨Nat.lt_of_lt_of_le h.lt hb.size, (hb.cell (p := ⟨S, _, none⟩) h.lt).trans h.c0, (hb.cell (p := ⟨S, _, none⟩) h.lt).trans h.c6, (h.row.below hb).mono hb.size, h.len, h.few⟩
theorem GR.reads {w : World} {B S : Nat} {g : G} {born : List Int} {fv bv : Value} {ua : Option Addr} {m cu : Nat} (h : GR w B S g born fv (.slice ua m cu) bv) (hn : g.us.length = m) (hm : m ≤ 1000) : Reads w S g.new g.us ua m cu := by
  subst hn
  obtain ⟨a, c, e, -, h2, -⟩ := URow.of_ownN h.us
  cases e
  exact ⟨h.blk.lt, h.blk.cell 0, h.blk.cell 6, h2, rfl, hm⟩
theorem Reads.who {w : World} {S : Nat} {n : Bool} {us : List U} {ua : Option Addr} {m cu : Nat} (h : Reads w S n us ua m cu) (id : Int) (x : Cw w) :
    Calls Try.prog 100 #[.pointer (some ⟨S, 0, none⟩), .int .i64 id] x.w fun e w' => e = .returned (.int .i64 (ixOf us id)) ∧ x.w = w' :=
  who_any S ua m cu us id h.len (by have := h.few; omega) x.w (h.call x.below).c6 (h.call x.below).row

set_option maxHeartbeats 3200000 in
set_option maxRecDepth 100000 in
theorem refnear_any (S : Nat) (n : Bool) (us : List U) (ua : Option Addr) (m cu : Nat) (u v : U) (k : Nat) (w : World) (h : Reads w S n us ua m cu) (hk : ixOf us u.target = k) (hv : us.getD k zeroU = v) (hu : 0 ≤ u.x ∧ u.x < 12 ∧ 0 ≤ u.y ∧ u.y < 12) (hvb : 0 ≤ v.x ∧ v.x < 12 ∧ 0 ≤ v.y ∧ v.y < 12) :
    Calls Try.prog 171 #[.pointer (some ⟨S, 0, none⟩), .agg #[.int .i64 u.id, .int .i64 u.owner, .int .i64 u.kind, .int .i64 u.x, .int .i64 u.y, .int .i64 u.hp, .int .i64 u.does, .int .i64 u.gx, .int .i64 u.gy, .int .i64 u.target, .int .i64 u.since]] w fun e w' => e = .returned (.bool (nearF n us u)) ∧ Below w.heap.size w w' := by
  obtain ⟨hkl, -⟩ := ixOf_lt hk
  obtain ⟨W, hW⟩ : ∃ W, w.alloc (.cells #[.int .i64 u.id, .int .i64 u.owner, .int .i64 u.kind, .int .i64 u.x, .int .i64 u.y, .int .i64 u.hp, .int .i64 u.does, .int .i64 u.gx, .int .i64 u.gy, .int .i64 u.target, .int .i64 u.since] 130) = W := ⟨_, rfl⟩
  have hbW : Below w.heap.size w W := by rw [← hW]; exact (Below.refl _ _).alloc (Nat.le_refl _) _
  have kW : Blk W w.heap.size #[.int .i64 u.id, .int .i64 u.owner, .int .i64 u.kind, .int .i64 u.x, .int .i64 u.y, .int .i64 u.hp, .int .i64 u.does, .int .i64 u.gx, .int .i64 u.gy, .int .i64 u.target, .int .i64 u.since] := by rw [← hW]; exact Blk.new w _ _
  have hR := h.call hbW
  obtain ⟨b, o, rfl, hbB, v0, v1, v2, v3, v4, v5, v6, v7, v8, v9, v10⟩ := hR.row.getN k hkl v hv
  have hkm : (k : Int) < (m : Int) := by have := hR.len; omega
  have hk0 : (0 : Int) ≤ (k : Int) := by omega
  have c0 := hR.c0
  have c6 := hR.c6
  have lS := hR.lt
  obtain ⟨lW, cW, -⟩ := id kW
  have WHO : Hid (∀ x : Cw W, Calls Try.prog 100 #[.pointer (some ⟨S, 0, none⟩), .int .i64 u.target] x.w fun e w' => e = .returned (.int .i64 k) ∧ x.w = w') := Lib.hid (fun x => by
    have := hR.who u.target x
    rw [hk] at this
    exact this)
  have HNR : Hid (nearF n us u = decide ((u.does = 3 ∧ far u.x u.y v.x v.y ≤ 1) ∨ (u.does = 2 ∧ far u.x u.y v.x v.y ≤ (ruleOf n u.kind).range))) := Lib.hid (by
    show _ = _
    unfold nearF
    rw [hk]
    simp only [Int.toNat_natCast, hv])
  have HBW := Lib.hid hbW
  have KW := Lib.hid kW
  have HR := Lib.hid hR
  obtain ⟨hu0, hu1, hu2, hu3⟩ := hu
  obtain ⟨hv0, hv1, hv2, hv3⟩ := hvb
  clear h hk hv hbW kW hR
  go_enter Try.func171, Try.ntmps171
  go_upto_region 1 with fail
  try rw [hW]
  clear hW
  haveI := Cw.ne W
  have hcw := fun (x : Cw W) => x.cell
  refine region_loose 10 (by kernel_rfl) (by kernel_rfl) ?_
  repeat (refine wpQB_step (fun K hK => ?_); go_simp; first | (refine hK _ ?_; clear hK K) | (apply Exists.intro; refine ⟨fun x => ?_, hK _ ?_⟩; (first | (go_at_call 100; refine (WHO.out x).mono ?_; rintro e w1 ⟨rfl, rfl⟩; exact ⟨rfl, Below.refl _ _⟩)); clear hK K))
  refine wpQB_nil ?_
  refine tail_var (T := 130) (d := 5) (r := 18) (c := #[.int .i64 v.id, .int .i64 v.owner, .int .i64 v.kind, .int .i64 v.x, .int .i64 v.y, .int .i64 v.hp, .int .i64 v.does, .int .i64 v.gx, .int .i64 v.gy, .int .i64 v.target, .int .i64 v.since]) #[.int .i64 0, .int .i64 0, .int .i64 0, .int .i64 0, .int .i64 0, .int .i64 0, .int .i64 0, .int .i64 0, .int .i64 0, .int .i64 0, .int .i64 0] rfl rfl rfl rfl (fun _ => rfl) (fun w => by simp [go_sem]) (fun _ => rfl) (by simp) rfl (by kernel_rfl) (by simp [Value.oneCell']) (fun p => ?_)
  refine tail_nil ?_
  rintro w1 ⟨hb, hp, hk⟩
  clear hcw v0 v1 v2 v3 v4 v5 v6 v7 v8 v9 v10 cW c0 c6 WHO
  have hs1 := hb.size
  have c0 := (HR.out.call hb).c0
  have lS1 := (HR.out.call hb).lt
  obtain ⟨lW1, cW1, -⟩ := id (KW.out.call hb)
  obtain ⟨lV1, cV1, -⟩ := id hk
  have HV1 := Lib.hid hk
  have HU1 := Lib.hid (KW.out.call hb)
  have HB1 := Lib.hid (HBW.out.trans (hb.mono HBW.out.size))
  clear hb hk hp lS lW KW HR HBW hbB
  go_upto_region 2 with fail
  haveI := Cw.ne w1
  have hcw := fun (x : Cw w1) => x.cell
  refine region_loose 10 (by kernel_rfl) (by kernel_rfl) ?_
  repeat (refine wpQB_step (fun K hK => ?_); go_simp; first | (refine hK _ ?_; clear hK K) | (apply Exists.intro; refine ⟨fun x => ?_, hK _ ?_⟩; (first | (go_at_call 20; refine (refRule_any n u.kind _).mono ?_; rintro e w1 ⟨rfl, b1⟩; exact ⟨rfl, b1⟩)); clear hK K))
  refine wpQB_nil ?_
  refine tail_var (T := 36) (d := 6) (r := 27) (c := #[.int .i64 (ruleOf n u.kind).cost, .int .i64 (ruleOf n u.kind).hp, .int .i64 (ruleOf n u.kind).speed, .int .i64 (ruleOf n u.kind).harm, .int .i64 (ruleOf n u.kind).range, .int .i64 (ruleOf n u.kind).load]) #[.int .i64 0, .int .i64 0, .int .i64 0, .int .i64 0, .int .i64 0, .int .i64 0] rfl rfl rfl rfl (fun _ => rfl) (fun w => by simp [go_sem]) (fun _ => rfl) (by simp) rfl (by kernel_rfl) (by simp [Value.oneCell']) (fun p => ?_)
  refine tail_value (.bool (isRule n u.kind)) rfl (fun w => by simp [go_sem]) ?_
  refine tail_nil ?_
  rintro w2 ⟨hb, hp, hk⟩
  obtain ⟨r, hr⟩ : ∃ r, ruleOf n u.kind = r := ⟨_, rfl⟩
  rw [hr] at hk HNR
  try rw [hr]
  obtain ⟨lR2, cR2, -⟩ := id hk
  obtain ⟨lW2, cW2, -⟩ := id (HU1.out.call hb)
  obtain ⟨lV2, cV2, -⟩ := id (HV1.out.call hb)
  have HB2 := Lib.hid (HB1.out.trans (hb.mono HB1.out.size))
  clear hcw hb hk hp hr cW1 cV1 c0
  go_wp2_with fail
  refine (refFar u.x u.y v.x v.y _ (by omega) (by omega) (by omega) (by omega)).mono ?_
  rintro e w3 ⟨rfl, rfl⟩
  obtain ⟨d, hd⟩ : ∃ d, far u.x u.y v.x v.y = d := ⟨_, rfl⟩
  rw [hd] at HNR ⊢
  clear hd
  by_cases h3 : u.does = 3
  · have d3 : (u.does == 3) = true := by simp [h3]
    have d2 : (u.does == 2) = false := by simp [h3]
    have H3 := Lib.hid h3
    clear h3
    by_cases hn : d ≤ 1
    · have dn : decide (d ≤ 1) = true := decide_eq_true hn
      have HN := Lib.hid hn
      clear hn
      go_wp2_with fail
      go_ret
      refine ⟨ret1 (boolv ?_), HB2.out⟩
      rw [HNR.out]
      exact (decide_eq_true (Or.inl ⟨H3.out, HN.out⟩)).symm
    · have dn : decide (d ≤ 1) = false := decide_eq_false hn
      have HN := Lib.hid hn
      clear hn
      go_wp2_with fail
      go_ret
      refine ⟨ret1 (boolv ?_), HB2.out⟩
      rw [HNR.out]
      refine (decide_eq_false ?_).symm
      rintro (h | h)
      · have h1 := HN.out; have h2 := h.2; omega
      · have := H3.out; omega
  · have d3 : (u.does == 3) = false := by simp [h3]
    have H3 := Lib.hid h3
    clear h3
    by_cases h2 : u.does = 2
    · have d2 : (u.does == 2) = true := by simp [h2]
      have H2 := Lib.hid h2
      clear h2
      go_wp2_with fail
      go_ret
      refine ⟨ret1 (boolv ?_), HB2.out⟩
      rw [HNR.out]
      have e2 := H2.out
      have e3 := H3.out
      apply decide_eq_decide.2
      omega
    · have d2 : (u.does == 2) = false := by simp [h2]
      have H2 := Lib.hid h2
      clear h2
      go_wp2_with fail
      go_ret
      refine ⟨ret1 (boolv ?_), HB2.out⟩
      rw [HNR.out]
      refine (decide_eq_false ?_).symm
      have e2 := H2.out
      have e3 := H3.out
      omega
end Go.Proofs.Ytlfljlhppigejaa
namespace Go.Proofs.Ytlfljlhppigejaa
open Go.RowKit

theorem cellsN_one (z : U) : ∀ q ∈ cellsN z, q.oneCell' = true := by
  have := cellsAllN_one [z]
  unfold cellsAllN at this
  simpa using this
theorem push_unit {w : World} {base : Nat} {v : Value} {n : Nat} {us : List U} (own : w.ownsRow base 130 11 v n (cellsAllN us)) (hn : n ≤ 100000) (hb : base ≤ w.heap.size) (z : U) :
    ∃ g cap w', (Builtin.append_ #[63, 63] 63 #[v, .slice (some ⟨w.heap.size, 0, none⟩) 1 1]).run Try.prog (w.alloc (.cells #[.int .i64 z.id, .int .i64 z.owner, .int .i64 z.kind, .int .i64 z.x, .int .i64 z.y, .int .i64 z.hp, .int .i64 z.does, .int .i64 z.gx, .int .i64 z.gy, .int .i64 z.target, .int .i64 z.since] 130)) = .ok (.slice (some ⟨g, 0, none⟩) (n + 1) cap) w' ∧
      w'.ownsRow base 130 11 (.slice (some ⟨g, 0, none⟩) (n + 1) cap) (n + 1) (cellsAllN (us ++ [z])) ∧ Kp (fun b => v.ownBlock = some b) w w' ∧ (v.ownBlock = some g ∨ w.heap.size ≤ g) := by
  obtain ⟨i1, hj0, hj1, hj2, hj3⟩ := info_parts infoUnit
  have hbz : Below w.heap.size w (w.alloc (.cells #[.int .i64 z.id, .int .i64 z.owner, .int .i64 z.kind, .int .i64 z.x, .int .i64 z.y, .int .i64 z.hp, .int .i64 z.does, .int .i64 z.gx, .int .i64 z.gy, .int .i64 z.target, .int .i64 z.since] 130)) := (Below.refl _ _).alloc (Nat.le_refl _) _
  have oB := own_kp own (kp_of hbz (fun _ => False)) (fun _ _ x => x)
  obtain ⟨g2, cap, w5, r5, own5, grow5, hat5, lt5⟩ := run_append_lies (P := Try.prog) (w.alloc (.cells #[.int .i64 z.id, .int .i64 z.owner, .int .i64 z.kind, .int .i64 z.x, .int .i64 z.y, .int .i64 z.hp, .int .i64 z.does, .int .i64 z.gx, .int .i64 z.gy, .int .i64 z.target, .int .i64 z.since] 130)) 63 63 base 130 i1 _ 11 88 Try.underlying63 hj0 hj1 hj2 hj3 rfl (by omega) v n (cellsAllN us) oB ⟨w.heap.size, 0, none⟩ 1 1 (cellsN z) rfl
    (World.news_of_block (cs := #[.int .i64 z.id, .int .i64 z.owner, .int .i64 z.kind, .int .i64 z.x, .int .i64 z.y, .int .i64 z.hp, .int .i64 z.does, .int .i64 z.gx, .int .i64 z.gy, .int .i64 z.target, .int .i64 z.since]) (t := 130) (fr := (0, 0)) (heap_alloc_new w _)) (cellsN_one z) (by omega) (by unfold maxLen; omega) (by omega) (Nat.le_trans hb hbz.size) (w.heap.size + 1) (by simp)
  refine ⟨g2, cap, w5, r5, ?_, ((kp_of hbz _).trans (Kp.grown grow5) (fun k _ hk => hk.symm)), ?_⟩
  · have e : cellsAllN (us ++ [z]) = cellsAllN us ++ cellsN z := by rw [cellsAllN_append]; unfold cellsAllN; simp
    rw [e]
    exact own5
  · rcases hat5 with h | h
    · exact Or.inl h
    · exact Or.inr (by omega)
theorem push_int {w : World} {base : Nat} {v : Value} {n : Nat} {l : List Int} (own : w.ownsRow base 3 1 v n (intCells l)) (hn : n ≤ 100000) (hb : base ≤ w.heap.size) (z : Int) :
    ∃ g cap w', (Builtin.append_ #[87, 87] 87 #[v, .slice (some ⟨w.heap.size, 0, none⟩) 1 1]).run Try.prog (w.alloc (.cells #[.int .i64 z] 3)) = .ok (.slice (some ⟨g, 0, none⟩) (n + 1) cap) w' ∧
      w'.ownsRow base 3 1 (.slice (some ⟨g, 0, none⟩) (n + 1) cap) (n + 1) (intCells (l ++ [z])) ∧ Kp (fun b => v.ownBlock = some b) w w' ∧ (v.ownBlock = some g ∨ w.heap.size ≤ g) := by
  obtain ⟨i1, hj0, hj1, hj2, hj3⟩ := info_parts infoInt
  have hbz : Below w.heap.size w (w.alloc (.cells #[.int .i64 z] 3)) := (Below.refl _ _).alloc (Nat.le_refl _) _
  have oB := own_kp own (kp_of hbz (fun _ => False)) (fun _ _ x => x)
  obtain ⟨g2, cap, w5, r5, own5, grow5, hat5, lt5⟩ := run_append_lies (P := Try.prog) (w.alloc (.cells #[.int .i64 z] 3)) 87 87 base 3 i1 _ 1 8 Try.underlying87 hj0 hj1 hj2 hj3 rfl (by omega) v n (intCells l) oB ⟨w.heap.size, 0, none⟩ 1 1 [.int .i64 z] rfl
    (World.news_of_block (cs := #[.int .i64 z]) (t := 3) (fr := (0, 0)) (heap_alloc_new w _)) (by intro q hq; simp at hq; rw [hq]; rfl) (by omega) (by unfold maxLen; omega) (by omega) (Nat.le_trans hb hbz.size) (w.heap.size + 1) (by simp)
  refine ⟨g2, cap, w5, r5, ?_, ((kp_of hbz _).trans (Kp.grown grow5) (fun k _ hk => hk.symm)), ?_⟩
  · have e : intCells (l ++ [z]) = intCells l ++ [.int .i64 z] := by simp [intCells]
    rw [e]
    exact own5
  · rcases hat5 with h | h
    · exact Or.inl h
    · exact Or.inr (by omega)
end Go.Proofs.Ytlfljlhppigejaa
namespace Go.Proofs.Ytlfljlhppigejaa
open Go.RowKit
attribute [local go_sem] qOne qAt qUp

set_option maxHeartbeats 6400000 in
set_option maxRecDepth 100000 in
theorem refput_any (B S : Nat) (g : G) (born : List Int) (fv uv bv : Value) (u : U) (w : World) (h : GR w B S g born fv uv bv) (hfew : g.us.length ≤ 1000) :
    Calls Try.prog 154 #[.pointer (some ⟨S, 0, none⟩), .agg #[.int .i64 u.id, .int .i64 u.owner, .int .i64 u.kind, .int .i64 u.x, .int .i64 u.y, .int .i64 u.hp, .int .i64 u.does, .int .i64 u.gx, .int .i64 u.gy, .int .i64 u.target, .int .i64 u.since]] w fun e w' => e = .returned (.tuple #[]) ∧ (∃ uv', GR w' B S { g with us := insU g.us u } born fv uv' bv ∧ ∀ b, uv'.ownBlock = some b → w.heap.size ≤ b) ∧ Kp (fun b => b = S) w w' := by
  obtain ⟨ua, cu, rfl, hml, -, -⟩ := URow.of_ownN h.us
  obtain ⟨m, hm⟩ : ∃ m, g.us.length = m := ⟨_, rfl⟩
  rw [hm] at h hfew hml
  obtain ⟨W, hW⟩ : ∃ W, w.alloc (.cells #[.int .i64 u.id, .int .i64 u.owner, .int .i64 u.kind, .int .i64 u.x, .int .i64 u.y, .int .i64 u.hp, .int .i64 u.does, .int .i64 u.gx, .int .i64 u.gy, .int .i64 u.target, .int .i64 u.since] 130) = W := ⟨_, rfl⟩
  have hbW : Below w.heap.size w W := by rw [← hW]; exact (Below.refl _ _).alloc (Nat.le_refl _) _
  have kW : Blk W w.heap.size #[.int .i64 u.id, .int .i64 u.owner, .int .i64 u.kind, .int .i64 u.x, .int .i64 u.y, .int .i64 u.hp, .int .i64 u.does, .int .i64 u.gx, .int .i64 u.gy, .int .i64 u.target, .int .i64 u.since] := by rw [← hW]; exact Blk.new w _ _
  have hsW := hbW.size
  have hR := (h.reads hm hfew).call hbW
  have lSw := h.blk.lt
  have HH := Lib.hid h
  have HR := Lib.hid hR
  have HBW := Lib.hid hbW
  have KW := Lib.hid kW
  have HM := Lib.hid hm
  have hm0 : (0 : Int) ≤ (m : Int) := by omega
  clear h hR hbW kW hm
  go_enter Try.func154, Try.ntmps154
  go_upto_region 1 with fail
  try rw [hW]
  clear hW
  go_wp2_with fail
  go_loopw [4, 5, 6] (fun lv dv iv wr => ∃ k : Nat, iv = .int .i64 k ∧ k ≤ m ∧ dv = .bool (laidK g.us u k) ∧ ((∃ L, (putK g.us u k).length = L ∧ wr.ownsRow W.heap.size 130 11 lv L (cellsAllN (putK g.us u k))) ∧ Below W.heap.size W wr)) (fun _ _ iv _ => (m - intOf iv).toNat)
  case atStart => exact ⟨0, rfl, by omega, by rw [laid_zero], ⟨0, by rw [put_zero]; rfl, by rw [put_zero]; exact World.ownsRow_nil _ _ _ _⟩, Below.refl _ _⟩
  case round =>
    obtain ⟨k, rfl, hk, rfl, ⟨L, hL, own⟩, hX⟩ := hrel
    obtain ⟨la, lc, rfl⟩ := own_slice own
    have hszr := hX.size
    have hRr := HR.out.call hX
    have lSr := hRr.lt
    have c6 := hRr.c6
    obtain ⟨lU, cU, -⟩ := id (KW.out.call hX)
    have hLm : L ≤ 1001 := by have := putK_length g.us u k; rw [HM.out] at this; omega
    have OWN := Lib.hid own
    have HX := Lib.hid hX
    have HL := Lib.hid hL
    have HRR := Lib.hid hRr
    have LVB := Lib.hid (fun b hb => (World.ownsRow.lt own b hb).1 : ∀ b, (Value.slice la L lc).ownBlock = some b → W.heap.size ≤ b)
    have LVL := Lib.hid (fun b hb => (World.ownsRow.lt own b hb).2 : ∀ b, (Value.slice la L lc).ownBlock = some b → b < wr.heap.size)
    obtain ⟨LD, hLD⟩ : ∃ LD, laidK g.us u k = LD := ⟨_, rfl⟩
    have HLD := Lib.hid hLD
    rw [hLD]
    clear own hX hL hRr hLD
    have hki : (0 : Int) ≤ (k : Int) := by omega
    by_cases hlt : k < m
    · have hkl : (k : Int) < (m : Int) := by omega
      obtain ⟨v, hv⟩ : ∃ v, g.us.getD k zeroU = v := ⟨_, rfl⟩
      have hlu : k < g.us.length := by have := HM.out; omega
      obtain ⟨b, o, rfl, hbB, q0, q1, q2, q3, q4, q5, q6, q7, q8, q9, q10⟩ := HRR.out.row.getN k hlu v hv
      have HV := Lib.hid hv
      have HLU := Lib.hid hlu
      clear hv hlu
      go_upto_region 6 with fail
      haveI := Cw.ne wr
      have hcw := fun (x : Cw wr) => x.cell
      cases LD
      case true =>
        refine region_cw (by kernel_rfl) (by kernel_rfl) ?_
        repeat (go_big_quiet_step (fail))
        refine wpQuiet_nil ?_
        intro Z hZ
        have hsz := hZ.size
        have ownZ := own_kp OWN.out (kp_of hZ (fun _ => False)) (fun _ _ x => x)
        obtain ⟨g5, cap5, w5, r5, own5, k5, hat5⟩ := push_unit ownZ (by omega) (by omega) v
        have lbz : b < Z.heap.size := by omega
        have lSz : S < Z.heap.size := by omega
        obtain ⟨b', o', ea, -, q0, q1, q2, q3, q4, q5, q6, q7, q8, q9, q10⟩ := (HRR.out.call hZ).row.getN k HLU.out v HV.out
        cases ea
        have c6 := (HRR.out.call hZ).c6
        have OWN5 := Lib.hid own5
        have K5 := Lib.hid k5
        have HZ := Lib.hid hZ
        clear ownZ own5 k5 hZ hcw
        go_wp2_with (at_builtin; refine list_run_append (by rfl) _ _ _ _ (by rfl) (by rfl) (by rfl) (by rfl) r5 ?_)
        go_roundw
        case rel =>
          refine ⟨k + 1, by go_num, by omega, ?_, ⟨L + 1, ?_, ?_⟩, ?_⟩
          · rw [laid_next HLU.out HV.out, HLD.out]; rfl
          · rw [put_laid HLU.out HV.out HLD.out, List.length_append, HL.out]; rfl
          · rw [put_laid HLU.out HV.out HLD.out]; exact OWN5.out
          · exact HX.out.trans ((HZ.out.mono hszr).trans (K5.out.below (fun b hb => LVB.out b hb) (by omega)))
        case measure => simp [intOf]; omega
      case false =>
        by_cases hid : u.id < v.id
        case neg =>
          have d1 : decide (u.id < v.id) = false := decide_eq_false hid
          have HID := Lib.hid hid
          clear hid
          refine region_cw (by kernel_rfl) (by kernel_rfl) ?_
          repeat (go_big_quiet_step (fail))
          refine wpQuiet_nil ?_
          intro Z hZ
          have hsz := hZ.size
          have ownZ := own_kp OWN.out (kp_of hZ (fun _ => False)) (fun _ _ x => x)
          obtain ⟨g5, cap5, w5, r5, own5, k5, hat5⟩ := push_unit ownZ (by omega) (by omega) v
          have lbz : b < Z.heap.size := by omega
          have lSz : S < Z.heap.size := by omega
          obtain ⟨b', o', ea, -, q0, q1, q2, q3, q4, q5, q6, q7, q8, q9, q10⟩ := (HRR.out.call hZ).row.getN k HLU.out v HV.out
          cases ea
          have c6 := (HRR.out.call hZ).c6
          have OWN5 := Lib.hid own5
          have K5 := Lib.hid k5
          have HZ := Lib.hid hZ
          clear ownZ own5 k5 hZ hcw
          go_wp2_with (at_builtin; refine list_run_append (by rfl) _ _ _ _ (by rfl) (by rfl) (by rfl) (by rfl) r5 ?_)
          go_roundw
          case rel =>
            refine ⟨k + 1, by go_num, by omega, ?_, ⟨L + 1, ?_, ?_⟩, ?_⟩
            · rw [laid_next HLU.out HV.out, HLD.out, decide_eq_false HID.out]; rfl
            · rw [put_later HLU.out HV.out HLD.out HID.out, List.length_append, HL.out]; rfl
            · rw [put_later HLU.out HV.out HLD.out HID.out]; exact OWN5.out
            · exact HX.out.trans ((HZ.out.mono hszr).trans (K5.out.below (fun b hb => LVB.out b hb) (by omega)))
          case measure => simp [intOf]; omega
        case pos =>
          have d1 : decide (u.id < v.id) = true := decide_eq_true hid
          have HID := Lib.hid hid
          clear hid
          refine region_cw (by kernel_rfl) (by kernel_rfl) ?_
          repeat (go_big_quiet_step (fail))
          refine wpQuiet_nil ?_
          intro Z hZ
          have hsz := hZ.size
          have ownZ := own_kp OWN.out (kp_of hZ (fun _ => False)) (fun _ _ x => x)
          obtain ⟨g5, cap5, w5, r5, own5, k5, hat5⟩ := push_unit ownZ (by omega) (by omega) u
          have lUz : w.heap.size < Z.heap.size := by omega
          obtain ⟨-, cUZ, -⟩ := id (KW.out.call (HX.out.trans (hZ.mono hszr)))
          have OWN5 := Lib.hid own5
          have K5 := Lib.hid k5
          have HZ := Lib.hid hZ
          have HAT := Lib.hid hat5
          clear ownZ own5 k5 hZ hcw q0 q1 q2 q3 q4 q5 q6 q7 q8 q9 q10 c6 cU
          go_upto_region 8 with (at_builtin; refine list_run_append (by rfl) _ _ _ _ (by rfl) (by rfl) (by rfl) (by rfl) r5 ?_)
          clear r5 cUZ
          have hb5 : Below W.heap.size W w5 := HX.out.trans ((HZ.out.mono hszr).trans (K5.out.below (fun b hb => LVB.out b hb) (by omega)))
          have hR5 := HR.out.call hb5
          obtain ⟨b', o', ea, hbB5, q0, q1, q2, q3, q4, q5, q6, q7, q8, q9, q10⟩ := hR5.row.getN k HLU.out v HV.out
          cases ea
          have c6 := hR5.c6
          have lS5 := hR5.lt
          obtain ⟨g6, cap6, w6, r6, own6, k6, hat6⟩ := push_unit OWN5.out (by omega) (by have := hb5.size; omega) v
          have HB5 := Lib.hid hb5
          have OWN6 := Lib.hid own6
          have K6 := Lib.hid k6
          have hs5 := hb5.size
          clear hb5 hR5 own6 k6
          go_wp2_with (at_builtin; refine list_run_append (by rfl) _ _ _ _ (by rfl) (by rfl) (by rfl) (by rfl) r6 ?_)
          go_roundw
          case rel =>
            refine ⟨k + 1, by go_num, by omega, ?_, ⟨L + 1 + 1, ?_, ?_⟩, ?_⟩
            · rw [laid_next HLU.out HV.out, HLD.out, decide_eq_true HID.out]; rfl
            · rw [put_here HLU.out HV.out HLD.out HID.out, List.length_append, List.length_append, HL.out]; rfl
            · rw [put_here HLU.out HV.out HLD.out HID.out]; exact OWN6.out
            · exact HB5.out.trans (K6.out.below (fun b hb => (World.ownsRow.lt OWN5.out b hb).1) (by omega))
          case measure => simp [intOf]; omega
    · obtain rfl : k = m := by omega
      clear hki
      have hb : Below w.heap.size w wr := HBW.out.trans (HX.out.mono hsW)
      have HG := Lib.hid (HH.out.call hb)
      have HB := Lib.hid hb
      have lB := HH.out.base
      clear hb
      cases LD
      case true =>
        obtain ⟨lS2, cS2, fS2⟩ := id HG.out.blk

        go_wp2_with fail
        go_end0
        have hpe := put_end_laid (us := g.us) (u := u) (by rw [HM.out]; exact HLD.out)
        rw [HM.out] at hpe
        have own := OWN.out
        rw [hpe] at own
        have hl := HL.out
        rw [hpe] at hl
        have own2 : wr.ownsRow B 130 11 (.slice la L lc) (insU g.us u).length (cellsAllN (insU g.us u)) := by rw [hl]; exact own_base own (by omega)
        refine ⟨rfl, ⟨_, HG.out.setU own2 (fun b hb => ?_), fun b hb => ?_⟩, (kp_of HB.out _).andset _ _ rfl⟩
        · have h1 := LVB.out b hb
          refine ⟨by omega, fun e => ?_, fun e => ?_⟩
          · have := (World.ownsRow.lt HH.out.fr b e).2; omega
          · have := (World.ownsRow.lt HH.out.bo b e).2; omega
        · have h1 := LVB.out b hb; omega
      case false =>
        obtain ⟨g5, cap5, w5, r5, own5, k5, hat5⟩ := push_unit OWN.out (by omega) hszr u
        have hb5 : Below wr.heap.size wr w5 ∨ True := Or.inr trivial
        have kk : Below W.heap.size wr w5 := k5.below (fun b hb => LVB.out b hb) hszr
        have hb6 : Below w.heap.size w w5 := HB.out.trans (kk.mono hsW)
        have HG5 := Lib.hid (HH.out.call hb6)
        obtain ⟨lS2, cS2, fS2⟩ := id HG5.out.blk
        have OWN5 := Lib.hid own5
        have HB6 := Lib.hid hb6
        clear own5 k5 hat5 hb5 kk hb6
        go_wp2_with (at_builtin; refine list_run_append (by rfl) _ _ _ _ (by rfl) (by rfl) (by rfl) (by rfl) r5 ?_)
        go_end0
        have hpe := put_end (us := g.us) (u := u) (by rw [HM.out]; exact HLD.out)
        rw [HM.out] at hpe
        have own := OWN5.out
        rw [hpe] at own
        have hl := congrArg List.length hpe
        rw [List.length_append, HL.out] at hl
        have hl2 : (insU g.us u).length = L + 1 := hl.symm
        have own2 : w5.ownsRow B 130 11 (.slice (some ⟨g5, 0, none⟩) (L + 1) cap5) (insU g.us u).length (cellsAllN (insU g.us u)) := by rw [hl2]; exact own_base own (by omega)
        have h0 : ∀ b, (Value.slice (some ⟨g5, 0, none⟩) (L + 1) cap5).ownBlock = some b → W.heap.size ≤ b := fun b hb => (World.ownsRow.lt OWN5.out b hb).1
        refine ⟨rfl, ⟨_, HG5.out.setU own2 (fun b hb => ?_), fun b hb => ?_⟩, (kp_of HB6.out _).andset _ _ rfl⟩
        · have h1 := h0 b hb
          refine ⟨by omega, fun e => ?_, fun e => ?_⟩
          · have := (World.ownsRow.lt HH.out.fr b e).2; omega
          · have := (World.ownsRow.lt HH.out.bo b e).2; omega
        · have h1 := h0 b hb; omega
end Go.Proofs.Ytlfljlhppigejaa
namespace Go.Proofs.Ytlfljlhppigejaa
open Go.RowKit

set_option maxHeartbeats 800000 in
set_option maxRecDepth 100000 in
theorem stands_any (S : Nat) (a : Option Addr) (n c : Nat) (us : List U) (x y : Int) (hl : us.length = n) (hn : n ≤ 100000) (w : World) (h6 : w.cell? ⟨S, 6, none⟩ = some (.slice a n c)) (hu : URow true w.heap.size w a us) :
    Calls Try.prog 153 #[.pointer (some ⟨S, 0, none⟩), .int .i64 x, .int .i64 y] w fun e w' => e = .returned (.bool (standsAt us x y)) ∧ w = w' := by
  have HU := Lib.hid hu
  have HL := Lib.hid hl
  clear hu hl
  go_enter Try.func153, Try.ntmps153
  go_wp2_with fail
  go_loop [7] (fun i => ∃ k : Nat, i = .int .i64 k ∧ k ≤ n ∧ (∀ j, j < k → ((us.getD j zeroU).x == x && (us.getD j zeroU).y == y) = false)) (fun i => (n - intOf i).toNat)
  case atStart => exact ⟨0, rfl, by omega, fun j hj => absurd hj (by omega)⟩
  case round =>
    obtain ⟨k, rfl, hk, hX⟩ := hrel
    have HX := Lib.hid hX
    clear hX
    by_cases hlt : k < n
    · obtain ⟨v, hv⟩ : ∃ v, us.getD k zeroU = v := ⟨_, rfl⟩
      obtain ⟨b, o, rfl, -, q0, q1, q2, q3, q4, -⟩ := HU.out.getN k (by have := HL.out; omega) v hv
      have HV := Lib.hid hv
      clear hv q0 q1 q2
      by_cases he : v.x = x
      · have d1 : (v.x == x) = true := by simp [he]
        by_cases he2 : v.y = y
        · have d2 : (v.y == y) = true := by simp [he2]
          have HE := Lib.hid he
          have HE2 := Lib.hid he2
          clear he he2
          go_wp2_with fail
          go_ret
          refine ⟨ret1 (boolv ?_), rfl⟩
          have hkl : k < us.length := by have := HL.out; omega
          have : standsAt us x y = true := by
            unfold standsAt
            rw [List.any_eq_true]
            exact ⟨us[k], List.getElem_mem hkl, by rw [← getD_lt hkl, HV.out]; simp [HE.out, HE2.out]⟩
          exact this.symm
        · have d2 : (v.y == y) = false := by simp [he2]
          have HE : Hid ((v.x == x && v.y == y) = false) := Lib.hid (by simp [he2])
          clear he he2
          go_wp2_with fail
          go_round
          case rel =>
            refine ⟨k + 1, by go_num, by omega, ?_⟩
            intro j hj
            by_cases e : j = k
            · rw [e, HV.out]; exact HE.out
            · exact HX.out j (by omega)
          case measure => simp [intOf]; omega
      · have d1 : (v.x == x) = false := by simp [he]
        have HE : Hid ((v.x == x && v.y == y) = false) := Lib.hid (by simp [he])
        clear he
        go_wp2_with fail
        go_round
        case rel =>
          refine ⟨k + 1, by go_num, by omega, ?_⟩
          intro j hj
          by_cases e : j = k
          · rw [e, HV.out]; exact HE.out
          · exact HX.out j (by omega)
        case measure => simp [intOf]; omega
    · go_wp2_with fail
      go_ret
      refine ⟨ret1 (boolv ?_), rfl⟩
      have : standsAt us x y = false := by
        unfold standsAt
        rw [List.any_eq_false]
        intro v hv
        obtain ⟨j, hj, rfl⟩ := List.mem_iff_getElem.1 hv
        have := HX.out j (by have := HL.out; omega)
        rw [getD_lt hj] at this
        rw [this]
        simp
      exact this.symm
end Go.Proofs.Ytlfljlhppigejaa
namespace Go.Proofs.Ytlfljlhppigejaa
open Go.RowKit
attribute [local go_sem] qOne qAt qUp

/-- What wish hands back. -/
def RefWishEnd (n : Bool) (us : List U) (u : U) (w : World) (e : Ending) (w' : World) : Prop :=
  (∃ x y : Int, e = .returned (.tuple #[.int .i64 x, .int .i64 y, .bool (wishF n us u).isSome]) ∧ ∀ p, wishF n us u = some p → (x, y) = p) ∧ Below w.heap.size w w'
set_option maxHeartbeats 12800000 in
set_option maxRecDepth 100000 in
theorem refwish_any (S : Nat) (n : Bool) (us : List U) (ua : Option Addr) (m cu : Nat) (u : U) (w : World) (h : Reads w S n us ua m cu) (hu : 0 ≤ u.x ∧ u.x < 12 ∧ 0 ≤ u.y ∧ u.y < 12) (hd : 0 ≤ u.does) (hgo : u.does = 1 → 0 ≤ u.gx ∧ u.gx < 12 ∧ 0 ≤ u.gy ∧ u.gy < 12)
    (ht : 1 < u.does → ∃ k v, ixOf us u.target = (k : Nat) ∧ us.getD k zeroU = v ∧ 0 ≤ v.x ∧ v.x < 12 ∧ 0 ≤ v.y ∧ v.y < 12) :
    Calls Try.prog 156 #[.pointer (some ⟨S, 0, none⟩), .agg #[.int .i64 u.id, .int .i64 u.owner, .int .i64 u.kind, .int .i64 u.x, .int .i64 u.y, .int .i64 u.hp, .int .i64 u.does, .int .i64 u.gx, .int .i64 u.gy, .int .i64 u.target, .int .i64 u.since]] w (RefWishEnd n us u w) := by
  obtain ⟨W, hW⟩ : ∃ W, w.alloc (.cells #[.int .i64 u.id, .int .i64 u.owner, .int .i64 u.kind, .int .i64 u.x, .int .i64 u.y, .int .i64 u.hp, .int .i64 u.does, .int .i64 u.gx, .int .i64 u.gy, .int .i64 u.target, .int .i64 u.since] 130) = W := ⟨_, rfl⟩
  have hbW : Below w.heap.size w W := by rw [← hW]; exact (Below.refl _ _).alloc (Nat.le_refl _) _
  have kW : Blk W w.heap.size #[.int .i64 u.id, .int .i64 u.owner, .int .i64 u.kind, .int .i64 u.x, .int .i64 u.y, .int .i64 u.hp, .int .i64 u.does, .int .i64 u.gx, .int .i64 u.gy, .int .i64 u.target, .int .i64 u.since] := by rw [← hW]; exact Blk.new w _ _
  have hR := h.call hbW
  have c0 := hR.c0
  have lS := hR.lt
  obtain ⟨lW, cW, -⟩ := id kW
  have HBW := Lib.hid hbW
  have KW := Lib.hid kW
  have HR := Lib.hid hR
  have HGX := Lib.hid hgo
  have HT := Lib.hid ht
  obtain ⟨hu0, hu1, hu2, hu3⟩ := hu
  clear h hbW kW hR hgo ht
  go_enter Try.func156, Try.ntmps156
  go_upto_region 1 with fail
  try rw [hW]
  clear hW
  haveI := Cw.ne W
  have hcw := fun (x : Cw W) => x.cell
  refine region_loose 10 (by kernel_rfl) (by kernel_rfl) ?_
  repeat (refine wpQB_step (fun K hK => ?_); go_simp; first | (refine hK _ ?_; clear hK K) | (apply Exists.intro; refine ⟨fun x => ?_, hK _ ?_⟩; (first | (go_at_call 20; refine (refRule_any n u.kind _).mono ?_; rintro e w1 ⟨rfl, b1⟩; exact ⟨rfl, b1⟩)); clear hK K))
  refine wpQB_nil ?_
  refine tail_var (T := 36) (d := 7) (r := 21) (c := #[.int .i64 (ruleOf n u.kind).cost, .int .i64 (ruleOf n u.kind).hp, .int .i64 (ruleOf n u.kind).speed, .int .i64 (ruleOf n u.kind).harm, .int .i64 (ruleOf n u.kind).range, .int .i64 (ruleOf n u.kind).load]) #[.int .i64 0, .int .i64 0, .int .i64 0, .int .i64 0, .int .i64 0, .int .i64 0] rfl rfl rfl rfl (fun _ => rfl) (fun w => by simp [go_sem]) (fun _ => rfl) (by simp) rfl (by kernel_rfl) (by simp [Value.oneCell']) (fun p => ?_)
  refine tail_value (.bool (isRule n u.kind)) rfl (fun w => by simp [go_sem]) ?_
  refine tail_nil ?_
  rintro w2 ⟨hb, hp, hk⟩
  obtain ⟨r, hr⟩ : ∃ r, ruleOf n u.kind = r := ⟨_, rfl⟩
  rw [hr] at hk
  try rw [hr]
  have HRU := Lib.hid hr
  obtain ⟨lR2, cR2, -⟩ := id hk
  obtain ⟨lW2, cW2, -⟩ := id (KW.out.call hb)
  have HW2 := Lib.hid (KW.out.call hb)
  have HK2 := Lib.hid hk
  have HR2 := Lib.hid (HR.out.call hb)
  have HB2 := Lib.hid (HBW.out.trans (hb.mono HBW.out.size))
  have HNO : Hid ((u.does = 0 ∨ r.speed = 0 ∨ (1 < u.does ∧ nearF n us u = true)) → wishF n us u = none) := Lib.hid (fun hc => by
    unfold wishF
    rw [HRU.out, if_pos hc])
  clear hcw hb hk hp hr cW c0 lS lW
  by_cases h0 : u.does = 0
  · have d0 : (u.does == 0) = true := by simp [h0]
    have H0 := Lib.hid h0
    clear h0
    go_wp2_with fail
    go_ret3
    refine ⟨⟨0, 0, ret3 rfl rfl (boolv ?_), fun p hp => ?_⟩, HB2.out⟩
    · rw [HNO.out (Or.inl H0.out)]; rfl
    · rw [HNO.out (Or.inl H0.out)] at hp; cases hp
  have d0 : (u.does == 0) = false := by simp [h0]
  have H0 := Lib.hid h0
  by_cases hs : r.speed = 0
  · have ds : (r.speed == 0) = true := by simp [hs]
    have HS := Lib.hid hs
    clear hs h0
    go_wp2_with fail
    go_ret3
    refine ⟨⟨0, 0, ret3 rfl rfl (boolv ?_), fun p hp => ?_⟩, HB2.out⟩
    · rw [HNO.out (Or.inr (Or.inl HS.out))]; rfl
    · rw [HNO.out (Or.inr (Or.inl HS.out))] at hp; cases hp
  have ds : (r.speed == 0) = false := by simp [hs]
  have HS := Lib.hid hs
  clear hs
  by_cases h1 : u.does = 1
  · have d1 : decide (1 < u.does) = false := decide_eq_false (by omega)
    have H1 := Lib.hid h1
    obtain ⟨gx0, gx1, gy0, gy1⟩ := HGX.out h1
    have HGO : Hid (goalF us u = (u.gx, u.gy)) := Lib.hid (by show _ = _; unfold goalF; rw [if_pos h1])
    have HNW : Hid (¬ (u.does = 0 ∨ (ruleOf n u.kind).speed = 0 ∨ (1 < u.does ∧ nearF n us u = true))) := Lib.hid (by
      show ¬ _
      rw [HRU.out]
      rintro (h | h | h)
      · exact h0 h
      · exact HS.out h
      · omega)
    clear h1 h0
    go_wp2_with fail
    refine (refToward u.x u.y u.gx u.gy _ (by omega) (by omega) (by omega) (by omega)).mono ?_
    rintro e w5 ⟨rfl, rfl⟩
    obtain ⟨X, hX⟩ : ∃ X, near1 u.x u.gx = X := ⟨_, rfl⟩
    obtain ⟨Y, hY⟩ : ∃ Y, near1 u.y u.gy = Y := ⟨_, rfl⟩
    have HX := Lib.hid hX
    have HY := Lib.hid hY
    rw [hX, hY]
    clear hX hY
    have HW : Hid (wishF n us u = if u.gx = u.x ∧ u.gy = u.y then none else some (X, Y)) := Lib.hid (by
      show _ = _
      unfold wishF
      rw [if_neg HNW.out, HGO.out, HX.out, HY.out]
      simp only [Prod.mk.injEq])
    have HX1 : Hid (X = u.x ↔ u.gx = u.x) := Lib.hid (by
      show _ ↔ _
      rw [← HX.out]
      unfold near1
      split
      · omega
      · split <;> omega)
    have HY1 : Hid (Y = u.y ↔ u.gy = u.y) := Lib.hid (by
      show _ ↔ _
      rw [← HY.out]
      unfold near1
      split
      · omega
      · split <;> omega)
    by_cases ex : X = u.x
    · have dx : (X != u.x) = false := by simp [ex]
      have EX := Lib.hid ex
      clear ex
      by_cases ey : Y = u.y
      · have dy : (Y != u.y) = false := by simp [ey]
        have EY := Lib.hid ey
        clear ey
        go_upto_region 14 with fail
        haveI := Cw.ne w2
        have hcw := fun (x : Cw w2) => x.cell
        refine region_cw (by kernel_rfl) (by kernel_rfl) ?_
        repeat (go_big_quiet_step (fail))
        refine wpQuiet_nil ?_
        intro Z hZ
        have HZ := Lib.hid hZ
        clear hZ hcw
        go_wp2_with fail
        go_ret3
        refine ⟨⟨X, Y, ret3 rfl rfl (boolv ?_), fun p hp => ?_⟩, (HB2.out.trans (HZ.out.mono HB2.out.size))⟩
        · rw [HW.out, if_pos ⟨HX1.out.1 EX.out, HY1.out.1 EY.out⟩]; rfl
        · rw [HW.out, if_pos ⟨HX1.out.1 EX.out, HY1.out.1 EY.out⟩] at hp; cases hp
      · have dy : (Y != u.y) = true := by simp [ey]
        have EY := Lib.hid ey
        clear ey
        go_upto_region 14 with fail
        haveI := Cw.ne w2
        have hcw := fun (x : Cw w2) => x.cell
        refine region_cw (by kernel_rfl) (by kernel_rfl) ?_
        repeat (go_big_quiet_step (fail))
        refine wpQuiet_nil ?_
        intro Z hZ
        have HZ := Lib.hid hZ
        clear hZ hcw
        go_wp2_with fail
        go_ret3
        refine ⟨⟨X, Y, ret3 rfl rfl (boolv ?_), fun p hp => ?_⟩, (HB2.out.trans (HZ.out.mono HB2.out.size))⟩
        · rw [HW.out, if_neg (fun h => EY.out (HY1.out.2 h.2))]; rfl
        · rw [HW.out, if_neg (fun h => EY.out (HY1.out.2 h.2))] at hp; exact Option.some.inj hp
    · have dx : (X != u.x) = true := by simp [ex]
      have EX := Lib.hid ex
      clear ex
      go_upto_region 14 with fail
      haveI := Cw.ne w2
      have hcw := fun (x : Cw w2) => x.cell
      refine region_cw (by kernel_rfl) (by kernel_rfl) ?_
      repeat (go_big_quiet_step (fail))
      refine wpQuiet_nil ?_
      intro Z hZ
      have HZ := Lib.hid hZ
      clear hZ hcw
      go_wp2_with fail
      go_ret3
      refine ⟨⟨X, Y, ret3 rfl rfl (boolv ?_), fun p hp => ?_⟩, (HB2.out.trans (HZ.out.mono HB2.out.size))⟩
      · rw [HW.out, if_neg (fun h => EX.out (HX1.out.2 h.1))]; rfl
      · rw [HW.out, if_neg (fun h => EX.out (HX1.out.2 h.1))] at hp; exact Option.some.inj hp
  have hgt : 1 < u.does := by omega
  have d1 : decide (1 < u.does) = true := decide_eq_true hgt
  obtain ⟨k, v, hk, hv, hv0, hv1, hv2, hv3⟩ := HT.out hgt
  have HN := Lib.hid (fun X (hX : Below w2.heap.size w2 X) => refnear_any S n us ua m cu u v k X (HR2.out.call hX) hk hv ⟨hu0, hu1, hu2, hu3⟩ ⟨hv0, hv1, hv2, hv3⟩)
  have HKV := Lib.hid (⟨hk, hv⟩ : ixOf us u.target = (k : Nat) ∧ us.getD k zeroU = v)
  have HGT := Lib.hid hgt
  obtain ⟨NR, hNR⟩ : ∃ NR, nearF n us u = NR := ⟨_, rfl⟩
  rw [hNR] at HN
  have HNR := Lib.hid hNR
  have H1 := Lib.hid h1
  clear hk hv hgt hNR h1
  go_wp2_with fail
  refine (HN.out _ (Below.refl _ _)).mono ?_
  rintro e w3 ⟨rfl, b3⟩
  have HB3 := Lib.hid (HB2.out.trans (b3.mono HB2.out.size))
  have hR3 := HR2.out.call b3
  obtain ⟨lW3, cW3, -⟩ := id (HW2.out.call b3)
  have HW3 := Lib.hid (HW2.out.call b3)
  cases NR
  case true =>
    have HBB := HB3
    clear hR3 b3
    go_wp2_with fail
    go_ret3
    refine ⟨⟨0, 0, ret3 rfl rfl (boolv ?_), fun p hp => ?_⟩, HB3.out⟩
    · rw [HNO.out (Or.inr (Or.inr ⟨HGT.out, HNR.out⟩))]; rfl
    · rw [HNO.out (Or.inr (Or.inr ⟨HGT.out, HNR.out⟩))] at hp; cases hp
  have hkl : k < us.length := (ixOf_lt HKV.out.1).1
  obtain ⟨b, o, rfl, hbB, v0, v1, v2, v3, v4, v5, v6, v7, v8, v9, v10⟩ := hR3.row.getN k hkl v HKV.out.2
  have hkm : (k : Int) < (m : Int) := by have := hR3.len; omega
  have hk0 : (0 : Int) ≤ (k : Int) := by omega
  have c6 := hR3.c6
  have lS := hR3.lt
  have WHO : Hid (∀ x : Cw w3, Calls Try.prog 100 #[.pointer (some ⟨S, 0, none⟩), .int .i64 u.target] x.w fun e w' => e = .returned (.int .i64 k) ∧ x.w = w') := Lib.hid (fun x => by
    have := hR3.who u.target x
    rw [HKV.out.1] at this
    exact this)
  have HNW : Hid (¬ (u.does = 0 ∨ (ruleOf n u.kind).speed = 0 ∨ (1 < u.does ∧ nearF n us u = true))) := Lib.hid (by
    show ¬ _
    rw [HRU.out]
    rintro (h | h | h)
    · exact H0.out h
    · exact HS.out h
    · have h2 := h.2; rw [HNR.out] at h2; cases h2)
  have HGO : Hid (goalF us u = (v.x, v.y)) := Lib.hid (by
    show _ = _
    unfold goalF
    rw [if_neg H1.out, HKV.out.1]
    simp only [Int.toNat_natCast, HKV.out.2])
  clear hR3 hkl b3 cW2 cR2 lW2 lR2
  go_upto_region 10 with fail
  haveI := Cw.ne w3
  have hcw := fun (x : Cw w3) => x.cell
  refine region_loose 10 (by kernel_rfl) (by kernel_rfl) ?_
  repeat (refine wpQB_step (fun K hK => ?_); go_simp; first | (refine hK _ ?_; clear hK K) | (apply Exists.intro; refine ⟨fun x => ?_, hK _ ?_⟩; (first | (go_at_call 100; refine (WHO.out x).mono ?_; rintro e w1 ⟨rfl, rfl⟩; exact ⟨rfl, Below.refl _ _⟩)); clear hK K))
  refine wpQB_nil ?_
  refine tail_var (T := 130) (d := 12) (r := 51) (c := #[.int .i64 v.id, .int .i64 v.owner, .int .i64 v.kind, .int .i64 v.x, .int .i64 v.y, .int .i64 v.hp, .int .i64 v.does, .int .i64 v.gx, .int .i64 v.gy, .int .i64 v.target, .int .i64 v.since]) #[.int .i64 0, .int .i64 0, .int .i64 0, .int .i64 0, .int .i64 0, .int .i64 0, .int .i64 0, .int .i64 0, .int .i64 0, .int .i64 0, .int .i64 0] rfl rfl rfl rfl (fun _ => rfl) (fun w => by simp [go_sem]) (fun _ => rfl) (by simp) rfl (by kernel_rfl) (by simp [Value.oneCell']) (fun p => ?_)
  refine tail_nil ?_
  rintro w2 ⟨hb, hp, hk⟩
  obtain ⟨lW4, cW4, -⟩ := id (HW3.out.call hb)
  obtain ⟨lV4, cV4, -⟩ := id hk
  have HB4 := Lib.hid (HB3.out.trans (hb.mono HB3.out.size))
  clear hcw hb hk hp v0 v1 v2 v3 v4 v5 v6 v7 v8 v9 v10 c6 lS cW3 lW3 WHO
  go_wp2_with fail
  refine (refToward u.x u.y v.x v.y _ (by omega) (by omega) (by omega) (by omega)).mono ?_
  rintro e w5 ⟨rfl, rfl⟩
  obtain ⟨X, hX⟩ : ∃ X, near1 u.x v.x = X := ⟨_, rfl⟩
  obtain ⟨Y, hY⟩ : ∃ Y, near1 u.y v.y = Y := ⟨_, rfl⟩
  have HX := Lib.hid hX
  have HY := Lib.hid hY
  rw [hX, hY]
  clear hX hY
  have HW : Hid (wishF n us u = if v.x = u.x ∧ v.y = u.y then none else some (X, Y)) := Lib.hid (by
    show _ = _
    unfold wishF
    rw [if_neg HNW.out, HGO.out, HX.out, HY.out]
    simp only [Prod.mk.injEq])
  have HX1 : Hid (X = u.x ↔ v.x = u.x) := Lib.hid (by
    show _ ↔ _
    rw [← HX.out]
    unfold near1
    split
    · omega
    · split <;> omega)
  have HY1 : Hid (Y = u.y ↔ v.y = u.y) := Lib.hid (by
    show _ ↔ _
    rw [← HY.out]
    unfold near1
    split
    · omega
    · split <;> omega)
  by_cases ex : X = u.x
  · have dx : (X != u.x) = false := by simp [ex]
    have EX := Lib.hid ex
    clear ex
    by_cases ey : Y = u.y
    · have dy : (Y != u.y) = false := by simp [ey]
      have EY := Lib.hid ey
      clear ey
      go_upto_region 14 with fail
      haveI := Cw.ne w2
      have hcw := fun (x : Cw w2) => x.cell
      refine region_cw (by kernel_rfl) (by kernel_rfl) ?_
      repeat (go_big_quiet_step (fail))
      refine wpQuiet_nil ?_
      intro Z hZ
      have HZ := Lib.hid hZ
      clear hZ hcw
      go_wp2_with fail
      go_ret3
      refine ⟨⟨X, Y, ret3 rfl rfl (boolv ?_), fun p hp => ?_⟩, (HB4.out.trans (HZ.out.mono HB4.out.size))⟩
      · rw [HW.out, if_pos ⟨HX1.out.1 EX.out, HY1.out.1 EY.out⟩]; rfl
      · rw [HW.out, if_pos ⟨HX1.out.1 EX.out, HY1.out.1 EY.out⟩] at hp; cases hp
    · have dy : (Y != u.y) = true := by simp [ey]
      have EY := Lib.hid ey
      clear ey
      go_upto_region 14 with fail
      haveI := Cw.ne w2
      have hcw := fun (x : Cw w2) => x.cell
      refine region_cw (by kernel_rfl) (by kernel_rfl) ?_
      repeat (go_big_quiet_step (fail))
      refine wpQuiet_nil ?_
      intro Z hZ
      have HZ := Lib.hid hZ
      clear hZ hcw
      go_wp2_with fail
      go_ret3
      refine ⟨⟨X, Y, ret3 rfl rfl (boolv ?_), fun p hp => ?_⟩, (HB4.out.trans (HZ.out.mono HB4.out.size))⟩
      · rw [HW.out, if_neg (fun h => EY.out (HY1.out.2 h.2))]; rfl
      · rw [HW.out, if_neg (fun h => EY.out (HY1.out.2 h.2))] at hp; exact Option.some.inj hp
  · have dx : (X != u.x) = true := by simp [ex]
    have EX := Lib.hid ex
    clear ex
    go_upto_region 14 with fail
    haveI := Cw.ne w2
    have hcw := fun (x : Cw w2) => x.cell
    refine region_cw (by kernel_rfl) (by kernel_rfl) ?_
    repeat (go_big_quiet_step (fail))
    refine wpQuiet_nil ?_
    intro Z hZ
    have HZ := Lib.hid hZ
    clear hZ hcw
    go_wp2_with fail
    go_ret3
    refine ⟨⟨X, Y, ret3 rfl rfl (boolv ?_), fun p hp => ?_⟩, (HB4.out.trans (HZ.out.mono HB4.out.size))⟩
    · rw [HW.out, if_neg (fun h => EX.out (HX1.out.2 h.1))]; rfl
    · rw [HW.out, if_neg (fun h => EX.out (HX1.out.2 h.1))] at hp; exact Option.some.inj hp
end Go.Proofs.Ytlfljlhppigejaa
namespace Go.Proofs.Ytlfljlhppigejaa
open Go.RowKit
attribute [local go_sem] qOne qAt qUp

set_option maxHeartbeats 1600000 in
set_option maxRecDepth 100000 in
theorem refis_any (P : Nat) (old : List Int) (oa : Option Addr) (n c : Nat) (id : Int) (w : World) (hP : w.cell? ⟨P, 0, none⟩ = some (.slice oa n c)) (hl : old.length = n) (hn : n ≤ 1000) (hr : Row w.heap.size w oa n (fun k => .int .i64 (old.getD k 0))) :
    Calls Try.prog 155 #[.int .i64 id, .pointer (some ⟨P, 0, none⟩)] w fun e w' => e = .returned (.bool (old.contains id)) ∧ w = w' := by
  have HR := Lib.hid hr
  have HL := Lib.hid hl
  clear hr hl
  go_enter Try.func155, Try.ntmps155
  go_wp2_with fail
  go_loop [4] (fun i => ∃ k : Nat, i = .int .i64 k ∧ k ≤ n ∧ (∀ j, j < k → old.getD j 0 ≠ id)) (fun i => (n - intOf i).toNat)
  case atStart => exact ⟨0, rfl, by omega, fun j hj => absurd hj (by omega)⟩
  case round =>
    obtain ⟨k, rfl, hk, hX⟩ := hrel
    have HX := Lib.hid hX
    clear hX
    by_cases hlt : k < n
    · obtain ⟨b, o, rfl, -, q0⟩ := HR.out k hlt
      dsimp only at q0
      obtain ⟨v, hv⟩ : ∃ v, old.getD k 0 = v := ⟨_, rfl⟩
      rw [hv] at q0
      have HV := Lib.hid hv
      clear hv
      have hki : (0 : Int) ≤ (k : Int) := by omega
      have hkl : (k : Int) < (n : Int) := by omega
      by_cases he : v = id
      · have d1 : (v == id) = true := by simp [he]
        have HE := Lib.hid he
        clear he
        go_wp2_with fail
        go_ret
        refine ⟨ret1 (boolv ?_), rfl⟩
        have hkl : k < old.length := by have := HL.out; omega
        have : id ∈ old := by
          rw [← HE.out, ← HV.out]
          simp [List.getD, hkl]
        simpa using this
      · have d1 : (v == id) = false := by simp [he]
        have HE := Lib.hid he
        clear he
        go_wp2_with fail
        go_round
        case rel =>
          refine ⟨k + 1, by go_num, by omega, ?_⟩
          intro j hj
          by_cases e : j = k
          · rw [e, HV.out]; exact HE.out
          · exact HX.out j (by omega)
        case measure => simp [intOf]; omega
    · go_wp2_with fail
      go_ret
      refine ⟨ret1 (boolv ?_), rfl⟩
      have : ¬ id ∈ old := by
        intro h
        obtain ⟨j, hj, he⟩ := List.mem_iff_getElem.1 h
        have := HX.out j (by have := HL.out; omega)
        rw [show old.getD j 0 = old[j] from by simp [List.getD, hj]] at this
        exact this he
      simpa using this

set_option maxHeartbeats 1600000 in
set_option maxRecDepth 100000 in
theorem refids_any (S : Nat) (n : Bool) (us : List U) (ua : Option Addr) (m cu : Nat) (w : World) (h : Reads w S n us ua m cu) :
    Calls Try.prog 99 #[.pointer (some ⟨S, 0, none⟩)] w fun e w' => (∃ a c, e = .returned (.slice a m c) ∧ w'.ownsRow w.heap.size 3 1 (.slice a m c) m (intCells (idList us))) ∧ Below w.heap.size w w' := by
  have HR := Lib.hid h
  have hm0 : (0 : Int) ≤ (m : Int) := by omega
  have hm1 := h.few
  clear h
  go_enter Try.func99, Try.ntmps99
  go_wp2_with fail
  go_loopw [3, 4] (fun lv iv wr => ∃ k : Nat, iv = .int .i64 k ∧ k ≤ m ∧ (wr.ownsRow w.heap.size 3 1 lv k (intCells (idList (us.take k))) ∧ Below w.heap.size w wr)) (fun _ iv _ => (m - intOf iv).toNat)
  case atStart => exact ⟨0, rfl, by omega, World.ownsRow_nil _ _ _ _, Below.refl _ _⟩
  case round =>
    obtain ⟨k, rfl, hk, own, hX⟩ := hrel
    obtain ⟨la, lc, rfl⟩ := own_slice own
    have hszr := hX.size
    have hRr := HR.out.call hX
    have lSr := hRr.lt
    have c6 := hRr.c6
    have OWN := Lib.hid own
    have HX := Lib.hid hX
    have HRR := Lib.hid hRr
    have LVB := Lib.hid (fun b hb => (World.ownsRow.lt own b hb).1 : ∀ b, (Value.slice la k lc).ownBlock = some b → w.heap.size ≤ b)
    clear own hX hRr
    by_cases hlt : k < m
    · have hki : (0 : Int) ≤ (k : Int) := by omega
      have hkl : (k : Int) < (m : Int) := by omega
      obtain ⟨v, hv⟩ : ∃ v, us.getD k zeroU = v := ⟨_, rfl⟩
      have hlu : k < us.length := by have := HRR.out.len; omega
      obtain ⟨b, o, rfl, hbB, q0, -⟩ := HRR.out.row.getN k hlu v hv
      obtain ⟨g5, cap5, w5, r5, own5, k5, hat5⟩ := push_int OWN.out (by omega) hszr v.id
      have HV := Lib.hid hv
      have HLU := Lib.hid hlu
      have OWN5 := Lib.hid own5
      have K5 := Lib.hid k5
      clear hv hlu own5 k5 hat5
      go_wp2_with (at_builtin; refine list_run_append (by rfl) _ _ _ _ (by rfl) (by rfl) (by rfl) (by rfl) r5 ?_)
      go_roundw
      case rel =>
        refine ⟨k + 1, by go_num, by omega, ?_, HX.out.trans (K5.out.below (fun b hb => LVB.out b hb) hszr)⟩
        have e : idList (us.take (k + 1)) = idList (us.take k) ++ [v.id] := by
          rw [take_at HLU.out, HV.out]
          simp [idList]
        rw [e]
        exact OWN5.out
      case measure => simp [intOf]; omega
    · obtain rfl : k = m := by omega
      go_wp2_with fail
      go_ret
      have ht : us.take k = us := by rw [← HRR.out.len, List.take_length]
      have own := OWN.out
      rw [ht] at own
      exact ⟨⟨_, _, rfl, own⟩, HX.out⟩
end Go.Proofs.Ytlfljlhppigejaa
