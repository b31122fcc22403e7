/-
  The walk of the document's Builds. (Printed by gen_refbuild.py.)
-/
import Derived.Test.YtlfljlhppigejaaPackTell
import Derived.Test.YtlfljlhppigejaaElderBuild
namespace Go.Proofs.Ytlfljlhppigejaa
open Go.RowKit
attribute [local go_sem] qOne qAt qUp

/-- One more came. -/
theorem GR.growB {w w' : World} {B S : Nat} {g : G} {born : List Int} {fv uv bv : Value} (h : GR w B S g born fv uv bv) (k : Kp (fun b => bv.ownBlock = some b) w w') {l : List Int} {gg n cap : Nat} (o : w'.ownsRow B 3 1 (.slice (some ⟨gg, 0, none⟩) n cap) n (intCells l)) (hn : l.length = n) (hat : bv.ownBlock = some gg ∨ w.heap.size ≤ gg) :
    GR (w'.setCell ⟨S, 7, none⟩ (.slice (some ⟨gg, 0, none⟩) n cap)) B S g l fv uv (.slice (some ⟨gg, 0, none⟩) n cap) := by
  subst hn
  have nS : gg ≠ S := by
    rcases hat with h1 | h1
    · exact h.sb gg h1
    · have := h.blk.lt; omega
  have hb := (h.blk.kp k (fun e => h.sb S e rfl)).store (i := 7) (.slice (some ⟨gg, 0, none⟩) l.length cap) (by show 7 < (gameC g fv uv bv).size; simp [gameC])
  have kS := Kp.setCell w' ⟨S, 7, none⟩ (.slice (some ⟨gg, 0, none⟩) l.length cap)
  refine ⟨by simpa [gameC] using hb, h.base, own_kp (own_kp h.fr k (fun b hb e => h.fb b hb e)) kS (fun b hb => h.sf b hb), own_kp (own_kp h.us k (fun b hb e => h.ub b hb e)) kS (fun b hb => h.su b hb), own_kp o kS (fun b hb e => nS (by rw [← (show b = S from e)]; exact Option.some.inj (show some gg = some b from hb))), h.sf, h.su, fun b hb e => nS (by rw [← e]; exact Option.some.inj (show some gg = some b from hb)), h.fu, fun b hb e => ?_, fun b hb e => ?_⟩
  · have h2 : gg = b := Option.some.inj (show some gg = some b from e)
    rcases hat with h1 | h1
    · exact h.fb b hb (by rw [← h2]; exact h1)
    · have := (World.ownsRow.lt h.fr b hb).2; omega
  · have h2 : gg = b := Option.some.inj (show some gg = some b from e)
    rcases hat with h1 | h1
    · exact h.ub b hb (by rw [← h2]; exact h1)
    · have := (World.ownsRow.lt h.us b hb).2; omega
/-- One more is free. -/
theorem GR.growF {w w' : World} {B S : Nat} {g : G} {born : List Int} {fv uv bv : Value} (h : GR w B S g born fv uv bv) (k : Kp (fun b => fv.ownBlock = some b) w w') {l : List Int} {gg n cap : Nat} (o : w'.ownsRow B 3 1 (.slice (some ⟨gg, 0, none⟩) n cap) n (intCells l)) (hn : l.length = n) (hat : fv.ownBlock = some gg ∨ w.heap.size ≤ gg) :
    GR (w'.setCell ⟨S, 5, none⟩ (.slice (some ⟨gg, 0, none⟩) n cap)) B S { g with free := l } born (.slice (some ⟨gg, 0, none⟩) n cap) uv bv := by
  subst hn
  have nS : gg ≠ S := by
    rcases hat with h1 | h1
    · exact h.sf gg h1
    · have := h.blk.lt; omega
  have hb := (h.blk.kp k (fun e => h.sf S e rfl)).store (i := 5) (.slice (some ⟨gg, 0, none⟩) l.length cap) (by show 5 < (gameC g fv uv bv).size; simp [gameC])
  have kS := Kp.setCell w' ⟨S, 5, none⟩ (.slice (some ⟨gg, 0, none⟩) l.length cap)
  refine ⟨by simpa [gameC] using hb, h.base, own_kp o kS (fun b hb e => nS (by rw [← (show b = S from e)]; exact Option.some.inj (show some gg = some b from hb))), own_kp (own_kp h.us k (fun b hb e => h.fu b e hb)) kS (fun b hb => h.su b hb), own_kp (own_kp h.bo k (fun b hb e => h.fb b e hb)) kS (fun b hb => h.sb b hb), fun b hb e => nS (by rw [← e]; exact Option.some.inj (show some gg = some b from hb)), h.su, h.sb, fun b hb e => ?_, fun b hb e => ?_, h.ub⟩
  · have h2 : gg = b := Option.some.inj (show some gg = some b from hb)
    rcases hat with h1 | h1
    · exact h.fu b (by rw [← h2]; exact h1) e
    · have := (World.ownsRow.lt h.us b e).2; omega
  · have h2 : gg = b := Option.some.inj (show some gg = some b from hb)
    rcases hat with h1 | h1
    · exact h.fb b (by rw [← h2]; exact h1) e
    · have := (World.ownsRow.lt h.bo b e).2; omega
/-- What a command leaves of a game of the document's. -/
def GoneR (w : World) (B S : Nat) (X : Nat → Prop) (s : GB) (e : Ending) (w' : World) : Prop := e = .returned (.tuple #[]) ∧ Kp X w w' ∧ ∃ fv uv bv, GR w' B S s.1 s.2 fv uv bv ∧ InX X S fv uv bv
theorem gone_turn {w w' : World} {B S : Nat} {X : Nat → Prop} {g : G} {born : List Int} {fv uv bv : Value} {e : Ending} (h : TurnEnd w B S g born fv uv bv e w') (hX : InX X S fv uv bv) : GoneR w B S X (g, born) e w' :=
  ⟨h.1, h.2.2.imp (fun b _ hb => hX.e b hb), fv, uv, bv, h.2.1, hX⟩

set_option maxHeartbeats 12800000 in
set_option maxRecDepth 100000 in
theorem refbuilds_any (B S : Nat) (g : G) (born : List Int) (fv uv bv : Value) (i : Nat) (u : U) (kind x y : Int) (X : Nat → Prop) (w : World) (h : GR w B S g born fv uv bv) (hg : Right g) (hi : g.us[i]? = some u) (hbn : born.length ≤ 1000) (hX : InX X S fv uv bv) (hXn : ∀ b, w.heap.size ≤ b → X b) :
    Calls Try.prog 104 #[.pointer (some ⟨S, 0, none⟩), .int .i64 i, .int .i64 kind, .int .i64 x, .int .i64 y] w (GoneR w B S X (buildsF (g, born) i kind x y)) := by
  obtain ⟨hlt, he⟩ := List.getElem?_eq_some_iff.1 hi
  have hu : g.us.getD i zeroU = u := by rw [getD_lt hlt, he]
  have hum : u ∈ g.us := by rw [← he]; exact List.getElem_mem _
  have ok := hg.ok hum
  have hfew := hg.few
  obtain ⟨b, cu, rfl, hbB, hml⟩ := own_unit h.us hlt
  obtain ⟨m, hm⟩ : ∃ m, g.us.length = m := ⟨_, rfl⟩
  rw [hm] at h hlt hml hX hfew
  have hR := h.reads hm (by omega)
  obtain ⟨b', o', ea, -, q0, q1, q2, q3, q4, q5, q6, q7, q8, q9, q10⟩ := hR.row.getN i (by omega) u hu
  cases ea
  simp only [Nat.zero_add] at q0 q1 q2 q3 q4 q5 q6 q7 q8 q9 q10
  have hin : (i : Int) < (m : Int) := by omega
  have hi0 : (0 : Int) ≤ (i : Int) := by omega
  have c0 := hR.c0
  have c6 := hR.c6
  have lS := hR.lt
  obtain ⟨top, htop⟩ : ∃ x, topOf g.new = x := ⟨_, rfl⟩
  have HTOP := Lib.hid htop
  have HH := Lib.hid h
  have HR := Lib.hid hR
  have HI := Lib.hid (⟨hi, hu⟩ : g.us[i]? = some u ∧ g.us.getD i zeroU = u)
  have HOK := Lib.hid ok
  have HG := Lib.hid hg
  have HX := Lib.hid hX
  have HXN := Lib.hid hXn
  have HM := Lib.hid hm
  have HNO : Hid (∀ z, Below w.heap.size w z → ¬ canBuild g i kind x y → GoneR w B S X (buildsF (g, born) i kind x y) (.returned (.tuple #[])) z) := Lib.hid (fun z hz hno => by
    have e : buildsF (g, born) i kind x y = (g, born) := if_neg hno
    rw [e]
    exact ⟨rfl, kp_of hz X, _, _, _, HH.out.call hz, HX.out⟩)
  clear h hR hi hu ok hg hX hXn hm he hum
  go_enter Try.func104, Try.ntmps104
  go_wp2_with fail
  refine (bounds_any g.new S _ c0).mono ?_
  rintro e w' ⟨rfl, rfl⟩
  obtain ⟨rich, hrich⟩ : ∃ x, richOf g.new = x := ⟨_, rfl⟩
  rw [htop, hrich]
  clear htop hrich
  go_upto_region 2 with fail
  obtain ⟨W, hW⟩ : ∃ W, w.alloc (.cells #[.int .i64 u.id, .int .i64 u.owner, .int .i64 u.kind, .int .i64 u.x, .int .i64 u.y, .int .i64 u.hp, .int .i64 u.does, .int .i64 u.gx, .int .i64 u.gy, .int .i64 u.target, .int .i64 u.since] 130) = W := ⟨_, rfl⟩
  have hbW : Below w.heap.size w W := by rw [← hW]; exact (Below.refl _ _).alloc (Nat.le_refl _) _
  have kW : Blk W w.heap.size #[.int .i64 u.id, .int .i64 u.owner, .int .i64 u.kind, .int .i64 u.x, .int .i64 u.y, .int .i64 u.hp, .int .i64 u.does, .int .i64 u.gx, .int .i64 u.gy, .int .i64 u.target, .int .i64 u.since] := by rw [← hW]; exact Blk.new w _ _
  rw [hW]
  have c0 := (HR.out.call hbW).c0
  have lSW := (HR.out.call hbW).lt
  have HBW := Lib.hid hbW
  have KW := Lib.hid kW
  clear hW hbW kW q0 q1 q2 q3 q4 q5 q6 q7 q8 q9 q10 c6
  go_wp2_with fail
  refine (refRule_any g.new kind _).mono ?_
  rintro e w1 ⟨rfl, b1⟩
  go_upto_region 3 with fail
  refine gen_world (fun V => Below W.heap.size W V ∧ Blk V w1.heap.size #[.int .i64 (ruleOf g.new kind).cost, .int .i64 (ruleOf g.new kind).hp, .int .i64 (ruleOf g.new kind).speed, .int .i64 (ruleOf g.new kind).harm, .int .i64 (ruleOf g.new kind).range, .int .i64 (ruleOf g.new kind).load]) ⟨b1.trans (((Below.refl _ _).alloc (Nat.le_refl _) _).mono b1.size), Blk.new w1 _ _⟩ ?_
  rintro w2 ⟨hb, hk⟩
  have hw1s : S < w1.heap.size := by have h1 := b1.size; omega
  obtain ⟨r, hr⟩ : ∃ r, ruleOf g.new kind = r := ⟨_, rfl⟩
  have HRU := Lib.hid hr
  rw [hr] at hk
  try rw [hr]
  obtain ⟨IS, hIS⟩ : ∃ x, isRule g.new kind = x := ⟨_, rfl⟩
  have HIS := Lib.hid hIS
  rw [hIS]
  have HB2 := Lib.hid (HBW.out.trans (hb.mono HBW.out.size))
  have KU2 := Lib.hid (KW.out.call hb)
  have KR2 := Lib.hid hk
  have HR2 := Lib.hid (HR.out.call HB2.out)
  obtain ⟨lU2, cU2, -⟩ := id KU2.out
  obtain ⟨lR2, cR2, -⟩ := id hk
  have c62 := HR2.out.c6
  have lS2 := HR2.out.lt
  clear hb hk hr hIS c0 lSW b1
  go_wp2_with fail
  refine (refOn x y _).mono ?_
  rintro e w9 ⟨rfl, rfl⟩
  obtain ⟨ON, hON⟩ : ∃ v, onB x y = v := ⟨_, rfl⟩
  have HON := Lib.hid hON
  rw [hON]
  clear hON
  cases IS
  case false =>
    go_wp2_with fail
    go_end0
    exact HNO.out _ HB2.out (fun hc => by have h1 := hc.1; rw [HIS.out] at h1; cases h1)
  by_cases k4 : kind = 4
  case pos =>
    have d4 : (kind == 4) = true := by simp [k4]
    have K4 := Lib.hid k4
    clear k4
    go_wp2_with fail
    go_end0
    exact HNO.out _ HB2.out (fun hc => hc.2.1 K4.out)
  have d4 : (kind == 4) = false := by simp [k4]
  have K4 := Lib.hid k4
  clear k4
  by_cases k1 : u.kind = 1
  case neg =>
    have d1 : (u.kind != 1) = true := by simp [k1]
    have K1 := Lib.hid k1
    clear k1
    go_wp2_with fail
    go_end0
    exact HNO.out _ HB2.out (fun hc => by have h1 := hc.2.2.1; rw [HI.out.2] at h1; exact K1.out h1)
  have d1 : (u.kind != 1) = false := by simp [k1]
  have K1 := Lib.hid k1
  clear k1
  cases ON
  case false =>
    go_wp2_with fail
    go_end0
    exact HNO.out _ HB2.out (fun hc => by have h1 := hc.2.2.2.1; rw [HON.out] at h1; cases h1)
  obtain ⟨hx0, hx1, hy0, hy1⟩ := (onB_iff _ _).1 HON.out
  obtain ⟨hu0, hu1, hu2, hu3⟩ := (onB_iff _ _).1 HOK.out.on
  have hown : u.owner = 0 ∨ u.owner = 1 := by
    have h1 := HOK.out.own0
    have h2 := HOK.out.own2
    have h3 := HOK.out.mine
    have h4 := K1.out
    omega
  have HST := Lib.hid (stands_any S (some ⟨b, 0, none⟩) m cu g.us x y HM.out (by omega) w2 c62 HR2.out.row)
  obtain ⟨ST, hST⟩ : ∃ v, standsAt g.us x y = v := ⟨_, rfl⟩
  rw [hST] at HST
  have HSTV := Lib.hid hST
  clear hST
  go_wp2_with fail
  refine HST.out.mono ?_
  rintro e w9 ⟨rfl, rfl⟩
  clear HST
  obtain ⟨GO, hGO⟩ : ∃ v, goldOf g u.owner = v := ⟨_, rfl⟩
  have HGO := Lib.hid hGO
  have hcg : w2.cell? ⟨S, 2 + u.owner.toNat, none⟩ = some (.int .i64 GO) := by
    rw [← hGO, (HH.out.call HB2.out).blk.cell]
    rcases hown with e | e <;> rw [e] <;> rfl
  have HCG := Lib.hid hcg
  have HOWN := Lib.hid hown
  have ho0 : 0 ≤ u.owner := by omega
  have ho2 : u.owner < 2 := by omega
  obtain ⟨FR, hFR⟩ : ∃ v, far u.x u.y x y = v := ⟨_, rfl⟩
  have HFR := Lib.hid hFR
  have HFAR := Lib.hid (fun z : Cw w2 => (refFar u.x u.y x y z.w (by omega) (by omega) (by omega) (by omega)).mono (fun e w' h => (⟨by rw [← hFR]; exact h.1, by rw [← h.2]; exact Below.refl _ _⟩ : e = .returned (.int .i64 FR) ∧ Below z.w.heap.size z.w w')))
  clear hGO hFR hown
  haveI := Cw.ne w2
  have hcw := fun (x : Cw w2) => x.cell
  cases ST
  case true =>
    go_upto_region 6 with fail
    refine region_cw (by kernel_rfl) (by kernel_rfl) ?_
    repeat (go_big_quiet_step (fail))
    refine wpQuiet_nil ?_
    intro Z hZ
    have HZ := Lib.hid (HB2.out.trans (hZ.mono HB2.out.size))
    clear hZ hcw
    go_wp2_with fail
    go_end0
    exact HNO.out _ HZ.out (fun hc => by have h1 := hc.2.2.2.2.1; rw [HSTV.out] at h1; cases h1)
  by_cases hf : 1 < FR
  case pos =>
    have df : decide (1 < FR) = true := decide_eq_true hf
    have HF := Lib.hid hf
    clear hf
    go_upto_region 6 with fail
    refine region_cw (by kernel_rfl) (by kernel_rfl) ?_
    repeat (go_big_quiet_step ((go_at_call 28; refine Calls.cw (HFAR.out _))))
    refine wpQuiet_nil ?_
    intro Z hZ
    have HZ := Lib.hid (HB2.out.trans (hZ.mono HB2.out.size))
    clear hZ hcw
    go_wp2_with fail
    go_end0
    exact HNO.out _ HZ.out (fun hc => by have h1 := hc.2.2.2.2.2.1; rw [HI.out.2, HFR.out] at h1; have h2 := HF.out; omega)
  have df : decide (1 < FR) = false := decide_eq_false hf
  have HF := Lib.hid hf
  clear hf
  by_cases hgo : GO < r.cost
  case pos =>
    have dg : decide (GO < r.cost) = true := decide_eq_true hgo
    have HGN := Lib.hid hgo
    clear hgo
    go_upto_region 6 with fail
    refine region_cw (by kernel_rfl) (by kernel_rfl) ?_
    repeat (go_big_quiet_step ((go_at_call 28; refine Calls.cw (HFAR.out _))))
    refine wpQuiet_nil ?_
    intro Z hZ
    have HZ := Lib.hid (HB2.out.trans (hZ.mono HB2.out.size))
    clear hZ hcw
    go_wp2_with fail
    go_end0
    exact HNO.out _ HZ.out (fun hc => by have h1 := hc.2.2.2.2.2.2.1; rw [HI.out.2, HRU.out, HGO.out] at h1; have h2 := HGN.out; omega)
  have dg : decide (GO < r.cost) = false := decide_eq_false hgo
  have HGN := Lib.hid hgo
  clear hgo
  by_cases h20 : m = 20
  case pos =>
    have d20 : ((m : Int) == 20) = true := by simp; omega
    have H20 := Lib.hid h20
    clear h20
    go_upto_region 6 with fail
    refine region_cw (by kernel_rfl) (by kernel_rfl) ?_
    repeat (go_big_quiet_step ((go_at_call 28; refine Calls.cw (HFAR.out _))))
    refine wpQuiet_nil ?_
    intro Z hZ
    have HZ := Lib.hid (HB2.out.trans (hZ.mono HB2.out.size))
    clear hZ hcw
    go_wp2_with fail
    go_end0
    exact HNO.out _ HZ.out (fun hc => by have h1 := hc.2.2.2.2.2.2.2.1; rw [HM.out] at h1; exact h1 H20.out)
  have d20 : ((m : Int) == 20) = false := by simp; omega
  have H20 := Lib.hid h20
  clear h20
  go_upto_region 6 with fail
  refine region_cw (by kernel_rfl) (by kernel_rfl) ?_
  repeat (go_big_quiet_step ((go_at_call 28; refine Calls.cw (HFAR.out _))))
  refine wpQuiet_nil ?_
  intro Z hZ
  have HZ := Lib.hid (HB2.out.trans (hZ.mono HB2.out.size))
  have KUZ := Lib.hid (KU2.out.call hZ)
  have KRZ := Lib.hid (KR2.out.call hZ)
  have hGZ := HH.out.call HZ.out
  have HGZ := Lib.hid hGZ
  obtain ⟨lSZ, cSZ, fSZ⟩ := id hGZ.blk
  obtain ⟨fa, fc, rfl⟩ := own_slice hGZ.fr
  obtain ⟨nf, hnf⟩ : ∃ x, g.free.length = x := ⟨_, rfl⟩
  have hnf2 : nf ≤ 200 := by have := HG.out.unfree; omega
  have hnx : 1 ≤ g.next ∧ g.next ≤ top + 1 := by
    have h1 := HG.out.head
    unfold headBad at h1
    rw [HTOP.out] at h1
    omega
  clear hZ hcw hGZ hcg HFAR cU2 cR2 c62 lU2 lR2 lS2
  have HNF := Lib.hid hnf
  rw [hnf] at cSZ
  clear hnf
  have cz0 : Z.cell? ⟨S, 0, none⟩ = some (.bool g.new) := cSZ 0
  have cz1 : Z.cell? ⟨S, 1, none⟩ = some (.int .i64 g.tick) := cSZ 1
  have cz4 : Z.cell? ⟨S, 4, none⟩ = some (.int .i64 g.next) := cSZ 4
  have cz5 : Z.cell? ⟨S, 5, none⟩ = some (.slice fa nf fc) := cSZ 5
  clear cSZ
  by_cases hcan : g.free ≠ [] ∨ g.next ≤ top
  case neg =>
    have hn0 : nf = 0 := by
      have h1 : g.free = [] := Classical.byContradiction (fun h => hcan (Or.inl h))
      have h2 := HNF.out
      rw [h1] at h2
      exact h2.symm
    have htn : top < g.next := by
      have : ¬ g.next ≤ top := fun h => hcan (Or.inr h)
      omega
    have dn : decide (top < g.next) = true := decide_eq_true htn
    have HCAN := Lib.hid hcan
    clear hcan htn
    subst hn0
    go_wp2_with fail
    go_end0
    exact HNO.out _ HZ.out (fun hc => by
      have h1 := hc.2.2.2.2.2.2.2.2
      rw [HTOP.out] at h1
      exact HCAN.out h1)
  have HCAN := Lib.hid hcan
  go_upto_region 9 with fail
  go_cut [109] (fun s wx => s = .bool false ∧ Z = wx)
  case first =>
    by_cases hn0 : nf = 0
    · have htn : ¬ top < g.next := by
        rcases hcan with h | h
        · exact absurd (List.eq_nil_of_length_eq_zero (by rw [HNF.out]; exact hn0)) h
        · omega
      have dn : decide (top < g.next) = false := decide_eq_false htn
      subst hn0
      clear htn hcan
      go_wp2_with fail
      go_meet
      exact ⟨rfl, rfl⟩
    · have dn : ((nf : Int) == 0) = false := by simp; omega
      clear hcan
      go_wp2_with fail
      go_meet
      exact ⟨rfl, rfl⟩
  case rest =>
  obtain ⟨rfl, rfl⟩ := hcut
  clear hcan
  go_upto_if 113 with fail
  obtain ⟨SI, hSI⟩ : ∃ v, (if g.new then g.tick else 0) = v := ⟨_, rfl⟩
  have HSI := Lib.hid hSI
  go_cut [19] (fun s wx => s = .int .i64 SI ∧ Z = wx)
  case first =>
    obtain ⟨nw, hnw⟩ : ∃ v, g.new = v := ⟨_, rfl⟩
    have hs2 := HSI.out
    rw [hnw] at hs2 ⊢
    cases nw
    · have hs3 : (0 : Int) = SI := hs2
      have HS3 := Lib.hid hs3
      clear hs2 hs3 hSI
      go_wp2_with fail
      go_meet
      exact ⟨intv HS3.out, rfl⟩
    · have hs3 : g.tick = SI := hs2
      have HS3 := Lib.hid hs3
      clear hs2 hs3 hSI
      go_wp2_with fail
      go_meet
      exact ⟨intv HS3.out, rfl⟩
  case rest =>
  obtain ⟨rfl, rfl⟩ := hcut
  clear hSI
  obtain ⟨nid, hnid⟩ : ∃ v, newId g = v := ⟨_, rfl⟩
  have HNID := Lib.hid hnid
  obtain ⟨g2, hg2⟩ : ∃ v : G, { g with next := if g.free = [] then g.next + 1 else g.next, free := g.free.dropLast } = v := ⟨_, rfl⟩
  have HG2 := Lib.hid hg2
  have HFB := Lib.hid (fun c hc => (World.ownsRow.lt HGZ.out.fr c (by rw [HNF.out]; exact hc)) : ∀ c, (Value.slice fa nf fc).ownBlock = some c → B ≤ c ∧ c < Z.heap.size)
  go_upto_if 119 with fail
  go_cut [18] (fun s wx => s = .int .i64 nid ∧ (∃ fv2, GR wx B S g2 born fv2 (.slice (some ⟨b, 0, none⟩) m cu) bv ∧ ∀ c, fv2.ownBlock = some c → (Value.slice fa nf fc).ownBlock = some c ∨ Z.heap.size ≤ c) ∧ Kp (fun c => c = S) Z wx)
  case first =>
    obtain ⟨hnx1, hnx2⟩ := hnx
    have htop2 : top ≤ 2000 := by rw [← HTOP.out]; cases g.new <;> decide
    have hgz := HGZ.out
    by_cases hn0 : nf = 0
    · have hfree : g.free = [] := List.eq_nil_of_length_eq_zero (by rw [HNF.out]; exact hn0)
      have hid : g.next = nid := by
        rw [← HNID.out]
        unfold newId
        rw [hfree]
        rfl
      have hg := hgz.setNext (g.next + 1)
      have e2 : ({ g with next := g.next + 1 } : G) = g2 := by
        rw [← HG2.out, hfree]
        rfl
      rw [e2, HNF.out] at hg
      have HG4 := Lib.hid hg
      have HID := Lib.hid hid
      have dn : decide ((0 : Int) < (nf : Int)) = false := decide_eq_false (by omega)
      have hnl : g.next ≤ 2001 := by omega
      clear hfree hid hg e2 hgz hg2 hnid
      go_wp2_with fail
      go_meet
      exact ⟨intv HID.out, ⟨_, HG4.out, fun c hc => Or.inl hc⟩, Kp.setCell Z ⟨S, 4, none⟩ _⟩
    · obtain ⟨p, rfl⟩ : ∃ p, nf = p + 1 := ⟨nf - 1, by omega⟩
      have hown := hgz.fr
      rw [HNF.out] at hown
      have hrow := ints_in HNF.out hown
      obtain ⟨hc1, hc2⟩ : p + 1 ≤ fc ∧ fc ≤ maxLen := by
        rcases hown.2 with ⟨-, h2⟩ | ⟨f, cap, cur, h1, -, -, h4, h5, -⟩
        · omega
        · cases h1; exact ⟨h4, h5⟩
      obtain ⟨f, o, hfa, hfB, qf⟩ := hrow p (by omega)
      subst hfa
      dsimp only at qf
      have hlen : g.free.length = p + 1 := HNF.out
      have hne : g.free ≠ [] := fun e => by rw [e] at hlen; simp at hlen
      have hid : g.free.getD p 0 = nid := by
        rw [← HNID.out]
        unfold newId
        rw [List.getLast?_eq_getElem?, hlen]
        simp [List.getD, hlen]
      rw [hid] at qf
      obtain ⟨i0, hi0', hz0, hz1, hz2⟩ := info_parts infoInt
      obtain ⟨v5, w5, r5, own5, hb5, -⟩ := run_copy_of (P := Try.prog) Z 87 87 3 i0 _ 1 8 Try.underlying87 hi0' hz0 hz1 hz2 rfl (by omega) (some ⟨f, o, none⟩) p fc (intCells g.free.dropLast) (by rw [intCells_length, List.length_dropLast, hlen]; omega) (fun h0 => ⟨f, o, rfl, fun j hj => by
        obtain ⟨f', o', e, -, hc⟩ := hrow j (by omega)
        cases e
        rw [hc]
        have hj2 : j < g.free.length := by omega
        have hj3 : j < g.free.dropLast.length := by rw [List.length_dropLast]; omega
        have e3 : (intCells g.free.dropLast)[j]? = some (.int .i64 (g.free.dropLast[j])) := by unfold intCells; rw [List.getElem?_map, List.getElem?_eq_getElem hj3]; rfl
        rw [e3, List.getElem_dropLast]
        simp [List.getD, hj2]⟩) (by intro q hq; obtain ⟨n, -, rfl⟩ := List.mem_map.1 hq; rfl) (by unfold maxLen; omega) (by omega)
      obtain ⟨ga, gc, rfl⟩ := own_slice own5
      have hg5 := hgz.call hb5
      obtain ⟨lS5, -, fS5⟩ := id hg5.blk
      have cS5 : w5.cell? ⟨S, 5, none⟩ = some (.slice (some ⟨f, o, none⟩) (p + 1) fc) := (hb5.cell (p := ⟨S, 5, none⟩) lSZ).trans cz5
      have own6 : w5.ownsRow B 3 1 (.slice ga p gc) g.free.dropLast.length (intCells g.free.dropLast) := by
        rw [List.length_dropLast, hlen]
        exact own_base own5 (Nat.le_trans HH.out.base (by omega))
      have nb : ∀ c, (Value.slice ga p gc).ownBlock = some c → Z.heap.size ≤ c := fun c hc => (World.ownsRow.lt own5 c hc).1
      have hg := hg5.setF own6 (fun c hc => ⟨by have := nb c hc; omega, fun e => by have h1 := (World.ownsRow.lt hgz.us c e).2; have := nb c hc; omega, fun e => by have h1 := (World.ownsRow.lt hgz.bo c e).2; have := nb c hc; omega⟩)
      have e2 : ({ g with free := g.free.dropLast } : G) = g2 := by
        rw [← HG2.out, if_neg hne]
      rw [e2] at hg
      have HG4 := Lib.hid hg
      have HK5 := Lib.hid ((kp_of hb5 (fun c => c = S)).andset ⟨S, 5, none⟩ (.slice ga p gc) rfl)
      have NB := Lib.hid nb
      have dn : decide ((0 : Int) < ((p + 1 : Nat) : Int)) = true := decide_eq_true (by omega)
      have dn0 : (((p + 1 : Nat) : Int) == 0) = false := by simp; omega
      have hw : IntKind.i64.wrap (((p + 1 : Nat) : Int) - 1) = (p : Int) := by rw [IntWalk.i64_in _ (by omega)]; omega
      have hw2 : (((p + 1 : Nat) : Int) - 1) = (p : Int) := by omega
      have hw3 : ((p : Int) + 1 - 1) = (p : Int) := by omega
      have hni : (0 : Int) ≤ (p : Int) := by omega
      have hnc : (p : Int) ≤ (fc : Int) := by omega
      have hnc2 : (p : Int) < (p : Int) + 1 := by omega
      have hnc3 : (p : Int) < ((p + 1 : Nat) : Int) := by omega
      have hfl : f < Z.heap.size := hfB
      clear hgz hown hrow hlen hne hid hi0' hz0 hz1 hz2 own5 hb5 hg5 own6 nb hg e2 hg2 hnid
      go_wp2_with (at_builtin; refine list_run_append (by rfl) _ _ _ _ (by rfl) (by rfl) (by rfl) (by rfl) r5 ?_)
      go_meet
      exact ⟨rfl, ⟨_, HG4.out, fun c hc => Or.inr (NB.out c hc)⟩, HK5.out⟩
  case rest =>
  obtain ⟨rfl, ⟨fv2, hg4, hfv2⟩, k4⟩ := hcut
  clear hg2 hnid cz0 cz1 cz4 cz5
  have hco := ruleOf_bd g.new kind
  rw [HRU.out] at hco
  obtain ⟨hco1, hco2, -⟩ := hco
  have hgo3 : 0 ≤ GO ∧ GO ≤ 1000 := by
    have h1 := HG.out.head
    unfold headBad at h1
    have h2 := HGO.out
    unfold goldOf at h2
    have h3 : richOf g.new ≤ 1000 := by cases g.new <;> decide
    split at h2 <;> omega
  obtain ⟨hgo4, hgo5⟩ := hgo3
  have hKUc := KUZ.out.kp k4 (by omega)
  have hKRc := KRZ.out.kp k4 (by omega)
  obtain ⟨lSc, cSc, fSc⟩ := id hg4.blk
  have hGO2 : goldOf g2 u.owner = GO := by rw [← HGO.out, ← HG2.out]; rfl
  have hcgc : wc.cell? ⟨S, 2 + u.owner.toNat, none⟩ = some (.int .i64 GO) := by
    rw [← hGO2, cSc]
    rcases HOWN.out with e | e <;> rw [e] <;> rfl
  obtain ⟨lUc, cUc, -⟩ := id hKUc
  obtain ⟨lRc, cRc, -⟩ := id hKRc
  have HG4 := Lib.hid hg4
  have HFV2 := Lib.hid hfv2
  have HK4 := Lib.hid k4
  have HKU := Lib.hid hKUc
  have HKR := Lib.hid hKRc
  have HGO2 := Lib.hid hGO2
  clear hg4 hfv2 k4 hKUc hKRc cSc hGO2
  go_upto_region 17 with fail
  haveI := Cw.ne wc
  have hcw := fun (x : Cw wc) => x.cell
  refine region_cw_tail 16 (by kernel_rfl) (by kernel_rfl) ?_
  simp only [List.take_succ_cons, List.take_zero, List.drop_succ_cons, List.drop_zero]
  repeat (go_big_quiet_step (fail))
  refine wpQuiet_nil ?_
  intro Y hY
  have hgY := HG4.out.call hY
  have hpay := hgY.setGold HOWN.out (GO - r.cost)
  have epay : setGold g2 u.owner (GO - r.cost) = pay g2 u.owner r.cost := by
    rw [← HGO2.out]
    unfold setGold pay goldOf
    split <;> rfl
  rw [epay] at hpay
  have hKUY := (HKU.out.call hY).other (T := S) (i := 2 + u.owner.toNat) (v := .int .i64 (GO - r.cost)) (by omega)
  have hKRY := (HKR.out.call hY).other (T := S) (i := 2 + u.owner.toNat) (v := .int .i64 (GO - r.cost)) (by omega)
  have hcY : Y.cell? ⟨S, 2 + u.owner.toNat, none⟩ = some (.int .i64 GO) := (hY.cell (p := ⟨S, _, none⟩) lSc).trans hcgc
  have fY := hgY.blk.free
  have HY := Lib.hid (HK4.out.then_ hY)
  refine list_store1 S (2 + u.owner.toNat) (.int .i64 (GO - r.cost)) 3 (.tmp 161) (.tmp 158) rfl rfl rfl rfl rfl (by rw [hcY]; rfl) (fY _) rfl (by kernel_rfl) (fun Q => GR Q B S (pay g2 u.owner r.cost) born fv2 (.slice (some ⟨b, 0, none⟩) m cu) bv ∧ Kp (fun c => c = S) Z Q ∧ Blk Q w.heap.size #[.int .i64 u.id, .int .i64 u.owner, .int .i64 u.kind, .int .i64 u.x, .int .i64 u.y, .int .i64 u.hp, .int .i64 u.does, .int .i64 u.gx, .int .i64 u.gy, .int .i64 u.target, .int .i64 u.since] ∧ Blk Q w1.heap.size #[.int .i64 r.cost, .int .i64 r.hp, .int .i64 r.speed, .int .i64 r.harm, .int .i64 r.range, .int .i64 r.load]) ⟨hpay, HY.out.andset _ _ rfl, hKUY, hKRY⟩ ?_
  rintro Q ⟨hgQ, hkQ, hUQ, hRQ⟩
  clear hgY hpay epay hKUY hKRY hcY fY hcw cUc cRc lUc lRc hcgc fSc hY
  obtain ⟨lUQ, cUQ, -⟩ := id hUQ
  obtain ⟨lRQ, cRQ, -⟩ := id hRQ
  obtain ⟨ba, bc, rfl⟩ := own_slice hgQ.bo
  obtain ⟨un, hun⟩ : ∃ v : U, ⟨nid, u.owner, kind, x, y, r.hp, 0, 0, 0, 0, SI⟩ = v := ⟨_, rfl⟩
  have HPUT := refput_any B S (pay g2 u.owner r.cost) born fv2 _ _ un Q hgQ (by
    have : (pay g2 u.owner r.cost).us = g.us := by rw [← HG2.out]; unfold pay; split <;> rfl
    rw [this]
    have := HG.out.few
    omega)
  have HUN := Lib.hid hun
  rw [← hun] at HPUT
  dsimp only at HPUT
  rw [hun] at HPUT
  have HPUT' := Lib.hid HPUT
  have HKQ := Lib.hid hkQ
  have hsQ := hkQ.size
  clear hun HPUT hgQ hkQ hUQ hRQ
  go_wp2_with fail
  refine HPUT'.out.mono ?_
  rintro e w5 ⟨rfl, ⟨uv5, hg5, hu5⟩, k5⟩
  have hs5 := k5.size
  obtain ⟨g6, cap6, w6, r6, own6, k6, hat6⟩ := push_int hg5.bo (by omega) (by have := hg5.base; have := hg5.blk.lt; omega) nid
  have hg6 := hg5.growB k6 own6 (by simp) hat6
  have lS5 := hg5.blk.lt
  have c75 : w5.cell? ⟨S, 7, none⟩ = some (.slice ba born.length bc) := hg5.blk.cell 7
  have hK6 : Blk w6 S _ := hg5.blk.kp k6 (fun e => hg5.sb S e rfl)
  obtain ⟨lS6, cS6, fS6⟩ := id hK6
  have c76 : w6.cell? ⟨S, 7, none⟩ = some (.slice ba born.length bc) := cS6 7
  have hkall : Kp X w w5 := (((kp_of HZ.out X).trans (HKQ.out.imp (Y := X) (fun c _ hc => by rw [hc]; exact HX.out.s)) (fun _ _ h => h)).trans (k5.imp (Y := X) (fun c _ hc => by rw [hc]; exact HX.out.s)) (fun _ _ h => h))
  have hkall2 : Kp X w w6 := hkall.trans (k6.imp (Y := X) (fun c _ hc => HX.out.b c hc)) (fun _ _ h => h)
  have HKALL := Lib.hid hkall2
  have HG6 := Lib.hid hg6
  have HU5 := Lib.hid hu5
  have HAT6 := Lib.hid hat6
  have hzs := HZ.out.size
  clear hg5 k5 own6 k6 hat6 hg6 hu5 hK6 cS6 hkall hkall2 cUQ cRQ
  go_wp2_with (at_builtin; refine list_run_append (by rfl) _ _ _ _ (by rfl) (by rfl) (by rfl) (by rfl) r6 ?_)
  go_end0
  have hcan2 : canBuild g i kind x y := ⟨HIS.out, K4.out, by rw [HI.out.2]; exact K1.out, HON.out, HSTV.out, by rw [HI.out.2, HFR.out]; have := HF.out; omega, by rw [HI.out.2, HRU.out, HGO.out]; have := HGN.out; omega, by rw [HM.out]; exact H20.out, by rw [HTOP.out]; exact HCAN.out⟩
  have hbu : builtU g i kind x y = un := by
    rw [← HUN.out]
    unfold builtU
    rw [HNID.out, HI.out.2, HRU.out, HSI.out]
  have hgame : buildsF (g, born) i kind x y = ({ pay g2 u.owner r.cost with us := insU (pay g2 u.owner r.cost).us un }, born ++ [nid]) := by
    unfold buildsF
    rw [if_pos hcan2]
    show (built g i kind x y, born ++ [newId g]) = _
    rw [HNID.out]
    unfold built
    rw [hbu, HI.out.2, HRU.out, ← HG2.out]
    unfold pay
    split <;> rfl
  rw [hgame]
  refine ⟨rfl, HKALL.out.andset _ _ HX.out.s, fv2, uv5, _, HG6.out, HX.out.s, fun c hc => ?_, fun c hc => ?_, fun c hc => ?_⟩
  · rcases HFV2.out c hc with h | h
    · exact HX.out.f c (by rw [HNF.out]; exact h)
    · exact HXN.out c (by omega)
  · exact HXN.out c (by have := HU5.out c hc; omega)
  · have h2 : g6 = c := Option.some.inj (show some g6 = some c from hc)
    rw [← h2]
    rcases HAT6.out with h | h
    · exact HX.out.b g6 h
    · exact HXN.out g6 (by omega)
end Go.Proofs.Ytlfljlhppigejaa
