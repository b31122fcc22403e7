/-
  The walk of the newer game's walk: all go at once. (Printed by gen_walk.py.)
-/
import Derived.Test.YtlfljlhppigejaaNewSteps
namespace Go.Proofs.Ytlfljlhppigejaa
open Go.RowKit
attribute [local go_sem] qOne qAt qUp qOneK

section
variable {P : Program} {ops : Array Oper} {X : Nat → Prop} {v0 : World}
/-- One cell is written. -/
theorem mix_store1 {L : Act → Cli (InK X v0) → Prop} {a : Act} {R : World → Prop} {hcl : ∀ w w', R w → Below w.heap.size w w' → R w'} {o : Oper} {r : List (Bool × Oper)} (b i : Nat) (v : Value) (ty : TypeId) (x y : Operand) (ho : o.op = .store ty x y) (hg : o.guard = none) (hd : o.dst = none)
    (hx : a.eval x = .pointer (some ⟨b, i, none⟩)) (hy : a.eval y = v) (h1 : v.oneCell' = true) (hi : (P.info? ty).map (·.size) = some 1) (hX : X b) (hR : ∀ w, R w → (w.cell? ⟨b, i, none⟩).isSome = true ∧ w.frozen? ⟨b, i, none⟩ = false)
    (R' : World → Prop) (hcl' : ∀ w w', R' w → Below w.heap.size w w' → R' w') (hR' : ∀ w, R w → R' (w.setCell ⟨b, i, none⟩ v)) (hk : wpMix P ops L r a (kcl X v0 R' hcl')) : wpMix P ops L ((true, o) :: r) a (kcl X v0 R hcl) := by
  refine mix_write (ι := Unit) (fun _ => undef) (fun _ => kcl X v0 R' hcl') (by simp [Region.wanted, hg]) (fun w h => ?_) (fun _ => ?_)
  · obtain ⟨hc, hf⟩ := hR w h.2
    refine ⟨(), w.setCell ⟨b, i, none⟩ v, Or.inr ⟨?_, rfl⟩, h.1.andset ⟨b, i, none⟩ v hX, hR' w h.2⟩
    unfold execOp
    simp only [ho, hx, hy, Sem.run_bind, run_store1 hc hf h1 hi, Result.andThen_ok]
    rfl
  · rw [show a.put o.dst undef = a from by rw [hd]; rfl]
    exact hk
end
/-- Block P is a board of numbers. -/
def Gr (w : World) (P : Nat) (f : Nat → Int) : Prop := P < w.heap.size ∧ (∀ i, i < 144 → w.cell? ⟨P, i, none⟩ = some (.int .i64 (f i))) ∧ ∀ i, w.frozen? ⟨P, i, none⟩ = false
theorem Gr.kp {X : Nat → Prop} {w w' : World} {P : Nat} {f : Nat → Int} (h : Gr w P f) (k : Kp X w w') (hx : ¬ X P) : Gr w' P f :=
  ⟨Nat.lt_of_lt_of_le h.1 k.size, fun i hi => (k.cell P i h.1 hx).trans (h.2.1 i hi), fun i => (k.frozen P i h.1 hx).trans (h.2.2 i)⟩
theorem Gr.call {w w' : World} {P : Nat} {f : Nat → Int} (h : Gr w P f) (k : Below w.heap.size w w') : Gr w' P f := h.kp (kp_of k (fun _ => False)) (fun x => x)
theorem Gr.store {w : World} {P i : Nat} {f f' : Nat → Int} (h : Gr w P f) (v : Int) (hi : i < 144) (hf : ∀ j, j < 144 → f' j = if j = i then v else f j) : Gr (w.setCell ⟨P, i, none⟩ (.int .i64 v)) P f' := by
  refine ⟨by simpa using h.1, fun j hj => ?_, fun j => free_set.trans (h.2.2 j)⟩
  rw [hf j hj]
  by_cases e : i = j
  · subst e
    rw [if_pos rfl, cell_same (h.2.1 i hi)]
  · rw [if_neg (fun x => e x.symm), cell_off e, h.2.1 j hj]
theorem zero_grid : (Try.zeroCells157 : Array Value) = Array.replicate 144 (.int .i64 0) := by kernel_rfl
theorem Gr.new (w : World) (T : TypeId) : Gr (w.alloc (.cells Try.zeroCells157 T)) w.heap.size (fun _ => 0) :=
  ⟨by simp, fun i hi => by rw [World.cell?_alloc_new, zero_grid]; simp [hi], fun i => World.frozen?_alloc_new w _ T i⟩
/-- How many of those that are done want to come to a place. -/
def wantG (old : List Int) (us : List U) (lf : Int → Bool) (i : Nat) : Int := doneS lf (wantU true old us (((i % 12 : Nat) : Int), ((i / 12 : Nat) : Int))) us
theorem goer_on {g : G} (hg : Right g) (hn : g.new = true) {old : List Int} {u : U} (hu : u ∈ g.us) {p : Int × Int} (h : goer true old g.us u = some p) : 0 ≤ p.1 ∧ p.1 < 12 ∧ 0 ≤ p.2 ∧ p.2 < 12 := by
  unfold goer at h
  split at h
  · exact on_range (wish_on hg hu (by rw [hn]; exact h))
  · cases h
theorem at_spot {px py : Int} (h : 0 ≤ px ∧ px < 12 ∧ 0 ≤ py ∧ py < 12) (j : Nat) : (px, py) = ((((j % 12 : Nat) : Int)), ((j / 12 : Nat) : Int)) ↔ j = py.toNat * 12 + px.toNat := by
  rw [Prod.mk.injEq]
  omega
theorem wantG_step {g : G} (hg : Right g) (hn : g.new = true) {old : List Int} {lf : Int → Bool} {u : U} (hu : u ∈ g.us) (hl : lf u.id = true) {px py : Int} (hq : goer true old g.us u = some (px, py)) (j : Nat) :
    wantG old g.us (but lf u.id) j = if j = py.toNat * 12 + px.toNat then wantG old g.us lf (py.toNat * 12 + px.toNat) + 1 else wantG old g.us lf j := by
  unfold wantG
  rw [wants_step hg.sorted hu hl hq]
  have ho := goer_on hg hn hu hq
  by_cases e : j = py.toNat * 12 + px.toNat
  · rw [if_pos e, if_pos ((at_spot ho j).2 e), e]
  · rw [if_neg e, if_neg (fun h => e ((at_spot ho j).1 h))]
    omega

set_option maxHeartbeats 12800000 in
set_option maxRecDepth 100000 in
theorem walk_any (B S M : Nat) (g : G) (ua : Option Addr) (cu : Nat) (fresh : Int) (old : List Int) (w : World) (h : BG w B S M g ua cu (gridF g.us) fresh) (hg : Right g) (hn : g.new = true) (hold : ∀ u ∈ g.us, old.contains u.id = decide (u.id < fresh)) :
    Calls Try.prog 93 #[.pointer (some ⟨S, 0, none⟩)] w fun e w' => e = .returned (.tuple #[]) ∧ BG w' B S M { g with us := movesF true old g.us } ua cu (gridF g.us) fresh ∧ Kp (fun b => (Value.slice ua g.us.length cu).ownBlock = some b) w w' := by
  have HH := Lib.hid h
  have HG := Lib.hid hg
  have HN := Lib.hid hn
  have HOLD := Lib.hid hold
  clear h hg hn hold
  go_enter Try.func93, Try.ntmps93
  go_wp2_with fail
  refine (steps_any B S M g ua cu (gridF g.us) fresh old w HH.out HG.out HN.out HOLD.out).mono ?_
  rintro e w1 ⟨m, n1, s1, rfl, hm1, hn1, mm1, b1⟩
  have HM1 := Lib.hid mm1
  have HB1 := Lib.hid b1
  have HHM := Lib.hid hm1
  clear mm1 b1 hm1
  go_upto_region 2 with fail
  refine gen_world (fun V => Below w.heap.size w V ∧ IM V m n1 s1 (fun id => (toAll true old g.us id).map pairV) ∧ Gr V w1.heap.size (fun _ => 0) ∧ w1.heap.size < V.heap.size) ⟨HB1.out.alloc HB1.out.size _, HM1.out.alloc _, Gr.new w1 _, by simp⟩ ?_
  rintro w2 ⟨b2, mm2, gr2, hs2⟩
  obtain ⟨pW, hpW⟩ : ∃ n, w1.heap.size = n := ⟨_, rfl⟩
  rw [hpW] at gr2 hs2
  have HPW : Hid (m < pW ∧ w.heap.size ≤ m) := Lib.hid ⟨by rw [← hpW]; exact HM1.out.lt, HHM.out⟩
  try rw [hpW]
  have HM2 := Lib.hid mm2
  have HB2 := Lib.hid b2
  have HG2 := Lib.hid gr2
  clear mm2 b2 gr2 hs2 hpW HM1 HB1 HHM
  go_wp2_with (at_range; refine list_range (by rfl) _ 219 rfl 3 62 (by kernel_rfl) (by kernel_rfl) m n1 s1 _ rfl HM2.out ?_; intro w3 hrg3 hb3 hs3)
  go_frame
  obtain ⟨R1, hR1⟩ : ∃ n, w2.heap.size = n := ⟨_, rfl⟩
  rw [hR1] at hrg3 hs3
  try rw [hR1]
  have HR3 := Lib.hid hrg3
  have HRR : Hid (pW < R1) := Lib.hid (by rw [← hR1]; exact HG2.out.1)
  have HG3 := Lib.hid (HG2.out.call hb3)
  have HB3 : Hid (Below w.heap.size w w3) := Lib.hid (HB2.out.trans (hb3.mono HB2.out.size))
  clear hR1 hrg3 hb3 hs3 HM2 HB2 HG2
  go_loopw [5] (fun _ wy => ∃ (lf : Int → Bool) (cnt : Nat), RgOf Try.prog 3 wy m R1 n1 (fun id => (toAll true old g.us id).map pairV) lf cnt ∧ Gr wy pW (wantG old g.us lf) ∧ Kp (fun b => b = pW ∨ b = R1) w3 wy) (fun _ wy => wy.rangeLeft m R1)
  case atStart =>
    refine ⟨_, _, HR3.out, ?_, Kp.refl _ _⟩
    have e : wantG old g.us (fun i => ((toAll true old g.us i).map pairV).isSome) = fun _ => 0 := by
      funext i
      have h1 : (fun i => ((toAll true old g.us i).map pairV).isSome) = fun i => (toAll true old g.us i).isSome := by funext i; cases toAll true old g.us i <;> rfl
      unfold wantG
      rw [h1, wants_start HG.out.sorted]
    rw [e]
    exact HG3.out
  case round =>
    obtain ⟨lf, cnt, hrg, hgr, hK⟩ := hrel
    have HRG := Lib.hid hrg
    have HGR := Lib.hid hgr
    have HK := Lib.hid hK
    clear hgr hK
    go_wp2_with (at_next; refine list_next (by rfl) _ rfl 3 (by kernel_rfl) m R1 n1 cnt _ lf rfl hrg ?_ ?_)
    case refine_2 =>
      rintro i v w6 cnt6 hwi hli px py hto rfl hrg6 hlt6 hk6 hs6 hen
      obtain ⟨k, u, hk, hid, hgo⟩ := toAll_some hto
      subst hid
      have hu : u ∈ g.us := List.mem_of_getElem? hk
      obtain ⟨a0, a1, a2, a3⟩ := goer_on HG.out HN.out hu hgo
      dsimp only at a0 a1 a2 a3
      have HGO := Lib.hid hgo
      have HU := Lib.hid hu
      have HLI := Lib.hid hli
      have HR6 := Lib.hid hrg6
      have HK6 := Lib.hid (HK.out.trans hk6 (fun b _ e => Or.inr e))
      have HG6 := Lib.hid (HGR.out.kp hk6 (fun e => by have := HRR.out; omega))
      have HLT : Hid (wr.rangeLeft m R1 = cnt ∧ cnt6 < cnt) := Lib.hid ⟨hrg.left_eq, hlt6⟩
      obtain ⟨nw, hnw⟩ : ∃ x, wantG old g.us lf (py.toNat * 12 + px.toNat) = x := ⟨_, rfl⟩
      have hnb : 0 ≤ nw ∧ nw ≤ 20 := by
        have h1 := wants_range (n := true) (old := old) (us := g.us) (lf := lf) ((((py.toNat * 12 + px.toNat) % 12 : Nat) : Int), (((py.toNat * 12 + px.toNat) / 12 : Nat) : Int))
        have h2 := HG.out.few
        rw [← hnw]
        unfold wantG
        omega
      obtain ⟨nb0, nb1⟩ := hnb
      have HNW := Lib.hid hnw
      clear hrg6 hk6 hli hto hgo hk hlt6 hrg hnw hs6
      have hpv : pairV (px, py) = .agg #[.int .i64 px, .int .i64 py] := rfl
      rw [hpv] at hen
      rw [hpv]
      clear hpv
      go_upto_region 5 with fail
      refine gen_world (fun V => Below w6.heap.size w6 V ∧ Blk V w6.heap.size #[.int .i64 px, .int .i64 py]) ⟨(Below.refl _ _).alloc (Nat.le_refl _) _, Blk.new _ _ _⟩ ?_
      rintro V ⟨bV, kP⟩
      obtain ⟨pp, hpp⟩ : ∃ n, w6.heap.size = n := ⟨_, rfl⟩
      have HPP : Hid (w6.heap.size = pp) := Lib.hid hpp
      rw [hpp] at kP
      try rw [hpp]
      have grV := HG6.out.call bV
      have BV := Lib.hid bV
      have lP := kP.lt
      have cP := kP.cell
      have lW := grV.1
      have cW := grV.2.1 (py.toNat * 12 + px.toNat) (by omega)
      rw [HNW.out] at cW
      have GV := Lib.hid grV
      clear hpp bV kP grV hen
      haveI := Cw.ne V
      have xP : ∀ (x : Cw V) (j : Nat), x.w.cell? ⟨pp, j, none⟩ = (#[.int .i64 px, .int .i64 py] : Array Value)[j]? := fun x j => (x.cell _ _ lP).trans (cP j)
      have xW : ∀ x : Cw V, x.w.cell? ⟨pW, py.toNat * 12 + px.toNat, none⟩ = some (.int .i64 nw) := fun x => (x.cell _ _ lW).trans cW
      have xl : ∀ x : Cw V, pp < x.w.heap.size ∧ pW < x.w.heap.size := fun x => by have := x.le; omega
      clear lP cP lW cW
      refine region_cw_tail 10 (by kernel_rfl) (by kernel_rfl) ?_
      simp only [List.take_succ_cons, List.take_zero, List.drop_succ_cons, List.drop_zero]
      repeat (go_big_quiet_step (fail))
      refine wpQuiet_nil ?_
      intro Y hY
      have GY := GV.out.call hY
      have HY : Hid (Below w6.heap.size w6 Y) := Lib.hid (BV.out.trans (hY.mono BV.out.size))
      have cY := GY.2.1 (py.toNat * 12 + px.toNat) (by omega)
      have fY := GY.2.2
      have HGY := Lib.hid GY
      clear hY xP xW xl GY
      refine list_store1 pW (py.toNat * 12 + px.toNat) (.int .i64 (nw + 1)) 3 (.tmp 27) (.tmp 25) rfl rfl rfl rfl rfl (by rw [cY]; rfl) (fY _) rfl (by kernel_rfl) (fun Z => Gr Z pW (wantG old g.us (but lf u.id)) ∧ Kp (fun b => b = pW) Y Z) ⟨HGY.out.store _ (by omega) (fun j _ => by rw [wantG_step HG.out HN.out HU.out HLI.out HGO.out, HNW.out]), Kp.setCell Y ⟨pW, _, none⟩ _⟩ ?_
      rintro Z ⟨grZ, kZ⟩
      have hrZ := (HR6.out.call HY.out).kp kZ (fun e => by have := HPW.out; omega) (fun e => by have := HRR.out; omega)
      have HGZ := Lib.hid grZ
      have HRZ := Lib.hid hrZ
      have HKZ := Lib.hid ((HK6.out.trans (kp_of HY.out _) (fun _ _ x => x)).trans kZ (fun b _ e => Or.inl e))
      clear grZ hrZ kZ cY fY
      go_wp2_with fail
      go_roundw
      case rel => exact ⟨but lf u.id, cnt6, HRZ.out, HGZ.out, HKZ.out⟩
      case measure => rw [HRZ.out.left_eq, HLT.out.1]; exact HLT.out.2
    case refine_1 =>
      intro hz0 hall
      have hdone : ∀ u ∈ g.us, lf u.id = false := fun u hu => by
        have ok := HG.out.ok hu
        have h1 := ok.idT
        have h2 := ok.id1
        rw [HN.out] at h1
        exact hall u.id (wf_int (by have : topOf true = 2000 := rfl; omega))
      have HDONE := Lib.hid hdone
      clear hz0 hrg hall hdone
      have hsz3 := HB3.out.size
      have hsR := HRR.out
      have hbw : Below w.heap.size w wr := HB3.out.trans (HK.out.below (fun b hb => by have := HPW.out; rcases hb with e | e <;> omega) hsz3)
      obtain ⟨sm, mm⟩ := HRG.out.map
      have hgW : Gr wr pW (fun i => ((wishers true old g.us (((i % 12 : Nat) : Int), ((i / 12 : Nat) : Int)) : Nat) : Int)) := by
        have e : (fun i => ((wishers true old g.us (((i % 12 : Nat) : Int), ((i / 12 : Nat) : Int)) : Nat) : Int)) = wantG old g.us lf := by
          funext i
          unfold wantG
          rw [wants_all HDONE.out]
        rw [e]
        exact HGR.out
      have HBW := Lib.hid hbw
      have HMM := Lib.hid mm
      have HGW := Lib.hid hgW
      clear hsz3 hsR hbw mm hgW
      go_upto_region 6 with fail
      refine gen_world (fun V => Below w.heap.size w V ∧ IM V m n1 sm (fun id => (toAll true old g.us id).map pairV) ∧ Gr V pW (fun i => ((wishers true old g.us (((i % 12 : Nat) : Int), ((i / 12 : Nat) : Int)) : Nat) : Int))) ⟨HBW.out, HMM.out, HGW.out⟩ ?_
      clear HBW HMM HGW HRG HGR HK HDONE HR3 HG3 HB3
      rintro w2 ⟨b2, mm2, gr2⟩
      have HB2 := Lib.hid b2
      have HG2 := Lib.hid gr2
      clear b2 gr2
      go_wp2_with (at_range; refine list_range (by rfl) _ 219 rfl 3 62 (by kernel_rfl) (by kernel_rfl) m n1 sm _ rfl mm2 ?_; intro w3 hrg3 hb3 hs3)
      go_frame
      obtain ⟨R2, hR2⟩ : ∃ n, w2.heap.size = n := ⟨_, rfl⟩
      rw [hR2] at hrg3 hs3
      try rw [hR2]
      have HR3 := Lib.hid hrg3
      have HR2 : Hid (pW < R2) := Lib.hid (by rw [← hR2]; exact HG2.out.1)
      have HG3 := Lib.hid (HG2.out.call hb3)
      have HB3 : Hid (Below w.heap.size w w3) := Lib.hid (HB2.out.trans (hb3.mono HB2.out.size))
      have HH3 := Lib.hid (HH.out.call HB3.out)
      have HOW : Hid (∀ b, (Value.slice ua g.us.length cu).ownBlock = some b → b < w.heap.size) := Lib.hid (fun b hb => (World.ownsRow.lt HH.out.own b hb).2)
      have hsM : S < w.heap.size ∧ M < w.heap.size := ⟨HH.out.bd.lt, by obtain ⟨_, _, _, h2⟩ := HH.out.mp; exact h2.lt⟩
      have HSM := Lib.hid hsM
      have hpt : ∀ lf : Int → Bool, (partU lf id (moveF true old g.us) g.us).length = g.us.length := fun lf => partU_length _ _ _ _
      have HPT := Lib.hid hpt
      have hwp : ∀ (lf : Int → Bool) a, whoV a (partU lf id (moveF true old g.us) g.us) = whoV a g.us := fun lf a => by
        funext i
        unfold whoV
        rw [who_ids (partU_ids (lf := lf) (a := id) (b := moveF true old g.us) (us := g.us) (fun _ _ => rfl) (fun u _ => move_id _ _ _ u))]
      have HWP := Lib.hid hwp
      clear hR2 hrg3 hb3 hs3 mm2 HB2 HG2 hsM hpt hwp
      go_loopw [6] (fun _ wy => ∃ (lf : Int → Bool) (cnt : Nat), RgOf Try.prog 3 wy m R2 n1 (fun id => (toAll true old g.us id).map pairV) lf cnt ∧ BG wy B S M { g with us := partU lf id (moveF true old g.us) g.us } ua cu (gridF g.us) fresh ∧ Kp (fun b => (Value.slice ua g.us.length cu).ownBlock = some b ∨ b = R2) w3 wy) (fun _ wy => wy.rangeLeft m R2)
      case atStart =>
        refine ⟨_, _, HR3.out, ?_, Kp.refl _ _⟩
        have h1 : (fun i => ((toAll true old g.us i).map pairV).isSome) = fun i => (toAll true old g.us i).isSome := by funext i; cases toAll true old g.us i <;> rfl
        rw [h1, moves_start HG.out.sorted]
        exact HH3.out
      case round =>
        obtain ⟨lf, cnt, hrg, hbg, hK⟩ := hrel
        have HBG := Lib.hid hbg
        have HK := Lib.hid hK
        have HRG := Lib.hid hrg
        have HGR := Lib.hid (HG3.out.kp hK (fun e => by rcases e with e | e; exact absurd (HOW.out _ e) (by have := HPW.out; omega); exact absurd e (by have := HR2.out; omega)))
        clear hbg hK
        go_wp2_with (at_next; refine list_next (by rfl) _ rfl 3 (by kernel_rfl) m R2 n1 cnt _ lf rfl hrg ?_ ?_)
        case refine_2 =>
          rintro i v w6 cnt6 hwi hli px py hto rfl hrg6 hlt6 hk6 hs6 hen
          obtain ⟨k, u, hk, hid, hgo⟩ := toAll_some hto
          subst hid
          have hu : u ∈ g.us := List.mem_of_getElem? hk
          obtain ⟨a0, a1, a2, a3⟩ := goer_on HG.out HN.out hu hgo
          dsimp only at a0 a1 a2 a3
          have hne : g.us.length ≠ 0 := by have := (List.getElem?_eq_some_iff.1 hk).1; omega
          obtain ⟨gg, hua, hBgg, -⟩ := own_ua HH.out.own hne
          subst hua
          have HGO := Lib.hid hgo
          have HU := Lib.hid hu
          have HKK := Lib.hid hk
          have HLI := Lib.hid hli
          have HR6 := Lib.hid hrg6
          have HWI := Lib.hid hwi
          have HK6 := Lib.hid (HK.out.trans hk6 (fun b _ e => Or.inr e))
          have HG6 := Lib.hid (HGR.out.kp hk6 (fun e => by have := HR2.out; omega))
          have HB6 := Lib.hid (HBG.out.kp hk6 (fun e => by have := HSM.out.1; have := HR2.out; have := HPW.out; omega) (fun e => by have := HSM.out.2; have := HR2.out; have := HPW.out; omega) (fun b hb e => by
            have h2 := HOW.out b hb
            have := HR2.out
            have := HPW.out
            omega))
          have HLT : Hid (wr.rangeLeft m R2 = cnt ∧ cnt6 < cnt) := Lib.hid ⟨hrg.left_eq, hlt6⟩
          obtain ⟨nw, hnw⟩ : ∃ x, ((wishers true old g.us (px, py) : Nat) : Int) = x := ⟨_, rfl⟩
          obtain ⟨gz, hgz⟩ : ∃ x, gridF g.us (py.toNat * 12 + px.toNat) = x := ⟨_, rfl⟩
          have hzz : gz = 0 ↔ standsAt g.us px py = false := by
            have h1 := grid_zero (us := g.us) (x := px) (y := py) (fun v hv => by
              have h1 := (HG.out.ok hv)
              have h2 := on_range h1.on
              exact ⟨h2.1, h2.2.1, h2.2.2.1, h2.2.2.2, h1.id1⟩) ⟨a0, a1⟩ ⟨a2, a3⟩
            have h2 : (py * 12 + px).toNat = py.toNat * 12 + px.toNat := by omega
            rw [h2, hgz] at h1
            exact h1
          have HNW := Lib.hid hnw
          have HGZ := Lib.hid hgz
          have HZZ := Lib.hid hzz
          clear hrg6 hk6 hli hto hgo hk hlt6 hrg hnw hs6 hgz hzz hwi hBgg hne
          have hpv : pairV (px, py) = .agg #[.int .i64 px, .int .i64 py] := rfl
          rw [hpv] at hen
          rw [hpv]
          clear hpv
          go_upto_region 9 with fail
          refine gen_world (fun V => Below w6.heap.size w6 V ∧ Blk V w6.heap.size #[.int .i64 px, .int .i64 py]) ⟨(Below.refl _ _).alloc (Nat.le_refl _) _, Blk.new _ _ _⟩ ?_
          rintro V ⟨bV, kP⟩
          obtain ⟨pp, hpp⟩ : ∃ n, w6.heap.size = n := ⟨_, rfl⟩
          have HPP : Hid (w6.heap.size = pp) := Lib.hid hpp
          rw [hpp] at kP
          try rw [hpp]
          have grV := HG6.out.call bV
          have bgV := HB6.out.call bV
          have BV := Lib.hid bV
          have KP := Lib.hid kP
          have lP := kP.lt
          have cP := kP.cell
          have lW := grV.1
          have cW := grV.2.1 (py.toNat * 12 + px.toNat) (by omega)
          dsimp only at cW
          have e12 : ((((py.toNat * 12 + px.toNat) % 12 : Nat) : Int), (((py.toNat * 12 + px.toNat) / 12 : Nat) : Int)) = (px, py) := by rw [Prod.mk.injEq]; omega
          rw [e12, HNW.out] at cW
          have lS := bgV.bd.lt
          have cS : V.cell? ⟨S, 6 + py.toNat * 12 + px.toNat, none⟩ = some (.int .i64 gz) := by
            have e1 : 6 + py.toNat * 12 + px.toNat = (py.toNat * 12 + px.toNat) + 6 := by omega
            rw [e1, bgV.bd.2.1 _ (by omega), boardV_grid _ _ _ _ _ _ _ _ _ (by omega), HGZ.out]
          have BGV := Lib.hid bgV
          clear hpp bV kP grV hen bgV e12
          haveI := Cw.ne V
          have xP : ∀ (x : Cw V) (j : Nat), x.w.cell? ⟨pp, j, none⟩ = (#[.int .i64 px, .int .i64 py] : Array Value)[j]? := fun x j => (x.cell _ _ lP).trans (cP j)
          have xW : ∀ x : Cw V, x.w.cell? ⟨pW, py.toNat * 12 + px.toNat, none⟩ = some (.int .i64 nw) := fun x => (x.cell _ _ lW).trans cW
          have xS : ∀ x : Cw V, x.w.cell? ⟨S, 6 + py.toNat * 12 + px.toNat, none⟩ = some (.int .i64 gz) := fun x => (x.cell _ _ lS).trans cS
          have xl : ∀ x : Cw V, pp < x.w.heap.size ∧ pW < x.w.heap.size ∧ S < x.w.heap.size := fun x => by have := x.le; omega
          have HNEXT : Hid (∀ y, Below w6.heap.size w6 y → ¬ (nw = 1 ∧ gz = 0) → (∃ (lf' : Int → Bool) (cnt' : Nat), RgOf Try.prog 3 y m R2 n1 (fun id => (toAll true old g.us id).map pairV) lf' cnt' ∧ BG y B S M { g with us := partU lf' id (moveF true old g.us) g.us } (some ⟨gg, 0, none⟩) cu (gridF g.us) fresh ∧ Kp (fun b => (Value.slice (some ⟨gg, 0, none⟩) g.us.length cu).ownBlock = some b ∨ b = R2) w3 y) ∧ y.rangeLeft m R2 < wr.rangeLeft m R2) := Lib.hid (fun y hy hno => by
            have hr := HR6.out.call hy
            refine ⟨⟨but lf u.id, cnt6, hr, ?_, HK6.out.trans (kp_of hy _) (fun _ _ x => x)⟩, by rw [hr.left_eq, HLT.out.1]; exact HLT.out.2⟩
            have hm : moveF true old g.us u = u := move_neg HGO.out (fun h => hno ⟨by have := HNW.out; have := h.1; omega, HZZ.out.2 h.2⟩)
            rw [partU_same HG.out.sorted HKK.out hm.symm]
            exact HB6.out.call hy)
          clear lP cP lW cW lS cS
          by_cases hw1 : nw = 1
          case neg =>
            have d1 : (nw == 1) = false := by simp [hw1]
            have HW1 := Lib.hid hw1
            clear hw1
            refine region_cw (by kernel_rfl) (by kernel_rfl) ?_
            repeat (go_big_quiet_step (fail))
            refine wpQuiet_nil ?_
            intro Y hY
            obtain ⟨q1, q2⟩ := HNEXT.out Y (BV.out.trans (hY.mono BV.out.size)) (fun h => HW1.out h.1)
            have Q1 := Lib.hid q1
            have Q2 := Lib.hid q2
            clear q1 q2 xP xW xS xl hY
            go_wp2_with fail
            go_roundw
            case rel => exact Q1.out
            case measure => exact Q2.out
          have d1 : (nw == 1) = true := by simp [hw1]
          have HW1 := Lib.hid hw1
          clear hw1
          by_cases hz1 : gz = 0
          case neg =>
            have d2 : (gz == 0) = false := by simp [hz1]
            have HZ1 := Lib.hid hz1
            clear hz1
            refine region_cw (by kernel_rfl) (by kernel_rfl) ?_
            repeat (go_big_quiet_step (fail))
            refine wpQuiet_nil ?_
            intro Y hY
            obtain ⟨q1, q2⟩ := HNEXT.out Y (BV.out.trans (hY.mono BV.out.size)) (fun h => HZ1.out h.2)
            have Q1 := Lib.hid q1
            have Q2 := Lib.hid q2
            clear q1 q2 xP xW xS xl hY
            go_wp2_with fail
            go_roundw
            case rel => exact Q1.out
            case measure => exact Q2.out
          have d2 : (gz == 0) = true := by simp [hz1]
          have HZ1 := Lib.hid hz1
          clear hz1
          refine region_cw (by kernel_rfl) (by kernel_rfl) ?_
          repeat (go_big_quiet_step (fail))
          refine wpQuiet_nil ?_
          intro Y hY
          have HYY := Lib.hid (BV.out.trans (hY.mono BV.out.size))
          have BGY := Lib.hid (BGV.out.call hY)
          have KPY := Lib.hid (KP.out.call hY)
          clear hY xP xW xS xl HNEXT
          go_upto_region 10 with fail
          have hkP : (partU lf id (moveF true old g.us) g.us)[k]? = some u := by
            have := partU_at (lf := lf) (a := id) (b := moveF true old g.us) HKK.out
            rw [if_pos HLI.out] at this
            exact this
          have HKP := Lib.hid hkP
          have hmv : moveF true old g.us u = { u with x := px, y := py } := move_pos HGO.out (by have := HNW.out; have := HW1.out; omega) (HZZ.out.1 HZ1.out)
          have hps : partU (but lf u.id) id (moveF true old g.us) g.us = (partU lf id (moveF true old g.us) g.us).set k { u with x := px, y := py } := by
            rw [partU_step HG.out.sorted HKK.out, hmv]
          have HPS := Lib.hid hps
          obtain ⟨hgl, -⟩ := BGY.out.unit hkP
          have lS := BGY.out.bd.lt
          have cS : Y.cell? ⟨S, 5, none⟩ = some (.map (some M)) := BGY.out.bd.2.1 5 (by omega)
          obtain ⟨nM, sM, hnM, mM⟩ := BGY.out.mp
          have mM' := mM
          dsimp only at mM'
          rw [HWP.out lf (some ⟨gg, 0, none⟩)] at mM'
          have lP := KPY.out.lt
          have cP := KPY.out.cell
          have nSg : ¬ S = gg := fun e => BGY.out.uS (by rw [e]; rfl)
          have nMg : ¬ M = gg := fun e => BGY.out.uM (by rw [e]; rfl)
          have nPg : ¬ pp = gg := fun e => by
            have h1 := HOW.out gg rfl
            have h2 := HR6.out.lt
            have h3 := HPP.out
            have h4 := HR2.out
            have h5 := HPW.out
            omega
          haveI := Kw.ne (fun b => b = gg) Y
          have yS : ∀ x : Kw (fun b => b = gg) Y, x.w.cell? ⟨S, 5, none⟩ = some (.map (some M)) := fun x => (x.cell _ _ lS nSg).trans cS
          have yP : ∀ (x : Kw (fun b => b = gg) Y) (j : Nat), x.w.cell? ⟨pp, j, none⟩ = (#[.int .i64 px, .int .i64 py] : Array Value)[j]? := fun x j => (x.cell _ _ lP nPg).trans (cP j)
          have yl : ∀ x : Kw (fun b => b = gg) Y, S < x.w.heap.size ∧ pp < x.w.heap.size ∧ gg < x.w.heap.size := fun x => by have := x.kp.size; omega
          have yL : ∀ x : Kw (fun b => b = gg) Y, (Instr.lookup 155 (.map (some M)) (.int .i64 u.id) false).run Try.prog x.w = .ok (.pointer (some ⟨gg, k * 11, none⟩)) x.w := fun x => by
            have := (mM'.kp x.kp nMg).get (intKeys (by kernel_rfl)) (t := 155) (e := 161) (by kernel_rfl) (z := .pointer none) (by kernel_rfl) u.id HWI.out
            rw [whoV_is HG.out.sorted HKK.out] at this
            exact this
          clear hkP hmv hps lS cS lP cP mM mM'
          refine region_mix 19 [(false, 0), (false, 1), (false, 2), (false, 3), (false, 4), (false, 5), (false, 6), (false, 7), (false, 8), (false, 9), (false, 10), (false, 11), (false, 12), (false, 13), (false, 14), (false, 15), (false, 16), (false, 17), (true, 18)] (kcl (fun b => b = gg) Y (fun x => BG x B S M { g with us := partU lf id (moveF true old g.us) g.us } (some ⟨gg, 0, none⟩) cu (gridF g.us) fresh) (fun _ _ h hb => h.call hb)) ⟨Kp.drew _ _, BGY.out.kp (Kp.drew (fun _ => False) Y) (fun x => x) (fun x => x) (fun _ _ x => x)⟩ (by kernel_rfl) (by kernel_rfl) ?_
          simp only [stepsOf, List.filterMap_cons, List.filterMap_nil, List.getElem?_toArray, List.getElem?_cons_zero, List.getElem?_cons_succ, Option.map_some, List.drop_succ_cons, List.drop_zero]
          repeat (refine mix_readK (fun K hK => ?_); go_simp; refine hK _ ?_; clear hK K)
          have hlen := HPT.out lf
          have hkl : k < g.us.length := (List.getElem?_eq_some_iff.1 HKK.out).1
          have hgd : (partU lf id (moveF true old g.us) g.us).getD k zeroU = u := by
            obtain ⟨q1, q2⟩ := List.getElem?_eq_some_iff.1 HKP.out
            rw [getD_lt q1, q2]
          have HGD := Lib.hid hgd
          have HLEN : Hid (k < (partU lf id (moveF true old g.us) g.us).length) := Lib.hid (by rw [hlen]; exact hkl)
          clear hlen hkl hgd
          refine mix_store1 gg (k * 11 + 3) (.int .i64 px) 3 (.tmp 73) (.tmp 69) rfl rfl rfl rfl rfl rfl (by kernel_rfl) rfl (fun x hx => ⟨by rw [(hx.unit HKP.out).2.2.2.2.1]; rfl, (hx.unit HKP.out).2.2.2.2.2.2.2.2.2.2.2 _⟩) (fun x => BG x B S M { g with us := (partU lf id (moveF true old g.us) g.us).set k { u with x := px } } (some ⟨gg, 0, none⟩) cu (gridF g.us) fresh) (fun _ _ h hb => h.call hb) (fun x hx => hx.poke HLEN.out (j := 3) (by decide) (by dsimp only; rw [HGD.out]; rfl) (by dsimp only; rw [HGD.out])) ?_
          refine mix_nil ?_
          rintro Q ⟨kQ, bgQ⟩
          have HKQ := Lib.hid kQ
          have HBQ := Lib.hid bgQ
          have hk2 : ((partU lf id (moveF true old g.us) g.us).set k { u with x := px })[k]? = some { u with x := px } := by
            rw [List.getElem?_set]
            simp [HLEN.out]
          have HK2 := Lib.hid hk2
          obtain ⟨-, -, -, -, -, u4, -, -, -, -, -, fQ⟩ := bgQ.unit hk2
          clear kQ bgQ hk2 yS yP yl yL
          refine wpList_plain rfl (fun K hK => ?_); go_simp; refine hK _ _ ?_; clear hK K
          refine wpList_plain rfl (fun K hK => ?_); go_simp; refine hK _ _ ?_; clear hK K
          refine list_store1 gg (k * 11 + 4) (.int .i64 py) 3 (.tmp 75) (.tmp 71) rfl rfl rfl rfl rfl (by rw [u4]; rfl) (fQ _) rfl (by kernel_rfl) (fun Z => BG Z B S M { g with us := partU (but lf u.id) id (moveF true old g.us) g.us } (some ⟨gg, 0, none⟩) cu (gridF g.us) fresh ∧ Kp (fun b => b = gg) Q Z) ⟨?_, Kp.setCell Q ⟨gg, k * 11 + 4, none⟩ _⟩ ?_
          · have h1 : ((partU lf id (moveF true old g.us) g.us).set k { u with x := px }).getD k zeroU = { u with x := px } := by
              obtain ⟨q1, q2⟩ := List.getElem?_eq_some_iff.1 HK2.out
              rw [getD_lt q1, q2]
            have := HBQ.out.poke (k := k) (by rw [List.length_set]; exact HLEN.out) (j := 4) (by decide) (v := .int .i64 py) (u' := { u with x := px, y := py }) (by dsimp only; rw [h1]; rfl) (by dsimp only; rw [h1])
            dsimp only at this
            rw [List.set_set, ← HPS.out] at this
            exact this
          rintro Z ⟨bgZ, kZ⟩
          have kall : Kp (fun b => (Value.slice (some ⟨gg, 0, none⟩) g.us.length cu).ownBlock = some b ∨ b = R2) Y Z := (HKQ.out.trans kZ (fun _ _ x => x)).imp (fun b _ e => Or.inl (congrArg some e.symm))
          have hrZ := ((HR6.out.call HYY.out).kp HKQ.out (fun e => by have := HOW.out gg rfl; have := HPW.out; omega) (fun e => by have := HOW.out gg rfl; have := HR2.out; have := HPW.out; omega)).kp kZ (fun e => by have := HOW.out gg rfl; have := HPW.out; omega) (fun e => by have := HOW.out gg rfl; have := HR2.out; have := HPW.out; omega)
          have HRZ := Lib.hid hrZ
          have HBZ := Lib.hid bgZ
          have HKZ := Lib.hid ((HK6.out.trans (kp_of HYY.out _) (fun _ _ x => x)).trans kall (fun _ _ x => x))
          clear bgZ kZ kall hrZ u4 fQ
          go_wp2_with fail
          go_roundw
          case rel => exact ⟨but lf u.id, cnt6, HRZ.out, HBZ.out, HKZ.out⟩
          case measure => rw [HRZ.out.left_eq, HLT.out.1]; exact HLT.out.2
        case refine_1 =>
          intro hz0 hall
          have hdone : ∀ u ∈ g.us, lf u.id = false := fun u hu => by
            have ok := HG.out.ok hu
            have h1 := ok.idT
            have h2 := ok.id1
            rw [HN.out] at h1
            exact hall u.id (wf_int (by have : topOf true = 2000 := rfl; omega))
          have hbg2 := HBG.out
          rw [partU_none hdone] at hbg2
          have hsz3 := HB3.out.size
          have hkw : Kp (fun b => (Value.slice ua g.us.length cu).ownBlock = some b) w wr := by
            have k1 : Kp (fun b => (Value.slice ua g.us.length cu).ownBlock = some b ∨ b = R2) w wr := (kp_of HB3.out _).trans HK.out (fun _ _ x => x)
            exact k1.imp (fun b hb e => e.elim id (fun h => by have := HR2.out; have := HPW.out; omega))
          obtain ⟨US, hUS⟩ : ∃ x, g.us.map (moveF true old g.us) = x := ⟨_, rfl⟩
          rw [hUS] at hbg2
          have hlus : US.length = g.us.length := by rw [← hUS]; simp
          have hsrt : byId US := by rw [← hUS]; exact byId_mapped HG.out.sorted (fun u _ => move_id _ _ _ u)
          have hids : ∀ v ∈ US, (Lit.int .i64 v.id).wf = true ∧ old.contains v.id = decide (v.id < fresh) := fun v hv => by
            rw [← hUS] at hv
            obtain ⟨u, hu, rfl⟩ := List.mem_map.1 hv
            rw [move_id]
            have ok := HG.out.ok hu
            have h1 := ok.idT
            have h2 := ok.id1
            rw [HN.out] at h1
            exact ⟨wf_int (by have : topOf true = 2000 := rfl; omega), HOLD.out u hu⟩
          have hfin : US.map (arriveF old) = movesF true old g.us := by
            rw [← hUS, List.map_map]
            rfl
          have HBG2 := Lib.hid hbg2
          have HKW := Lib.hid hkw
          have HLUS := Lib.hid hlus
          have HSRT := Lib.hid hsrt
          have HIDS := Lib.hid hids
          have HFIN := Lib.hid hfin
          clear hz0 hrg hall hdone hbg2 hsz3 hkw hlus hsrt hids hfin hUS
          go_upto_region 11 with fail
          refine gen_world (fun V => BG V B S M { g with us := US } ua cu (gridF g.us) fresh ∧ Kp (fun b => (Value.slice ua g.us.length cu).ownBlock = some b) w V) ⟨HBG2.out, HKW.out⟩ ?_
          clear HBG2 HKW HRG HGR HK HBG HR3 HG3 HB3 HH3 HPT HWP
          rintro w4 ⟨bg4, k4⟩
          have lS := bg4.bd.lt
          have c5 : w4.cell? ⟨S, 5, none⟩ = some (.map (some M)) := bg4.bd.2.1 5 (by omega)
          obtain ⟨n0, s0, hn0, mM⟩ := bg4.mp
          have HB4 := Lib.hid bg4
          have HK4 := Lib.hid k4
          clear bg4 k4
          go_wp2_with (at_range; refine list_range (by rfl) _ 155 rfl 3 161 (by kernel_rfl) (by kernel_rfl) M n0 s0 _ rfl mM ?_; intro w5 hrg5 hb5 hs5)
          try go_frame
          obtain ⟨R3, hR3⟩ : ∃ n, w4.heap.size = n := ⟨_, rfl⟩
          rw [hR3] at hrg5 hs5
          try rw [hR3]
          have HR3 : Hid (w.heap.size ≤ R3) := Lib.hid (by rw [← hR3]; exact HK4.out.size)
          have HR5 := Lib.hid hrg5
          have HB5 := Lib.hid (HB4.out.call hb5)
          have HK5 : Hid (Kp (fun b => (Value.slice ua g.us.length cu).ownBlock = some b) w w5) := Lib.hid (HK4.out.trans (kp_of hb5 _) (fun _ _ x => x))
          have hwp : ∀ (lf : Int → Bool) a, whoV a (partU lf id (arriveF old) US) = whoV a US := fun lf a => by
            funext i
            unfold whoV
            rw [who_ids (partU_ids (lf := lf) (a := id) (b := arriveF old) (us := US) (fun _ _ => rfl) (fun u _ => arrive_id _ u))]
          have HWP := Lib.hid hwp
          clear hR3 hrg5 hb5 hs5 mM c5 lS hwp
          go_loopw [8] (fun _ wy => ∃ (lf : Int → Bool) (cnt : Nat), RgOf Try.prog 3 wy M R3 n0 (whoV ua US) lf cnt ∧ BG wy B S M { g with us := partU lf id (arriveF old) US } ua cu (gridF g.us) fresh ∧ Kp (fun b => (Value.slice ua g.us.length cu).ownBlock = some b ∨ b = R3) w5 wy) (fun _ wy => wy.rangeLeft M R3)
          case atStart =>
            refine ⟨_, _, HR5.out, ?_, Kp.refl _ _⟩
            have e : partU (fun i => (whoV ua US i).isSome) id (arriveF old) US = US := by
              have h1 := partU_all (lf := fun i => (whoV ua US i).isSome) (a := id) (b := arriveF old) (us := US) (fun u hu => Or.inl (by
                obtain ⟨k, hk⟩ := List.getElem?_of_mem hu
                obtain ⟨gg, hua, -⟩ := own_ua HB5.out.own (by have := (List.getElem?_eq_some_iff.1 hk).1; dsimp only; omega)
                show (whoV ua US u.id).isSome = true
                rw [hua, whoV_is HSRT.out hk]
                rfl))
              rw [h1, List.map_id]
            rw [e]
            exact HB5.out
          case round =>
            obtain ⟨lf, cnt, hrg, hbg, hK⟩ := hrel
            have HBG := Lib.hid hbg
            have HK := Lib.hid hK
            have HRG := Lib.hid hrg
            clear hbg hK
            go_wp2_with (at_next; refine list_next (by rfl) _ rfl 3 (by kernel_rfl) M R3 n0 cnt _ lf rfl hrg ?_ ?_)
            case refine_1 =>
              intro hz0 hall
              have hdone : ∀ u ∈ US, lf u.id = false := fun u hu => hall u.id (HIDS.out u hu).1
              have hbg2 := HBG.out
              rw [partU_none hdone, HFIN.out] at hbg2
              have hkw : Kp (fun b => (Value.slice ua g.us.length cu).ownBlock = some b) w wr := by
                have k1 : Kp (fun b => (Value.slice ua g.us.length cu).ownBlock = some b ∨ b = R3) w wr := (HK5.out.imp (fun _ _ x => Or.inl x)).trans HK.out (fun _ _ x => x)
                exact k1.imp (fun b hb e => e.elim id (fun h => by have := HR3.out; omega))
              have HBG2 := Lib.hid hbg2
              have HKW := Lib.hid hkw
              clear hz0 hrg hall hdone hbg2 hkw
              go_wp2_with fail
              go_end0
              exact ⟨rfl, HBG2.out, HKW.out⟩
            case refine_2 =>
              intro i v w6 cnt6 hwi hli hfi hrg6 hlt6 hk6 hs6 hen
              have hne : US.length ≠ 0 := fun e => by
                have : US = [] := List.eq_nil_of_length_eq_zero e
                rw [this] at hfi
                cases hfi
              obtain ⟨gg, hua, hBgg, -⟩ := own_ua HB5.out.own hne
              subst hua
              obtain ⟨k, u, hk, hid, rfl⟩ := whoV_inv hfi
              subst hid
              have hu : u ∈ US := List.mem_of_getElem? hk
              have HOW5 : Hid (gg < w.heap.size) := Lib.hid (HOW.out gg rfl)
              have HKK := Lib.hid hk
              have HLI := Lib.hid hli
              have HR6 := Lib.hid hrg6
              have HK6 := Lib.hid (HK.out.trans hk6 (fun b _ e => Or.inr e))
              have hb6 := HBG.out.kp hk6 (fun e => by have h1 := HSM.out.1; have h2 := HR3.out; have h3 : S = R3 := e; omega) (fun e => by have h1 := HSM.out.2; have h2 := HR3.out; have h3 : M = R3 := e; omega) (fun b hb e => by
                have h2 : gg = b := Option.some.inj hb
                have h1 := HOW5.out
                have h3 := HR3.out
                have h4 : b = R3 := e
                omega)
              have HB6 := Lib.hid hb6
              have HLT : Hid (wr.rangeLeft M R3 = cnt ∧ cnt6 < cnt) := Lib.hid ⟨hrg.left_eq, hlt6⟩
              have hkP : (partU lf id (arriveF old) US)[k]? = some u := by
                have := partU_at (lf := lf) (a := id) (b := arriveF old) hk
                rw [if_pos hli] at this
                exact this
              have HKP := Lib.hid hkP
              have HOC : Hid (old.contains u.id = decide (u.id < fresh)) := Lib.hid (HIDS.out u hu).2
              have HNEXT : Hid (∀ y, Below w6.heap.size w6 y → arriveF old u = u → (∃ (lf' : Int → Bool) (cnt' : Nat), RgOf Try.prog 3 y M R3 n0 (whoV (some ⟨gg, 0, none⟩) US) lf' cnt' ∧ BG y B S M { g with us := partU lf' id (arriveF old) US } (some ⟨gg, 0, none⟩) cu (gridF g.us) fresh ∧ Kp (fun b => (Value.slice (some ⟨gg, 0, none⟩) g.us.length cu).ownBlock = some b ∨ b = R3) w5 y) ∧ y.rangeLeft M R3 < wr.rangeLeft M R3) := Lib.hid (fun y hy hno => by
                have hr := HR6.out.call hy
                refine ⟨⟨but lf u.id, cnt6, hr, ?_, HK6.out.trans (kp_of hy _) (fun _ _ x => x)⟩, by rw [hr.left_eq, HLT.out.1]; exact HLT.out.2⟩
                rw [partU_same HSRT.out HKK.out hno.symm]
                exact HB6.out.call hy)
              have lS := hb6.bd.lt
              have cF : w6.cell? ⟨S, 150, none⟩ = some (.int .i64 fresh) := hb6.bd.2.1 150 (by omega)
              obtain ⟨hgl, -, -, -, u3, u4, -, u6, u7, u8, u9, hfg⟩ := hb6.unit hkP
              have U678 := Lib.hid (And.intro u6 (And.intro u7 (And.intro u8 (And.intro u9 (And.intro hgl hfg)))))
              clear hrg6 hk6 hli hfi hlt6 hrg hs6 hwi hBgg hne hu hkP hb6 hk u9 hfg
              go_upto_region 14 with fail
              haveI := Cw.ne w6
              have y3 : ∀ x : Cw w6, x.w.cell? ⟨gg, k * 11 + 3, none⟩ = some (.int .i64 u.x) := fun x => (x.cell _ _ hgl).trans u3
              have y4 : ∀ x : Cw w6, x.w.cell? ⟨gg, k * 11 + 4, none⟩ = some (.int .i64 u.y) := fun x => (x.cell _ _ hgl).trans u4
              have y6 : ∀ x : Cw w6, x.w.cell? ⟨gg, k * 11 + 6, none⟩ = some (.int .i64 u.does) := fun x => (x.cell _ _ hgl).trans u6
              have y7 : ∀ x : Cw w6, x.w.cell? ⟨gg, k * 11 + 7, none⟩ = some (.int .i64 u.gx) := fun x => (x.cell _ _ hgl).trans u7
              have y8 : ∀ x : Cw w6, x.w.cell? ⟨gg, k * 11 + 8, none⟩ = some (.int .i64 u.gy) := fun x => (x.cell _ _ hgl).trans u8
              have yF : ∀ x : Cw w6, x.w.cell? ⟨S, 150, none⟩ = some (.int .i64 fresh) := fun x => (x.cell _ _ lS).trans cF
              have yl : ∀ x : Cw w6, S < x.w.heap.size ∧ gg < x.w.heap.size := fun x => by have := x.le; omega
              clear u3 u4 u6 u7 u8 hgl lS cF hen
              by_cases e1 : u.id < fresh
              case neg =>
                have d1 : decide (u.id < fresh) = false := decide_eq_false e1
                have hno : Hid (arriveF old u = u) := Lib.hid (by unfold arriveF; rw [if_neg (fun h => by rw [HOC.out] at h; exact e1 (of_decide_eq_true h.1))])
                clear e1
                refine region_cw (by kernel_rfl) (by kernel_rfl) ?_
                repeat (go_big_quiet_step (fail))
                refine wpQuiet_nil ?_
                intro Y hY
                obtain ⟨q1, q2⟩ := HNEXT.out Y hY hno.out
                have Q1 := Lib.hid q1
                have Q2 := Lib.hid q2
                clear q1 q2 y3 y4 y6 y7 y8 yF yl hY
                go_wp2_with fail
                go_roundw
                case rel => exact Q1.out
                case measure => exact Q2.out
              have d1 : decide (u.id < fresh) = true := decide_eq_true e1
              have E1 := Lib.hid e1
              clear e1
              by_cases e2 : u.does = 1
              case neg =>
                have d2 : (u.does == 1) = false := by simp [e2]
                have hno : Hid (arriveF old u = u) := Lib.hid (by unfold arriveF; rw [if_neg (fun h => e2 h.2.1)])
                clear e2
                refine region_cw (by kernel_rfl) (by kernel_rfl) ?_
                repeat (go_big_quiet_step (fail))
                refine wpQuiet_nil ?_
                intro Y hY
                obtain ⟨q1, q2⟩ := HNEXT.out Y hY hno.out
                have Q1 := Lib.hid q1
                have Q2 := Lib.hid q2
                clear q1 q2 y3 y4 y6 y7 y8 yF yl hY
                go_wp2_with fail
                go_roundw
                case rel => exact Q1.out
                case measure => exact Q2.out
              have d2 : (u.does == 1) = true := by simp [e2]
              have E2 := Lib.hid e2
              clear e2
              by_cases e3 : u.x = u.gx
              case neg =>
                have d3 : (u.x == u.gx) = false := by simp [e3]
                have hno : Hid (arriveF old u = u) := Lib.hid (by unfold arriveF; rw [if_neg (fun h => e3 h.2.2.1)])
                clear e3
                refine region_cw (by kernel_rfl) (by kernel_rfl) ?_
                repeat (go_big_quiet_step (fail))
                refine wpQuiet_nil ?_
                intro Y hY
                obtain ⟨q1, q2⟩ := HNEXT.out Y hY hno.out
                have Q1 := Lib.hid q1
                have Q2 := Lib.hid q2
                clear q1 q2 y3 y4 y6 y7 y8 yF yl hY
                go_wp2_with fail
                go_roundw
                case rel => exact Q1.out
                case measure => exact Q2.out
              have d3 : (u.x == u.gx) = true := by simp [e3]
              have E3 := Lib.hid e3
              clear e3
              by_cases e4 : u.y = u.gy
              case neg =>
                have d4 : (u.y == u.gy) = false := by simp [e4]
                have hno : Hid (arriveF old u = u) := Lib.hid (by unfold arriveF; rw [if_neg (fun h => e4 h.2.2.2)])
                clear e4
                refine region_cw (by kernel_rfl) (by kernel_rfl) ?_
                repeat (go_big_quiet_step (fail))
                refine wpQuiet_nil ?_
                intro Y hY
                obtain ⟨q1, q2⟩ := HNEXT.out Y hY hno.out
                have Q1 := Lib.hid q1
                have Q2 := Lib.hid q2
                clear q1 q2 y3 y4 y6 y7 y8 yF yl hY
                go_wp2_with fail
                go_roundw
                case rel => exact Q1.out
                case measure => exact Q2.out
              have d4 : (u.y == u.gy) = true := by simp [e4]
              have E4 := Lib.hid e4
              have hyes : arriveF old u = tellU u 0 0 0 0 := by
                unfold arriveF
                rw [if_pos ⟨by rw [HOC.out]; exact decide_eq_true E1.out, E2.out, E3.out, E4.out⟩]
              have HYES := Lib.hid hyes
              clear e4 hyes
              refine region_cw (by kernel_rfl) (by kernel_rfl) ?_
              repeat (go_big_quiet_step (fail))
              refine wpQuiet_nil ?_
              intro Y hY
              have HYY := Lib.hid hY
              have bgY := HB6.out.call hY
              have BGY := Lib.hid bgY
              clear y3 y4 y6 y7 y8 yF yl hY
              obtain ⟨hgl, -, -, -, -, -, -, u6, u7, u8, u9, hfg⟩ := bgY.unit HKP.out
              clear bgY
              go_wp2_with fail
              refine (set_any gg (k * 11) 0 0 0 0 _ (by rw [u6]; rfl) (by rw [u7]; rfl) (by rw [u8]; rfl) (by rw [u9]; rfl) hfg).mono ?_
              rintro e w2 ⟨rfl, rfl⟩
              have bgt := BGY.out.tell HKP.out 0 0 0 0
              dsimp only at bgt
              have hps : partU (but lf u.id) id (arriveF old) US = (partU lf id (arriveF old) US).set k (tellU u 0 0 0 0) := by
                rw [partU_step HSRT.out HKK.out, HYES.out]
              rw [← hps] at bgt
              obtain ⟨Z, hZ⟩ : ∃ z, (((Y.setCell ⟨gg, k * 11 + 6, none⟩ (.int .i64 0)).setCell ⟨gg, k * 11 + 7, none⟩ (.int .i64 0)).setCell ⟨gg, k * 11 + 8, none⟩ (.int .i64 0)).setCell ⟨gg, k * 11 + 9, none⟩ (.int .i64 0) = z := ⟨_, rfl⟩
              have kZ : Kp (fun b => b = gg) Y Z := by
                rw [← hZ]
                exact ((((Kp.refl (fun b => b = gg) Y).andset ⟨gg, _, none⟩ _ rfl).andset ⟨gg, _, none⟩ _ rfl).andset ⟨gg, _, none⟩ _ rfl).andset ⟨gg, _, none⟩ _ rfl
              rw [hZ] at bgt
              rw [hZ]
              have hrZ := (HR6.out.call HYY.out).kp kZ (fun e => by have h1 := HSM.out.2; exact BGY.out.uM (by have h2 : M = gg := e; rw [h2]; rfl)) (fun e => by have h1 := HOW5.out; have h2 := HR3.out; have h3 : R3 = gg := e; omega)
              have HRZ := Lib.hid hrZ
              have HBZ := Lib.hid bgt
              have HKZ : Hid (Kp (fun b => (Value.slice (some ⟨gg, 0, none⟩) g.us.length cu).ownBlock = some b ∨ b = R3) w5 Z) := Lib.hid ((HK6.out.trans (kp_of HYY.out _) (fun _ _ x => x)).trans kZ (fun b _ e => Or.inl (congrArg some (show gg = b from e.symm))))
              clear bgt hps kZ hrZ hZ u6 u7 u8 u9 hfg hgl
              go_wp2_with fail
              go_roundw
              case rel => exact ⟨but lf u.id, cnt6, HRZ.out, HBZ.out, HKZ.out⟩
              case measure => rw [HRZ.out.left_eq, HLT.out.1]; exact HLT.out.2
end Go.Proofs.Ytlfljlhppigejaa
