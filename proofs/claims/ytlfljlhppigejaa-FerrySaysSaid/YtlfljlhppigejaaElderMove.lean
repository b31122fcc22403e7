/-
  The walk of elder.move.
-/
import Derived.Test.YtlfljlhppigejaaElderWishAll
import Derived.Test.YtlfljlhppigejaaPackMaps
namespace Go.Proofs.Ytlfljlhppigejaa
open Go.RowKit
attribute [local go_sem] qOne qAt qUp qOneK

abbrev PM := MapOf Try.prog 62 pairV pairOk
abbrev IM := MapOf Try.prog 3 (Value.int .i64) (fun a => (Lit.int .i64 a).wf = true)
def oldF (old : List Int) : Int → Option Value := fun id => if old.contains id = true then some (.bool true) else none
def wantV (c : Nat) : Option Value := if c = 0 then none else some (.int .i64 c)
theorem wantV_get (c : Nat) : (wantV c).getD (.int .i64 0) = .int .i64 c := by
  unfold wantV
  split
  · rename_i h; subst h; rfl
  · rfl
theorem oldF_get (old : List Int) (id : Int) : (oldF old id).getD (.bool false) = .bool (old.contains id) := by
  unfold oldF
  split
  · rename_i h; rw [h]; rfl
  · rename_i h; rw [Bool.eq_false_iff.2 h]; rfl

theorem move_go_no {n : Bool} {old : List Int} {us : List U} {u : U} {p : Int × Int} (hg : goer n old us u = some p) (h : ¬ (wishers n old us p = 1 ∧ standsAt us p.1 p.2 = false)) : moveF n old us u = u := (move_go hg).trans (if_neg h)
/-- What is left of a game whose units alone have turned, where they lie. -/
def Turned (w : World) (B S : Nat) (g : G) (born : List Int) (fv ev bv : Value) (w' : World) : Prop := GE w' B S g born fv ev bv ∧ Kp (fun k => ev.ownBlock = some k) w w'

set_option maxHeartbeats 12800000 in
set_option maxRecDepth 100000 in
theorem move_any (w : World) (B S : Nat) (g : G) (born : List Int) (fv ev bv : Value) (h : GE w B S g born fv ev bv) (hB : B ≤ w.heap.size) (hg : Right g) (hold : g.new = false) (M nM sM : Nat) (old : List Int) (hM : IM w M nM sM (oldF old)) (hev : ev.ownBlock ≠ some M) :
    Calls Try.prog 118 #[.pointer (some ⟨S, 0, none⟩), .map (some M)] w fun e w' => e = .returned (.tuple #[]) ∧ Turned w B S { g with us := movesF false old g.us } born fv ev bv w' := by
  have hfew := hg.few
  obtain ⟨ua, uc, rfl, -, hrow, hua⟩ := URow.of_own h.us
  have hS := h.blk.lt
  have hML := hM.lt
  have hevL : ∀ b, (Value.slice ua g.us.length uc).ownBlock = some b → b < w.heap.size := fun b hb => (World.ownsRow.lt h.us b hb).2
  have HEVL := Lib.hid hevL
  obtain ⟨W, hW⟩ : ∃ W, (w.alloc (.map #[] 0)).alloc (.map #[] 0) = W := ⟨_, rfl⟩
  have hbW : Below w.heap.size w W := by rw [← hW]; exact ((Below.refl _ _).alloc (Nat.le_refl _) _).alloc (by simp) _
  have m1 : PM W w.heap.size 0 0 (fun _ => none) := by rw [← hW]; exact (MapOf.new w).alloc _
  have m2 : IM W (w.heap.size + 1) 0 0 (fun _ => none) := by
    rw [← hW]
    have := MapOf.new (P := Try.prog) (k := 3) (emb := Value.int .i64) (ok := fun a => (Lit.int .i64 a).wf = true) (w.alloc (.map #[] 0))
    simpa using this
  have gb := (h.call hbW).blk
  have hmm := @run_makeMap Try.prog
  obtain ⟨lS, cS, -⟩ := id gb
  have hS5 : W.cell? ⟨S, 5, none⟩ = some (.slice ua g.us.length uc) := by rw [cS]; rfl
  have HW := Lib.hid hbW
  have HM1 := Lib.hid m1
  have HM2 := Lib.hid m2
  have HM := Lib.hid hM
  have HG := Lib.hid hg
  have HOLD := Lib.hid hold
  have HH := Lib.hid h
  have HROW := Lib.hid hrow
  have hn0 : (0 : Int) ≤ (g.us.length : Int) := by omega
  clear h hrow hua hevL hbW m1 m2 gb cS hg hold hM
  go_enter Try.func118, Try.ntmps118
  go_wp2_with fail
  go_loopw [24] (fun a wr => ∃ k : Nat, a = .int .i64 k ∧ k ≤ g.us.length ∧ (Below w.heap.size w wr ∧ (∃ n1 s1, n1 ≤ k ∧ PM wr w.heap.size n1 s1 (fun p => wantV (wantC false old g.us k p))) ∧ ∃ n2 s2, n2 ≤ k ∧ IM wr (w.heap.size + 1) n2 s2 (fun id => (toF false old g.us k id).map pairV))) (fun a _ => (g.us.length - intOf a).toNat)
  case atStart =>
    refine ⟨0, rfl, by omega, HW.out, ⟨0, 0, Nat.le_refl _, HM1.out.fn (fun p => ?_) rfl⟩, 0, 0, Nat.le_refl _, HM2.out.fn (fun id => ?_) rfl⟩
    · rw [wantC_zero]; rfl
    · rw [toF_zero]; rfl
  case round =>
    obtain ⟨k, rfl, hk, hX⟩ := hrel
    have HX := Lib.hid hX
    clear hX
    by_cases hlt : k < g.us.length
    · obtain ⟨u, hu⟩ : ∃ u, g.us.getD k zeroU = u := ⟨_, rfl⟩
      have hum : u ∈ g.us := by rw [← hu, getD_lt hlt]; exact List.getElem_mem hlt
      have hrw := HROW.out.below HX.out.1
      obtain ⟨b, o, hua, hbB, q0, q1, q2, q3, q4, q5, q6, q7, q8, q9⟩ := hrw.getE k hlt u hu
      have hS5r : wr.cell? ⟨S, 5, none⟩ = some (.slice ua g.us.length uc) := by
        rw [HX.out.1.cell (p := ⟨S, 5, none⟩) hS, ← HW.out.cell (p := ⟨S, 5, none⟩) hS]; exact hS5
      have hszr := HX.out.1.size
      have lSr : S < wr.heap.size := by omega
      have hbr : b < wr.heap.size := by omega
      subst hua
      have HU := Lib.hid hu
      have HUM := Lib.hid hum
      have HRW : Hid (URow false wr.heap.size wr (some ⟨b, o, none⟩) g.us) := Lib.hid (hrw.mono hszr)
      have hki : (0 : Int) ≤ (k : Int) := by omega
      have hkl : (k : Int) < (g.us.length : Int) := by omega
      have hbA : Below wr.heap.size wr (wr.alloc (.cells #[.int .i64 u.id, .int .i64 u.owner, .int .i64 u.kind, .int .i64 u.x, .int .i64 u.y, .int .i64 u.hp, .int .i64 u.does, .int .i64 u.gx, .int .i64 u.gy, .int .i64 u.target] 179)) := (Below.refl _ _).alloc (Nat.le_refl _) _
      have HBA := Lib.hid hbA
      have HS5r := Lib.hid hS5r
      clear hu hum hrw hbA
      go_wp2_with fail
      refine (wish_any HG.out HOLD.out S (some ⟨b, o, none⟩) uc u HUM.out _ (by have := HBA.out.size; omega) ((HBA.out.cell (p := ⟨S, 5, none⟩) lSr).trans HS5r.out) ((HRW.out.below HBA.out).mono HBA.out.size)).mono ?_
      rintro e w1 ⟨b1, hcase⟩
      have hE := (Blk.new wr #[.int .i64 u.id, .int .i64 u.owner, .int .i64 u.kind, .int .i64 u.x, .int .i64 u.y, .int .i64 u.hp, .int .i64 u.does, .int .i64 u.gx, .int .i64 u.gy, .int .i64 u.target] 179).call b1
      have hB1 : Below w.heap.size w w1 := HX.out.1.trans ((HBA.out.trans (b1.mono (by have := HBA.out.size; omega))).mono hszr)
      have hsz1 : wr.heap.size < w1.heap.size := hE.lt
      have bwr : Below wr.heap.size wr w1 := HBA.out.trans (b1.mono HBA.out.size)
      have HB1 := Lib.hid hB1
      have HE := Lib.hid hE
      have HBWR := Lib.hid bwr
      clear b1 hE hB1 bwr q0 q1 q2 q3 q4 q5 q6 q7 q8 q9 hS5r
      rcases hcase with ⟨hw, p, q, rfl⟩ | ⟨p, q, hw, rfl⟩
      · have HWI := Lib.hid hw
        clear hw
        go_wp2_with fail
        go_roundw
        case rel =>
          have hgo : goer false old g.us u = none := goer_none (Or.inl HWI.out)
          obtain ⟨hb0, ⟨n1, s1, hn1, hp1⟩, n2, s2, hn2, hp2⟩ := HX.out
          have hbx : Below wr.heap.size wr (w1.alloc (.cells #[.int .i64 p, .int .i64 q] 62)) := HBWR.out.alloc HBWR.out.size _
          refine ⟨k + 1, by go_num, by omega, hb0.trans (hbx.mono hb0.size), ⟨n1, s1, by omega, (hp1.call hbx).fn (fun x => ?_) rfl⟩, n2, s2, by omega, (hp2.call hbx).fn (fun id => ?_) rfl⟩
          · rw [wantC_next hlt HU.out, hgo, if_neg (by simp)]
            rfl
          · rw [toF_next HG.out.sorted hlt HU.out, hgo]
            by_cases e : u.id = id
            · rw [if_pos e, ← e, toF_fresh HG.out.sorted hlt HU.out]
            · rw [if_neg e]
        case measure => simp [intOf]; omega
      · have HWI := Lib.hid hw
        clear hw
        have hmV := (HM.out.call (HB1.out.alloc HB1.out.size (.cells #[.int .i64 p, .int .i64 q] 62)))
        have hwf : (Lit.int .i64 u.id).wf = true := by
          have ho := HG.out.ok HUM.out
          have := ho.idT
          have := ho.id1
          rw [HOLD.out] at *
          exact wf_int (by have : topOf false = 200 := rfl; omega)
        have hlook := hmV.get (intKeys (by kernel_rfl)) (t := 183) (e := 4) (by kernel_rfl) (z := .bool false) (by kernel_rfl) u.id hwf
        rw [oldF_get] at hlook
        obtain ⟨ob, hob⟩ : ∃ b, old.contains u.id = b := ⟨_, rfl⟩
        rw [hob] at hlook
        have HOB := Lib.hid hob
        have HWF := Lib.hid hwf
        obtain ⟨lE, cE, -⟩ := id HE.out
        clear hmV hwf hob
        cases ob
        · go_wp2_with fail
          go_roundw
          case rel =>
            have hgo : goer false old g.us u = none := goer_none (Or.inr HOB.out)
            obtain ⟨hb0, ⟨n1, s1, hn1, hp1⟩, n2, s2, hn2, hp2⟩ := HX.out
            have hbx : Below wr.heap.size wr (w1.alloc (.cells #[.int .i64 p, .int .i64 q] 62)) := HBWR.out.alloc HBWR.out.size _
            refine ⟨k + 1, by go_num, by omega, hb0.trans (hbx.mono hb0.size), ⟨n1, s1, by omega, (hp1.call hbx).fn (fun x => ?_) rfl⟩, n2, s2, by omega, (hp2.call hbx).fn (fun id => ?_) rfl⟩
            · rw [wantC_next hlt HU.out, hgo, if_neg (by simp)]
              rfl
            · rw [toF_next HG.out.sorted hlt HU.out, hgo]
              by_cases e : u.id = id
              · rw [if_pos e, ← e, toF_fresh HG.out.sorted hlt HU.out]
              · rw [if_neg e]
          case measure => simp [intOf]; omega
        · go_upto_region 7 with fail
          obtain ⟨hb0, ⟨n1, s1, hn1, hp1⟩, n2, s2, hn2, hp2⟩ := HX.out
          obtain ⟨V, hV⟩ : ∃ V, w1.alloc (.cells #[.int .i64 p, .int .i64 q] 62) = V := ⟨_, rfl⟩
          have hbx : Below wr.heap.size wr V := by rw [← hV]; exact HBWR.out.alloc HBWR.out.size _
          have hkE : Blk V wr.heap.size #[.int .i64 u.id, .int .i64 u.owner, .int .i64 u.kind, .int .i64 u.x, .int .i64 u.y, .int .i64 u.hp, .int .i64 u.does, .int .i64 u.gx, .int .i64 u.gy, .int .i64 u.target] := by rw [← hV]; exact HE.out.alloc _
          have hkP : Blk V w1.heap.size #[.int .i64 p, .int .i64 q] := by rw [← hV]; exact Blk.new w1 _ _
          have hbV : Below w.heap.size w V := hb0.trans (hbx.mono hszr)
          have hgo : goer false old g.us u = some (p, q) := goer_some HWI.out HOB.out
          obtain ⟨c, hc⟩ : ∃ c, wantC false old g.us k (p, q) = c := ⟨_, rfl⟩
          have hcl := wantC_le false old g.us k (p, q)
          rw [hc] at hcl
          have hon := wish_on HG.out HUM.out (by rw [HOLD.out]; exact HWI.out)
          have hon := (onB_iff _ _).1 hon
          dsimp only at hon
          have hpok : pairOk (p, q) := ⟨wf_int (by dsimp only; omega), wf_int (by dsimp only; omega)⟩
          have m1V := (hp1.call hbx).drew
          have r0 := m1V.get pairKeys (t := 232) (e := 3) (by kernel_rfl) (z := .int .i64 0) (by kernel_rfl) (p, q) hpok
          rw [hc, wantV_get] at r0
          obtain ⟨v0, st, e1, e2, rE, tE, rL, rS, mS, tS⟩ := m1V.entry pairKeys (t := 232) (e := 3) (by kernel_rfl) (z := .int .i64 0) (fun _ => (by kernel_rfl)) (by unfold maxLen; omega) (p, q) hpok (.int .i64 ((c : Int) + 1))
          rw [hc, wantV_get] at rL
          have hwc : IntKind.i64.wrap ((c : Int) + 1) = (c : Int) + 1 := IntWalk.i64_in _ (by omega)
          have hne1 : w.heap.size ≠ w1.heap.size := by have := HB1.out.size; have := hp1.lt; omega
          have hne2 : w.heap.size ≠ wr.heap.size := by have := hp1.lt; omega
          have hne3 : w.heap.size + 1 ≠ w.heap.size := by omega
          have hE2 := hkE.drew.turned tS (Ne.symm hne2)
          have hP2 := hkP.drew.turned tS (Ne.symm hne1)
          have hP1 := hkP.drew.turned tE (Ne.symm hne1)
          have m2e := (hp2.call hbx).drew.other tS hne3
          obtain ⟨w8, r8, m8, t8⟩ := m2e.put (intKeys (by kernel_rfl)) (t := 219) (e := 62) (by kernel_rfl) (by unfold maxLen; omega) u.id HWF.out (pairV (p, q))
          have hbe2 : Below w.heap.size w e2 := Below.turned hbV.drew tS (Nat.le_refl _)
          have hb8 : Below w.heap.size w w8 := Below.turned hbe2 t8 (by omega)
          have mS8 := mS.other t8 (by omega)
          have M8 := Lib.hid m8
          have MS8 := Lib.hid mS8
          have HB8 := Lib.hid hb8
          have HGO := Lib.hid hgo
          have HC := Lib.hid hc
          unfold pairV at r0 rE rL r8
          unfold goInt at rE rS
          dsimp only at r0 rE rL r8
          obtain ⟨lE2, cE2, -⟩ := id hE2
          obtain ⟨lP2, cP2, -⟩ := id hP2
          obtain ⟨lPV, cPV, -⟩ := id hkP
          clear hb0 hp1 hp2 hbx hkE hbV hgo hc hpok m1V tE mS tS hE2 hP2 hP1 m2e m8 t8 hbe2 hb8 mS8 hlook lE cE hkP
          rw [hV]
          clear hV
          go_region
          go_wp2_with fail
          go_roundw
          case rel =>
            refine ⟨k + 1, by go_num, by omega, HB8.out, ⟨n1 + 1, _, by omega, MS8.out.fn (fun x => ?_) rfl⟩, n2 + 1, _, by omega, M8.out.fn (fun id => ?_) rfl⟩
            · rw [wantC_next hlt HU.out, HGO.out]
              by_cases e : x = (p, q)
              · rw [if_pos e, e, if_pos rfl, HC.out]
                unfold wantV
                rw [if_neg (by omega)]
                exact congrArg some (intv (by omega))
              · rw [if_neg e, if_neg (fun h => e (Option.some.inj h).symm)]
                rfl
            · rw [toF_next HG.out.sorted hlt HU.out, HGO.out]
              by_cases e : id = u.id
              · rw [if_pos e, if_pos e.symm]; rfl
              · rw [if_neg e, if_neg (fun h => e h.symm)]
          case measure => simp [intOf]; omega
    · obtain rfl : k = g.us.length := by omega
      obtain ⟨hb0, ⟨n1, s1, hn1, hp1⟩, n2, s2, hn2, hp2⟩ := HX.out
      have hszr := hb0.size
      have ger := HH.out.call hb0
      obtain ⟨lSr, cSr, -⟩ := id ger.blk
      obtain ⟨fa, fc, hfv, -, hfm, hfrow, -⟩ := ger.freeAt
      subst hfv
      have HP1 := Lib.hid hp1
      have HP2 := Lib.hid hp2
      have GER := Lib.hid ger
      have HB0 := Lib.hid hb0
      have HFR := Lib.hid hfrow
      have HRR : Hid (URow false wr.heap.size wr ua g.us) := Lib.hid ((HROW.out.below hb0).mono hszr)
      have hfl := HG.out.unfree
      have hwS := HRR.out
      clear hp1 hp2 ger hb0 hfrow hlt hwS
      go_wp2_with fail
      refine (own_any g.tick g.g0 g.g1 g.next g.free fa g.free.length fc rfl (by omega) g.us ua g.us.length uc rfl (by omega) wr HFR.out HRR.out).mono ?_
      rintro e w4 ⟨fv2, ev2, rfl, b4, o1, o2, -⟩
      obtain ⟨fa2, fc2, rfl⟩ := own_slice o1
      obtain ⟨ea2, ec2, rfl⟩ := own_slice o2
      have hs4 := b4.size
      have GE4 := Lib.hid (GER.out.call b4)
      have HB4 : Hid (Below w.heap.size w w4) := Lib.hid (HB0.out.trans (b4.mono hszr))
      have P14 := Lib.hid (HP1.out.call b4)
      have P24 := Lib.hid (HP2.out.call b4)
      have O24 : Hid (w4.ownsRow wr.heap.size 179 10 (.slice ea2 g.us.length ec2) g.us.length (cellsAll g.us)) := Lib.hid o2
      have lS4 : S < w4.heap.size := by omega
      have hS54 : w4.cell? ⟨S, 5, none⟩ = some (.slice ua g.us.length uc) := by rw [GE4.out.blk.cell]; rfl
      clear b4 o1 o2 cSr
      go_upto_region 12 with fail
      have hbx : ∀ (o1 o2 : Obj), Below w4.heap.size w4 ((w4.alloc o1).alloc o2) := fun o1 o2 => ((Below.refl _ _).alloc (Nat.le_refl _) _).alloc (by simp) _
      have HBX := Lib.hid hbx
      clear hbx
      refine gen_world (fun V => GE V B S g born (.slice fa g.free.length fc) (.slice ua g.us.length uc) bv ∧ Below w.heap.size w V ∧ PM V w.heap.size n1 s1 (fun p => wantV (wantC false old g.us g.us.length p)) ∧ IM V (w.heap.size + 1) n2 s2 (fun id => (toF false old g.us g.us.length id).map pairV) ∧ Blk V (w4.heap.size + 1) #[.int .i64 g.tick, .int .i64 g.g0, .int .i64 g.g1, .int .i64 g.next, .slice fa2 g.free.length fc2, .slice ea2 g.us.length ec2, .slice none 0 0] ∧ V.ownsRow wr.heap.size 179 10 (.slice ea2 g.us.length ec2) g.us.length (cellsAll g.us)) ⟨GE4.out.call (HBX.out _ _), HB4.out.trans ((HBX.out _ _).mono (by have := HB4.out.size; omega)), P14.out.call (HBX.out _ _), P24.out.call (HBX.out _ _), ?_, own_kp O24.out (kp_of (HBX.out _ _) (fun _ => False)) (fun _ _ x => x)⟩ ?_
      · have := Blk.new (w4.alloc (.cells #[.int .i64 g.tick, .int .i64 g.g0, .int .i64 g.g1, .int .i64 g.next, .slice fa2 g.free.length fc2, .slice ea2 g.us.length ec2] 90)) #[.int .i64 g.tick, .int .i64 g.g0, .int .i64 g.g1, .int .i64 g.next, .slice fa2 g.free.length fc2, .slice ea2 g.us.length ec2, .slice none 0 0] 182
        simpa using this
      rintro V ⟨geV, bV, p1V, p2V, kT, oV⟩
      have hszV := bV.size
      have lSV : S < V.heap.size := by omega
      have hS5V : V.cell? ⟨S, 5, none⟩ = some (.slice ua g.us.length uc) := by rw [geV.blk.cell]; rfl
      have GEV := Lib.hid geV
      have BV := Lib.hid bV
      have P1V := Lib.hid p1V
      have P2V := Lib.hid p2V
      have KT := Lib.hid kT
      have OV := Lib.hid oV
      have HMV : Hid (IM V M nM sM (oldF old)) := Lib.hid (HM.out.call (bV))
      have hT4 : w4.heap.size + 1 < V.heap.size := kT.lt
      have hw4 : wr.heap.size ≤ w4.heap.size := hs4
      have nX : ∀ b, w.heap.size ≤ b → (Value.slice ua g.us.length uc).ownBlock ≠ some b := fun b hb e => by have := HEVL.out b e; omega
      have NX := Lib.hid nX
      clear geV bV p1V p2V kT oV GE4 HB4 P14 P24 O24 HBX hS54 nX
      go_wp2_with fail
      go_loopw [65] (fun a wx => ∃ k : Nat, a = .int .i64 k ∧ k ≤ g.us.length ∧ (GE wx B S { g with us := doneU (fun v => arriveF old (moveF false old g.us v)) g.us k } born (.slice fa g.free.length fc) (.slice ua g.us.length uc) bv ∧ Kp (fun k => (Value.slice ua g.us.length uc).ownBlock = some k) V wx)) (fun a _ => (g.us.length - intOf a).toNat)
      case atStart =>
        refine ⟨0, rfl, by omega, ?_, Kp.refl _ _⟩
        rw [done_zero]
        exact GEV.out
      case round =>
        obtain ⟨k, rfl, hk, hY⟩ := hrel
        have HY := Lib.hid hY
        clear hY
        by_cases hlt : k < g.us.length
        · obtain ⟨u, hu⟩ : ∃ u, g.us.getD k zeroU = u := ⟨_, rfl⟩
          have hum : u ∈ g.us := by rw [← hu, getD_lt hlt]; exact List.getElem_mem hlt
          obtain ⟨DU, hDU⟩ : ∃ D, doneU (fun v => arriveF old (moveF false old g.us v)) g.us k = D := ⟨_, rfl⟩
          have hDl : DU.length = g.us.length := by rw [← hDU]; exact done_length _ _ _
          have hDk : DU.getD k zeroU = u := by rw [← hDU, done_at hlt, hu]
          have hDn : doneU (fun v => arriveF old (moveF false old g.us v)) g.us (k + 1) = DU.set k (arriveF old (moveF false old g.us u)) := by rw [done_next hlt, hDU, hu]
          rw [hDU] at HY
          have geY := HY.out.1
          have kpY := HY.out.2
          have oY := geY.us
          dsimp only at oY
          rw [hDl] at oY
          obtain ⟨gg, rfl⟩ : ∃ gg, ua = some ⟨gg, 0, none⟩ := by
            rcases oY.2 with ⟨e1, e2⟩ | ⟨g2, c2, cur, e1, -⟩
            · omega
            · cases e1; exact ⟨_, rfl⟩
          have hcap := own_cap oY
          have hggV : gg < V.heap.size := by have := HEVL.out gg rfl; omega
          have hsY := kpY.size
          have hggY : gg < wr.heap.size := by omega
          have lSY : S < wr.heap.size := by omega
          have hS5Y : wr.cell? ⟨S, 5, none⟩ = some (.slice (some ⟨gg, 0, none⟩) g.us.length uc) := by rw [geY.blk.cell]; rfl
          have hqs : ∀ j, j < 10 → wr.cell? ⟨gg, k * 10 + j, none⟩ = (cellsE u)[j]? := fun j hj => by
            rw [World.ownsRow.cellAt oY (k * 10 + j) (by omega), cellsAll_get DU k j (by omega) hj, hDk]
          have q0 : wr.cell? ⟨gg, k * 10, none⟩ = some (.int .i64 u.id) := hqs 0 (by decide)
          have hnXg : ∀ b, w.heap.size ≤ b → b ≠ gg := fun b hb e => NX.out b hb (by rw [e]; rfl)
          have hXS : ¬ (Value.slice (some ⟨gg, 0, none⟩) g.us.length uc).ownBlock = some S := fun e => GEV.out.se S e rfl
          have m2Y := P2V.out.kp kpY (NX.out _ (by omega))
          have hwf : (Lit.int .i64 u.id).wf = true := by
            have ho := HG.out.ok hum
            have h1 := ho.idT
            have h2 := ho.id1
            rw [HOLD.out] at h1
            exact wf_int (by have : topOf false = 200 := rfl; omega)
          have hlt2 := m2Y.getok (intKeys (by kernel_rfl)) (t := 219) (e := 62) (by kernel_rfl) (z := .agg #[.int .i64 0, .int .i64 0]) (by kernel_rfl) u.id hwf
          rw [toF_all HG.out.sorted hum] at hlt2
          have HU := Lib.hid hu
          have HUM := Lib.hid hum
          have HDk := Lib.hid hDk
          have HDl := Lib.hid hDl
          have HDn := Lib.hid hDn
          have GEY := Lib.hid geY
          have KPY := Lib.hid kpY
          have HQS := Lib.hid hqs
          have HWF := Lib.hid hwf
          have HNXg := Lib.hid hnXg
          have HXS := Lib.hid hXS
          have hk0 : (0 : Int) ≤ (k : Int) := by omega
          have hkn : (k : Int) < (g.us.length : Int) := by omega
          clear HY hu hum hDU hDl hDk hDn geY kpY oY hqs m2Y hwf hnXg hXS
          cases hgo : goer false old g.us u with
          | none =>
            rw [hgo] at hlt2
            dsimp only [Option.map_none, Option.getD_none, Option.isSome_none] at hlt2
            have HGO := Lib.hid hgo
            clear hgo
            go_upto_region 19 with fail
            obtain ⟨u1, hu1⟩ : ∃ x, u = x := ⟨_, rfl⟩
            have HM1 : Hid (moveF false old g.us u = u1) := Lib.hid ((move_stay HGO.out).trans hu1)
            have HID : Hid (u1.id = u.id) := Lib.hid (by rw [hu1])
            have HTG : Hid (u1.target = u.target) := Lib.hid (by rw [hu1])
            have HDO : Hid (u.does = u1.does) := Lib.hid (by rw [hu1])
            have hset : DU.set k u1 = DU := by
              rw [← hu1, ← HDk.out, getD_lt (by rw [HDl.out]; exact hlt)]
              exact List.set_getElem_self _
            have HSET := Lib.hid hset
            clear hu1 hset hlt2 q0 hS5Y
            refine gen_world (fun V1 => GE V1 B S { g with us := DU.set k u1 } born (.slice fa g.free.length fc) (.slice (some ⟨gg, 0, none⟩) g.us.length uc) bv ∧ Kp (fun k => (Value.slice (some ⟨gg, 0, none⟩) g.us.length uc).ownBlock = some k) V V1) ⟨by rw [HSET.out]; exact GEY.out.call ((Below.refl _ _).alloc (Nat.le_refl _) _), KPY.out.then_ ((Below.refl _ _).alloc (Nat.le_refl _) _)⟩ ?_
            rintro V1 ⟨ge1, kp1⟩
            have o1 := ge1.us
            have hl1 : (DU.set k u1).length = g.us.length := by rw [List.length_set]; exact HDl.out
            dsimp only at o1
            rw [hl1] at o1
            have hqs1 : ∀ j, j < 10 → V1.cell? ⟨gg, k * 10 + j, none⟩ = (cellsE u1)[j]? := fun j hj => by
              rw [World.ownsRow.cellAt o1 (k * 10 + j) (by omega), cellsAll_get (DU.set k u1) k j (by rw [List.length_set, HDl.out]; exact hlt) hj, getD_lt (by rw [List.length_set, HDl.out]; exact hlt)]
              simp
            have q0 : V1.cell? ⟨gg, k * 10, none⟩ = some (.int .i64 u1.id) := hqs1 0 (by decide)
            have q3 : V1.cell? ⟨gg, k * 10 + 3, none⟩ = some (.int .i64 u1.x) := hqs1 3 (by decide)
            have q4 : V1.cell? ⟨gg, k * 10 + 4, none⟩ = some (.int .i64 u1.y) := hqs1 4 (by decide)
            have q6 : V1.cell? ⟨gg, k * 10 + 6, none⟩ = some (.int .i64 u1.does) := hqs1 6 (by decide)
            have q7 : V1.cell? ⟨gg, k * 10 + 7, none⟩ = some (.int .i64 u1.gx) := hqs1 7 (by decide)
            have q8 : V1.cell? ⟨gg, k * 10 + 8, none⟩ = some (.int .i64 u1.gy) := hqs1 8 (by decide)
            have hgg1 : gg < V1.heap.size := by have := kp1.size; omega
            haveI := Cw.ne V1
            have hcw := fun (x : Cw V1) => x.cell
            have hm1 := HMV.out.kp kp1 hev
            have hlk : ∀ x : Cw V1, (Instr.lookup 183 (.map (some M)) (.int .i64 u1.id) false).run Try.prog x.w = .ok (.bool (old.contains u1.id)) x.w := fun x => by
              have := (hm1.call x.below).get (intKeys (by kernel_rfl)) (t := 183) (e := 4) (by kernel_rfl) (z := .bool false) (by kernel_rfl) u1.id (by rw [HID.out]; exact HWF.out)
              rw [oldF_get] at this
              exact this
            obtain ⟨ob, hob⟩ : ∃ b, old.contains u1.id = b := ⟨_, rfl⟩
            rw [hob] at hlk
            have HOB1 := Lib.hid hob
            have G1 := Lib.hid ge1
            have K1 := Lib.hid kp1
            have O1 := Lib.hid o1
            clear hob ge1 kp1 o1 hqs1 hm1
            refine region_cw (by kernel_rfl) (by kernel_rfl) ?_
            repeat (go_big_quiet_step (fail))
            cases ob
            · try simp only [Bool.not_false]
              repeat (go_big_quiet_step (fail))
              refine wpQuiet_nil ?_
              intro V2 hV2
              have ge2 := G1.out.call hV2
              have kp2 := K1.out.then_ hV2
              have harr : arriveF old u1 = u1 := by
                unfold arriveF
                rw [HOB1.out, if_neg (by simp)]
              have hd2 := HDn.out
              rw [HM1.out, harr] at hd2
              have G2 := Lib.hid ge2
              have K2 := Lib.hid kp2
              have D2 := Lib.hid hd2
              clear hcw hlk q0 q3 q4 q6 q7 q8 ge2 kp2 hd2 hV2 harr
              go_wp2_with fail
              go_roundw
              case rel =>
                refine ⟨k + 1, by go_num, by omega, ?_, K2.out⟩
                rw [D2.out]
                exact G2.out
              case measure => simp [intOf]; omega
            repeat (go_big_quiet_step (fail))
            by_cases c1 : u1.does = 1
            case neg =>
              rw [show (u1.does == 1) = false from by simp [c1]]
              repeat (go_big_quiet_step (fail))
              refine wpQuiet_nil ?_
              intro V2 hV2
              have ge2 := G1.out.call hV2
              have kp2 := K1.out.then_ hV2
              have harr : arriveF old u1 = u1 := by
                unfold arriveF
                rw [if_neg (fun h => c1 h.2.1)]
              have hd2 := HDn.out
              rw [HM1.out, harr] at hd2
              have G2 := Lib.hid ge2
              have K2 := Lib.hid kp2
              have D2 := Lib.hid hd2
              clear hcw hlk q0 q3 q4 q6 q7 q8 ge2 kp2 hd2 hV2 harr
              go_wp2_with fail
              go_roundw
              case rel =>
                refine ⟨k + 1, by go_num, by omega, ?_, K2.out⟩
                rw [D2.out]
                exact G2.out
              case measure => simp [intOf]; omega
            rw [show (u1.does == 1) = true from by simp [c1]]
            repeat (go_big_quiet_step (fail))
            by_cases c2 : u1.x = u1.gx
            case neg =>
              rw [show (u1.x == u1.gx) = false from by simp [c2]]
              repeat (go_big_quiet_step (fail))
              refine wpQuiet_nil ?_
              intro V2 hV2
              have ge2 := G1.out.call hV2
              have kp2 := K1.out.then_ hV2
              have harr : arriveF old u1 = u1 := by
                unfold arriveF
                rw [if_neg (fun h => c2 h.2.2.1)]
              have hd2 := HDn.out
              rw [HM1.out, harr] at hd2
              have G2 := Lib.hid ge2
              have K2 := Lib.hid kp2
              have D2 := Lib.hid hd2
              clear hcw hlk q0 q3 q4 q6 q7 q8 ge2 kp2 hd2 hV2 harr
              go_wp2_with fail
              go_roundw
              case rel =>
                refine ⟨k + 1, by go_num, by omega, ?_, K2.out⟩
                rw [D2.out]
                exact G2.out
              case measure => simp [intOf]; omega
            rw [show (u1.x == u1.gx) = true from by simp [c2]]
            repeat (go_big_quiet_step (fail))
            by_cases c3 : u1.y = u1.gy
            case neg =>
              rw [show (u1.y == u1.gy) = false from by simp [c3]]
              repeat (go_big_quiet_step (fail))
              refine wpQuiet_nil ?_
              intro V2 hV2
              have ge2 := G1.out.call hV2
              have kp2 := K1.out.then_ hV2
              have harr : arriveF old u1 = u1 := by
                unfold arriveF
                rw [if_neg (fun h => c3 h.2.2.2)]
              have hd2 := HDn.out
              rw [HM1.out, harr] at hd2
              have G2 := Lib.hid ge2
              have K2 := Lib.hid kp2
              have D2 := Lib.hid hd2
              clear hcw hlk q0 q3 q4 q6 q7 q8 ge2 kp2 hd2 hV2 harr
              go_wp2_with fail
              go_roundw
              case rel =>
                refine ⟨k + 1, by go_num, by omega, ?_, K2.out⟩
                rw [D2.out]
                exact G2.out
              case measure => simp [intOf]; omega
            rw [show (u1.y == u1.gy) = true from by simp [c3]]
            have hok1 : u1.target = 0 := by
              have ho := HG.out.ok HUM.out
              have h1 := ho.aim
              have h2 := ho.tgt0
              rw [HTG.out]
              have h3 := HDO.out
              rw [c1] at h3
              omega
            have hd6 : Hid (u1.does = 1 ∧ u1.x = u1.gx ∧ u1.y = u1.gy) := Lib.hid ⟨c1, c2, c3⟩
            have hw1 := Lib.hid hok1
            clear c1 c2 c3 hok1
            repeat (go_big_quiet_step (fail))
            refine wpQuiet_nil ?_
            intro V2 hV2
            have ge2 := G1.out.call hV2
            have kp2 := K1.out.then_ hV2
            have harr : arriveF old u1 = tellU u1 0 0 0 0 := by
              unfold arriveF
              rw [HOB1.out, if_pos ⟨rfl, hd6.out.1, hd6.out.2.1, hd6.out.2.2⟩]
            have hd2 := HDn.out
            rw [HM1.out, harr] at hd2
            have G2 := Lib.hid ge2
            have K2 := Lib.hid kp2
            have D2 := Lib.hid hd2
            have r6 : V2.cell? ⟨gg, k * 10 + 6, none⟩ = some (.int .i64 u1.does) := (hV2.cell (p := ⟨gg, _, none⟩) hgg1).trans q6
            have r7 : V2.cell? ⟨gg, k * 10 + 7, none⟩ = some (.int .i64 u1.gx) := (hV2.cell (p := ⟨gg, _, none⟩) hgg1).trans q7
            have r8 : V2.cell? ⟨gg, k * 10 + 8, none⟩ = some (.int .i64 u1.gy) := (hV2.cell (p := ⟨gg, _, none⟩) hgg1).trans q8
            have f6 : V2.frozen? ⟨gg, k * 10 + 6, none⟩ = false := (hV2.frozen (p := ⟨gg, _, none⟩) hgg1).trans (World.ownsRow.frozenAt O1.out _)
            have f7 : V2.frozen? ⟨gg, k * 10 + 7, none⟩ = false := (hV2.frozen (p := ⟨gg, _, none⟩) hgg1).trans (World.ownsRow.frozenAt O1.out _)
            have f8 : V2.frozen? ⟨gg, k * 10 + 8, none⟩ = false := (hV2.frozen (p := ⟨gg, _, none⟩) hgg1).trans (World.ownsRow.frozenAt O1.out _)
            clear hcw hlk q0 q3 q4 q6 q7 q8 ge2 kp2 hd2 hV2 harr
            go_wp2_with fail
            go_roundw
            case rel =>
              have hkd : k < (DU.set k u1).length := by rw [List.length_set, HDl.out]; exact hlt
              have hks : ∀ x : U, (DU.set k x).getD k zeroU = x := fun x => by rw [getD_lt (by rw [List.length_set, HDl.out]; exact hlt)]; simp
              have p1 := G2.out.poke rfl (k := k) hkd (j := 6) (by decide) (v := .int .i64 0) (u' := { u1 with does := 0 }) (by rw [hks]; rfl)
              dsimp only at p1
              rw [List.set_set] at p1
              have p2 := p1.poke rfl (k := k) (by rw [List.length_set, HDl.out]; exact hlt) (j := 7) (by decide) (v := .int .i64 0) (u' := { u1 with does := 0, gx := 0 }) (by rw [hks]; rfl)
              dsimp only at p2
              rw [List.set_set] at p2
              have p3 := p2.poke rfl (k := k) (by rw [List.length_set, HDl.out]; exact hlt) (j := 8) (by decide) (v := .int .i64 0) (u' := tellU u1 0 0 0 0) (by rw [hks]; unfold tellU; rw [← hw1.out]; rfl)
              dsimp only at p3
              rw [List.set_set] at p3
              refine ⟨k + 1, by go_num, by omega, ?_, ((K2.out.andset ⟨gg, k * 10 + 6, none⟩ (.int .i64 0) rfl).andset ⟨gg, k * 10 + 7, none⟩ (.int .i64 0) rfl).andset ⟨gg, k * 10 + 8, none⟩ (.int .i64 0) rfl⟩
              rw [D2.out]
              exact p3
            case measure => simp [intOf]; omega
          | some pq =>
            obtain ⟨p, q⟩ := pq
            rw [hgo] at hlt2
            dsimp only [Option.map_some, Option.getD_some, Option.isSome_some, pairV] at hlt2
            have HGO := Lib.hid hgo
            have hon := wish_on HG.out HUM.out (p := (p, q)) (by
              have := hgo
              unfold goer at this
              split at this
              · rw [HOLD.out]; exact this
              · cases this)
            have hon := (onB_iff _ _).1 hon
            dsimp only at hon
            have hpok : pairOk (p, q) := ⟨wf_int (by dsimp only; omega), wf_int (by dsimp only; omega)⟩
            clear hgo
            obtain ⟨c, hc⟩ : ∃ c, wantC false old g.us g.us.length (p, q) = c := ⟨_, rfl⟩
            have hcw' : wishers false old g.us (p, q) = c := by rw [← wantC_all]; exact hc
            obtain ⟨Vp, hVp⟩ : ∃ V, wr.alloc (.cells #[.int .i64 p, .int .i64 q] 62) = V := ⟨_, rfl⟩
            have hbp : Below wr.heap.size wr Vp := by rw [← hVp]; exact (Below.refl _ _).alloc (Nat.le_refl _) _
            have hkP : Blk Vp wr.heap.size #[.int .i64 p, .int .i64 q] := by rw [← hVp]; exact Blk.new wr _ _
            have r0 := ((P1V.out.kp KPY.out (NX.out _ (by omega))).call hbp).get pairKeys (t := 232) (e := 3) (by kernel_rfl) (z := .int .i64 0) (by kernel_rfl) (p, q) hpok
            rw [hc, wantV_get] at r0
            unfold pairV at r0
            dsimp only at r0
            have kT := (KT.out.kp KPY.out (NX.out _ (by omega))).call hbp
            have oT := own_kp OV.out (KPY.out.trans (kp_of hbp (fun _ => False)) (fun _ _ h => h.elim)) (fun b hb => NX.out b (by have := (World.ownsRow.lt OV.out b hb).1; omega))
            obtain ⟨ea3, ec3, he3, -, hrT, -⟩ := URow.of_own oT
            cases he3
            have hT5 : Vp.cell? ⟨w4.heap.size + 1, 5, none⟩ = some (.slice ea2 g.us.length ec2) := by rw [kT.cell]; rfl
            have lT := kT.lt
            have HC := Lib.hid hcw'
            have HKP := Lib.hid hkP
            have HBP := Lib.hid hbp
            have HRT := Lib.hid hrT
            have HT5 := Lib.hid hT5
            obtain ⟨lP, cP, -⟩ := id hkP
            clear hc hcw' hpok kT oT hrT hT5 hbp hkP
            by_cases hc1 : c = 1
            case neg =>
              have d1 : ((c : Int) == 1) = false := by simp; omega
              have HC1 := Lib.hid hc1
              clear hc1
              go_upto_region 19 with fail
              obtain ⟨u1, hu1⟩ : ∃ x, u = x := ⟨_, rfl⟩
              have HM1 : Hid (moveF false old g.us u = u1) := Lib.hid ((move_go_no HGO.out (fun h => HC1.out (by rw [← HC.out]; exact h.1))).trans hu1)
              have HID : Hid (u1.id = u.id) := Lib.hid (by rw [hu1])
              have HTG : Hid (u1.target = u.target) := Lib.hid (by rw [hu1])
              have HDO : Hid (u.does = u1.does) := Lib.hid (by rw [hu1])
              have hset : DU.set k u1 = DU := by
                rw [← hu1, ← HDk.out, getD_lt (by rw [HDl.out]; exact hlt)]
                exact List.set_getElem_self _
              have HSET := Lib.hid hset
              clear hu1 hset hlt2 q0 hS5Y lP cP r0 d1
              refine gen_world (fun V1 => GE V1 B S { g with us := DU.set k u1 } born (.slice fa g.free.length fc) (.slice (some ⟨gg, 0, none⟩) g.us.length uc) bv ∧ Kp (fun k => (Value.slice (some ⟨gg, 0, none⟩) g.us.length uc).ownBlock = some k) V V1) ⟨by rw [HSET.out]; exact GEY.out.call (HBP.out), KPY.out.then_ (HBP.out)⟩ ?_
              rintro V1 ⟨ge1, kp1⟩
              have o1 := ge1.us
              have hl1 : (DU.set k u1).length = g.us.length := by rw [List.length_set]; exact HDl.out
              dsimp only at o1
              rw [hl1] at o1
              have hqs1 : ∀ j, j < 10 → V1.cell? ⟨gg, k * 10 + j, none⟩ = (cellsE u1)[j]? := fun j hj => by
                rw [World.ownsRow.cellAt o1 (k * 10 + j) (by omega), cellsAll_get (DU.set k u1) k j (by rw [List.length_set, HDl.out]; exact hlt) hj, getD_lt (by rw [List.length_set, HDl.out]; exact hlt)]
                simp
              have q0 : V1.cell? ⟨gg, k * 10, none⟩ = some (.int .i64 u1.id) := hqs1 0 (by decide)
              have q3 : V1.cell? ⟨gg, k * 10 + 3, none⟩ = some (.int .i64 u1.x) := hqs1 3 (by decide)
              have q4 : V1.cell? ⟨gg, k * 10 + 4, none⟩ = some (.int .i64 u1.y) := hqs1 4 (by decide)
              have q6 : V1.cell? ⟨gg, k * 10 + 6, none⟩ = some (.int .i64 u1.does) := hqs1 6 (by decide)
              have q7 : V1.cell? ⟨gg, k * 10 + 7, none⟩ = some (.int .i64 u1.gx) := hqs1 7 (by decide)
              have q8 : V1.cell? ⟨gg, k * 10 + 8, none⟩ = some (.int .i64 u1.gy) := hqs1 8 (by decide)
              have hgg1 : gg < V1.heap.size := by have := kp1.size; omega
              haveI := Cw.ne V1
              have hcw := fun (x : Cw V1) => x.cell
              have hm1 := HMV.out.kp kp1 hev
              have hlk : ∀ x : Cw V1, (Instr.lookup 183 (.map (some M)) (.int .i64 u1.id) false).run Try.prog x.w = .ok (.bool (old.contains u1.id)) x.w := fun x => by
                have := (hm1.call x.below).get (intKeys (by kernel_rfl)) (t := 183) (e := 4) (by kernel_rfl) (z := .bool false) (by kernel_rfl) u1.id (by rw [HID.out]; exact HWF.out)
                rw [oldF_get] at this
                exact this
              obtain ⟨ob, hob⟩ : ∃ b, old.contains u1.id = b := ⟨_, rfl⟩
              rw [hob] at hlk
              have HOB1 := Lib.hid hob
              have G1 := Lib.hid ge1
              have K1 := Lib.hid kp1
              have O1 := Lib.hid o1
              clear hob ge1 kp1 o1 hqs1 hm1
              refine region_cw (by kernel_rfl) (by kernel_rfl) ?_
              repeat (go_big_quiet_step (fail))
              cases ob
              · try simp only [Bool.not_false]
                repeat (go_big_quiet_step (fail))
                refine wpQuiet_nil ?_
                intro V2 hV2
                have ge2 := G1.out.call hV2
                have kp2 := K1.out.then_ hV2
                have harr : arriveF old u1 = u1 := by
                  unfold arriveF
                  rw [HOB1.out, if_neg (by simp)]
                have hd2 := HDn.out
                rw [HM1.out, harr] at hd2
                have G2 := Lib.hid ge2
                have K2 := Lib.hid kp2
                have D2 := Lib.hid hd2
                clear hcw hlk q0 q3 q4 q6 q7 q8 ge2 kp2 hd2 hV2 harr
                go_wp2_with fail
                go_roundw
                case rel =>
                  refine ⟨k + 1, by go_num, by omega, ?_, K2.out⟩
                  rw [D2.out]
                  exact G2.out
                case measure => simp [intOf]; omega
              repeat (go_big_quiet_step (fail))
              by_cases c1 : u1.does = 1
              case neg =>
                rw [show (u1.does == 1) = false from by simp [c1]]
                repeat (go_big_quiet_step (fail))
                refine wpQuiet_nil ?_
                intro V2 hV2
                have ge2 := G1.out.call hV2
                have kp2 := K1.out.then_ hV2
                have harr : arriveF old u1 = u1 := by
                  unfold arriveF
                  rw [if_neg (fun h => c1 h.2.1)]
                have hd2 := HDn.out
                rw [HM1.out, harr] at hd2
                have G2 := Lib.hid ge2
                have K2 := Lib.hid kp2
                have D2 := Lib.hid hd2
                clear hcw hlk q0 q3 q4 q6 q7 q8 ge2 kp2 hd2 hV2 harr
                go_wp2_with fail
                go_roundw
                case rel =>
                  refine ⟨k + 1, by go_num, by omega, ?_, K2.out⟩
                  rw [D2.out]
                  exact G2.out
                case measure => simp [intOf]; omega
              rw [show (u1.does == 1) = true from by simp [c1]]
              repeat (go_big_quiet_step (fail))
              by_cases c2 : u1.x = u1.gx
              case neg =>
                rw [show (u1.x == u1.gx) = false from by simp [c2]]
                repeat (go_big_quiet_step (fail))
                refine wpQuiet_nil ?_
                intro V2 hV2
                have ge2 := G1.out.call hV2
                have kp2 := K1.out.then_ hV2
                have harr : arriveF old u1 = u1 := by
                  unfold arriveF
                  rw [if_neg (fun h => c2 h.2.2.1)]
                have hd2 := HDn.out
                rw [HM1.out, harr] at hd2
                have G2 := Lib.hid ge2
                have K2 := Lib.hid kp2
                have D2 := Lib.hid hd2
                clear hcw hlk q0 q3 q4 q6 q7 q8 ge2 kp2 hd2 hV2 harr
                go_wp2_with fail
                go_roundw
                case rel =>
                  refine ⟨k + 1, by go_num, by omega, ?_, K2.out⟩
                  rw [D2.out]
                  exact G2.out
                case measure => simp [intOf]; omega
              rw [show (u1.x == u1.gx) = true from by simp [c2]]
              repeat (go_big_quiet_step (fail))
              by_cases c3 : u1.y = u1.gy
              case neg =>
                rw [show (u1.y == u1.gy) = false from by simp [c3]]
                repeat (go_big_quiet_step (fail))
                refine wpQuiet_nil ?_
                intro V2 hV2
                have ge2 := G1.out.call hV2
                have kp2 := K1.out.then_ hV2
                have harr : arriveF old u1 = u1 := by
                  unfold arriveF
                  rw [if_neg (fun h => c3 h.2.2.2)]
                have hd2 := HDn.out
                rw [HM1.out, harr] at hd2
                have G2 := Lib.hid ge2
                have K2 := Lib.hid kp2
                have D2 := Lib.hid hd2
                clear hcw hlk q0 q3 q4 q6 q7 q8 ge2 kp2 hd2 hV2 harr
                go_wp2_with fail
                go_roundw
                case rel =>
                  refine ⟨k + 1, by go_num, by omega, ?_, K2.out⟩
                  rw [D2.out]
                  exact G2.out
                case measure => simp [intOf]; omega
              rw [show (u1.y == u1.gy) = true from by simp [c3]]
              have hok1 : u1.target = 0 := by
                have ho := HG.out.ok HUM.out
                have h1 := ho.aim
                have h2 := ho.tgt0
                rw [HTG.out]
                have h3 := HDO.out
                rw [c1] at h3
                omega
              have hd6 : Hid (u1.does = 1 ∧ u1.x = u1.gx ∧ u1.y = u1.gy) := Lib.hid ⟨c1, c2, c3⟩
              have hw1 := Lib.hid hok1
              clear c1 c2 c3 hok1
              repeat (go_big_quiet_step (fail))
              refine wpQuiet_nil ?_
              intro V2 hV2
              have ge2 := G1.out.call hV2
              have kp2 := K1.out.then_ hV2
              have harr : arriveF old u1 = tellU u1 0 0 0 0 := by
                unfold arriveF
                rw [HOB1.out, if_pos ⟨rfl, hd6.out.1, hd6.out.2.1, hd6.out.2.2⟩]
              have hd2 := HDn.out
              rw [HM1.out, harr] at hd2
              have G2 := Lib.hid ge2
              have K2 := Lib.hid kp2
              have D2 := Lib.hid hd2
              have r6 : V2.cell? ⟨gg, k * 10 + 6, none⟩ = some (.int .i64 u1.does) := (hV2.cell (p := ⟨gg, _, none⟩) hgg1).trans q6
              have r7 : V2.cell? ⟨gg, k * 10 + 7, none⟩ = some (.int .i64 u1.gx) := (hV2.cell (p := ⟨gg, _, none⟩) hgg1).trans q7
              have r8 : V2.cell? ⟨gg, k * 10 + 8, none⟩ = some (.int .i64 u1.gy) := (hV2.cell (p := ⟨gg, _, none⟩) hgg1).trans q8
              have f6 : V2.frozen? ⟨gg, k * 10 + 6, none⟩ = false := (hV2.frozen (p := ⟨gg, _, none⟩) hgg1).trans (World.ownsRow.frozenAt O1.out _)
              have f7 : V2.frozen? ⟨gg, k * 10 + 7, none⟩ = false := (hV2.frozen (p := ⟨gg, _, none⟩) hgg1).trans (World.ownsRow.frozenAt O1.out _)
              have f8 : V2.frozen? ⟨gg, k * 10 + 8, none⟩ = false := (hV2.frozen (p := ⟨gg, _, none⟩) hgg1).trans (World.ownsRow.frozenAt O1.out _)
              clear hcw hlk q0 q3 q4 q6 q7 q8 ge2 kp2 hd2 hV2 harr
              go_wp2_with fail
              go_roundw
              case rel =>
                have hkd : k < (DU.set k u1).length := by rw [List.length_set, HDl.out]; exact hlt
                have hks : ∀ x : U, (DU.set k x).getD k zeroU = x := fun x => by rw [getD_lt (by rw [List.length_set, HDl.out]; exact hlt)]; simp
                have p1 := G2.out.poke rfl (k := k) hkd (j := 6) (by decide) (v := .int .i64 0) (u' := { u1 with does := 0 }) (by rw [hks]; rfl)
                dsimp only at p1
                rw [List.set_set] at p1
                have p2 := p1.poke rfl (k := k) (by rw [List.length_set, HDl.out]; exact hlt) (j := 7) (by decide) (v := .int .i64 0) (u' := { u1 with does := 0, gx := 0 }) (by rw [hks]; rfl)
                dsimp only at p2
                rw [List.set_set] at p2
                have p3 := p2.poke rfl (k := k) (by rw [List.length_set, HDl.out]; exact hlt) (j := 8) (by decide) (v := .int .i64 0) (u' := tellU u1 0 0 0 0) (by rw [hks]; unfold tellU; rw [← hw1.out]; rfl)
                dsimp only at p3
                rw [List.set_set] at p3
                refine ⟨k + 1, by go_num, by omega, ?_, ((K2.out.andset ⟨gg, k * 10 + 6, none⟩ (.int .i64 0) rfl).andset ⟨gg, k * 10 + 7, none⟩ (.int .i64 0) rfl).andset ⟨gg, k * 10 + 8, none⟩ (.int .i64 0) rfl⟩
                rw [D2.out]
                exact p3
              case measure => simp [intOf]; omega
            have d1 : ((c : Int) == 1) = true := by simp; omega
            have HC1 := Lib.hid hc1
            clear hc1
            go_wp2_with fail
            refine (taken_any (w4.heap.size + 1) ea2 g.us.length ec2 g.us p q rfl (by omega) _ lT HT5.out HRT.out).mono ?_
            rintro e w5 ⟨rfl, b5⟩
            have HB5 : Hid (Below wr.heap.size wr w5) := Lib.hid (HBP.out.trans (b5.mono HBP.out.size))
            have kP5 := HKP.out.call b5
            obtain ⟨lP5, cP5, -⟩ := id kP5
            have hgg5 : gg < w5.heap.size := by have := HB5.out.size; omega
            have nP : wr.heap.size ≠ gg := by omega
            clear b5 kP5 lP cP r0 d1 hlt2 q0 hS5Y
            cases hst : standsAt g.us p q with
            | true =>
              have HST := Lib.hid hst
              clear hst
              go_upto_region 19 with fail
              obtain ⟨u1, hu1⟩ : ∃ x, u = x := ⟨_, rfl⟩
              have HM1 : Hid (moveF false old g.us u = u1) := Lib.hid ((move_go_no HGO.out (fun h => (by have h2 := h.2; dsimp only at h2; rw [HST.out] at h2; cases h2))).trans hu1)
              have HID : Hid (u1.id = u.id) := Lib.hid (by rw [hu1])
              have HTG : Hid (u1.target = u.target) := Lib.hid (by rw [hu1])
              have HDO : Hid (u.does = u1.does) := Lib.hid (by rw [hu1])
              have hset : DU.set k u1 = DU := by
                rw [← hu1, ← HDk.out, getD_lt (by rw [HDl.out]; exact hlt)]
                exact List.set_getElem_self _
              have HSET := Lib.hid hset
              clear hu1 hset lP5 cP5
              refine gen_world (fun V1 => GE V1 B S { g with us := DU.set k u1 } born (.slice fa g.free.length fc) (.slice (some ⟨gg, 0, none⟩) g.us.length uc) bv ∧ Kp (fun k => (Value.slice (some ⟨gg, 0, none⟩) g.us.length uc).ownBlock = some k) V V1) ⟨by rw [HSET.out]; exact GEY.out.call (HB5.out), KPY.out.then_ (HB5.out)⟩ ?_
              rintro V1 ⟨ge1, kp1⟩
              have o1 := ge1.us
              have hl1 : (DU.set k u1).length = g.us.length := by rw [List.length_set]; exact HDl.out
              dsimp only at o1
              rw [hl1] at o1
              have hqs1 : ∀ j, j < 10 → V1.cell? ⟨gg, k * 10 + j, none⟩ = (cellsE u1)[j]? := fun j hj => by
                rw [World.ownsRow.cellAt o1 (k * 10 + j) (by omega), cellsAll_get (DU.set k u1) k j (by rw [List.length_set, HDl.out]; exact hlt) hj, getD_lt (by rw [List.length_set, HDl.out]; exact hlt)]
                simp
              have q0 : V1.cell? ⟨gg, k * 10, none⟩ = some (.int .i64 u1.id) := hqs1 0 (by decide)
              have q3 : V1.cell? ⟨gg, k * 10 + 3, none⟩ = some (.int .i64 u1.x) := hqs1 3 (by decide)
              have q4 : V1.cell? ⟨gg, k * 10 + 4, none⟩ = some (.int .i64 u1.y) := hqs1 4 (by decide)
              have q6 : V1.cell? ⟨gg, k * 10 + 6, none⟩ = some (.int .i64 u1.does) := hqs1 6 (by decide)
              have q7 : V1.cell? ⟨gg, k * 10 + 7, none⟩ = some (.int .i64 u1.gx) := hqs1 7 (by decide)
              have q8 : V1.cell? ⟨gg, k * 10 + 8, none⟩ = some (.int .i64 u1.gy) := hqs1 8 (by decide)
              have hgg1 : gg < V1.heap.size := by have := kp1.size; omega
              haveI := Cw.ne V1
              have hcw := fun (x : Cw V1) => x.cell
              have hm1 := HMV.out.kp kp1 hev
              have hlk : ∀ x : Cw V1, (Instr.lookup 183 (.map (some M)) (.int .i64 u1.id) false).run Try.prog x.w = .ok (.bool (old.contains u1.id)) x.w := fun x => by
                have := (hm1.call x.below).get (intKeys (by kernel_rfl)) (t := 183) (e := 4) (by kernel_rfl) (z := .bool false) (by kernel_rfl) u1.id (by rw [HID.out]; exact HWF.out)
                rw [oldF_get] at this
                exact this
              obtain ⟨ob, hob⟩ : ∃ b, old.contains u1.id = b := ⟨_, rfl⟩
              rw [hob] at hlk
              have HOB1 := Lib.hid hob
              have G1 := Lib.hid ge1
              have K1 := Lib.hid kp1
              have O1 := Lib.hid o1
              clear hob ge1 kp1 o1 hqs1 hm1
              refine region_cw (by kernel_rfl) (by kernel_rfl) ?_
              repeat (go_big_quiet_step (fail))
              cases ob
              · try simp only [Bool.not_false]
                repeat (go_big_quiet_step (fail))
                refine wpQuiet_nil ?_
                intro V2 hV2
                have ge2 := G1.out.call hV2
                have kp2 := K1.out.then_ hV2
                have harr : arriveF old u1 = u1 := by
                  unfold arriveF
                  rw [HOB1.out, if_neg (by simp)]
                have hd2 := HDn.out
                rw [HM1.out, harr] at hd2
                have G2 := Lib.hid ge2
                have K2 := Lib.hid kp2
                have D2 := Lib.hid hd2
                clear hcw hlk q0 q3 q4 q6 q7 q8 ge2 kp2 hd2 hV2 harr
                go_wp2_with fail
                go_roundw
                case rel =>
                  refine ⟨k + 1, by go_num, by omega, ?_, K2.out⟩
                  rw [D2.out]
                  exact G2.out
                case measure => simp [intOf]; omega
              repeat (go_big_quiet_step (fail))
              by_cases c1 : u1.does = 1
              case neg =>
                rw [show (u1.does == 1) = false from by simp [c1]]
                repeat (go_big_quiet_step (fail))
                refine wpQuiet_nil ?_
                intro V2 hV2
                have ge2 := G1.out.call hV2
                have kp2 := K1.out.then_ hV2
                have harr : arriveF old u1 = u1 := by
                  unfold arriveF
                  rw [if_neg (fun h => c1 h.2.1)]
                have hd2 := HDn.out
                rw [HM1.out, harr] at hd2
                have G2 := Lib.hid ge2
                have K2 := Lib.hid kp2
                have D2 := Lib.hid hd2
                clear hcw hlk q0 q3 q4 q6 q7 q8 ge2 kp2 hd2 hV2 harr
                go_wp2_with fail
                go_roundw
                case rel =>
                  refine ⟨k + 1, by go_num, by omega, ?_, K2.out⟩
                  rw [D2.out]
                  exact G2.out
                case measure => simp [intOf]; omega
              rw [show (u1.does == 1) = true from by simp [c1]]
              repeat (go_big_quiet_step (fail))
              by_cases c2 : u1.x = u1.gx
              case neg =>
                rw [show (u1.x == u1.gx) = false from by simp [c2]]
                repeat (go_big_quiet_step (fail))
                refine wpQuiet_nil ?_
                intro V2 hV2
                have ge2 := G1.out.call hV2
                have kp2 := K1.out.then_ hV2
                have harr : arriveF old u1 = u1 := by
                  unfold arriveF
                  rw [if_neg (fun h => c2 h.2.2.1)]
                have hd2 := HDn.out
                rw [HM1.out, harr] at hd2
                have G2 := Lib.hid ge2
                have K2 := Lib.hid kp2
                have D2 := Lib.hid hd2
                clear hcw hlk q0 q3 q4 q6 q7 q8 ge2 kp2 hd2 hV2 harr
                go_wp2_with fail
                go_roundw
                case rel =>
                  refine ⟨k + 1, by go_num, by omega, ?_, K2.out⟩
                  rw [D2.out]
                  exact G2.out
                case measure => simp [intOf]; omega
              rw [show (u1.x == u1.gx) = true from by simp [c2]]
              repeat (go_big_quiet_step (fail))
              by_cases c3 : u1.y = u1.gy
              case neg =>
                rw [show (u1.y == u1.gy) = false from by simp [c3]]
                repeat (go_big_quiet_step (fail))
                refine wpQuiet_nil ?_
                intro V2 hV2
                have ge2 := G1.out.call hV2
                have kp2 := K1.out.then_ hV2
                have harr : arriveF old u1 = u1 := by
                  unfold arriveF
                  rw [if_neg (fun h => c3 h.2.2.2)]
                have hd2 := HDn.out
                rw [HM1.out, harr] at hd2
                have G2 := Lib.hid ge2
                have K2 := Lib.hid kp2
                have D2 := Lib.hid hd2
                clear hcw hlk q0 q3 q4 q6 q7 q8 ge2 kp2 hd2 hV2 harr
                go_wp2_with fail
                go_roundw
                case rel =>
                  refine ⟨k + 1, by go_num, by omega, ?_, K2.out⟩
                  rw [D2.out]
                  exact G2.out
                case measure => simp [intOf]; omega
              rw [show (u1.y == u1.gy) = true from by simp [c3]]
              have hok1 : u1.target = 0 := by
                have ho := HG.out.ok HUM.out
                have h1 := ho.aim
                have h2 := ho.tgt0
                rw [HTG.out]
                have h3 := HDO.out
                rw [c1] at h3
                omega
              have hd6 : Hid (u1.does = 1 ∧ u1.x = u1.gx ∧ u1.y = u1.gy) := Lib.hid ⟨c1, c2, c3⟩
              have hw1 := Lib.hid hok1
              clear c1 c2 c3 hok1
              repeat (go_big_quiet_step (fail))
              refine wpQuiet_nil ?_
              intro V2 hV2
              have ge2 := G1.out.call hV2
              have kp2 := K1.out.then_ hV2
              have harr : arriveF old u1 = tellU u1 0 0 0 0 := by
                unfold arriveF
                rw [HOB1.out, if_pos ⟨rfl, hd6.out.1, hd6.out.2.1, hd6.out.2.2⟩]
              have hd2 := HDn.out
              rw [HM1.out, harr] at hd2
              have G2 := Lib.hid ge2
              have K2 := Lib.hid kp2
              have D2 := Lib.hid hd2
              have r6 : V2.cell? ⟨gg, k * 10 + 6, none⟩ = some (.int .i64 u1.does) := (hV2.cell (p := ⟨gg, _, none⟩) hgg1).trans q6
              have r7 : V2.cell? ⟨gg, k * 10 + 7, none⟩ = some (.int .i64 u1.gx) := (hV2.cell (p := ⟨gg, _, none⟩) hgg1).trans q7
              have r8 : V2.cell? ⟨gg, k * 10 + 8, none⟩ = some (.int .i64 u1.gy) := (hV2.cell (p := ⟨gg, _, none⟩) hgg1).trans q8
              have f6 : V2.frozen? ⟨gg, k * 10 + 6, none⟩ = false := (hV2.frozen (p := ⟨gg, _, none⟩) hgg1).trans (World.ownsRow.frozenAt O1.out _)
              have f7 : V2.frozen? ⟨gg, k * 10 + 7, none⟩ = false := (hV2.frozen (p := ⟨gg, _, none⟩) hgg1).trans (World.ownsRow.frozenAt O1.out _)
              have f8 : V2.frozen? ⟨gg, k * 10 + 8, none⟩ = false := (hV2.frozen (p := ⟨gg, _, none⟩) hgg1).trans (World.ownsRow.frozenAt O1.out _)
              clear hcw hlk q0 q3 q4 q6 q7 q8 ge2 kp2 hd2 hV2 harr
              go_wp2_with fail
              go_roundw
              case rel =>
                have hkd : k < (DU.set k u1).length := by rw [List.length_set, HDl.out]; exact hlt
                have hks : ∀ x : U, (DU.set k x).getD k zeroU = x := fun x => by rw [getD_lt (by rw [List.length_set, HDl.out]; exact hlt)]; simp
                have p1 := G2.out.poke rfl (k := k) hkd (j := 6) (by decide) (v := .int .i64 0) (u' := { u1 with does := 0 }) (by rw [hks]; rfl)
                dsimp only at p1
                rw [List.set_set] at p1
                have p2 := p1.poke rfl (k := k) (by rw [List.length_set, HDl.out]; exact hlt) (j := 7) (by decide) (v := .int .i64 0) (u' := { u1 with does := 0, gx := 0 }) (by rw [hks]; rfl)
                dsimp only at p2
                rw [List.set_set] at p2
                have p3 := p2.poke rfl (k := k) (by rw [List.length_set, HDl.out]; exact hlt) (j := 8) (by decide) (v := .int .i64 0) (u' := tellU u1 0 0 0 0) (by rw [hks]; unfold tellU; rw [← hw1.out]; rfl)
                dsimp only at p3
                rw [List.set_set] at p3
                refine ⟨k + 1, by go_num, by omega, ?_, ((K2.out.andset ⟨gg, k * 10 + 6, none⟩ (.int .i64 0) rfl).andset ⟨gg, k * 10 + 7, none⟩ (.int .i64 0) rfl).andset ⟨gg, k * 10 + 8, none⟩ (.int .i64 0) rfl⟩
                rw [D2.out]
                exact p3
              case measure => simp [intOf]; omega
            | false =>
              have HST := Lib.hid hst
              have HMG : Hid (moveF false old g.us u = { u with x := p, y := q }) := Lib.hid ((move_go HGO.out).trans (if_pos ⟨HC.out.trans HC1.out, HST.out⟩))
              clear hst
              have ge5 := GEY.out.call HB5.out
              have kp5 := KPY.out.then_ HB5.out
              have o5 := ge5.us
              dsimp only at o5
              rw [HDl.out] at o5
              have hx3 : w5.cell? ⟨gg, k * 10 + 3, none⟩ = some (.int .i64 u.x) := (HB5.out.cell (p := ⟨gg, _, none⟩) hggY).trans (HQS.out 3 (by decide))
              have hx4 : w5.cell? ⟨gg, k * 10 + 4, none⟩ = some (.int .i64 u.y) := (HB5.out.cell (p := ⟨gg, _, none⟩) hggY).trans (HQS.out 4 (by decide))
              have g3 : w5.frozen? ⟨gg, k * 10 + 3, none⟩ = false := World.ownsRow.frozenAt o5 _
              have g4 : w5.frozen? ⟨gg, k * 10 + 4, none⟩ = false := World.ownsRow.frozenAt o5 _
              have y0 : w5.cell? ⟨wr.heap.size, 0, none⟩ = some (.int .i64 p) := by rw [cP5]; rfl
              have y1 : w5.cell? ⟨wr.heap.size, 1, none⟩ = some (.int .i64 q) := by rw [cP5]; rfl
              have G5 := Lib.hid ge5
              have K5 := Lib.hid kp5
              have nP' := Ne.symm nP
              clear ge5 kp5 o5 cP5
              go_wp2_with fail
              go_region_held3 (fun w' => w'.cell? ⟨wr.heap.size, 0, none⟩ = some (.int .i64 p) ∧ w'.cell? ⟨wr.heap.size, 1, none⟩ = some (.int .i64 q)) (go_keep) (fail)
              go_upto_region 19 with fail
              obtain ⟨u1, hu1⟩ : ∃ x, ({ u with x := p, y := q } : U) = x := ⟨_, rfl⟩
              have HM1 : Hid (moveF false old g.us u = u1) := Lib.hid (HMG.out.trans hu1)
              have HID : Hid (u1.id = u.id) := Lib.hid (by rw [← hu1])
              have HTG : Hid (u1.target = u.target) := Lib.hid (by rw [← hu1])
              have HDO : Hid (u.does = u1.does) := Lib.hid (by rw [← hu1])
              have hdr : Below w5.heap.size w5 w5.drew := (Below.refl _ _).drew
              have p1 := (G5.out.call hdr).poke rfl (k := k) (by rw [HDl.out]; exact hlt) (j := 3) (by decide) (v := .int .i64 p) (u' := { u with x := p }) (by dsimp only; rw [HDk.out]; rfl)
              dsimp only at p1
              have p2 := p1.poke rfl (k := k) (by rw [List.length_set, HDl.out]; exact hlt) (j := 4) (by decide) (v := .int .i64 q) (u' := u1) (by rw [getD_lt (by rw [List.length_set, HDl.out]; exact hlt), ← hu1]; simp [cellsE])
              dsimp only at p2
              rw [List.set_set] at p2
              have HP2' := Lib.hid p2
              have HK2' := Lib.hid (((K5.out.then_ hdr).andset ⟨gg, k * 10 + 3, none⟩ (.int .i64 p) rfl).andset ⟨gg, k * 10 + 4, none⟩ (.int .i64 q) rfl)
              clear p1 p2 hdr hu1 y0 y1 g3 g4 hx3 hx4 lP5
              refine gen_world (fun V1 => GE V1 B S { g with us := DU.set k u1 } born (.slice fa g.free.length fc) (.slice (some ⟨gg, 0, none⟩) g.us.length uc) bv ∧ Kp (fun k => (Value.slice (some ⟨gg, 0, none⟩) g.us.length uc).ownBlock = some k) V V1) ⟨HP2'.out, HK2'.out⟩ ?_
              rintro V1 ⟨ge1, kp1⟩
              have o1 := ge1.us
              have hl1 : (DU.set k u1).length = g.us.length := by rw [List.length_set]; exact HDl.out
              dsimp only at o1
              rw [hl1] at o1
              have hqs1 : ∀ j, j < 10 → V1.cell? ⟨gg, k * 10 + j, none⟩ = (cellsE u1)[j]? := fun j hj => by
                rw [World.ownsRow.cellAt o1 (k * 10 + j) (by omega), cellsAll_get (DU.set k u1) k j (by rw [List.length_set, HDl.out]; exact hlt) hj, getD_lt (by rw [List.length_set, HDl.out]; exact hlt)]
                simp
              have q0 : V1.cell? ⟨gg, k * 10, none⟩ = some (.int .i64 u1.id) := hqs1 0 (by decide)
              have q3 : V1.cell? ⟨gg, k * 10 + 3, none⟩ = some (.int .i64 u1.x) := hqs1 3 (by decide)
              have q4 : V1.cell? ⟨gg, k * 10 + 4, none⟩ = some (.int .i64 u1.y) := hqs1 4 (by decide)
              have q6 : V1.cell? ⟨gg, k * 10 + 6, none⟩ = some (.int .i64 u1.does) := hqs1 6 (by decide)
              have q7 : V1.cell? ⟨gg, k * 10 + 7, none⟩ = some (.int .i64 u1.gx) := hqs1 7 (by decide)
              have q8 : V1.cell? ⟨gg, k * 10 + 8, none⟩ = some (.int .i64 u1.gy) := hqs1 8 (by decide)
              have hgg1 : gg < V1.heap.size := by have := kp1.size; omega
              haveI := Cw.ne V1
              have hcw := fun (x : Cw V1) => x.cell
              have hm1 := HMV.out.kp kp1 hev
              have hlk : ∀ x : Cw V1, (Instr.lookup 183 (.map (some M)) (.int .i64 u1.id) false).run Try.prog x.w = .ok (.bool (old.contains u1.id)) x.w := fun x => by
                have := (hm1.call x.below).get (intKeys (by kernel_rfl)) (t := 183) (e := 4) (by kernel_rfl) (z := .bool false) (by kernel_rfl) u1.id (by rw [HID.out]; exact HWF.out)
                rw [oldF_get] at this
                exact this
              obtain ⟨ob, hob⟩ : ∃ b, old.contains u1.id = b := ⟨_, rfl⟩
              rw [hob] at hlk
              have HOB1 := Lib.hid hob
              have G1 := Lib.hid ge1
              have K1 := Lib.hid kp1
              have O1 := Lib.hid o1
              clear hob ge1 kp1 o1 hqs1 hm1
              refine region_cw (by kernel_rfl) (by kernel_rfl) ?_
              repeat (go_big_quiet_step (fail))
              cases ob
              · try simp only [Bool.not_false]
                repeat (go_big_quiet_step (fail))
                refine wpQuiet_nil ?_
                intro V2 hV2
                have ge2 := G1.out.call hV2
                have kp2 := K1.out.then_ hV2
                have harr : arriveF old u1 = u1 := by
                  unfold arriveF
                  rw [HOB1.out, if_neg (by simp)]
                have hd2 := HDn.out
                rw [HM1.out, harr] at hd2
                have G2 := Lib.hid ge2
                have K2 := Lib.hid kp2
                have D2 := Lib.hid hd2
                clear hcw hlk q0 q3 q4 q6 q7 q8 ge2 kp2 hd2 hV2 harr
                go_wp2_with fail
                go_roundw
                case rel =>
                  refine ⟨k + 1, by go_num, by omega, ?_, K2.out⟩
                  rw [D2.out]
                  exact G2.out
                case measure => simp [intOf]; omega
              repeat (go_big_quiet_step (fail))
              by_cases c1 : u1.does = 1
              case neg =>
                rw [show (u1.does == 1) = false from by simp [c1]]
                repeat (go_big_quiet_step (fail))
                refine wpQuiet_nil ?_
                intro V2 hV2
                have ge2 := G1.out.call hV2
                have kp2 := K1.out.then_ hV2
                have harr : arriveF old u1 = u1 := by
                  unfold arriveF
                  rw [if_neg (fun h => c1 h.2.1)]
                have hd2 := HDn.out
                rw [HM1.out, harr] at hd2
                have G2 := Lib.hid ge2
                have K2 := Lib.hid kp2
                have D2 := Lib.hid hd2
                clear hcw hlk q0 q3 q4 q6 q7 q8 ge2 kp2 hd2 hV2 harr
                go_wp2_with fail
                go_roundw
                case rel =>
                  refine ⟨k + 1, by go_num, by omega, ?_, K2.out⟩
                  rw [D2.out]
                  exact G2.out
                case measure => simp [intOf]; omega
              rw [show (u1.does == 1) = true from by simp [c1]]
              repeat (go_big_quiet_step (fail))
              by_cases c2 : u1.x = u1.gx
              case neg =>
                rw [show (u1.x == u1.gx) = false from by simp [c2]]
                repeat (go_big_quiet_step (fail))
                refine wpQuiet_nil ?_
                intro V2 hV2
                have ge2 := G1.out.call hV2
                have kp2 := K1.out.then_ hV2
                have harr : arriveF old u1 = u1 := by
                  unfold arriveF
                  rw [if_neg (fun h => c2 h.2.2.1)]
                have hd2 := HDn.out
                rw [HM1.out, harr] at hd2
                have G2 := Lib.hid ge2
                have K2 := Lib.hid kp2
                have D2 := Lib.hid hd2
                clear hcw hlk q0 q3 q4 q6 q7 q8 ge2 kp2 hd2 hV2 harr
                go_wp2_with fail
                go_roundw
                case rel =>
                  refine ⟨k + 1, by go_num, by omega, ?_, K2.out⟩
                  rw [D2.out]
                  exact G2.out
                case measure => simp [intOf]; omega
              rw [show (u1.x == u1.gx) = true from by simp [c2]]
              repeat (go_big_quiet_step (fail))
              by_cases c3 : u1.y = u1.gy
              case neg =>
                rw [show (u1.y == u1.gy) = false from by simp [c3]]
                repeat (go_big_quiet_step (fail))
                refine wpQuiet_nil ?_
                intro V2 hV2
                have ge2 := G1.out.call hV2
                have kp2 := K1.out.then_ hV2
                have harr : arriveF old u1 = u1 := by
                  unfold arriveF
                  rw [if_neg (fun h => c3 h.2.2.2)]
                have hd2 := HDn.out
                rw [HM1.out, harr] at hd2
                have G2 := Lib.hid ge2
                have K2 := Lib.hid kp2
                have D2 := Lib.hid hd2
                clear hcw hlk q0 q3 q4 q6 q7 q8 ge2 kp2 hd2 hV2 harr
                go_wp2_with fail
                go_roundw
                case rel =>
                  refine ⟨k + 1, by go_num, by omega, ?_, K2.out⟩
                  rw [D2.out]
                  exact G2.out
                case measure => simp [intOf]; omega
              rw [show (u1.y == u1.gy) = true from by simp [c3]]
              have hok1 : u1.target = 0 := by
                have ho := HG.out.ok HUM.out
                have h1 := ho.aim
                have h2 := ho.tgt0
                rw [HTG.out]
                have h3 := HDO.out
                rw [c1] at h3
                omega
              have hd6 : Hid (u1.does = 1 ∧ u1.x = u1.gx ∧ u1.y = u1.gy) := Lib.hid ⟨c1, c2, c3⟩
              have hw1 := Lib.hid hok1
              clear c1 c2 c3 hok1
              repeat (go_big_quiet_step (fail))
              refine wpQuiet_nil ?_
              intro V2 hV2
              have ge2 := G1.out.call hV2
              have kp2 := K1.out.then_ hV2
              have harr : arriveF old u1 = tellU u1 0 0 0 0 := by
                unfold arriveF
                rw [HOB1.out, if_pos ⟨rfl, hd6.out.1, hd6.out.2.1, hd6.out.2.2⟩]
              have hd2 := HDn.out
              rw [HM1.out, harr] at hd2
              have G2 := Lib.hid ge2
              have K2 := Lib.hid kp2
              have D2 := Lib.hid hd2
              have r6 : V2.cell? ⟨gg, k * 10 + 6, none⟩ = some (.int .i64 u1.does) := (hV2.cell (p := ⟨gg, _, none⟩) hgg1).trans q6
              have r7 : V2.cell? ⟨gg, k * 10 + 7, none⟩ = some (.int .i64 u1.gx) := (hV2.cell (p := ⟨gg, _, none⟩) hgg1).trans q7
              have r8 : V2.cell? ⟨gg, k * 10 + 8, none⟩ = some (.int .i64 u1.gy) := (hV2.cell (p := ⟨gg, _, none⟩) hgg1).trans q8
              have f6 : V2.frozen? ⟨gg, k * 10 + 6, none⟩ = false := (hV2.frozen (p := ⟨gg, _, none⟩) hgg1).trans (World.ownsRow.frozenAt O1.out _)
              have f7 : V2.frozen? ⟨gg, k * 10 + 7, none⟩ = false := (hV2.frozen (p := ⟨gg, _, none⟩) hgg1).trans (World.ownsRow.frozenAt O1.out _)
              have f8 : V2.frozen? ⟨gg, k * 10 + 8, none⟩ = false := (hV2.frozen (p := ⟨gg, _, none⟩) hgg1).trans (World.ownsRow.frozenAt O1.out _)
              clear hcw hlk q0 q3 q4 q6 q7 q8 ge2 kp2 hd2 hV2 harr
              go_wp2_with fail
              go_roundw
              case rel =>
                have hkd : k < (DU.set k u1).length := by rw [List.length_set, HDl.out]; exact hlt
                have hks : ∀ x : U, (DU.set k x).getD k zeroU = x := fun x => by rw [getD_lt (by rw [List.length_set, HDl.out]; exact hlt)]; simp
                have p1 := G2.out.poke rfl (k := k) hkd (j := 6) (by decide) (v := .int .i64 0) (u' := { u1 with does := 0 }) (by rw [hks]; rfl)
                dsimp only at p1
                rw [List.set_set] at p1
                have p2 := p1.poke rfl (k := k) (by rw [List.length_set, HDl.out]; exact hlt) (j := 7) (by decide) (v := .int .i64 0) (u' := { u1 with does := 0, gx := 0 }) (by rw [hks]; rfl)
                dsimp only at p2
                rw [List.set_set] at p2
                have p3 := p2.poke rfl (k := k) (by rw [List.length_set, HDl.out]; exact hlt) (j := 8) (by decide) (v := .int .i64 0) (u' := tellU u1 0 0 0 0) (by rw [hks]; unfold tellU; rw [← hw1.out]; rfl)
                dsimp only at p3
                rw [List.set_set] at p3
                refine ⟨k + 1, by go_num, by omega, ?_, ((K2.out.andset ⟨gg, k * 10 + 6, none⟩ (.int .i64 0) rfl).andset ⟨gg, k * 10 + 7, none⟩ (.int .i64 0) rfl).andset ⟨gg, k * 10 + 8, none⟩ (.int .i64 0) rfl⟩
                rw [D2.out]
                exact p3
              case measure => simp [intOf]; omega
        · obtain rfl : k = g.us.length := by omega
          go_wp2_with fail
          go_end0
          have hfin := HY.out.1
          rw [done_all] at hfin
          exact ⟨rfl, hfin, (kp_of BV.out _).trans HY.out.2 (fun _ _ x => x)⟩
end Go.Proofs.Ytlfljlhppigejaa
