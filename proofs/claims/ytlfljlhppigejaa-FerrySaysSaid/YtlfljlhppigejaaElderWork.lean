/-
  The walk of elder.work.
-/
import Derived.Test.YtlfljlhppigejaaElderMove
namespace Go.Proofs.Ytlfljlhppigejaa
open Go.RowKit
attribute [local go_sem] qOne qAt qUp qOneK

def lessV (n : Bool) (old : List Int) (us : List U) (k : Nat) (id : Int) : Option Value := if struck n old us k id = true then some (.int .i64 (lossK n old us k id)) else none
theorem lessV_get (n : Bool) (old : List Int) (us : List U) (k : Nat) (id : Int) : (lessV n old us k id).getD (.int .i64 0) = .int .i64 (lossK n old us k id) := by
  unfold lessV
  split
  · rfl
  · rename_i h; rw [lossK_none (Bool.eq_false_iff.2 h)]; rfl
theorem lessV_skip {n : Bool} {old : List Int} {us : List U} {k : Nat} (hk : k < us.length) {u : U} (hu : us.getD k zeroU = u) (hs : strikes n old us u = false) (id : Int) : lessV n old us (k + 1) id = lessV n old us k id := by
  unfold lessV
  rw [struck_next hk hu, lossK_next hk hu, hs]
  have h1 : (struck n old us k id || (false && u.target == id)) = struck n old us k id := by simp
  have h2 : ¬ (false = true ∧ u.target = id) := by simp
  rw [h1, if_neg h2, Int.add_zero]
theorem lessV_hit {n : Bool} {old : List Int} {us : List U} {k : Nat} (hk : k < us.length) {u : U} (hu : us.getD k zeroU = u) (hs : strikes n old us u = true) (id : Int) : lessV n old us (k + 1) id = if id = u.target then some (.int .i64 (lossK n old us k u.target + blow n u)) else lessV n old us k id := by
  unfold lessV
  rw [struck_next hk hu, lossK_next hk hu, hs]
  by_cases e : id = u.target
  · have h1 : (struck n old us k id || (true && u.target == id)) = true := by simp [e]
    rw [if_pos e, if_pos h1, if_pos ⟨rfl, e.symm⟩, e]
  · have h1 : (struck n old us k id || (true && u.target == id)) = struck n old us k id := by
      have : (u.target == id) = false := by simp; exact fun h => e h.symm
      rw [this]; simp
    have h2 : ¬ (true = true ∧ u.target = id) := fun h => e h.2.symm
    rw [if_neg e, h1, if_neg h2, Int.add_zero]
def gained (g : G) (old : List Int) (k : Nat) : G := { g with g0 := gainK false old g.us k 0 g.g0, g1 := gainK false old g.us k 1 g.g1 }
theorem GE.gold {w : World} {B S : Nat} {g : G} {born : List Int} {fv ev bv : Value} (h : GE w B S g born fv ev bv) {o : Int} (ho : o = 0 ∨ o = 1) (c : Int) : GE (w.setCell ⟨S, 1 + o.toNat, none⟩ (.int .i64 c)) B S (if o = 0 then { g with g0 := c } else { g with g1 := c }) born fv ev bv := by
  rcases ho with rfl | rfl
  · exact h.setG0 _
  · exact h.setG1 _
theorem strike_false {n : Bool} {old : List Int} {us : List U} {u : U} (h : u.target = 0 ∨ old.contains u.id = false ∨ nearF n us u = false) : strikes n old us u = false := by
  unfold strikes
  rcases h with h | h | h <;> rw [h] <;> simp
theorem strike_true {n : Bool} {old : List Int} {us : List U} {u : U} (h1 : u.target ≠ 0) (h2 : old.contains u.id = true) (h3 : nearF n us u = true) : strikes n old us u = true := by
  unfold strikes
  rw [h2, h3]
  simp [h1]
theorem miner_owner {g : G} (hg : Right g) (hold : g.new = false) {u : U} (hu : u ∈ g.us) (hd : u.does = 3) : u.owner = 0 ∨ u.owner = 1 := by
  have ho := hg.ok hu
  rw [hold] at ho
  have ha := hg.aims u hu
  rw [aims_iff] at ha
  have h1 := ho.aim
  have h2 := ho.own0
  have h3 := ho.own2
  have h4 := ho.mine
  rcases ha with h | ⟨t, -, h⟩
  · omega
  · have hk : u.kind ≠ 4 := by
      intro hk
      unfold mayDo at h
      rw [hk, hold] at h
      have hl : (ruleOf false 4).load = 0 := rfl
      have hh : (ruleOf false 4).harm = 0 := rfl
      rw [hl, hh] at h
      split at h
      · omega
      · split at h <;> omega
    omega

set_option maxHeartbeats 12800000 in
set_option maxRecDepth 100000 in
theorem work_any (w : World) (B S : Nat) (g : G) (born : List Int) (fv ev bv : Value) (h : GE w B S g born fv ev bv) (hg : Right g) (hold : g.new = false) (M nM sM : Nat) (old : List Int) (hM : IM w M nM sM (oldF old)) (hev : ev.ownBlock ≠ some M) (hMS : M ≠ S) :
    Calls Try.prog 119 #[.pointer (some ⟨S, 0, none⟩), .map (some M)] w fun e w' => e = .returned (.tuple #[]) ∧ GE w' B S { gained g old g.us.length with us := hurtF false old g.us } born fv ev bv ∧ Kp (fun k => k = S ∨ ev.ownBlock = some k) w w' := by
  have hfew := hg.few
  obtain ⟨ua, uc, rfl, -, hrow, hua⟩ := URow.of_own h.us
  have hS := h.blk.lt
  have hML := hM.lt
  have hevL : ∀ b, (Value.slice ua g.us.length uc).ownBlock = some b → b < w.heap.size := fun b hb => (World.ownsRow.lt h.us b hb).2
  have HEVL := Lib.hid hevL
  have hfvL : ∀ b, fv.ownBlock = some b → b < w.heap.size := fun b hb => (World.ownsRow.lt h.fr b hb).2
  have hbvL : ∀ b, bv.ownBlock = some b → b < w.heap.size := fun b hb => (World.ownsRow.lt h.bo b hb).2
  have HFVL := Lib.hid hfvL
  have HBVL := Lib.hid hbvL
  obtain ⟨W, hW⟩ : ∃ W, w.alloc (.map #[] 0) = W := ⟨_, rfl⟩
  have hbW : Below w.heap.size w W := by rw [← hW]; exact (Below.refl _ _).alloc (Nat.le_refl _) _
  have m1 : IM W w.heap.size 0 0 (fun _ => none) := by rw [← hW]; exact MapOf.new w
  have ge := h.call hbW
  have hmm := @run_makeMap Try.prog
  obtain ⟨lS, cS, -⟩ := id ge.blk
  have hS5 : W.cell? ⟨S, 5, none⟩ = some (.slice ua g.us.length uc) := by rw [cS]; rfl
  have HW := Lib.hid hbW
  have HM1 := Lib.hid m1
  have HM := Lib.hid hM
  have HG := Lib.hid hg
  have HOLD := Lib.hid hold
  have HGE := Lib.hid ge
  have hn0 : (0 : Int) ≤ (g.us.length : Int) := by omega
  have HSE := Lib.hid h.se
  clear h hrow hua hevL hfvL hbvL hbW m1 ge cS hg hold hM
  go_enter Try.func119, Try.ntmps119
  go_wp2_with fail
  go_loopw [17] (fun a wr => ∃ k : Nat, a = .int .i64 k ∧ k ≤ g.us.length ∧ (GE wr B S (gained g old k) born fv (.slice ua g.us.length uc) bv ∧ Kp (fun k => k = S ∨ (Value.slice ua g.us.length uc).ownBlock = some k) w wr ∧ ∃ n1 s1, n1 ≤ k ∧ IM wr w.heap.size n1 s1 (lessV false old g.us k))) (fun a _ => (g.us.length - intOf a).toNat)
  case atStart =>
    refine ⟨0, rfl, by omega, ?_, kp_of HW.out _, 0, 0, Nat.le_refl _, HM1.out.fn (fun id => ?_) rfl⟩
    · exact HGE.out
    · unfold lessV; rw [struck_zero]; rfl
  case round =>
    obtain ⟨k, rfl, hk, hX⟩ := hrel
    have HX := Lib.hid hX
    clear hX hS5
    by_cases hlt : k < g.us.length
    · obtain ⟨u, hu⟩ : ∃ u, g.us.getD k zeroU = u := ⟨_, rfl⟩
      have hum : u ∈ g.us := by rw [← hu, getD_lt hlt]; exact List.getElem_mem hlt
      have ger := HX.out.1
      have kpr := HX.out.2.1
      have our : wr.ownsRow B 179 10 (.slice ua g.us.length uc) g.us.length (cellsAll g.us) := ger.us
      obtain ⟨a', c', he', -, hrw, -⟩ := URow.of_own our
      cases he'
      obtain ⟨b, o, hua, hbB, q0, q1, q2, q3, q4, q5, q6, q7, q8, q9⟩ := hrw.getE k hlt u hu
      have hS5r : wr.cell? ⟨S, 5, none⟩ = some (.slice ua g.us.length uc) := by rw [ger.blk.cell]; rfl
      have hszr := kpr.size
      have lSr : S < wr.heap.size := by omega
      have hbr : b < wr.heap.size := hbB
      have ho0 : o = 0 := by
        rcases our.2 with ⟨e1, -⟩ | ⟨g2, c2, cur, e1, -⟩
        · rw [hua] at e1; cases e1
        · rw [hua] at e1; cases e1; rfl
      subst hua
      subst ho0
      rw [Nat.zero_add] at q0 q1 q2 q3 q4 q5 q6 q7 q8 q9
      have HU := Lib.hid hu
      have HUM := Lib.hid hum
      have HRW := Lib.hid hrw
      have hki : (0 : Int) ≤ (k : Int) := by omega
      have hkl : (k : Int) < (g.us.length : Int) := by omega
      obtain ⟨WA, hWA⟩ : ∃ WA, wr.alloc (.cells #[.int .i64 u.id, .int .i64 u.owner, .int .i64 u.kind, .int .i64 u.x, .int .i64 u.y, .int .i64 u.hp, .int .i64 u.does, .int .i64 u.gx, .int .i64 u.gy, .int .i64 u.target] 179) = WA := ⟨_, rfl⟩
      have hbA : Below wr.heap.size wr WA := by rw [← hWA]; exact (Below.refl _ _).alloc (Nat.le_refl _) _
      have hkE : Blk WA wr.heap.size #[.int .i64 u.id, .int .i64 u.owner, .int .i64 u.kind, .int .i64 u.x, .int .i64 u.y, .int .i64 u.hp, .int .i64 u.does, .int .i64 u.gx, .int .i64 u.gy, .int .i64 u.target] := by rw [← hWA]; exact Blk.new wr _ _
      have nX : ∀ c, w.heap.size ≤ c → ¬ (c = S ∨ (Value.slice (some ⟨b, 0, none⟩) g.us.length uc).ownBlock = some c) := fun c hc e => by
        rcases e with e | e
        · omega
        · have := HEVL.out c e; omega
      have NX := Lib.hid nX
      have hwfu : (Lit.int .i64 u.id).wf = true ∧ (Lit.int .i64 u.target).wf = true := by
        have ho := HG.out.ok hum
        have h1 := ho.idT
        have h2 := ho.id1
        have h3 := ho.tgtT
        have h4 := ho.tgt0
        rw [HOLD.out] at h1 h3
        have : topOf false = 200 := rfl
        exact ⟨wf_int (by omega), wf_int (by omega)⟩
      have hmA := (HM.out.kp kpr (fun e => by rcases e with e | e; exact hMS e; exact hev e)).call hbA
      have hlook := hmA.get (intKeys (by kernel_rfl)) (t := 183) (e := 4) (by kernel_rfl) (z := .bool false) (by kernel_rfl) u.id hwfu.1
      rw [oldF_get] at hlook
      obtain ⟨ob, hob⟩ : ∃ b, old.contains u.id = b := ⟨_, rfl⟩
      rw [hob] at hlook
      have HOB := Lib.hid hob
      have HWF := Lib.hid hwfu
      have HBA := Lib.hid hbA
      have HKE := Lib.hid hkE
      have GER := Lib.hid ger
      have KPR := Lib.hid kpr
      have HS5r := Lib.hid hS5r
      obtain ⟨lE, cE, -⟩ := id hkE
      clear hu hum ger kpr our hrw hbA hkE nX hwfu hmA hob hS5r
      go_upto_region 4 with fail
      by_cases t0 : u.target = 0
      · have d0 : (u.target == 0) = true := by simp [t0]
        have HT0 := Lib.hid t0
        clear t0
        go_wp2_with fail
        go_roundw
        case rel =>
          have hst : strikes false old g.us u = false := strike_false (Or.inl HT0.out)
          obtain ⟨ger, kpr, n1, s1, hn1, hm1⟩ := HX.out
          have hbx : Below wr.heap.size wr WA := HBA.out
          have hgd : gained g old (k + 1) = gained g old k := by
            unfold gained
            rw [gainK_next hlt HU.out, gainK_next hlt HU.out, hst, if_neg (by simp), if_neg (by simp)]
          refine ⟨k + 1, by go_num, by omega, ?_, kpr.then_ hbx, n1, s1, by omega, (hm1.call hbx).fn (fun id => ?_) rfl⟩
          · rw [hgd]; exact ger.call hbx
          · exact (lessV_skip hlt HU.out hst id).symm
        case measure => simp [intOf]; omega

      have d0 : (u.target == 0) = false := by simp [t0]
      have HT0 := Lib.hid t0
      have htp : 0 < u.target := by have := (HG.out.ok HUM.out).tgt0; omega
      clear t0
      cases ob
      · clear htp
        go_wp2_with fail
        go_roundw
        case rel =>
          have hst : strikes false old g.us u = false := strike_false (Or.inr (Or.inl HOB.out))
          obtain ⟨ger, kpr, n1, s1, hn1, hm1⟩ := HX.out
          have hbx : Below wr.heap.size wr WA := HBA.out
          have hgd : gained g old (k + 1) = gained g old k := by
            unfold gained
            rw [gainK_next hlt HU.out, gainK_next hlt HU.out, hst, if_neg (by simp), if_neg (by simp)]
          refine ⟨k + 1, by go_num, by omega, ?_, kpr.then_ hbx, n1, s1, by omega, (hm1.call hbx).fn (fun id => ?_) rfl⟩
          · rw [hgd]; exact ger.call hbx
          · exact (lessV_skip hlt HU.out hst id).symm
        case measure => simp [intOf]; omega

      go_wp2_with fail
      refine (near_all HG.out HOLD.out S (some ⟨b, 0, none⟩) uc u HUM.out htp _ (by have := HBA.out.size; omega) ((HBA.out.cell (p := ⟨S, 5, none⟩) lSr).trans HS5r.out) ((HRW.out.below HBA.out).mono HBA.out.size)).mono ?_
      rintro e w1 ⟨rfl, b1⟩
      have HB1 : Hid (Below wr.heap.size wr w1) := Lib.hid (HBA.out.trans (b1.mono HBA.out.size))
      have kE1 := HKE.out.call b1
      obtain ⟨nb, hnb⟩ : ∃ x, nearF false g.us u = x := ⟨_, rfl⟩
      rw [hnb]
      have HNB := Lib.hid hnb
      have KE1 := Lib.hid kE1
      obtain ⟨lE1, cE1, -⟩ := id kE1
      clear hnb b1 kE1 htp lE cE hlook d0 q0 q1 q2 q3 q4 q5 q6 q7 q8 q9
      cases nb
      · go_wp2_with fail
        go_roundw
        case rel =>
          have hst : strikes false old g.us u = false := strike_false (Or.inr (Or.inr HNB.out))
          obtain ⟨ger, kpr, n1, s1, hn1, hm1⟩ := HX.out
          have hbx : Below wr.heap.size wr w1 := HB1.out
          have hgd : gained g old (k + 1) = gained g old k := by
            unfold gained
            rw [gainK_next hlt HU.out, gainK_next hlt HU.out, hst, if_neg (by simp), if_neg (by simp)]
          refine ⟨k + 1, by go_num, by omega, ?_, kpr.then_ hbx, n1, s1, by omega, (hm1.call hbx).fn (fun id => ?_) rfl⟩
          · rw [hgd]; exact ger.call hbx
          · exact (lessV_skip hlt HU.out hst id).symm
        case measure => simp [intOf]; omega

      go_wp2_with fail
      refine (rElder u.kind _).mono ?_
      rintro e w2 ⟨rfl, b2⟩
      obtain ⟨r, hrr⟩ : ∃ r, ruleOf false u.kind = r := ⟨_, rfl⟩
      obtain ⟨rb, hrb⟩ : ∃ b, isRule false u.kind = b := ⟨_, rfl⟩
      rw [hrr, hrb]
      have HR := Lib.hid hrr
      have hbd := ruleOf_bd false u.kind
      rw [hrr] at hbd
      clear hrr hrb
      have kE2 := KE1.out.call b2
      have HB2 : Hid (Below wr.heap.size wr w2) := Lib.hid (HB1.out.trans (b2.mono HB1.out.size))
      have hz := fun (T : TypeId) => HB2.out.alloc HB2.out.size (.cells #[.int .i64 r.cost, .int .i64 r.hp, .int .i64 r.speed, .int .i64 r.harm, .int .i64 r.range, .int .i64 r.load] T)
      have HZ := Lib.hid hz
      have KE2 := Lib.hid kE2
      have lw2 : wr.heap.size < w2.heap.size := kE2.lt
      clear b2 kE2 hz lE1 cE1
      obtain ⟨-, -, n1, s1, hn1, hm1⟩ := HX.out
      have HM1r := Lib.hid hm1
      clear hm1
      go_upto_region 6 with fail
      refine gen_world (fun V => GE V B S (gained g old k) born fv (.slice (some ⟨b, 0, none⟩) g.us.length uc) bv ∧ Kp (fun k => k = S ∨ (Value.slice (some ⟨b, 0, none⟩) g.us.length uc).ownBlock = some k) w V ∧ IM V w.heap.size n1 s1 (lessV false old g.us k) ∧ Blk V wr.heap.size #[.int .i64 u.id, .int .i64 u.owner, .int .i64 u.kind, .int .i64 u.x, .int .i64 u.y, .int .i64 u.hp, .int .i64 u.does, .int .i64 u.gx, .int .i64 u.gy, .int .i64 u.target] ∧ Blk V w2.heap.size #[.int .i64 r.cost, .int .i64 r.hp, .int .i64 r.speed, .int .i64 r.harm, .int .i64 r.range, .int .i64 r.load]) ⟨GER.out.call (HZ.out _), KPR.out.then_ (HZ.out _), HM1r.out.call (HZ.out _), KE2.out.alloc _, Blk.new w2 _ _⟩ ?_
      rintro V ⟨geV, kpV, mV, kE, kR⟩
      obtain ⟨lE, cE, -⟩ := id kE
      obtain ⟨lR, cR, -⟩ := id kR
      have hst : strikes false old g.us u = true := strike_true HT0.out HOB.out HNB.out
      have hgt := mV.get (intKeys (by kernel_rfl)) (t := 202) (e := 3) (by kernel_rfl) (z := .int .i64 0) (by kernel_rfl) u.target HWF.out.2
      rw [lessV_get] at hgt
      obtain ⟨ls, hls⟩ : ∃ x, lossK false old g.us k u.target = x := ⟨_, rfl⟩
      have hlr := lossK_range false old g.us k u.target
      rw [hls] at hgt hlr
      have HLS := Lib.hid hls
      have HST := Lib.hid hst
      have hst2 := Lib.hid hst
      have GEV := Lib.hid geV
      have KPV := Lib.hid kpV
      have MV := Lib.hid mV
      have KE := Lib.hid kE
      have KR := Lib.hid kR
      have hszV := kpV.size
      have nHS : w.heap.size ≠ S := by omega
      clear hls hst geV kpV mV kE kR
      by_cases c3 : u.does = 3
      · have e3 : (u.does == 3) = true := by simp [c3]
        have HC3 := Lib.hid c3
        clear c3
        obtain ⟨y, ry, my, ty⟩ := MV.out.put (intKeys (by kernel_rfl)) (t := 202) (e := 3) (by kernel_rfl) (by unfold maxLen; omega) u.target HWF.out.2 (.int .i64 (ls + r.load))
        have hwl : IntKind.i64.wrap (ls + r.load) = ls + r.load := IntWalk.i64_in _ (by omega)
        have gey : GE y B S (gained g old k) born fv (.slice (some ⟨b, 0, none⟩) g.us.length uc) bv := GEV.out.kp (Kp.turned ty) (Ne.symm nHS) (fun c hc => (by have := HFVL.out c hc; omega)) (fun c hc => (by have := HEVL.out c hc; omega)) (fun c hc => (by have := HBVL.out c hc; omega))
        have kpy := KPV.out.trans ((Kp.turned ty).imp (Y := fun c => c = w.heap.size) (fun c _ hc => hc)) (fun c hc e => absurd hc (by omega))
        have kEy := KE.out.turned ty (by have := HM1r.out.lt; omega)
        have kRy := KR.out.turned ty (by have := HM1r.out.lt; omega)
        have HMY := Lib.hid my
        have GEY := Lib.hid gey
        have KPY := Lib.hid kpy
        have KEY := Lib.hid kEy
        have KRY := Lib.hid kRy
        clear my ty gey kpy kEy kRy
        go_upto_region 8 with fail
        refine gen_world (fun Y => GE Y B S (gained g old k) born fv (.slice (some ⟨b, 0, none⟩) g.us.length uc) bv ∧ Kp (fun k => k = S ∨ (Value.slice (some ⟨b, 0, none⟩) g.us.length uc).ownBlock = some k) w Y ∧ IM Y w.heap.size (n1 + 1) (if (lessV false old g.us k u.target).isSome then s1 else s1 + 1) (fun id => if id = u.target then some (.int .i64 (ls + r.load)) else lessV false old g.us k id) ∧ Blk Y wr.heap.size #[.int .i64 u.id, .int .i64 u.owner, .int .i64 u.kind, .int .i64 u.x, .int .i64 u.y, .int .i64 u.hp, .int .i64 u.does, .int .i64 u.gx, .int .i64 u.gy, .int .i64 u.target] ∧ Blk Y w2.heap.size #[.int .i64 r.cost, .int .i64 r.hp, .int .i64 r.speed, .int .i64 r.harm, .int .i64 r.range, .int .i64 r.load]) ⟨GEY.out, KPY.out, HMY.out, KEY.out, KRY.out⟩ ?_
        rintro Y ⟨geY, kpY, mY, kE, kR⟩
        obtain ⟨lE', cE', -⟩ := id kE
        obtain ⟨lR', cR', -⟩ := id kR
        obtain ⟨lS', cS', fS'⟩ := id geY.blk
        have hown := miner_owner HG.out HOLD.out HUM.out HC3.out
        obtain ⟨GO, hgo⟩ : ∃ G, goldOf (gained g old k) u.owner = G := ⟨_, rfl⟩
        have hgc : Y.cell? ⟨S, 1 + u.owner.toNat, none⟩ = some (.int .i64 GO) := by
          rw [← hgo]
          unfold goldOf
          rcases hown with ho | ho
          · rw [ho, if_pos rfl]; exact cS' 1
          · rw [ho, if_neg (by omega)]; exact cS' 2
        have hgr : 0 ≤ GO ∧ GO ≤ 40 := by
          have hhead := HG.out.head
          unfold headBad at hhead
          rw [HOLD.out, show richOf false = 40 from rfl] at hhead
          have h0 := gainK_range false old g.us k 0 g.g0 (by omega) (by show _ ≤ (40 : Int); omega)
          have h1 := gainK_range false old g.us k 1 g.g1 (by omega) (by show _ ≤ (40 : Int); omega)
          have hr : richOf false = 40 := rfl
          rw [hr] at h0 h1
          rw [← hgo]
          unfold goldOf gained
          dsimp only
          split
          · exact h0
          · exact h1
        have ho0 : (0 : Int) ≤ u.owner := by omega
        have ho2 : u.owner < 2 := by omega
        have hwg : IntKind.i64.wrap (GO + r.load) = GO + r.load := IntWalk.i64_in _ (by omega)
        have GEY2 := Lib.hid geY
        have KPY2 := Lib.hid kpY
        have MY2 := Lib.hid mY
        have HGO := Lib.hid hgo
        have HOWN := Lib.hid hown
        have FS := Lib.hid fS'
        have hisS : (Y.cell? ⟨S, 1 + u.owner.toNat, none⟩).isSome = true := by rw [hgc]; rfl
        have HISS := Lib.hid hisS
        clear geY kpY mY kE kR hgo cS' fS' lE lR cE cR hown hisS hgt
        haveI := Cw.ne Y
        have hcw := fun (x : Cw Y) => x.cell
        refine region_cw_tail 19 (by kernel_rfl) (by kernel_rfl) ?_
        simp only [List.take_succ_cons, List.take_zero, List.drop_succ_cons, List.drop_zero]
        repeat (go_big_quiet_step (fail))
        refine wpQuiet_nil ?_
        intro Y2 hY2
        have ge3 := (GEY2.out.call hY2).gold HOWN.out (min 40 (GO + r.load))
        have kp3 := (KPY2.out.then_ hY2).andset ⟨S, 1 + u.owner.toNat, none⟩ (.int .i64 (min 40 (GO + r.load))) (Or.inl rfl)
        have my3 := (MY2.out.call hY2).set (a := ⟨S, 1 + u.owner.toNat, none⟩) (by show w.heap.size ≠ S; omega) (.int .i64 (min 40 (GO + r.load)))
        have hg3 : (if u.owner = 0 then { gained g old k with g0 := min 40 (GO + r.load) } else { gained g old k with g1 := min 40 (GO + r.load) }) = gained g old (k + 1) := by
          have hd2 : u.does ≠ 2 := by have := HC3.out; omega
          have hk1 : ∀ o x, gainK false old g.us (k + 1) o x = if u.owner = o then min 40 (gainK false old g.us k o x + r.load) else gainK false old g.us k o x := by
            intro o x
            rw [gainK_next hlt HU.out, HR.out]
            by_cases e : u.owner = o
            · rw [if_pos e, if_pos ⟨HST.out, hd2, e⟩]; rfl
            · rw [if_neg e, if_neg (fun hh => e hh.2.2)]
          unfold gained
          rw [hk1, hk1, ← HGO.out]
          unfold goldOf gained
          rcases HOWN.out with ho | ho
          · rw [ho]; rfl
          · rw [ho]; rfl
        rw [hg3] at ge3
        have hmin : (if GO + r.load < 40 then GO + r.load else 40) = min 40 (GO + r.load) := by split <;> omega
        refine list_store1 S (1 + u.owner.toNat) (.int .i64 (if GO + r.load < 40 then GO + r.load else 40)) 3 (.tmp 71) (.tmp 67) rfl rfl rfl rfl rfl (by rw [hY2.cell (p := ⟨S, _, none⟩) lS']; exact HISS.out) (by rw [hY2.frozen (p := ⟨S, _, none⟩) lS']; exact FS.out _) rfl (by kernel_rfl) (fun Z => GE Z B S (gained g old (k + 1)) born fv (.slice (some ⟨b, 0, none⟩) g.us.length uc) bv ∧ Kp (fun k => k = S ∨ (Value.slice (some ⟨b, 0, none⟩) g.us.length uc).ownBlock = some k) w Z ∧ IM Z w.heap.size (n1 + 1) (if (lessV false old g.us k u.target).isSome then s1 else s1 + 1) (fun id => if id = u.target then some (.int .i64 (ls + r.load)) else lessV false old g.us k id)) (by rw [hmin]; exact ⟨ge3, kp3, my3⟩) ?_
        rintro Z ⟨geZ, kpZ, mZ⟩
        have GZ := Lib.hid geZ
        have KZ := Lib.hid kpZ
        have MZ := Lib.hid mZ
        clear geZ kpZ mZ hmin ge3 kp3 my3 hg3 hcw hY2 cE' cR' hgc
        go_wp2_with fail
        go_roundw
        case rel =>
          refine ⟨k + 1, by go_num, by omega, GZ.out, KZ.out, n1 + 1, _, by omega, MZ.out.fn (fun id => ?_) rfl⟩
          rw [lessV_hit hlt HU.out HST.out, HLS.out]
          have hbl : blow false u = r.load := by
            unfold blow
            rw [if_neg (by have := HC3.out; omega), HR.out]
          rw [hbl]
        case measure => simp [intOf]; omega
      · have e3 : (u.does == 3) = false := by simp [c3]
        have hd2 : u.does = 2 := by
          rcases strike_does hst2.out with h | h
          · exact h
          · exact absurd h c3
        have HD2 := Lib.hid hd2
        clear c3 hd2
        obtain ⟨y, ry, my, ty⟩ := MV.out.put (intKeys (by kernel_rfl)) (t := 202) (e := 3) (by kernel_rfl) (by unfold maxLen; omega) u.target HWF.out.2 (.int .i64 (ls + r.harm))
        have hwl : IntKind.i64.wrap (ls + r.harm) = ls + r.harm := IntWalk.i64_in _ (by omega)
        have gey : GE y B S (gained g old k) born fv (.slice (some ⟨b, 0, none⟩) g.us.length uc) bv := GEV.out.kp (Kp.turned ty) (Ne.symm nHS) (fun c hc => (by have := HFVL.out c hc; omega)) (fun c hc => (by have := HEVL.out c hc; omega)) (fun c hc => (by have := HBVL.out c hc; omega))
        have kpy := KPV.out.trans ((Kp.turned ty).imp (Y := fun c => c = w.heap.size) (fun c _ hc => hc)) (fun c hc e => absurd hc (by omega))
        have HMY := Lib.hid my
        have GEY := Lib.hid gey
        have KPY := Lib.hid kpy
        clear my ty gey kpy
        go_wp2_with fail
        go_roundw
        case rel =>
          have hgd : gained g old (k + 1) = gained g old k := by
            unfold gained
            have hn : ∀ o, ¬ (strikes false old g.us u = true ∧ u.does ≠ 2 ∧ u.owner = o) := fun o hh => hh.2.1 HD2.out
            rw [gainK_next hlt HU.out, gainK_next hlt HU.out, if_neg (hn _), if_neg (hn _)]
          refine ⟨k + 1, by go_num, by omega, by rw [hgd]; exact GEY.out, KPY.out, n1 + 1, _, by omega, HMY.out.fn (fun id => ?_) rfl⟩
          rw [lessV_hit hlt HU.out HST.out, HLS.out]
          have hbl : blow false u = r.harm := by
            unfold blow
            rw [if_pos HD2.out, HR.out]
          rw [hbl]
        case measure => simp [intOf]; omega
    · obtain rfl : k = g.us.length := by omega
      obtain ⟨ger, kpr, n1, s1, hn1, hm1⟩ := HX.out
      have hszr := kpr.size
      have lSr : S < wr.heap.size := by omega
      have hS5r : wr.cell? ⟨S, 5, none⟩ = some (.slice ua g.us.length uc) := by rw [ger.blk.cell]; rfl
      have GER := Lib.hid ger
      have KPR := Lib.hid kpr
      have HM1r := Lib.hid hm1
      clear ger kpr hm1 hlt
      go_wp2_with fail
      go_loopw [86] (fun a wx => ∃ k : Nat, a = .int .i64 k ∧ k ≤ g.us.length ∧ (GE wx B S { gained g old g.us.length with us := doneU (fun v => { v with hp := v.hp - lossF false old g.us v.id g.us }) g.us k } born fv (.slice ua g.us.length uc) bv ∧ Kp (fun k => k = S ∨ (Value.slice ua g.us.length uc).ownBlock = some k) w wx ∧ IM wx w.heap.size n1 s1 (lessV false old g.us g.us.length))) (fun a _ => (g.us.length - intOf a).toNat)
      case atStart =>
        refine ⟨0, rfl, by omega, ?_, KPR.out, HM1r.out⟩
        rw [done_zero]
        exact GER.out
      case round =>
        obtain ⟨k, rfl, hk, hY⟩ := hrel
        have HY := Lib.hid hY
        clear hY
        by_cases hlt : k < g.us.length
        · obtain ⟨u, hu⟩ : ∃ u, g.us.getD k zeroU = u := ⟨_, rfl⟩
          have hum : u ∈ g.us := by rw [← hu, getD_lt hlt]; exact List.getElem_mem hlt
          obtain ⟨DU, hDU⟩ : ∃ D, doneU (fun v => { v with hp := v.hp - lossF false old g.us v.id g.us }) g.us k = D := ⟨_, rfl⟩
          have hDl : DU.length = g.us.length := by rw [← hDU]; exact done_length _ _ _
          have hDk : DU.getD k zeroU = u := by rw [← hDU, done_at hlt, hu]
          have hDn : doneU (fun v => { v with hp := v.hp - lossF false old g.us v.id g.us }) g.us (k + 1) = DU.set k { u with hp := u.hp - lossF false old g.us u.id g.us } := by rw [done_next hlt, hDU, hu]
          rw [hDU] at HY
          have geY := HY.out.1
          have kpY := HY.out.2.1
          have mY := HY.out.2.2
          have oY := geY.us
          dsimp only at oY
          rw [hDl] at oY
          obtain ⟨gg, rfl⟩ : ∃ gg, ua = some ⟨gg, 0, none⟩ := by
            rcases oY.2 with ⟨e1, e2⟩ | ⟨g2, c2, cur, e1, -⟩
            · omega
            · cases e1; exact ⟨_, rfl⟩
          have hggw : gg < w.heap.size := HEVL.out gg rfl
          have hsY := kpY.size
          have hggY : gg < wr.heap.size := by omega
          have lSY : S < wr.heap.size := by omega
          have hS5Y : wr.cell? ⟨S, 5, none⟩ = some (.slice (some ⟨gg, 0, none⟩) g.us.length uc) := by rw [geY.blk.cell]; rfl
          have hqs : ∀ j, j < 10 → wr.cell? ⟨gg, k * 10 + j, none⟩ = (cellsE u)[j]? := fun j hj => by
            rw [World.ownsRow.cellAt oY (k * 10 + j) (by omega), cellsAll_get DU k j (by omega) hj, hDk]
          have q0 : wr.cell? ⟨gg, k * 10, none⟩ = some (.int .i64 u.id) := hqs 0 (by decide)
          have q5 : wr.cell? ⟨gg, k * 10 + 5, none⟩ = some (.int .i64 u.hp) := hqs 5 (by decide)
          have hok := HG.out.ok hum
          have hwf : (Lit.int .i64 u.id).wf = true := by
            have h1 := hok.idT
            have h2 := hok.id1
            rw [HOLD.out] at h1
            exact wf_int (by have : topOf false = 200 := rfl; omega)
          obtain ⟨ls, hls⟩ : ∃ x, lossF false old g.us u.id g.us = x := ⟨_, rfl⟩
          have hlk : ∀ x : Cw wr, (Instr.lookup 202 (.map (some w.heap.size)) (.int .i64 u.id) false).run Try.prog x.w = .ok (.int .i64 ls) x.w := fun x => by
            have := (mY.call x.below).get (intKeys (by kernel_rfl)) (t := 202) (e := 3) (by kernel_rfl) (z := .int .i64 0) (by kernel_rfl) u.id hwf
            rw [lessV_get, lossK_all, hls] at this
            exact this
          have hlr := lossK_range false old g.us g.us.length u.id
          rw [lossK_all, hls] at hlr
          have hp1 := hok.hp1
          have hpT := hok.hpT
          have hbd := ruleOf_bd g.new u.kind
          have hw5 : IntKind.i64.wrap (u.hp - ls) = u.hp - ls := IntWalk.i64_in _ (by split at hpT <;> omega)
          rw [hls] at hDn
          have HDk := Lib.hid hDk
          have HDl := Lib.hid hDl
          have HDn := Lib.hid hDn
          have GEY := Lib.hid geY
          have KPY := Lib.hid kpY
          have MY := Lib.hid mY
          have OY := Lib.hid oY
          have hk0 : (0 : Int) ≤ (k : Int) := by omega
          have hkn : (k : Int) < (g.us.length : Int) := by omega
          have f5 : wr.frozen? ⟨gg, k * 10 + 5, none⟩ = false := World.ownsRow.frozenAt oY _
          clear HY hu hum hDU hDl hDk hDn geY kpY mY oY hqs hok hwf hls hlr hp1 hpT hbd hS5r
          haveI := Cw.ne wr
          have hcw := fun (x : Cw wr) => x.cell
          go_upto_region 14 with fail
          refine region_cw_tail 23 (by kernel_rfl) (by kernel_rfl) ?_
          simp only [List.take_succ_cons, List.take_zero, List.drop_succ_cons, List.drop_zero]
          repeat (go_big_quiet_step (fail))
          refine wpQuiet_nil ?_
          intro Y2 hY2
          have p1 := (GEY.out.call hY2).poke rfl (k := k) (by rw [HDl.out]; exact hlt) (j := 5) (by decide) (v := .int .i64 (u.hp - ls)) (u' := { u with hp := u.hp - ls }) (by dsimp only; rw [HDk.out]; rfl)
          dsimp only at p1
          have kp3 := (KPY.out.then_ hY2).andset ⟨gg, k * 10 + 5, none⟩ (.int .i64 (u.hp - ls)) (Or.inr rfl)
          have my3 := (MY.out.call hY2).set (a := ⟨gg, k * 10 + 5, none⟩) (by show w.heap.size ≠ gg; omega) (.int .i64 (u.hp - ls))
          refine list_store1 gg (k * 10 + 5) (.int .i64 (u.hp - ls)) 3 (.tmp 111) (.tmp 109) rfl rfl rfl rfl rfl (by rw [hY2.cell (p := ⟨gg, _, none⟩) hggY, q5]; rfl) (by rw [hY2.frozen (p := ⟨gg, _, none⟩) hggY]; exact f5) rfl (by kernel_rfl) (fun Z => GE Z B S { gained g old g.us.length with us := DU.set k { u with hp := u.hp - ls } } born fv (.slice (some ⟨gg, 0, none⟩) g.us.length uc) bv ∧ Kp (fun k => k = S ∨ (Value.slice (some ⟨gg, 0, none⟩) g.us.length uc).ownBlock = some k) w Z ∧ IM Z w.heap.size n1 s1 (lessV false old g.us g.us.length)) ⟨p1, kp3, my3⟩ ?_
          rintro Z ⟨geZ, kpZ, mZ⟩
          have GZ := Lib.hid geZ
          have KZ := Lib.hid kpZ
          have MZ := Lib.hid mZ
          clear geZ kpZ mZ p1 kp3 my3 hcw hY2 hlk q0 q5 f5 hS5Y
          go_wp2_with fail
          go_roundw
          case rel =>
            refine ⟨k + 1, by go_num, by omega, ?_, KZ.out, MZ.out⟩
            rw [HDn.out]
            exact GZ.out
          case measure => simp [intOf]; omega
        · obtain rfl : k = g.us.length := by omega
          go_wp2_with fail
          go_end0
          have hfin := HY.out.1
          rw [done_all] at hfin
          exact ⟨rfl, hfin, HY.out.2.1⟩
end Go.Proofs.Ytlfljlhppigejaa
