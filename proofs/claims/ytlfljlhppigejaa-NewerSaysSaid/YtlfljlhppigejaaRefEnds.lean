/-
  The walk of the document's Ends. (Printed by gen_refends.py.)
-/
import Derived.Test.YtlfljlhppigejaaRefToil
namespace Go.Proofs.Ytlfljlhppigejaa
open Go.RowKit
attribute [local go_sem] qOne qAt qUp qOneK

theorem Reads.kp {X : Nat → Prop} {w w' : World} {S : Nat} {n : Bool} {us : List U} {ua : Option Addr} {m cu : Nat} (h : Reads w S n us ua m cu) (k : Kp X w w') (hS : ¬ X S) (hr : ∀ b o, ua = some ⟨b, o, none⟩ → b < w.heap.size → ¬ X b) : Reads w' S n us ua m cu :=
  ⟨Nat.lt_of_lt_of_le h.lt k.size, (k.cell S _ h.lt hS).trans h.c0, (k.cell S _ h.lt hS).trans h.c6, fun i hi => let ⟨b, o, h1, h2, h3⟩ := h.row i hi; ⟨b, o, h1, Nat.lt_of_lt_of_le h2 k.size, fun j hj => (k.cell b _ h2 (hr b o h1 h2)).trans (h3 j hj)⟩, h.len, h.few⟩
theorem done_same {f : U → U} {us : List U} {k : Nat} (hk : k < us.length) {u : U} (hu : us.getD k zeroU = u) (e : f u = u) : doneU f us (k + 1) = doneU f us k := by
  have hl : (doneU f us k).length = us.length := done_length f us k
  rw [done_next hk, hu, e]
  refine List.ext_getElem? (fun x => ?_)
  rw [List.getElem?_set]
  by_cases hx : k = x
  · subst hx
    rw [if_pos rfl, if_pos (by omega)]
    have h1 : k < (doneU f us k).length := by omega
    rw [List.getElem?_eq_getElem h1, ← getD_lt h1, done_at hk, hu]
  · rw [if_neg hx]
theorem done_get {f : U → U} {us : List U} {k : Nat} (hk : k < us.length) {u : U} (hu : us.getD k zeroU = u) : (doneU f us k)[k]? = some u := by
  have h1 : k < (doneU f us k).length := by rw [done_length]; exact hk
  rw [List.getElem?_eq_getElem h1, ← getD_lt h1, done_at hk, hu]
/-- wish, of one of a right state. -/
theorem wish_right {g : G} (hg : Right g) (S : Nat) (ua : Option Addr) (m cu : Nat) (w : World) (h : Reads w S g.new g.us ua m cu) {u : U} (hu : u ∈ g.us) :
    Calls Try.prog 156 #[.pointer (some ⟨S, 0, none⟩), .agg #[.int .i64 u.id, .int .i64 u.owner, .int .i64 u.kind, .int .i64 u.x, .int .i64 u.y, .int .i64 u.hp, .int .i64 u.does, .int .i64 u.gx, .int .i64 u.gy, .int .i64 u.target, .int .i64 u.since]] w (RefWishEnd g.new g.us u w) := by
  have ok := hg.ok hu
  refine refwish_any S g.new g.us ua m cu u w h ((onB_iff _ _).1 ok.on) ok.does0 (fun hd => (onB_iff _ _).1 (ok.going hd).1) (fun hd => ?_)
  obtain ⟨k, v, h1, h2, h3⟩ := aim_there hg hu (by have := ok.aim.1 hd; omega)
  exact ⟨k, v, h1, h2, (onB_iff _ _).1 (hg.ok h3).on⟩

set_option maxHeartbeats 25600000 in
set_option maxRecDepth 100000 in
theorem refends_any (B S : Nat) (g : G) (born : List Int) (fv uv bv : Value) (old : List Int) (oa : Option Addr) (no co : Nat) (w : World) (h : GR w B S g born fv uv bv) (hg : Right g) (hol : old.length = no) (hon : no ≤ 1000)
    (hold : Row w.heap.size w oa no (fun k => .int .i64 (old.getD k 0))) (hx1 : ∀ b o, oa = some ⟨b, o, none⟩ → b < w.heap.size → b ≠ S ∧ fv.ownBlock ≠ some b ∧ uv.ownBlock ≠ some b) :
    Calls Try.prog 106 #[.pointer (some ⟨S, 0, none⟩), .slice oa no co] w fun e w' => e = .returned (.tuple #[]) ∧ Below B w w' ∧ ∃ fv' uv', GR w' B S (endF g old) born fv' uv' bv := by
  obtain ⟨fa, fc, rfl⟩ := own_slice h.fr
  obtain ⟨ba, bc, rfl⟩ := own_slice h.bo
  obtain ⟨ua, cu, rfl, hml, hrow, -⟩ := URow.of_ownN h.us
  obtain ⟨m, hm⟩ : ∃ m, g.us.length = m := ⟨_, rfl⟩
  have hfew := hg.few
  rw [hm] at h hml hfew hx1
  have hm0 : (0 : Int) ≤ (m : Int) := by omega
  obtain ⟨lS, cS, -⟩ := id h.blk
  have c0 : w.cell? ⟨S, 0, none⟩ = some (.bool g.new) := cS 0
  have c1 : w.cell? ⟨S, 1, none⟩ = some (.int .i64 g.tick) := cS 1
  have c2 : w.cell? ⟨S, 2, none⟩ = some (.int .i64 g.g0) := cS 2
  have c3 : w.cell? ⟨S, 3, none⟩ = some (.int .i64 g.g1) := cS 3
  have c4 : w.cell? ⟨S, 4, none⟩ = some (.int .i64 g.next) := cS 4
  have c5 : w.cell? ⟨S, 5, none⟩ = some (.slice fa g.free.length fc) := cS 5
  have c6 : w.cell? ⟨S, 6, none⟩ = some (.slice ua m cu) := cS 6
  have c7 : w.cell? ⟨S, 7, none⟩ = some (.slice ba born.length bc) := cS 7
  obtain ⟨fv, hfv⟩ : ∃ v, Value.slice fa g.free.length fc = v := ⟨_, rfl⟩
  obtain ⟨bv, hbv⟩ : ∃ v, Value.slice ba born.length bc = v := ⟨_, rfl⟩
  have HBS := Lib.hid h.base
  have HROW := Lib.hid hrow
  have HH := Lib.hid h
  have HG := Lib.hid hg
  have HM := Lib.hid hm
  have HOLD := Lib.hid hold
  have HOL := Lib.hid hol
  have HX1 := Lib.hid hx1
  rw [hfv] at HX1
  have HFV := Lib.hid hfv
  have HBV := Lib.hid hbv
  rw [hfv, hbv] at HH
  clear hfv hbv
  clear h hg hm hold hol hx1 cS hrow
  go_enter Try.func106, Try.ntmps106
  go_upto_region 2 with fail
  try rw [HFV.out, HBV.out]
  refine gen_world (fun V => Below w.heap.size w V ∧ Blk V w.heap.size #[.slice oa no co] ∧ Blk V (w.heap.size + 1) (gameC g fv (.slice ua m cu) bv)) ⟨((Below.refl _ _).alloc (Nat.le_refl _) _).alloc (by simp) _, (Blk.new w _ _).alloc _, by
    have := Blk.new (w.alloc (.cells #[.slice oa no co] 87)) (gameC g fv (.slice ua m cu) bv) 165
    rw [World.size_alloc] at this
    exact this⟩ ?_
  rintro V ⟨hbV, k0, k1⟩
  obtain ⟨P0, hP0⟩ : ∃ n, w.heap.size = n := ⟨_, rfl⟩
  obtain ⟨P1, hP1⟩ : ∃ n, w.heap.size + 1 = n := ⟨_, rfl⟩
  try rw [hP1]
  rw [hP1] at k1
  try rw [hP0]
  rw [hP0] at k0
  have hP01 : P0 + 1 = P1 := by omega
  have hsV := hbV.size
  obtain ⟨i1, hj0, hj1, hj2, hj3⟩ := info_parts infoUnit
  have hru := HROW.out.below hbV
  obtain ⟨v2, w2, r2, own2, hb2, -⟩ := run_copy_of (P := Try.prog) V 63 63 130 i1 _ 11 88 Try.underlying63 hj0 hj1 hj2 hj3 rfl (by omega) ua m cu (cellsAllN g.us) (by rw [cellsAllN_length, HM.out]) (fun h0 => (by
    obtain ⟨b, o, ha, hbB, -⟩ := hru 0 (by have := HM.out; omega)
    refine ⟨b, o, ha, fun j hj => ?_⟩
    obtain ⟨b', o', ha', hbB', hc⟩ := hru (j / 11) (by have := HM.out; omega)
    rw [ha] at ha'
    cases ha'
    have h3 := hc (j % 11) (by show j % 11 < 11; omega)
    have h4 := cellsAllN_get g.us (j / 11) (j % 11) (by have := HM.out; omega) (by omega)
    rw [show j / 11 * 11 + j % 11 = j from by omega] at h4
    rw [h4, show o + j = o + j / 11 * szOf true + j % 11 from by show _ = o + j / 11 * 11 + j % 11; omega]
    exact h3)) (cellsAllN_one g.us) (by unfold maxLen; omega) (by omega)
  obtain ⟨ua2, cu2, rfl⟩ := own_slice own2
  have k12 := k1.call hb2
  have c6V : V.cell? ⟨S, 6, none⟩ = some (.slice ua m cu) := (hbV.cell (p := ⟨S, _, none⟩) lS).trans c6
  have lSV : S < V.heap.size := by omega
  obtain ⟨lP1, cP1, fP1⟩ := id k12
  have c6P : w2.cell? ⟨P1, 6, none⟩ = some (.slice ua m cu) := cP1 6
  have f6P := fP1 6
  have hWAS : Reads (w2.setCell ⟨P1, 6, none⟩ (.slice ua2 m cu2)) P1 g.new g.us ua2 m cu2 := by
    have hk := k12.store (i := 6) (.slice ua2 m cu2) (by show 6 < (gameC g fv (.slice ua m cu) bv).size; simp [gameC])
    have ho := own_kp own2 (Kp.setCell w2 ⟨P1, 6, none⟩ (.slice ua2 m cu2)) (fun b hb e => by have h1 := (World.ownsRow.lt own2 b hb).1; have h2 := k1.lt; have h3 : b = P1 := e; omega)
    have hm' := HM.out
    subst hm'
    obtain ⟨a, c, e, -, h2, -⟩ := URow.of_ownN ho
    cases e
    exact ⟨hk.lt, hk.cell 0, hk.cell 6, h2, rfl, by omega⟩
  have hK0 := (k0.call hb2).other (T := P1) (i := 6) (v := .slice ua2 m cu2) (by omega)
  have hBW : Below w.heap.size w (w2.setCell ⟨P1, 6, none⟩ (.slice ua2 m cu2)) := (hbV.trans (hb2.mono (by omega))).setCell (by show w.heap.size ≤ P1; omega) _
  have hB2 : ∀ b o, ua2 = some ⟨b, o, none⟩ → w.heap.size ≤ b := fun b o e => by
    have h1 := (World.ownsRow.lt own2 b (by rw [e]; rfl)).1
    omega
  have HWAS := Lib.hid hWAS
  have HK0 := Lib.hid hK0
  have HBW := Lib.hid hBW
  have HB2 := Lib.hid hB2
  have HP1 := Lib.hid hP1
  have HP0 := Lib.hid hP0
  clear hWAS hK0 hBW hB2 k12 cP1 fP1 own2 hb2 k0 k1 hru hj0 hj1 hj2 hj3 hbV c0 c1 c2 c3 c4 c5 c6 c7 hP1
  go_upto_region 4 with (at_builtin; refine list_run_append (by rfl) _ _ _ _ (by rfl) (by rfl) (by rfl) (by rfl) r2 ?_)
  refine gen_world (fun Z => Below w.heap.size w Z ∧ Blk Z P0 #[.slice oa no co] ∧ Reads Z P1 g.new g.us ua2 m cu2) ⟨HBW.out, HK0.out, HWAS.out⟩ ?_
  rintro W ⟨hbW, kW0, hRW⟩
  clear r2 c6V lSV lP1 c6P f6P HBW HK0 HWAS hsV
  have hGW := HH.out.call hbW
  have HGW := Lib.hid hGW
  have HBW := Lib.hid hbW
  have HK0 := Lib.hid kW0
  have HRW := Lib.hid hRW
  have HUL := Lib.hid (fun b hb => World.ownsRow.lt HH.out.us b hb : ∀ b, (Value.slice ua m cu).ownBlock = some b → B ≤ b ∧ b < w.heap.size)
  have hp0 := HP0.out
  have HIS : Hid (∀ V, Kp (fun c => (Value.slice ua m cu).ownBlock = some c) W V → ∀ id, Calls Try.prog 155 #[.int .i64 id, .pointer (some ⟨P0, 0, none⟩)] V fun e w' => e = .returned (.bool (old.contains id)) ∧ V = w') := Lib.hid (fun V hV id => by
    have hs := hV.size
    have hs2 := hbW.size
    refine refis_any P0 old oa no co id V ?_ HOL.out hon ?_
    · exact (hV.cell P0 0 kW0.lt (fun e => by have := (HUL.out P0 e).2; omega)).trans (kW0.cell 0)
    · refine ((HOLD.out.below hbW).kpx hV hs2 (fun b o e hb hc => (HX1.out b o e hb).2.2 hc)).mono (by omega))
  have HWR : Hid (∀ V, Kp (fun c => (Value.slice ua m cu).ownBlock = some c) W V → Reads V P1 g.new g.us ua2 m cu2) := Lib.hid (fun V hV => hRW.kp hV (fun e => by have := (HUL.out P1 e).2; omega) (fun b o e _ hc => by have h1 := (HUL.out b hc).2; have h2 := HB2.out b o e; omega))
  clear hGW hbW kW0 hRW
  go_wp2_with fail
  go_loopw [6, 7, 8, 9, 10, 11, 12, 13, 14, 15, 16, 17] (fun iv _ _ _ _ _ _ _ _ _ _ _ wr => ∃ k : Nat, iv = .int .i64 k ∧ k ≤ m ∧ (GR wr B S { g with us := doneU (moveF g.new old g.us) g.us k } born fv (.slice ua m cu) bv ∧ Kp (fun c => (Value.slice ua m cu).ownBlock = some c) W wr)) (fun iv _ _ _ _ _ _ _ _ _ _ _ _ => (m - intOf iv).toNat)
  case atStart => exact ⟨0, rfl, by omega, by rw [done_zero]; exact HGW.out, Kp.refl _ _⟩
  case round =>
    obtain ⟨k, rfl, hk, gr, kr⟩ := hrel
    have hki : (0 : Int) ≤ (k : Int) := by omega
    have hRr := HWR.out wr kr
    have c6 := hRr.c6
    have lPr := hRr.lt
    have GRR := Lib.hid gr
    have KRR := Lib.hid kr
    by_cases hlt : k < m
    · have hkl : (k : Int) < (m : Int) := by omega
      have hlu : k < g.us.length := by have := HM.out; omega
      obtain ⟨u, hu⟩ : ∃ u, g.us.getD k zeroU = u := ⟨_, rfl⟩
      have hum : u ∈ g.us := by rw [← hu, getD_lt hlu]; exact List.getElem_mem _
      obtain ⟨b2, o2, rfl, hbB, q0, q1, q2, q3, q4, q5, q6, q7, q8, q9, q10⟩ := hRr.row.getN k hlu u hu
      have HU := Lib.hid hu
      have HLU := Lib.hid hlu
      have HUM := Lib.hid hum
      have HSKIP : Hid (moveF g.new old g.us u = u → ∀ V, Below wr.heap.size wr V → (GR V B S { g with us := doneU (moveF g.new old g.us) g.us (k + 1) } born fv (.slice ua m cu) bv ∧ Kp (fun c => (Value.slice ua m cu).ownBlock = some c) W V)) := Lib.hid (fun e V hV => by
        rw [done_same HLU.out HU.out e]
        exact ⟨GRR.out.call hV, KRR.out.then_ hV⟩)
      have hWISH := wish_right HG.out P1 (some ⟨b2, o2, none⟩) m cu2 wr hRr hum
      have HWISH := Lib.hid hWISH
      clear gr kr hu hlu hum hRr hWISH
      go_wp2_with fail
      refine HWISH.out.mono ?_
      rintro e w1 ⟨⟨x, y, rfl, hxy⟩, hb1⟩
      have HV1 := Lib.hid hb1
      have HXY := Lib.hid hxy
      have hK1 := KRR.out.then_ hb1
      have HK1 := Lib.hid hK1
      have hR1 := HWR.out w1 hK1
      have HST := Lib.hid (stands_any P1 (some ⟨b2, o2, none⟩) m cu2 g.us x y HM.out (by omega) w1 hR1.c6 hR1.row)
      have HI1 := Lib.hid (HIS.out w1 hK1 u.id)
      have c61 := hR1.c6
      have lP1 := hR1.lt
      obtain ⟨b2', o2', ea, hbB1, q0, -⟩ := hR1.row.getN k HLU.out u HU.out
      cases ea
      obtain ⟨WB, hWB⟩ : ∃ v, wishF g.new g.us u = v := ⟨_, rfl⟩
      have HWB := Lib.hid hWB
      obtain ⟨WS, hWS⟩ : ∃ v, (wishF g.new g.us u).isSome = v := ⟨_, rfl⟩
      have HWS := Lib.hid hWS
      obtain ⟨ST, hST⟩ : ∃ v, standsAt g.us x y = v := ⟨_, rfl⟩
      have HSTV := Lib.hid hST
      obtain ⟨TH, hTH⟩ : ∃ v, old.contains u.id = v := ⟨_, rfl⟩
      have HTH := Lib.hid hTH
      rw [hST] at HST
      rw [hTH] at HI1
      rw [hWS]
      clear hb1 hxy hK1 hR1 hWB hWS hST hTH q1 q2 q3 q4 q5 q6 q7 q8 q9 q10 c6
      go_wp2_with fail
      refine HST.out.mono ?_
      rintro e w' ⟨rfl, rfl⟩
      go_wp2_with fail
      refine HI1.out.mono ?_
      rintro e w' ⟨rfl, rfl⟩
      cases WS
      case false =>
        go_wp2_with fail
        go_roundw
        case rel => exact ⟨k + 1, by go_num, by omega, HSKIP.out (move_stay (goer_none (Or.inl (by have h1 := HWS.out; cases h2 : wishF g.new g.us u with | none => rfl | some p => rw [h2] at h1; cases h1)))) _ HV1.out⟩
        case measure => simp [intOf]; omega
      have hwp : wishF g.new g.us u = some (x, y) := by
        have h1 := HWS.out
        cases h2 : wishF g.new g.us u with
        | none => rw [h2] at h1; cases h1
        | some p => rw [HXY.out p h2]
      have HWP := Lib.hid hwp
      clear hwp
      cases ST
      case true =>
        go_wp2_with fail
        go_roundw
        case rel => exact ⟨k + 1, by go_num, by omega, HSKIP.out (by unfold moveF; rw [HWP.out]; dsimp only; rw [if_neg]; rintro ⟨-, h1, -⟩; rw [HSTV.out] at h1; cases h1) _ HV1.out⟩
        case measure => simp [intOf]; omega
      cases TH
      case false =>
        go_wp2_with fail
        go_roundw
        case rel => exact ⟨k + 1, by go_num, by omega, HSKIP.out (move_stay (goer_none (Or.inr HTH.out))) _ HV1.out⟩
        case measure => simp [intOf]; omega
      have hgo : goer g.new old g.us u = some (x, y) := goer_some HWP.out HTH.out
      have HGO := Lib.hid hgo
      clear hgo
      go_wp2_with fail
      obtain ⟨wi, hwi⟩ : ∃ z, w1 = z := ⟨_, rfl⟩
      go_loopw [12, 13, 14, 15, 16, 17] (fun av jv _ _ _ _ wz => ∃ j : Nat, jv = .int .i64 j ∧ j ≤ m ∧ av = .bool (aloneK g.new old g.us k (x, y) j) ∧ Below w1.heap.size w1 wz) (fun _ jv _ _ _ _ _ => (m - intOf jv).toNat)
      case atStart => exact ⟨0, rfl, by omega, by rw [alone_zero], Below.refl _ _⟩
      case round =>
        obtain ⟨j, rfl, hj, rfl, hb⟩ := hrel
        have hji : (0 : Int) ≤ (j : Int) := by omega
        have hKj := HK1.out.then_ hb
        have hRj := HWR.out wr hKj
        have c6 := hRj.c6
        have lPj := hRj.lt
        have HJ := Lib.hid hb
        have HKJ := Lib.hid hKj
        obtain ⟨AL, hAL⟩ : ∃ v, aloneK g.new old g.us k (x, y) j = v := ⟨_, rfl⟩
        have HAL := Lib.hid hAL
        rw [hAL]
        clear hb hKj hAL
        by_cases hjl : j < m
        · have hjm : (j : Int) < (m : Int) := by omega
          have hlj : j < g.us.length := by have := HM.out; omega
          obtain ⟨v, hv⟩ : ∃ v, g.us.getD j zeroU = v := ⟨_, rfl⟩
          have hvm : v ∈ g.us := by rw [← hv, getD_lt hlj]; exact List.getElem_mem _
          obtain ⟨b3, o3, ea, hbBj, q0, q1, q2, q3, q4, q5, q6, q7, q8, q9, q10⟩ := hRj.row.getN j hlj v hv
          cases ea
          have hALN := alone_next (n := g.new) (old := old) (i := k) (p := (x, y)) HLU.out (by rw [HU.out]; exact HGO.out) hlj
          rw [hv, HAL.out] at hALN
          have HALN := Lib.hid hALN
          have HWJ := Lib.hid (wish_right HG.out P1 (some ⟨b2, o2, none⟩) m cu2 wr hRj hvm)
          have HLJ := Lib.hid hlj
          have HV := Lib.hid hv
          clear hALN hRj hvm hlj hv
          go_wp2_with fail
          refine HWJ.out.mono ?_
          rintro e w3 ⟨⟨a, c, rfl, hac⟩, hb3⟩
          have hK3 := HKJ.out.then_ hb3
          have hR3 := HWR.out w3 hK3
          obtain ⟨b3, o3, ea, hbB3, q0, -⟩ := hR3.row.getN j HLJ.out v HV.out
          cases ea
          have c63 := hR3.c6
          have lP3 := hR3.lt
          have HI3 := Lib.hid (HIS.out w3 hK3 v.id)
          have HJ3 := Lib.hid (HJ.out.trans (hb3.mono HJ.out.size))
          have HAC := Lib.hid hac
          obtain ⟨TO, hTO⟩ : ∃ z, (wishF g.new g.us v).isSome = z := ⟨_, rfl⟩
          have HTO := Lib.hid hTO
          rw [hTO]
          obtain ⟨OT, hOT⟩ : ∃ z, old.contains v.id = z := ⟨_, rfl⟩
          have HOT := Lib.hid hOT
          rw [hOT] at HI3
          clear hb3 hK3 hR3 hac hTO hOT q1 q2 q3 q4 q5 q6 q7 q8 q9 q10 c6
          go_wp2_with fail
          refine HI3.out.mono ?_
          rintro e w' ⟨rfl, rfl⟩
          by_cases hjk : j = k
          · have dj : ((j : Int) != (k : Int)) = false := by simp [hjk]
            have HJK := Lib.hid hjk
            clear hjk
            go_wp2_with fail
            go_roundw
            case rel => exact ⟨j + 1, by go_num, by omega, by rw [HALN.out, show decide (j ≠ k) = false from decide_eq_false (fun h => h HJK.out), Bool.false_and, Bool.not_false, Bool.and_true], HJ3.out⟩
            case measure => simp [intOf]; omega
          have dj : ((j : Int) != (k : Int)) = true := by simp; omega
          have HJK := Lib.hid hjk
          clear hjk
          cases TO
          case false =>
            have hgn : ¬ goer g.new old g.us v = some (x, y) := by
              rw [goer_none (Or.inl (by have h1 := HTO.out; cases h2 : wishF g.new g.us v with | none => rfl | some p => rw [h2] at h1; cases h1))]
              exact fun h => by cases h
            have HGN := Lib.hid hgn
            clear hgn
            go_wp2_with fail
            go_roundw
            case rel => exact ⟨j + 1, by go_num, by omega, by rw [HALN.out, show decide (goer g.new old g.us v = some (x, y)) = false from decide_eq_false HGN.out, Bool.and_false, Bool.not_false, Bool.and_true], HJ3.out⟩
            case measure => simp [intOf]; omega
          have hvp : wishF g.new g.us v = some (a, c) := by
            have h1 := HTO.out
            cases h2 : wishF g.new g.us v with
            | none => rw [h2] at h1; cases h1
            | some p => rw [HAC.out p h2]
          have HVP := Lib.hid hvp
          clear hvp
          cases OT
          case false =>
            have hgn : ¬ goer g.new old g.us v = some (x, y) := by
              rw [goer_none (Or.inr HOT.out)]
              exact fun h => by cases h
            have HGN := Lib.hid hgn
            clear hgn
            go_wp2_with fail
            go_roundw
            case rel => exact ⟨j + 1, by go_num, by omega, by rw [HALN.out, show decide (goer g.new old g.us v = some (x, y)) = false from decide_eq_false HGN.out, Bool.and_false, Bool.not_false, Bool.and_true], HJ3.out⟩
            case measure => simp [intOf]; omega
          have HGV := Lib.hid (goer_some (n := g.new) (us := g.us) HVP.out HOT.out)
          by_cases hax : a = x
          case neg =>
            have da : (a == x) = false := by simp [hax]
            have hgn : ¬ goer g.new old g.us v = some (x, y) := by
              rw [HGV.out]
              intro h
              cases h
              exact hax rfl
            have HGN := Lib.hid hgn
            clear hgn hax
            go_wp2_with fail
            go_roundw
            case rel => exact ⟨j + 1, by go_num, by omega, by rw [HALN.out, show decide (goer g.new old g.us v = some (x, y)) = false from decide_eq_false HGN.out, Bool.and_false, Bool.not_false, Bool.and_true], HJ3.out⟩
            case measure => simp [intOf]; omega
          have da : (a == x) = true := by simp [hax]
          have HAX := Lib.hid hax
          clear hax
          by_cases hcy : c = y
          case neg =>
            have dc : (c == y) = false := by simp [hcy]
            have hgn : ¬ goer g.new old g.us v = some (x, y) := by
              rw [HGV.out]
              intro h
              cases h
              exact hcy rfl
            have HGN := Lib.hid hgn
            clear hgn hcy
            go_wp2_with fail
            go_roundw
            case rel => exact ⟨j + 1, by go_num, by omega, by rw [HALN.out, show decide (goer g.new old g.us v = some (x, y)) = false from decide_eq_false HGN.out, Bool.and_false, Bool.not_false, Bool.and_true], HJ3.out⟩
            case measure => simp [intOf]; omega
          have dc : (c == y) = true := by simp [hcy]
          have hgy : goer g.new old g.us v = some (x, y) := by rw [HGV.out, HAX.out, hcy]
          have HGY := Lib.hid hgy
          clear hgy hcy
          go_wp2_with fail
          go_roundw
          case rel => exact ⟨j + 1, by go_num, by omega, by rw [HALN.out, show decide (j ≠ k) = true from decide_eq_true HJK.out, show decide (goer g.new old g.us v = some (x, y)) = true from decide_eq_true HGY.out, Bool.and_self, Bool.not_true, Bool.and_false], HJ3.out⟩
          case measure => simp [intOf]; omega
        · obtain rfl : j = m := by omega
          have hall := alone_all (n := g.new) (old := old) (i := k) (p := (x, y)) HLU.out
          rw [HM.out, HAL.out] at hall
          have HALL := Lib.hid hall
          have hB3 := HV1.out.trans (HJ.out.mono HV1.out.size)
          have HB3 := Lib.hid hB3
          have hK3 := KRR.out.then_ hB3
          have HK3 := Lib.hid hK3
          have hG3 := GRR.out.call hB3
          have HG3 := Lib.hid hG3
          clear hall hB3 hK3
          cases AL
          case false =>
            clear hG3
            go_wp2_with fail
            go_roundw
            case rel => exact ⟨k + 1, by go_num, by omega, HSKIP.out (by rw [move_go HGO.out, if_neg (fun h => by have h1 := HALL.out; rw [decide_eq_true h.1] at h1; cases h1)]) _ HB3.out⟩
            case measure => simp [intOf]; omega
          have hdl : (doneU (moveF g.new old g.us) g.us k).length = j := by rw [done_length, HM.out]
          obtain ⟨b, c', e, hbB, -⟩ := own_unit hG3.us (i := k) (by show k < (doneU (moveF g.new old g.us) g.us k).length; rw [hdl]; exact hlt)
          have e1 : ua = some ⟨b, 0, none⟩ := by injection e
          subst e1
          clear e c'
          have hbS : b ≠ S := hG3.su b rfl
          have hSb : S ≠ b := fun e => hbS e.symm
          have hda := done_at (f := moveF g.new old g.us) HLU.out
          rw [HU.out] at hda
          obtain ⟨t3, f3⟩ := hG3.there hdl hlt (j := 3) (by decide)
          obtain ⟨t4, f4⟩ := hG3.there hdl hlt (j := 4) (by decide)
          dsimp only at t3 t4
          rw [hda] at t3 t4
          have t3' : wr.cell? ⟨b, k * 11 + 3, none⟩ = some (.int .i64 u.x) := t3
          have t4' : wr.cell? ⟨b, k * 11 + 4, none⟩ = some (.int .i64 u.y) := t4
          have c6S : wr.cell? ⟨S, 6, none⟩ = some (.slice (some ⟨b, 0, none⟩) j cu) := hG3.blk.cell 6
          have lSr := hG3.blk.lt
          have hp1 := hG3.poke hdl hlt (j := 3) (by decide) (v := .int .i64 x) (u' := { u with x := x }) (by dsimp only; rw [hda]; rfl)
          have hdl2 : ((doneU (moveF g.new old g.us) g.us k).set k { u with x := x }).length = j := by rw [List.length_set]; exact hdl
          have hp2 := hp1.1.poke hdl2 hlt (j := 4) (by decide) (v := .int .i64 y) (u' := { u with x := x, y := y }) (by
            dsimp only
            rw [getD_lt (by rw [hdl2]; exact hlt)]
            simp
            rfl)
          have HP2 := Lib.hid hp2.1
          have HKP := Lib.hid (hp1.2.trans hp2.2 (fun _ _ h => h))
          clear t3 t4 hp1 hp2 hG3 hda hdl hdl2
          go_wp2_with fail
          go_roundw
          case rel =>
            refine ⟨k + 1, by go_num, by omega, ?_, HK3.out.trans (HKP.out.imp (fun c _ hc => by rw [hc]; rfl)) (fun _ _ h => h)⟩
            have h1 := HP2.out
            dsimp only at h1
            rw [List.set_set] at h1
            rw [done_next HLU.out, HU.out, move_go HGO.out, if_pos ⟨of_decide_eq_true HALL.out.symm, HSTV.out⟩]
            exact h1
          case measure => simp [intOf]; omega
    · obtain rfl : k = m := by omega
      have hda := done_all (moveF g.new old g.us) g.us
      rw [HM.out] at hda
      obtain ⟨MV, hMV⟩ : ∃ v, g.us.map (moveF g.new old g.us) = v := ⟨_, rfl⟩
      rw [hMV] at hda
      have hml2 : MV.length = k := by rw [← hMV, List.length_map, HM.out]
      rw [hda] at gr
      have HMV := Lib.hid hMV
      have HML := Lib.hid hml2
      have G0 := Lib.hid gr
      have K0 := Lib.hid kr
      clear hda hMV hml2 gr kr hRr
      go_wp2_with fail
      obtain ⟨wo, rfl⟩ : ∃ z, z = wr := ⟨_, rfl⟩
      go_loopw [18, 19, 20] (fun iv _ _ wz => ∃ i : Nat, iv = .int .i64 i ∧ i ≤ k ∧ (GR wz B S { g with us := doneU (arriveF old) MV i } born fv (.slice ua k cu) bv ∧ Kp (fun c => (Value.slice ua k cu).ownBlock = some c) W wz)) (fun iv _ _ _ => (k - intOf iv).toNat)
      case atStart => exact ⟨0, rfl, by omega, by rw [done_zero]; exact G0.out, K0.out⟩
      case round =>
        obtain ⟨i, rfl, hi, gr, kr⟩ := hrel
        have hii : (0 : Int) ≤ (i : Int) := by omega
        have hdl : (doneU (arriveF old) MV i).length = k := by rw [done_length, HML.out]
        have hRr : Reads wr S g.new (doneU (arriveF old) MV i) ua k cu := GR.reads (g := { g with us := doneU (arriveF old) MV i }) gr hdl (by omega)
        have c6 := hRr.c6
        have lSr := hRr.lt
        have GRR := Lib.hid gr
        have KRR := Lib.hid kr
        have HDL := Lib.hid hdl
        clear gr kr
        by_cases hlt : i < k
        · have hil : (i : Int) < (k : Int) := by omega
          have hlm : i < MV.length := by have := HML.out; omega
          obtain ⟨u, hu⟩ : ∃ u, MV.getD i zeroU = u := ⟨_, rfl⟩
          have hda := done_at (f := arriveF old) hlm
          rw [hu] at hda
          obtain ⟨b, o, rfl, hbB, q0, q1, q2, q3, q4, q5, q6, q7, q8, q9, q10⟩ := hRr.row.getN i (by omega) u hda
          have HLMU := Lib.hid (⟨hlm, hu⟩ : i < MV.length ∧ MV.getD i zeroU = u)
          have HGET := Lib.hid (done_get (f := arriveF old) hlm hu)
          have HSKIP : Hid (arriveF old u = u → ∀ V, Below wr.heap.size wr V → (GR V B S { g with us := doneU (arriveF old) MV (i + 1) } born fv (.slice (some ⟨b, o, none⟩) k cu) bv ∧ Kp (fun c => (Value.slice (some ⟨b, o, none⟩) k cu).ownBlock = some c) W V)) := Lib.hid (fun e V hV => by
            rw [done_same HLMU.out.1 HLMU.out.2 e]
            exact ⟨GRR.out.call hV, KRR.out.then_ hV⟩)
          clear hda hlm hu hRr hdl
          go_upto_region 26 with fail
          refine gen_world (fun V => Below wr.heap.size wr V ∧ Blk V wr.heap.size #[.int .i64 u.id, .int .i64 u.owner, .int .i64 u.kind, .int .i64 u.x, .int .i64 u.y, .int .i64 u.hp, .int .i64 u.does, .int .i64 u.gx, .int .i64 u.gy, .int .i64 u.target, .int .i64 u.since]) ⟨(Below.refl _ _).alloc (Nat.le_refl _) _, Blk.new wr _ _⟩ ?_
          rintro w1 ⟨hb1, kU⟩
          obtain ⟨pu, hpu⟩ : ∃ n, wr.heap.size = n := ⟨_, rfl⟩
          rw [hpu] at kU
          try rw [hpu]
          obtain ⟨lU, cU, -⟩ := id kU
          have HB1 := Lib.hid hb1
          have hI := HIS.out w1 (KRR.out.then_ hb1) u.id
          obtain ⟨TH, hTH⟩ : ∃ v, old.contains u.id = v := ⟨_, rfl⟩
          rw [hTH] at hI
          have HTH := Lib.hid hTH
          have HI := Lib.hid hI
          clear hb1 kU hpu hTH hI q0 q1 q2 q3 q4 q5 q6 q7 q8 q9 q10 c6
          go_wp2_with fail
          refine HI.out.mono ?_
          rintro e w' ⟨rfl, rfl⟩
          cases TH
          case false =>
            go_wp2_with fail
            go_roundw
            case rel => exact ⟨i + 1, by go_num, by omega, HSKIP.out (by unfold arriveF; rw [if_neg (fun h => by have h1 := h.1; rw [HTH.out] at h1; cases h1)]) _ HB1.out⟩
            case measure => simp [intOf]; omega
          by_cases h1 : u.does = 1
          case neg =>
            have d1 : (u.does == 1) = false := by simp [h1]
            have H1 := Lib.hid h1
            clear h1
            go_wp2_with fail
            go_roundw
            case rel => exact ⟨i + 1, by go_num, by omega, HSKIP.out (by unfold arriveF; rw [if_neg (fun h => H1.out h.2.1)]) _ HB1.out⟩
            case measure => simp [intOf]; omega
          have d1 : (u.does == 1) = true := by simp [h1]
          have H1 := Lib.hid h1
          clear h1
          by_cases hx : u.x = u.gx
          case neg =>
            have dx : (u.x == u.gx) = false := by simp [hx]
            have HX := Lib.hid hx
            clear hx
            go_wp2_with fail
            go_roundw
            case rel => exact ⟨i + 1, by go_num, by omega, HSKIP.out (by unfold arriveF; rw [if_neg (fun h => HX.out h.2.2.1)]) _ HB1.out⟩
            case measure => simp [intOf]; omega
          have dx : (u.x == u.gx) = true := by simp [hx]
          have HX := Lib.hid hx
          clear hx
          by_cases hy : u.y = u.gy
          case neg =>
            have dy : (u.y == u.gy) = false := by simp [hy]
            have HY := Lib.hid hy
            clear hy
            go_wp2_with fail
            go_roundw
            case rel => exact ⟨i + 1, by go_num, by omega, HSKIP.out (by unfold arriveF; rw [if_neg (fun h => HY.out h.2.2.2)]) _ HB1.out⟩
            case measure => simp [intOf]; omega
          have dy : (u.y == u.gy) = true := by simp [hy]
          have HY := Lib.hid hy
          clear hy
          have HTELL := Lib.hid (reftell_any B S { g with us := doneU (arriveF old) MV i } born _ _ _ i u 0 0 0 0 w1 (GRR.out.call HB1.out) HGET.out)
          go_wp2_with fail
          refine HTELL.out.mono ?_
          rintro e w5 ⟨rfl, g5, k5⟩
          have G5 := Lib.hid g5
          have K5 := Lib.hid k5
          clear g5 k5
          go_wp2_with fail
          go_roundw
          case rel =>
            refine ⟨i + 1, by go_num, by omega, ?_, (KRR.out.then_ HB1.out).trans K5.out (fun _ _ h => h)⟩
            have e : arriveF old u = tellU u 0 0 0 0 := by unfold arriveF; rw [if_pos ⟨HTH.out, H1.out, HX.out, HY.out⟩]
            rw [done_next HLMU.out.1, HLMU.out.2, e]
            exact G5.out
          case measure => simp [intOf]; omega
        · obtain rfl : i = k := by omega
          have hda := done_all (arriveF old) MV
          rw [HML.out] at hda
          have hmm : MV.map (arriveF old) = movesF g.new old g.us := by
            rw [← HMV.out]
            unfold movesF
            rw [List.map_map]
            rfl
          have gE := GRR.out
          rw [hda, hmm] at gE
          have hsz := KRR.out.size
          have hsw := HBW.out.size
          have HTOIL := Lib.hid (reftoil_any B S P0 { g with us := movesF g.new old g.us } born fv _ bv old oa no co wr gE (right_moves HG.out old) (by have := HH.out.blk.lt; omega) ((KRR.out.cell P0 0 HK0.out.lt (fun e => by have := (HUL.out P0 e).2; omega)).trans (HK0.out.cell 0)) (by have := HK0.out.lt; omega) HOL.out hon
            (((HOLD.out.below HBW.out).kpx KRR.out hsw (fun b o e hb hc => (HX1.out b o e hb).2.2 hc)).mono (by omega)) (fun b o e hb => by
              by_cases hn : b < w.heap.size
              · exact ⟨(HX1.out b o e hn).1, (HX1.out b o e hn).2.1⟩
              · exact ⟨fun h => hn (by rw [h]; exact HH.out.blk.lt), fun h => hn (World.ownsRow.lt HH.out.fr b h).2⟩) (fun e => by have := (World.ownsRow.lt HH.out.fr P0 e).2; omega))
          have HBB : Hid (Below B w wr) := Lib.hid ((HBW.out.mono (by have := HBS.out; have := HH.out.blk.lt; omega)).trans (KRR.out.below (fun c hc => (HUL.out c hc).1) (by have := HBS.out; have := HH.out.blk.lt; omega)))
          clear hda hmm gE hRr hdl
          go_wp2_with fail
          refine HTOIL.out.mono ?_
          rintro e w5 ⟨rfl, hb5, fv5, uv5, g5⟩
          have HB5 := Lib.hid hb5
          have HG5 := Lib.hid g5
          clear hb5 g5
          go_wp2_with fail
          go_end0
          rw [end_toil, HBV.out]
          exact ⟨rfl, HBB.out.trans HB5.out, fv5, uv5, HG5.out⟩
end Go.Proofs.Ytlfljlhppigejaa
