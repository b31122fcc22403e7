/-
  The walks of the document's NewerRead and ElderRead. The walk of the document's ReelFault. The walk of the document's ReelRead. The walk of the document's TapeFault. The walk of the document's TapeRead.
-/
import Derived.Test.YtlfljlhppigejaaPackRead
import Derived.Test.YtlfljlhppigejaaPackTop
import Derived.Test.YtlfljlhppigejaaPackRef
import Derived.Test.YtlfljlhppigejaaTapeAll
import Derived.Test.YtlfljlhppigejaaReelAll
import Derived.Test.YtlfljlhppigejaaCmdRow
namespace Go.Proofs.Ytlfljlhppigejaa
open Go.RowKit

theorem newerI_len (st : St) : (newerI st).1.us.length ≤ 20 := by
  unfold newerI
  dsimp only
  rw [unitsI_length]
  have := manyI_range (numsI st 4).2 20 (by omega)
  omega
theorem elderI_len (st : St) : (elderI st).1.free.length ≤ 200 ∧ (elderI st).1.us.length ≤ 20 := by
  unfold elderI
  dsimp only
  rw [unitsI_length, numsI_length]
  have h1 := manyI_range (numsI st 4).2 200 (by omega)
  have h2 := manyI_range (numsI (manyI (numsI st 4).2 200).2 (manyI (numsI st 4).2 200).1.toNat).2 20 (by omega)
  omega

def NewerReadEnd (l : List UInt8) (w : World) (e : Ending) (w' : World) : Prop :=
  (stateF true l ≠ 0 → e = .returned (.tuple #[.agg #[.int .i64 0, .int .i64 0, .int .i64 0, .int .i64 0, .slice none 0 0], .int .i64 (stateF true l : Nat)])) ∧
  (stateF true l = 0 → ∃ ua cu, e = .returned (.tuple #[.agg #[.int .i64 (newerI (openL 78 l)).1.tick, .int .i64 (newerI (openL 78 l)).1.g0, .int .i64 (newerI (openL 78 l)).1.g1, .int .i64 (newerI (openL 78 l)).1.next, .slice ua (newerI (openL 78 l)).1.us.length cu], .int .i64 0]) ∧
    URow true w'.heap.size w' ua (newerI (openL 78 l)).1.us) ∧ Below w.heap.size w w'

set_option maxHeartbeats 6400000 in
set_option maxRecDepth 100000 in
theorem newerread_any (s : ByteArray) (hs : s.size ≤ 900000) (w : World) :
    Calls Try.prog 79 #[.string s] w (NewerReadEnd s.data.toList w) := by
  obtain ⟨l, hl⟩ : ∃ l, s.data.toList = l := ⟨_, rfl⟩
  have hll : l.length ≤ 900000 := by rw [← hl, ← Lib.size_eq]; exact hs
  have HO := Lib.hid (begun_any 78 s hs)
  rw [hl] at HO ⊢
  clear hl
  obtain ⟨W, hW⟩ : ∃ W, w.alloc (.cells #[.int .i64 0, .int .i64 0, .int .i64 0, .int .i64 0, .slice none 0 0] 65) = W := ⟨_, rfl⟩
  have hbW : Below w.heap.size w W := by rw [← hW]; exact (Below.refl _ _).alloc (Nat.le_refl _) _
  have kR : Blk W w.heap.size #[.int .i64 0, .int .i64 0, .int .i64 0, .int .i64 0, .slice none 0 0] := by rw [← hW]; exact Blk.new w _ _
  have hsW := hbW.size
  have lR := kR.lt
  have HW := Lib.hid hbW
  have KR := Lib.hid kR
  clear hbW kR
  go_enter Try.func79, Try.ntmps79
  go_upto_region 1 with fail
  try rw [hW]
  clear hW
  go_wp2_with fail
  refine (HO.out W).mono ?_
  rintro e w1 ⟨S, rfl, hS, bS, b1⟩
  obtain ⟨st, hst⟩ : ∃ st, openL 78 l = st := ⟨_, rfl⟩
  have hstl : st.1.length ≤ 1000000 := by
    rw [← hst]
    unfold openL
    repeat' split
    all_goals (simp; try omega)
  rw [hst] at bS
  have HST := Lib.hid hst
  have BS := Lib.hid bS
  have K1 := Lib.hid (KR.out.call b1)
  have HB1 : Hid (Below w.heap.size w w1) := Lib.hid (HW.out.trans (b1.mono hsW))
  have hs1 := b1.size
  have lS1 := bS.lt
  clear bS b1 hst
  go_wp2_with fail
  refine (newer_ref st S w1 BS.out hstl).mono ?_
  rintro e w2 ⟨ev, rfl, bS2, kp2, oe2⟩
  obtain ⟨r, hr⟩ : ∃ r, newerI st = r := ⟨_, rfl⟩
  have HR := Lib.hid hr
  rw [hr] at bS2 oe2 ⊢
  have hlenU : r.1.us.length ≤ 20 := by rw [← hr]; exact newerI_len st
  have hnew : r.1.new = true := by rw [← hr]; rfl
  have hfree : r.1.free = [] := by rw [← hr]; rfl
  have HBK : Hid (faultOf (backG true r.1) = faultOf r.1) := Lib.hid (fault_back true r.1 hnew (fun _ => hfree))
  obtain ⟨ua, cu, rfl⟩ := own_slice oe2
  have loeB : ∀ b, (Value.slice ua r.1.us.length cu).ownBlock = some b → w1.heap.size ≤ b ∧ b < w2.heap.size := fun b hb => World.ownsRow.lt oe2 b hb
  have OE2 := Lib.hid oe2
  have LOE := Lib.hid loeB
  have HB2 : Hid (Below w.heap.size w w2) := Lib.hid (HB1.out.trans (kp2.below (fun b hb => by omega) (by omega)))
  have hs2 := kp2.size
  have BS2 := Lib.hid bS2
  have K2 := Lib.hid (K1.out.kp kp2 (by omega))
  clear hr kp2 oe2 bS2 loeB hnew hfree
  obtain ⟨V, hV⟩ : ∃ V, w2.alloc (.cells #[.int .i64 r.1.tick, .int .i64 r.1.g0, .int .i64 r.1.g1, .int .i64 r.1.next, .slice ua r.1.us.length cu] 65) = V := ⟨_, rfl⟩
  have hbV : Below w2.heap.size w2 V := by rw [← hV]; exact (Below.refl _ _).alloc (Nat.le_refl _) _
  have kV : Blk V w2.heap.size #[.int .i64 r.1.tick, .int .i64 r.1.g0, .int .i64 r.1.g1, .int .i64 r.1.next, .slice ua r.1.us.length cu] := by rw [← hV]; exact Blk.new w2 _ _
  have hsV := hbV.size
  have lV := kV.lt
  have KV := Lib.hid kV
  have KRV := Lib.hid (K2.out.call hbV)
  have BSV := Lib.hid (BS2.out.call hbV)
  have HBV := Lib.hid (HB2.out.trans (hbV.mono (by omega)))
  have OEV := Lib.hid (own_kp OE2.out (kp_of hbV (fun _ => False)) (fun _ _ x => x))
  clear kV hbV
  go_upto_region 3 with fail
  try rw [hV]
  clear hV
  go_wp2_with fail
  refine (over_ref r.2 S V BSV.out).mono ?_
  rintro e w3 ⟨rfl, rfl⟩
  obtain ⟨f, hf⟩ : ∃ f, endI r.2 = f := ⟨_, rfl⟩
  rw [hf]
  have HF := Lib.hid hf
  obtain ⟨lR3, cR3, fR3⟩ := id KRV.out
  obtain ⟨lV3, cV3, -⟩ := id KV.out
  clear hf
  by_cases h0 : f = 0
  case neg =>
    have HFA : Hid (stateF true l = f) := Lib.hid (by
      have e : endI (startI true (openL (kindB true) l)).2 = f := by
        show endI (newerI (openL 78 l)).2 = f
        rw [HST.out, HR.out, HF.out]
      show _ = _
      unfold stateF
      rw [e, if_pos h0])
    have HF0 := Lib.hid h0
    have d1 : ((f : Int) == 0) = false := beq_eq_false_iff_ne.2 (by omega)
    have d1' : (f == 0) = false := beq_eq_false_iff_ne.2 h0
    have d2 : decide ((0 : Int) < (f : Int)) = true := decide_eq_true (by omega)
    have d2' : decide (0 < f) = true := decide_eq_true (by omega)
    clear h0
    go_wp2_with fail
    refine bodyPost_ret (v := .tuple #[.agg #[.int .i64 0, .int .i64 0, .int .i64 0, .int .i64 0, .slice none 0 0], .int .i64 f]) (ret_cell2 Try.results79 rfl rfl (KRV.out.store5 rfl (.int .i64 0) (.int .i64 0) (.int .i64 0) (.int .i64 0) (.slice none 0 0)) Try.underlying65 rfl infoNewer) rfl ?_
    refine ⟨fun _ => by rw [HFA.out], fun h => absurd (HFA.out.symm.trans h) HF0.out, ?_⟩
    iterate 5 (refine Below.setCell ?_ (by simp) _)
    exact HBV.out
  subst h0
  go_wp2_with fail
  refine (ofnewer_any r.1 ua cu (by omega) _ (units_row rfl OEV.out).1).mono ?_
  rintro e w5 ⟨S5, fv5, uv5, rfl, gr5, b5⟩
  have GR5 := Lib.hid gr5
  have B5 := Lib.hid b5
  have hs5 := b5.size
  clear gr5 b5
  go_wp2_with fail
  refine (fault_game GR5.out (by first | (simp [backG]; done) | (simp [backG]; omega)) (by first | (simp [backG]; done) | (simp [backG]; omega))).mono ?_
  rintro e w4 ⟨rfl, b4'⟩
  rw [HBK.out]
  obtain ⟨f, hf⟩ : ∃ f, faultOf r.1 = f := ⟨_, rfl⟩
  rw [hf]
  have HSF : Hid (stateF true l = f) := Lib.hid (by
    have e : endI (startI true (openL (kindB true) l)).2 = 0 := by
      show endI (newerI (openL 78 l)).2 = 0
      rw [HST.out, HR.out, HF.out]
    have e2 : (startI true (openL (kindB true) l)).1 = r.1 := by
      show (newerI (openL 78 l)).1 = r.1
      rw [HST.out, HR.out]
    show stateF true l = f
    unfold stateF
    rw [e, e2, if_neg (by simp), hf])
  have b4 := B5.out.trans (b4'.mono hs5)
  have HB4 := Lib.hid (HBV.out.trans (b4.mono (by omega)))
  have k4 := KRV.out.call b4
  obtain ⟨lR4, cR4, fR4⟩ := id k4
  have kv4 := KV.out.call b4
  obtain ⟨lV4, cV4, -⟩ := id kv4
  have K4 := Lib.hid k4
  have hs4 := b4.size
  have OE4 := Lib.hid (own_kp OEV.out (kp_of b4 (fun _ => False)) (fun _ _ x => x))
  clear b4 b4' k4 kv4 hf cR3 fR3 lR3 cV3 lV3
  by_cases h0 : f = 0
  case neg =>
    have HFA := Lib.hid h0
    have d2 : decide ((0 : Int) < (f : Int)) = true := decide_eq_true (by omega)
    have d2' : decide (0 < f) = true := decide_eq_true (by omega)
    clear h0
    go_wp2_with fail
    refine bodyPost_ret (v := .tuple #[.agg #[.int .i64 0, .int .i64 0, .int .i64 0, .int .i64 0, .slice none 0 0], .int .i64 f]) (ret_cell2 Try.results79 rfl rfl (K4.out.store5 rfl (.int .i64 0) (.int .i64 0) (.int .i64 0) (.int .i64 0) (.slice none 0 0)) Try.underlying65 rfl infoNewer) rfl ?_
    refine ⟨fun _ => by rw [HSF.out], fun h => absurd (HSF.out.symm.trans h) HFA.out, ?_⟩
    iterate 5 (refine Below.setCell ?_ (by simp) _)
    exact HB4.out
  subst h0
  go_wp2_with fail
  refine bodyPost_ret (v := .tuple #[.agg #[.int .i64 r.1.tick, .int .i64 r.1.g0, .int .i64 r.1.g1, .int .i64 r.1.next, .slice ua r.1.us.length cu], .int .i64 0]) (ret_cell2 Try.results79 rfl rfl (K4.out.store5 rfl (.int .i64 r.1.tick) (.int .i64 r.1.g0) (.int .i64 r.1.g1) (.int .i64 r.1.next) (.slice ua r.1.us.length cu)) Try.underlying65 rfl infoNewer) rfl ?_
  have XK := ((((((Kp.refl (fun b => b = w.heap.size) w4).andset ⟨w.heap.size, 0, none⟩ (.int .i64 r.1.tick) rfl).andset ⟨w.heap.size, 1, none⟩ (.int .i64 r.1.g0) rfl).andset ⟨w.heap.size, 2, none⟩ (.int .i64 r.1.g1) rfl).andset ⟨w.heap.size, 3, none⟩ (.int .i64 r.1.next) rfl).andset ⟨w.heap.size, 4, none⟩ (.slice ua r.1.us.length cu) rfl)
  unfold NewerReadEnd
  rw [HST.out, HR.out]
  refine ⟨fun h => absurd HSF.out h, fun _ => ⟨ua, cu, rfl, (units_row rfl (own_kp OE4.out XK (fun b hb e => ?_))).1⟩, ?_⟩
  · have := (LOE.out b hb).1; omega
  · iterate 5 (refine Below.setCell ?_ (by simp) _)
    exact HB4.out

def ElderReadEnd (l : List UInt8) (w : World) (e : Ending) (w' : World) : Prop :=
  (stateF false l ≠ 0 → e = .returned (.tuple #[.agg #[.int .i64 0, .int .i64 0, .int .i64 0, .int .i64 0, .slice none 0 0, .slice none 0 0], .int .i64 (stateF false l : Nat)])) ∧
  (stateF false l = 0 → ∃ fa cf ua cu, e = .returned (.tuple #[.agg #[.int .i64 (elderI (openL 69 l)).1.tick, .int .i64 (elderI (openL 69 l)).1.g0, .int .i64 (elderI (openL 69 l)).1.g1, .int .i64 (elderI (openL 69 l)).1.next, .slice fa (elderI (openL 69 l)).1.free.length cf, .slice ua (elderI (openL 69 l)).1.us.length cu], .int .i64 0]) ∧
    Row w'.heap.size w' fa (elderI (openL 69 l)).1.free.length (fun k => .int .i64 ((elderI (openL 69 l)).1.free.getD k 0)) ∧ URow false w'.heap.size w' ua (elderI (openL 69 l)).1.us) ∧ Below w.heap.size w w'

set_option maxHeartbeats 6400000 in
set_option maxRecDepth 100000 in
theorem elderread_any (s : ByteArray) (hs : s.size ≤ 900000) (w : World) :
    Calls Try.prog 78 #[.string s] w (ElderReadEnd s.data.toList w) := by
  obtain ⟨l, hl⟩ : ∃ l, s.data.toList = l := ⟨_, rfl⟩
  have hll : l.length ≤ 900000 := by rw [← hl, ← Lib.size_eq]; exact hs
  have HO := Lib.hid (begun_any 69 s hs)
  rw [hl] at HO ⊢
  clear hl
  obtain ⟨W, hW⟩ : ∃ W, w.alloc (.cells #[.int .i64 0, .int .i64 0, .int .i64 0, .int .i64 0, .slice none 0 0, .slice none 0 0] 90) = W := ⟨_, rfl⟩
  have hbW : Below w.heap.size w W := by rw [← hW]; exact (Below.refl _ _).alloc (Nat.le_refl _) _
  have kR : Blk W w.heap.size #[.int .i64 0, .int .i64 0, .int .i64 0, .int .i64 0, .slice none 0 0, .slice none 0 0] := by rw [← hW]; exact Blk.new w _ _
  have hsW := hbW.size
  have lR := kR.lt
  have HW := Lib.hid hbW
  have KR := Lib.hid kR
  clear hbW kR
  go_enter Try.func78, Try.ntmps78
  go_upto_region 1 with fail
  try rw [hW]
  clear hW
  go_wp2_with fail
  refine (HO.out W).mono ?_
  rintro e w1 ⟨S, rfl, hS, bS, b1⟩
  obtain ⟨st, hst⟩ : ∃ st, openL 69 l = st := ⟨_, rfl⟩
  have hstl : st.1.length ≤ 1000000 := by
    rw [← hst]
    unfold openL
    repeat' split
    all_goals (simp; try omega)
  rw [hst] at bS
  have HST := Lib.hid hst
  have BS := Lib.hid bS
  have K1 := Lib.hid (KR.out.call b1)
  have HB1 : Hid (Below w.heap.size w w1) := Lib.hid (HW.out.trans (b1.mono hsW))
  have hs1 := b1.size
  have lS1 := bS.lt
  clear bS b1 hst
  go_wp2_with fail
  refine (elder_ref st S w1 BS.out hstl).mono ?_
  rintro e w2 ⟨fv, ev, rfl, bS2, kp2, of2, oe2⟩
  obtain ⟨r, hr⟩ : ∃ r, elderI st = r := ⟨_, rfl⟩
  have HR := Lib.hid hr
  rw [hr] at bS2 of2 oe2 ⊢
  have hlenU : r.1.us.length ≤ 20 := by rw [← hr]; exact (elderI_len st).2
  have hlenF : r.1.free.length ≤ 200 := by rw [← hr]; exact (elderI_len st).1
  have hnew : r.1.new = false := by rw [← hr]; rfl
  have HBK : Hid (faultOf (backG false r.1) = faultOf r.1) := Lib.hid (fault_back false r.1 hnew (fun h => by cases h))
  obtain ⟨fa, cf, rfl⟩ := own_slice of2
  obtain ⟨ua, cu, rfl⟩ := own_slice oe2
  have lofB : ∀ b, (Value.slice fa r.1.free.length cf).ownBlock = some b → w1.heap.size ≤ b ∧ b < w2.heap.size := fun b hb => World.ownsRow.lt of2 b hb
  have loeB : ∀ b, (Value.slice ua r.1.us.length cu).ownBlock = some b → w1.heap.size ≤ b ∧ b < w2.heap.size := fun b hb => World.ownsRow.lt oe2 b hb
  have OF2 := Lib.hid of2
  have OE2 := Lib.hid oe2
  have LOF := Lib.hid lofB
  have LOE := Lib.hid loeB
  have HB2 : Hid (Below w.heap.size w w2) := Lib.hid (HB1.out.trans (kp2.below (fun b hb => by omega) (by omega)))
  have hs2 := kp2.size
  have BS2 := Lib.hid bS2
  have K2 := Lib.hid (K1.out.kp kp2 (by omega))
  clear hr kp2 of2 oe2 bS2 lofB loeB hnew
  obtain ⟨V, hV⟩ : ∃ V, w2.alloc (.cells #[.int .i64 r.1.tick, .int .i64 r.1.g0, .int .i64 r.1.g1, .int .i64 r.1.next, .slice fa r.1.free.length cf, .slice ua r.1.us.length cu] 90) = V := ⟨_, rfl⟩
  have hbV : Below w2.heap.size w2 V := by rw [← hV]; exact (Below.refl _ _).alloc (Nat.le_refl _) _
  have kV : Blk V w2.heap.size #[.int .i64 r.1.tick, .int .i64 r.1.g0, .int .i64 r.1.g1, .int .i64 r.1.next, .slice fa r.1.free.length cf, .slice ua r.1.us.length cu] := by rw [← hV]; exact Blk.new w2 _ _
  have hsV := hbV.size
  have lV := kV.lt
  have KV := Lib.hid kV
  have KRV := Lib.hid (K2.out.call hbV)
  have BSV := Lib.hid (BS2.out.call hbV)
  have HBV := Lib.hid (HB2.out.trans (hbV.mono (by omega)))
  have OFV := Lib.hid (own_kp OF2.out (kp_of hbV (fun _ => False)) (fun _ _ x => x))
  have OEV := Lib.hid (own_kp OE2.out (kp_of hbV (fun _ => False)) (fun _ _ x => x))
  clear kV hbV
  go_upto_region 3 with fail
  try rw [hV]
  clear hV
  go_wp2_with fail
  refine (over_ref r.2 S V BSV.out).mono ?_
  rintro e w3 ⟨rfl, rfl⟩
  obtain ⟨f, hf⟩ : ∃ f, endI r.2 = f := ⟨_, rfl⟩
  rw [hf]
  have HF := Lib.hid hf
  obtain ⟨lR3, cR3, fR3⟩ := id KRV.out
  obtain ⟨lV3, cV3, -⟩ := id KV.out
  clear hf
  by_cases h0 : f = 0
  case neg =>
    have HFA : Hid (stateF false l = f) := Lib.hid (by
      have e : endI (startI false (openL (kindB false) l)).2 = f := by
        show endI (elderI (openL 69 l)).2 = f
        rw [HST.out, HR.out, HF.out]
      show _ = _
      unfold stateF
      rw [e, if_pos h0])
    have HF0 := Lib.hid h0
    have d1 : ((f : Int) == 0) = false := beq_eq_false_iff_ne.2 (by omega)
    have d1' : (f == 0) = false := beq_eq_false_iff_ne.2 h0
    have d2 : decide ((0 : Int) < (f : Int)) = true := decide_eq_true (by omega)
    have d2' : decide (0 < f) = true := decide_eq_true (by omega)
    clear h0
    go_wp2_with fail
    refine bodyPost_ret (v := .tuple #[.agg #[.int .i64 0, .int .i64 0, .int .i64 0, .int .i64 0, .slice none 0 0, .slice none 0 0], .int .i64 f]) (ret_cell2 Try.results78 rfl rfl (KRV.out.store6 rfl (.int .i64 0) (.int .i64 0) (.int .i64 0) (.int .i64 0) (.slice none 0 0) (.slice none 0 0)) Try.underlying90 rfl infoElder) rfl ?_
    refine ⟨fun _ => by rw [HFA.out], fun h => absurd (HFA.out.symm.trans h) HF0.out, ?_⟩
    iterate 6 (refine Below.setCell ?_ (by simp) _)
    exact HBV.out
  subst h0
  go_wp2_with fail
  refine (ofelder_any r.1 fa ua cf cu (by omega) (by omega) _ (ints_row rfl OFV.out) (ents_row rfl OEV.out)).mono ?_
  rintro e w5 ⟨S5, fv5, uv5, rfl, gr5, b5⟩
  have GR5 := Lib.hid gr5
  have B5 := Lib.hid b5
  have hs5 := b5.size
  clear gr5 b5
  go_wp2_with fail
  refine (fault_game GR5.out (by first | (simp [backG]; done) | (simp [backG]; omega)) (by first | (simp [backG]; done) | (simp [backG]; omega))).mono ?_
  rintro e w4 ⟨rfl, b4'⟩
  rw [HBK.out]
  obtain ⟨f, hf⟩ : ∃ f, faultOf r.1 = f := ⟨_, rfl⟩
  rw [hf]
  have HSF : Hid (stateF false l = f) := Lib.hid (by
    have e : endI (startI false (openL (kindB false) l)).2 = 0 := by
      show endI (elderI (openL 69 l)).2 = 0
      rw [HST.out, HR.out, HF.out]
    have e2 : (startI false (openL (kindB false) l)).1 = r.1 := by
      show (elderI (openL 69 l)).1 = r.1
      rw [HST.out, HR.out]
    show stateF false l = f
    unfold stateF
    rw [e, e2, if_neg (by simp), hf])
  have b4 := B5.out.trans (b4'.mono hs5)
  have HB4 := Lib.hid (HBV.out.trans (b4.mono (by omega)))
  have k4 := KRV.out.call b4
  obtain ⟨lR4, cR4, fR4⟩ := id k4
  have kv4 := KV.out.call b4
  obtain ⟨lV4, cV4, -⟩ := id kv4
  have K4 := Lib.hid k4
  have hs4 := b4.size
  have OE4 := Lib.hid (own_kp OEV.out (kp_of b4 (fun _ => False)) (fun _ _ x => x))
  have OF4 := Lib.hid (own_kp OFV.out (kp_of b4 (fun _ => False)) (fun _ _ x => x))
  clear b4 b4' k4 kv4 hf cR3 fR3 lR3 cV3 lV3
  by_cases h0 : f = 0
  case neg =>
    have HFA := Lib.hid h0
    have d2 : decide ((0 : Int) < (f : Int)) = true := decide_eq_true (by omega)
    have d2' : decide (0 < f) = true := decide_eq_true (by omega)
    clear h0
    go_wp2_with fail
    refine bodyPost_ret (v := .tuple #[.agg #[.int .i64 0, .int .i64 0, .int .i64 0, .int .i64 0, .slice none 0 0, .slice none 0 0], .int .i64 f]) (ret_cell2 Try.results78 rfl rfl (K4.out.store6 rfl (.int .i64 0) (.int .i64 0) (.int .i64 0) (.int .i64 0) (.slice none 0 0) (.slice none 0 0)) Try.underlying90 rfl infoElder) rfl ?_
    refine ⟨fun _ => by rw [HSF.out], fun h => absurd (HSF.out.symm.trans h) HFA.out, ?_⟩
    iterate 6 (refine Below.setCell ?_ (by simp) _)
    exact HB4.out
  subst h0
  go_wp2_with fail
  refine bodyPost_ret (v := .tuple #[.agg #[.int .i64 r.1.tick, .int .i64 r.1.g0, .int .i64 r.1.g1, .int .i64 r.1.next, .slice fa r.1.free.length cf, .slice ua r.1.us.length cu], .int .i64 0]) (ret_cell2 Try.results78 rfl rfl (K4.out.store6 rfl (.int .i64 r.1.tick) (.int .i64 r.1.g0) (.int .i64 r.1.g1) (.int .i64 r.1.next) (.slice fa r.1.free.length cf) (.slice ua r.1.us.length cu)) Try.underlying90 rfl infoElder) rfl ?_
  have XK := (((((((Kp.refl (fun b => b = w.heap.size) w4).andset ⟨w.heap.size, 0, none⟩ (.int .i64 r.1.tick) rfl).andset ⟨w.heap.size, 1, none⟩ (.int .i64 r.1.g0) rfl).andset ⟨w.heap.size, 2, none⟩ (.int .i64 r.1.g1) rfl).andset ⟨w.heap.size, 3, none⟩ (.int .i64 r.1.next) rfl).andset ⟨w.heap.size, 4, none⟩ (.slice fa r.1.free.length cf) rfl).andset ⟨w.heap.size, 5, none⟩ (.slice ua r.1.us.length cu) rfl)
  unfold ElderReadEnd
  rw [HST.out, HR.out]
  refine ⟨fun h => absurd HSF.out h, fun _ => ⟨fa, cf, ua, cu, rfl, ints_row rfl (own_kp OF4.out XK (fun b hb e => ?_)), ents_row rfl (own_kp OE4.out XK (fun b hb e => ?_))⟩, ?_⟩
  · have := (LOF.out b hb).1; omega
  · have := (LOE.out b hb).1; omega
  · iterate 6 (refine Below.setCell ?_ (by simp) _)
    exact HB4.out
end Go.Proofs.Ytlfljlhppigejaa
namespace Go.Proofs.Ytlfljlhppigejaa
open Go.RowKit

theorem min7_run {P : Program} {w : World} (ts : Array TypeId) (t : TypeId) (a0 a1 a2 a3 a4 a5 a6 : Int) : (Builtin.min_ ts t #[.int .i64 a0, .int .i64 a1, .int .i64 a2, .int .i64 a3, .int .i64 a4, .int .i64 a5, .int .i64 a6]).run P w = .ok (.int .i64 (mnI (mnI (mnI (mnI (mnI (mnI a0 a1) a2) a3) a4) a5) a6)) w := by
  rfl
attribute [local go_sem] min7_run

set_option maxHeartbeats 6400000 in
set_option maxRecDepth 100000 in
theorem refreelFault_any (g : G) (ua ta : Option Addr) (cu ct : Nat) (hnew : g.new = true) (hfree : g.free = []) (hlu : g.us.length ≤ 100000) (ts : List (List Cm)) (hlen : ts.length ≤ maxLen) (w : World) (hu : URow true w.heap.size w ua g.us) (ht : PRow w.heap.size w ta ts) :
    Calls Try.prog 147 #[.agg #[.int .i64 g.tick, .int .i64 g.g0, .int .i64 g.g1, .int .i64 g.next, .slice ua g.us.length cu, .slice ta ts.length ct]] w fun e w' => e = .returned (.int .i64 (reelFault g ts : Nat)) ∧ Below w.heap.size w w' := by
  have hm : maxLen ≤ 9223372036854775807 := by unfold maxLen; decide
  obtain ⟨W, hW⟩ : ∃ W, w.alloc (.cells #[.int .i64 g.tick, .int .i64 g.g0, .int .i64 g.g1, .int .i64 g.next, .slice ua g.us.length cu, .slice ta ts.length ct] 69) = W := ⟨_, rfl⟩
  have hbW : Below w.heap.size w W := by rw [← hW]; exact (Below.refl _ _).alloc (Nat.le_refl _) _
  have kR : Blk W w.heap.size #[.int .i64 g.tick, .int .i64 g.g0, .int .i64 g.g1, .int .i64 g.next, .slice ua g.us.length cu, .slice ta ts.length ct] := by rw [← hW]; exact Blk.new w _ _
  have hsW := hbW.size
  obtain ⟨lR, cR, -⟩ := id kR
  have HBK : Hid (faultOf (backG true g) = faultOf g) := Lib.hid (fault_back true g hnew (fun _ => hfree))
  have HT := Lib.hid ((ht.below hbW).mono hsW)
  have HU := Lib.hid ((hu.below hbW).mono hsW)
  have HW := Lib.hid hbW
  have KR := Lib.hid kR
  clear hbW kR ht hu
  go_enter Try.func147, Try.ntmps147
  go_upto_region 1 with fail
  try rw [hW]
  clear hW
  go_wp2_with fail
  refine (ofnewer_any g ua cu hlu _ HU.out).mono ?_
  rintro e w5 ⟨S5, fv5, uv5, rfl, gr5, b5⟩
  have GR5 := Lib.hid gr5
  have B5 := Lib.hid b5
  have hs5 := b5.size
  clear gr5 b5
  go_wp2_with fail
  refine (fault_game GR5.out (by first | (simp [backG]; done) | (simp [backG]; omega)) (by first | (simp [backG]; done) | (simp [backG]; omega))).mono ?_
  rintro e w4 ⟨rfl, b4'⟩
  rw [HBK.out]
  have b4 := B5.out.trans (b4'.mono hs5)
  have k4 := KR.out.call b4
  have K4 := Lib.hid k4
  have HB4 := Lib.hid (HW.out.trans (b4.mono hsW))
  have HT4 := Lib.hid ((HT.out.below b4).mono b4.size)
  have hs4 := HB4.out.size
  obtain ⟨l4, c4, -⟩ := id k4
  obtain ⟨f0, hf0⟩ : ∃ x, faultOf g = x := ⟨_, rfl⟩
  rw [hf0]
  have HF0 := Lib.hid hf0
  clear b4 b4' k4 hf0 cR lR
  by_cases h0 : f0 = 0
  case neg =>
    have d2 : decide ((0 : Int) < (f0 : Int)) = true := decide_eq_true (by omega)
    have d2' : decide (0 < f0) = true := decide_eq_true (by omega)
    have HH : Hid (reelFault g ts = f0) := Lib.hid (by show _ = _; unfold reelFault; rw [HF0.out, if_pos h0])
    clear h0
    go_wp2_with fail
    go_ret
    exact ⟨ret1 (nat_int HH.out), HB4.out⟩
  subst h0
  have hgt := ((right_iff g).1 HF0.out).head
  have ht0 : 0 ≤ g.tick ∧ g.tick ≤ 60 := by unfold headBad at hgt; omega
  have hw1 : IntKind.i64.wrap (60 - g.tick) = 60 - g.tick := IntWalk.i64_in _ (by omega)
  have HDEF : Hid (reelFault g ts = if cntFault ts g.tick ≠ 0 then cntFault ts g.tick else if ts.any (fun l => l.any negO) = true then 1 else 0) := Lib.hid (by show _ = _; unfold reelFault; rw [HF0.out, if_neg (by simp)])
  clear hgt
  by_cases hb : 60 - g.tick < (ts.length : Int)
  · have d0 : decide (60 - g.tick < (ts.length : Int)) = true := decide_eq_true hb
    have HH : Hid (reelFault g ts = 2) := Lib.hid (by
      have h2 : cntFault ts g.tick = 2 := by unfold cntFault; rw [if_pos (Or.inl hb)]
      show _ = _
      rw [HDEF.out, h2, if_pos (by simp)])
    clear hb
    go_wp2_with fail
    go_ret
    exact ⟨ret1 (nat_int HH.out), HB4.out⟩
  have d0 : decide (60 - g.tick < (ts.length : Int)) = false := decide_eq_false hb
  have ht60 : ts.length ≤ 60 := by omega
  have HNB := Lib.hid hb
  have hn0 : (0 : Int) ≤ (ts.length : Int) := by omega
  clear hb
  go_wp2_with fail
  go_loopw [4, 5, 6, 7] (fun lo i _ _ wr => ∃ (k : Nat) (L : Int), i = .int .i64 k ∧ k ≤ ts.length ∧ lo = .int .i64 L ∧ ((L < 0 ↔ (ts.take k).any (fun l => l.any negO) = true) ∧ (ts.take k).any (fun l => decide (8 < l.length)) = false ∧ Below w4.heap.size w4 wr)) (fun _ i _ _ _ => (ts.length - intOf i).toNat)
  case atStart => exact ⟨0, 0, rfl, by omega, rfl, by simp, by simp, Below.refl _ _⟩
  case round =>
    obtain ⟨k, L, rfl, hk, rfl, hL, h8, hX⟩ := hrel
    have HX := Lib.hid hX
    have HL := Lib.hid hL
    have H8 := Lib.hid h8
    have hszr := hX.size
    obtain ⟨lr, cr, -⟩ := id (K4.out.call hX)
    clear hX hL h8 c4
    by_cases hlt : k < ts.length
    · obtain ⟨l, hl⟩ : ∃ l, ts.getD k [] = l := ⟨_, rfl⟩
      obtain ⟨b, o, la, cl, hta, hbB, hc, hcr, hll⟩ := (HT4.out.below HX.out).get k hlt l hl
      subst hta
      have hki : (0 : Int) ≤ (k : Int) := by omega
      have hkl : (k : Int) < (ts.length : Int) := by omega
      have hbr : b < wr.heap.size := by omega
      have HCR := Lib.hid hcr
      have HLL := Lib.hid hl
      clear hl hcr
      by_cases hg8 : 8 < l.length
      · have d8 : decide ((8 : Int) < (l.length : Int)) = true := decide_eq_true (by omega)
        have HH : Hid (reelFault g ts = 2) := Lib.hid (by
          have h2 : cntFault ts g.tick = 2 := by
            unfold cntFault
            rw [if_pos (Or.inr ?_)]
            rw [List.any_eq_true]
            refine ⟨l, ?_, by simpa using hg8⟩
            rw [← HLL.out]
            simp [List.getD, hlt]
          show _ = _
          rw [HDEF.out, h2, if_pos (by simp)])
        clear hg8
        go_wp2_with fail
        go_ret
        exact ⟨ret1 (nat_int HH.out), HB4.out.trans (HX.out.mono hs4)⟩
      have d8 : decide ((8 : Int) < (l.length : Int)) = false := decide_eq_false (by omega)
      have HG8 := Lib.hid hg8
      have hl0 : (0 : Int) ≤ (l.length : Int) := by omega
      obtain ⟨wo, rfl⟩ : ∃ x, x = wr := ⟨_, rfl⟩
      clear hg8
      go_wp2_with fail
      clear cr
      go_loopw [4, 6, 7] (fun lo i _ wx => ∃ (j : Nat) (M : Int), i = .int .i64 j ∧ j ≤ l.length ∧ lo = .int .i64 M ∧ ((M < 0 ↔ (L < 0 ∨ (l.take j).any negO = true)) ∧ Below wo.heap.size wo wx)) (fun _ i _ _ => (l.length - intOf i).toNat)
      case atStart => exact ⟨0, L, rfl, by omega, rfl, by simp, Below.refl _ _⟩
      case round =>
        obtain ⟨j, M, rfl, hj, rfl, hM, hY⟩ := hrel
        have HY := Lib.hid hY
        have HM := Lib.hid hM
        have hszy := hY.size
        obtain ⟨ly, cy, -⟩ := id (K4.out.call (HX.out.trans (hY.mono hszr)))
        have hcy := (hY.cell (p := ⟨b, o + k, none⟩) hbr).trans hc
        clear hY hM
        have hby : b < wr.heap.size := by omega
        by_cases hjl : j < l.length
        · obtain ⟨c, hcx⟩ : ∃ c, l.getD j zeroC = c := ⟨_, rfl⟩
          obtain ⟨b2, o2, hla, hbB2, q0, q1, q2, q3, q4, q5⟩ := (HCR.out.below (HY.out.mono hszr)).get j hjl c hcx
          subst hla
          have hbr2 : b2 < wr.heap.size := by omega
          have hji : (0 : Int) ≤ (j : Int) := by omega
          have hjk : (j : Int) < (l.length : Int) := by omega
          have hnx : (l.take (j + 1)).any negO = ((l.take j).any negO || negO c) := by
            rw [takeC_at hjl, hcx]; simp
          have HNX := Lib.hid hnx
          clear hcx hnx
          go_wp2_with fail
          go_roundw
          case rel =>
            refine ⟨j + 1, mnI (mnI (mnI (mnI (mnI (mnI M c.player) c.op) c.id) c.kind) c.x) c.y, by go_num, by omega, rfl, ?_, HY.out.alloc hszy _⟩
            rw [HNX.out, Bool.or_eq_true]
            simp only [mnI_neg]
            rw [HM.out]
            unfold negO
            rw [decide_eq_true_eq]
            simp only [or_assoc]
          case measure => simp [intOf]; omega
        · obtain rfl : j = l.length := by omega
          have hMM := HM.out
          rw [List.take_length] at hMM
          have HMM := Lib.hid hMM
          have hcy2 := hcy
          clear hMM
          go_wp2_with fail
          go_roundw
          case rel =>
            refine ⟨k + 1, M, by go_num, by omega, rfl, ?_, ?_, HX.out.trans (HY.out.mono hszr)⟩
            · rw [takeT_at hlt, HLL.out, List.any_append, Bool.or_eq_true, HMM.out, HL.out]
              simp
            · rw [takeT_at hlt, HLL.out, List.any_append, H8.out]
              simp only [List.any_cons, List.any_nil, Bool.or_false, Bool.false_or, decide_eq_false_iff_not]
              exact HG8.out
          case measure => simp [intOf]; omega
    · obtain rfl : k = ts.length := by omega
      have hLL := HL.out
      have h88 := H8.out
      rw [List.take_length] at hLL h88
      have HC0 : Hid (cntFault ts g.tick = 0) := Lib.hid (by
        show _ = _
        unfold cntFault
        rw [if_neg]
        rintro (h | h)
        · have := HNB.out; omega
        · rw [h88] at h; cases h)
      have HBR := Lib.hid (HB4.out.trans (HX.out.mono hs4))
      by_cases hneg : L < 0
      · have d : decide (L < 0) = true := decide_eq_true hneg
        have HH : Hid (reelFault g ts = 1) := Lib.hid (by show _ = _; rw [HDEF.out, HC0.out, if_neg (by simp), if_pos (hLL.1 hneg)])
        clear hneg hLL h88
        go_wp2_with fail
        go_ret
        exact ⟨ret1 (nat_int HH.out), HBR.out⟩
      · have d : decide (L < 0) = false := decide_eq_false hneg
        have HH : Hid (reelFault g ts = 0) := Lib.hid (by show _ = _; rw [HDEF.out, HC0.out, if_neg (by simp), if_neg (fun h => hneg (hLL.2 h))])
        clear hneg hLL h88
        go_wp2_with fail
        go_ret
        exact ⟨ret1 (nat_int HH.out), HBR.out⟩
end Go.Proofs.Ytlfljlhppigejaa
namespace Go.Proofs.Ytlfljlhppigejaa
open Go.RowKit

def ReelReadEnd (l : List UInt8) (w : World) (e : Ending) (w' : World) : Prop :=
  (tapeF true l ≠ 0 → e = .returned (.tuple #[.agg #[.int .i64 0, .int .i64 0, .int .i64 0, .int .i64 0, .slice none 0 0, .slice none 0 0], .int .i64 (tapeF true l : Nat)])) ∧
  (tapeF true l = 0 → ∃ ua cu ta ct, e = .returned (.tuple #[.agg #[.int .i64 (tapeI true (openL 82 l)).1.tick, .int .i64 (tapeI true (openL 82 l)).1.g0, .int .i64 (tapeI true (openL 82 l)).1.g1, .int .i64 (tapeI true (openL 82 l)).1.next, .slice ua (tapeI true (openL 82 l)).1.us.length cu, .slice ta (tapeI true (openL 82 l)).2.1.length ct], .int .i64 0]) ∧
    URow true w'.heap.size w' ua (tapeI true (openL 82 l)).1.us ∧ PRow w'.heap.size w' ta (tapeI true (openL 82 l)).2.1) ∧ Below w.heap.size w w'

set_option maxHeartbeats 12800000 in
set_option maxRecDepth 100000 in
theorem reelread_any (s : ByteArray) (hs : s.size ≤ 900000) (w : World) :
    Calls Try.prog 83 #[.string s] w (ReelReadEnd s.data.toList w) := by
  obtain ⟨l, hl⟩ : ∃ l, s.data.toList = l := ⟨_, rfl⟩
  have hll : l.length ≤ 900000 := by rw [← hl, ← Lib.size_eq]; exact hs
  have HO := Lib.hid (begun_any 82 s hs)
  rw [hl] at HO ⊢
  clear hl
  obtain ⟨W, hW⟩ : ∃ W, w.alloc (.cells #[.int .i64 0, .int .i64 0, .int .i64 0, .int .i64 0, .slice none 0 0, .slice none 0 0] 69) = W := ⟨_, rfl⟩
  have hbW : Below w.heap.size w W := by rw [← hW]; exact (Below.refl _ _).alloc (Nat.le_refl _) _
  have kR : Blk W w.heap.size #[.int .i64 0, .int .i64 0, .int .i64 0, .int .i64 0, .slice none 0 0, .slice none 0 0] := by rw [← hW]; exact Blk.new w _ _
  have hsW := hbW.size
  have lR := kR.lt
  have HW := Lib.hid hbW
  have KR := Lib.hid kR
  clear hbW kR
  go_enter Try.func83, Try.ntmps83
  go_upto_region 1 with fail
  try rw [hW]
  clear hW
  go_wp2_with fail
  refine (HO.out W).mono ?_
  rintro e w1 ⟨S, rfl, hS, bS, b1⟩
  obtain ⟨st, hst⟩ : ∃ st, openL 82 l = st := ⟨_, rfl⟩
  have hstl : st.1.length ≤ 1000000 := by
    rw [← hst]
    unfold openL
    repeat' split
    all_goals (simp; try omega)
  rw [hst] at bS
  have HST := Lib.hid hst
  have BS := Lib.hid bS
  have K1 := Lib.hid (KR.out.call b1)
  have HB1 : Hid (Below w.heap.size w w1) := Lib.hid (HW.out.trans (b1.mono hsW))
  have hs1 := b1.size
  have lS1 := bS.lt
  clear bS b1 hst
  go_wp2_with fail
  refine (newer_ref st S w1 BS.out hstl).mono ?_
  rintro e w2 ⟨ev, rfl, bS2, kp2, oe2⟩
  obtain ⟨r, hr⟩ : ∃ r, newerI st = r := ⟨_, rfl⟩
  have HR := Lib.hid hr
  rw [hr] at bS2 oe2 ⊢
  have hrl : r.2.1.length ≤ 1000000 := by rw [← hr]; exact Nat.le_trans (startI_shrinks true st) hstl
  have hnew : r.1.new = true := by rw [← hr]; rfl
  have HNEW := Lib.hid hnew
  have hfree : r.1.free = [] := by rw [← hr]; rfl
  have HFREE := Lib.hid hfree
  have hlenU : r.1.us.length ≤ 20 := by rw [← hr]; exact newerI_len st
  obtain ⟨ua, cu, rfl⟩ := own_slice oe2
  have OE2 := Lib.hid oe2
  have LOE := Lib.hid (fun b hb => World.ownsRow.lt oe2 b hb : ∀ b, (Value.slice ua r.1.us.length cu).ownBlock = some b → w1.heap.size ≤ b ∧ b < w2.heap.size)
  have HB2 : Hid (Below w.heap.size w w2) := Lib.hid (HB1.out.trans (kp2.below (fun b hb => by omega) (by omega)))
  have hs2 := kp2.size
  have BS2 := Lib.hid bS2
  have K2 := Lib.hid (K1.out.kp kp2 (by omega))
  clear hr kp2 oe2 bS2 hnew hfree
  go_upto_region 3 with fail
  obtain ⟨V, hV⟩ : ∃ V, w2.alloc (.cells #[.int .i64 r.1.tick, .int .i64 r.1.g0, .int .i64 r.1.g1, .int .i64 r.1.next, .slice ua r.1.us.length cu, .slice none 0 0] 69) = V := ⟨_, rfl⟩
  have hbV : Below w2.heap.size w2 V := by rw [← hV]; exact (Below.refl _ _).alloc (Nat.le_refl _) _
  have kV : Blk V w2.heap.size #[.int .i64 r.1.tick, .int .i64 r.1.g0, .int .i64 r.1.g1, .int .i64 r.1.next, .slice ua r.1.us.length cu, .slice none 0 0] := by rw [← hV]; exact Blk.new w2 _ _
  rw [hV]
  clear hV
  have hsV := hbV.size
  have lV := kV.lt
  have lS2 := BS2.out.lt
  have KV := Lib.hid kV
  have KRV := Lib.hid (K2.out.call hbV)
  have BSV := Lib.hid (BS2.out.call hbV)
  have HBV := Lib.hid (HB2.out.trans (hbV.mono (by omega)))
  have OEV := Lib.hid (own_kp OE2.out (kp_of hbV (fun _ => False)) (fun _ _ x => x))
  clear kV hbV
  go_wp2_with fail
  refine (upto_ref r.2 60 S V BSV.out hrl).mono ?_
  rintro e w3 ⟨rfl, bS3, kp3⟩
  have hrg := manyI_range r.2 60 (by omega)
  obtain ⟨nI, hnI⟩ : ∃ x, (manyI r.2 60).1 = x := ⟨_, rfl⟩
  obtain ⟨s3, hs3'⟩ : ∃ x, (manyI r.2 60).2 = x := ⟨_, rfl⟩
  have hl3 : s3.1.length ≤ 1000000 := by rw [← hs3']; exact Nat.le_trans (manyI_shrinks r.2 60) hrl
  rw [hnI] at hrg ⊢
  rw [hs3'] at bS3
  obtain ⟨n, rfl⟩ := Int.eq_ofNat_of_zero_le hrg.1
  have hn60 : n ≤ 60 := by omega
  have HN := Lib.hid (show (manyI r.2 60).1 = (n : Int) ∧ (manyI r.2 60).2 = s3 from ⟨hnI, hs3'⟩)
  have BS3 := Lib.hid bS3
  have K3 := Lib.hid (KV.out.kp kp3 (by omega))
  have KP3 := Lib.hid (kp3.imp (fun _ _ h => Or.inl h) : Kp (fun b => b = S ∨ b = w2.heap.size) V w3)
  have hsz3 := kp3.size
  clear bS3 kp3 hnI hs3' hrg
  go_wp2_with fail
  go_loopw [6, 7, 8, 9, 10] (fun i _ _ _ _ wr => ∃ m k : Nat, i = .int .i64 m ∧ m + k = n ∧ (Blk wr S (rnC (ticksI true s3 k).2) ∧ (∃ tv, Blk wr w2.heap.size #[.int .i64 r.1.tick, .int .i64 r.1.g0, .int .i64 r.1.g1, .int .i64 r.1.next, .slice ua r.1.us.length cu, tv] ∧ TOwn 66 73 6 cellsO V.heap.size wr tv (ticksI true s3 k).1) ∧ Kp (fun b => b = S ∨ b = w2.heap.size) V wr)) (fun i _ _ _ _ _ => (intOf i).toNat)
  case atStart => exact ⟨n, 0, rfl, by omega, BS3.out, ⟨_, K3.out, TOwn.nil _ _ _ _ _ _⟩, KP3.out⟩
  case round =>
    obtain ⟨m, k, rfl, hmk, bS, ⟨tv, bK, town⟩, kr⟩ := hrel
    have hszr := kr.size
    by_cases hm0 : m = 0
    case neg =>
      have d1 : decide ((0 : Int) < (m : Int)) = true := decide_eq_true (by omega)
      have d1' : decide (0 < m) = true := decide_eq_true (by omega)
      have hw1 : IntKind.i64.wrap ((m : Int) - 1) = (m : Int) - 1 := IntWalk.i64_in _ (by omega)
      have HM0 : 0 < m := by omega
      obtain ⟨wo, rfl⟩ : ∃ x, x = wr := ⟨_, rfl⟩
      have hlk : (ticksI true s3 k).2.1.length ≤ 1000000 := Nat.le_trans (ticksI_shrinks true s3 k) hl3
      have lSr := bS.lt
      have lKr := bK.lt
      have BS := Lib.hid bS
      have BK := Lib.hid bK
      have TOWN := Lib.hid town
      have KR := Lib.hid kr
      clear bS bK town kr hm0
      go_wp2_with fail
      refine (upto_ref (ticksI true s3 k).2 8 S _ BS.out hlk).mono ?_
      rintro e w4 ⟨rfl, bS4, kp4⟩
      have hrg := manyI_range (ticksI true s3 k).2 8 (by omega)
      obtain ⟨mI, hmI⟩ : ∃ x, (manyI (ticksI true s3 k).2 8).1 = x := ⟨_, rfl⟩
      obtain ⟨s4, hs4'⟩ : ∃ x, (manyI (ticksI true s3 k).2 8).2 = x := ⟨_, rfl⟩
      have hl4 : s4.1.length ≤ 1000000 := by rw [← hs4']; exact Nat.le_trans (manyI_shrinks _ 8) hlk
      rw [hmI] at hrg ⊢
      rw [hs4'] at bS4
      obtain ⟨N8, rfl⟩ := Int.eq_ofNat_of_zero_le hrg.1
      have hm8 : N8 ≤ 8 := by omega
      have HM := Lib.hid (show (manyI (ticksI true s3 k).2 8).1 = (N8 : Int) ∧ (manyI (ticksI true s3 k).2 8).2 = s4 from ⟨hmI, hs4'⟩)
      have BS4 := Lib.hid bS4
      have K4 := Lib.hid (BK.out.kp kp4 (by omega))
      have T4 := Lib.hid (TOWN.out.kp kp4 (fun b hb _ e => by omega))
      have KP4 := Lib.hid (KR.out.trans kp4 (fun _ _ h => Or.inl h))
      have hsz4 := kp4.size
      clear bS4 kp4 hmI hs4' hrg
      go_wp2_with fail
      go_loopw [7, 8, 9, 10] (fun lv i _ _ wx => ∃ m j : Nat, i = .int .i64 m ∧ m + j = N8 ∧ (Blk wx S (rnC (cmsI true s4 j).2) ∧ wx.ownsRow w4.heap.size 73 6 lv j (cellsAllO (cmsI true s4 j).1) ∧ Kp (fun b => b = S) w4 wx)) (fun _ i _ _ _ => (intOf i).toNat)
      case atStart => exact ⟨N8, 0, rfl, by omega, BS4.out, World.ownsRow_nil _ _ _ _, Kp.refl _ _⟩
      case round =>
        obtain ⟨m2, j, rfl, hmj, bS, own, kr⟩ := hrel
        have hszr := kr.size
        obtain ⟨lva, lvc, hlv⟩ := own_slice own
        subst hlv
        by_cases hm0 : m2 = 0
        case neg =>
          have e1 : decide ((0 : Int) < (m2 : Int)) = true := decide_eq_true (by omega)
          have e1' : decide (0 < m2) = true := decide_eq_true (by omega)
          have hw2 : IntKind.i64.wrap ((m2 : Int) - 1) = (m2 : Int) - 1 := IntWalk.i64_in _ (by omega)
          have HM2 : 0 < m2 := by omega
          obtain ⟨wp, rfl⟩ : ∃ x, x = wr := ⟨_, rfl⟩
          obtain ⟨V1, hV1⟩ : ∃ V, wp.alloc (.cells #[.int .i64 0, .int .i64 0, .int .i64 0, .int .i64 0, .int .i64 0, .int .i64 0] 36) = V := ⟨_, rfl⟩
          have hb1 : Below wp.heap.size wp V1 := by rw [← hV1]; exact (Below.refl _ _).alloc (Nat.le_refl _) _
          have kE : Blk V1 wp.heap.size #[.int .i64 0, .int .i64 0, .int .i64 0, .int .i64 0, .int .i64 0, .int .i64 0] := by rw [← hV1]; exact Blk.new wp _ _
          have hV1s : V1.heap.size = wp.heap.size + 1 := by rw [← hV1]; simp
          have hSr := bS.lt
          have BSJ := Lib.hid (bS.call hb1)
          have KE := Lib.hid kE
          have OWNJ := Lib.hid (own_kp own (kp_of hb1 (fun _ => False)) (fun _ _ x => x))
          have KRJ := Lib.hid (kr.then_ hb1)
          have hlj : (cmsI true s4 j).2.1.length ≤ 1000000 := Nat.le_trans (cmsI_shrinks true s4 j) hl4
          have EVB := Lib.hid (fun b hb => World.ownsRow.lt own b hb : ∀ b, (Value.slice lva j lvc).ownBlock = some b → w4.heap.size ≤ b ∧ b < wp.heap.size)
          have HV1S := Lib.hid hV1s
          obtain ⟨su2, hsu2⟩ : ∃ x, (cmsI true s4 j).2 = x := ⟨_, rfl⟩
          rw [hsu2] at BSJ hlj
          have HSU2 := Lib.hid hsu2
          clear bS kE own kr hb1 hV1s hm0 hsu2
          go_upto_region 12 with fail
          try rw [hV1]
          clear hV1
          go_wp2_with fail
          go_loopw [10] (fun i wx => ∃ q : Nat, i = .int .i64 q ∧ q ≤ 6 ∧ (Blk wx S (rnC (numsI su2 q).2) ∧ Blk wx wp.heap.size (putI #[.int .i64 0, .int .i64 0, .int .i64 0, .int .i64 0, .int .i64 0, .int .i64 0] (numsI su2 q).1) ∧ Kp (fun b => b = S ∨ b = wp.heap.size) V1 wx)) (fun i _ => (6 - intOf i).toNat)
          case atStart => exact ⟨0, rfl, by omega, BSJ.out, by unfold putI numsI; simpa using KE.out, Kp.refl _ _⟩
          case round =>
            obtain ⟨q, rfl, hq, bSj, bLj, kj⟩ := hrel
            have hszj := kj.size
            have lSj := bSj.lt
            by_cases hlt : q < 6
            · have hji : (0 : Int) ≤ (q : Int) := by omega
              have hjl : (q : Int) < 6 := by omega
              have BSQ := Lib.hid bSj
              have BLJ := Lib.hid bLj
              have KJ := Lib.hid kj
              have hlq : (numsI su2 q).2.1.length ≤ 1000000 := Nat.le_trans (numsI_shrinks su2 q) hlj
              have hLS : wp.heap.size ≠ S := by omega
              have hLl := bLj.lt
              clear bSj bLj kj
              go_wp2_with fail
              refine (next_ref (numsI su2 q).2 S _ BSQ.out hlq).mono ?_
              rintro e x1 ⟨rfl, bS1, kp1⟩
              have bL1 := BLJ.out.kp kp1 (fun h => hLS h)
              obtain ⟨lL1, cL1, fL1⟩ := id bL1
              have hszp : (putI #[.int .i64 0, .int .i64 0, .int .i64 0, .int .i64 0, .int .i64 0, .int .i64 0] (numsI su2 q).1).size = 6 := putI_size (by rw [numsI_length]; simp; omega)
              have cj : (x1.cell? ⟨wp.heap.size, q, none⟩).isSome = true := by rw [cL1 q, Array.getElem?_eq_getElem (by omega)]; rfl
              obtain ⟨old, hold⟩ := Option.isSome_iff_exists.1 cj
              have fj := fL1 q
              have BS1 := Lib.hid bS1
              have BL1 := Lib.hid bL1
              have KJ1 := Lib.hid (KJ.out.trans kp1 (fun _ _ h => Or.inl h))
              have HSP := Lib.hid hszp
              clear bS1 bL1 kp1 cL1 fL1 cj hszp
              go_wp2_with fail
              go_roundw
              case rel =>
                refine ⟨q + 1, by go_num, by omega, ?_, ?_, KJ1.out.andset ⟨wp.heap.size, q, none⟩ _ (Or.inr rfl)⟩
                · rw [nums_st]
                  exact BS1.out.other hLS
                · have := BL1.out.store (.int .i64 (numI (numsI su2 q).2).1) (i := q) (by rw [HSP.out]; exact hlt)
                  have e : putI #[.int .i64 0, .int .i64 0, .int .i64 0, .int .i64 0, .int .i64 0, .int .i64 0] (numsI su2 (q + 1)).1 = (putI #[.int .i64 0, .int .i64 0, .int .i64 0, .int .i64 0, .int .i64 0, .int .i64 0] (numsI su2 q).1).setIfInBounds q (.int .i64 (numI (numsI su2 q).2).1) := by
                    have h2 := putI_snoc (c := #[.int .i64 0, .int .i64 0, .int .i64 0, .int .i64 0, .int .i64 0, .int .i64 0]) (vs := (numsI su2 q).1) (by rw [numsI_length]; exact hlt) (numI (numsI su2 q).2).1
                    rw [numsI_length] at h2
                    exact h2
                  rw [e]
                  exact this
              case measure => simp [intOf]; omega
            · obtain rfl : q = 6 := by omega
              rw [put6r (numsI_length _ 6)] at bLj
              obtain ⟨c, hc⟩ : ∃ x, mkC (numsI su2 6).1 = x := ⟨_, rfl⟩
              rw [hc] at bLj
              have bL' : Blk wr wp.heap.size #[.int .i64 c.player, .int .i64 c.op, .int .i64 c.id, .int .i64 c.kind, .int .i64 c.x, .int .i64 c.y] := bLj
              have ownj := own_kp OWNJ.out kj (fun b hb e => by have := EVB.out b hb; omega)
              have kpj := KRJ.out.trans kj (fun c hc e => by rcases e with h | h; exact h; omega)
              obtain ⟨lL, cL, -⟩ := id bL'
              obtain ⟨i1, hj0, hj1, hj2, hj3⟩ := infoOrders
              have hbz : Below wr.heap.size wr (wr.alloc (.cells #[.int .i64 c.player, .int .i64 c.op, .int .i64 c.id, .int .i64 c.kind, .int .i64 c.x, .int .i64 c.y] 73)) := (Below.refl _ _).alloc (Nat.le_refl _) _
              have oB := own_kp ownj (kp_of hbz (fun _ => False)) (fun _ _ x => x)
              obtain ⟨g2, cap, w6, r6, own6, grow6, hat6, lt6⟩ := run_append_lies (P := Try.prog) (wr.alloc (.cells #[.int .i64 c.player, .int .i64 c.op, .int .i64 c.id, .int .i64 c.kind, .int .i64 c.x, .int .i64 c.y] 73)) 66 66 w4.heap.size 73 i1 _ 6 48 Try.underlying66 hj0 hj1 hj2 hj3 rfl (by omega) (.slice lva j lvc) j (cellsAllO (cmsI true s4 j).1) oB ⟨wr.heap.size, 0, none⟩ 1 1 (cellsO c) rfl (World.news_of_block (cs := #[.int .i64 c.player, .int .i64 c.op, .int .i64 c.id, .int .i64 c.kind, .int .i64 c.x, .int .i64 c.y]) (t := 73) (fr := (0, 0)) (heap_alloc_new wr _)) (by intro q hq; simp [cellsO] at hq; rcases hq with h | h | h | h | h | h <;> rw [h] <;> rfl) (by omega) (by unfold maxLen; omega) (by omega) (by have := hbz.size; have := kpj.size; omega) (wr.heap.size + 1) (by simp)
              have kg := Kp.grown grow6
              have hSev : (Value.slice lva j lvc).ownBlock ≠ some S := fun e => by have := (EVB.out _ e).1; omega
              have bS6 := (bSj.call hbz).kp kg (fun e => hSev e.symm)
              have kp6 := (kpj.then_ hbz).trans kg (fun c hc e => by have := (EVB.out c e.symm).1; omega)
              have HC := Lib.hid hc
              have OWN6 := Lib.hid own6
              have BS6 := Lib.hid bS6
              have KP6 := Lib.hid kp6
              clear hj0 hj1 hj2 hj3 hbz oB own6 grow6 hat6 kg ownj bLj bL' bSj kj kpj bS6 kp6 hc hSev
              go_wp2_with (at_builtin; refine list_run_append (by rfl) _ _ _ _ (by rfl) (by rfl) (by rfl) (by rfl) r6 ?_)
              go_roundw
              case rel =>
                refine ⟨m2 - 1, j + 1, intv (by omega), by omega, ?_, ?_, KP6.out⟩
                · have e : (cmsI true s4 (j + 1)).2 = (numsI su2 6).2 := by rw [← HSU2.out]; exact cms_st true s4 j
                  rw [e]
                  exact BS6.out
                · have e : cellsAllO (cmsI true s4 (j + 1)).1 = cellsAllO (cmsI true s4 j).1 ++ cellsO c := by rw [← HC.out, ← HSU2.out]; exact cmsO_succ s4 j
                  rw [e]
                  exact OWN6.out
              case measure => simp [intOf]; omega
        subst hm0
        obtain rfl : j = N8 := by omega
        have e1 : decide ((0 : Int) < ((0 : Nat) : Int)) = false := decide_eq_false (by omega)
        have hti : tickI true (ticksI true s3 k).2 = cmsI true s4 j := by
          obtain ⟨h1, h2⟩ := HM.out
          unfold tickI
          rw [h1, h2, Int.toNat_natCast]
        obtain ⟨L, hL⟩ : ∃ x, (cmsI true s4 j).1 = x := ⟨_, rfl⟩
        have hLl : L.length = j := by rw [← hL]; exact cmsI_length _ _ _
        obtain ⟨TL, hTL⟩ : ∃ x, (ticksI true s3 k).1 = x := ⟨_, rfl⟩
        have hTLl : TL.length = k := by rw [← hTL]; exact ticksI_length _ _ _
        have bKj := K4.out.kp kr (by omega)
        have hbz : Below wr.heap.size wr (wr.alloc (.cells #[.slice lva j lvc] 66)) := (Below.refl _ _).alloc (Nat.le_refl _) _
        have ownL : (wr.alloc (.cells #[.slice lva j lvc] 66)).ownsRow V.heap.size 73 6 (.slice lva j lvc) L.length (L.flatMap cellsO) := by
          rw [hLl]
          rw [hL] at own
          exact own_base (own_kp own (kp_of hbz (fun _ => False)) (fun _ _ x => x)) (by omega)
        have tj := (T4.out.kp kr (fun b hb _ e => by omega)).kp (kp_of hbz (fun _ => False)) (fun _ _ _ x => x)
        rw [hTL] at tj
        obtain ⟨cs, ownT, snoc⟩ := tj.snoc (by decide) L (.slice lva j lvc) ownL
        obtain ⟨tva, tvc, htv⟩ := own_slice ownT
        subst htv
        rw [hTLl] at ownT snoc bKj
        obtain ⟨i1, hj0, hj1, hj2, hj3⟩ := infoTickO
        have TVB : ∀ b, (Value.slice tva k tvc).ownBlock = some b → V.heap.size ≤ b := fun b hb => (World.ownsRow.lt ownT b hb).1
        obtain ⟨g2, cap, w7, r7, own7, grow7, hat7, lt7⟩ := run_append_lies (P := Try.prog) (wr.alloc (.cells #[.slice lva j lvc] 66)) 67 67 V.heap.size 66 i1 _ 1 24 Try.underlying67 hj0 hj1 hj2 hj3 rfl (by omega) (.slice tva k tvc) k cs ownT ⟨wr.heap.size, 0, none⟩ 1 1 [.slice lva j lvc] rfl (World.news_of_block (cs := #[.slice lva j lvc]) (t := 66) (fr := (0, 0)) (heap_alloc_new wr _)) (by intro q hq; simp at hq; rw [hq]; rfl) (by omega) (by unfold maxLen; omega) (by omega) (by have := hbz.size; have := kr.size; omega) (wr.heap.size + 1) (by simp)
        have kg := Kp.grown grow7
        have hne1 : (Value.slice tva k tvc).ownBlock ≠ some w2.heap.size := fun e => by have := TVB _ e; omega
        have hne2 : (Value.slice tva k tvc).ownBlock ≠ some S := fun e => by have := TVB _ e; omega
        have bK7 := (bKj.call hbz).kp kg (fun e => hne1 e.symm)
        have bS7 := (bS.call hbz).kp kg (fun e => hne2 e.symm)
        have kp7 := (((KP4.out.trans kr (fun _ _ h => Or.inl h)).then_ hbz).trans kg (fun c hc e => by have := TVB c e.symm; omega)).andset ⟨w2.heap.size, 5, none⟩ (.slice (some ⟨g2, 0, none⟩) (k + 1) cap) (Or.inr rfl)
        have town7 := snoc w7 _ kg own7
        obtain ⟨lKj, cKj, -⟩ := id bKj
        obtain ⟨lK7, cK7, fK7⟩ := id bK7
        have HTI := Lib.hid hti
        have HLL := Lib.hid hL
        have HTL := Lib.hid hTL
        have BS7 := Lib.hid bS7
        have BK7 := Lib.hid bK7
        have KP7 := Lib.hid kp7
        have T7 := Lib.hid town7
        clear hti hL hLl hTL bKj hbz ownL tj ownT snoc hj0 hj1 hj2 hj3 own7 grow7 hat7 kg hne1 hne2 bK7 bS7 kp7 town7 own bS kr TVB hTLl
        go_wp2_with (at_builtin; refine list_run_append (by rfl) _ _ _ _ (by rfl) (by rfl) (by rfl) (by rfl) r7 ?_)
        go_roundw
        case rel =>
          refine ⟨m - 1, k + 1, intv (by omega), by omega, ?_, ⟨.slice (some ⟨g2, 0, none⟩) (k + 1) cap, ?_, ?_⟩, KP7.out⟩
          · rw [ticks_st, HTI.out]
            exact BS7.out.other (by omega)
          · have := BK7.out.store (.slice (some ⟨g2, 0, none⟩) (k + 1) cap) (i := 5) (by simp)
            simpa using this
          · rw [ticks_succ, HTI.out, HTL.out, HLL.out]
            exact T7.out.kp (Kp.setCell w7 ⟨w2.heap.size, 5, none⟩ _) (fun b hb _ e => by have h2 : b = w2.heap.size := e; omega)
        case measure => simp [intOf]; omega
    subst hm0
    obtain rfl : k = n := by omega
    have d1 : decide ((0 : Int) < ((0 : Nat) : Int)) = false := decide_eq_false (by omega)
    obtain ⟨q, hq⟩ : ∃ x, ticksI true s3 k = x := ⟨_, rfl⟩
    rw [hq] at bS town
    have hT : tapeI true (openL 82 l) = (r.1, q) := by
      obtain ⟨h1, h2⟩ := HN.out
      rw [HST.out]
      show ((newerI st).1, ticksI true (manyI (newerI st).2 60).2 (manyI (newerI st).2 60).1.toNat) = _
      rw [HR.out, h1, h2, Int.toNat_natCast, hq]
    have HT := Lib.hid hT
    obtain ⟨ta, ct, htv, htl, htr⟩ := prow_of town
    subst htv
    have TOWN := Lib.hid town
    have BS := Lib.hid bS
    have BK := Lib.hid bK
    have KRR := Lib.hid (KRV.out.kp kr (fun h => by rcases h with h | h <;> omega))
    have OER := Lib.hid (own_kp OEV.out kr (fun b hb h => by have := LOE.out b hb; omega))
    have HBR : Hid (Below w.heap.size w wr) := Lib.hid (HBV.out.trans (kr.below (fun b hb => by omega) (by omega)))
    have HTR := Lib.hid htr
    clear bS bK town kr hq hT htr
    go_wp2_with fail
    refine (over_ref q.2 S _ BS.out).mono ?_
    rintro e w5 ⟨rfl, rfl⟩
    obtain ⟨f, hf⟩ : ∃ f, endI q.2 = f := ⟨_, rfl⟩
    rw [hf]
    have HF := Lib.hid hf
    obtain ⟨lR3, cR3, fR3⟩ := id KRR.out
    obtain ⟨lV2, cV2, -⟩ := id BK.out
    clear hf
    by_cases h0 : f = 0
    case neg =>
      have HFA : Hid (tapeF true l = f) := Lib.hid (by
        have e : endI (tapeI true (openL (kindT true) l)).2.2 = f := by
          show endI (tapeI true (openL 82 l)).2.2 = f
          rw [HT.out, HF.out]
        show _ = _
        unfold tapeF
        rw [e, if_pos h0])
      have HF0 := Lib.hid h0
      have d1 : ((f : Int) == 0) = false := beq_eq_false_iff_ne.2 (by omega)
      have d1' : (f == 0) = false := beq_eq_false_iff_ne.2 h0
      have d2 : decide ((0 : Int) < (f : Int)) = true := decide_eq_true (by omega)
      have d2' : decide (0 < f) = true := decide_eq_true (by omega)
      clear h0
      go_wp2_with fail
      refine bodyPost_ret (v := .tuple #[.agg #[.int .i64 0, .int .i64 0, .int .i64 0, .int .i64 0, .slice none 0 0, .slice none 0 0], .int .i64 f]) (ret_cell2 Try.results83 rfl rfl (KRR.out.store6 rfl (.int .i64 0) (.int .i64 0) (.int .i64 0) (.int .i64 0) (.slice none 0 0) (.slice none 0 0)) Try.underlying69 rfl infoReel) rfl ?_
      refine ⟨fun _ => by rw [HFA.out], fun h => absurd (HFA.out.symm.trans h) HF0.out, ?_⟩
      iterate 6 (refine Below.setCell ?_ (by simp) _)
      exact HBR.out
    subst h0
    go_wp2_with fail
    refine (refreelFault_any r.1 ua ta cu ct HNEW.out HFREE.out (by omega) q.1 htl _ (units_row rfl OER.out).1 HTR.out).mono ?_
    rintro e w6 ⟨rfl, b6⟩
    obtain ⟨f, hf⟩ : ∃ f, reelFault r.1 q.1 = f := ⟨_, rfl⟩
    rw [hf]
    have HSF : Hid (tapeF true l = f) := Lib.hid (by
      have e : tapeI true (openL (kindT true) l) = (r.1, q) := HT.out
      show tapeF true l = f
      unfold tapeF
      rw [e]
      dsimp only
      rw [HF.out, if_neg (by simp), ← hf]
      rfl)
    have hsr := HBR.out.size
    have HB6 := Lib.hid (HBR.out.trans (b6.mono (by omega)))
    have k6 := KRR.out.call b6
    obtain ⟨lR4, cR4, fR4⟩ := id k6
    have kv6 := BK.out.call b6
    obtain ⟨lV4, cV4, -⟩ := id kv6
    have K6 := Lib.hid k6
    have hs6 := b6.size
    have OE6 := Lib.hid (own_kp OER.out (kp_of b6 (fun _ => False)) (fun _ _ x => x))
    have T6 := Lib.hid (TOWN.out.kp (kp_of b6 (fun _ => False)) (fun _ _ _ x => x))
    clear b6 k6 kv6 hf cV2 cR3 fR3 lV2 lR3
    by_cases h0 : f = 0
    case neg =>
      have HFA := Lib.hid h0
      have d2 : decide ((0 : Int) < (f : Int)) = true := decide_eq_true (by omega)
      have d2' : decide (0 < f) = true := decide_eq_true (by omega)
      clear h0
      go_wp2_with fail
      refine bodyPost_ret (v := .tuple #[.agg #[.int .i64 0, .int .i64 0, .int .i64 0, .int .i64 0, .slice none 0 0, .slice none 0 0], .int .i64 f]) (ret_cell2 Try.results83 rfl rfl (K6.out.store6 rfl (.int .i64 0) (.int .i64 0) (.int .i64 0) (.int .i64 0) (.slice none 0 0) (.slice none 0 0)) Try.underlying69 rfl infoReel) rfl ?_
      refine ⟨fun _ => by rw [HSF.out], fun h => absurd (HSF.out.symm.trans h) HFA.out, ?_⟩
      iterate 6 (refine Below.setCell ?_ (by simp) _)
      exact HB6.out
    subst h0
    go_wp2_with fail
    refine bodyPost_ret (v := .tuple #[.agg #[.int .i64 r.1.tick, .int .i64 r.1.g0, .int .i64 r.1.g1, .int .i64 r.1.next, .slice ua r.1.us.length cu, .slice ta q.1.length ct], .int .i64 0]) (ret_cell2 Try.results83 rfl rfl (K6.out.store6 rfl (.int .i64 r.1.tick) (.int .i64 r.1.g0) (.int .i64 r.1.g1) (.int .i64 r.1.next) (.slice ua r.1.us.length cu) (.slice ta q.1.length ct)) Try.underlying69 rfl infoReel) rfl ?_
    have XK := ((((((Kp.refl (fun b => b = w.heap.size) w6).andset ⟨w.heap.size, 0, none⟩ (.int .i64 r.1.tick) rfl).andset ⟨w.heap.size, 1, none⟩ (.int .i64 r.1.g0) rfl).andset ⟨w.heap.size, 2, none⟩ (.int .i64 r.1.g1) rfl).andset ⟨w.heap.size, 3, none⟩ (.int .i64 r.1.next) rfl).andset ⟨w.heap.size, 4, none⟩ (.slice ua r.1.us.length cu) rfl).andset ⟨w.heap.size, 5, none⟩ (.slice ta q.1.length ct) rfl
    unfold ReelReadEnd
    rw [HT.out]
    have UR : URow true _ _ ua r.1.us := (units_row rfl (own_kp OE6.out XK (fun b hb e => by have h := (LOE.out b hb).1; have e2 : b = w.heap.size := e; omega))).1
    refine ⟨fun h => absurd HSF.out h, fun _ => ⟨ua, cu, ta, ct, rfl, UR, ?_⟩, ?_⟩
    · obtain ⟨a', c', e', -, h'⟩ := prow_of (T6.out.kp XK (fun b hb _ e => by have e2 : b = w.heap.size := e; omega))
      cases e'
      exact h'
    · iterate 6 (refine Below.setCell ?_ (by simp) _)
      exact HB6.out
end Go.Proofs.Ytlfljlhppigejaa
namespace Go.Proofs.Ytlfljlhppigejaa
open Go.RowKit

theorem min8_run {P : Program} {w : World} (ts : Array TypeId) (t : TypeId) (a0 a1 a2 a3 a4 a5 a6 a7 : Int) : (Builtin.min_ ts t #[.int .i64 a0, .int .i64 a1, .int .i64 a2, .int .i64 a3, .int .i64 a4, .int .i64 a5, .int .i64 a6, .int .i64 a7]).run P w = .ok (.int .i64 (mnI (mnI (mnI (mnI (mnI (mnI (mnI a0 a1) a2) a3) a4) a5) a6) a7)) w := by
  rfl
attribute [local go_sem] min8_run

set_option maxHeartbeats 6400000 in
set_option maxRecDepth 100000 in
theorem reftapeFault_any (g : G) (fa ua ta : Option Addr) (cf cu ct : Nat) (hnew : g.new = false) (hlf : g.free.length ≤ 100000) (hlu : g.us.length ≤ 100000) (ts : List (List Cm)) (hlen : ts.length ≤ maxLen) (w : World) (hf : Row w.heap.size w fa g.free.length (fun k => .int .i64 (g.free.getD k 0))) (hu : URow false w.heap.size w ua g.us) (ht : TRow w.heap.size w ta ts) :
    Calls Try.prog 137 #[.agg #[.int .i64 g.tick, .int .i64 g.g0, .int .i64 g.g1, .int .i64 g.next, .slice fa g.free.length cf, .slice ua g.us.length cu, .slice ta ts.length ct]] w fun e w' => e = .returned (.int .i64 (tapeFault g ts : Nat)) ∧ Below w.heap.size w w' := by
  have hm : maxLen ≤ 9223372036854775807 := by unfold maxLen; decide
  obtain ⟨W, hW⟩ : ∃ W, w.alloc (.cells #[.int .i64 g.tick, .int .i64 g.g0, .int .i64 g.g1, .int .i64 g.next, .slice fa g.free.length cf, .slice ua g.us.length cu, .slice ta ts.length ct] 94) = W := ⟨_, rfl⟩
  have hbW : Below w.heap.size w W := by rw [← hW]; exact (Below.refl _ _).alloc (Nat.le_refl _) _
  have kR : Blk W w.heap.size #[.int .i64 g.tick, .int .i64 g.g0, .int .i64 g.g1, .int .i64 g.next, .slice fa g.free.length cf, .slice ua g.us.length cu, .slice ta ts.length ct] := by rw [← hW]; exact Blk.new w _ _
  have hsW := hbW.size
  obtain ⟨lR, cR, -⟩ := id kR
  have HBK : Hid (faultOf (backG false g) = faultOf g) := Lib.hid (fault_back false g hnew (fun h => by cases h))
  have HT := Lib.hid ((ht.below hbW).mono hsW)
  have HU := Lib.hid ((hu.below hbW).mono hsW)
  have HW := Lib.hid hbW
  have KR := Lib.hid kR
  have HFR := Lib.hid ((hf.below hbW).mono hsW)
  clear hf
  clear hbW kR ht hu
  go_enter Try.func137, Try.ntmps137
  go_upto_region 1 with fail
  try rw [hW]
  clear hW
  go_wp2_with fail
  refine (ofelder_any g fa ua cf cu hlf hlu _ HFR.out HU.out).mono ?_
  rintro e w5 ⟨S5, fv5, uv5, rfl, gr5, b5⟩
  have GR5 := Lib.hid gr5
  have B5 := Lib.hid b5
  have hs5 := b5.size
  clear gr5 b5
  go_wp2_with fail
  refine (fault_game GR5.out (by first | (simp [backG]; done) | (simp [backG]; omega)) (by first | (simp [backG]; done) | (simp [backG]; omega))).mono ?_
  rintro e w4 ⟨rfl, b4'⟩
  rw [HBK.out]
  have b4 := B5.out.trans (b4'.mono hs5)
  have k4 := KR.out.call b4
  have K4 := Lib.hid k4
  have HB4 := Lib.hid (HW.out.trans (b4.mono hsW))
  have HT4 := Lib.hid ((HT.out.below b4).mono b4.size)
  have hs4 := HB4.out.size
  obtain ⟨l4, c4, -⟩ := id k4
  obtain ⟨f0, hf0⟩ : ∃ x, faultOf g = x := ⟨_, rfl⟩
  rw [hf0]
  have HF0 := Lib.hid hf0
  clear b4 b4' k4 hf0 cR lR
  by_cases h0 : f0 = 0
  case neg =>
    have d2 : decide ((0 : Int) < (f0 : Int)) = true := decide_eq_true (by omega)
    have d2' : decide (0 < f0) = true := decide_eq_true (by omega)
    have HH : Hid (tapeFault g ts = f0) := Lib.hid (by show _ = _; unfold tapeFault; rw [HF0.out, if_pos h0])
    clear h0
    go_wp2_with fail
    go_ret
    exact ⟨ret1 (nat_int HH.out), HB4.out⟩
  subst h0
  have hgt := ((right_iff g).1 HF0.out).head
  have ht0 : 0 ≤ g.tick ∧ g.tick ≤ 60 := by unfold headBad at hgt; omega
  have hw1 : IntKind.i64.wrap (60 - g.tick) = 60 - g.tick := IntWalk.i64_in _ (by omega)
  have HDEF : Hid (tapeFault g ts = if cntFault ts g.tick ≠ 0 then cntFault ts g.tick else if ts.any (fun l => l.any negC) = true then 1 else 0) := Lib.hid (by show _ = _; unfold tapeFault; rw [HF0.out, if_neg (by simp)])
  clear hgt
  by_cases hb : 60 - g.tick < (ts.length : Int)
  · have d0 : decide (60 - g.tick < (ts.length : Int)) = true := decide_eq_true hb
    have HH : Hid (tapeFault g ts = 2) := Lib.hid (by
      have h2 : cntFault ts g.tick = 2 := by unfold cntFault; rw [if_pos (Or.inl hb)]
      show _ = _
      rw [HDEF.out, h2, if_pos (by simp)])
    clear hb
    go_wp2_with fail
    go_ret
    exact ⟨ret1 (nat_int HH.out), HB4.out⟩
  have d0 : decide (60 - g.tick < (ts.length : Int)) = false := decide_eq_false hb
  have ht60 : ts.length ≤ 60 := by omega
  have HNB := Lib.hid hb
  have hn0 : (0 : Int) ≤ (ts.length : Int) := by omega
  clear hb
  go_wp2_with fail
  go_loopw [4, 5, 6, 7] (fun lo i _ _ wr => ∃ (k : Nat) (L : Int), i = .int .i64 k ∧ k ≤ ts.length ∧ lo = .int .i64 L ∧ ((L < 0 ↔ (ts.take k).any (fun l => l.any negC) = true) ∧ (ts.take k).any (fun l => decide (8 < l.length)) = false ∧ Below w4.heap.size w4 wr)) (fun _ i _ _ _ => (ts.length - intOf i).toNat)
  case atStart => exact ⟨0, 0, rfl, by omega, rfl, by simp, by simp, Below.refl _ _⟩
  case round =>
    obtain ⟨k, L, rfl, hk, rfl, hL, h8, hX⟩ := hrel
    have HX := Lib.hid hX
    have HL := Lib.hid hL
    have H8 := Lib.hid h8
    have hszr := hX.size
    obtain ⟨lr, cr, -⟩ := id (K4.out.call hX)
    clear hX hL h8 c4
    by_cases hlt : k < ts.length
    · obtain ⟨l, hl⟩ : ∃ l, ts.getD k [] = l := ⟨_, rfl⟩
      obtain ⟨b, o, la, cl, hta, hbB, hc, hcr, hll⟩ := (HT4.out.below HX.out).get k hlt l hl
      subst hta
      have hki : (0 : Int) ≤ (k : Int) := by omega
      have hkl : (k : Int) < (ts.length : Int) := by omega
      have hbr : b < wr.heap.size := by omega
      have HCR := Lib.hid hcr
      have HLL := Lib.hid hl
      clear hl hcr
      by_cases hg8 : 8 < l.length
      · have d8 : decide ((8 : Int) < (l.length : Int)) = true := decide_eq_true (by omega)
        have HH : Hid (tapeFault g ts = 2) := Lib.hid (by
          have h2 : cntFault ts g.tick = 2 := by
            unfold cntFault
            rw [if_pos (Or.inr ?_)]
            rw [List.any_eq_true]
            refine ⟨l, ?_, by simpa using hg8⟩
            rw [← HLL.out]
            simp [List.getD, hlt]
          show _ = _
          rw [HDEF.out, h2, if_pos (by simp)])
        clear hg8
        go_wp2_with fail
        go_ret
        exact ⟨ret1 (nat_int HH.out), HB4.out.trans (HX.out.mono hs4)⟩
      have d8 : decide ((8 : Int) < (l.length : Int)) = false := decide_eq_false (by omega)
      have HG8 := Lib.hid hg8
      have hl0 : (0 : Int) ≤ (l.length : Int) := by omega
      obtain ⟨wo, rfl⟩ : ∃ x, x = wr := ⟨_, rfl⟩
      clear hg8
      go_wp2_with fail
      clear cr
      go_loopw [4, 6, 7] (fun lo i _ wx => ∃ (j : Nat) (M : Int), i = .int .i64 j ∧ j ≤ l.length ∧ lo = .int .i64 M ∧ ((M < 0 ↔ (L < 0 ∨ (l.take j).any negC = true)) ∧ Below wo.heap.size wo wx)) (fun _ i _ _ => (l.length - intOf i).toNat)
      case atStart => exact ⟨0, L, rfl, by omega, rfl, by simp, Below.refl _ _⟩
      case round =>
        obtain ⟨j, M, rfl, hj, rfl, hM, hY⟩ := hrel
        have HY := Lib.hid hY
        have HM := Lib.hid hM
        have hszy := hY.size
        obtain ⟨ly, cy, -⟩ := id (K4.out.call (HX.out.trans (hY.mono hszr)))
        have hcy := (hY.cell (p := ⟨b, o + k, none⟩) hbr).trans hc
        clear hY hM
        have hby : b < wr.heap.size := by omega
        by_cases hjl : j < l.length
        · obtain ⟨c, hcx⟩ : ∃ c, l.getD j zeroC = c := ⟨_, rfl⟩
          obtain ⟨b2, o2, hla, hbB2, q0, q1, q2, q3, q4, q5, q6⟩ := (HCR.out.below (HY.out.mono hszr)).get j hjl c hcx
          subst hla
          have hbr2 : b2 < wr.heap.size := by omega
          have hji : (0 : Int) ≤ (j : Int) := by omega
          have hjk : (j : Int) < (l.length : Int) := by omega
          have hnx : (l.take (j + 1)).any negC = ((l.take j).any negC || negC c) := by
            rw [takeC_at hjl, hcx]; simp
          have HNX := Lib.hid hnx
          clear hcx hnx
          go_wp2_with fail
          go_roundw
          case rel =>
            refine ⟨j + 1, mnI (mnI (mnI (mnI (mnI (mnI (mnI M c.player) c.op) c.id) c.kind) c.x) c.y) c.target, by go_num, by omega, rfl, ?_, HY.out.alloc hszy _⟩
            rw [HNX.out, Bool.or_eq_true]
            simp only [mnI_neg]
            rw [HM.out]
            unfold negC
            rw [decide_eq_true_eq]
            simp only [or_assoc]
          case measure => simp [intOf]; omega
        · obtain rfl : j = l.length := by omega
          have hMM := HM.out
          rw [List.take_length] at hMM
          have HMM := Lib.hid hMM
          have hcy2 := hcy
          clear hMM
          go_wp2_with fail
          go_roundw
          case rel =>
            refine ⟨k + 1, M, by go_num, by omega, rfl, ?_, ?_, HX.out.trans (HY.out.mono hszr)⟩
            · rw [takeT_at hlt, HLL.out, List.any_append, Bool.or_eq_true, HMM.out, HL.out]
              simp
            · rw [takeT_at hlt, HLL.out, List.any_append, H8.out]
              simp only [List.any_cons, List.any_nil, Bool.or_false, Bool.false_or, decide_eq_false_iff_not]
              exact HG8.out
          case measure => simp [intOf]; omega
    · obtain rfl : k = ts.length := by omega
      have hLL := HL.out
      have h88 := H8.out
      rw [List.take_length] at hLL h88
      have HC0 : Hid (cntFault ts g.tick = 0) := Lib.hid (by
        show _ = _
        unfold cntFault
        rw [if_neg]
        rintro (h | h)
        · have := HNB.out; omega
        · rw [h88] at h; cases h)
      have HBR := Lib.hid (HB4.out.trans (HX.out.mono hs4))
      by_cases hneg : L < 0
      · have d : decide (L < 0) = true := decide_eq_true hneg
        have HH : Hid (tapeFault g ts = 1) := Lib.hid (by show _ = _; rw [HDEF.out, HC0.out, if_neg (by simp), if_pos (hLL.1 hneg)])
        clear hneg hLL h88
        go_wp2_with fail
        go_ret
        exact ⟨ret1 (nat_int HH.out), HBR.out⟩
      · have d : decide (L < 0) = false := decide_eq_false hneg
        have HH : Hid (tapeFault g ts = 0) := Lib.hid (by show _ = _; rw [HDEF.out, HC0.out, if_neg (by simp), if_neg (fun h => hneg (hLL.2 h))])
        clear hneg hLL h88
        go_wp2_with fail
        go_ret
        exact ⟨ret1 (nat_int HH.out), HBR.out⟩
end Go.Proofs.Ytlfljlhppigejaa
namespace Go.Proofs.Ytlfljlhppigejaa
open Go.RowKit

def TapeReadEnd (l : List UInt8) (w : World) (e : Ending) (w' : World) : Prop :=
  (tapeF false l ≠ 0 → e = .returned (.tuple #[.agg #[.int .i64 0, .int .i64 0, .int .i64 0, .int .i64 0, .slice none 0 0, .slice none 0 0, .slice none 0 0], .int .i64 (tapeF false l : Nat)])) ∧
  (tapeF false l = 0 → ∃ fa cf ua cu ta ct, e = .returned (.tuple #[.agg #[.int .i64 (tapeI false (openL 84 l)).1.tick, .int .i64 (tapeI false (openL 84 l)).1.g0, .int .i64 (tapeI false (openL 84 l)).1.g1, .int .i64 (tapeI false (openL 84 l)).1.next, .slice fa (tapeI false (openL 84 l)).1.free.length cf, .slice ua (tapeI false (openL 84 l)).1.us.length cu, .slice ta (tapeI false (openL 84 l)).2.1.length ct], .int .i64 0]) ∧
    Row w'.heap.size w' fa (tapeI false (openL 84 l)).1.free.length (fun k => .int .i64 ((tapeI false (openL 84 l)).1.free.getD k 0)) ∧ URow false w'.heap.size w' ua (tapeI false (openL 84 l)).1.us ∧ TRow w'.heap.size w' ta (tapeI false (openL 84 l)).2.1) ∧ Below w.heap.size w w'

set_option maxHeartbeats 12800000 in
set_option maxRecDepth 100000 in
theorem taperead_any (s : ByteArray) (hs : s.size ≤ 900000) (w : World) :
    Calls Try.prog 81 #[.string s] w (TapeReadEnd s.data.toList w) := by
  obtain ⟨l, hl⟩ : ∃ l, s.data.toList = l := ⟨_, rfl⟩
  have hll : l.length ≤ 900000 := by rw [← hl, ← Lib.size_eq]; exact hs
  have HO := Lib.hid (begun_any 84 s hs)
  rw [hl] at HO ⊢
  clear hl
  obtain ⟨W, hW⟩ : ∃ W, w.alloc (.cells #[.int .i64 0, .int .i64 0, .int .i64 0, .int .i64 0, .slice none 0 0, .slice none 0 0, .slice none 0 0] 94) = W := ⟨_, rfl⟩
  have hbW : Below w.heap.size w W := by rw [← hW]; exact (Below.refl _ _).alloc (Nat.le_refl _) _
  have kR : Blk W w.heap.size #[.int .i64 0, .int .i64 0, .int .i64 0, .int .i64 0, .slice none 0 0, .slice none 0 0, .slice none 0 0] := by rw [← hW]; exact Blk.new w _ _
  have hsW := hbW.size
  have lR := kR.lt
  have HW := Lib.hid hbW
  have KR := Lib.hid kR
  clear hbW kR
  go_enter Try.func81, Try.ntmps81
  go_upto_region 1 with fail
  try rw [hW]
  clear hW
  go_wp2_with fail
  refine (HO.out W).mono ?_
  rintro e w1 ⟨S, rfl, hS, bS, b1⟩
  obtain ⟨st, hst⟩ : ∃ st, openL 84 l = st := ⟨_, rfl⟩
  have hstl : st.1.length ≤ 1000000 := by
    rw [← hst]
    unfold openL
    repeat' split
    all_goals (simp; try omega)
  rw [hst] at bS
  have HST := Lib.hid hst
  have BS := Lib.hid bS
  have K1 := Lib.hid (KR.out.call b1)
  have HB1 : Hid (Below w.heap.size w w1) := Lib.hid (HW.out.trans (b1.mono hsW))
  have hs1 := b1.size
  have lS1 := bS.lt
  clear bS b1 hst
  go_wp2_with fail
  refine (elder_ref st S w1 BS.out hstl).mono ?_
  rintro e w2 ⟨fv, ev, rfl, bS2, kp2, of2, oe2⟩
  obtain ⟨r, hr⟩ : ∃ r, elderI st = r := ⟨_, rfl⟩
  have HR := Lib.hid hr
  rw [hr] at bS2 of2 oe2 ⊢
  have hrl : r.2.1.length ≤ 1000000 := by rw [← hr]; exact Nat.le_trans (startI_shrinks false st) hstl
  have hnew : r.1.new = false := by rw [← hr]; rfl
  have HNEW := Lib.hid hnew
  have hlenU : r.1.us.length ≤ 20 := by rw [← hr]; exact (elderI_len st).2
  have hlenF : r.1.free.length ≤ 200 := by rw [← hr]; exact (elderI_len st).1
  obtain ⟨fa, cf, rfl⟩ := own_slice of2
  have OF2 := Lib.hid of2
  have LOF := Lib.hid (fun b hb => World.ownsRow.lt of2 b hb : ∀ b, (Value.slice fa r.1.free.length cf).ownBlock = some b → w1.heap.size ≤ b ∧ b < w2.heap.size)
  obtain ⟨ua, cu, rfl⟩ := own_slice oe2
  have OE2 := Lib.hid oe2
  have LOE := Lib.hid (fun b hb => World.ownsRow.lt oe2 b hb : ∀ b, (Value.slice ua r.1.us.length cu).ownBlock = some b → w1.heap.size ≤ b ∧ b < w2.heap.size)
  have HB2 : Hid (Below w.heap.size w w2) := Lib.hid (HB1.out.trans (kp2.below (fun b hb => by omega) (by omega)))
  have hs2 := kp2.size
  have BS2 := Lib.hid bS2
  have K2 := Lib.hid (K1.out.kp kp2 (by omega))
  clear hr kp2 of2 oe2 bS2 hnew
  go_upto_region 3 with fail
  obtain ⟨V, hV⟩ : ∃ V, w2.alloc (.cells #[.int .i64 r.1.tick, .int .i64 r.1.g0, .int .i64 r.1.g1, .int .i64 r.1.next, .slice fa r.1.free.length cf, .slice ua r.1.us.length cu, .slice none 0 0] 94) = V := ⟨_, rfl⟩
  have hbV : Below w2.heap.size w2 V := by rw [← hV]; exact (Below.refl _ _).alloc (Nat.le_refl _) _
  have kV : Blk V w2.heap.size #[.int .i64 r.1.tick, .int .i64 r.1.g0, .int .i64 r.1.g1, .int .i64 r.1.next, .slice fa r.1.free.length cf, .slice ua r.1.us.length cu, .slice none 0 0] := by rw [← hV]; exact Blk.new w2 _ _
  rw [hV]
  clear hV
  have hsV := hbV.size
  have lV := kV.lt
  have lS2 := BS2.out.lt
  have KV := Lib.hid kV
  have KRV := Lib.hid (K2.out.call hbV)
  have BSV := Lib.hid (BS2.out.call hbV)
  have HBV := Lib.hid (HB2.out.trans (hbV.mono (by omega)))
  have OFV := Lib.hid (own_kp OF2.out (kp_of hbV (fun _ => False)) (fun _ _ x => x))
  have OEV := Lib.hid (own_kp OE2.out (kp_of hbV (fun _ => False)) (fun _ _ x => x))
  clear kV hbV
  go_wp2_with fail
  refine (upto_ref r.2 60 S V BSV.out hrl).mono ?_
  rintro e w3 ⟨rfl, bS3, kp3⟩
  have hrg := manyI_range r.2 60 (by omega)
  obtain ⟨nI, hnI⟩ : ∃ x, (manyI r.2 60).1 = x := ⟨_, rfl⟩
  obtain ⟨s3, hs3'⟩ : ∃ x, (manyI r.2 60).2 = x := ⟨_, rfl⟩
  have hl3 : s3.1.length ≤ 1000000 := by rw [← hs3']; exact Nat.le_trans (manyI_shrinks r.2 60) hrl
  rw [hnI] at hrg ⊢
  rw [hs3'] at bS3
  obtain ⟨n, rfl⟩ := Int.eq_ofNat_of_zero_le hrg.1
  have hn60 : n ≤ 60 := by omega
  have HN := Lib.hid (show (manyI r.2 60).1 = (n : Int) ∧ (manyI r.2 60).2 = s3 from ⟨hnI, hs3'⟩)
  have BS3 := Lib.hid bS3
  have K3 := Lib.hid (KV.out.kp kp3 (by omega))
  have KP3 := Lib.hid (kp3.imp (fun _ _ h => Or.inl h) : Kp (fun b => b = S ∨ b = w2.heap.size) V w3)
  have hsz3 := kp3.size
  clear bS3 kp3 hnI hs3' hrg
  go_wp2_with fail
  go_loopw [6, 7, 8, 9, 10] (fun i _ _ _ _ wr => ∃ m k : Nat, i = .int .i64 m ∧ m + k = n ∧ (Blk wr S (rnC (ticksI false s3 k).2) ∧ (∃ tv, Blk wr w2.heap.size #[.int .i64 r.1.tick, .int .i64 r.1.g0, .int .i64 r.1.g1, .int .i64 r.1.next, .slice fa r.1.free.length cf, .slice ua r.1.us.length cu, tv] ∧ TOwn 91 99 7 cellsC V.heap.size wr tv (ticksI false s3 k).1) ∧ Kp (fun b => b = S ∨ b = w2.heap.size) V wr)) (fun i _ _ _ _ _ => (intOf i).toNat)
  case atStart => exact ⟨n, 0, rfl, by omega, BS3.out, ⟨_, K3.out, TOwn.nil _ _ _ _ _ _⟩, KP3.out⟩
  case round =>
    obtain ⟨m, k, rfl, hmk, bS, ⟨tv, bK, town⟩, kr⟩ := hrel
    have hszr := kr.size
    by_cases hm0 : m = 0
    case neg =>
      have d1 : decide ((0 : Int) < (m : Int)) = true := decide_eq_true (by omega)
      have d1' : decide (0 < m) = true := decide_eq_true (by omega)
      have hw1 : IntKind.i64.wrap ((m : Int) - 1) = (m : Int) - 1 := IntWalk.i64_in _ (by omega)
      have HM0 : 0 < m := by omega
      obtain ⟨wo, rfl⟩ : ∃ x, x = wr := ⟨_, rfl⟩
      have hlk : (ticksI false s3 k).2.1.length ≤ 1000000 := Nat.le_trans (ticksI_shrinks false s3 k) hl3
      have lSr := bS.lt
      have lKr := bK.lt
      have BS := Lib.hid bS
      have BK := Lib.hid bK
      have TOWN := Lib.hid town
      have KR := Lib.hid kr
      clear bS bK town kr hm0
      go_wp2_with fail
      refine (upto_ref (ticksI false s3 k).2 8 S _ BS.out hlk).mono ?_
      rintro e w4 ⟨rfl, bS4, kp4⟩
      have hrg := manyI_range (ticksI false s3 k).2 8 (by omega)
      obtain ⟨mI, hmI⟩ : ∃ x, (manyI (ticksI false s3 k).2 8).1 = x := ⟨_, rfl⟩
      obtain ⟨s4, hs4'⟩ : ∃ x, (manyI (ticksI false s3 k).2 8).2 = x := ⟨_, rfl⟩
      have hl4 : s4.1.length ≤ 1000000 := by rw [← hs4']; exact Nat.le_trans (manyI_shrinks _ 8) hlk
      rw [hmI] at hrg ⊢
      rw [hs4'] at bS4
      obtain ⟨N8, rfl⟩ := Int.eq_ofNat_of_zero_le hrg.1
      have hm8 : N8 ≤ 8 := by omega
      have HM := Lib.hid (show (manyI (ticksI false s3 k).2 8).1 = (N8 : Int) ∧ (manyI (ticksI false s3 k).2 8).2 = s4 from ⟨hmI, hs4'⟩)
      have BS4 := Lib.hid bS4
      have K4 := Lib.hid (BK.out.kp kp4 (by omega))
      have T4 := Lib.hid (TOWN.out.kp kp4 (fun b hb _ e => by omega))
      have KP4 := Lib.hid (KR.out.trans kp4 (fun _ _ h => Or.inl h))
      have hsz4 := kp4.size
      clear bS4 kp4 hmI hs4' hrg
      go_wp2_with fail
      go_loopw [7, 8, 9, 10] (fun lv i _ _ wx => ∃ m j : Nat, i = .int .i64 m ∧ m + j = N8 ∧ (Blk wx S (rnC (cmsI false s4 j).2) ∧ wx.ownsRow w4.heap.size 99 7 lv j (cellsAllC (cmsI false s4 j).1) ∧ Kp (fun b => b = S) w4 wx)) (fun _ i _ _ _ => (intOf i).toNat)
      case atStart => exact ⟨N8, 0, rfl, by omega, BS4.out, World.ownsRow_nil _ _ _ _, Kp.refl _ _⟩
      case round =>
        obtain ⟨m2, j, rfl, hmj, bS, own, kr⟩ := hrel
        have hszr := kr.size
        obtain ⟨lva, lvc, hlv⟩ := own_slice own
        subst hlv
        by_cases hm0 : m2 = 0
        case neg =>
          have e1 : decide ((0 : Int) < (m2 : Int)) = true := decide_eq_true (by omega)
          have e1' : decide (0 < m2) = true := decide_eq_true (by omega)
          have hw2 : IntKind.i64.wrap ((m2 : Int) - 1) = (m2 : Int) - 1 := IntWalk.i64_in _ (by omega)
          have HM2 : 0 < m2 := by omega
          obtain ⟨wp, rfl⟩ : ∃ x, x = wr := ⟨_, rfl⟩
          obtain ⟨V1, hV1⟩ : ∃ V, wp.alloc (.cells #[.int .i64 0, .int .i64 0, .int .i64 0, .int .i64 0, .int .i64 0, .int .i64 0, .int .i64 0] 214) = V := ⟨_, rfl⟩
          have hb1 : Below wp.heap.size wp V1 := by rw [← hV1]; exact (Below.refl _ _).alloc (Nat.le_refl _) _
          have kE : Blk V1 wp.heap.size #[.int .i64 0, .int .i64 0, .int .i64 0, .int .i64 0, .int .i64 0, .int .i64 0, .int .i64 0] := by rw [← hV1]; exact Blk.new wp _ _
          have hV1s : V1.heap.size = wp.heap.size + 1 := by rw [← hV1]; simp
          have hSr := bS.lt
          have BSJ := Lib.hid (bS.call hb1)
          have KE := Lib.hid kE
          have OWNJ := Lib.hid (own_kp own (kp_of hb1 (fun _ => False)) (fun _ _ x => x))
          have KRJ := Lib.hid (kr.then_ hb1)
          have hlj : (cmsI false s4 j).2.1.length ≤ 1000000 := Nat.le_trans (cmsI_shrinks false s4 j) hl4
          have EVB := Lib.hid (fun b hb => World.ownsRow.lt own b hb : ∀ b, (Value.slice lva j lvc).ownBlock = some b → w4.heap.size ≤ b ∧ b < wp.heap.size)
          have HV1S := Lib.hid hV1s
          obtain ⟨su2, hsu2⟩ : ∃ x, (cmsI false s4 j).2 = x := ⟨_, rfl⟩
          rw [hsu2] at BSJ hlj
          have HSU2 := Lib.hid hsu2
          clear bS kE own kr hb1 hV1s hm0 hsu2
          go_upto_region 12 with fail
          try rw [hV1]
          clear hV1
          go_wp2_with fail
          go_loopw [10] (fun i wx => ∃ q : Nat, i = .int .i64 q ∧ q ≤ 7 ∧ (Blk wx S (rnC (numsI su2 q).2) ∧ Blk wx wp.heap.size (putI #[.int .i64 0, .int .i64 0, .int .i64 0, .int .i64 0, .int .i64 0, .int .i64 0, .int .i64 0] (numsI su2 q).1) ∧ Kp (fun b => b = S ∨ b = wp.heap.size) V1 wx)) (fun i _ => (7 - intOf i).toNat)
          case atStart => exact ⟨0, rfl, by omega, BSJ.out, by unfold putI numsI; simpa using KE.out, Kp.refl _ _⟩
          case round =>
            obtain ⟨q, rfl, hq, bSj, bLj, kj⟩ := hrel
            have hszj := kj.size
            have lSj := bSj.lt
            by_cases hlt : q < 7
            · have hji : (0 : Int) ≤ (q : Int) := by omega
              have hjl : (q : Int) < 7 := by omega
              have BSQ := Lib.hid bSj
              have BLJ := Lib.hid bLj
              have KJ := Lib.hid kj
              have hlq : (numsI su2 q).2.1.length ≤ 1000000 := Nat.le_trans (numsI_shrinks su2 q) hlj
              have hLS : wp.heap.size ≠ S := by omega
              have hLl := bLj.lt
              clear bSj bLj kj
              go_wp2_with fail
              refine (next_ref (numsI su2 q).2 S _ BSQ.out hlq).mono ?_
              rintro e x1 ⟨rfl, bS1, kp1⟩
              have bL1 := BLJ.out.kp kp1 (fun h => hLS h)
              obtain ⟨lL1, cL1, fL1⟩ := id bL1
              have hszp : (putI #[.int .i64 0, .int .i64 0, .int .i64 0, .int .i64 0, .int .i64 0, .int .i64 0, .int .i64 0] (numsI su2 q).1).size = 7 := putI_size (by rw [numsI_length]; simp; omega)
              have cj : (x1.cell? ⟨wp.heap.size, q, none⟩).isSome = true := by rw [cL1 q, Array.getElem?_eq_getElem (by omega)]; rfl
              obtain ⟨old, hold⟩ := Option.isSome_iff_exists.1 cj
              have fj := fL1 q
              have BS1 := Lib.hid bS1
              have BL1 := Lib.hid bL1
              have KJ1 := Lib.hid (KJ.out.trans kp1 (fun _ _ h => Or.inl h))
              have HSP := Lib.hid hszp
              clear bS1 bL1 kp1 cL1 fL1 cj hszp
              go_wp2_with fail
              go_roundw
              case rel =>
                refine ⟨q + 1, by go_num, by omega, ?_, ?_, KJ1.out.andset ⟨wp.heap.size, q, none⟩ _ (Or.inr rfl)⟩
                · rw [nums_st]
                  exact BS1.out.other hLS
                · have := BL1.out.store (.int .i64 (numI (numsI su2 q).2).1) (i := q) (by rw [HSP.out]; exact hlt)
                  have e : putI #[.int .i64 0, .int .i64 0, .int .i64 0, .int .i64 0, .int .i64 0, .int .i64 0, .int .i64 0] (numsI su2 (q + 1)).1 = (putI #[.int .i64 0, .int .i64 0, .int .i64 0, .int .i64 0, .int .i64 0, .int .i64 0, .int .i64 0] (numsI su2 q).1).setIfInBounds q (.int .i64 (numI (numsI su2 q).2).1) := by
                    have h2 := putI_snoc (c := #[.int .i64 0, .int .i64 0, .int .i64 0, .int .i64 0, .int .i64 0, .int .i64 0, .int .i64 0]) (vs := (numsI su2 q).1) (by rw [numsI_length]; exact hlt) (numI (numsI su2 q).2).1
                    rw [numsI_length] at h2
                    exact h2
                  rw [e]
                  exact this
              case measure => simp [intOf]; omega
            · obtain rfl : q = 7 := by omega
              rw [put7 (numsI_length _ 7)] at bLj
              obtain ⟨c, hc⟩ : ∃ x, mkC (numsI su2 7).1 = x := ⟨_, rfl⟩
              rw [hc] at bLj
              have bL' : Blk wr wp.heap.size #[.int .i64 c.player, .int .i64 c.op, .int .i64 c.id, .int .i64 c.kind, .int .i64 c.x, .int .i64 c.y, .int .i64 c.target] := bLj
              have ownj := own_kp OWNJ.out kj (fun b hb e => by have := EVB.out b hb; omega)
              have kpj := KRJ.out.trans kj (fun c hc e => by rcases e with h | h; exact h; omega)
              obtain ⟨lL, cL, -⟩ := id bL'
              obtain ⟨i1, hj0, hj1, hj2, hj3⟩ := infoCmds
              have hbz : Below wr.heap.size wr (wr.alloc (.cells #[.int .i64 c.player, .int .i64 c.op, .int .i64 c.id, .int .i64 c.kind, .int .i64 c.x, .int .i64 c.y, .int .i64 c.target] 99)) := (Below.refl _ _).alloc (Nat.le_refl _) _
              have oB := own_kp ownj (kp_of hbz (fun _ => False)) (fun _ _ x => x)
              obtain ⟨g2, cap, w6, r6, own6, grow6, hat6, lt6⟩ := run_append_lies (P := Try.prog) (wr.alloc (.cells #[.int .i64 c.player, .int .i64 c.op, .int .i64 c.id, .int .i64 c.kind, .int .i64 c.x, .int .i64 c.y, .int .i64 c.target] 99)) 91 91 w4.heap.size 99 i1 _ 7 56 Try.underlying91 hj0 hj1 hj2 hj3 rfl (by omega) (.slice lva j lvc) j (cellsAllC (cmsI false s4 j).1) oB ⟨wr.heap.size, 0, none⟩ 1 1 (cellsC c) rfl (World.news_of_block (cs := #[.int .i64 c.player, .int .i64 c.op, .int .i64 c.id, .int .i64 c.kind, .int .i64 c.x, .int .i64 c.y, .int .i64 c.target]) (t := 99) (fr := (0, 0)) (heap_alloc_new wr _)) (by intro q hq; simp [cellsC] at hq; rcases hq with h | h | h | h | h | h | h <;> rw [h] <;> rfl) (by omega) (by unfold maxLen; omega) (by omega) (by have := hbz.size; have := kpj.size; omega) (wr.heap.size + 1) (by simp)
              have kg := Kp.grown grow6
              have hSev : (Value.slice lva j lvc).ownBlock ≠ some S := fun e => by have := (EVB.out _ e).1; omega
              have bS6 := (bSj.call hbz).kp kg (fun e => hSev e.symm)
              have kp6 := (kpj.then_ hbz).trans kg (fun c hc e => by have := (EVB.out c e.symm).1; omega)
              have HC := Lib.hid hc
              have OWN6 := Lib.hid own6
              have BS6 := Lib.hid bS6
              have KP6 := Lib.hid kp6
              clear hj0 hj1 hj2 hj3 hbz oB own6 grow6 hat6 kg ownj bLj bL' bSj kj kpj bS6 kp6 hc hSev
              go_wp2_with (at_builtin; refine list_run_append (by rfl) _ _ _ _ (by rfl) (by rfl) (by rfl) (by rfl) r6 ?_)
              go_roundw
              case rel =>
                refine ⟨m2 - 1, j + 1, intv (by omega), by omega, ?_, ?_, KP6.out⟩
                · have e : (cmsI false s4 (j + 1)).2 = (numsI su2 7).2 := by rw [← HSU2.out]; exact cms_st false s4 j
                  rw [e]
                  exact BS6.out
                · have e : cellsAllC (cmsI false s4 (j + 1)).1 = cellsAllC (cmsI false s4 j).1 ++ cellsC c := by rw [← HC.out, ← HSU2.out]; exact cms_succ s4 j
                  rw [e]
                  exact OWN6.out
              case measure => simp [intOf]; omega
        subst hm0
        obtain rfl : j = N8 := by omega
        have e1 : decide ((0 : Int) < ((0 : Nat) : Int)) = false := decide_eq_false (by omega)
        have hti : tickI false (ticksI false s3 k).2 = cmsI false s4 j := by
          obtain ⟨h1, h2⟩ := HM.out
          unfold tickI
          rw [h1, h2, Int.toNat_natCast]
        obtain ⟨L, hL⟩ : ∃ x, (cmsI false s4 j).1 = x := ⟨_, rfl⟩
        have hLl : L.length = j := by rw [← hL]; exact cmsI_length _ _ _
        obtain ⟨TL, hTL⟩ : ∃ x, (ticksI false s3 k).1 = x := ⟨_, rfl⟩
        have hTLl : TL.length = k := by rw [← hTL]; exact ticksI_length _ _ _
        have bKj := K4.out.kp kr (by omega)
        have hbz : Below wr.heap.size wr (wr.alloc (.cells #[.slice lva j lvc] 91)) := (Below.refl _ _).alloc (Nat.le_refl _) _
        have ownL : (wr.alloc (.cells #[.slice lva j lvc] 91)).ownsRow V.heap.size 99 7 (.slice lva j lvc) L.length (L.flatMap cellsC) := by
          rw [hLl]
          rw [hL] at own
          exact own_base (own_kp own (kp_of hbz (fun _ => False)) (fun _ _ x => x)) (by omega)
        have tj := (T4.out.kp kr (fun b hb _ e => by omega)).kp (kp_of hbz (fun _ => False)) (fun _ _ _ x => x)
        rw [hTL] at tj
        obtain ⟨cs, ownT, snoc⟩ := tj.snoc (by decide) L (.slice lva j lvc) ownL
        obtain ⟨tva, tvc, htv⟩ := own_slice ownT
        subst htv
        rw [hTLl] at ownT snoc bKj
        obtain ⟨i1, hj0, hj1, hj2, hj3⟩ := infoTick
        have TVB : ∀ b, (Value.slice tva k tvc).ownBlock = some b → V.heap.size ≤ b := fun b hb => (World.ownsRow.lt ownT b hb).1
        obtain ⟨g2, cap, w7, r7, own7, grow7, hat7, lt7⟩ := run_append_lies (P := Try.prog) (wr.alloc (.cells #[.slice lva j lvc] 91)) 92 92 V.heap.size 91 i1 _ 1 24 Try.underlying92 hj0 hj1 hj2 hj3 rfl (by omega) (.slice tva k tvc) k cs ownT ⟨wr.heap.size, 0, none⟩ 1 1 [.slice lva j lvc] rfl (World.news_of_block (cs := #[.slice lva j lvc]) (t := 91) (fr := (0, 0)) (heap_alloc_new wr _)) (by intro q hq; simp at hq; rw [hq]; rfl) (by omega) (by unfold maxLen; omega) (by omega) (by have := hbz.size; have := kr.size; omega) (wr.heap.size + 1) (by simp)
        have kg := Kp.grown grow7
        have hne1 : (Value.slice tva k tvc).ownBlock ≠ some w2.heap.size := fun e => by have := TVB _ e; omega
        have hne2 : (Value.slice tva k tvc).ownBlock ≠ some S := fun e => by have := TVB _ e; omega
        have bK7 := (bKj.call hbz).kp kg (fun e => hne1 e.symm)
        have bS7 := (bS.call hbz).kp kg (fun e => hne2 e.symm)
        have kp7 := (((KP4.out.trans kr (fun _ _ h => Or.inl h)).then_ hbz).trans kg (fun c hc e => by have := TVB c e.symm; omega)).andset ⟨w2.heap.size, 6, none⟩ (.slice (some ⟨g2, 0, none⟩) (k + 1) cap) (Or.inr rfl)
        have town7 := snoc w7 _ kg own7
        obtain ⟨lKj, cKj, -⟩ := id bKj
        obtain ⟨lK7, cK7, fK7⟩ := id bK7
        have HTI := Lib.hid hti
        have HLL := Lib.hid hL
        have HTL := Lib.hid hTL
        have BS7 := Lib.hid bS7
        have BK7 := Lib.hid bK7
        have KP7 := Lib.hid kp7
        have T7 := Lib.hid town7
        clear hti hL hLl hTL bKj hbz ownL tj ownT snoc hj0 hj1 hj2 hj3 own7 grow7 hat7 kg hne1 hne2 bK7 bS7 kp7 town7 own bS kr TVB hTLl
        go_wp2_with (at_builtin; refine list_run_append (by rfl) _ _ _ _ (by rfl) (by rfl) (by rfl) (by rfl) r7 ?_)
        go_roundw
        case rel =>
          refine ⟨m - 1, k + 1, intv (by omega), by omega, ?_, ⟨.slice (some ⟨g2, 0, none⟩) (k + 1) cap, ?_, ?_⟩, KP7.out⟩
          · rw [ticks_st, HTI.out]
            exact BS7.out.other (by omega)
          · have := BK7.out.store (.slice (some ⟨g2, 0, none⟩) (k + 1) cap) (i := 6) (by simp)
            simpa using this
          · rw [ticks_succ, HTI.out, HTL.out, HLL.out]
            exact T7.out.kp (Kp.setCell w7 ⟨w2.heap.size, 6, none⟩ _) (fun b hb _ e => by have h2 : b = w2.heap.size := e; omega)
        case measure => simp [intOf]; omega
    subst hm0
    obtain rfl : k = n := by omega
    have d1 : decide ((0 : Int) < ((0 : Nat) : Int)) = false := decide_eq_false (by omega)
    obtain ⟨q, hq⟩ : ∃ x, ticksI false s3 k = x := ⟨_, rfl⟩
    rw [hq] at bS town
    have hT : tapeI false (openL 84 l) = (r.1, q) := by
      obtain ⟨h1, h2⟩ := HN.out
      rw [HST.out]
      show ((elderI st).1, ticksI false (manyI (elderI st).2 60).2 (manyI (elderI st).2 60).1.toNat) = _
      rw [HR.out, h1, h2, Int.toNat_natCast, hq]
    have HT := Lib.hid hT
    obtain ⟨ta, ct, htv, htl, htr⟩ := trow_of town
    subst htv
    have TOWN := Lib.hid town
    have BS := Lib.hid bS
    have BK := Lib.hid bK
    have KRR := Lib.hid (KRV.out.kp kr (fun h => by rcases h with h | h <;> omega))
    have OFR := Lib.hid (own_kp OFV.out kr (fun b hb h => by have := LOF.out b hb; omega))
    have OER := Lib.hid (own_kp OEV.out kr (fun b hb h => by have := LOE.out b hb; omega))
    have HBR : Hid (Below w.heap.size w wr) := Lib.hid (HBV.out.trans (kr.below (fun b hb => by omega) (by omega)))
    have HTR := Lib.hid htr
    clear bS bK town kr hq hT htr
    go_wp2_with fail
    refine (over_ref q.2 S _ BS.out).mono ?_
    rintro e w5 ⟨rfl, rfl⟩
    obtain ⟨f, hf⟩ : ∃ f, endI q.2 = f := ⟨_, rfl⟩
    rw [hf]
    have HF := Lib.hid hf
    obtain ⟨lR3, cR3, fR3⟩ := id KRR.out
    obtain ⟨lV2, cV2, -⟩ := id BK.out
    clear hf
    by_cases h0 : f = 0
    case neg =>
      have HFA : Hid (tapeF false l = f) := Lib.hid (by
        have e : endI (tapeI false (openL (kindT false) l)).2.2 = f := by
          show endI (tapeI false (openL 84 l)).2.2 = f
          rw [HT.out, HF.out]
        show _ = _
        unfold tapeF
        rw [e, if_pos h0])
      have HF0 := Lib.hid h0
      have d1 : ((f : Int) == 0) = false := beq_eq_false_iff_ne.2 (by omega)
      have d1' : (f == 0) = false := beq_eq_false_iff_ne.2 h0
      have d2 : decide ((0 : Int) < (f : Int)) = true := decide_eq_true (by omega)
      have d2' : decide (0 < f) = true := decide_eq_true (by omega)
      clear h0
      go_wp2_with fail
      refine bodyPost_ret (v := .tuple #[.agg #[.int .i64 0, .int .i64 0, .int .i64 0, .int .i64 0, .slice none 0 0, .slice none 0 0, .slice none 0 0], .int .i64 f]) (ret_cell2 Try.results81 rfl rfl (KRR.out.store7 rfl (.int .i64 0) (.int .i64 0) (.int .i64 0) (.int .i64 0) (.slice none 0 0) (.slice none 0 0) (.slice none 0 0)) Try.underlying94 rfl infoTape) rfl ?_
      refine ⟨fun _ => by rw [HFA.out], fun h => absurd (HFA.out.symm.trans h) HF0.out, ?_⟩
      iterate 7 (refine Below.setCell ?_ (by simp) _)
      exact HBR.out
    subst h0
    go_wp2_with fail
    refine (reftapeFault_any r.1 fa ua ta cf cu ct HNEW.out (by omega) (by omega) q.1 htl _ (ints_row rfl OFR.out) (ents_row rfl OER.out) HTR.out).mono ?_
    rintro e w6 ⟨rfl, b6⟩
    obtain ⟨f, hf⟩ : ∃ f, tapeFault r.1 q.1 = f := ⟨_, rfl⟩
    rw [hf]
    have HSF : Hid (tapeF false l = f) := Lib.hid (by
      have e : tapeI false (openL (kindT false) l) = (r.1, q) := HT.out
      show tapeF false l = f
      unfold tapeF
      rw [e]
      dsimp only
      rw [HF.out, if_neg (by simp), ← hf]
      rfl)
    have hsr := HBR.out.size
    have HB6 := Lib.hid (HBR.out.trans (b6.mono (by omega)))
    have k6 := KRR.out.call b6
    obtain ⟨lR4, cR4, fR4⟩ := id k6
    have kv6 := BK.out.call b6
    obtain ⟨lV4, cV4, -⟩ := id kv6
    have K6 := Lib.hid k6
    have hs6 := b6.size
    have OF6 := Lib.hid (own_kp OFR.out (kp_of b6 (fun _ => False)) (fun _ _ x => x))
    have OE6 := Lib.hid (own_kp OER.out (kp_of b6 (fun _ => False)) (fun _ _ x => x))
    have T6 := Lib.hid (TOWN.out.kp (kp_of b6 (fun _ => False)) (fun _ _ _ x => x))
    clear b6 k6 kv6 hf cV2 cR3 fR3 lV2 lR3
    by_cases h0 : f = 0
    case neg =>
      have HFA := Lib.hid h0
      have d2 : decide ((0 : Int) < (f : Int)) = true := decide_eq_true (by omega)
      have d2' : decide (0 < f) = true := decide_eq_true (by omega)
      clear h0
      go_wp2_with fail
      refine bodyPost_ret (v := .tuple #[.agg #[.int .i64 0, .int .i64 0, .int .i64 0, .int .i64 0, .slice none 0 0, .slice none 0 0, .slice none 0 0], .int .i64 f]) (ret_cell2 Try.results81 rfl rfl (K6.out.store7 rfl (.int .i64 0) (.int .i64 0) (.int .i64 0) (.int .i64 0) (.slice none 0 0) (.slice none 0 0) (.slice none 0 0)) Try.underlying94 rfl infoTape) rfl ?_
      refine ⟨fun _ => by rw [HSF.out], fun h => absurd (HSF.out.symm.trans h) HFA.out, ?_⟩
      iterate 7 (refine Below.setCell ?_ (by simp) _)
      exact HB6.out
    subst h0
    go_wp2_with fail
    refine bodyPost_ret (v := .tuple #[.agg #[.int .i64 r.1.tick, .int .i64 r.1.g0, .int .i64 r.1.g1, .int .i64 r.1.next, .slice fa r.1.free.length cf, .slice ua r.1.us.length cu, .slice ta q.1.length ct], .int .i64 0]) (ret_cell2 Try.results81 rfl rfl (K6.out.store7 rfl (.int .i64 r.1.tick) (.int .i64 r.1.g0) (.int .i64 r.1.g1) (.int .i64 r.1.next) (.slice fa r.1.free.length cf) (.slice ua r.1.us.length cu) (.slice ta q.1.length ct)) Try.underlying94 rfl infoTape) rfl ?_
    have XK := (((((((Kp.refl (fun b => b = w.heap.size) w6).andset ⟨w.heap.size, 0, none⟩ (.int .i64 r.1.tick) rfl).andset ⟨w.heap.size, 1, none⟩ (.int .i64 r.1.g0) rfl).andset ⟨w.heap.size, 2, none⟩ (.int .i64 r.1.g1) rfl).andset ⟨w.heap.size, 3, none⟩ (.int .i64 r.1.next) rfl).andset ⟨w.heap.size, 4, none⟩ (.slice fa r.1.free.length cf) rfl).andset ⟨w.heap.size, 5, none⟩ (.slice ua r.1.us.length cu) rfl).andset ⟨w.heap.size, 6, none⟩ (.slice ta q.1.length ct) rfl
    unfold TapeReadEnd
    rw [HT.out]
    have UR : URow false _ _ ua r.1.us := (ents_row rfl (own_kp OE6.out XK (fun b hb e => by have h := (LOE.out b hb).1; have e2 : b = w.heap.size := e; omega)))
    have FR := ints_row rfl (own_kp OF6.out XK (fun b hb e => by have h := (LOF.out b hb).1; have e2 : b = w.heap.size := e; omega))
    refine ⟨fun h => absurd HSF.out h, fun _ => ⟨fa, cf, ua, cu, ta, ct, rfl, FR, UR, ?_⟩, ?_⟩
    · obtain ⟨a', c', e', -, h'⟩ := trow_of (T6.out.kp XK (fun b hb _ e => by have e2 : b = w.heap.size := e; omega))
      cases e'
      exact h'
    · iterate 7 (refine Below.setCell ?_ (by simp) _)
      exact HB6.out
end Go.Proofs.Ytlfljlhppigejaa
