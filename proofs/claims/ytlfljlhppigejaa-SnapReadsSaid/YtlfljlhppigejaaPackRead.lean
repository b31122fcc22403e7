/-
  The walks of the document's numbers that are read: next, upTo, over, begun. The walk of the document's newer: a state's numbers that are read. The walk of the document's elder: a state's numbers that are read.
-/
import Derived.Test.YtlfljlhppigejaaPackIn
import Derived.Test.YtlfljlhppigejaaWireRef
import Derived.Test.YtlfljlhppigejaaPackInNE
import Derived.Test.YtlfljlhppigejaaPackRef
namespace Go.Proofs.Ytlfljlhppigejaa
open Go.RowKit

/-- What is left to be read, and the error's number: as the document holds it. -/
def rnC (st : St) : Array Value := #[.string (bstr st.1), .int .i64 (st.2 : Nat)]

set_option maxHeartbeats 1600000 in
set_option maxRecDepth 100000 in
theorem next_ref (st : St) (S : Nat) (w : World) (h : Blk w S (rnC st)) (hlen : st.1.length ≤ 1000000) :
    Calls Try.prog 145 #[.pointer (some ⟨S, 0, none⟩)] w fun e w' => e = .returned (.int .i64 (numI st).1) ∧ Blk w' S (rnC (numI st).2) ∧ Kp (fun b => b = S) w w' := by
  obtain ⟨l, f⟩ := st
  unfold rnC at h
  dsimp only at h hlen
  obtain ⟨lS, cS, fS⟩ := id h
  have HH := Lib.hid h
  clear h
  by_cases hf : f = 0
  case neg =>
    have d : decide ((0 : Int) < (f : Int)) = true := decide_eq_true (by omega)
    have d' : decide (0 < f) = true := decide_eq_true (by omega)
    have hr : numI (l, f) = (0, (l, f)) := by unfold numI; rw [if_pos hf]
    have HR := Lib.hid hr
    clear hf hr
    go_enter Try.func145, Try.ntmps145
    go_wp2_with fail
    go_ret
    rw [HR.out]
    exact ⟨rfl, HH.out, Kp.refl _ _⟩
  subst hf
  obtain ⟨r, hr⟩ : ∃ r, takeL l = r := ⟨_, rfl⟩
  have HR := Lib.hid hr
  clear hr
  have htk := reftake_any (bstr l) (by rw [bstr_size]; omega) w
  rw [bstr_list] at htk
  have HTK := Lib.hid htk
  clear htk
  go_enter Try.func145, Try.ntmps145
  go_wp2_with fail
  refine (HTK.out).mono ?_
  rintro e w1 ⟨rfl, b1⟩
  rw [HR.out]
  obtain ⟨m, left, ef⟩ := r
  have h1 := HH.out.call b1
  obtain ⟨lS1, cS1, fS1⟩ := id h1
  have H1 := Lib.hid h1
  have K1 := Lib.hid (kp_of b1 (fun b => b = S))
  clear b1 h1 cS fS lS
  dsimp only
  by_cases he : ef = 0
  case neg =>
    have d : decide ((0 : Int) < (ef : Int)) = true := decide_eq_true (by omega)
    have d' : decide (0 < ef) = true := decide_eq_true (by omega)
    have hr2 : numI (l, 0) = (0, (l, ef)) := by
      unfold numI
      rw [if_neg (by simp), HR.out, if_pos he]
    have HE := Lib.hid he
    have HR2 := Lib.hid hr2
    clear he hr2
    go_wp2_with fail
    go_ret
    rw [HR2.out]
    refine ⟨rfl, ?_, K1.out.andset _ _ rfl⟩
    have := H1.out.store (.int .i64 (ef : Nat)) (i := 1) (by simp)
    unfold rnC
    simpa using this
  subst he
  have hr2 : numI (l, 0) = ((m : Int), (left, 0)) := by
    unfold numI
    rw [if_neg (by simp), HR.out, if_neg (by simp)]
  have HR2 := Lib.hid hr2
  clear hr2
  go_wp2_with fail
  go_ret
  rw [HR2.out]
  refine ⟨rfl, ?_, K1.out.andset _ _ rfl⟩
  have := H1.out.store (.string (bstr left)) (i := 0) (by simp)
  unfold rnC
  simpa using this

set_option maxHeartbeats 3200000 in
set_option maxRecDepth 100000 in
theorem upto_ref (st : St) (most : Int) (S : Nat) (w : World) (h : Blk w S (rnC st)) (hlen : st.1.length ≤ 1000000) :
    Calls Try.prog 144 #[.pointer (some ⟨S, 0, none⟩), .int .i64 most] w fun e w' => e = .returned (.int .i64 (manyI st most).1) ∧ Blk w' S (rnC (manyI st most).2) ∧ Kp (fun b => b = S) w w' := by
  have H := Lib.hid h
  clear h
  go_enter Try.func144, Try.ntmps144
  go_wp2_with fail
  refine (next_ref st S w H.out hlen).mono ?_
  rintro e w1 ⟨rfl, b1, k1⟩
  obtain ⟨⟨n, l, f⟩, hr⟩ : ∃ r, numI st = r := ⟨_, rfl⟩
  rw [hr] at b1 ⊢
  have HR := Lib.hid hr
  unfold rnC at b1
  dsimp only at b1 ⊢
  obtain ⟨lS, cS, fS⟩ := id b1
  have B1 := Lib.hid b1
  have K1 := Lib.hid k1
  clear b1 k1 hr
  by_cases hf : f = 0
  case neg =>
    have d : ((f : Int) == 0) = false := beq_eq_false_iff_ne.2 (by omega)
    have dn : (f == 0) = false := beq_eq_false_iff_ne.2 hf
    have d2 : decide ((0 : Int) < (f : Int)) = true := decide_eq_true (by omega)
    have d2' : decide (0 < f) = true := decide_eq_true (by omega)
    have hm : manyI st most = (0, (l, f)) := by unfold manyI; rw [HR.out, if_pos hf]
    have HM := Lib.hid hm
    clear hf hm
    go_wp2_with fail
    go_ret
    rw [HM.out]
    exact ⟨rfl, B1.out, K1.out⟩
  subst hf
  by_cases hmost : most < n
  · have d : decide (most < n) = true := decide_eq_true hmost
    have hm : manyI st most = (0, (l, 2)) := by unfold manyI; rw [HR.out, if_neg (by simp), if_pos hmost]
    have HM := Lib.hid hm
    clear hmost hm
    go_wp2_with fail
    go_ret
    rw [HM.out]
    refine ⟨rfl, ?_, K1.out.andset _ _ rfl⟩
    have := B1.out.store (.int .i64 2) (i := 1) (by simp)
    simpa [rnC] using this
  · have d : decide (most < n) = false := decide_eq_false hmost
    have hm : manyI st most = (n, (l, 0)) := by unfold manyI; rw [HR.out, if_neg (by simp), if_neg hmost]
    have HM := Lib.hid hm
    clear hmost hm
    go_wp2_with fail
    go_ret
    rw [HM.out]
    exact ⟨rfl, B1.out, K1.out⟩

set_option maxHeartbeats 3200000 in
set_option maxRecDepth 100000 in
theorem over_ref (st : St) (S : Nat) (w : World) (h : Blk w S (rnC st)) :
    Calls Try.prog 140 #[.pointer (some ⟨S, 0, none⟩)] w fun e w' => e = .returned (.int .i64 (endI st : Nat)) ∧ w = w' := by
  obtain ⟨l, f⟩ := st
  unfold rnC at h
  dsimp only at h
  obtain ⟨lS, cS, fS⟩ := id h
  clear h
  by_cases hf : f = 0
  case neg =>
    have d : ((f : Int) == 0) = false := beq_eq_false_iff_ne.2 (by omega)
    have dn : (f == 0) = false := beq_eq_false_iff_ne.2 hf
    have hm : endI (l, f) = f := by unfold endI; rw [if_neg (fun h => hf h.1)]
    have HM := Lib.hid hm
    clear hf hm
    go_enter Try.func140, Try.ntmps140
    go_wp2_with fail
    go_ret
    exact ⟨ret1 (by rw [HM.out]; rfl), rfl⟩
  subst hf
  by_cases hl : l = []
  · have d : (bstr l).toList.isEmpty = true := by rw [Lib.toList_data, bstr_list, hl]; rfl
    have hm : endI (l, 0) = 0 := by unfold endI; rw [if_neg (fun h => h.2 hl)]
    have HM := Lib.hid hm
    clear hl hm
    go_enter Try.func140, Try.ntmps140
    go_wp2_with fail
    go_ret
    exact ⟨ret1 (by rw [HM.out]; rfl), rfl⟩
  · have d : (bstr l).toList.isEmpty = false := by
      rw [Lib.toList_data, bstr_list]
      cases l with
      | nil => exact absurd rfl hl
      | cons _ _ => rfl
    have hm : endI (l, 0) = 7 := by unfold endI; rw [if_pos ⟨rfl, hl⟩]
    have HM := Lib.hid hm
    clear hl hm
    go_enter Try.func140, Try.ntmps140
    go_wp2_with fail
    go_ret
    exact ⟨ret1 (by rw [HM.out]; rfl), rfl⟩

set_option maxHeartbeats 1600000 in
set_option maxRecDepth 100000 in
theorem begun_any (k : UInt8) (s : ByteArray) (hs : s.size ≤ 900000) (w : World) :
    Calls Try.prog 138 #[.int .u8 (k.toNat : Int), .string s] w fun e w' => ∃ S, e = .returned (.pointer (some ⟨S, 0, none⟩)) ∧ w.heap.size ≤ S ∧ Blk w' S (rnC (openL k s.data.toList)) ∧ Below w.heap.size w w' := by
  obtain ⟨r, hr⟩ : ∃ r, openL k s.data.toList = r := ⟨_, rfl⟩
  have HR := Lib.hid hr
  have HO := Lib.hid (opened_any k s hs w)
  rw [hr]
  clear hr
  go_enter Try.func138, Try.ntmps138
  go_wp2_with fail
  refine (HO.out).mono ?_
  rintro e w1 ⟨rfl, b1⟩
  rw [HR.out]
  obtain ⟨l, f⟩ := r
  have B1 := Lib.hid b1
  have hs1 := b1.size
  clear b1
  dsimp only
  go_wp2_with fail
  go_ret
  exact ⟨w1.heap.size, rfl, hs1, Blk.new w1 #[.string (bstr l), .int .i64 (f : Nat)] _, B1.out.alloc hs1 _⟩
end Go.Proofs.Ytlfljlhppigejaa
namespace Go.Proofs.Ytlfljlhppigejaa
open Go.RowKit

theorem four0 (st : St) : (numsI st 4).1.getD 0 0 = (numI st).1 := rfl
theorem four1 (st : St) : (numsI st 4).1.getD 1 0 = (numI (numsI st 1).2).1 := rfl
theorem four2 (st : St) : (numsI st 4).1.getD 2 0 = (numI (numsI st 2).2).1 := rfl
theorem four3 (st : St) : (numsI st 4).1.getD 3 0 = (numI (numsI st 3).2).1 := rfl
theorem one_st (st : St) : (numsI st 1).2 = (numI st).2 := rfl

set_option maxHeartbeats 12800000 in
set_option maxRecDepth 100000 in
theorem newer_ref (st : St) (S : Nat) (w : World) (h : Blk w S (rnC st)) (hlen : st.1.length ≤ 1000000) :
    Calls Try.prog 141 #[.pointer (some ⟨S, 0, none⟩)] w fun e w' => ∃ ev, e = .returned (.agg #[.int .i64 (newerI st).1.tick, .int .i64 (newerI st).1.g0, .int .i64 (newerI st).1.g1, .int .i64 (newerI st).1.next, ev]) ∧
      Blk w' S (rnC (newerI st).2) ∧ Kp (fun b => b = S) w w' ∧ w'.ownsRow w.heap.size 130 11 ev (newerI st).1.us.length (cellsAllN (newerI st).1.us) := by
  obtain ⟨W, hW⟩ : ∃ W, (w.alloc (.cells #[.int .i64 0, .int .i64 0, .int .i64 0, .int .i64 0, .slice none 0 0] 65)).alloc (.cells #[.int .i64 0, .int .i64 0, .int .i64 0, .int .i64 0, .slice none 0 0] 65) = W := ⟨_, rfl⟩
  have hbW : Below w.heap.size w W := by rw [← hW]; exact ((Below.refl _ _).alloc (Nat.le_refl _) _).alloc (by simp) _
  have k1 : Blk W w.heap.size #[.int .i64 0, .int .i64 0, .int .i64 0, .int .i64 0, .slice none 0 0] := by rw [← hW]; exact (Blk.new w _ _).alloc _
  have k2 : Blk W (w.heap.size + 1) #[.int .i64 0, .int .i64 0, .int .i64 0, .int .i64 0, .slice none 0 0] := by
    rw [← hW]
    have := Blk.new (w.alloc (.cells #[.int .i64 0, .int .i64 0, .int .i64 0, .int .i64 0, .slice none 0 0] 65)) #[.int .i64 0, .int .i64 0, .int .i64 0, .int .i64 0, .slice none 0 0] 65
    simpa using this
  have hWs : W.heap.size = w.heap.size + 2 := by rw [← hW]; simp
  have hSw := h.lt
  have H := Lib.hid (h.call hbW)
  have K1 := Lib.hid k1
  have K2 := Lib.hid k2
  have HB := Lib.hid hbW
  have HWS := Lib.hid hWs
  have hKW := k2.lt
  clear h hbW k1 hWs
  go_enter Try.func141, Try.ntmps141
  go_upto_region 2 with fail
  try rw [hW]
  clear hW
  have hl : ∀ j, (numsI st j).2.1.length ≤ 1000000 := fun j => Nat.le_trans (numsI_shrinks st j) hlen
  have HL := Lib.hid hl
  clear hl
  go_wp2_with fail
  refine (next_ref st S W H.out hlen).mono ?_
  rintro e a0 ⟨rfl, bS0, kp0⟩
  obtain ⟨t0, ht0⟩ : ∃ x, (numI st).1 = x := ⟨_, rfl⟩
  rw [ht0]
  have HT0 := Lib.hid ht0
  have bK0 := (K2.out).kp kp0 (by omega)
  obtain ⟨lK0, cK0, fK0⟩ := id bK0
  have q0 := bK0.store (.int .i64 t0) (i := 0) (by simp)
  have BS0 := Lib.hid ((bS0).other (T := w.heap.size + 1) (i := 0) (v := .int .i64 t0) (by omega))
  have KP0 := Lib.hid ((kp0.imp (fun _ _ h => Or.inl h) : Kp (fun b => b = S ∨ b = w.heap.size + 1) W a0).andset ⟨w.heap.size + 1, 0, none⟩ (.int .i64 t0) (Or.inr rfl))
  have BK0 : Hid (Blk (a0.setCell ⟨w.heap.size + 1, 0, none⟩ (.int .i64 t0)) (w.heap.size + 1) #[.int .i64 t0, .int .i64 0, .int .i64 0, .int .i64 0, .slice none 0 0]) := Lib.hid (by simpa using q0)
  have hsz0 := KP0.out.size
  clear ht0 bS0 kp0 bK0 q0
  go_wp2_with fail
  refine (next_ref (numsI st 1).2 S _ BS0.out (HL.out 1)).mono ?_
  rintro e a1 ⟨rfl, bS1, kp1⟩
  obtain ⟨t1, ht1⟩ : ∃ x, (numI (numsI st 1).2).1 = x := ⟨_, rfl⟩
  rw [ht1]
  have HT1 := Lib.hid ht1
  have bK1 := (BK0.out).kp kp1 (by omega)
  obtain ⟨lK1, cK1, fK1⟩ := id bK1
  have q1 := bK1.store (.int .i64 t1) (i := 1) (by simp)
  have BS1 := Lib.hid ((bS1).other (T := w.heap.size + 1) (i := 1) (v := .int .i64 t1) (by omega))
  have KP1 := Lib.hid ((KP0.out.trans kp1 (fun _ _ h => Or.inl h)).andset ⟨w.heap.size + 1, 1, none⟩ (.int .i64 t1) (Or.inr rfl))
  have BK1 : Hid (Blk (a1.setCell ⟨w.heap.size + 1, 1, none⟩ (.int .i64 t1)) (w.heap.size + 1) #[.int .i64 t0, .int .i64 t1, .int .i64 0, .int .i64 0, .slice none 0 0]) := Lib.hid (by simpa using q1)
  have hsz1 := KP1.out.size
  clear ht1 bS1 kp1 bK1 q1
  go_wp2_with fail
  refine (next_ref (numsI st 2).2 S _ BS1.out (HL.out 2)).mono ?_
  rintro e a2 ⟨rfl, bS2, kp2⟩
  obtain ⟨t2, ht2⟩ : ∃ x, (numI (numsI st 2).2).1 = x := ⟨_, rfl⟩
  rw [ht2]
  have HT2 := Lib.hid ht2
  have bK2 := (BK1.out).kp kp2 (by omega)
  obtain ⟨lK2, cK2, fK2⟩ := id bK2
  have q2 := bK2.store (.int .i64 t2) (i := 2) (by simp)
  have BS2 := Lib.hid ((bS2).other (T := w.heap.size + 1) (i := 2) (v := .int .i64 t2) (by omega))
  have KP2 := Lib.hid ((KP1.out.trans kp2 (fun _ _ h => Or.inl h)).andset ⟨w.heap.size + 1, 2, none⟩ (.int .i64 t2) (Or.inr rfl))
  have BK2 : Hid (Blk (a2.setCell ⟨w.heap.size + 1, 2, none⟩ (.int .i64 t2)) (w.heap.size + 1) #[.int .i64 t0, .int .i64 t1, .int .i64 t2, .int .i64 0, .slice none 0 0]) := Lib.hid (by simpa using q2)
  have hsz2 := KP2.out.size
  clear ht2 bS2 kp2 bK2 q2
  go_wp2_with fail
  refine (next_ref (numsI st 3).2 S _ BS2.out (HL.out 3)).mono ?_
  rintro e a3 ⟨rfl, bS3, kp3⟩
  obtain ⟨t3, ht3⟩ : ∃ x, (numI (numsI st 3).2).1 = x := ⟨_, rfl⟩
  rw [ht3]
  have HT3 := Lib.hid ht3
  have bK3 := (BK2.out).kp kp3 (by omega)
  obtain ⟨lK3, cK3, fK3⟩ := id bK3
  have q3 := bK3.store (.int .i64 t3) (i := 3) (by simp)
  have BS3 := Lib.hid ((bS3).other (T := w.heap.size + 1) (i := 3) (v := .int .i64 t3) (by omega))
  have KP3 := Lib.hid ((KP2.out.trans kp3 (fun _ _ h => Or.inl h)).andset ⟨w.heap.size + 1, 3, none⟩ (.int .i64 t3) (Or.inr rfl))
  have BK3 : Hid (Blk (a3.setCell ⟨w.heap.size + 1, 3, none⟩ (.int .i64 t3)) (w.heap.size + 1) #[.int .i64 t0, .int .i64 t1, .int .i64 t2, .int .i64 t3, .slice none 0 0]) := Lib.hid (by simpa using q3)
  have hsz3 := KP3.out.size
  clear ht3 bS3 kp3 bK3 q3
  obtain ⟨s1, hs1⟩ : ∃ x, (numsI st 4).2 = x := ⟨_, rfl⟩
  have hl1 : s1.1.length ≤ 1000000 := by rw [← hs1]; exact HL.out 4
  have BS4 : Hid (Blk (a3.setCell ⟨w.heap.size + 1, 3, none⟩ (.int .i64 t3)) S (rnC s1)) := Lib.hid (by rw [← hs1]; exact BS3.out)
  have HT : Hid ((numsI st 4).1.getD 0 0 = t0 ∧ (numsI st 4).1.getD 1 0 = t1 ∧ (numsI st 4).1.getD 2 0 = t2 ∧ (numsI st 4).1.getD 3 0 = t3 ∧ (numsI st 4).2 = s1) := Lib.hid ⟨HT0.out, HT1.out, HT2.out, HT3.out, hs1⟩
  clear hs1 HT0 HT1 HT2 HT3 cK0 cK1 cK2 fK0 fK1 fK2 lK0 lK1 lK2 k2
  go_wp2_with fail
  refine (upto_ref s1 20 S _ BS4.out hl1).mono ?_
  rintro e b0 ⟨rfl, bSb, kpb⟩
  have hrg := manyI_range s1 20 (by omega)
  obtain ⟨nI, hnI⟩ : ∃ x, (manyI s1 20).1 = x := ⟨_, rfl⟩
  obtain ⟨su, hsu⟩ : ∃ x, (manyI s1 20).2 = x := ⟨_, rfl⟩
  have hlu : su.1.length ≤ 1000000 := by rw [← hsu]; exact Nat.le_trans (manyI_shrinks s1 20) hl1
  rw [hnI] at hrg ⊢
  rw [hsu] at bSb
  obtain ⟨n, rfl⟩ := Int.eq_ofNat_of_zero_le hrg.1
  have hn20 : n ≤ 20 := by omega
  have HN := Lib.hid (show (manyI s1 20).1 = (n : Int) ∧ (manyI s1 20).2 = su from ⟨hnI, hsu⟩)
  have bKb := BK3.out.kp kpb (by omega)
  have BSB := Lib.hid bSb
  have BKB := Lib.hid bKb
  have KPB := Lib.hid ((KP3.out).trans kpb (fun _ _ h => Or.inl h))
  have hszb := KPB.out.size
  clear bSb kpb bKb hnI hsu hrg cK3 fK3 lK3
  go_wp2_with fail
  go_loopw [4, 5, 6] (fun i _ _ wr => ∃ m k : Nat, i = .int .i64 m ∧ m + k = n ∧ (Blk wr S (rnC (unitsI 11 mkN su k).2) ∧ (∃ ev, Blk wr (w.heap.size + 1) #[.int .i64 t0, .int .i64 t1, .int .i64 t2, .int .i64 t3, ev] ∧ wr.ownsRow b0.heap.size 130 11 ev k (cellsAllN (unitsI 11 mkN su k).1)) ∧ Kp (fun b => b = S ∨ b = w.heap.size + 1) b0 wr)) (fun i _ _ _ => (intOf i).toNat)
  case atStart => exact ⟨n, 0, rfl, by omega, BSB.out, ⟨_, BKB.out, World.ownsRow_nil _ _ _ _⟩, Kp.refl _ _⟩
  case round =>
    obtain ⟨m, k, rfl, hmk, bS, ⟨ev, bK, own⟩, kr⟩ := hrel
    have hszr := kr.size
    obtain ⟨eva, evc, rfl⟩ := own_slice own
    by_cases hm0 : m = 0
    case neg =>
      have d1 : decide ((0 : Int) < (m : Int)) = true := decide_eq_true (by omega)
      have d1' : decide (0 < m) = true := decide_eq_true (by omega)
      have hw1 : IntKind.i64.wrap ((m : Int) - 1) = (m : Int) - 1 := IntWalk.i64_in _ (by omega)
      have HM0 : 0 < m := by omega
      obtain ⟨wo, rfl⟩ : ∃ x, x = wr := ⟨_, rfl⟩
      obtain ⟨V1, hV1⟩ : ∃ V, wo.alloc (.cells #[.int .i64 0, .int .i64 0, .int .i64 0, .int .i64 0, .int .i64 0, .int .i64 0, .int .i64 0, .int .i64 0, .int .i64 0, .int .i64 0, .int .i64 0] 246) = V := ⟨_, rfl⟩
      have hb1 : Below wo.heap.size wo V1 := by rw [← hV1]; exact (Below.refl _ _).alloc (Nat.le_refl _) _
      have kE : Blk V1 wo.heap.size #[.int .i64 0, .int .i64 0, .int .i64 0, .int .i64 0, .int .i64 0, .int .i64 0, .int .i64 0, .int .i64 0, .int .i64 0, .int .i64 0, .int .i64 0] := by rw [← hV1]; exact Blk.new wo _ _
      have hV1s : V1.heap.size = wo.heap.size + 1 := by rw [← hV1]; simp
      have hSr := bS.lt
      have hKr := bK.lt
      have BS := Lib.hid (bS.call hb1)
      have BK := Lib.hid (bK.call hb1)
      have KE := Lib.hid kE
      have OWN := Lib.hid (own_kp own (kp_of hb1 (fun _ => False)) (fun _ _ x => x))
      have KR := Lib.hid (kr.then_ hb1)
      have hlk : (unitsI 11 mkN su k).2.1.length ≤ 1000000 := Nat.le_trans (unitsI_shrinks 11 mkN su k) hlu
      have EVB := Lib.hid (fun b hb => World.ownsRow.lt own b hb : ∀ b, (Value.slice eva k evc).ownBlock = some b → b0.heap.size ≤ b ∧ b < wo.heap.size)
      have HV1S := Lib.hid hV1s
      obtain ⟨su2, hsu2⟩ : ∃ x, (unitsI 11 mkN su k).2 = x := ⟨_, rfl⟩
      rw [hsu2] at BS hlk
      have HSU2 := Lib.hid hsu2
      clear bS bK kE own kr hb1 hV1s hm0 hsu2
      go_upto_region 11 with fail
      try rw [hV1]
      clear hV1
      go_wp2_with fail
      go_loopw [6] (fun i wx => ∃ j : Nat, i = .int .i64 j ∧ j ≤ 11 ∧ (Blk wx S (rnC (numsI su2 j).2) ∧ Blk wx wo.heap.size (putI #[.int .i64 0, .int .i64 0, .int .i64 0, .int .i64 0, .int .i64 0, .int .i64 0, .int .i64 0, .int .i64 0, .int .i64 0, .int .i64 0, .int .i64 0] (numsI su2 j).1) ∧ Kp (fun b => b = S ∨ b = wo.heap.size) V1 wx)) (fun i _ => (11 - intOf i).toNat)
      case atStart => exact ⟨0, rfl, by omega, BS.out, by unfold putI numsI; simpa using KE.out, Kp.refl _ _⟩
      case round =>
        obtain ⟨j, rfl, hj, bSj, bLj, kj⟩ := hrel
        have hszj := kj.size
        have lSj := bSj.lt
        by_cases hlt : j < 11
        · have hji : (0 : Int) ≤ (j : Int) := by omega
          have hjl : (j : Int) < 11 := by omega
          have BSJ := Lib.hid bSj
          have BLJ := Lib.hid bLj
          have KJ := Lib.hid kj
          have hlj : (numsI su2 j).2.1.length ≤ 1000000 := Nat.le_trans (numsI_shrinks su2 j) hlk
          have hLS : wo.heap.size ≠ S := by omega
          have hLl := bLj.lt
          clear bSj bLj kj
          go_wp2_with fail
          refine (next_ref (numsI su2 j).2 S _ BSJ.out hlj).mono ?_
          rintro e x1 ⟨rfl, bS1, kp1⟩
          have bL1 := BLJ.out.kp kp1 (fun h => hLS h)
          obtain ⟨lL1, cL1, fL1⟩ := id bL1
          have hszp : (putI #[.int .i64 0, .int .i64 0, .int .i64 0, .int .i64 0, .int .i64 0, .int .i64 0, .int .i64 0, .int .i64 0, .int .i64 0, .int .i64 0, .int .i64 0] (numsI su2 j).1).size = 11 := putI_size (by rw [numsI_length]; simp; omega)
          have cj : (x1.cell? ⟨wo.heap.size, j, none⟩).isSome = true := by rw [cL1 j, Array.getElem?_eq_getElem (by omega)]; rfl
          obtain ⟨old, hold⟩ := Option.isSome_iff_exists.1 cj
          have fj := fL1 j
          have BS1 := Lib.hid bS1
          have BL1 := Lib.hid bL1
          have KJ1 := Lib.hid (KJ.out.trans kp1 (fun _ _ h => Or.inl h))
          have HSP := Lib.hid hszp
          clear bS1 bL1 kp1 cL1 fL1 cj hszp
          go_wp2_with fail
          go_roundw
          case rel =>
            refine ⟨j + 1, by go_num, by omega, ?_, ?_, KJ1.out.andset ⟨wo.heap.size, j, none⟩ _ (Or.inr rfl)⟩
            · rw [nums_st]
              exact BS1.out.other hLS
            · have := BL1.out.store (.int .i64 (numI (numsI su2 j).2).1) (i := j) (by rw [HSP.out]; exact hlt)
              have e : putI #[.int .i64 0, .int .i64 0, .int .i64 0, .int .i64 0, .int .i64 0, .int .i64 0, .int .i64 0, .int .i64 0, .int .i64 0, .int .i64 0, .int .i64 0] (numsI su2 (j + 1)).1 = (putI #[.int .i64 0, .int .i64 0, .int .i64 0, .int .i64 0, .int .i64 0, .int .i64 0, .int .i64 0, .int .i64 0, .int .i64 0, .int .i64 0, .int .i64 0] (numsI su2 j).1).setIfInBounds j (.int .i64 (numI (numsI su2 j).2).1) := by
                have h2 := putI_snoc (c := #[.int .i64 0, .int .i64 0, .int .i64 0, .int .i64 0, .int .i64 0, .int .i64 0, .int .i64 0, .int .i64 0, .int .i64 0, .int .i64 0, .int .i64 0]) (vs := (numsI su2 j).1) (by rw [numsI_length]; exact hlt) (numI (numsI su2 j).2).1
                rw [numsI_length] at h2
                exact h2
              rw [e]
              exact this
          case measure => simp [intOf]; omega
        · obtain rfl : j = 11 := by omega
          rw [put11 (numsI_length _ 11)] at bLj
          obtain ⟨u, hu⟩ : ∃ x, mkN (numsI su2 11).1 = x := ⟨_, rfl⟩
          rw [hu] at bLj
          have bL' : Blk wr wo.heap.size #[.int .i64 u.id, .int .i64 u.owner, .int .i64 u.kind, .int .i64 u.x, .int .i64 u.y, .int .i64 u.hp, .int .i64 u.does, .int .i64 u.gx, .int .i64 u.gy, .int .i64 u.target, .int .i64 u.since] := bLj
          have bKj := BK.out.kp kj (by omega)
          have ownj := own_kp OWN.out kj (fun b hb e => by have := EVB.out b hb; have := HWS.out; omega)
          have kpj := KR.out.trans kj (fun c hc e => by omega)
          obtain ⟨lL, cL, -⟩ := id bL'
          obtain ⟨i1, hj0, hj1, hj2, hj3⟩ := infoUnits
          have hbz : Below wr.heap.size wr (wr.alloc (.cells #[.int .i64 u.id, .int .i64 u.owner, .int .i64 u.kind, .int .i64 u.x, .int .i64 u.y, .int .i64 u.hp, .int .i64 u.does, .int .i64 u.gx, .int .i64 u.gy, .int .i64 u.target, .int .i64 u.since] 130)) := (Below.refl _ _).alloc (Nat.le_refl _) _
          have oB := own_kp ownj (kp_of hbz (fun _ => False)) (fun _ _ x => x)
          obtain ⟨g2, cap, w5, r5, own5, grow5, hat5, lt5⟩ := run_append_lies (P := Try.prog) (wr.alloc (.cells #[.int .i64 u.id, .int .i64 u.owner, .int .i64 u.kind, .int .i64 u.x, .int .i64 u.y, .int .i64 u.hp, .int .i64 u.does, .int .i64 u.gx, .int .i64 u.gy, .int .i64 u.target, .int .i64 u.since] 130)) 63 63 b0.heap.size 130 i1 _ 11 88 Try.underlying63 hj0 hj1 hj2 hj3 rfl (by omega) (.slice eva k evc) k (cellsAllN (unitsI 11 mkN su k).1) oB ⟨wr.heap.size, 0, none⟩ 1 1 (cellsN u) rfl (World.news_of_block (cs := #[.int .i64 u.id, .int .i64 u.owner, .int .i64 u.kind, .int .i64 u.x, .int .i64 u.y, .int .i64 u.hp, .int .i64 u.does, .int .i64 u.gx, .int .i64 u.gy, .int .i64 u.target, .int .i64 u.since]) (t := 130) (fr := (0, 0)) (heap_alloc_new wr _)) (by intro q hq; simp [cellsN, cellsE] at hq; rcases hq with h | h | h | h | h | h | h | h | h | h | h <;> rw [h] <;> rfl) (by omega) (by unfold maxLen; omega) (by omega) (by have := hbz.size; have := kpj.size; omega) (wr.heap.size + 1) (by simp)
          have kg := Kp.grown grow5
          have hKev : (Value.slice eva k evc).ownBlock ≠ some (w.heap.size + 1) := fun e => by have := (EVB.out _ e).1; have := HWS.out; omega
          have hSev : (Value.slice eva k evc).ownBlock ≠ some S := fun e => by have := (EVB.out _ e).1; have := HWS.out; omega
          have bK5 := (bKj.call hbz).kp kg (fun e => hKev e.symm)
          have bS5 := (bSj.call hbz).kp kg (fun e => hSev e.symm)
          obtain ⟨lK5, cK5, fK5⟩ := id bK5
          obtain ⟨lKj, cKj, -⟩ := id bKj
          have kp5 := ((kpj.then_ hbz).trans kg (fun c hc e => by have := (EVB.out c e.symm).1; omega)).andset ⟨w.heap.size + 1, 4, none⟩ (.slice (some ⟨g2, 0, none⟩) (k + 1) cap) (Or.inr rfl)
          have HUU := Lib.hid hu
          have OWN5 := Lib.hid own5
          have BK5 := Lib.hid bK5
          have BS5 := Lib.hid bS5
          have KP5 := Lib.hid kp5
          clear hj0 hj1 hj2 hj3 hbz oB own5 grow5 hat5 kg ownj bLj bL' bKj bSj kj kpj bK5 bS5 kp5 hu hKev hSev
          go_wp2_with (at_builtin; refine list_run_append (by rfl) _ _ _ _ (by rfl) (by rfl) (by rfl) (by rfl) r5 ?_)
          go_roundw
          case rel =>
            refine ⟨m - 1, k + 1, intv (by omega), by omega, ?_, ⟨.slice (some ⟨g2, 0, none⟩) (k + 1) cap, ?_, ?_⟩, KP5.out⟩
            · have e : (unitsI 11 mkN su (k + 1)).2 = (numsI su2 11).2 := by rw [← HSU2.out]; exact units_st 11 mkN su k
              rw [e]
              exact BS5.out.other (by omega)
            · have := BK5.out.store (.slice (some ⟨g2, 0, none⟩) (k + 1) cap) (i := 4) (by simp)
              simpa using this
            · have e : cellsAllN (unitsI 11 mkN su (k + 1)).1 = cellsAllN (unitsI 11 mkN su k).1 ++ cellsN u := by rw [← HUU.out, ← HSU2.out]; exact units_succ su k
              rw [e]
              exact own_kp OWN5.out (Kp.setCell w5 ⟨w.heap.size + 1, 4, none⟩ _) (fun b hb e => by have h1 := (World.ownsRow.lt OWN5.out b hb).1; have h2 : b = w.heap.size + 1 := e; have := HWS.out; omega)
          case measure => simp [intOf]; omega
    subst hm0
    obtain rfl : k = n := by omega
    have d1 : decide ((0 : Int) < ((0 : Nat) : Int)) = false := decide_eq_false (by omega)
    have hK1 := K1.out.kp (KPB.out.trans kr (fun _ _ h => h)) (fun h => by have := hSw; omega)
    obtain ⟨l1, c1, f1⟩ := id hK1
    obtain ⟨lK, cK, fK⟩ := id bK
    have HK1 := Lib.hid hK1
    have BS := Lib.hid bS
    have OWN := Lib.hid own
    have KR := Lib.hid kr
    have hst : (newerI st).1 = ⟨true, t0, t1, t2, t3, [], (unitsI 11 mkN su k).1⟩ ∧ (newerI st).2 = (unitsI 11 mkN su k).2 := by
      obtain ⟨h0, h1, h2, h3, h4⟩ := HT.out
      obtain ⟨h5, h6⟩ := HN.out
      unfold newerI
      dsimp only
      rw [h4, h5, h6, h0, h1, h2, h3, Int.toNat_natCast]
      exact ⟨rfl, rfl⟩
    have HST := Lib.hid hst
    clear bS bK own kr hK1 hst
    go_wp2_with fail
    refine bodyPost_ret (v := .agg #[.int .i64 t0, .int .i64 t1, .int .i64 t2, .int .i64 t3, .slice eva k evc]) (ret_cell (d := _) Try.results141 rfl (HK1.out.store5 rfl (.int .i64 t0) (.int .i64 t1) (.int .i64 t2) (.int .i64 t3) (.slice eva k evc)) Try.underlying65 rfl infoNewer) rfl ?_
    rw [HST.out.1, HST.out.2]
    have XK := ((((((Kp.refl (fun b => b = w.heap.size) wr).andset ⟨w.heap.size, 0, none⟩ (.int .i64 t0) rfl).andset ⟨w.heap.size, 1, none⟩ (.int .i64 t1) rfl).andset ⟨w.heap.size, 2, none⟩ (.int .i64 t2) rfl).andset ⟨w.heap.size, 3, none⟩ (.int .i64 t3) rfl).andset ⟨w.heap.size, 4, none⟩ (.slice eva k evc) rfl)
    refine ⟨.slice eva k evc, rfl, BS.out.kp XK (by omega), ?_, ?_⟩
    · exact (((kp_of HB.out (fun b => b = S)).trans (KPB.out.trans KR.out (fun _ _ h => h)) (fun c hc h => by rcases h with h | h; exact h; omega)).trans XK (fun c hc h => by omega))
    · have e2 : ((unitsI 11 mkN su k).1).length = k := unitsI_length _ _ _ _
      show World.ownsRow _ _ _ _ _ ((unitsI 11 mkN su k).1).length (cellsAllN (unitsI 11 mkN su k).1)
      rw [e2]
      exact own_base (own_kp OWN.out XK (fun b hb h => by have := (World.ownsRow.lt OWN.out b hb).1; have := HWS.out; omega)) (by have := HB.out.size; have := KPB.out.size; omega)
end Go.Proofs.Ytlfljlhppigejaa
namespace Go.Proofs.Ytlfljlhppigejaa
open Go.RowKit

set_option maxHeartbeats 12800000 in
set_option maxRecDepth 100000 in
theorem elder_ref (st : St) (S : Nat) (w : World) (h : Blk w S (rnC st)) (hlen : st.1.length ≤ 1000000) :
    Calls Try.prog 139 #[.pointer (some ⟨S, 0, none⟩)] w fun e w' => ∃ fv ev, e = .returned (.agg #[.int .i64 (elderI st).1.tick, .int .i64 (elderI st).1.g0, .int .i64 (elderI st).1.g1, .int .i64 (elderI st).1.next, fv, ev]) ∧
      Blk w' S (rnC (elderI st).2) ∧ Kp (fun b => b = S) w w' ∧ w'.ownsRow w.heap.size 3 1 fv (elderI st).1.free.length (intCells (elderI st).1.free) ∧ w'.ownsRow w.heap.size 179 10 ev (elderI st).1.us.length (cellsAll (elderI st).1.us) := by
  obtain ⟨W, hW⟩ : ∃ W, (w.alloc (.cells #[.int .i64 0, .int .i64 0, .int .i64 0, .int .i64 0, .slice none 0 0, .slice none 0 0] 90)).alloc (.cells #[.int .i64 0, .int .i64 0, .int .i64 0, .int .i64 0, .slice none 0 0, .slice none 0 0] 90) = W := ⟨_, rfl⟩
  have hbW : Below w.heap.size w W := by rw [← hW]; exact ((Below.refl _ _).alloc (Nat.le_refl _) _).alloc (by simp) _
  have k1 : Blk W w.heap.size #[.int .i64 0, .int .i64 0, .int .i64 0, .int .i64 0, .slice none 0 0, .slice none 0 0] := by rw [← hW]; exact (Blk.new w _ _).alloc _
  have k2 : Blk W (w.heap.size + 1) #[.int .i64 0, .int .i64 0, .int .i64 0, .int .i64 0, .slice none 0 0, .slice none 0 0] := by
    rw [← hW]
    have := Blk.new (w.alloc (.cells #[.int .i64 0, .int .i64 0, .int .i64 0, .int .i64 0, .slice none 0 0, .slice none 0 0] 90)) #[.int .i64 0, .int .i64 0, .int .i64 0, .int .i64 0, .slice none 0 0, .slice none 0 0] 90
    simpa using this
  have hWs : W.heap.size = w.heap.size + 2 := by rw [← hW]; simp
  have hSw := h.lt
  have H := Lib.hid (h.call hbW)
  have K1 := Lib.hid k1
  have K2 := Lib.hid k2
  have HB := Lib.hid hbW
  have HWS := Lib.hid hWs
  have hKW := k2.lt
  clear h hbW k1 hWs
  go_enter Try.func139, Try.ntmps139
  go_upto_region 2 with fail
  try rw [hW]
  clear hW
  have hl : ∀ j, (numsI st j).2.1.length ≤ 1000000 := fun j => Nat.le_trans (numsI_shrinks st j) hlen
  have HL := Lib.hid hl
  clear hl
  go_wp2_with fail
  refine (next_ref st S W H.out hlen).mono ?_
  rintro e a0 ⟨rfl, bS0, kp0⟩
  obtain ⟨t0, ht0⟩ : ∃ x, (numI st).1 = x := ⟨_, rfl⟩
  rw [ht0]
  have HT0 := Lib.hid ht0
  have bK0 := (K2.out).kp kp0 (by omega)
  obtain ⟨lK0, cK0, fK0⟩ := id bK0
  have q0 := bK0.store (.int .i64 t0) (i := 0) (by simp)
  have BS0 := Lib.hid ((bS0).other (T := w.heap.size + 1) (i := 0) (v := .int .i64 t0) (by omega))
  have KP0 := Lib.hid ((kp0.imp (fun _ _ h => Or.inl h) : Kp (fun b => b = S ∨ b = w.heap.size + 1) W a0).andset ⟨w.heap.size + 1, 0, none⟩ (.int .i64 t0) (Or.inr rfl))
  have BK0 : Hid (Blk (a0.setCell ⟨w.heap.size + 1, 0, none⟩ (.int .i64 t0)) (w.heap.size + 1) #[.int .i64 t0, .int .i64 0, .int .i64 0, .int .i64 0, .slice none 0 0, .slice none 0 0]) := Lib.hid (by simpa using q0)
  have hsz0 := KP0.out.size
  clear ht0 bS0 kp0 bK0 q0
  go_wp2_with fail
  refine (next_ref (numsI st 1).2 S _ BS0.out (HL.out 1)).mono ?_
  rintro e a1 ⟨rfl, bS1, kp1⟩
  obtain ⟨t1, ht1⟩ : ∃ x, (numI (numsI st 1).2).1 = x := ⟨_, rfl⟩
  rw [ht1]
  have HT1 := Lib.hid ht1
  have bK1 := (BK0.out).kp kp1 (by omega)
  obtain ⟨lK1, cK1, fK1⟩ := id bK1
  have q1 := bK1.store (.int .i64 t1) (i := 1) (by simp)
  have BS1 := Lib.hid ((bS1).other (T := w.heap.size + 1) (i := 1) (v := .int .i64 t1) (by omega))
  have KP1 := Lib.hid ((KP0.out.trans kp1 (fun _ _ h => Or.inl h)).andset ⟨w.heap.size + 1, 1, none⟩ (.int .i64 t1) (Or.inr rfl))
  have BK1 : Hid (Blk (a1.setCell ⟨w.heap.size + 1, 1, none⟩ (.int .i64 t1)) (w.heap.size + 1) #[.int .i64 t0, .int .i64 t1, .int .i64 0, .int .i64 0, .slice none 0 0, .slice none 0 0]) := Lib.hid (by simpa using q1)
  have hsz1 := KP1.out.size
  clear ht1 bS1 kp1 bK1 q1
  go_wp2_with fail
  refine (next_ref (numsI st 2).2 S _ BS1.out (HL.out 2)).mono ?_
  rintro e a2 ⟨rfl, bS2, kp2⟩
  obtain ⟨t2, ht2⟩ : ∃ x, (numI (numsI st 2).2).1 = x := ⟨_, rfl⟩
  rw [ht2]
  have HT2 := Lib.hid ht2
  have bK2 := (BK1.out).kp kp2 (by omega)
  obtain ⟨lK2, cK2, fK2⟩ := id bK2
  have q2 := bK2.store (.int .i64 t2) (i := 2) (by simp)
  have BS2 := Lib.hid ((bS2).other (T := w.heap.size + 1) (i := 2) (v := .int .i64 t2) (by omega))
  have KP2 := Lib.hid ((KP1.out.trans kp2 (fun _ _ h => Or.inl h)).andset ⟨w.heap.size + 1, 2, none⟩ (.int .i64 t2) (Or.inr rfl))
  have BK2 : Hid (Blk (a2.setCell ⟨w.heap.size + 1, 2, none⟩ (.int .i64 t2)) (w.heap.size + 1) #[.int .i64 t0, .int .i64 t1, .int .i64 t2, .int .i64 0, .slice none 0 0, .slice none 0 0]) := Lib.hid (by simpa using q2)
  have hsz2 := KP2.out.size
  clear ht2 bS2 kp2 bK2 q2
  go_wp2_with fail
  refine (next_ref (numsI st 3).2 S _ BS2.out (HL.out 3)).mono ?_
  rintro e a3 ⟨rfl, bS3, kp3⟩
  obtain ⟨t3, ht3⟩ : ∃ x, (numI (numsI st 3).2).1 = x := ⟨_, rfl⟩
  rw [ht3]
  have HT3 := Lib.hid ht3
  have bK3 := (BK2.out).kp kp3 (by omega)
  obtain ⟨lK3, cK3, fK3⟩ := id bK3
  have q3 := bK3.store (.int .i64 t3) (i := 3) (by simp)
  have BS3 := Lib.hid ((bS3).other (T := w.heap.size + 1) (i := 3) (v := .int .i64 t3) (by omega))
  have KP3 := Lib.hid ((KP2.out.trans kp3 (fun _ _ h => Or.inl h)).andset ⟨w.heap.size + 1, 3, none⟩ (.int .i64 t3) (Or.inr rfl))
  have BK3 : Hid (Blk (a3.setCell ⟨w.heap.size + 1, 3, none⟩ (.int .i64 t3)) (w.heap.size + 1) #[.int .i64 t0, .int .i64 t1, .int .i64 t2, .int .i64 t3, .slice none 0 0, .slice none 0 0]) := Lib.hid (by simpa using q3)
  have hsz3 := KP3.out.size
  clear ht3 bS3 kp3 bK3 q3
  obtain ⟨s1, hs1⟩ : ∃ x, (numsI st 4).2 = x := ⟨_, rfl⟩
  have hl1 : s1.1.length ≤ 1000000 := by rw [← hs1]; exact HL.out 4
  have BS4 : Hid (Blk (a3.setCell ⟨w.heap.size + 1, 3, none⟩ (.int .i64 t3)) S (rnC s1)) := Lib.hid (by rw [← hs1]; exact BS3.out)
  have HT : Hid ((numsI st 4).1.getD 0 0 = t0 ∧ (numsI st 4).1.getD 1 0 = t1 ∧ (numsI st 4).1.getD 2 0 = t2 ∧ (numsI st 4).1.getD 3 0 = t3 ∧ (numsI st 4).2 = s1) := Lib.hid ⟨HT0.out, HT1.out, HT2.out, HT3.out, hs1⟩
  clear hs1 HT0 HT1 HT2 HT3 cK0 cK1 cK2 fK0 fK1 fK2 lK0 lK1 lK2 k2
  go_wp2_with fail
  refine (upto_ref s1 200 S _ BS4.out hl1).mono ?_
  rintro e f0 ⟨rfl, bSf, kpf⟩
  have hrg := manyI_range s1 200 (by omega)
  obtain ⟨nI, hnI⟩ : ∃ x, (manyI s1 200).1 = x := ⟨_, rfl⟩
  obtain ⟨sf, hsf⟩ : ∃ x, (manyI s1 200).2 = x := ⟨_, rfl⟩
  have hlf : sf.1.length ≤ 1000000 := by rw [← hsf]; exact Nat.le_trans (manyI_shrinks s1 200) hl1
  rw [hnI] at hrg ⊢
  rw [hsf] at bSf
  obtain ⟨nf, rfl⟩ := Int.eq_ofNat_of_zero_le hrg.1
  have hnf : nf ≤ 200 := by omega
  have HNF := Lib.hid (show (manyI s1 200).1 = (nf : Int) ∧ (manyI s1 200).2 = sf from ⟨hnI, hsf⟩)
  have bKf := BK3.out.kp kpf (by omega)
  have BSF := Lib.hid bSf
  have BKF := Lib.hid bKf
  have KPF := Lib.hid (KP3.out.trans kpf (fun _ _ h => Or.inl h))
  have hszf := KPF.out.size
  clear bSf kpf bKf hnI hsf hrg cK3 fK3 lK3
  go_wp2_with fail
  go_loopw [4, 5] (fun i _ wr => ∃ m k : Nat, i = .int .i64 m ∧ m + k = nf ∧ (Blk wr S (rnC (numsI sf k).2) ∧ (∃ fv, Blk wr (w.heap.size + 1) #[.int .i64 t0, .int .i64 t1, .int .i64 t2, .int .i64 t3, fv, .slice none 0 0] ∧ wr.ownsRow W.heap.size 3 1 fv k (intCells (numsI sf k).1)) ∧ Kp (fun b => b = S ∨ b = w.heap.size + 1) W wr)) (fun i _ _ => (intOf i).toNat)
  case atStart => exact ⟨nf, 0, rfl, by omega, BSF.out, ⟨_, BKF.out, World.ownsRow_nil _ _ _ _⟩, KPF.out⟩
  case round =>
    obtain ⟨m, k, rfl, hmk, bS, ⟨fv, bK, own⟩, kr⟩ := hrel
    have hszr := kr.size
    obtain ⟨fva, fvc, rfl⟩ := own_slice own
    by_cases hm0 : m = 0
    case neg =>
      have d1 : decide ((0 : Int) < (m : Int)) = true := decide_eq_true (by omega)
      have d1' : decide (0 < m) = true := decide_eq_true (by omega)
      have hw1 : IntKind.i64.wrap ((m : Int) - 1) = (m : Int) - 1 := IntWalk.i64_in _ (by omega)
      have HM0 : 0 < m := by omega
      have lS := bS.lt
      have lK := bK.lt
      have hlk : (numsI sf k).2.1.length ≤ 1000000 := Nat.le_trans (numsI_shrinks sf k) hlf
      have FVB := Lib.hid (fun b hb => World.ownsRow.lt own b hb : ∀ b, (Value.slice fva k fvc).ownBlock = some b → W.heap.size ≤ b ∧ b < wr.heap.size)
      have BS := Lib.hid bS
      have BK := Lib.hid bK
      have OWN := Lib.hid own
      have KR := Lib.hid kr
      clear bS bK own kr hm0
      go_wp2_with fail
      refine (next_ref (numsI sf k).2 S _ BS.out hlk).mono ?_
      rintro e f1 ⟨rfl, bS1, kp1⟩
      obtain ⟨N, hN⟩ : ∃ x, (numI (numsI sf k).2).1 = x := ⟨_, rfl⟩
      rw [hN]
      have HNN := Lib.hid hN
      have hs1 := kp1.size
      obtain ⟨i1, hi0, hz0, hz1, hz2⟩ := info_parts infoInt
      have hbz : Below f1.heap.size f1 (f1.alloc (.cells #[.int .i64 N] 3)) := (Below.refl _ _).alloc (Nat.le_refl _) _
      have own1 := own_kp OWN.out kp1 (fun b hb e => by have := (FVB.out b hb).1; have := HWS.out; have h2 : b = S := e; omega)
      have oB := own_kp own1 (kp_of hbz (fun _ => False)) (fun _ _ x => x)
      obtain ⟨g2, cap, f5, r5, own5, grow5, hat5, lt5⟩ := run_append_lies (P := Try.prog) (f1.alloc (.cells #[.int .i64 N] 3)) 87 87 W.heap.size 3 i1 _ 1 8 Try.underlying87 hi0 hz0 hz1 hz2 rfl (by omega) (.slice fva k fvc) k (intCells (numsI sf k).1) oB ⟨f1.heap.size, 0, none⟩ 1 1 [.int .i64 N] rfl (World.news_of_block (cs := #[.int .i64 N]) (t := 3) (fr := (0, 0)) (heap_alloc_new f1 _)) (by intro q hq; simp at hq; rw [hq]; rfl) (by omega) (by unfold maxLen; omega) (by omega) (by have := hbz.size; omega) (f1.heap.size + 1) (by simp)
      have kg := Kp.grown grow5
      have hKev : (Value.slice fva k fvc).ownBlock ≠ some (w.heap.size + 1) := fun e => by have := (FVB.out _ e).1; have := HWS.out; omega
      have hSev : (Value.slice fva k fvc).ownBlock ≠ some S := fun e => by have := (FVB.out _ e).1; have := HWS.out; omega
      have bK1 := BK.out.kp kp1 (by omega)
      have bK5 := (bK1.call hbz).kp kg (fun e => hKev e.symm)
      have bS5 := (bS1.call hbz).kp kg (fun e => hSev e.symm)
      obtain ⟨lK5, cK5, fK5⟩ := id bK5
      obtain ⟨lK1, cK1, -⟩ := id bK1
      have kp5 := (((KR.out.trans kp1 (fun _ _ h => Or.inl h)).then_ hbz).trans kg (fun c hc e => by have := (FVB.out c e.symm).1; omega)).andset ⟨w.heap.size + 1, 4, none⟩ (.slice (some ⟨g2, 0, none⟩) (k + 1) cap) (Or.inr rfl)
      have OWN5 := Lib.hid own5
      have BK5 := Lib.hid bK5
      have BS5 := Lib.hid bS5
      have KP5 := Lib.hid kp5
      clear hi0 hz0 hz1 hz2 hbz oB own5 grow5 hat5 kg own1 bK1 bS1 kp1 bK5 bS5 kp5 hN hKev hSev
      go_wp2_with (at_builtin; refine list_run_append (by rfl) _ _ _ _ (by rfl) (by rfl) (by rfl) (by rfl) r5 ?_)
      go_roundw
      case rel =>
        refine ⟨m - 1, k + 1, intv (by omega), by omega, ?_, ⟨.slice (some ⟨g2, 0, none⟩) (k + 1) cap, ?_, ?_⟩, KP5.out⟩
        · rw [nums_st]
          exact BS5.out.other (by omega)
        · have := BK5.out.store (.slice (some ⟨g2, 0, none⟩) (k + 1) cap) (i := 4) (by simp)
          simpa using this
        · have hcs : intCells (numsI sf (k + 1)).1 = intCells (numsI sf k).1 ++ [.int .i64 N] := by rw [← HNN.out, nums_succ]; unfold intCells; rw [List.map_append]; rfl
          rw [hcs]
          exact own_kp OWN5.out (Kp.setCell f5 ⟨w.heap.size + 1, 4, none⟩ _) (fun b hb e => by have h1 := (World.ownsRow.lt OWN5.out b hb).1; have h2 : b = w.heap.size + 1 := e; have := HWS.out; omega)
      case measure => simp [intOf]; omega
    subst hm0
    obtain rfl : k = nf := by omega
    have d1 : decide ((0 : Int) < ((0 : Nat) : Int)) = false := decide_eq_false (by omega)
    obtain ⟨s2, hs2⟩ : ∃ x, (numsI sf k).2 = x := ⟨_, rfl⟩
    obtain ⟨FR, hFR⟩ : ∃ x, (numsI sf k).1 = x := ⟨_, rfl⟩
    have hl2 : s2.1.length ≤ 1000000 := by rw [← hs2]; exact Nat.le_trans (numsI_shrinks sf k) hlf
    have hfl : FR.length = k := by rw [← hFR]; exact numsI_length _ _
    have HFL := Lib.hid hfl
    have HS2 := Lib.hid (show (numsI sf k).2 = s2 ∧ (numsI sf k).1 = FR from ⟨hs2, hFR⟩)
    rw [hs2] at bS
    rw [hFR] at own
    have BS2 := Lib.hid bS
    have BK2 := Lib.hid bK
    have FOWN := Lib.hid own
    have KR2 := Lib.hid kr
    have FVB := Lib.hid (fun b hb => World.ownsRow.lt own b hb : ∀ b, (Value.slice fva k fvc).ownBlock = some b → W.heap.size ≤ b ∧ b < wr.heap.size)
    obtain ⟨nf, rfl⟩ : ∃ x, x = k := ⟨_, rfl⟩
    obtain ⟨w9, rfl⟩ : ∃ x, x = wr := ⟨_, rfl⟩
    clear bS bK own kr hs2 hFR hfl
    go_wp2_with fail
    refine (upto_ref s2 20 S _ BS2.out hl2).mono ?_
    rintro e b0 ⟨rfl, bSb, kpb⟩
    have hrg := manyI_range s2 20 (by omega)
    obtain ⟨nI, hnI⟩ : ∃ x, (manyI s2 20).1 = x := ⟨_, rfl⟩
    obtain ⟨su, hsu⟩ : ∃ x, (manyI s2 20).2 = x := ⟨_, rfl⟩
    have hlu : su.1.length ≤ 1000000 := by rw [← hsu]; exact Nat.le_trans (manyI_shrinks s2 20) hl2
    rw [hnI] at hrg ⊢
    rw [hsu] at bSb
    obtain ⟨n, rfl⟩ := Int.eq_ofNat_of_zero_le hrg.1
    have hn20 : n ≤ 20 := by omega
    have HN := Lib.hid (show (manyI s2 20).1 = (n : Int) ∧ (manyI s2 20).2 = su from ⟨hnI, hsu⟩)
    have bKb := BK2.out.kp kpb (by omega)
    have BSB := Lib.hid bSb
    have BKB := Lib.hid bKb
    have KPB := Lib.hid ((KR2.out).trans kpb (fun _ _ h => Or.inl h))
    have FOWNB := Lib.hid (own_kp FOWN.out kpb (fun b hb e => by have := (FVB.out b hb).1; have := HWS.out; have h2 : b = S := e; omega))
    have hszb := KPB.out.size
    clear bSb kpb bKb hnI hsu hrg 
    go_wp2_with fail
    go_loopw [6, 7, 8] (fun i _ _ wr => ∃ m k : Nat, i = .int .i64 m ∧ m + k = n ∧ (Blk wr S (rnC (unitsI 10 mkE su k).2) ∧ (∃ ev, Blk wr (w.heap.size + 1) #[.int .i64 t0, .int .i64 t1, .int .i64 t2, .int .i64 t3, .slice fva nf fvc, ev] ∧ wr.ownsRow b0.heap.size 179 10 ev k (cellsAll (unitsI 10 mkE su k).1)) ∧ Kp (fun b => b = S ∨ b = w.heap.size + 1) b0 wr)) (fun i _ _ _ => (intOf i).toNat)
    case atStart => exact ⟨n, 0, rfl, by omega, BSB.out, ⟨_, BKB.out, World.ownsRow_nil _ _ _ _⟩, Kp.refl _ _⟩
    case round =>
      obtain ⟨m, k, rfl, hmk, bS, ⟨ev, bK, own⟩, kr⟩ := hrel
      have hszr := kr.size
      obtain ⟨eva, evc, rfl⟩ := own_slice own
      by_cases hm0 : m = 0
      case neg =>
        have d1 : decide ((0 : Int) < (m : Int)) = true := decide_eq_true (by omega)
        have d1' : decide (0 < m) = true := decide_eq_true (by omega)
        have hw1 : IntKind.i64.wrap ((m : Int) - 1) = (m : Int) - 1 := IntWalk.i64_in _ (by omega)
        have HM0 : 0 < m := by omega
        obtain ⟨wo, rfl⟩ : ∃ x, x = wr := ⟨_, rfl⟩
        obtain ⟨V1, hV1⟩ : ∃ V, wo.alloc (.cells #[.int .i64 0, .int .i64 0, .int .i64 0, .int .i64 0, .int .i64 0, .int .i64 0, .int .i64 0, .int .i64 0, .int .i64 0, .int .i64 0] 245) = V := ⟨_, rfl⟩
        have hb1 : Below wo.heap.size wo V1 := by rw [← hV1]; exact (Below.refl _ _).alloc (Nat.le_refl _) _
        have kE : Blk V1 wo.heap.size #[.int .i64 0, .int .i64 0, .int .i64 0, .int .i64 0, .int .i64 0, .int .i64 0, .int .i64 0, .int .i64 0, .int .i64 0, .int .i64 0] := by rw [← hV1]; exact Blk.new wo _ _
        have hV1s : V1.heap.size = wo.heap.size + 1 := by rw [← hV1]; simp
        have hSr := bS.lt
        have hKr := bK.lt
        have BS := Lib.hid (bS.call hb1)
        have BK := Lib.hid (bK.call hb1)
        have KE := Lib.hid kE
        have OWN := Lib.hid (own_kp own (kp_of hb1 (fun _ => False)) (fun _ _ x => x))
        have KR := Lib.hid (kr.then_ hb1)
        have hlk : (unitsI 10 mkE su k).2.1.length ≤ 1000000 := Nat.le_trans (unitsI_shrinks 10 mkE su k) hlu
        have EVB := Lib.hid (fun b hb => World.ownsRow.lt own b hb : ∀ b, (Value.slice eva k evc).ownBlock = some b → b0.heap.size ≤ b ∧ b < wo.heap.size)
        have HV1S := Lib.hid hV1s
        obtain ⟨su2, hsu2⟩ : ∃ x, (unitsI 10 mkE su k).2 = x := ⟨_, rfl⟩
        rw [hsu2] at BS hlk
        have HSU2 := Lib.hid hsu2
        clear bS bK kE own kr hb1 hV1s hm0 hsu2
        go_upto_region 16 with fail
        try rw [hV1]
        clear hV1
        go_wp2_with fail
        go_loopw [8] (fun i wx => ∃ j : Nat, i = .int .i64 j ∧ j ≤ 10 ∧ (Blk wx S (rnC (numsI su2 j).2) ∧ Blk wx wo.heap.size (putI #[.int .i64 0, .int .i64 0, .int .i64 0, .int .i64 0, .int .i64 0, .int .i64 0, .int .i64 0, .int .i64 0, .int .i64 0, .int .i64 0] (numsI su2 j).1) ∧ Kp (fun b => b = S ∨ b = wo.heap.size) V1 wx)) (fun i _ => (10 - intOf i).toNat)
        case atStart => exact ⟨0, rfl, by omega, BS.out, by unfold putI numsI; simpa using KE.out, Kp.refl _ _⟩
        case round =>
          obtain ⟨j, rfl, hj, bSj, bLj, kj⟩ := hrel
          have hszj := kj.size
          have lSj := bSj.lt
          by_cases hlt : j < 10
          · have hji : (0 : Int) ≤ (j : Int) := by omega
            have hjl : (j : Int) < 10 := by omega
            have BSJ := Lib.hid bSj
            have BLJ := Lib.hid bLj
            have KJ := Lib.hid kj
            have hlj : (numsI su2 j).2.1.length ≤ 1000000 := Nat.le_trans (numsI_shrinks su2 j) hlk
            have hLS : wo.heap.size ≠ S := by omega
            have hLl := bLj.lt
            clear bSj bLj kj
            go_wp2_with fail
            refine (next_ref (numsI su2 j).2 S _ BSJ.out hlj).mono ?_
            rintro e x1 ⟨rfl, bS1, kp1⟩
            have bL1 := BLJ.out.kp kp1 (fun h => hLS h)
            obtain ⟨lL1, cL1, fL1⟩ := id bL1
            have hszp : (putI #[.int .i64 0, .int .i64 0, .int .i64 0, .int .i64 0, .int .i64 0, .int .i64 0, .int .i64 0, .int .i64 0, .int .i64 0, .int .i64 0] (numsI su2 j).1).size = 10 := putI_size (by rw [numsI_length]; simp; omega)
            have cj : (x1.cell? ⟨wo.heap.size, j, none⟩).isSome = true := by rw [cL1 j, Array.getElem?_eq_getElem (by omega)]; rfl
            obtain ⟨old, hold⟩ := Option.isSome_iff_exists.1 cj
            have fj := fL1 j
            have BS1 := Lib.hid bS1
            have BL1 := Lib.hid bL1
            have KJ1 := Lib.hid (KJ.out.trans kp1 (fun _ _ h => Or.inl h))
            have HSP := Lib.hid hszp
            clear bS1 bL1 kp1 cL1 fL1 cj hszp
            go_wp2_with fail
            go_roundw
            case rel =>
              refine ⟨j + 1, by go_num, by omega, ?_, ?_, KJ1.out.andset ⟨wo.heap.size, j, none⟩ _ (Or.inr rfl)⟩
              · rw [nums_st]
                exact BS1.out.other hLS
              · have := BL1.out.store (.int .i64 (numI (numsI su2 j).2).1) (i := j) (by rw [HSP.out]; exact hlt)
                have e : putI #[.int .i64 0, .int .i64 0, .int .i64 0, .int .i64 0, .int .i64 0, .int .i64 0, .int .i64 0, .int .i64 0, .int .i64 0, .int .i64 0] (numsI su2 (j + 1)).1 = (putI #[.int .i64 0, .int .i64 0, .int .i64 0, .int .i64 0, .int .i64 0, .int .i64 0, .int .i64 0, .int .i64 0, .int .i64 0, .int .i64 0] (numsI su2 j).1).setIfInBounds j (.int .i64 (numI (numsI su2 j).2).1) := by
                  have h2 := putI_snoc (c := #[.int .i64 0, .int .i64 0, .int .i64 0, .int .i64 0, .int .i64 0, .int .i64 0, .int .i64 0, .int .i64 0, .int .i64 0, .int .i64 0]) (vs := (numsI su2 j).1) (by rw [numsI_length]; exact hlt) (numI (numsI su2 j).2).1
                  rw [numsI_length] at h2
                  exact h2
                rw [e]
                exact this
            case measure => simp [intOf]; omega
          · obtain rfl : j = 10 := by omega
            rw [put10 (numsI_length _ 10)] at bLj
            obtain ⟨u, hu⟩ : ∃ x, mkE (numsI su2 10).1 = x := ⟨_, rfl⟩
            rw [hu] at bLj
            have bL' : Blk wr wo.heap.size #[.int .i64 u.id, .int .i64 u.owner, .int .i64 u.kind, .int .i64 u.x, .int .i64 u.y, .int .i64 u.hp, .int .i64 u.does, .int .i64 u.gx, .int .i64 u.gy, .int .i64 u.target] := bLj
            have bKj := BK.out.kp kj (by omega)
            have ownj := own_kp OWN.out kj (fun b hb e => by have := EVB.out b hb; have := HWS.out; omega)
            have kpj := KR.out.trans kj (fun c hc e => by omega)
            obtain ⟨lL, cL, -⟩ := id bL'
            obtain ⟨i1, hj0, hj1, hj2, hj3⟩ := info_parts infoEnt
            have hbz : Below wr.heap.size wr (wr.alloc (.cells #[.int .i64 u.id, .int .i64 u.owner, .int .i64 u.kind, .int .i64 u.x, .int .i64 u.y, .int .i64 u.hp, .int .i64 u.does, .int .i64 u.gx, .int .i64 u.gy, .int .i64 u.target] 179)) := (Below.refl _ _).alloc (Nat.le_refl _) _
            have oB := own_kp ownj (kp_of hbz (fun _ => False)) (fun _ _ x => x)
            obtain ⟨g2, cap, w5, r5, own5, grow5, hat5, lt5⟩ := run_append_lies (P := Try.prog) (wr.alloc (.cells #[.int .i64 u.id, .int .i64 u.owner, .int .i64 u.kind, .int .i64 u.x, .int .i64 u.y, .int .i64 u.hp, .int .i64 u.does, .int .i64 u.gx, .int .i64 u.gy, .int .i64 u.target] 179)) 88 88 b0.heap.size 179 i1 _ 10 80 Try.underlying88 hj0 hj1 hj2 hj3 rfl (by omega) (.slice eva k evc) k (cellsAll (unitsI 10 mkE su k).1) oB ⟨wr.heap.size, 0, none⟩ 1 1 (cellsE u) rfl (World.news_of_block (cs := #[.int .i64 u.id, .int .i64 u.owner, .int .i64 u.kind, .int .i64 u.x, .int .i64 u.y, .int .i64 u.hp, .int .i64 u.does, .int .i64 u.gx, .int .i64 u.gy, .int .i64 u.target]) (t := 179) (fr := (0, 0)) (heap_alloc_new wr _)) (by intro q hq; simp [cellsE, cellsE] at hq; rcases hq with h | h | h | h | h | h | h | h | h | h <;> rw [h] <;> rfl) (by omega) (by unfold maxLen; omega) (by omega) (by have := hbz.size; have := kpj.size; omega) (wr.heap.size + 1) (by simp)
            have kg := Kp.grown grow5
            have hKev : (Value.slice eva k evc).ownBlock ≠ some (w.heap.size + 1) := fun e => by have := (EVB.out _ e).1; have := HWS.out; omega
            have hSev : (Value.slice eva k evc).ownBlock ≠ some S := fun e => by have := (EVB.out _ e).1; have := HWS.out; omega
            have bK5 := (bKj.call hbz).kp kg (fun e => hKev e.symm)
            have bS5 := (bSj.call hbz).kp kg (fun e => hSev e.symm)
            obtain ⟨lK5, cK5, fK5⟩ := id bK5
            obtain ⟨lKj, cKj, -⟩ := id bKj
            have kp5 := ((kpj.then_ hbz).trans kg (fun c hc e => by have := (EVB.out c e.symm).1; omega)).andset ⟨w.heap.size + 1, 5, none⟩ (.slice (some ⟨g2, 0, none⟩) (k + 1) cap) (Or.inr rfl)
            have HUU := Lib.hid hu
            have OWN5 := Lib.hid own5
            have BK5 := Lib.hid bK5
            have BS5 := Lib.hid bS5
            have KP5 := Lib.hid kp5
            clear hj0 hj1 hj2 hj3 hbz oB own5 grow5 hat5 kg ownj bLj bL' bKj bSj kj kpj bK5 bS5 kp5 hu hKev hSev
            go_wp2_with (at_builtin; refine list_run_append (by rfl) _ _ _ _ (by rfl) (by rfl) (by rfl) (by rfl) r5 ?_)
            go_roundw
            case rel =>
              refine ⟨m - 1, k + 1, intv (by omega), by omega, ?_, ⟨.slice (some ⟨g2, 0, none⟩) (k + 1) cap, ?_, ?_⟩, KP5.out⟩
              · have e : (unitsI 10 mkE su (k + 1)).2 = (numsI su2 10).2 := by rw [← HSU2.out]; exact units_st 10 mkE su k
                rw [e]
                exact BS5.out.other (by omega)
              · have := BK5.out.store (.slice (some ⟨g2, 0, none⟩) (k + 1) cap) (i := 5) (by simp)
                simpa using this
              · have e : cellsAll (unitsI 10 mkE su (k + 1)).1 = cellsAll (unitsI 10 mkE su k).1 ++ cellsE u := by rw [← HUU.out, ← HSU2.out]; exact unitsE_succ su k
                rw [e]
                exact own_kp OWN5.out (Kp.setCell w5 ⟨w.heap.size + 1, 5, none⟩ _) (fun b hb e => by have h1 := (World.ownsRow.lt OWN5.out b hb).1; have h2 : b = w.heap.size + 1 := e; have := HWS.out; omega)
            case measure => simp [intOf]; omega
      subst hm0
      obtain rfl : k = n := by omega
      have d1 : decide ((0 : Int) < ((0 : Nat) : Int)) = false := decide_eq_false (by omega)
      have hK1 := K1.out.kp (KPB.out.trans kr (fun _ _ h => h)) (fun h => by have := hSw; omega)
      obtain ⟨l1, c1, f1⟩ := id hK1
      obtain ⟨lK, cK, fK⟩ := id bK
      have HK1 := Lib.hid hK1
      have BS := Lib.hid bS
      have OWN := Lib.hid own
      have KR := Lib.hid kr
      have FOWNR := Lib.hid (own_kp FOWNB.out kr (fun b hb e => by have := (FVB.out b hb).1; have := HWS.out; omega))
      have hst : (elderI st).1 = ⟨false, t0, t1, t2, t3, FR, (unitsI 10 mkE su k).1⟩ ∧ (elderI st).2 = (unitsI 10 mkE su k).2 := by
        obtain ⟨h0, h1, h2, h3, h4⟩ := HT.out
        obtain ⟨h5, h6⟩ := HN.out
        obtain ⟨h7, h8⟩ := HNF.out
        obtain ⟨h9, h10⟩ := HS2.out
        unfold elderI
        dsimp only
        rw [h4, h7, h8, Int.toNat_natCast, h9, h10, h5, h6, Int.toNat_natCast, h0, h1, h2, h3]
        exact ⟨rfl, rfl⟩
      have HST := Lib.hid hst
      clear bS bK own kr hK1 hst
      go_wp2_with fail
      refine bodyPost_ret (v := .agg #[.int .i64 t0, .int .i64 t1, .int .i64 t2, .int .i64 t3, .slice fva nf fvc, .slice eva k evc]) (ret_cell (d := _) Try.results139 rfl (HK1.out.store6 rfl (.int .i64 t0) (.int .i64 t1) (.int .i64 t2) (.int .i64 t3) (.slice fva nf fvc) (.slice eva k evc)) Try.underlying90 rfl infoElder) rfl ?_
      rw [HST.out.1, HST.out.2]
      have XK := (((((((Kp.refl (fun b => b = w.heap.size) wr).andset ⟨w.heap.size, 0, none⟩ (.int .i64 t0) rfl).andset ⟨w.heap.size, 1, none⟩ (.int .i64 t1) rfl).andset ⟨w.heap.size, 2, none⟩ (.int .i64 t2) rfl).andset ⟨w.heap.size, 3, none⟩ (.int .i64 t3) rfl).andset ⟨w.heap.size, 4, none⟩ (.slice fva nf fvc) rfl).andset ⟨w.heap.size, 5, none⟩ (.slice eva k evc) rfl)
      refine ⟨.slice fva nf fvc, .slice eva k evc, rfl, BS.out.kp XK (by omega), ?_, ?_, ?_⟩
      · exact (((kp_of HB.out (fun b => b = S)).trans (KPB.out.trans KR.out (fun _ _ h => h)) (fun c hc h => by rcases h with h | h; exact h; omega)).trans XK (fun c hc h => by omega))
      · show World.ownsRow _ _ _ _ _ FR.length (intCells FR)
        rw [HFL.out]
        exact own_base (own_kp FOWNR.out XK (fun b hb h => by have := (FVB.out b hb).1; have := HWS.out; omega)) (by have := HB.out.size; omega)
      · have e2 : ((unitsI 10 mkE su k).1).length = k := unitsI_length _ _ _ _
        show World.ownsRow _ _ _ _ _ ((unitsI 10 mkE su k).1).length (cellsAll (unitsI 10 mkE su k).1)
        rw [e2]
        exact own_base (own_kp OWN.out XK (fun b hb h => by have := (World.ownsRow.lt OWN.out b hb).1; have := HWS.out; omega)) (by have := HB.out.size; have := KPB.out.size; omega)
end Go.Proofs.Ytlfljlhppigejaa
