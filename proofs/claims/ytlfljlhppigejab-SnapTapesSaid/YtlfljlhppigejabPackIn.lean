/-
  The walks of snap's in: numbers that are read. What is read of a state, as plain functions. Plain facts for chapter 6: what is read without a fault, written anew, is what was there. No program in sight.
-/
import Derived.Test.YtlfljlhppigejabWireCore
import Derived.Test.YtlfljlhppigejabElderMove
import Derived.Test.YtlfljlhppigejabNewBoard
import Derived.Test.YtlfljlhppigejabPackPure
import Derived.Test.YtlfljlhppigejabPackOut
namespace Go.Proofs.Ytlfljlhppigejab
open Go.RowKit

/-- What is left to be read, and the error's number. -/
abbrev St := List UInt8 × Nat
def numI (st : St) : Int × St := if st.2 ≠ 0 then (0, st) else if (takeL st.1).2.2 ≠ 0 then (0, (st.1, (takeL st.1).2.2)) else (((takeL st.1).1 : Nat), ((takeL st.1).2.1, 0))
def numsI (st : St) : Nat → List Int × St
  | 0 => ([], st)
  | k + 1 => ((numsI st k).1 ++ [(numI (numsI st k).2).1], (numI (numsI st k).2).2)
theorem numsI_length (st : St) (k : Nat) : (numsI st k).1.length = k := by
  induction k with
  | zero => rfl
  | succ k ih => unfold numsI; rw [List.length_append, ih]; rfl
def inC (st : St) : Array Value := #[.string (bstr st.1), errV st.2]
def manyI (st : St) (most : Int) : Int × St :=
  if (numI st).2.2 ≠ 0 then (0, (numI st).2) else if most < (numI st).1 then (0, ((numI st).2.1, 2)) else ((numI st).1, (numI st).2)
def endI (st : St) : Nat := if st.2 = 0 ∧ st.1 ≠ [] then 7 else st.2

set_option maxHeartbeats 1600000 in
set_option maxRecDepth 100000 in
theorem num_in (st : St) (S : Nat) (w : World) (h : Blk w S (inC st)) (hlen : st.1.length ≤ 1000000) :
    Calls Try.prog 90 #[.pointer (some ⟨S, 0, none⟩)] w fun e w' => e = .returned (.int .i64 (numI st).1) ∧ Blk w' S (inC (numI st).2) ∧ Kp (fun b => b = S) w w' := by
  obtain ⟨l, f⟩ := st
  unfold inC at h
  dsimp only at h hlen
  obtain ⟨lS, cS, fS⟩ := id h
  have HH := Lib.hid h
  clear h
  by_cases hf : f = 0
  case neg =>
    rw [errV_pos _ hf] at cS
    have HNE := Lib.hid hf
    have hr : numI (l, f) = (0, (l, f)) := by unfold numI; rw [if_pos hf]
    have HR := Lib.hid hr
    clear hf hr
    go_enter Try.func90, Try.ntmps90
    go_wp2_with fail
    go_ret
    rw [HR.out]
    exact ⟨rfl, HH.out, Kp.refl _ _⟩
  subst hf
  rw [errV_zero] at cS
  obtain ⟨r, hr⟩ : ∃ r, takeL l = r := ⟨_, rfl⟩
  have HR := Lib.hid hr
  clear hr
  have htk := take_any (bstr l) (by rw [bstr_size]; omega) w
  rw [bstr_list] at htk
  have HTK := Lib.hid htk
  clear htk
  go_enter Try.func90, Try.ntmps90
  go_wp2_with fail
  refine (HTK.out).mono ?_
  rintro e w1 ⟨rfl, b1⟩
  rw [HR.out]
  obtain ⟨m, left, ef⟩ := r
  have h1 := HH.out.call b1
  obtain ⟨lS1, cS1, fS1⟩ := id h1
  have H1 := Lib.hid h1
  have K1 := Lib.hid (kp_of b1 (fun b => b = S))
  clear b1 h1 cS fS lS
  dsimp only
  by_cases he : ef = 0
  case neg =>
    rw [errV_pos _ he]
    have hr2 : numI (l, 0) = (0, (l, ef)) := by
      unfold numI
      rw [if_neg (by simp), HR.out, if_pos he]
    have HE := Lib.hid he
    have HR2 := Lib.hid hr2
    clear he hr2
    go_wp2_with fail
    go_ret
    rw [HR2.out]
    refine ⟨rfl, ?_, K1.out.andset _ _ rfl⟩
    have := H1.out.store (.iface 112 (.int .i64 ef)) (i := 1) (by simp)
    unfold inC
    rw [errV_pos _ HE.out]
    simpa using this
  subst he
  rw [errV_zero]
  have hr2 : numI (l, 0) = ((m : Int), (left, 0)) := by
    unfold numI
    rw [if_neg (by simp), HR.out, if_neg (by simp)]
  have HR2 := Lib.hid hr2
  clear hr2
  go_wp2_with fail
  go_ret
  rw [HR2.out]
  refine ⟨rfl, ?_, K1.out.andset _ _ rfl⟩
  have := H1.out.store (.string (bstr left)) (i := 0) (by simp)
  unfold inC
  simpa using this

/-- Pointers to a block's first cells. -/
def putI (c : Array Value) (vs : List Int) : Array Value := (vs.map (Value.int .i64) ++ c.toList.drop vs.length).toArray
theorem putI_snoc {c : Array Value} {vs : List Int} (h : vs.length < c.size) (v : Int) : putI c (vs ++ [v]) = (putI c vs).setIfInBounds vs.length (.int .i64 v) := by
  obtain ⟨l⟩ := c
  have hl : vs.length < l.length := h
  unfold putI
  apply Array.ext'
  simp only [Array.toList_setIfInBounds]
  rw [List.map_append, List.length_append, List.set_append_right _ _ (by simp), List.append_assoc]
  congr 1
  rw [List.length_map, Nat.sub_self, List.drop_eq_getElem_cons hl]
  simp
  rw [List.drop_eq_getElem_cons hl]
  rfl
theorem putI_size {c : Array Value} {vs : List Int} (h : vs.length ≤ c.size) : (putI c vs).size = c.size := by
  obtain ⟨l⟩ := c
  have hl : vs.length ≤ l.length := h
  simp [putI]
  omega

set_option maxHeartbeats 3200000 in
set_option maxRecDepth 100000 in
theorem nums_in (st : St) (S K X n cl : Nat) (c : Array Value) (w : World) (h : Blk w S (inC st)) (hK : Blk w K c) (hn : n ≤ c.size) (hSK : S ≠ K) (hX : ∀ k, k < n → w.cell? ⟨X, k, none⟩ = some (.pointer (some ⟨K, k, none⟩))) (hXl : X < w.heap.size) (hXS : X ≠ S) (hXK : X ≠ K)
    (hlen : ∀ k, (numsI st k).2.1.length ≤ 1000000) (h20 : n ≤ 1000) :
    Calls Try.prog 59 #[.pointer (some ⟨S, 0, none⟩), .slice (some ⟨X, 0, none⟩) n cl] w fun e w' => e = .returned (.tuple #[]) ∧ Blk w' S (inC (numsI st n).2) ∧ Blk w' K (putI c (numsI st n).1) ∧ Kp (fun b => b = S ∨ b = K) w w' := by
  have H := Lib.hid h
  have HK := Lib.hid hK
  have HX := Lib.hid hX
  have HL := Lib.hid hlen
  clear h hK hX hlen
  have hn0 : (0 : Int) ≤ (n : Int) := by omega
  go_enter Try.func59, Try.ntmps59
  go_wp2_with fail
  go_loopw [5, 8] (fun _ i wr => ∃ k : Nat, i = .int .i64 k ∧ k ≤ n ∧ (Blk wr S (inC (numsI st k).2) ∧ Blk wr K (putI c (numsI st k).1) ∧ Kp (fun b => b = S ∨ b = K) w wr)) (fun _ i _ => (n - intOf i).toNat)
  case atStart => exact ⟨0, rfl, by omega, H.out, by unfold putI numsI; simpa using HK.out, Kp.refl _ _⟩
  case round =>
    obtain ⟨k, rfl, hk, bS, bK, kr⟩ := hrel
    have hszr := kr.size
    by_cases hlt : k < n
    · have hx := HX.out k hlt
      rw [← kr.cell X k hXl (fun h => by rcases h with h | h; exact hXS h; exact hXK h)] at hx
      have hki : (0 : Int) ≤ (k : Int) := by omega
      have hkl : (k : Int) < (n : Int) := by omega
      have hXr : X < wr.heap.size := by omega
      have BS := Lib.hid bS
      have BK := Lib.hid bK
      have KR := Lib.hid kr
      clear bS bK kr
      go_wp2_with fail
      refine (num_in (numsI st k).2 S wr BS.out (HL.out k)).mono ?_
      rintro e w1 ⟨rfl, b1, k1⟩
      have bK1 := BK.out.kp k1 (fun h => hSK h.symm)
      obtain ⟨lK, cK, fK⟩ := id bK1
      have hsz : (putI c (numsI st k).1).size = c.size := putI_size (by rw [numsI_length]; omega)
      have cKk : (w1.cell? ⟨K, k, none⟩).isSome = true := by rw [cK k, Array.getElem?_eq_getElem (by omega)]; rfl
      obtain ⟨old, hold⟩ := Option.isSome_iff_exists.1 cKk
      have fKk := fK k
      have B1 := Lib.hid b1
      have BK1 := Lib.hid bK1
      have K1 := Lib.hid ((KR.out.trans k1 (fun _ _ h => Or.inl h)))
      clear b1 k1 bK1 cK fK cKk
      go_wp2_with fail
      go_roundw
      case rel =>
        refine ⟨k + 1, by go_num, by omega, ?_, ?_, K1.out.andset _ _ (Or.inr rfl)⟩
        · exact B1.out.other (fun h => hSK h.symm)
        · have := BK1.out.store (.int .i64 (numI (numsI st k).2).1) (i := k) (by omega)
          have e : putI c (numsI st (k + 1)).1 = (putI c (numsI st k).1).setIfInBounds k (.int .i64 (numI (numsI st k).2).1) := by
            have h2 := putI_snoc (c := c) (vs := (numsI st k).1) (by rw [numsI_length]; omega) (numI (numsI st k).2).1
            rw [numsI_length] at h2
            exact h2
          rw [e]
          exact this
      case measure => simp [intOf]; omega
    · obtain rfl : k = n := by omega
      go_wp2_with fail
      go_end0
      exact ⟨rfl, bS, bK, kr⟩

set_option maxHeartbeats 3200000 in
set_option maxRecDepth 100000 in
theorem many_in (st : St) (most : Int) (S : Nat) (w : World) (h : Blk w S (inC st)) (hlen : st.1.length ≤ 1000000) :
    Calls Try.prog 58 #[.pointer (some ⟨S, 0, none⟩), .int .i64 most] w fun e w' => e = .returned (.int .i64 (manyI st most).1) ∧ Blk w' S (inC (manyI st most).2) ∧ Kp (fun b => b = S) w w' := by
  have H := Lib.hid h
  clear h
  go_enter Try.func58, Try.ntmps58
  go_wp2_with fail
  refine (num_in st S w H.out hlen).mono ?_
  rintro e w1 ⟨rfl, b1, k1⟩
  obtain ⟨⟨n, l, f⟩, hr⟩ : ∃ r, numI st = r := ⟨_, rfl⟩
  rw [hr] at b1 ⊢
  have HR := Lib.hid hr
  unfold inC at b1
  dsimp only at b1 ⊢
  obtain ⟨lS, cS, fS⟩ := id b1
  have B1 := Lib.hid b1
  have K1 := Lib.hid k1
  clear b1 k1 hr
  by_cases hf : f = 0
  case neg =>
    rw [errV_pos _ hf] at cS
    have hm : manyI st most = (0, (l, f)) := by unfold manyI; rw [HR.out, if_pos hf]
    have HM := Lib.hid hm
    clear hf hm
    by_cases hmost : most < n
    · have d : decide (most < n) = true := decide_eq_true hmost
      clear hmost
      go_wp2_with fail
      go_ret
      rw [HM.out]
      exact ⟨rfl, B1.out, K1.out⟩
    · have d : decide (most < n) = false := decide_eq_false hmost
      clear hmost
      go_wp2_with fail
      go_ret
      rw [HM.out]
      exact ⟨rfl, B1.out, K1.out⟩
  subst hf
  rw [errV_zero] at cS
  by_cases hmost : most < n
  · have d : decide (most < n) = true := decide_eq_true hmost
    have hm : manyI st most = (0, (l, 2)) := by unfold manyI; rw [HR.out, if_neg (by simp), if_pos hmost]
    have HM := Lib.hid hm
    clear hmost hm
    go_wp2_with fail
    go_ret
    rw [HM.out]
    refine ⟨rfl, ?_, K1.out.andset _ _ rfl⟩
    have := B1.out.store (.iface 112 (.int .i64 2)) (i := 1) (by simp)
    simpa [inC, errV] using this
  · have d : decide (most < n) = false := decide_eq_false hmost
    have hm : manyI st most = (n, (l, 0)) := by unfold manyI; rw [HR.out, if_neg (by simp), if_neg hmost]
    have HM := Lib.hid hm
    clear hmost hm
    go_wp2_with fail
    go_ret
    rw [HM.out]
    exact ⟨rfl, B1.out, K1.out⟩

set_option maxHeartbeats 3200000 in
set_option maxRecDepth 100000 in
theorem end_in (st : St) (S : Nat) (w : World) (h : Blk w S (inC st)) :
    Calls Try.prog 60 #[.pointer (some ⟨S, 0, none⟩)] w fun e w' => e = .returned (errV (endI st)) ∧ w = w' := by
  obtain ⟨l, f⟩ := st
  unfold inC at h
  dsimp only at h
  obtain ⟨lS, cS, fS⟩ := id h
  clear h
  by_cases hf : f = 0
  case neg =>
    rw [errV_pos _ hf] at cS
    have hm : endI (l, f) = f := by unfold endI; rw [if_neg (fun h => hf h.1)]
    have HM := Lib.hid hm
    have HF := Lib.hid hf
    clear hf hm
    go_enter Try.func60, Try.ntmps60
    go_wp2_with fail
    go_ret
    exact ⟨ret1 (by rw [HM.out, errV_pos _ HF.out]; rfl), rfl⟩
  subst hf
  rw [errV_zero] at cS
  by_cases hl : l = []
  · have d : (bstr l).toList.isEmpty = true := by rw [Lib.toList_data, bstr_list, hl]; rfl
    have hm : endI (l, 0) = 0 := by unfold endI; rw [if_neg (fun h => h.2 hl)]
    have HM := Lib.hid hm
    clear hl hm
    go_enter Try.func60, Try.ntmps60
    go_wp2_with fail
    go_ret
    exact ⟨ret1 (by rw [HM.out]; rfl), rfl⟩
  · have d : (bstr l).toList.isEmpty = false := by
      rw [Lib.toList_data, bstr_list]
      cases l with
      | nil => exact absurd rfl hl
      | cons _ _ => rfl
    have hm : endI (l, 0) = 7 := by unfold endI; rw [if_pos ⟨rfl, hl⟩]
    have HM := Lib.hid hm
    clear hl hm
    go_enter Try.func60, Try.ntmps60
    go_wp2_with fail
    go_ret
    exact ⟨ret1 (by rw [HM.out]; rfl), rfl⟩
end Go.Proofs.Ytlfljlhppigejab
namespace Go.Proofs.Ytlfljlhppigejab
open Go.RowKit

theorem takeGo_shrinks : ∀ (i N : Nat) (l : List UInt8), (takeGo i N l).2.1.length ≤ l.length := by
  intro i N l
  induction l generalizing i N with
  | nil => rw [takeGo]; simp
  | cons c r ih =>
    rw [takeGo]
    repeat' split
    all_goals first
      | (simp; done)
      | exact Nat.le_trans (ih _ _) (by simp)
      | (simp; omega)
theorem numI_shrinks (st : St) : (numI st).2.1.length ≤ st.1.length := by
  unfold numI
  split
  · exact Nat.le_refl _
  split
  · exact Nat.le_refl _
  · exact takeGo_shrinks 0 0 st.1
theorem numsI_shrinks (st : St) (k : Nat) : (numsI st k).2.1.length ≤ st.1.length := by
  induction k with
  | zero => exact Nat.le_refl _
  | succ k ih => exact Nat.le_trans (numI_shrinks _) ih
theorem manyI_shrinks (st : St) (most : Int) : (manyI st most).2.1.length ≤ st.1.length := by
  have := numI_shrinks st
  unfold manyI
  repeat' split
  all_goals exact this
theorem numI_nat (st : St) : 0 ≤ (numI st).1 := by
  unfold numI
  repeat' split
  all_goals simp
theorem manyI_range (st : St) (most : Int) (h : 0 ≤ most) : 0 ≤ (manyI st most).1 ∧ (manyI st most).1 ≤ most := by
  have := numI_nat st
  unfold manyI
  repeat' split
  all_goals (dsimp only; omega)

def mkE (v : List Int) : U := ⟨v.getD 0 0, v.getD 1 0, v.getD 2 0, v.getD 3 0, v.getD 4 0, v.getD 5 0, v.getD 6 0, v.getD 7 0, v.getD 8 0, v.getD 9 0, 0⟩
theorem put4 {a b c d e f : Value} {vs : List Int} (h : vs.length = 4) : putI #[a, b, c, d, e, f] vs = #[.int .i64 (vs.getD 0 0), .int .i64 (vs.getD 1 0), .int .i64 (vs.getD 2 0), .int .i64 (vs.getD 3 0), e, f] := by
  match vs, h with
  | [x, y, z, t], _ => rfl
theorem put10 {a b c d e f g h i j : Value} {vs : List Int} (hl : vs.length = 10) : putI #[a, b, c, d, e, f, g, h, i, j] vs = (cellsE (mkE vs)).toArray := by
  match vs, hl with
  | [v0, v1, v2, v3, v4, v5, v6, v7, v8, v9], _ => rfl
/-- Units that are read, k numbers each. -/
def unitsI (k : Nat) (mk : List Int → U) (st : St) : Nat → List U × St
  | 0 => ([], st)
  | m + 1 => ((unitsI k mk st m).1 ++ [mk (numsI (unitsI k mk st m).2 k).1], (numsI (unitsI k mk st m).2 k).2)
theorem unitsI_length (k : Nat) (mk : List Int → U) (st : St) (m : Nat) : (unitsI k mk st m).1.length = m := by
  induction m with
  | zero => rfl
  | succ m ih => unfold unitsI; rw [List.length_append, ih]; rfl
theorem unitsI_shrinks (k : Nat) (mk : List Int → U) (st : St) (m : Nat) : (unitsI k mk st m).2.1.length ≤ st.1.length := by
  induction m with
  | zero => exact Nat.le_refl _
  | succ m ih => exact Nat.le_trans (numsI_shrinks _ _) ih
/-- An elder state that is read. -/
def elderI (st : St) : G × St :=
  let h := numsI st 4
  let n := manyI h.2 200
  let f := numsI n.2 n.1.toNat
  let m := manyI f.2 20
  let u := unitsI 10 mkE m.2 m.1.toNat
  (⟨false, h.1.getD 0 0, h.1.getD 1 0, h.1.getD 2 0, h.1.getD 3 0, f.1, u.1⟩, u.2)

theorem put4n {a b c d e : Value} {vs : List Int} (h : vs.length = 4) : putI #[a, b, c, d, e] vs = #[.int .i64 (vs.getD 0 0), .int .i64 (vs.getD 1 0), .int .i64 (vs.getD 2 0), .int .i64 (vs.getD 3 0), e] := by
  match vs, h with
  | [x, y, z, t], _ => rfl
def mkN (v : List Int) : U := ⟨v.getD 0 0, v.getD 1 0, v.getD 2 0, v.getD 3 0, v.getD 4 0, v.getD 5 0, v.getD 6 0, v.getD 7 0, v.getD 8 0, v.getD 9 0, v.getD 10 0⟩
theorem put11 {a b c d e f g h i j k : Value} {vs : List Int} (hl : vs.length = 11) : putI #[a, b, c, d, e, f, g, h, i, j, k] vs = (cellsN (mkN vs)).toArray := by
  match vs, hl with
  | [v0, v1, v2, v3, v4, v5, v6, v7, v8, v9, v10], _ => rfl
/-- A newer state that is read. -/
def newerI (st : St) : G × St :=
  let h := numsI st 4
  let m := manyI h.2 20
  let u := unitsI 11 mkN m.2 m.1.toNat
  (⟨true, h.1.getD 0 0, h.1.getD 1 0, h.1.getD 2 0, h.1.getD 3 0, [], u.1⟩, u.2)
end Go.Proofs.Ytlfljlhppigejab
namespace Go.Proofs.Ytlfljlhppigejab

/-- Numbers that were read: none below 0, all fit, their bytes and what is left are what was there. -/
structure Rd (st : St) (ns : List Int) (st' : St) : Prop where
  ok : st.2 = 0
  bytes : outL ns ++ st'.1 = st.1
  nat : badL ns = false
  fit : ∀ n ∈ ns, Fits64 n
theorem Rd.nil {st : St} (h : st.2 = 0) : Rd st [] st := ⟨h, rfl, rfl, fun n hn => by simp at hn⟩
theorem Rd.append {a b c : St} {k l : List Int} (h1 : Rd a k b) (h2 : Rd b l c) : Rd a (k ++ l) c :=
  ⟨h1.ok, by rw [outL_append, List.append_assoc, h2.bytes, h1.bytes], by rw [badL_append, h1.nat, h2.nat]; rfl, fun n hn => (List.mem_append.1 hn).elim (h1.fit n) (h2.fit n)⟩
theorem numI_rd (st : St) (h : (numI st).2.2 = 0) : Rd st [(numI st).1] (numI st).2 := by
  obtain ⟨l, f⟩ := st
  unfold numI at *
  by_cases hf : f = 0
  case neg => rw [if_pos (show (l, f).2 ≠ 0 from hf)] at h; exact absurd h hf
  subst hf
  rw [if_neg (by simp)] at h ⊢
  by_cases ht : (takeL l).2.2 = 0
  case neg => rw [if_pos ht] at h; exact absurd h ht
  rw [if_neg (fun x => x ht)]
  obtain ⟨⟨n, left, e⟩, hr⟩ : ∃ r, takeL l = r := ⟨_, rfl⟩
  rw [hr] at ht
  dsimp only at ht
  subst ht
  dsimp only
  rw [hr]
  obtain ⟨h1, h2⟩ := takeL_inv l left n hr
  refine ⟨rfl, ?_, ?_, ?_⟩
  · show outL [(n : Int)] ++ left = l
    have : outL [(n : Int)] = numL n := by
      unfold outL numB
      simp
      intro h
      omega
    rw [this, h2]
  · show badL [(n : Int)] = false
    unfold badL
    simp
  · intro m hm
    obtain rfl : m = (n : Int) := by simpa using hm
    exact ⟨by omega, by omega⟩
theorem numsI_rd (st : St) (k : Nat) (h0 : st.2 = 0) : (numsI st k).2.2 = 0 → Rd st (numsI st k).1 (numsI st k).2 := by
  induction k with
  | zero => intro _; exact Rd.nil h0
  | succ k ih =>
    intro h
    have h1 := numI_rd (numsI st k).2 h
    exact (ih h1.ok).append h1
theorem numsI_ok (st : St) (k : Nat) (h : (numsI st k).2.2 = 0) : st.2 = 0 := by
  induction k with
  | zero => exact h
  | succ k ih => exact ih (numI_rd _ h).ok
theorem numsI_rd' (st : St) (k : Nat) (h : (numsI st k).2.2 = 0) : Rd st (numsI st k).1 (numsI st k).2 := numsI_rd st k (numsI_ok st k h) h
theorem manyI_rd (st : St) (most : Int) (h : (manyI st most).2.2 = 0) : Rd st [(manyI st most).1] (manyI st most).2 := by
  unfold manyI at *
  split at h
  · next h1 => exact absurd h h1
  · next h1 =>
    rw [if_neg h1]
    split at h
    · cases h
    · next h2 => rw [if_neg h2]; exact numI_rd st h
theorem unitsI_rd (k : Nat) (mk : List Int → U) (fl : U → List Int) (hk : ∀ v, v.length = k → fl (mk v) = v) (st : St) (m : Nat) : st.2 = 0 → (unitsI k mk st m).2.2 = 0 → Rd st ((unitsI k mk st m).1.flatMap fl) (unitsI k mk st m).2 := by
  induction m with
  | zero => intro h _; exact Rd.nil h
  | succ m ih =>
    intro h0 h
    have h1 := numsI_rd' (unitsI k mk st m).2 k h
    have h2 : (unitsI k mk st (m + 1)).1.flatMap fl = (unitsI k mk st m).1.flatMap fl ++ (numsI (unitsI k mk st m).2 k).1 := by
      show ((unitsI k mk st m).1 ++ [mk (numsI (unitsI k mk st m).2 k).1]).flatMap fl = _
      rw [List.flatMap_append]
      simp [hk _ (numsI_length _ _)]
    rw [h2]
    exact (ih h0 h1.ok).append h1
theorem unitsI_ok (k : Nat) (mk : List Int → U) (st : St) (m : Nat) (h : (unitsI k mk st m).2.2 = 0) : st.2 = 0 := by
  induction m with
  | zero => exact h
  | succ m ih => exact ih (numsI_ok _ _ h)
theorem mkE_fields (v : List Int) (h : v.length = 10) : fieldsE (mkE v) = v := by
  match v, h with
  | [a, b, c, d, e, f, g, i, j, k], _ => rfl
theorem mkN_fields (v : List Int) (h : v.length = 11) : fieldsN (mkN v) = v := by
  match v, h with
  | [a, b, c, d, e, f, g, i, j, k, l], _ => rfl
theorem four_list (v : List Int) (h : v.length = 4) : [v.getD 0 0, v.getD 1 0, v.getD 2 0, v.getD 3 0] = v := by
  match v, h with
  | [a, b, c, d], _ => rfl
theorem elderI_rd (st : St) (h : (elderI st).2.2 = 0) : Rd st (elderN (elderI st).1) (elderI st).2 := by
  unfold elderI at *
  dsimp only at *
  obtain ⟨H, hH⟩ : ∃ x, numsI st 4 = x := ⟨_, rfl⟩
  rw [hH] at h ⊢
  obtain ⟨n, hn⟩ : ∃ x, manyI H.2 200 = x := ⟨_, rfl⟩
  rw [hn] at h ⊢
  obtain ⟨F, hF⟩ : ∃ x, numsI n.2 n.1.toNat = x := ⟨_, rfl⟩
  rw [hF] at h ⊢
  obtain ⟨m, hm⟩ : ∃ x, manyI F.2 20 = x := ⟨_, rfl⟩
  rw [hm] at h ⊢
  have e1 := unitsI_ok 10 mkE m.2 m.1.toNat h
  have r5 := unitsI_rd 10 mkE fieldsE mkE_fields m.2 m.1.toNat e1 h
  have r4 : Rd F.2 [m.1] m.2 := by have := manyI_rd F.2 20 (by rw [hm]; exact e1); rwa [hm] at this
  have r3 : Rd n.2 F.1 F.2 := by have := numsI_rd' n.2 n.1.toNat (by rw [hF]; exact r4.ok); rwa [hF] at this
  have r2 : Rd H.2 [n.1] n.2 := by have := manyI_rd H.2 200 (by rw [hn]; exact r3.ok); rwa [hn] at this
  have r1 : Rd st H.1 H.2 := by have := numsI_rd' st 4 (by rw [hH]; exact r2.ok); rwa [hH] at this
  have l1 : H.1.length = 4 := by rw [← hH]; exact numsI_length _ _
  have l3 : F.1.length = n.1.toNat := by rw [← hF]; exact numsI_length _ _
  have l5 : (unitsI 10 mkE m.2 m.1.toNat).1.length = m.1.toNat := unitsI_length _ _ _ _
  have p2 : 0 ≤ n.1 := by rw [← hn]; exact (manyI_range _ _ (by omega)).1
  have p4 : 0 ≤ m.1 := by rw [← hm]; exact (manyI_range _ _ (by omega)).1
  have r := (((r1.append r2).append r3).append r4).append r5
  have e : elderN ⟨false, H.1.getD 0 0, H.1.getD 1 0, H.1.getD 2 0, H.1.getD 3 0, F.1, (unitsI 10 mkE m.2 m.1.toNat).1⟩ = H.1 ++ [n.1] ++ F.1 ++ [m.1] ++ (unitsI 10 mkE m.2 m.1.toNat).1.flatMap fieldsE := by
    unfold elderN
    dsimp only
    rw [l3, l5, Int.toNat_of_nonneg p2, Int.toNat_of_nonneg p4]
    have := four_list H.1 l1
    show [H.1.getD 0 0, H.1.getD 1 0, H.1.getD 2 0, H.1.getD 3 0] ++ [n.1] ++ F.1 ++ [m.1] ++ _ = _
    rw [this]
  rw [e]
  exact r
theorem newerI_rd (st : St) (h : (newerI st).2.2 = 0) : Rd st (newerN (newerI st).1) (newerI st).2 := by
  unfold newerI at *
  dsimp only at *
  obtain ⟨H, hH⟩ : ∃ x, numsI st 4 = x := ⟨_, rfl⟩
  rw [hH] at h ⊢
  obtain ⟨m, hm⟩ : ∃ x, manyI H.2 20 = x := ⟨_, rfl⟩
  rw [hm] at h ⊢
  have e1 := unitsI_ok 11 mkN m.2 m.1.toNat h
  have r5 := unitsI_rd 11 mkN fieldsN mkN_fields m.2 m.1.toNat e1 h
  have r4 : Rd H.2 [m.1] m.2 := by have := manyI_rd H.2 20 (by rw [hm]; exact e1); rwa [hm] at this
  have r1 : Rd st H.1 H.2 := by have := numsI_rd' st 4 (by rw [hH]; exact r4.ok); rwa [hH] at this
  have l1 : H.1.length = 4 := by rw [← hH]; exact numsI_length _ _
  have l5 : (unitsI 11 mkN m.2 m.1.toNat).1.length = m.1.toNat := unitsI_length _ _ _ _
  have p4 : 0 ≤ m.1 := by rw [← hm]; exact (manyI_range _ _ (by omega)).1
  have r := (r1.append r4).append r5
  have e : newerN ⟨true, H.1.getD 0 0, H.1.getD 1 0, H.1.getD 2 0, H.1.getD 3 0, [], (unitsI 11 mkN m.2 m.1.toNat).1⟩ = H.1 ++ [m.1] ++ (unitsI 11 mkN m.2 m.1.toNat).1.flatMap fieldsN := by
    unfold newerN
    dsimp only
    rw [l5, Int.toNat_of_nonneg p4]
    have := four_list H.1 l1
    show [H.1.getD 0 0, H.1.getD 1 0, H.1.getD 2 0, H.1.getD 3 0] ++ [m.1] ++ _ = _
    rw [this]
  rw [e]
  exact r

/-! ### Tapes and reels -/
def fieldsC (n : Bool) (c : Cm) : List Int := if n then [c.player, c.op, c.id, c.kind, c.x, c.y] else [c.player, c.op, c.id, c.kind, c.x, c.y, c.target]
def cmK (n : Bool) : Nat := if n then 6 else 7
def mkC (v : List Int) : Cm := ⟨v.getD 0 0, v.getD 1 0, v.getD 2 0, v.getD 3 0, v.getD 4 0, v.getD 5 0, v.getD 6 0⟩
theorem mkC_fields (n : Bool) (v : List Int) (h : v.length = cmK n) : fieldsC n (mkC v) = v := by
  cases n
  · match v, h with
    | [a, b, c, d, e, f, g], _ => rfl
  · match v, h with
    | [a, b, c, d, e, f], _ => rfl
/-- Commands that are read. -/
def cmsI (n : Bool) (st : St) : Nat → List Cm × St
  | 0 => ([], st)
  | m + 1 => ((cmsI n st m).1 ++ [mkC (numsI (cmsI n st m).2 (cmK n)).1], (numsI (cmsI n st m).2 (cmK n)).2)
/-- One tick that is read. -/
def tickI (n : Bool) (st : St) : List Cm × St := cmsI n (manyI st 8).2 (manyI st 8).1.toNat
def ticksI (n : Bool) (st : St) : Nat → List (List Cm) × St
  | 0 => ([], st)
  | m + 1 => ((ticksI n st m).1 ++ [(tickI n (ticksI n st m).2).1], (tickI n (ticksI n st m).2).2)
/-- The start of a tape or a reel. -/
def startI (n : Bool) (st : St) : G × St := if n then newerI st else elderI st
def startN (n : Bool) (g : G) : List Int := if n then newerN g else elderN g
/-- A tape or a reel that is read. -/
def tapeI (n : Bool) (st : St) : G × List (List Cm) × St :=
  ((startI n st).1, ticksI n (manyI (startI n st).2 60).2 (manyI (startI n st).2 60).1.toNat)
def tickN (n : Bool) (l : List Cm) : List Int := (l.length : Int) :: l.flatMap (fieldsC n)
/-- A tape's numbers. -/
def tapeN (n : Bool) (g : G) (ts : List (List Cm)) : List Int := startN n g ++ [(ts.length : Int)] ++ ts.flatMap (tickN n)
theorem cmsI_length (n : Bool) (st : St) (m : Nat) : (cmsI n st m).1.length = m := by
  induction m with
  | zero => rfl
  | succ m ih => unfold cmsI; rw [List.length_append, ih]; rfl
theorem ticksI_length (n : Bool) (st : St) (m : Nat) : (ticksI n st m).1.length = m := by
  induction m with
  | zero => rfl
  | succ m ih => unfold ticksI; rw [List.length_append, ih]; rfl
theorem cmsI_shrinks (n : Bool) (st : St) (m : Nat) : (cmsI n st m).2.1.length ≤ st.1.length := by
  induction m with
  | zero => exact Nat.le_refl _
  | succ m ih => exact Nat.le_trans (numsI_shrinks _ _) ih
theorem tickI_shrinks (n : Bool) (st : St) : (tickI n st).2.1.length ≤ st.1.length := Nat.le_trans (cmsI_shrinks _ _ _) (manyI_shrinks _ _)
theorem ticksI_shrinks (n : Bool) (st : St) (m : Nat) : (ticksI n st m).2.1.length ≤ st.1.length := by
  induction m with
  | zero => exact Nat.le_refl _
  | succ m ih => exact Nat.le_trans (tickI_shrinks _ _) ih
theorem cmsI_ok (n : Bool) (st : St) (m : Nat) (h : (cmsI n st m).2.2 = 0) : st.2 = 0 := by
  induction m with
  | zero => exact h
  | succ m ih => exact ih (numsI_ok _ _ h)
theorem cmsI_rd (n : Bool) (st : St) (m : Nat) : st.2 = 0 → (cmsI n st m).2.2 = 0 → Rd st ((cmsI n st m).1.flatMap (fieldsC n)) (cmsI n st m).2 := by
  induction m with
  | zero => intro h _; exact Rd.nil h
  | succ m ih =>
    intro h0 h
    have h1 := numsI_rd' (cmsI n st m).2 (cmK n) h
    have h2 : (cmsI n st (m + 1)).1.flatMap (fieldsC n) = (cmsI n st m).1.flatMap (fieldsC n) ++ (numsI (cmsI n st m).2 (cmK n)).1 := by
      show ((cmsI n st m).1 ++ [mkC (numsI (cmsI n st m).2 (cmK n)).1]).flatMap (fieldsC n) = _
      rw [List.flatMap_append]
      simp [mkC_fields n _ (numsI_length _ _)]
    rw [h2]
    exact (ih h0 h1.ok).append h1
theorem tickI_rd (n : Bool) (st : St) (h : (tickI n st).2.2 = 0) : Rd st (tickN n (tickI n st).1) (tickI n st).2 := by
  unfold tickI at *
  have e1 := cmsI_ok n _ _ h
  have r2 := cmsI_rd n _ _ e1 h
  have r1 := manyI_rd st 8 e1
  have p := (manyI_range st 8 (by omega)).1
  have e : tickN n (cmsI n (manyI st 8).2 (manyI st 8).1.toNat).1 = [(manyI st 8).1] ++ (cmsI n (manyI st 8).2 (manyI st 8).1.toNat).1.flatMap (fieldsC n) := by
    unfold tickN
    rw [cmsI_length, Int.toNat_of_nonneg p]
    rfl
  rw [e]
  exact r1.append r2
theorem ticksI_ok (n : Bool) (st : St) (m : Nat) (h : (ticksI n st m).2.2 = 0) : st.2 = 0 := by
  induction m with
  | zero => exact h
  | succ m ih => exact ih (tickI_rd n _ h).ok
theorem ticksI_rd (n : Bool) (st : St) (m : Nat) : st.2 = 0 → (ticksI n st m).2.2 = 0 → Rd st ((ticksI n st m).1.flatMap (tickN n)) (ticksI n st m).2 := by
  induction m with
  | zero => intro h _; exact Rd.nil h
  | succ m ih =>
    intro h0 h
    have h1 := tickI_rd n (ticksI n st m).2 h
    have h2 : (ticksI n st (m + 1)).1.flatMap (tickN n) = (ticksI n st m).1.flatMap (tickN n) ++ tickN n (tickI n (ticksI n st m).2).1 := by
      show ((ticksI n st m).1 ++ [(tickI n (ticksI n st m).2).1]).flatMap (tickN n) = _
      rw [List.flatMap_append]
      simp
    rw [h2]
    exact (ih h0 h1.ok).append h1
theorem startI_rd (n : Bool) (st : St) (h : (startI n st).2.2 = 0) : Rd st (startN n (startI n st).1) (startI n st).2 := by
  cases n
  · exact elderI_rd st h
  · exact newerI_rd st h
theorem tapeI_rd (n : Bool) (st : St) (h : (tapeI n st).2.2.2 = 0) : Rd st (tapeN n (tapeI n st).1 (tapeI n st).2.1) (tapeI n st).2.2 := by
  unfold tapeI at *
  dsimp only at *
  obtain ⟨S, hS⟩ : ∃ x, startI n st = x := ⟨_, rfl⟩
  rw [hS] at h ⊢
  obtain ⟨m, hm⟩ : ∃ x, manyI S.2 60 = x := ⟨_, rfl⟩
  rw [hm] at h ⊢
  have e1 := ticksI_ok n _ _ h
  have r3 := ticksI_rd n m.2 m.1.toNat e1 h
  have r2 : Rd S.2 [m.1] m.2 := by have := manyI_rd S.2 60 (by rw [hm]; exact e1); rwa [hm] at this
  have r1 : Rd st (startN n S.1) S.2 := by have := startI_rd n st (by rw [hS]; exact r2.ok); rwa [hS] at this
  have p : 0 ≤ m.1 := by rw [← hm]; exact (manyI_range _ _ (by omega)).1
  unfold tapeN
  rw [ticksI_length, Int.toNat_of_nonneg p]
  exact (r1.append r2).append r3

/-! ### Whole frames -/
theorem openL_inv (k : UInt8) (s : List UInt8) (h : (openL k s).2 = 0) : frameL k (openL k s).1 = s := by
  unfold openL at *
  split at h
  · cases h
  split at h
  · cases h
  split at h
  · cases h
  · next h1 h2 h3 =>
    rw [if_neg h1, if_neg h2, if_neg h3]
    exact Classical.not_not.1 h3
/-- Bytes that are read to their end without a fault are the frame of the numbers' bytes. -/
theorem read_frame (k : UInt8) (s : List UInt8) (ns : List Int) (st' : St) (r : Rd (openL k s) ns st') (he : endI st' = 0) : frameL k (outL ns) = s := by
  have h1 : st'.1 = [] := by
    unfold endI at he
    split at he
    · cases he
    · next h => exact Classical.byContradiction fun hn => h ⟨he, hn⟩
  have h2 := r.bytes
  rw [h1, List.append_nil] at h2
  rw [h2]
  exact openL_inv k s r.ok
theorem endI_ok (st : St) (h : endI st = 0) : st.2 = 0 := by
  unfold endI at h
  split at h
  · cases h
  · exact h
end Go.Proofs.Ytlfljlhppigejab
