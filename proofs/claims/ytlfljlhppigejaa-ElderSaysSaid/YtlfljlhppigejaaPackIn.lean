/-
  The walks of snap's in: numbers that are read. What is read of a state, as plain functions. The walk of snap's in.newer.
-/
import Derived.Test.YtlfljlhppigejaaPackWire
import Derived.Test.YtlfljlhppigejaaElderMove
import Derived.Test.YtlfljlhppigejaaNewBoard
import Derived.Test.YtlfljlhppigejaaElderBury
namespace Go.Proofs.Ytlfljlhppigejaa
open Go.RowKit

/-- What is left to be read, and the error's number. -/
abbrev St := List UInt8 × Nat
def numI (st : St) : Int × St := if st.2 ≠ 0 then (0, st) else if (takeL st.1).2.2 ≠ 0 then (0, (st.1, (takeL st.1).2.2)) else (((takeL st.1).1 : Nat), ((takeL st.1).2.1, 0))
def numsI (st : St) : Nat → List Int × St
  | 0 => ([], st)
  | k + 1 => ((numsI st k).1 ++ [(numI (numsI st k).2).1], (numI (numsI st k).2).2)
theorem numsI_length (st : St) (k : Nat) : (numsI st k).1.length = k := by
  induction k with
  | zero => rfl
  | succ k ih => unfold numsI; rw [List.length_append, ih]; rfl
def inC (st : St) : Array Value := #[.string (bstr st.1), errV st.2]
def manyI (st : St) (most : Int) : Int × St :=
  if (numI st).2.2 ≠ 0 then (0, (numI st).2) else if most < (numI st).1 then (0, ((numI st).2.1, 2)) else ((numI st).1, (numI st).2)
def endI (st : St) : Nat := if st.2 = 0 ∧ st.1 ≠ [] then 7 else st.2

set_option maxHeartbeats 1600000 in
set_option maxRecDepth 100000 in
theorem num_in (st : St) (S : Nat) (w : World) (h : Blk w S (inC st)) (hlen : st.1.length ≤ 1000000) :
    Calls Try.prog 167 #[.pointer (some ⟨S, 0, none⟩)] w fun e w' => e = .returned (.int .i64 (numI st).1) ∧ Blk w' S (inC (numI st).2) ∧ Kp (fun b => b = S) w w' := by
  obtain ⟨l, f⟩ := st
  unfold inC at h
  dsimp only at h hlen
  obtain ⟨lS, cS, fS⟩ := id h
  have HH := Lib.hid h
  clear h
  by_cases hf : f = 0
  case neg =>
    rw [errV_pos _ hf] at cS
    have HNE := Lib.hid hf
    have hr : numI (l, f) = (0, (l, f)) := by unfold numI; rw [if_pos hf]
    have HR := Lib.hid hr
    clear hf hr
    go_enter Try.func167, Try.ntmps167
    go_wp2_with fail
    go_ret
    rw [HR.out]
    exact ⟨rfl, HH.out, Kp.refl _ _⟩
  subst hf
  rw [errV_zero] at cS
  obtain ⟨r, hr⟩ : ∃ r, takeL l = r := ⟨_, rfl⟩
  have HR := Lib.hid hr
  clear hr
  have htk := take_any (bstr l) (by rw [bstr_size]; omega) w
  rw [bstr_list] at htk
  have HTK := Lib.hid htk
  clear htk
  go_enter Try.func167, Try.ntmps167
  go_wp2_with fail
  refine (HTK.out).mono ?_
  rintro e w1 ⟨rfl, b1⟩
  rw [HR.out]
  obtain ⟨m, left, ef⟩ := r
  have h1 := HH.out.call b1
  obtain ⟨lS1, cS1, fS1⟩ := id h1
  have H1 := Lib.hid h1
  have K1 := Lib.hid (kp_of b1 (fun b => b = S))
  clear b1 h1 cS fS lS
  dsimp only
  by_cases he : ef = 0
  case neg =>
    rw [errV_pos _ he]
    have hr2 : numI (l, 0) = (0, (l, ef)) := by
      unfold numI
      rw [if_neg (by simp), HR.out, if_pos he]
    have HE := Lib.hid he
    have HR2 := Lib.hid hr2
    clear he hr2
    go_wp2_with fail
    go_ret
    rw [HR2.out]
    refine ⟨rfl, ?_, K1.out.andset _ _ rfl⟩
    have := H1.out.store (.iface 148 (.int .i64 ef)) (i := 1) (by simp)
    unfold inC
    rw [errV_pos _ HE.out]
    simpa using this
  subst he
  rw [errV_zero]
  have hr2 : numI (l, 0) = ((m : Int), (left, 0)) := by
    unfold numI
    rw [if_neg (by simp), HR.out, if_neg (by simp)]
  have HR2 := Lib.hid hr2
  clear hr2
  go_wp2_with fail
  go_ret
  rw [HR2.out]
  refine ⟨rfl, ?_, K1.out.andset _ _ rfl⟩
  have := H1.out.store (.string (bstr left)) (i := 0) (by simp)
  unfold inC
  simpa using this

/-- Pointers to a block's first cells. -/
def putI (c : Array Value) (vs : List Int) : Array Value := (vs.map (Value.int .i64) ++ c.toList.drop vs.length).toArray
theorem putI_snoc {c : Array Value} {vs : List Int} (h : vs.length < c.size) (v : Int) : putI c (vs ++ [v]) = (putI c vs).setIfInBounds vs.length (.int .i64 v) := by
  obtain ⟨l⟩ := c
  have hl : vs.length < l.length := h
  unfold putI
  apply Array.ext'
  simp only [Array.toList_setIfInBounds]
  rw [List.map_append, List.length_append, List.set_append_right _ _ (by simp), List.append_assoc]
  congr 1
  rw [List.length_map, Nat.sub_self, List.drop_eq_getElem_cons hl]
  simp
  rw [List.drop_eq_getElem_cons hl]
  rfl
theorem putI_size {c : Array Value} {vs : List Int} (h : vs.length ≤ c.size) : (putI c vs).size = c.size := by
  obtain ⟨l⟩ := c
  have hl : vs.length ≤ l.length := h
  simp [putI]
  omega

set_option maxHeartbeats 3200000 in
set_option maxRecDepth 100000 in
theorem nums_in (st : St) (S K X n cl : Nat) (c : Array Value) (w : World) (h : Blk w S (inC st)) (hK : Blk w K c) (hn : n ≤ c.size) (hSK : S ≠ K) (hX : ∀ k, k < n → w.cell? ⟨X, k, none⟩ = some (.pointer (some ⟨K, k, none⟩))) (hXl : X < w.heap.size) (hXS : X ≠ S) (hXK : X ≠ K)
    (hlen : ∀ k, (numsI st k).2.1.length ≤ 1000000) (h20 : n ≤ 1000) :
    Calls Try.prog 143 #[.pointer (some ⟨S, 0, none⟩), .slice (some ⟨X, 0, none⟩) n cl] w fun e w' => e = .returned (.tuple #[]) ∧ Blk w' S (inC (numsI st n).2) ∧ Blk w' K (putI c (numsI st n).1) ∧ Kp (fun b => b = S ∨ b = K) w w' := by
  have H := Lib.hid h
  have HK := Lib.hid hK
  have HX := Lib.hid hX
  have HL := Lib.hid hlen
  clear h hK hX hlen
  have hn0 : (0 : Int) ≤ (n : Int) := by omega
  go_enter Try.func143, Try.ntmps143
  go_wp2_with fail
  go_loopw [5, 8] (fun _ i wr => ∃ k : Nat, i = .int .i64 k ∧ k ≤ n ∧ (Blk wr S (inC (numsI st k).2) ∧ Blk wr K (putI c (numsI st k).1) ∧ Kp (fun b => b = S ∨ b = K) w wr)) (fun _ i _ => (n - intOf i).toNat)
  case atStart => exact ⟨0, rfl, by omega, H.out, by unfold putI numsI; simpa using HK.out, Kp.refl _ _⟩
  case round =>
    obtain ⟨k, rfl, hk, bS, bK, kr⟩ := hrel
    have hszr := kr.size
    by_cases hlt : k < n
    · have hx := HX.out k hlt
      rw [← kr.cell X k hXl (fun h => by rcases h with h | h; exact hXS h; exact hXK h)] at hx
      have hki : (0 : Int) ≤ (k : Int) := by omega
      have hkl : (k : Int) < (n : Int) := by omega
      have hXr : X < wr.heap.size := by omega
      have BS := Lib.hid bS
      have BK := Lib.hid bK
      have KR := Lib.hid kr
      clear bS bK kr
      go_wp2_with fail
      refine (num_in (numsI st k).2 S wr BS.out (HL.out k)).mono ?_
      rintro e w1 ⟨rfl, b1, k1⟩
      have bK1 := BK.out.kp k1 (fun h => hSK h.symm)
      obtain ⟨lK, cK, fK⟩ := id bK1
      have hsz : (putI c (numsI st k).1).size = c.size := putI_size (by rw [numsI_length]; omega)
      have cKk : (w1.cell? ⟨K, k, none⟩).isSome = true := by rw [cK k, Array.getElem?_eq_getElem (by omega)]; rfl
      obtain ⟨old, hold⟩ := Option.isSome_iff_exists.1 cKk
      have fKk := fK k
      have B1 := Lib.hid b1
      have BK1 := Lib.hid bK1
      have K1 := Lib.hid ((KR.out.trans k1 (fun _ _ h => Or.inl h)))
      clear b1 k1 bK1 cK fK cKk
      go_wp2_with fail
      go_roundw
      case rel =>
        refine ⟨k + 1, by go_num, by omega, ?_, ?_, K1.out.andset _ _ (Or.inr rfl)⟩
        · exact B1.out.other (fun h => hSK h.symm)
        · have := BK1.out.store (.int .i64 (numI (numsI st k).2).1) (i := k) (by omega)
          have e : putI c (numsI st (k + 1)).1 = (putI c (numsI st k).1).setIfInBounds k (.int .i64 (numI (numsI st k).2).1) := by
            have h2 := putI_snoc (c := c) (vs := (numsI st k).1) (by rw [numsI_length]; omega) (numI (numsI st k).2).1
            rw [numsI_length] at h2
            exact h2
          rw [e]
          exact this
      case measure => simp [intOf]; omega
    · obtain rfl : k = n := by omega
      go_wp2_with fail
      go_end0
      exact ⟨rfl, bS, bK, kr⟩

set_option maxHeartbeats 3200000 in
set_option maxRecDepth 100000 in
theorem many_in (st : St) (most : Int) (S : Nat) (w : World) (h : Blk w S (inC st)) (hlen : st.1.length ≤ 1000000) :
    Calls Try.prog 142 #[.pointer (some ⟨S, 0, none⟩), .int .i64 most] w fun e w' => e = .returned (.int .i64 (manyI st most).1) ∧ Blk w' S (inC (manyI st most).2) ∧ Kp (fun b => b = S) w w' := by
  have H := Lib.hid h
  clear h
  go_enter Try.func142, Try.ntmps142
  go_wp2_with fail
  refine (num_in st S w H.out hlen).mono ?_
  rintro e w1 ⟨rfl, b1, k1⟩
  obtain ⟨⟨n, l, f⟩, hr⟩ : ∃ r, numI st = r := ⟨_, rfl⟩
  rw [hr] at b1 ⊢
  have HR := Lib.hid hr
  unfold inC at b1
  dsimp only at b1 ⊢
  obtain ⟨lS, cS, fS⟩ := id b1
  have B1 := Lib.hid b1
  have K1 := Lib.hid k1
  clear b1 k1 hr
  by_cases hf : f = 0
  case neg =>
    rw [errV_pos _ hf] at cS
    have hm : manyI st most = (0, (l, f)) := by unfold manyI; rw [HR.out, if_pos hf]
    have HM := Lib.hid hm
    clear hf hm
    by_cases hmost : most < n
    · have d : decide (most < n) = true := decide_eq_true hmost
      clear hmost
      go_wp2_with fail
      go_ret
      rw [HM.out]
      exact ⟨rfl, B1.out, K1.out⟩
    · have d : decide (most < n) = false := decide_eq_false hmost
      clear hmost
      go_wp2_with fail
      go_ret
      rw [HM.out]
      exact ⟨rfl, B1.out, K1.out⟩
  subst hf
  rw [errV_zero] at cS
  by_cases hmost : most < n
  · have d : decide (most < n) = true := decide_eq_true hmost
    have hm : manyI st most = (0, (l, 2)) := by unfold manyI; rw [HR.out, if_neg (by simp), if_pos hmost]
    have HM := Lib.hid hm
    clear hmost hm
    go_wp2_with fail
    go_ret
    rw [HM.out]
    refine ⟨rfl, ?_, K1.out.andset _ _ rfl⟩
    have := B1.out.store (.iface 148 (.int .i64 2)) (i := 1) (by simp)
    simpa [inC, errV] using this
  · have d : decide (most < n) = false := decide_eq_false hmost
    have hm : manyI st most = (n, (l, 0)) := by unfold manyI; rw [HR.out, if_neg (by simp), if_neg hmost]
    have HM := Lib.hid hm
    clear hmost hm
    go_wp2_with fail
    go_ret
    rw [HM.out]
    exact ⟨rfl, B1.out, K1.out⟩

set_option maxHeartbeats 3200000 in
set_option maxRecDepth 100000 in
theorem end_in (st : St) (S : Nat) (w : World) (h : Blk w S (inC st)) :
    Calls Try.prog 128 #[.pointer (some ⟨S, 0, none⟩)] w fun e w' => e = .returned (errV (endI st)) ∧ w = w' := by
  obtain ⟨l, f⟩ := st
  unfold inC at h
  dsimp only at h
  obtain ⟨lS, cS, fS⟩ := id h
  clear h
  by_cases hf : f = 0
  case neg =>
    rw [errV_pos _ hf] at cS
    have hm : endI (l, f) = f := by unfold endI; rw [if_neg (fun h => hf h.1)]
    have HM := Lib.hid hm
    have HF := Lib.hid hf
    clear hf hm
    go_enter Try.func128, Try.ntmps128
    go_wp2_with fail
    go_ret
    exact ⟨ret1 (by rw [HM.out, errV_pos _ HF.out]; rfl), rfl⟩
  subst hf
  rw [errV_zero] at cS
  by_cases hl : l = []
  · have d : (bstr l).toList.isEmpty = true := by rw [Lib.toList_data, bstr_list, hl]; rfl
    have hm : endI (l, 0) = 0 := by unfold endI; rw [if_neg (fun h => h.2 hl)]
    have HM := Lib.hid hm
    clear hl hm
    go_enter Try.func128, Try.ntmps128
    go_wp2_with fail
    go_ret
    exact ⟨ret1 (by rw [HM.out]; rfl), rfl⟩
  · have d : (bstr l).toList.isEmpty = false := by
      rw [Lib.toList_data, bstr_list]
      cases l with
      | nil => exact absurd rfl hl
      | cons _ _ => rfl
    have hm : endI (l, 0) = 7 := by unfold endI; rw [if_pos ⟨rfl, hl⟩]
    have HM := Lib.hid hm
    clear hl hm
    go_enter Try.func128, Try.ntmps128
    go_wp2_with fail
    go_ret
    exact ⟨ret1 (by rw [HM.out]; rfl), rfl⟩
end Go.Proofs.Ytlfljlhppigejaa
namespace Go.Proofs.Ytlfljlhppigejaa
open Go.RowKit

theorem takeGo_shrinks : ∀ (i N : Nat) (l : List UInt8), (takeGo i N l).2.1.length ≤ l.length := by
  intro i N l
  induction l generalizing i N with
  | nil => rw [takeGo]; simp
  | cons c r ih =>
    rw [takeGo]
    repeat' split
    all_goals first
      | (simp; done)
      | exact Nat.le_trans (ih _ _) (by simp)
      | (simp; omega)
theorem numI_shrinks (st : St) : (numI st).2.1.length ≤ st.1.length := by
  unfold numI
  split
  · exact Nat.le_refl _
  split
  · exact Nat.le_refl _
  · exact takeGo_shrinks 0 0 st.1
theorem numsI_shrinks (st : St) (k : Nat) : (numsI st k).2.1.length ≤ st.1.length := by
  induction k with
  | zero => exact Nat.le_refl _
  | succ k ih => exact Nat.le_trans (numI_shrinks _) ih
theorem manyI_shrinks (st : St) (most : Int) : (manyI st most).2.1.length ≤ st.1.length := by
  have := numI_shrinks st
  unfold manyI
  repeat' split
  all_goals exact this
theorem numI_nat (st : St) : 0 ≤ (numI st).1 := by
  unfold numI
  repeat' split
  all_goals simp
theorem manyI_range (st : St) (most : Int) (h : 0 ≤ most) : 0 ≤ (manyI st most).1 ∧ (manyI st most).1 ≤ most := by
  have := numI_nat st
  unfold manyI
  repeat' split
  all_goals (dsimp only; omega)

def mkE (v : List Int) : U := ⟨v.getD 0 0, v.getD 1 0, v.getD 2 0, v.getD 3 0, v.getD 4 0, v.getD 5 0, v.getD 6 0, v.getD 7 0, v.getD 8 0, v.getD 9 0, 0⟩
theorem put4 {a b c d e f : Value} {vs : List Int} (h : vs.length = 4) : putI #[a, b, c, d, e, f] vs = #[.int .i64 (vs.getD 0 0), .int .i64 (vs.getD 1 0), .int .i64 (vs.getD 2 0), .int .i64 (vs.getD 3 0), e, f] := by
  match vs, h with
  | [x, y, z, t], _ => rfl
theorem put10 {a b c d e f g h i j : Value} {vs : List Int} (hl : vs.length = 10) : putI #[a, b, c, d, e, f, g, h, i, j] vs = (cellsE (mkE vs)).toArray := by
  match vs, hl with
  | [v0, v1, v2, v3, v4, v5, v6, v7, v8, v9], _ => rfl
/-- Units that are read, k numbers each. -/
def unitsI (k : Nat) (mk : List Int → U) (st : St) : Nat → List U × St
  | 0 => ([], st)
  | m + 1 => ((unitsI k mk st m).1 ++ [mk (numsI (unitsI k mk st m).2 k).1], (numsI (unitsI k mk st m).2 k).2)
theorem unitsI_length (k : Nat) (mk : List Int → U) (st : St) (m : Nat) : (unitsI k mk st m).1.length = m := by
  induction m with
  | zero => rfl
  | succ m ih => unfold unitsI; rw [List.length_append, ih]; rfl
theorem unitsI_shrinks (k : Nat) (mk : List Int → U) (st : St) (m : Nat) : (unitsI k mk st m).2.1.length ≤ st.1.length := by
  induction m with
  | zero => exact Nat.le_refl _
  | succ m ih => exact Nat.le_trans (numsI_shrinks _ _) ih
/-- An elder state that is read. -/
def elderI (st : St) : G × St :=
  let h := numsI st 4
  let n := manyI h.2 200
  let f := numsI n.2 n.1.toNat
  let m := manyI f.2 20
  let u := unitsI 10 mkE m.2 m.1.toNat
  (⟨false, h.1.getD 0 0, h.1.getD 1 0, h.1.getD 2 0, h.1.getD 3 0, f.1, u.1⟩, u.2)

theorem put4n {a b c d e : Value} {vs : List Int} (h : vs.length = 4) : putI #[a, b, c, d, e] vs = #[.int .i64 (vs.getD 0 0), .int .i64 (vs.getD 1 0), .int .i64 (vs.getD 2 0), .int .i64 (vs.getD 3 0), e] := by
  match vs, h with
  | [x, y, z, t], _ => rfl
def mkN (v : List Int) : U := ⟨v.getD 0 0, v.getD 1 0, v.getD 2 0, v.getD 3 0, v.getD 4 0, v.getD 5 0, v.getD 6 0, v.getD 7 0, v.getD 8 0, v.getD 9 0, v.getD 10 0⟩
theorem put11 {a b c d e f g h i j k : Value} {vs : List Int} (hl : vs.length = 11) : putI #[a, b, c, d, e, f, g, h, i, j, k] vs = (cellsN (mkN vs)).toArray := by
  match vs, hl with
  | [v0, v1, v2, v3, v4, v5, v6, v7, v8, v9, v10], _ => rfl
/-- A newer state that is read. -/
def newerI (st : St) : G × St :=
  let h := numsI st 4
  let m := manyI h.2 20
  let u := unitsI 11 mkN m.2 m.1.toNat
  (⟨true, h.1.getD 0 0, h.1.getD 1 0, h.1.getD 2 0, h.1.getD 3 0, [], u.1⟩, u.2)
end Go.Proofs.Ytlfljlhppigejaa
namespace Go.Proofs.Ytlfljlhppigejaa
open Go.RowKit

theorem infoUnits : ∃ i, Try.prog.info? 130 = some i ∧ i.zero = some (.agg #[.int .i64 0, .int .i64 0, .int .i64 0, .int .i64 0, .int .i64 0, .int .i64 0, .int .i64 0, .int .i64 0, .int .i64 0, .int .i64 0, .int .i64 0]) ∧ i.size = 11 ∧ i.bytes = 88 :=
  ⟨(Try.prog.info? 130).get (by kernel_rfl), by kernel_rfl, by kernel_rfl, by kernel_rfl, by kernel_rfl⟩
theorem infoNewer : (Try.prog.info? 65).map (·.size) = some 5 := by kernel_rfl
theorem Blk.store5 {w : World} {S : Nat} {c : Array Value} (h : Blk w S c) (hc : c.size = 5) (v0 v1 v2 v3 v4 : Value) :
    Blk (((((w.setCell ⟨S, 0, none⟩ v0).setCell ⟨S, 1, none⟩ v1).setCell ⟨S, 2, none⟩ v2).setCell ⟨S, 3, none⟩ v3).setCell ⟨S, 4, none⟩ v4) S #[v0, v1, v2, v3, v4] := by
  obtain ⟨l⟩ := c
  match l, hc with
  | [a0, a1, a2, a3, a4], _ =>
    have := ((((h.store v0 (i := 0) (by simp)).store v1 (i := 1) (by simp)).store v2 (i := 2) (by simp)).store v3 (i := 3) (by simp)).store v4 (i := 4) (by simp)
    simpa using this

theorem units_st (j : Nat) (mk : List Int → U) (st : St) (k : Nat) : (unitsI j mk st (k + 1)).2 = (numsI (unitsI j mk st k).2 j).2 := rfl
theorem units_ls (j : Nat) (mk : List Int → U) (st : St) (k : Nat) : (unitsI j mk st (k + 1)).1 = (unitsI j mk st k).1 ++ [mk (numsI (unitsI j mk st k).2 j).1] := rfl
theorem units_succ (st : St) (k : Nat) : cellsAllN (unitsI 11 mkN st (k + 1)).1 = cellsAllN (unitsI 11 mkN st k).1 ++ cellsN (mkN (numsI (unitsI 11 mkN st k).2 11).1) := by
  rw [units_ls]
  unfold cellsAllN
  rw [List.flatMap_append]
  simp
set_option maxHeartbeats 12800000 in
set_option maxRecDepth 100000 in
theorem newer_in (st : St) (S : Nat) (w : World) (h : Blk w S (inC st)) (hlen : st.1.length ≤ 1000000) :
    Calls Try.prog 131 #[.pointer (some ⟨S, 0, none⟩)] w fun e w' => ∃ ev, e = .returned (.agg #[.int .i64 (newerI st).1.tick, .int .i64 (newerI st).1.g0, .int .i64 (newerI st).1.g1, .int .i64 (newerI st).1.next, ev]) ∧
      Blk w' S (inC (newerI st).2) ∧ Kp (fun b => b = S) w w' ∧ w'.ownsRow w.heap.size 130 11 ev (newerI st).1.us.length (cellsAllN (newerI st).1.us) := by
  obtain ⟨W, hW⟩ : ∃ W, (w.alloc (.cells #[.int .i64 0, .int .i64 0, .int .i64 0, .int .i64 0, .slice none 0 0] 65)).alloc (.cells #[.int .i64 0, .int .i64 0, .int .i64 0, .int .i64 0, .slice none 0 0] 65) = W := ⟨_, rfl⟩
  have hbW : Below w.heap.size w W := by rw [← hW]; exact ((Below.refl _ _).alloc (Nat.le_refl _) _).alloc (by simp) _
  have k1 : Blk W w.heap.size #[.int .i64 0, .int .i64 0, .int .i64 0, .int .i64 0, .slice none 0 0] := by rw [← hW]; exact (Blk.new w _ _).alloc _
  have k2 : Blk W (w.heap.size + 1) #[.int .i64 0, .int .i64 0, .int .i64 0, .int .i64 0, .slice none 0 0] := by
    rw [← hW]
    have := Blk.new (w.alloc (.cells #[.int .i64 0, .int .i64 0, .int .i64 0, .int .i64 0, .slice none 0 0] 65)) #[.int .i64 0, .int .i64 0, .int .i64 0, .int .i64 0, .slice none 0 0] 65
    simpa using this
  have hWs : W.heap.size = w.heap.size + 2 := by rw [← hW]; simp
  have hSw := h.lt
  have H := Lib.hid (h.call hbW)
  have K1 := Lib.hid k1
  have K2 := Lib.hid k2
  have HB := Lib.hid hbW
  have HWS := Lib.hid hWs
  have hKW := k2.lt
  clear h hbW k1 k2 hWs
  go_enter Try.func131, Try.ntmps131
  go_upto_region 2 with fail
  try rw [hW]
  clear hW
  go_wp2_with fail
  have hb1 : Below W.heap.size W (W.alloc (.cells #[.pointer (some ⟨w.heap.size + 1, 0, none⟩), .pointer (some ⟨w.heap.size + 1, 1, none⟩), .pointer (some ⟨w.heap.size + 1, 2, none⟩), .pointer (some ⟨w.heap.size + 1, 3, none⟩)] 213)) := (Below.refl _ _).alloc (Nat.le_refl _) _
  refine (nums_in st S (w.heap.size + 1) W.heap.size 4 4 _ _ (H.out.call hb1) (K2.out.call hb1) (by decide) (by omega) (fun k hk => by
    rw [World.cell?_alloc_new]
    have hk' : k = 0 ∨ k = 1 ∨ k = 2 ∨ k = 3 := by omega
    rcases hk' with rfl | rfl | rfl | rfl <;> rfl) (by simp) (by omega) (by omega) (fun k => Nat.le_trans (numsI_shrinks st k) hlen) (by omega)).mono ?_
  rintro e w1 ⟨rfl, bS1, bK1, kp1⟩
  rw [put4n (numsI_length st 4)] at bK1
  obtain ⟨t0, ht0⟩ : ∃ x, (numsI st 4).1.getD 0 0 = x := ⟨_, rfl⟩
  obtain ⟨t1, ht1⟩ : ∃ x, (numsI st 4).1.getD 1 0 = x := ⟨_, rfl⟩
  obtain ⟨t2, ht2⟩ : ∃ x, (numsI st 4).1.getD 2 0 = x := ⟨_, rfl⟩
  obtain ⟨t3, ht3⟩ : ∃ x, (numsI st 4).1.getD 3 0 = x := ⟨_, rfl⟩
  rw [ht0, ht1, ht2, ht3] at bK1
  obtain ⟨s1, hs1⟩ : ∃ x, (numsI st 4).2 = x := ⟨_, rfl⟩
  rw [hs1] at bS1
  have hl1 : s1.1.length ≤ 1000000 := by rw [← hs1]; exact Nat.le_trans (numsI_shrinks st 4) hlen
  have kp1' : Kp (fun b => b = S ∨ b = w.heap.size + 1) W w1 := (kp_of hb1 _).trans kp1 (fun _ _ h => h)
  have BS1 := Lib.hid bS1
  have BK1 := Lib.hid bK1
  have KP1 := Lib.hid kp1'
  have HT := Lib.hid (show (numsI st 4).1.getD 0 0 = t0 ∧ (numsI st 4).1.getD 1 0 = t1 ∧ (numsI st 4).1.getD 2 0 = t2 ∧ (numsI st 4).1.getD 3 0 = t3 ∧ (numsI st 4).2 = s1 from ⟨ht0, ht1, ht2, ht3, hs1⟩)
  have hsz1 := kp1'.size
  clear hb1 bS1 bK1 kp1 kp1' ht0 ht1 ht2 ht3 hs1
  go_wp2_with fail
  refine (many_in s1 20 S w1 BS1.out hl1).mono ?_
  rintro e w2 ⟨rfl, bS2, kp2⟩
  have hrg := manyI_range s1 20 (by omega)
  obtain ⟨nI, hnI⟩ : ∃ x, (manyI s1 20).1 = x := ⟨_, rfl⟩
  obtain ⟨s2, hs2⟩ : ∃ x, (manyI s1 20).2 = x := ⟨_, rfl⟩
  have hl2 : s2.1.length ≤ 1000000 := by rw [← hs2]; exact Nat.le_trans (manyI_shrinks s1 20) hl1
  rw [hnI] at hrg ⊢
  rw [hs2] at bS2
  obtain ⟨n, rfl⟩ := Int.eq_ofNat_of_zero_le hrg.1
  have hn20 : n ≤ 20 := by omega
  have HN := Lib.hid (show (manyI s1 20).1 = (n : Int) ∧ (manyI s1 20).2 = s2 from ⟨hnI, hs2⟩)
  have bK2 := BK1.out.kp kp2 (by omega)
  have BS2 := Lib.hid bS2
  have BK2 := Lib.hid bK2
  have KP2 := Lib.hid (KP1.out.trans kp2 (fun _ _ h => Or.inl h))
  have hsz2 := kp2.size
  have hn0 : (0 : Int) ≤ (n : Int) := by omega
  clear bS2 kp2 bK2 hnI hs2 hrg
  go_wp2_with fail
  go_loopw [16] (fun i wr => ∃ k : Nat, i = .int .i64 k ∧ k ≤ n ∧ (Blk wr S (inC (unitsI 11 mkN s2 k).2) ∧ (∃ ev, Blk wr (w.heap.size + 1) #[.int .i64 t0, .int .i64 t1, .int .i64 t2, .int .i64 t3, ev] ∧ wr.ownsRow W.heap.size 130 11 ev k (cellsAllN (unitsI 11 mkN s2 k).1)) ∧ Kp (fun b => b = S ∨ b = w.heap.size + 1) W wr)) (fun i _ => (n - intOf i).toNat)
  case atStart => exact ⟨0, rfl, by omega, BS2.out, ⟨_, BK2.out, World.ownsRow_nil _ _ _ _⟩, KP2.out⟩
  case round =>
    obtain ⟨k, rfl, hk, bS, ⟨ev, bK, own⟩, kr⟩ := hrel
    have hszr := kr.size
    obtain ⟨eva, evc, rfl⟩ := own_slice own
    by_cases hlt : k < n
    · have hki : (0 : Int) ≤ (k : Int) := by omega
      have hkl : (k : Int) < (n : Int) := by omega
      obtain ⟨V1, hV1⟩ : ∃ V, wr.alloc (.cells #[.int .i64 0, .int .i64 0, .int .i64 0, .int .i64 0, .int .i64 0, .int .i64 0, .int .i64 0, .int .i64 0, .int .i64 0, .int .i64 0, .int .i64 0] 130) = V := ⟨_, rfl⟩
      have hb1 : Below wr.heap.size wr V1 := by rw [← hV1]; exact (Below.refl _ _).alloc (Nat.le_refl _) _
      have kE : Blk V1 wr.heap.size #[.int .i64 0, .int .i64 0, .int .i64 0, .int .i64 0, .int .i64 0, .int .i64 0, .int .i64 0, .int .i64 0, .int .i64 0, .int .i64 0, .int .i64 0] := by rw [← hV1]; exact Blk.new wr _ _
      have hV1s : V1.heap.size = wr.heap.size + 1 := by rw [← hV1]; simp
      have hb2 : Below V1.heap.size V1 (V1.alloc (.cells #[.pointer (some ⟨wr.heap.size, 0, none⟩), .pointer (some ⟨wr.heap.size, 1, none⟩), .pointer (some ⟨wr.heap.size, 2, none⟩), .pointer (some ⟨wr.heap.size, 3, none⟩), .pointer (some ⟨wr.heap.size, 4, none⟩), .pointer (some ⟨wr.heap.size, 5, none⟩), .pointer (some ⟨wr.heap.size, 6, none⟩), .pointer (some ⟨wr.heap.size, 7, none⟩), .pointer (some ⟨wr.heap.size, 8, none⟩), .pointer (some ⟨wr.heap.size, 9, none⟩), .pointer (some ⟨wr.heap.size, 10, none⟩)] 213)) := (Below.refl _ _).alloc (Nat.le_refl _) _
      have BS := Lib.hid ((bS.call hb1).call hb2)
      have hSr := bS.lt
      have BK := Lib.hid ((bK.call hb1).call hb2)
      have hKr := bK.lt
      have KE := Lib.hid (kE.call hb2)
      have OWN := Lib.hid (own_kp (own_kp own (kp_of hb1 (fun _ => False)) (fun _ _ x => x)) (kp_of hb2 (fun _ => False)) (fun _ _ x => x))
      have KR := Lib.hid ((kr.then_ hb1).then_ hb2)
      have hlk : (unitsI 11 mkN s2 k).2.1.length ≤ 1000000 := Nat.le_trans (unitsI_shrinks 11 mkN s2 k) hl2
      have EVB := Lib.hid (fun b hb => World.ownsRow.lt own b hb : ∀ b, (Value.slice eva k evc).ownBlock = some b → W.heap.size ≤ b ∧ b < wr.heap.size)
      have HV1S := Lib.hid hV1s
      clear bS bK kE own kr hb1 hb2 hV1s
      go_wp2_with fail
      refine (nums_in (unitsI 11 mkN s2 k).2 S wr.heap.size V1.heap.size 11 11 _ _ BS.out KE.out (by decide) (by omega) (fun j hj => by
        rw [World.cell?_alloc_new]
        have hj' : j = 0 ∨ j = 1 ∨ j = 2 ∨ j = 3 ∨ j = 4 ∨ j = 5 ∨ j = 6 ∨ j = 7 ∨ j = 8 ∨ j = 9 ∨ j = 10 := by omega
        rcases hj' with rfl | rfl | rfl | rfl | rfl | rfl | rfl | rfl | rfl | rfl | rfl <;> rfl) (by simp) (by have := HV1S.out; omega) (by have := HV1S.out; omega) (fun j => Nat.le_trans (numsI_shrinks _ j) hlk) (by omega)).mono ?_
      rintro e w3 ⟨rfl, bS3, bE3, kp3⟩
      rw [put11 (numsI_length _ 11)] at bE3
      obtain ⟨u, hu⟩ : ∃ x, mkN (numsI (unitsI 11 mkN s2 k).2 11).1 = x := ⟨_, rfl⟩
      rw [hu] at bE3
      have bE3' : Blk w3 wr.heap.size #[.int .i64 u.id, .int .i64 u.owner, .int .i64 u.kind, .int .i64 u.x, .int .i64 u.y, .int .i64 u.hp, .int .i64 u.does, .int .i64 u.gx, .int .i64 u.gy, .int .i64 u.target, .int .i64 u.since] := bE3
      have bK3 := BK.out.kp kp3 (by omega)
      have own3 := own_kp OWN.out kp3 (fun b hb e => by have := EVB.out b hb; omega)
      have kp3' := KR.out.trans kp3 (fun c hc e => by omega)
      obtain ⟨lE, cE, -⟩ := id bE3'
      have hs3 := kp3.size
      obtain ⟨i1, hj0, hj1, hj2, hj3⟩ := infoUnits
      have hbz : Below w3.heap.size w3 (w3.alloc (.cells #[.int .i64 u.id, .int .i64 u.owner, .int .i64 u.kind, .int .i64 u.x, .int .i64 u.y, .int .i64 u.hp, .int .i64 u.does, .int .i64 u.gx, .int .i64 u.gy, .int .i64 u.target, .int .i64 u.since] 130)) := (Below.refl _ _).alloc (Nat.le_refl _) _
      have oB := own_kp own3 (kp_of hbz (fun _ => False)) (fun _ _ x => x)
      have hsz3 := kp3'.size
      obtain ⟨g2, cap, w5, r5, own5, grow5, hat5, lt5⟩ := run_append_lies (P := Try.prog) (w3.alloc (.cells #[.int .i64 u.id, .int .i64 u.owner, .int .i64 u.kind, .int .i64 u.x, .int .i64 u.y, .int .i64 u.hp, .int .i64 u.does, .int .i64 u.gx, .int .i64 u.gy, .int .i64 u.target, .int .i64 u.since] 130)) 63 63 W.heap.size 130 i1 _ 11 88 Try.underlying63 hj0 hj1 hj2 hj3 rfl (by omega) (.slice eva k evc) k (cellsAllN (unitsI 11 mkN s2 k).1) oB ⟨w3.heap.size, 0, none⟩ 1 1 (cellsN u) rfl (World.news_of_block (cs := #[.int .i64 u.id, .int .i64 u.owner, .int .i64 u.kind, .int .i64 u.x, .int .i64 u.y, .int .i64 u.hp, .int .i64 u.does, .int .i64 u.gx, .int .i64 u.gy, .int .i64 u.target, .int .i64 u.since]) (t := 130) (fr := (0, 0)) (heap_alloc_new w3 _)) (by intro q hq; simp [cellsN, cellsE] at hq; rcases hq with h | h | h | h | h | h | h | h | h | h | h <;> rw [h] <;> rfl) (by omega) (by unfold maxLen; omega) (by omega) (by have := hbz.size; omega) (w3.heap.size + 1) (by simp)
      have kg := Kp.grown grow5
      have hKev : (Value.slice eva k evc).ownBlock ≠ some (w.heap.size + 1) := fun e => by have := (EVB.out _ e).1; have := HWS.out; omega
      have hSev : (Value.slice eva k evc).ownBlock ≠ some S := fun e => by have := (EVB.out _ e).1; have := HWS.out; omega
      have bK5 := (bK3.call hbz).kp kg (fun e => hKev e.symm)
      have bS5 := (bS3.call hbz).kp kg (fun e => hSev e.symm)
      obtain ⟨lK5, cK5, fK5⟩ := id bK5
      obtain ⟨lK3, cK3, -⟩ := id bK3
      have kp5 := ((kp3'.then_ hbz).trans kg (fun c hc e => by have := (EVB.out c e.symm).1; omega)).andset ⟨w.heap.size + 1, 4, none⟩ (.slice (some ⟨g2, 0, none⟩) (k + 1) cap) (Or.inr rfl)
      have HUU := Lib.hid hu
      have OWN5 := Lib.hid own5
      have BK5 := Lib.hid bK5
      have BS5 := Lib.hid bS5
      have KP5 := Lib.hid kp5
      clear hj0 hj1 hj2 hj3 hbz oB own5 grow5 hat5 kg own3 bE3 bE3' bK3 bS3 kp3 kp3' bK5 bS5 kp5 hu hKev hSev
      go_wp2_with (at_builtin; refine list_run_append (by rfl) _ _ _ _ (by rfl) (by rfl) (by rfl) (by rfl) r5 ?_)
      go_roundw
      case rel =>
        have g1 : Blk (w5.setCell ⟨w.heap.size + 1, 4, none⟩ (.slice (some ⟨g2, 0, none⟩) (k + 1) cap)) S (inC (unitsI 11 mkN s2 (k + 1)).2) := by
          rw [units_st]
          exact BS5.out.other (by omega)
        have g2' : Blk (w5.setCell ⟨w.heap.size + 1, 4, none⟩ (.slice (some ⟨g2, 0, none⟩) (k + 1) cap)) (w.heap.size + 1) #[.int .i64 t0, .int .i64 t1, .int .i64 t2, .int .i64 t3, .slice (some ⟨g2, 0, none⟩) (k + 1) cap] := by
          have := BK5.out.store (.slice (some ⟨g2, 0, none⟩) (k + 1) cap) (i := 4) (by simp)
          simpa using this
        have g3 : (w5.setCell ⟨w.heap.size + 1, 4, none⟩ (.slice (some ⟨g2, 0, none⟩) (k + 1) cap)).ownsRow W.heap.size 130 11 (.slice (some ⟨g2, 0, none⟩) (k + 1) cap) (k + 1) (cellsAllN (unitsI 11 mkN s2 (k + 1)).1) := by
          rw [units_succ, HUU.out]
          exact own_kp OWN5.out (Kp.setCell w5 ⟨w.heap.size + 1, 4, none⟩ _) (fun b hb e => by have h1 := (World.ownsRow.lt OWN5.out b hb).1; have h2 : b = w.heap.size + 1 := e; have := HWS.out; omega)
        exact ⟨k + 1, by go_num, by omega, g1, ⟨.slice (some ⟨g2, 0, none⟩) (k + 1) cap, g2', g3⟩, KP5.out⟩
      case measure => simp [intOf]; omega
    · obtain rfl : k = n := by omega
      have hK1 := K1.out.kp kr (fun h => by have := hSw; omega)
      obtain ⟨l1, c1, f1⟩ := id hK1
      obtain ⟨lK, cK, fK⟩ := id bK
      have HK1 := Lib.hid hK1
      have BS := Lib.hid bS
      have OWN := Lib.hid own
      have KR := Lib.hid kr
      have hst : (newerI st).1 = ⟨true, t0, t1, t2, t3, [], (unitsI 11 mkN s2 k).1⟩ ∧ (newerI st).2 = (unitsI 11 mkN s2 k).2 := by
        obtain ⟨h0, h1, h2, h3, h4⟩ := HT.out
        obtain ⟨h5, h6⟩ := HN.out
        unfold newerI
        dsimp only
        rw [h4, h5, h6, h0, h1, h2, h3]
        exact ⟨rfl, rfl⟩
      have HST := Lib.hid hst
      clear bS bK own kr hK1 hst
      go_wp2_with fail
      refine bodyPost_ret (v := .agg #[.int .i64 t0, .int .i64 t1, .int .i64 t2, .int .i64 t3, .slice eva k evc]) (ret_cell (d := _) Try.results131 rfl (HK1.out.store5 rfl (.int .i64 t0) (.int .i64 t1) (.int .i64 t2) (.int .i64 t3) (.slice eva k evc)) Try.underlying65 rfl infoNewer) rfl ?_
      rw [HST.out.1, HST.out.2]
      have XK := ((((((Kp.refl (fun b => b = w.heap.size) wr).andset ⟨w.heap.size, 0, none⟩ (.int .i64 t0) rfl).andset ⟨w.heap.size, 1, none⟩ (.int .i64 t1) rfl).andset ⟨w.heap.size, 2, none⟩ (.int .i64 t2) rfl).andset ⟨w.heap.size, 3, none⟩ (.int .i64 t3) rfl).andset ⟨w.heap.size, 4, none⟩ (.slice eva k evc) rfl)
      refine ⟨.slice eva k evc, rfl, BS.out.kp XK (by omega), ?_, ?_⟩
      · exact ((kp_of HB.out (fun b => b = S)).trans KR.out (fun c hc h => by rcases h with h | h; exact h; omega)).trans XK (fun c hc h => by omega)
      · have e2 : ((unitsI 11 mkN s2 k).1).length = k := unitsI_length _ _ _ _
        show World.ownsRow _ _ _ _ _ ((unitsI 11 mkN s2 k).1).length (cellsAllN (unitsI 11 mkN s2 k).1)
        rw [e2]
        exact own_base (own_kp OWN.out XK (fun b hb h => by have := (World.ownsRow.lt OWN.out b hb).1; have := HWS.out; omega)) HB.out.size
end Go.Proofs.Ytlfljlhppigejaa
