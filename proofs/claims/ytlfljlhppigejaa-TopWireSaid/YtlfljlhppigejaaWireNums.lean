/-
  The walks of chapter 1: numbers as bytes.
-/
import Derived.Test.YtlfljlhppigejaaWireWalk
import Derived.Lib.IndexBytes
namespace Go.Proofs.Ytlfljlhppigejaa
open Go.RowKit

/-- A text of bytes. -/
def bstr (l : List UInt8) : ByteArray := ⟨l.toArray⟩
theorem bstr_list (l : List UInt8) : (bstr l).data.toList = l := by simp [bstr]
theorem bstr_size (l : List UInt8) : (bstr l).size = l.length := by simp [bstr, ByteArray.size]
theorem bstr_of (s : ByteArray) : bstr s.data.toList = s := by simp [bstr]
theorem bstr_inj {a b : List UInt8} (h : bstr a = bstr b) : a = b := by rw [← bstr_list a, h, bstr_list]
theorem strv {a b : ByteArray} (h : a = b) : Value.string a = .string b := by rw [h]
theorem extract_drop (s : ByteArray) (a : Nat) : s.extract a s.size = bstr (s.data.toList.drop a) := by
  rw [← bstr_of (s.extract a s.size), Lib.extract_to_end]
theorem drop_cons (s : ByteArray) (k : Nat) (h : k < s.size) : s.data.toList.drop k = s[k] :: s.data.toList.drop (k + 1) := by
  rw [List.drop_eq_getElem_cons (by simpa using h)]; rfl

/-- An error, by its number (0: none). -/
def errV (f : Nat) : Value := if f = 0 then .nilIface else .iface 148 (.int .i64 f)
theorem errV_zero : errV 0 = .nilIface := rfl
theorem errV_pos (f : Nat) (h : f ≠ 0) : errV f = .iface 148 (.int .i64 f) := by unfold errV; rw [if_neg h]

/-- What Take hands back. -/
def TakeEnd (l : List UInt8) (w : World) (e : Ending) (w' : World) : Prop :=
  e = .returned (.tuple #[.int .i64 ((takeL l).1 : Nat), .string (bstr (takeL l).2.1), errV (takeL l).2.2]) ∧ Below w.heap.size w w'
theorem TakeEnd.mk {l : List UInt8} {w w' : World} {r : Nat × List UInt8 × Nat} {a b c : Value} (h : takeL l = r) (h1 : a = .int .i64 (r.1 : Nat)) (h2 : b = .string (bstr r.2.1)) (h3 : c = errV r.2.2) (hb : Below w.heap.size w w') :
    TakeEnd l w (.returned (.tuple #[a, b, c])) w' := by
  unfold TakeEnd
  rw [h, h1, h2, h3]
  exact ⟨rfl, hb⟩

set_option maxHeartbeats 800000 in
theorem take_any (s : ByteArray) (hs : s.size ≤ 4611686018427387904) (w : World) : Calls Try.prog 33 #[.string s] w (TakeEnd s.data.toList w) := by
  go_enter Try.func33, Try.ntmps33
  go_wp2
  go_loop [5, 9] (fun x c => ∃ (k N : Nat), c = .int .i64 k ∧ k ≤ s.size ∧ k ≤ 9 ∧ x = .int .i64 N ∧ (N < 128 ^ k ∧ takeL s.data.toList = takeGo k N (s.data.toList.drop k))) (fun _ c => (s.size - intOf c).toNat)
  case atStart => exact ⟨0, 0, rfl, by omega, by omega, rfl, by decide, rfl⟩
  case round =>
    obtain ⟨k, N, rfl, hk, hk9, rfl, hX⟩ := hrel
    have HX := Lib.hid hX
    clear hX
    have hN : N < 9223372036854775808 := Nat.lt_of_lt_of_le HX.out.1 (pow128_le k hk9)
    by_cases hlt : k < s.size
    · have hdc := drop_cons s k hlt
      obtain ⟨c, hc⟩ : ∃ c, s[k] = c := ⟨_, rfl⟩
      rw [hc] at hdc
      have HD := Lib.hid (HX.out.2.trans (by rw [hdc]))
      clear hdc
      have hc8 := c.toNat_lt
      by_cases h9 : k = 9
      · subst h9
        go_wp2_with fail
        go_ret3
        exact TakeEnd.mk (HD.out.trans (takeGo_nine _ _ _)) rfl rfl rfl (Below.refl _ _)
      · have h9' : ((k : Int) == 9) = false := by simp; omega
        have HH := Lib.hid h9
        clear h9
        have HE := Lib.hid (take_or N k c (by have := HH.out; omega) HX.out.1)
        have hb := take_bound N (c.toNat % 128) k HX.out.1 (by omega)
        have HB := Lib.hid hb
        have hb2 : k + 1 ≤ 9 := by have := HH.out; omega
        clear hb
        by_cases hbig : 127 < c.toNat
        · go_wp2_with fail
          go_round
          case rel => exact ⟨k + 1, _, by go_num, by omega, hb2, intv HE.out, HB.out, HD.out.trans (takeGo_more _ _ _ _ HH.out hbig)⟩
          case measure => simp [intOf]; omega
        · by_cases hz : 0 < k
          · by_cases hz0 : c.toNat = 0
            · go_wp2_with fail
              go_ret3
              exact TakeEnd.mk (HD.out.trans (takeGo_form _ _ _ _ HH.out hz hz0)) rfl rfl rfl (Below.refl _ _)
            · have HZ := Lib.hid hz0
              have hz1 : ((c.toNat : Int) == 0) = false := by simp; omega
              clear hz0
              go_wp2_with fail
              go_quiet (fail)
              go_wp2_with fail
              go_ret3
              exact TakeEnd.mk (HD.out.trans (takeGo_last _ _ _ _ HH.out (by omega) (by have := HZ.out; omega))) (intv HE.out) (strv (extract_drop _ _)) rfl (below_drewN (Below.refl _ _) _)
          · go_wp2_with fail
            go_quiet (fail)
            go_wp2_with fail
            go_ret3
            exact TakeEnd.mk (HD.out.trans (takeGo_last _ _ _ _ HH.out (by omega) (by omega))) (intv HE.out) (strv (extract_drop _ _)) rfl (below_drewN (Below.refl _ _) _)
    · have hdn : s.data.toList.drop k = [] := List.drop_eq_nil_of_le (by simp; omega)
      have HD := Lib.hid (HX.out.2.trans (by rw [hdn, takeGo_nil]))
      clear hdn
      go_wp2_with fail
      go_ret3
      exact TakeEnd.mk HD.out rfl rfl rfl (Below.refl _ _)

/-- What the document's Take hands back. -/
def RefTakeEnd (l : List UInt8) (w : World) (e : Ending) (w' : World) : Prop :=
  e = .returned (.tuple #[.int .i64 ((takeL l).1 : Nat), .string (bstr (takeL l).2.1), .int .i64 ((takeL l).2.2 : Nat)]) ∧ Below w.heap.size w w'
theorem RefTakeEnd.mk {l : List UInt8} {w w' : World} {r : Nat × List UInt8 × Nat} {a b c : Value} (h : takeL l = r) (h1 : a = .int .i64 (r.1 : Nat)) (h2 : b = .string (bstr r.2.1)) (h3 : c = .int .i64 (r.2.2 : Nat)) (hb : Below w.heap.size w w') :
    RefTakeEnd l w (.returned (.tuple #[a, b, c])) w' := by
  unfold RefTakeEnd
  rw [h, h1, h2, h3]
  exact ⟨rfl, hb⟩

set_option maxHeartbeats 800000 in
set_option maxRecDepth 100000 in
theorem reftake_any (s : ByteArray) (hs : s.size ≤ 4611686018427387904) (w : World) : Calls Try.prog 34 #[.string s] w (RefTakeEnd s.data.toList w) := by
  go_enter Try.func34, Try.ntmps34
  go_wp2
  go_loop [5, 6, 7] (fun x m c => ∃ (k N W : Nat), c = .int .i64 k ∧ k ≤ s.size ∧ k ≤ 9 ∧ x = .int .i64 N ∧ m = .int .i64 W ∧ W ≤ 72057594037927936 ∧ (N < 128 ^ k ∧ takeL s.data.toList = takeGo k N (s.data.toList.drop k) ∧ W = 128 ^ (min k 8))) (fun _ _ c => (s.size - intOf c).toNat)
  case atStart => exact ⟨0, 0, 1, rfl, by omega, by omega, rfl, rfl, by omega, by decide, rfl, rfl⟩
  case round =>
    obtain ⟨k, N, W, rfl, hk, hk9, rfl, rfl, hW, hX⟩ := hrel
    have HX := Lib.hid hX
    clear hX
    have hN : N < 9223372036854775808 := Nat.lt_of_lt_of_le HX.out.1 (pow128_le k hk9)
    by_cases hlt : k < s.size
    · have hdc := drop_cons s k hlt
      obtain ⟨c, hc⟩ : ∃ c, s[k] = c := ⟨_, rfl⟩
      rw [hc] at hdc
      have HD := Lib.hid (HX.out.2.1.trans (by rw [hdc]))
      clear hdc
      have hc8 := c.toNat_lt
      by_cases h9 : k = 9
      · subst h9
        go_wp2_with fail
        go_ret3
        exact RefTakeEnd.mk (HD.out.trans (takeGo_nine _ _ _)) rfl rfl rfl (Below.refl _ _)
      · have HH := Lib.hid h9
        have hk8 : k ≤ 8 := by omega
        clear h9
        have hWk : W = 128 ^ k := by rw [HX.out.2.2, Nat.min_eq_left hk8]
        have HWk := Lib.hid hWk
        clear hWk
        by_cases hbig : 128 ≤ c.toNat
        · have he : wrap64 ((N : Int) + wrap64 ((W : Int) * ((c.toNat : Int) - 128))) = ((N + (c.toNat % 128) * 128 ^ k : Nat) : Int) := by
            have := reftake_or N k W (c.toNat % 128) HWk.out hk8 HX.out.1 (by omega)
            rw [← this, show ((c.toNat : Int) - 128) = ((c.toNat % 128 : Nat) : Int) from by omega]
          have HE := Lib.hid he
          have HB := Lib.hid (take_bound N (c.toNat % 128) k HX.out.1 (by omega))
          have hk91 : k + 1 ≤ 9 := by omega
          clear he
          by_cases hk7 : k < 8
          · have hW7 : W * 128 ≤ 72057594037927936 := by
              rw [HWk.out, ← Nat.pow_succ]
              have : 128 ^ (k + 1) ≤ 128 ^ 8 := Nat.pow_le_pow_right (by decide) (by omega)
              simpa using this
            have HW2 : Hid (W * 128 = 128 ^ (min (k + 1) 8)) := by
              show W * 128 = _
              rw [HWk.out, Nat.min_eq_left (by omega), Nat.pow_succ]
            go_wp2_with fail
            go_round
            case rel => exact ⟨k + 1, _, W * 128, by go_num, by omega, hk91, intv HE.out, by go_num, hW7, HB.out, HD.out.trans (takeGo_more _ _ _ _ HH.out (by omega)), HW2.out⟩
            case measure => simp [intOf]; omega
          · have HW2 : Hid (W = 128 ^ (min (k + 1) 8)) := by
              show W = _
              rw [HWk.out, Nat.min_eq_right (by omega), show k = 8 from by omega]
            go_wp2_with fail
            go_round
            case rel => exact ⟨k + 1, _, W, by go_num, by omega, hk91, intv HE.out, rfl, hW, HB.out, HD.out.trans (takeGo_more _ _ _ _ HH.out (by omega)), HW2.out⟩
            case measure => simp [intOf]; omega
        · have he : wrap64 ((N : Int) + wrap64 ((W : Int) * (c.toNat : Int))) = ((N + (c.toNat % 128) * 128 ^ k : Nat) : Int) := by
            have := reftake_or N k W (c.toNat % 128) HWk.out hk8 HX.out.1 (by omega)
            rw [← this, show (c.toNat : Int) = ((c.toNat % 128 : Nat) : Int) from by omega]
          have HE := Lib.hid he
          clear he
          by_cases hz0 : c.toNat = 0
          · have HZ := Lib.hid hz0
            have hz1 : ((c.toNat : Int) == 0) = true := by simp; omega
            clear hz0
            by_cases hz : 0 < k
            · go_wp2_with fail
              go_ret3
              exact RefTakeEnd.mk (HD.out.trans (takeGo_form _ _ _ _ HH.out hz HZ.out)) rfl rfl rfl (Below.refl _ _)
            · go_wp2_with fail
              go_quiet (fail)
              go_wp2_with fail
              go_ret3
              exact RefTakeEnd.mk (HD.out.trans (takeGo_last _ _ _ _ HH.out (by omega) (by omega))) (intv HE.out) (strv (extract_drop _ _)) rfl (below_drewN (Below.refl _ _) _)
          · have HZ := Lib.hid hz0
            have hz1 : ((c.toNat : Int) == 0) = false := by simp; omega
            clear hz0
            go_wp2_with fail
            go_quiet (fail)
            go_wp2_with fail
            go_ret3
            exact RefTakeEnd.mk (HD.out.trans (takeGo_last _ _ _ _ HH.out (by omega) (by have := HZ.out; omega))) (intv HE.out) (strv (extract_drop _ _)) rfl (below_drewN (Below.refl _ _) _)
    · have hdn : s.data.toList.drop k = [] := List.drop_eq_nil_of_le (by simp; omega)
      have HD := Lib.hid (HX.out.2.1.trans (by rw [hdn, takeGo_nil]))
      clear hdn
      go_wp2_with fail
      go_ret3
      exact RefTakeEnd.mk HD.out rfl rfl rfl (Below.refl _ _)

/-- What Num hands back. -/
def NumEnd (n : Nat) (w : World) (e : Ending) (w' : World) : Prop := e = .returned (.tuple #[.string (bstr (numL n)), .nilIface]) ∧ Below w.heap.size w w'
theorem num_neg (n : Int) (hn : n < 0) (w : World) : Calls Try.prog 30 #[.int .i64 n] w fun e w' => e = .returned (.tuple #[.string ByteArray.empty, .iface 148 (.int .i64 1)]) ∧ Below w.heap.size w w' := by
  go_enter Try.func30, Try.ntmps30
  go_wp2
  go_ret2
  exact ⟨rfl, Below.refl _ _⟩
theorem Try.infoU8 : (Try.prog.info? 5).map (fun i => (i.zero, i.size, i.bytes)) = some (some (.int .u8 0), 1, 1) := by kernel_rfl

theorem ownBlock_base {w : World} {base : Nat} {e : TypeId} {size n : Nat} {v : Value} {xs : List Value} (h : w.ownsRow base e size v n xs) : ∀ k, v.ownBlock = some k → base ≤ k := by
  rcases h.2 with ⟨rfl, _⟩ | ⟨g, cap, cur, rfl, hg, _⟩
  · intro k hk; cases hk
  · intro k hk; cases hk; exact hg
/-- 'string(b)' of a row that the call owns. -/
theorem convert_own {P : Program} {w : World} {base src dst e : TypeId} {v : Value} {n : Nat} {l : List UInt8} (hs : P.underlying src = some (.slice e)) (he : P.underlying e = some (.int .u8)) (hd : P.underlying dst = some .string)
    (h : w.ownsRow base e 1 v n (l.map fun c => Value.int .u8 (c.toNat : Int))) (hne : l ≠ []) :
    (convert src dst v).run P w = .ok (.string (bstr l)) w := by
  have hlen : n = l.length := by have := h.1; simpa using this.symm
  subst hlen
  rcases h.2 with ⟨_, h0⟩ | ⟨g, cap, cur, rfl, hg, hh, hcap, hm, hsz, htk⟩
  · exact absurd (List.length_eq_zero_iff.1 h0) hne
  · refine run_convert_bytes_back w src dst e ⟨g, 0, none⟩ cap l hs he hd (fun j hj => ?_)
    have h1 : (cur.toList.take (l.length * 1))[j]? = some (.int .u8 (l[j].toNat : Int)) := by rw [htk]; simp [hj]
    rw [List.getElem?_take_of_lt (by omega)] at h1
    have h2 : w.cell? ⟨g, j, none⟩ = cur[j]? := by simp [World.cell?, hh]
    have h3 : (⟨g, 0, none⟩ : Addr).add j = ⟨g, j, none⟩ := by
      unfold Addr.add
      split
      · rename_i h; subst h; rfl
      · simp
    rw [h3, h2]
    simpa using h1
theorem ofNat_toNat8 (n : Nat) (h : n < 256) : (UInt8.ofNat n).toNat = n := by simp; omega

set_option maxHeartbeats 800000 in
set_option maxRecDepth 100000 in
theorem num_any (n : Nat) (hn : n < 9223372036854775808) (w : World) : Calls Try.prog 30 #[.int .i64 n] w (NumEnd n w) := by
  obtain ⟨i0, hi, hz0, hz1, hz2⟩ := info_parts Try.infoU8
  go_enter Try.func30, Try.ntmps30
  go_wp2
  go_loopw [0, 4] (fun m v wr => ∃ (M f : Nat) (xs : List UInt8), m = .int .i64 M ∧ M < 9223372036854775808 ∧ xs.length + f = 9 ∧ (M < 128 ^ f ∧ xs ++ numF f M = numL n ∧ Below w.heap.size w wr ∧
      wr.ownsRow w.heap.size 5 1 v xs.length (xs.map fun c => Value.int .u8 (c.toNat : Int)))) (fun m _ _ => (intOf m).toNat)
  case atStart => exact ⟨n, 9, [], rfl, hn, rfl, by simpa using hn, rfl, Below.refl _ _, World.ownsRow_nil _ _ _ _⟩
  case round =>
    obtain ⟨M, f, xs, rfl, hM, hf, hX⟩ := hrel
    have HX := Lib.hid hX
    have hbs := hX.2.2.1.size
    clear hX
    by_cases hbig : 127 < M
    · have f1 := and127 M hM
      have f2 := or128 M
      go_wp2_with (at_builtin; refine wpList_append_own _ rfl _ _ 113 rfl w.heap.size 5 i0 (.int .u8 0) 1 1 Try.underlying113 hi hz0 hz1 hz2 rfl (by decide) _ _ _ rfl (HX.out.2.2.2.alloc _) ⟨wr.heap.size, 0, none⟩ 1 1 [.int .u8 (↑M % 128 + 128)] rfl rfl ?c1 ?c2 ?c3 ?c4 ?c5 ?_)
      case c1 =>
        intro j u hj
        match j, hj with
        | 0, hj => simp at hj; subst hj; simp [Addr.add]
      case c2 => intro u hu; simp at hu; subst hu; rfl
      case c3 => unfold maxLen; omega
      case c4 => omega
      case c5 => simp; omega
      intro v' w1 hown' hgrow _
      have HO := Lib.hid hown'
      have HG := Lib.hid hgrow
      clear hown' hgrow f1 f2
      obtain ⟨g, rfl⟩ : ∃ g, f = g + 1 := ⟨f - 1, by
        rcases Nat.eq_zero_or_pos f with e | e
        · rw [e] at HX; have := HX.out.1; simp at this; omega
        · omega⟩
      have HN : Hid (xs ++ [UInt8.ofNat (M % 128 + 128)] ++ numF g (M / 128) = numL n ∧ M / 128 < 128 ^ g) := by
        refine ⟨?_, ?_⟩
        · rw [← HX.out.2.1, numF, if_neg (by omega)]; simp
        · have h1 := HX.out.1
          rw [Nat.pow_succ] at h1
          omega
      have HV : Hid (w1.ownsRow w.heap.size 5 1 v' (xs ++ [UInt8.ofNat (M % 128 + 128)]).length ((xs ++ [UInt8.ofNat (M % 128 + 128)]).map fun c => Value.int .u8 (c.toNat : Int))) := by
        have h1 := HO.out
        have h2 : ((UInt8.ofNat (M % 128 + 128)).toNat : Int) = (M : Int) % 128 + 128 := by rw [ofNat_toNat8 _ (by omega)]; omega
        show w1.ownsRow _ _ _ _ _ _
        rw [List.map_append, List.length_append, List.map_cons, h2]
        exact h1
      have HW : Hid (Below w.heap.size w w1) := (HX.out.2.2.1.alloc hbs _).grown HG.out (by simp; omega) (ownBlock_base HX.out.2.2.2)
      clear HO HG
      go_wp2_with fail
      go_roundw
      case rel => exact ⟨M / 128, g, _, intv (by omega), by omega, by simp; omega, HN.out.2, HN.out.1, HW.out, HV.out⟩
      case measure => simp [intOf]; omega
    · go_wp2_with (at_builtin; refine wpList_append_own _ rfl _ _ 113 rfl w.heap.size 5 i0 (.int .u8 0) 1 1 Try.underlying113 hi hz0 hz1 hz2 rfl (by decide) _ _ _ rfl (HX.out.2.2.2.alloc _) ⟨wr.heap.size, 0, none⟩ 1 1 [.int .u8 ↑M] rfl rfl ?d1 ?d2 ?d3 ?d4 ?d5 ?_)
      case d1 =>
        intro j u hj
        match j, hj with
        | 0, hj => simp at hj; subst hj; simp [Addr.add]
      case d2 => intro u hu; simp at hu; subst hu; rfl
      case d3 => unfold maxLen; omega
      case d4 => omega
      case d5 => simp; omega
      intro v' w1 hown' hgrow _
      have HW : Hid (Below w.heap.size w w1) := (HX.out.2.2.1.alloc hbs _).grown hgrow (by simp; omega) (ownBlock_base HX.out.2.2.2)
      have hnm : xs ++ [UInt8.ofNat M] = numL n := by
        rw [← HX.out.2.1]
        cases f with
        | zero => rw [numF]
        | succ g => rw [numF, if_pos (by omega)]
      have h2 : ((UInt8.ofNat M).toNat : Int) = (M : Int) := by rw [ofNat_toNat8 _ (by omega)]
      have hcv : (convert 113 9 v').run Try.prog w1 = .ok (.string (bstr (numL n))) w1 := by
        rw [← hnm]
        refine convert_own (n := xs.length + 1) (base := w.heap.size) Try.underlying113 Try.underlying5 Try.underlying9 ?_ (by simp)
        rw [List.map_append, List.map_cons, h2]
        exact hown'
      clear hown' hgrow h2 hnm
      go_wp2_with fail
      go_ret2
      exact ⟨rfl, HW.out⟩
end Go.Proofs.Ytlfljlhppigejaa
