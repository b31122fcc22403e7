/-
  The walks of the document's Num and Framed; errors held against numbers.
-/
import Derived.Test.YtlfljlhppigejabWireCore
namespace Go.Proofs.Ytlfljlhppigejab
open Go.RowKit


set_option maxHeartbeats 800000 in
set_option maxRecDepth 100000 in
theorem refnum_any (n : Nat) (hn : n < 9223372036854775808) (w : World) : Calls Try.prog 91 #[.int .i64 n] w fun e w' => e = .returned (.string (bstr (numL n))) ∧ Below w.heap.size w w' := by
  obtain ⟨i0, hi, hz0, hz1, hz2⟩ := info_parts Try.infoU8
  go_enter Try.func91, Try.ntmps91
  go_wp2
  go_loopw [0, 3] (fun m v wr => ∃ (M f : Nat) (xs : List UInt8), m = .int .i64 M ∧ M < 9223372036854775808 ∧ xs.length + f = 9 ∧ (M < 128 ^ f ∧ xs ++ numF f M = numL n ∧ Below w.heap.size w wr ∧
      wr.ownsRow w.heap.size 5 1 v xs.length (xs.map fun c => Value.int .u8 (c.toNat : Int)))) (fun m _ _ => (intOf m).toNat)
  case atStart => exact ⟨n, 9, [], rfl, hn, rfl, by simpa using hn, rfl, Below.refl _ _, World.ownsRow_nil _ _ _ _⟩
  case round =>
    obtain ⟨M, f, xs, rfl, hM, hf, hX⟩ := hrel
    have HX := Lib.hid hX
    have hbs := hX.2.2.1.size
    clear hX
    by_cases hbig : 127 < M
    · have f1 := and127 M hM
      have f2 := or128 M
      go_wp2_with (at_builtin; refine wpList_append_own _ rfl _ _ 103 rfl w.heap.size 5 i0 (.int .u8 0) 1 1 Try.underlying103 hi hz0 hz1 hz2 rfl (by decide) _ _ _ rfl (HX.out.2.2.2.alloc _) ⟨wr.heap.size, 0, none⟩ 1 1 [.int .u8 (128 + ↑M % 128)] rfl rfl ?c1 ?c2 ?c3 ?c4 ?c5 ?_)
      case c1 =>
        intro j u hj
        match j, hj with
        | 0, hj => simp at hj; subst hj; simp [Addr.add]
      case c2 => intro u hu; simp at hu; subst hu; rfl
      case c3 => unfold maxLen; omega
      case c4 => omega
      case c5 => simp; omega
      intro v' w1 hown' hgrow _
      have HO := Lib.hid hown'
      have HG := Lib.hid hgrow
      clear hown' hgrow
      obtain ⟨g, rfl⟩ : ∃ g, f = g + 1 := ⟨f - 1, by
        rcases Nat.eq_zero_or_pos f with e | e
        · rw [e] at HX; have := HX.out.1; simp at this; omega
        · omega⟩
      have HN : Hid (xs ++ [UInt8.ofNat (M % 128 + 128)] ++ numF g (M / 128) = numL n ∧ M / 128 < 128 ^ g) := by
        refine ⟨?_, ?_⟩
        · rw [← HX.out.2.1, numF, if_neg (by omega)]; simp
        · have h1 := HX.out.1
          rw [Nat.pow_succ] at h1
          omega
      have HV : Hid (w1.ownsRow w.heap.size 5 1 v' (xs ++ [UInt8.ofNat (M % 128 + 128)]).length ((xs ++ [UInt8.ofNat (M % 128 + 128)]).map fun c => Value.int .u8 (c.toNat : Int))) := by
        have h1 := HO.out
        have h2 : ((UInt8.ofNat (M % 128 + 128)).toNat : Int) = 128 + (M : Int) % 128 := by rw [ofNat_toNat8 _ (by omega)]; omega
        show w1.ownsRow _ _ _ _ _ _
        rw [List.map_append, List.length_append, List.map_cons, h2]
        exact h1
      have HW : Hid (Below w.heap.size w w1) := (HX.out.2.2.1.alloc hbs _).grown HG.out (by simp; omega) (ownBlock_base HX.out.2.2.2)
      clear HO HG
      go_wp2_with fail
      go_roundw
      case rel => exact ⟨M / 128, g, _, intv (by omega), by omega, by simp; omega, HN.out.2, HN.out.1, HW.out, HV.out⟩
      case measure => simp [intOf]; omega
    · go_wp2_with (at_builtin; refine wpList_append_own _ rfl _ _ 103 rfl w.heap.size 5 i0 (.int .u8 0) 1 1 Try.underlying103 hi hz0 hz1 hz2 rfl (by decide) _ _ _ rfl (HX.out.2.2.2.alloc _) ⟨wr.heap.size, 0, none⟩ 1 1 [.int .u8 ↑M] rfl rfl ?d1 ?d2 ?d3 ?d4 ?d5 ?_)
      case d1 =>
        intro j u hj
        match j, hj with
        | 0, hj => simp at hj; subst hj; simp [Addr.add]
      case d2 => intro u hu; simp at hu; subst hu; rfl
      case d3 => unfold maxLen; omega
      case d4 => omega
      case d5 => simp; omega
      intro v' w1 hown' hgrow _
      have HW : Hid (Below w.heap.size w w1) := (HX.out.2.2.1.alloc hbs _).grown hgrow (by simp; omega) (ownBlock_base HX.out.2.2.2)
      have hnm : xs ++ [UInt8.ofNat M] = numL n := by
        rw [← HX.out.2.1]
        cases f with
        | zero => rw [numF]
        | succ g => rw [numF, if_pos (by omega)]
      have h2 : ((UInt8.ofNat M).toNat : Int) = (M : Int) := by rw [ofNat_toNat8 _ (by omega)]
      have hcv : (convert 103 9 v').run Try.prog w1 = .ok (.string (bstr (numL n))) w1 := by
        rw [← hnm]
        refine convert_own (n := xs.length + 1) (base := w.heap.size) Try.underlying103 Try.underlying5 Try.underlying9 ?_ (by simp)
        rw [List.map_append, List.map_cons, h2]
        exact hown'
      clear hown' hgrow h2 hnm
      go_wp2_with fail
      go_ret
      exact ⟨rfl, HW.out⟩

set_option maxHeartbeats 1600000 in
set_option maxRecDepth 100000 in
theorem framed_any (k : UInt8) (s : ByteArray) (hs : s.size ≤ 900000) (w : World) : Calls Try.prog 16 #[.int .u8 (k.toNat : Int), .string s] w fun e w' => e = .returned (.string (bstr (frameL k s.data.toList))) ∧ Below w.heap.size w w' := by
  have c1 := convert_new w _ rfl [k] #[.int .u8 (k.toNat : Int)] 1 rfl rfl
  have z1 : (bstr [k]).size = 1 := bstr_size _
  obtain ⟨H, hH⟩ : ∃ H : ByteArray, { data := #[70, 89, 49] } ++ bstr [k] ++ s = H := ⟨_, rfl⟩
  have hHl : H.data.toList = headL k s.data.toList := by rw [← hH, list_append, list_append, bstr_list]; rfl
  have hHs : H.size = s.size + 4 := by
    have h1 : H.data.toList.length = s.data.toList.length + 4 := by rw [hHl]; simp [headL]
    simpa using h1
  have HL := Lib.hid hHl
  clear hHl
  go_enter Try.func16, Try.ntmps16
  go_wp2_with fail
  refine (refsum_any H (by omega) _).mono ?_
  rintro e w1 ⟨rfl, rfl⟩
  clear c1 z1
  obtain ⟨x, hx⟩ : ∃ x, crcL H.data.toList = x := ⟨_, rfl⟩
  rw [hx]
  have HX := Lib.hid (show crcL (headL k s.data.toList) = x by rw [← HL.out]; exact hx)
  clear hx
  have hxl := x.isLt
  obtain ⟨z, hz⟩ : ∃ z, x.toNat = z := ⟨_, rfl⟩
  rw [hz] at hxl ⊢
  have HZ := Lib.hid hz
  clear hz
  have hb0 : Below w.heap.size w (w.alloc (.cells #[.int .u8 (k.toNat : Int)] 5)) := (Below.refl _ _).alloc (Nat.le_refl _) _
  go_wp2_with fail
  go_loopw [5, 6, 7] (fun a b c wr => ∃ (j X : Nat) (S : ByteArray), a = .string S ∧ b = .int .u32 X ∧ c = .int .i64 j ∧ j ≤ 4 ∧ X < 4294967296 ∧ S.size = s.size + 4 + j ∧ (X = z / 256 ^ j ∧ S.data.toList = headL k s.data.toList ++ (le4 x).take j ∧ Below w.heap.size w wr))
    (fun _ _ c _ => (4 - intOf c).toNat)
  case atStart => exact ⟨0, z, H, rfl, rfl, rfl, by omega, by omega, by omega, by simp, by rw [HL.out]; simp, hb0⟩
  case round =>
    clear hb0
    obtain ⟨j, X, S, rfl, rfl, rfl, hj, hX, hS, hr⟩ := hrel
    have HR := Lib.hid hr
    have hbs := hr.2.2.size
    have HS := Lib.hid hS
    have hSs : S.size ≤ 1000000 := by omega
    clear hr hS
    by_cases hlt : j < 4
    · have c1 := convert_new wr _ rfl [UInt8.ofNat (X % 256)] #[.int .u8 ((X : Int) % 256)] 1 rfl (by
        simp only [List.map_cons, List.map_nil]
        rw [ofNat_toNat8 _ (by omega)]
        rfl)
      have z1 : (bstr [UInt8.ofNat (X % 256)]).size = 1 := bstr_size _
      have hnx : Hid (X / 256 = z / 256 ^ (j + 1) ∧ (S ++ bstr [UInt8.ofNat (X % 256)]).data.toList = headL k s.data.toList ++ (le4 x).take (j + 1)) := by
        refine ⟨?_, ?_⟩
        · rw [HR.out.1, Nat.div_div_eq_div_mul, Nat.pow_succ]
        · rw [list_append, bstr_list, HR.out.2.1, List.append_assoc]
          congr 1
          have hz := HZ.out
          have hX := HR.out.1
          have hj4 : j = 0 ∨ j = 1 ∨ j = 2 ∨ j = 3 := by omega
          rcases hj4 with rfl | rfl | rfl | rfl <;> simp [le4, hz, hX]
      go_wp2_with fail
      go_roundw
      case rel => exact ⟨j + 1, X / 256, _, rfl, intv (by omega), by go_num, by omega, by omega, by rw [ByteArray.size_append, bstr_size]; have := HS.out; simp; omega, hnx.out.1, hnx.out.2, HR.out.2.2.alloc hbs _⟩
      case measure => simp [intOf]; omega
    · obtain rfl : j = 4 := by omega
      have hfin : Hid (S = bstr (frameL k s.data.toList)) := by
        show _ = _
        rw [← bstr_of S, HR.out.2.1]
        unfold frameL
        rw [HX.out]
        rfl
      go_wp2_with fail
      go_ret
      exact ⟨ret1 (strv hfin.out), HR.out.2.2⟩
theorem same_nil (f : Int) (w : World) : Calls Try.prog 13 #[.nilIface, .int .i64 f] w fun e w' => e = .returned (.bool (f == 0)) ∧ w = w' := by
  go_enter Try.func13, Try.ntmps13
  go_wp2_with fail
  go_ret
  exact ⟨rfl, rfl⟩
theorem assert_errno (n : Int) (w : World) : (Instr.typeAssert (.iface 112 (.int .i64 n)) 40 112 true).run Try.prog w = .ok (.tuple #[.int .i64 n, .bool true]) w := by kernel_rfl
set_option maxRecDepth 100000 in
theorem same_err (n f : Int) (hn : 0 < n) (w : World) : Calls Try.prog 13 #[.iface 112 (.int .i64 n), .int .i64 f] w fun e w' => e = .returned (.bool (n == f)) ∧ w = w' := by
  have ha := assert_errno n w
  go_enter Try.func13, Try.ntmps13
  go_wp2_with fail
  all_goals (go_ret; exact ⟨ret1 (boolv (by first | rfl | (simp; omega))), rfl⟩)
/-- An error held against its own number. -/
theorem same_any (n f : Nat) (w : World) : Calls Try.prog 13 #[errV n, .int .i64 f] w fun e w' => e = .returned (.bool (n == f)) ∧ w = w' := by
  by_cases h : n = 0
  · subst h
    rw [errV_zero]
    refine (same_nil f w).mono ?_
    rintro e w' ⟨rfl, rfl⟩
    exact ⟨ret1 (boolv (by rw [Bool.eq_iff_iff]; simp; omega)), rfl⟩
  · rw [errV_pos n h]
    refine (same_err n f (by omega) w).mono ?_
    rintro e w' ⟨rfl, rfl⟩
    exact ⟨ret1 (boolv (by rw [Bool.eq_iff_iff]; simp; omega)), rfl⟩
end Go.Proofs.Ytlfljlhppigejab
