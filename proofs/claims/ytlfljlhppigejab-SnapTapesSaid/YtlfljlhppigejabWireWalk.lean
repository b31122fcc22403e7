/-
  The walks of chapter 1: package wire, and the document's answer.
-/
import Derived.Test.YtlfljlhppigejabProg
import Derived.Test.YtlfljlhppigejabWords
import Derived.Test.YtlfljlhppigejabPackPure
import Derived.Test.YtlfljlhppigejabBits
import Derived.BigQuiet
import Derived.Deep.QuietTactic
import Derived.Laws.IdiomStrings
import Derived.Outline
namespace Go.Proofs.Ytlfljlhppigejab
open Go.RowKit

theorem take_snoc (s : ByteArray) (k : Nat) (h : k < s.size) : s.data.toList.take (k + 1) = s.data.toList.take k ++ [s[k]] := by
  rw [List.take_succ_eq_append_getElem (by simpa using h)]; rfl
theorem take_all (s : ByteArray) (k : Nat) (h : s.size ≤ k) : s.data.toList.take k = s.data.toList := List.take_of_length_le (by simpa using h)

set_option maxHeartbeats 400000 in
theorem sum_any (s : ByteArray) (hs : s.size ≤ 4611686018427387904) (w : World) : Calls Try.prog 85 #[.string s] w fun e w' => e = .returned (.int .u32 ((crcL s.data.toList).toNat : Int)) ∧ w = w' := by
  go_enter Try.func85, Try.ntmps85
  go_wp2
  go_loop [3, 7] (fun x c => ∃ (k : Nat) (X : BitVec 32), c = .int .i64 k ∧ k ≤ s.size ∧ x = .int .u32 (X.toNat : Int) ∧ (X = crcGo (s.data.toList.take k) (BitVec.allOnes 32) ∧ True)) (fun _ c => (s.size - intOf c).toNat)
  case atStart => exact ⟨0, BitVec.allOnes 32, rfl, by omega, rfl, rfl, trivial⟩
  case round =>
    obtain ⟨k, X, rfl, hk, rfl, hX⟩ := hrel
    have HX := Lib.hid hX.1
    clear hX
    have hx0 := X.isLt
    by_cases hlt : k < s.size
    · have hsn := take_snoc s k hlt
      obtain ⟨c, hc⟩ : ∃ c, s[k] = c := ⟨_, rfl⟩
      rw [hc] at hsn
      have HS := Lib.hid hsn
      clear hsn
      have ex := xor_byte X c
      go_wp2_with fail
      clear ex
      go_loop [3, 16] (fun x j => ∃ (i : Nat) (Y : BitVec 32), j = .int .i64 i ∧ i ≤ 8 ∧ x = .int .u32 (Y.toNat : Int) ∧ (Y = crcN i (X ^^^ byte32 c) ∧ True)) (fun _ j => (8 - intOf j).toNat)
      case atStart => exact ⟨0, _, rfl, by omega, rfl, rfl, trivial⟩
      case round =>
        obtain ⟨i, Y, rfl, hi, rfl, hY⟩ := hrel
        have HY := Lib.hid hY.1
        clear hY
        have hy0 := Y.isLt
        by_cases hlt8 : i < 8
        · rcases Bool.eq_false_or_eq_true (Y.getLsbD 0) with hb | hb
          · have e1 := and_one Y
            rw [if_pos hb] at e1
            have e2 := step_odd Y hb
            clear hb
            go_wp2_with fail
            go_round
            case rel => exact ⟨i + 1, _, by go_num, by omega, rfl, by rw [HY.out, crcN_succ], trivial⟩
            case measure => simp [intOf]; omega
          · have e1 := and_one Y
            rw [hb, if_neg (by decide)] at e1
            have e2 := step_even Y hb
            clear hb
            go_wp2_with fail
            go_round
            case rel => exact ⟨i + 1, _, by go_num, by omega, rfl, by rw [HY.out, crcN_succ], trivial⟩
            case measure => simp [intOf]; omega
        · obtain rfl : i = 8 := by omega
          go_wp2_with fail
          go_round
          case rel => exact ⟨k + 1, _, by go_num, by omega, rfl, by rw [HS.out, crcGo_snoc, ← HX.out, HY.out]; rfl, trivial⟩
          case measure => simp [intOf]; omega
    · have e1 := not_word X
      obtain ⟨z, hz⟩ : ∃ z : Int, (((~~~X).toNat : Nat) : Int) = z := ⟨_, rfl⟩
      rw [hz] at e1
      have hta := take_all s k (by omega)
      have hfin : z = ((crcL s.data.toList).toNat : Int) := by unfold crcL; rw [← hta, ← HX.out, hz]
      have HF := Lib.hid hfin
      clear hta hfin hz
      go_wp2
      go_ret
      exact ⟨ret1 (intv HF.out), rfl⟩

/-! ### The document's sum: bit by bit -/
set_option maxHeartbeats 800000 in
theorem refsum_any (s : ByteArray) (hs : s.size ≤ 1000000) (w : World) : Calls Try.prog 61 #[.string s] w fun e w' => e = .returned (.int .u32 ((crcL s.data.toList).toNat : Int)) ∧ w = w' := by
  have hl : s.data.toList.length = s.size := by simp
  have HL := Lib.hid hl
  clear hl
  go_enter Try.func61, Try.ntmps61
  go_wp2
  go_loop [3, 4] (fun x c => ∃ (k : Nat) (X : BitVec 32), c = .int .i64 k ∧ k ≤ 8 * s.size ∧ x = .int .u32 (X.toNat : Int) ∧ (X = crcBits s.data.toList k ∧ True)) (fun _ c => (8 * s.size - intOf c).toNat)
  case atStart => exact ⟨0, BitVec.allOnes 32, rfl, by omega, rfl, (crcBits_zero _).symm, trivial⟩
  case round =>
    obtain ⟨k, X, rfl, hk, rfl, hX⟩ := hrel
    have HX := Lib.hid hX.1
    clear hX
    have hx0 := X.isLt
    by_cases hlt : k < 8 * s.size
    · have hk8 : k / 8 < s.size := by omega
      have hnx := crcBits_next s.data.toList k (by rw [HL.out]; exact hlt)
      obtain ⟨c, hc⟩ : ∃ c, s[k / 8] = c := ⟨_, rfl⟩
      have hcd : s.data.toList.getD (k / 8) 0 = c := by rw [← hc]; simp [List.getD, hk8]; rfl
      rw [hcd, ← HX.out] at hnx
      have HN := Lib.hid hnx
      clear hnx hcd
      have e2 := and_shift c (k % 8)
      have e1 := and_one X
      have e3 := xor_lits (X.getLsbD 0) ((byte32 c >>> (k % 8)).getLsbD 0)
      rcases Bool.eq_false_or_eq_true (X.getLsbD 0 != (byte32 c >>> (k % 8)).getLsbD 0) with hb | hb
      · rw [hb, if_pos (c := true = true) rfl, ← e1, ← e2] at e3
        have e4 : bits .xor .u32 ((X.toNat : Int) / 2) 3988292384 = (((X >>> 1) ^^^ poly).toNat : Int) := by
          have e : (3988292384 : Int) = ((poly.toNat : Nat) : Int) := by decide
          rw [← half_nat, e, bits_xor32]
        have hb' := HN.out
        rw [hb, if_pos (c := true = true) rfl] at hb'
        obtain ⟨Y, hY⟩ : ∃ Y, X >>> 1 ^^^ poly = Y := ⟨_, rfl⟩
        rw [hY] at e4 hb'
        have HB := Lib.hid hb'
        clear e1 e2 hb hb' hY
        go_wp2_with fail
        go_round
        case rel => exact ⟨k + 1, Y, by go_num, by omega, rfl, HB.out.symm, trivial⟩
        case measure => simp [intOf]; omega
      · rw [hb, if_neg (c := false = true) Bool.false_ne_true, ← e1, ← e2] at e3
        have hb' := HN.out
        rw [hb, if_neg (c := false = true) Bool.false_ne_true, BitVec.xor_zero] at hb'
        have e4 : (X.toNat : Int) / 2 = (((X >>> 1).toNat : Nat) : Int) := (half_nat X).symm
        obtain ⟨Y, hY⟩ : ∃ Y, X >>> 1 = Y := ⟨_, rfl⟩
        rw [hY] at e4 hb'
        have HB := Lib.hid hb'
        clear e1 e2 hb hb' hY
        go_wp2_with fail
        go_round
        case rel => exact ⟨k + 1, Y, by go_num, by omega, intv e4, HB.out.symm, trivial⟩
        case measure => simp [intOf]; omega
    · have e1 := not_word' X
      obtain ⟨z, hz⟩ : ∃ z : Int, (((~~~X).toNat : Nat) : Int) = z := ⟨_, rfl⟩
      rw [hz] at e1
      have hfin : z = ((crcL s.data.toList).toNat : Int) := by
        have := HX.out
        rw [show k = 8 * s.data.toList.length from by have := HL.out; omega, crcBits_all] at this
        unfold crcL
        rw [← this, hz]
      have HF := Lib.hid hfin
      clear hfin hz
      go_wp2
      go_ret
      exact ⟨ret1 (intv HF.out), rfl⟩
end Go.Proofs.Ytlfljlhppigejab
