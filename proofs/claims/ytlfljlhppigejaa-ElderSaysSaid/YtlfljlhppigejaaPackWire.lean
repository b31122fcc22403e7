/-
  Bits of the model's integers as words of 32 bits. No program in sight. The walks of chapter 1: package wire, and the document's answer. The walks of package wire: Take, Num, Frame, Open. The walks of the document's Num and Framed; errors held against numbers.
-/
import Derived.Test.YtlfljlhppigejaaPackPure
import Derived.WalkKit
import Derived.Laws.BitsLemmas
import Derived.Lib.EndianBits
import Derived.IntWalk
import Derived.Test.YtlfljlhppigejaaProg
import Derived.Test.YtlfljlhppigejaaPackBase
import Derived.BigQuiet
import Derived.Deep.QuietTactic
import Derived.Laws.IdiomStrings
import Derived.Outline
import Derived.Test.YtlfljlhppigejaaPackMaps
import Derived.Lib.IndexBytes
import Derived.Laws.DeepStrings4
import Derived.RegionTactic
namespace Go.Proofs.Ytlfljlhppigejaa
open Go
open Go.RowKit (wrap64)

theorem bits_u32 (op : BinOp) (a b r : BitVec 32) (h : bits op .u32 (a.toNat : Int) (b.toNat : Int) = IntKind.u32.wrap ((r.toNat : Nat) : Int)) : bits op .u32 (a.toNat : Int) (b.toNat : Int) = (r.toNat : Int) := by
  rw [h]
  have := r.isLt
  simp [IntKind.wrap, IntKind.bits, IntKind.signed]
  omega
theorem ofInt_nat (a : BitVec 32) : BitVec.ofInt 32 (a.toNat : Int) = a := by simp
theorem bits_xor32 (a b : BitVec 32) : bits .xor .u32 (a.toNat : Int) (b.toNat : Int) = ((a ^^^ b).toNat : Int) := by
  apply bits_u32
  show IntKind.u32.wrap (((BitVec.ofInt 32 (a.toNat : Int) ^^^ BitVec.ofInt 32 (b.toNat : Int) : BitVec 32).toNat : Nat) : Int) = _
  rw [ofInt_nat, ofInt_nat]
theorem bits_and32 (a b : BitVec 32) : bits .and .u32 (a.toNat : Int) (b.toNat : Int) = ((a &&& b).toNat : Int) := by
  apply bits_u32
  show IntKind.u32.wrap (((BitVec.ofInt 32 (a.toNat : Int) &&& BitVec.ofInt 32 (b.toNat : Int) : BitVec 32).toNat : Nat) : Int) = _
  rw [ofInt_nat, ofInt_nat]
/-- A byte as a word. -/
theorem byte32_nat (c : UInt8) : ((byte32 c).toNat : Int) = (c.toNat : Int) := by
  have := c.toNat_lt
  simp [byte32]
theorem xor_byte (X : BitVec 32) (c : UInt8) : bits .xor .u32 (X.toNat : Int) ((c.toNat : Int) % 4294967296) = ((X ^^^ byte32 c).toNat : Int) := by
  have h := c.toNat_lt
  have e : (c.toNat : Int) % 4294967296 = ((byte32 c).toNat : Int) := by rw [byte32_nat]; omega
  rw [e, bits_xor32]
theorem lsb_nat (X : BitVec 32) : X.getLsbD 0 = decide (X.toNat % 2 = 1) := by
  rw [BitVec.getLsbD]
  simp [Nat.testBit_zero]
theorem and_one (X : BitVec 32) : bits .and .u32 (X.toNat : Int) 1 = if X.getLsbD 0 then 1 else 0 := by
  have h : bits .and .u32 (X.toNat : Int) 1 = ((X &&& 1#32).toNat : Int) := bits_and32 X 1#32
  rw [h, lsb_nat, BitVec.toNat_and]
  have : X.toNat &&& (1#32).toNat = X.toNat % 2 := by simp
  rw [this]
  rcases Nat.mod_two_eq_zero_or_one X.toNat with e | e <;> simp [e]
theorem half_nat (X : BitVec 32) : ((X >>> 1).toNat : Int) = (X.toNat : Int) / 2 := by
  simp [Nat.shiftRight_eq_div_pow]
/-- One step of the sum where the word is odd. -/
theorem step_odd (X : BitVec 32) (h : X.getLsbD 0 = true) : bits .xor .u32 ((X.toNat : Int) / 2) 3988292384 = ((crcStep X).toNat : Int) := by
  have e : (3988292384 : Int) = ((poly.toNat : Nat) : Int) := by decide
  rw [← half_nat, e, bits_xor32]
  unfold crcStep
  rw [if_pos h]
theorem step_even (X : BitVec 32) (h : X.getLsbD 0 = false) : bits .xor .u32 ((X.toNat : Int) / 2) 0 = ((crcStep X).toNat : Int) := by
  have e : (0 : Int) = (((0#32).toNat : Nat) : Int) := by decide
  rw [← half_nat, e, bits_xor32]
  unfold crcStep
  rw [h]
  simp
theorem not_word (X : BitVec 32) : bits .xor .u32 IntKind.u32.max (X.toNat : Int) = ((~~~X).toNat : Int) := by
  have e : IntKind.u32.max = (((BitVec.allOnes 32).toNat : Nat) : Int) := by decide
  rw [e, bits_xor32]
  rw [BitVec.allOnes_xor]
theorem and_shift (c : UInt8) (j : Nat) : bits .and .u32 ((c.toNat : Int) / 2 ^ j % 4294967296) 1 = if (byte32 c >>> j).getLsbD 0 then 1 else 0 := by
  have h := c.toNat_lt
  have h1 : c.toNat / 2 ^ j ≤ c.toNat := Nat.div_le_self _ _
  have hb : (byte32 c >>> j).toNat = c.toNat / 2 ^ j := by
    rw [BitVec.toNat_ushiftRight, Nat.shiftRight_eq_div_pow]
    congr 1
    have := byte32_nat c
    omega
  have e : (c.toNat : Int) / 2 ^ j % 4294967296 = (((byte32 c >>> j).toNat : Nat) : Int) := by
    have e1 : ((c.toNat : Int) / 2 ^ j) = ((c.toNat / 2 ^ j : Nat) : Int) := by simp
    rw [e1, hb]
    generalize c.toNat / 2 ^ j = q at *
    omega
  rw [e, and_one]
theorem not_word' (X : BitVec 32) : bits .xor .u32 (X.toNat : Int) 4294967295 = ((~~~X).toNat : Int) := by
  have e : (4294967295 : Int) = (((BitVec.allOnes 32).toNat : Nat) : Int) := by decide
  rw [e, bits_xor32]
  rw [BitVec.xor_allOnes]
theorem xor_lits (a b : Bool) : bits .xor .u32 (if a then 1 else 0) (if b then 1 else 0) = if a != b then 1 else 0 := by
  cases a <;> cases b <;> decide
theorem wraps_i64 (n : Int) (h₀ : 0 ≤ n) (h₁ : n < 2 ^ 63) : IntKind.i64.wrap n = n := by rw [IntKind.wrap_i64]; omega
/-- What Take makes of one byte more. -/
theorem take_or (N k : Nat) (c : UInt8) (hk : k ≤ 8) (hN : N < 128 ^ k) :
    bits .or .i64 (N : Int) (wrap64 (wrap64 (bits .and .u8 (c.toNat : Int) 127) * 2 ^ (7 * k))) = ((N + (c.toNat % 128) * 128 ^ k : Nat) : Int) := by
  have hc := c.toNat_lt
  have h1 : bits .and .u8 (c.toNat : Int) 127 = (c.toNat : Int) % 128 := bits_mask .u8 8 (by decide) wraps_u8 7 (by decide) _ (by omega) (by omega)
  rw [h1]
  generalize c.toNat = d at *
  have h2 : wrap64 ((d : Int) % 128) = (d : Int) % 128 := IntWalk.wrap64_in _ ⟨by omega, by omega⟩
  rw [h2]
  have hk' : k = 0 ∨ k = 1 ∨ k = 2 ∨ k = 3 ∨ k = 4 ∨ k = 5 ∨ k = 6 ∨ k = 7 ∨ k = 8 := by omega
  rcases hk' with rfl | rfl | rfl | rfl | rfl | rfl | rfl | rfl | rfl
  all_goals
    simp only [Nat.reducePow, Nat.reduceMul, Int.reducePow, Int.mul_one, Nat.mul_one] at *
    rw [IntWalk.wrap64_in _ ⟨by omega, by omega⟩]
  · rw [bits_join_low .i64 63 (by decide) wraps_i64 0 _ _ (by omega) (by omega) (by omega) (by omega) (by omega) (by omega)]; omega
  · rw [bits_join_low .i64 63 (by decide) wraps_i64 7 _ _ (by omega) (by omega) (by omega) (by omega) (by omega) (by omega)]; omega
  · rw [bits_join_low .i64 63 (by decide) wraps_i64 14 _ _ (by omega) (by omega) (by omega) (by omega) (by omega) (by omega)]; omega
  · rw [bits_join_low .i64 63 (by decide) wraps_i64 21 _ _ (by omega) (by omega) (by omega) (by omega) (by omega) (by omega)]; omega
  · rw [bits_join_low .i64 63 (by decide) wraps_i64 28 _ _ (by omega) (by omega) (by omega) (by omega) (by omega) (by omega)]; omega
  · rw [bits_join_low .i64 63 (by decide) wraps_i64 35 _ _ (by omega) (by omega) (by omega) (by omega) (by omega) (by omega)]; omega
  · rw [bits_join_low .i64 63 (by decide) wraps_i64 42 _ _ (by omega) (by omega) (by omega) (by omega) (by omega) (by omega)]; omega
  · rw [bits_join_low .i64 63 (by decide) wraps_i64 49 _ _ (by omega) (by omega) (by omega) (by omega) (by omega) (by omega)]; omega
  · rw [bits_join_low .i64 63 (by decide) wraps_i64 56 _ _ (by omega) (by omega) (by omega) (by omega) (by omega) (by omega)]; omega
theorem and127 (M : Nat) (hM : M < 9223372036854775808) : bits .and .i64 (M : Int) 127 = (M : Int) % 128 :=
  bits_mask .i64 63 (by decide) wraps_i64 7 (by decide) _ (by omega) (by omega)
theorem or128 (M : Nat) : bits .or .i64 ((M : Int) % 128) 128 = (M : Int) % 128 + 128 :=
  bits_join_low .i64 63 (by decide) wraps_i64 7 _ _ (by omega) (by omega) (by omega) (by omega) (by omega) (by omega)
theorem reftake_or (N k W d : Nat) (hW : W = 128 ^ k) (hk : k ≤ 8) (hN : N < 128 ^ k) (hd : d < 128) : wrap64 ((N : Int) + wrap64 ((W : Int) * (d : Int))) = ((N + d * 128 ^ k : Nat) : Int) := by
  have h2 : N + d * 128 ^ k < 9223372036854775808 := Nat.lt_of_lt_of_le (take_bound N d k hN hd) (pow128_le (k + 1) (by omega))
  have e : (W : Int) * (d : Int) = ((d * 128 ^ k : Nat) : Int) := by rw [hW, Nat.mul_comm]; simp
  obtain ⟨q, hq⟩ : ∃ q, d * 128 ^ k = q := ⟨_, rfl⟩
  rw [hq] at h2 e
  rw [e, hq]
  clear e hq hN hW
  rw [IntWalk.wrap64_in (q : Int) ⟨by omega, by omega⟩, IntWalk.wrap64_in _ ⟨by omega, by omega⟩]
  omega
theorem bits_xor8 (a b : Nat) (ha : a < 256) (hb : b < 256) : bits .xor .u8 (a : Int) (b : Int) = ((a ^^^ b : Nat) : Int) := by
  have hx : a ^^^ b < 2 ^ 8 := Nat.xor_lt_two_pow (by omega) (by omega)
  show IntKind.u8.wrap (((BitVec.ofInt 8 (a : Int) ^^^ BitVec.ofInt 8 (b : Int) : BitVec 8).toNat : Nat) : Int) = _
  rw [BitVec.ofInt_natCast, BitVec.ofInt_natCast, BitVec.toNat_xor, BitVec.toNat_ofNat, BitVec.toNat_ofNat, Nat.mod_eq_of_lt (show a < 2 ^ 8 by omega), Nat.mod_eq_of_lt (show b < 2 ^ 8 by omega)]
  exact wraps_u8 _ (Int.natCast_nonneg _) (by exact_mod_cast hx)
/-- One bit of a byte turned. -/
theorem flip_bit (c : UInt8) (j : Nat) (hj : j < 8) : ∃ d : UInt8, bits .xor .u8 (c.toNat : Int) (2 ^ j % 256) = (d.toNat : Int) ∧ ∀ i, i ≠ j → d.toNat.testBit i = c.toNat.testBit i := by
  have hc := c.toNat_lt
  have hp : 2 ^ j ≤ 2 ^ 7 := Nat.pow_le_pow_right (by decide) (by omega)
  have hx : c.toNat ^^^ 2 ^ j < 2 ^ 8 := Nat.xor_lt_two_pow (by omega) (by omega)
  have e : ((2 : Int) ^ j % 256) = ((2 ^ j : Nat) : Int) := by
    have : ((2 : Int) ^ j) = ((2 ^ j : Nat) : Int) := by simp
    rw [this]
    obtain ⟨r, hr⟩ : ∃ r, 2 ^ j = r := ⟨_, rfl⟩
    rw [hr] at hp ⊢
    omega
  have hd : (UInt8.ofNat (c.toNat ^^^ 2 ^ j)).toNat = c.toNat ^^^ 2 ^ j := by
    generalize c.toNat ^^^ 2 ^ j = r at *
    simp
    omega
  refine ⟨UInt8.ofNat (c.toNat ^^^ 2 ^ j), ?_, ?_⟩
  · rw [e, bits_xor8 _ _ (by omega) (by omega), hd]
  · intro i hi
    rw [hd, Nat.testBit_xor, Nat.testBit_two_pow]
    have : decide (j = i) = false := by simp; omega
    rw [this]
    simp
end Go.Proofs.Ytlfljlhppigejaa
namespace Go.Proofs.Ytlfljlhppigejaa
open Go.RowKit

theorem take_snoc (s : ByteArray) (k : Nat) (h : k < s.size) : s.data.toList.take (k + 1) = s.data.toList.take k ++ [s[k]] := by
  rw [List.take_succ_eq_append_getElem (by simpa using h)]; rfl
theorem take_all (s : ByteArray) (k : Nat) (h : s.size ≤ k) : s.data.toList.take k = s.data.toList := List.take_of_length_le (by simpa using h)

set_option maxHeartbeats 400000 in
theorem sum_any (s : ByteArray) (hs : s.size ≤ 4611686018427387904) (w : World) : Calls Try.prog 35 #[.string s] w fun e w' => e = .returned (.int .u32 ((crcL s.data.toList).toNat : Int)) ∧ w = w' := by
  go_enter Try.func35, Try.ntmps35
  go_wp2
  go_loop [3, 7] (fun x c => ∃ (k : Nat) (X : BitVec 32), c = .int .i64 k ∧ k ≤ s.size ∧ x = .int .u32 (X.toNat : Int) ∧ (X = crcGo (s.data.toList.take k) (BitVec.allOnes 32) ∧ True)) (fun _ c => (s.size - intOf c).toNat)
  case atStart => exact ⟨0, BitVec.allOnes 32, rfl, by omega, rfl, rfl, trivial⟩
  case round =>
    obtain ⟨k, X, rfl, hk, rfl, hX⟩ := hrel
    have HX := Lib.hid hX.1
    clear hX
    have hx0 := X.isLt
    by_cases hlt : k < s.size
    · have hsn := take_snoc s k hlt
      obtain ⟨c, hc⟩ : ∃ c, s[k] = c := ⟨_, rfl⟩
      rw [hc] at hsn
      have HS := Lib.hid hsn
      clear hsn
      have ex := xor_byte X c
      go_wp2_with fail
      clear ex
      go_loop [3, 16] (fun x j => ∃ (i : Nat) (Y : BitVec 32), j = .int .i64 i ∧ i ≤ 8 ∧ x = .int .u32 (Y.toNat : Int) ∧ (Y = crcN i (X ^^^ byte32 c) ∧ True)) (fun _ j => (8 - intOf j).toNat)
      case atStart => exact ⟨0, _, rfl, by omega, rfl, rfl, trivial⟩
      case round =>
        obtain ⟨i, Y, rfl, hi, rfl, hY⟩ := hrel
        have HY := Lib.hid hY.1
        clear hY
        have hy0 := Y.isLt
        by_cases hlt8 : i < 8
        · rcases Bool.eq_false_or_eq_true (Y.getLsbD 0) with hb | hb
          · have e1 := and_one Y
            rw [if_pos hb] at e1
            have e2 := step_odd Y hb
            clear hb
            go_wp2_with fail
            go_round
            case rel => exact ⟨i + 1, _, by go_num, by omega, rfl, by rw [HY.out, crcN_succ], trivial⟩
            case measure => simp [intOf]; omega
          · have e1 := and_one Y
            rw [hb, if_neg (by decide)] at e1
            have e2 := step_even Y hb
            clear hb
            go_wp2_with fail
            go_round
            case rel => exact ⟨i + 1, _, by go_num, by omega, rfl, by rw [HY.out, crcN_succ], trivial⟩
            case measure => simp [intOf]; omega
        · obtain rfl : i = 8 := by omega
          go_wp2_with fail
          go_round
          case rel => exact ⟨k + 1, _, by go_num, by omega, rfl, by rw [HS.out, crcGo_snoc, ← HX.out, HY.out]; rfl, trivial⟩
          case measure => simp [intOf]; omega
    · have e1 := not_word X
      obtain ⟨z, hz⟩ : ∃ z : Int, (((~~~X).toNat : Nat) : Int) = z := ⟨_, rfl⟩
      rw [hz] at e1
      have hta := take_all s k (by omega)
      have hfin : z = ((crcL s.data.toList).toNat : Int) := by unfold crcL; rw [← hta, ← HX.out, hz]
      have HF := Lib.hid hfin
      clear hta hfin hz
      go_wp2
      go_ret
      exact ⟨ret1 (intv HF.out), rfl⟩

/-! ### The document's sum: bit by bit -/
set_option maxHeartbeats 800000 in
theorem refsum_any (s : ByteArray) (hs : s.size ≤ 1000000) (w : World) : Calls Try.prog 36 #[.string s] w fun e w' => e = .returned (.int .u32 ((crcL s.data.toList).toNat : Int)) ∧ w = w' := by
  have hl : s.data.toList.length = s.size := by simp
  have HL := Lib.hid hl
  clear hl
  go_enter Try.func36, Try.ntmps36
  go_wp2
  go_loop [3, 4] (fun x c => ∃ (k : Nat) (X : BitVec 32), c = .int .i64 k ∧ k ≤ 8 * s.size ∧ x = .int .u32 (X.toNat : Int) ∧ (X = crcBits s.data.toList k ∧ True)) (fun _ c => (8 * s.size - intOf c).toNat)
  case atStart => exact ⟨0, BitVec.allOnes 32, rfl, by omega, rfl, (crcBits_zero _).symm, trivial⟩
  case round =>
    obtain ⟨k, X, rfl, hk, rfl, hX⟩ := hrel
    have HX := Lib.hid hX.1
    clear hX
    have hx0 := X.isLt
    by_cases hlt : k < 8 * s.size
    · have hk8 : k / 8 < s.size := by omega
      have hnx := crcBits_next s.data.toList k (by rw [HL.out]; exact hlt)
      obtain ⟨c, hc⟩ : ∃ c, s[k / 8] = c := ⟨_, rfl⟩
      have hcd : s.data.toList.getD (k / 8) 0 = c := by rw [← hc]; simp [List.getD, hk8]; rfl
      rw [hcd, ← HX.out] at hnx
      have HN := Lib.hid hnx
      clear hnx hcd
      have e2 := and_shift c (k % 8)
      have e1 := and_one X
      have e3 := xor_lits (X.getLsbD 0) ((byte32 c >>> (k % 8)).getLsbD 0)
      rcases Bool.eq_false_or_eq_true (X.getLsbD 0 != (byte32 c >>> (k % 8)).getLsbD 0) with hb | hb
      · rw [hb, if_pos (c := true = true) rfl, ← e1, ← e2] at e3
        have e4 : bits .xor .u32 ((X.toNat : Int) / 2) 3988292384 = (((X >>> 1) ^^^ poly).toNat : Int) := by
          have e : (3988292384 : Int) = ((poly.toNat : Nat) : Int) := by decide
          rw [← half_nat, e, bits_xor32]
        have hb' := HN.out
        rw [hb, if_pos (c := true = true) rfl] at hb'
        obtain ⟨Y, hY⟩ : ∃ Y, X >>> 1 ^^^ poly = Y := ⟨_, rfl⟩
        rw [hY] at e4 hb'
        have HB := Lib.hid hb'
        clear e1 e2 hb hb' hY
        go_wp2_with fail
        go_round
        case rel => exact ⟨k + 1, Y, by go_num, by omega, rfl, HB.out.symm, trivial⟩
        case measure => simp [intOf]; omega
      · rw [hb, if_neg (c := false = true) Bool.false_ne_true, ← e1, ← e2] at e3
        have hb' := HN.out
        rw [hb, if_neg (c := false = true) Bool.false_ne_true, BitVec.xor_zero] at hb'
        have e4 : (X.toNat : Int) / 2 = (((X >>> 1).toNat : Nat) : Int) := (half_nat X).symm
        obtain ⟨Y, hY⟩ : ∃ Y, X >>> 1 = Y := ⟨_, rfl⟩
        rw [hY] at e4 hb'
        have HB := Lib.hid hb'
        clear e1 e2 hb hb' hY
        go_wp2_with fail
        go_round
        case rel => exact ⟨k + 1, Y, by go_num, by omega, intv e4, HB.out.symm, trivial⟩
        case measure => simp [intOf]; omega
    · have e1 := not_word' X
      obtain ⟨z, hz⟩ : ∃ z : Int, (((~~~X).toNat : Nat) : Int) = z := ⟨_, rfl⟩
      rw [hz] at e1
      have hfin : z = ((crcL s.data.toList).toNat : Int) := by
        have := HX.out
        rw [show k = 8 * s.data.toList.length from by have := HL.out; omega, crcBits_all] at this
        unfold crcL
        rw [← this, hz]
      have HF := Lib.hid hfin
      clear hfin hz
      go_wp2
      go_ret
      exact ⟨ret1 (intv HF.out), rfl⟩
end Go.Proofs.Ytlfljlhppigejaa
namespace Go.Proofs.Ytlfljlhppigejaa
open Go.RowKit


/-- What Take hands back. -/
def TakeEnd (l : List UInt8) (w : World) (e : Ending) (w' : World) : Prop :=
  e = .returned (.tuple #[.int .i64 ((takeL l).1 : Nat), .string (bstr (takeL l).2.1), errV (takeL l).2.2]) ∧ Below w.heap.size w w'
theorem TakeEnd.mk {l : List UInt8} {w w' : World} {r : Nat × List UInt8 × Nat} {a b c : Value} (h : takeL l = r) (h1 : a = .int .i64 (r.1 : Nat)) (h2 : b = .string (bstr r.2.1)) (h3 : c = errV r.2.2) (hb : Below w.heap.size w w') :
    TakeEnd l w (.returned (.tuple #[a, b, c])) w' := by
  unfold TakeEnd
  rw [h, h1, h2, h3]
  exact ⟨rfl, hb⟩

set_option maxHeartbeats 800000 in
theorem take_any (s : ByteArray) (hs : s.size ≤ 4611686018427387904) (w : World) : Calls Try.prog 33 #[.string s] w (TakeEnd s.data.toList w) := by
  go_enter Try.func33, Try.ntmps33
  go_wp2
  go_loop [5, 9] (fun x c => ∃ (k N : Nat), c = .int .i64 k ∧ k ≤ s.size ∧ k ≤ 9 ∧ x = .int .i64 N ∧ (N < 128 ^ k ∧ takeL s.data.toList = takeGo k N (s.data.toList.drop k))) (fun _ c => (s.size - intOf c).toNat)
  case atStart => exact ⟨0, 0, rfl, by omega, by omega, rfl, by decide, rfl⟩
  case round =>
    obtain ⟨k, N, rfl, hk, hk9, rfl, hX⟩ := hrel
    have HX := Lib.hid hX
    clear hX
    have hN : N < 9223372036854775808 := Nat.lt_of_lt_of_le HX.out.1 (pow128_le k hk9)
    by_cases hlt : k < s.size
    · have hdc := drop_cons s k hlt
      obtain ⟨c, hc⟩ : ∃ c, s[k] = c := ⟨_, rfl⟩
      rw [hc] at hdc
      have HD := Lib.hid (HX.out.2.trans (by rw [hdc]))
      clear hdc
      have hc8 := c.toNat_lt
      by_cases h9 : k = 9
      · subst h9
        go_wp2_with fail
        go_ret3
        exact TakeEnd.mk (HD.out.trans (takeGo_nine _ _ _)) rfl rfl rfl (Below.refl _ _)
      · have h9' : ((k : Int) == 9) = false := by simp; omega
        have HH := Lib.hid h9
        clear h9
        have HE := Lib.hid (take_or N k c (by have := HH.out; omega) HX.out.1)
        have hb := take_bound N (c.toNat % 128) k HX.out.1 (by omega)
        have HB := Lib.hid hb
        have hb2 : k + 1 ≤ 9 := by have := HH.out; omega
        clear hb
        by_cases hbig : 127 < c.toNat
        · go_wp2_with fail
          go_round
          case rel => exact ⟨k + 1, _, by go_num, by omega, hb2, intv HE.out, HB.out, HD.out.trans (takeGo_more _ _ _ _ HH.out hbig)⟩
          case measure => simp [intOf]; omega
        · by_cases hz : 0 < k
          · by_cases hz0 : c.toNat = 0
            · go_wp2_with fail
              go_ret3
              exact TakeEnd.mk (HD.out.trans (takeGo_form _ _ _ _ HH.out hz hz0)) rfl rfl rfl (Below.refl _ _)
            · have HZ := Lib.hid hz0
              have hz1 : ((c.toNat : Int) == 0) = false := by simp; omega
              clear hz0
              go_wp2_with fail
              go_quiet (fail)
              go_wp2_with fail
              go_ret3
              exact TakeEnd.mk (HD.out.trans (takeGo_last _ _ _ _ HH.out (by omega) (by have := HZ.out; omega))) (intv HE.out) (strv (extract_drop _ _)) rfl (below_drewN (Below.refl _ _) _)
          · go_wp2_with fail
            go_quiet (fail)
            go_wp2_with fail
            go_ret3
            exact TakeEnd.mk (HD.out.trans (takeGo_last _ _ _ _ HH.out (by omega) (by omega))) (intv HE.out) (strv (extract_drop _ _)) rfl (below_drewN (Below.refl _ _) _)
    · have hdn : s.data.toList.drop k = [] := List.drop_eq_nil_of_le (by simp; omega)
      have HD := Lib.hid (HX.out.2.trans (by rw [hdn, takeGo_nil]))
      clear hdn
      go_wp2_with fail
      go_ret3
      exact TakeEnd.mk HD.out rfl rfl rfl (Below.refl _ _)

/-- What Num hands back. -/
def NumEnd (n : Nat) (w : World) (e : Ending) (w' : World) : Prop := e = .returned (.tuple #[.string (bstr (numL n)), .nilIface]) ∧ Below w.heap.size w w'
theorem num_neg (n : Int) (hn : n < 0) (w : World) : Calls Try.prog 30 #[.int .i64 n] w fun e w' => e = .returned (.tuple #[.string ByteArray.empty, .iface 148 (.int .i64 1)]) ∧ Below w.heap.size w w' := by
  go_enter Try.func30, Try.ntmps30
  go_wp2
  go_ret2
  exact ⟨rfl, Below.refl _ _⟩
theorem Try.infoU8 : (Try.prog.info? 5).map (fun i => (i.zero, i.size, i.bytes)) = some (some (.int .u8 0), 1, 1) := by kernel_rfl

theorem ownBlock_base {w : World} {base : Nat} {e : TypeId} {size n : Nat} {v : Value} {xs : List Value} (h : w.ownsRow base e size v n xs) : ∀ k, v.ownBlock = some k → base ≤ k := by
  rcases h.2 with ⟨rfl, _⟩ | ⟨g, cap, cur, rfl, hg, _⟩
  · intro k hk; cases hk
  · intro k hk; cases hk; exact hg
/-- 'string(b)' of a row that the call owns. -/
theorem convert_own {P : Program} {w : World} {base src dst e : TypeId} {v : Value} {n : Nat} {l : List UInt8} (hs : P.underlying src = some (.slice e)) (he : P.underlying e = some (.int .u8)) (hd : P.underlying dst = some .string)
    (h : w.ownsRow base e 1 v n (l.map fun c => Value.int .u8 (c.toNat : Int))) (hne : l ≠ []) :
    (convert src dst v).run P w = .ok (.string (bstr l)) w := by
  have hlen : n = l.length := by have := h.1; simpa using this.symm
  subst hlen
  rcases h.2 with ⟨_, h0⟩ | ⟨g, cap, cur, rfl, hg, hh, hcap, hm, hsz, htk⟩
  · exact absurd (List.length_eq_zero_iff.1 h0) hne
  · refine run_convert_bytes_back w src dst e ⟨g, 0, none⟩ cap l hs he hd (fun j hj => ?_)
    have h1 : (cur.toList.take (l.length * 1))[j]? = some (.int .u8 (l[j].toNat : Int)) := by rw [htk]; simp [hj]
    rw [List.getElem?_take_of_lt (by omega)] at h1
    have h2 : w.cell? ⟨g, j, none⟩ = cur[j]? := by simp [World.cell?, hh]
    have h3 : (⟨g, 0, none⟩ : Addr).add j = ⟨g, j, none⟩ := by
      unfold Addr.add
      split
      · rename_i h; subst h; rfl
      · simp
    rw [h3, h2]
    simpa using h1
theorem ofNat_toNat8 (n : Nat) (h : n < 256) : (UInt8.ofNat n).toNat = n := by simp; omega

set_option maxHeartbeats 800000 in
set_option maxRecDepth 100000 in
theorem num_any (n : Nat) (hn : n < 9223372036854775808) (w : World) : Calls Try.prog 30 #[.int .i64 n] w (NumEnd n w) := by
  obtain ⟨i0, hi, hz0, hz1, hz2⟩ := info_parts Try.infoU8
  go_enter Try.func30, Try.ntmps30
  go_wp2
  go_loopw [0, 4] (fun m v wr => ∃ (M f : Nat) (xs : List UInt8), m = .int .i64 M ∧ M < 9223372036854775808 ∧ xs.length + f = 9 ∧ (M < 128 ^ f ∧ xs ++ numF f M = numL n ∧ Below w.heap.size w wr ∧
      wr.ownsRow w.heap.size 5 1 v xs.length (xs.map fun c => Value.int .u8 (c.toNat : Int)))) (fun m _ _ => (intOf m).toNat)
  case atStart => exact ⟨n, 9, [], rfl, hn, rfl, by simpa using hn, rfl, Below.refl _ _, World.ownsRow_nil _ _ _ _⟩
  case round =>
    obtain ⟨M, f, xs, rfl, hM, hf, hX⟩ := hrel
    have HX := Lib.hid hX
    have hbs := hX.2.2.1.size
    clear hX
    by_cases hbig : 127 < M
    · have f1 := and127 M hM
      have f2 := or128 M
      go_wp2_with (at_builtin; refine wpList_append_own _ rfl _ _ 113 rfl w.heap.size 5 i0 (.int .u8 0) 1 1 Try.underlying113 hi hz0 hz1 hz2 rfl (by decide) _ _ _ rfl (HX.out.2.2.2.alloc _) ⟨wr.heap.size, 0, none⟩ 1 1 [.int .u8 (↑M % 128 + 128)] rfl rfl ?c1 ?c2 ?c3 ?c4 ?c5 ?_)
      case c1 =>
        intro j u hj
        match j, hj with
        | 0, hj => simp at hj; subst hj; simp [Addr.add]
      case c2 => intro u hu; simp at hu; subst hu; rfl
      case c3 => unfold maxLen; omega
      case c4 => omega
      case c5 => simp; omega
      intro v' w1 hown' hgrow _
      have HO := Lib.hid hown'
      have HG := Lib.hid hgrow
      clear hown' hgrow f1 f2
      obtain ⟨g, rfl⟩ : ∃ g, f = g + 1 := ⟨f - 1, by
        rcases Nat.eq_zero_or_pos f with e | e
        · rw [e] at HX; have := HX.out.1; simp at this; omega
        · omega⟩
      have HN : Hid (xs ++ [UInt8.ofNat (M % 128 + 128)] ++ numF g (M / 128) = numL n ∧ M / 128 < 128 ^ g) := by
        refine ⟨?_, ?_⟩
        · rw [← HX.out.2.1, numF, if_neg (by omega)]; simp
        · have h1 := HX.out.1
          rw [Nat.pow_succ] at h1
          omega
      have HV : Hid (w1.ownsRow w.heap.size 5 1 v' (xs ++ [UInt8.ofNat (M % 128 + 128)]).length ((xs ++ [UInt8.ofNat (M % 128 + 128)]).map fun c => Value.int .u8 (c.toNat : Int))) := by
        have h1 := HO.out
        have h2 : ((UInt8.ofNat (M % 128 + 128)).toNat : Int) = (M : Int) % 128 + 128 := by rw [ofNat_toNat8 _ (by omega)]; omega
        show w1.ownsRow _ _ _ _ _ _
        rw [List.map_append, List.length_append, List.map_cons, h2]
        exact h1
      have HW : Hid (Below w.heap.size w w1) := (HX.out.2.2.1.alloc hbs _).grown HG.out (by simp; omega) (ownBlock_base HX.out.2.2.2)
      clear HO HG
      go_wp2_with fail
      go_roundw
      case rel => exact ⟨M / 128, g, _, intv (by omega), by omega, by simp; omega, HN.out.2, HN.out.1, HW.out, HV.out⟩
      case measure => simp [intOf]; omega
    · go_wp2_with (at_builtin; refine wpList_append_own _ rfl _ _ 113 rfl w.heap.size 5 i0 (.int .u8 0) 1 1 Try.underlying113 hi hz0 hz1 hz2 rfl (by decide) _ _ _ rfl (HX.out.2.2.2.alloc _) ⟨wr.heap.size, 0, none⟩ 1 1 [.int .u8 ↑M] rfl rfl ?d1 ?d2 ?d3 ?d4 ?d5 ?_)
      case d1 =>
        intro j u hj
        match j, hj with
        | 0, hj => simp at hj; subst hj; simp [Addr.add]
      case d2 => intro u hu; simp at hu; subst hu; rfl
      case d3 => unfold maxLen; omega
      case d4 => omega
      case d5 => simp; omega
      intro v' w1 hown' hgrow _
      have HW : Hid (Below w.heap.size w w1) := (HX.out.2.2.1.alloc hbs _).grown hgrow (by simp; omega) (ownBlock_base HX.out.2.2.2)
      have hnm : xs ++ [UInt8.ofNat M] = numL n := by
        rw [← HX.out.2.1]
        cases f with
        | zero => rw [numF]
        | succ g => rw [numF, if_pos (by omega)]
      have h2 : ((UInt8.ofNat M).toNat : Int) = (M : Int) := by rw [ofNat_toNat8 _ (by omega)]
      have hcv : (convert 113 9 v').run Try.prog w1 = .ok (.string (bstr (numL n))) w1 := by
        rw [← hnm]
        refine convert_own (n := xs.length + 1) (base := w.heap.size) Try.underlying113 Try.underlying5 Try.underlying9 ?_ (by simp)
        rw [List.map_append, List.map_cons, h2]
        exact hown'
      clear hown' hgrow h2 hnm
      go_wp2_with fail
      go_ret2
      exact ⟨rfl, HW.out⟩
end Go.Proofs.Ytlfljlhppigejaa
namespace Go.Proofs.Ytlfljlhppigejaa
open Go.RowKit

/-- 'string(b)' of a row of bytes that has just been made. -/
theorem convert_new (w : World) (S : Nat) (hS : S = w.heap.size) (l : List UInt8) (cs : Array Value) (n : Nat) (hn : n = l.length) (hc : cs.toList = l.map fun c => Value.int .u8 (c.toNat : Int)) :
    (convert 113 9 (.slice (some ⟨S, 0, none⟩) n n)).run Try.prog (w.alloc (.cells cs 5)) = .ok (.string (bstr l)) (w.alloc (.cells cs 5)) := by
  subst hn hS
  refine run_convert_bytes_back _ _ _ 5 ⟨w.heap.size, 0, none⟩ l.length l Try.underlying113 Try.underlying5 Try.underlying9 (fun j hj => ?_)
  have h3 : (⟨w.heap.size, 0, none⟩ : Addr).add j = ⟨w.heap.size, j, none⟩ := by
    unfold Addr.add
    split
    · rename_i h; subst h; rfl
    · simp
  rw [h3, World.cell?_alloc_new]
  have h4 : cs.toList[j]? = some (.int .u8 (l[j].toNat : Int)) := by rw [hc]; simp [hj]
  simpa using h4
theorem list_append (a b : ByteArray) : (a ++ b).data.toList = a.data.toList ++ b.data.toList := by simp [ByteArray.data_append]

set_option maxHeartbeats 800000 in
set_option maxRecDepth 100000 in
theorem frame_any (k : UInt8) (s : ByteArray) (hs : s.size ≤ 1000000) (w : World) : Calls Try.prog 37 #[.int .u8 (k.toNat : Int), .string s] w fun e w' => e = .returned (.string (bstr (frameL k s.data.toList))) ∧ Below w.heap.size w w' := by
  have c1 := convert_new w _ rfl [k] #[.int .u8 (k.toNat : Int)] 1 rfl rfl
  have z1 : (bstr [k]).size = 1 := bstr_size _
  obtain ⟨H, hH⟩ : ∃ H : ByteArray, { data := #[70, 89, 49] } ++ bstr [k] ++ s = H := ⟨_, rfl⟩
  have hHl : H.data.toList = headL k s.data.toList := by rw [← hH, list_append, list_append, bstr_list]; rfl
  have hHs : H.size = s.size + 4 := by
    have h1 : H.data.toList.length = s.data.toList.length + 4 := by rw [hHl]; simp [headL]
    simpa using h1
  have HL := Lib.hid hHl
  clear hHl
  go_enter Try.func37, Try.ntmps37
  go_wp2_with fail
  refine (sum_any H (by omega) _).mono ?_
  rintro e w1 ⟨rfl, rfl⟩
  clear c1 z1
  obtain ⟨x, hx⟩ : ∃ x, crcL H.data.toList = x := ⟨_, rfl⟩
  rw [hx]
  have HX := Lib.hid (show crcL (headL k s.data.toList) = x by rw [← HL.out]; exact hx)
  clear hx
  have hxl := x.isLt
  obtain ⟨z, hz⟩ : ∃ z, x.toNat = z := ⟨_, rfl⟩
  rw [hz] at hxl ⊢
  have HZ := Lib.hid hz
  clear hz
  have c2 := convert_new (w.alloc (.cells #[.int .u8 (k.toNat : Int)] 5)) (w.heap.size + 1) (by simp) (le4 x) #[.int .u8 ((z : Int) % 256), .int .u8 ((z : Int) / 256 % 256), .int .u8 ((z : Int) / 65536 % 256), .int .u8 ((z : Int) / 16777216)] 4 rfl (by
    have h1 := HZ.out
    simp only [le4, h1, List.map_cons, List.map_nil]
    rw [ofNat_toNat8 _ (by omega), ofNat_toNat8 _ (by omega), ofNat_toNat8 _ (by omega), ofNat_toNat8 _ (by omega), show z / 16777216 % 256 = z / 16777216 from by omega]
    rfl)
  have z2 : (bstr (le4 x)).size = 4 := bstr_size _
  have hfin : Hid (H ++ bstr (le4 x) = bstr (frameL k s.data.toList)) := by
    show _ = _
    rw [← bstr_of (H ++ bstr (le4 x)), list_append, bstr_list, HL.out]
    unfold frameL
    rw [HX.out]
  go_wp2_with fail
  go_ret
  exact ⟨ret1 (strv hfin.out), ((Below.refl _ _).alloc (Nat.le_refl _) _).alloc (by simp) _⟩
end Go.Proofs.Ytlfljlhppigejaa
namespace Go.Proofs.Ytlfljlhppigejaa
open Go.RowKit

/-- What Open hands back. -/
def OpenEnd (k : UInt8) (l : List UInt8) (w : World) (e : Ending) (w' : World) : Prop :=
  e = .returned (.tuple #[.string (bstr (openL k l).1), errV (openL k l).2]) ∧ Below w.heap.size w w'
theorem OpenEnd.mk {k : UInt8} {l : List UInt8} {w w' : World} {r : List UInt8 × Nat} {a b : Value} (h : openL k l = r) (h1 : a = .string (bstr r.1)) (h2 : b = errV r.2) (hb : Below w.heap.size w w') :
    OpenEnd k l w (.returned (.tuple #[a, b])) w' := by
  unfold OpenEnd
  rw [h, h1, h2]
  exact ⟨rfl, hb⟩
theorem head3 (s : ByteArray) (k : UInt8) (h8 : 8 ≤ s.size) : s.data.toList.take 4 = [70, 89, 49, k] ↔ (s.extract 0 3).toList = [70, 89, 49] ∧ s[3] = k := by
  have h1 : (s.extract 0 3).toList = s.data.toList.take 3 := by rw [Lib.toList_data, Lib.extract_data]; simp
  have h2 : s.data.toList.take 4 = s.data.toList.take 3 ++ [s[3]] := take_snoc s 3 (by omega)
  rw [h1, h2]
  constructor
  · intro h
    have h3 : s.data.toList.take 3 ++ [s[3]] = [70, 89, 49] ++ [k] := h
    have h4 := List.append_inj h3 (by simp; omega)
    exact ⟨h4.1, by simpa using h4.2⟩
  · rintro ⟨h3, h4⟩
    rw [h3, h4]
    simp
theorem body_list (s : ByteArray) (_h8 : 8 ≤ s.size) : (s.extract 4 (s.size - 4)).data.toList = (s.data.toList.drop 4).take (s.data.toList.length - 8) := by
  rw [Lib.extract_data]
  congr 1
theorem body_size (s : ByteArray) (h8 : 8 ≤ s.size) : (s.extract 4 (s.size - 4)).size = s.size - 8 := by
  have h := congrArg List.length (body_list s h8)
  simp only [List.length_take, List.length_drop] at h
  have e1 : (s.extract 4 (s.size - 4)).data.toList.length = (s.extract 4 (s.size - 4)).size := by simp only [Array.length_toList, ByteArray.size_data]
  have e2 : s.data.toList.length = s.size := by simp
  omega

set_option maxHeartbeats 800000 in
set_option maxRecDepth 100000 in
theorem open_any (k : UInt8) (s : ByteArray) (hs : s.size ≤ 900000) (w : World) : Calls Try.prog 39 #[.int .u8 (k.toNat : Int), .string s] w (OpenEnd k s.data.toList w) := by
  by_cases h8 : s.size < 8
  · have hr : Hid (openL k s.data.toList = ([], 4)) := by show _ = _; unfold openL; rw [if_pos (by simpa using h8)]
    go_enter Try.func39, Try.ntmps39
    go_wp2_with fail
    go_ret2
    exact OpenEnd.mk hr.out rfl rfl (Below.refl _ _)
  · have hh := head3 s k (by omega)
    by_cases ht : s.data.toList.take 4 = [70, 89, 49, k]
    · obtain ⟨e1, e2⟩ := hh.1 ht
      have e3 : ((s[3].toNat : Int) != (k.toNat : Int)) = false := by rw [e2]; simp
      have hbl := body_list s (by omega)
      have hbs := body_size s (by omega)
      have hr : Hid (openL k s.data.toList = if frameL k (s.extract 4 (s.size - 4)).data.toList ≠ s.data.toList then ([], 5) else ((s.extract 4 (s.size - 4)).data.toList, 0)) := by
        show _ = _
        have hlen : s.data.toList.length = s.size := by simp
        unfold openL
        rw [if_neg (by omega), if_neg (by simp [ht]), hbl]
      obtain ⟨B, hB⟩ : ∃ B, s.extract 4 (s.size - 4) = B := ⟨_, rfl⟩
      rw [hB] at hr hbs
      clear hh ht hbl e2
      by_cases hf : frameL k B.data.toList = s.data.toList
      · have hr2 : Hid (openL k s.data.toList = (B.data.toList, 0)) := by show _ = _; rw [hr.out, if_neg (by simp [hf])]
        have hf2 : Hid (bstr (frameL k B.data.toList) = s) := by show _ = _; rw [hf, bstr_of]
        clear hr hf
        go_enter Try.func39, Try.ntmps39
        go_wp2_with fail
        refine (frame_any k B (by omega) _).mono ?_
        rintro e w1 ⟨rfl, hb⟩
        rw [hf2.out]
        have HB := Lib.hid hB
        clear hB
        go_wp2_with fail
        go_ret2
        exact OpenEnd.mk hr2.out (strv (by rw [bstr_of]; exact HB.out)) rfl hb
      · have hr2 : Hid (openL k s.data.toList = ([], 5)) := by show _ = _; rw [hr.out, if_pos hf]
        have hf2 : ((bstr (frameL k B.data.toList)).toList == s.toList) = false := by
          rw [beq_eq_false_iff_ne, Lib.toList_data, Lib.toList_data, bstr_list]
          exact hf
        clear hr hf
        go_enter Try.func39, Try.ntmps39
        go_wp2_with fail
        refine (frame_any k B (by omega) _).mono ?_
        rintro e w1 ⟨rfl, hb⟩
        generalize bstr (frameL k B.data.toList) = F at *
        have hf3 : (!F.toList == s.toList) = true := by rw [hf2]; rfl
        clear hB
        go_wp2_with fail
        go_ret2
        exact OpenEnd.mk hr2.out rfl rfl hb
    · by_cases e1 : (s.extract 0 3).toList = [70, 89, 49]
      · have e2 : ((s[3].toNat : Int) != (k.toNat : Int)) = true := by
          have : ¬ s[3] = k := fun e => ht (hh.2 ⟨e1, e⟩)
          simp
          intro e
          exact this (UInt8.toNat_inj.1 (by omega))
        have hr2 : Hid (openL k s.data.toList = ([], 6)) := by
          have hlen : s.data.toList.length = s.size := by simp
          show _ = _
          unfold openL
          rw [if_neg (by omega), if_pos ht]
        clear hh ht
        go_enter Try.func39, Try.ntmps39
        go_wp2_with fail
        go_ret2
        exact OpenEnd.mk hr2.out rfl rfl (Below.refl _ _)
      · have hr2 : Hid (openL k s.data.toList = ([], 6)) := by
          have hlen : s.data.toList.length = s.size := by simp
          show _ = _
          unfold openL
          rw [if_neg (by omega), if_pos ht]
        clear hh ht
        go_enter Try.func39, Try.ntmps39
        go_wp2_with fail
        go_ret2
        exact OpenEnd.mk hr2.out rfl rfl (Below.refl _ _)

end Go.Proofs.Ytlfljlhppigejaa
namespace Go.Proofs.Ytlfljlhppigejaa
open Go.RowKit


set_option maxHeartbeats 800000 in
set_option maxRecDepth 100000 in
theorem refnum_any (n : Nat) (hn : n < 9223372036854775808) (w : World) : Calls Try.prog 32 #[.int .i64 n] w fun e w' => e = .returned (.string (bstr (numL n))) ∧ Below w.heap.size w w' := by
  obtain ⟨i0, hi, hz0, hz1, hz2⟩ := info_parts Try.infoU8
  go_enter Try.func32, Try.ntmps32
  go_wp2
  go_loopw [0, 3] (fun m v wr => ∃ (M f : Nat) (xs : List UInt8), m = .int .i64 M ∧ M < 9223372036854775808 ∧ xs.length + f = 9 ∧ (M < 128 ^ f ∧ xs ++ numF f M = numL n ∧ Below w.heap.size w wr ∧
      wr.ownsRow w.heap.size 5 1 v xs.length (xs.map fun c => Value.int .u8 (c.toNat : Int)))) (fun m _ _ => (intOf m).toNat)
  case atStart => exact ⟨n, 9, [], rfl, hn, rfl, by simpa using hn, rfl, Below.refl _ _, World.ownsRow_nil _ _ _ _⟩
  case round =>
    obtain ⟨M, f, xs, rfl, hM, hf, hX⟩ := hrel
    have HX := Lib.hid hX
    have hbs := hX.2.2.1.size
    clear hX
    by_cases hbig : 127 < M
    · have f1 := and127 M hM
      have f2 := or128 M
      go_wp2_with (at_builtin; refine wpList_append_own _ rfl _ _ 113 rfl w.heap.size 5 i0 (.int .u8 0) 1 1 Try.underlying113 hi hz0 hz1 hz2 rfl (by decide) _ _ _ rfl (HX.out.2.2.2.alloc _) ⟨wr.heap.size, 0, none⟩ 1 1 [.int .u8 (128 + ↑M % 128)] rfl rfl ?c1 ?c2 ?c3 ?c4 ?c5 ?_)
      case c1 =>
        intro j u hj
        match j, hj with
        | 0, hj => simp at hj; subst hj; simp [Addr.add]
      case c2 => intro u hu; simp at hu; subst hu; rfl
      case c3 => unfold maxLen; omega
      case c4 => omega
      case c5 => simp; omega
      intro v' w1 hown' hgrow _
      have HO := Lib.hid hown'
      have HG := Lib.hid hgrow
      clear hown' hgrow
      obtain ⟨g, rfl⟩ : ∃ g, f = g + 1 := ⟨f - 1, by
        rcases Nat.eq_zero_or_pos f with e | e
        · rw [e] at HX; have := HX.out.1; simp at this; omega
        · omega⟩
      have HN : Hid (xs ++ [UInt8.ofNat (M % 128 + 128)] ++ numF g (M / 128) = numL n ∧ M / 128 < 128 ^ g) := by
        refine ⟨?_, ?_⟩
        · rw [← HX.out.2.1, numF, if_neg (by omega)]; simp
        · have h1 := HX.out.1
          rw [Nat.pow_succ] at h1
          omega
      have HV : Hid (w1.ownsRow w.heap.size 5 1 v' (xs ++ [UInt8.ofNat (M % 128 + 128)]).length ((xs ++ [UInt8.ofNat (M % 128 + 128)]).map fun c => Value.int .u8 (c.toNat : Int))) := by
        have h1 := HO.out
        have h2 : ((UInt8.ofNat (M % 128 + 128)).toNat : Int) = 128 + (M : Int) % 128 := by rw [ofNat_toNat8 _ (by omega)]; omega
        show w1.ownsRow _ _ _ _ _ _
        rw [List.map_append, List.length_append, List.map_cons, h2]
        exact h1
      have HW : Hid (Below w.heap.size w w1) := (HX.out.2.2.1.alloc hbs _).grown HG.out (by simp; omega) (ownBlock_base HX.out.2.2.2)
      clear HO HG
      go_wp2_with fail
      go_roundw
      case rel => exact ⟨M / 128, g, _, intv (by omega), by omega, by simp; omega, HN.out.2, HN.out.1, HW.out, HV.out⟩
      case measure => simp [intOf]; omega
    · go_wp2_with (at_builtin; refine wpList_append_own _ rfl _ _ 113 rfl w.heap.size 5 i0 (.int .u8 0) 1 1 Try.underlying113 hi hz0 hz1 hz2 rfl (by decide) _ _ _ rfl (HX.out.2.2.2.alloc _) ⟨wr.heap.size, 0, none⟩ 1 1 [.int .u8 ↑M] rfl rfl ?d1 ?d2 ?d3 ?d4 ?d5 ?_)
      case d1 =>
        intro j u hj
        match j, hj with
        | 0, hj => simp at hj; subst hj; simp [Addr.add]
      case d2 => intro u hu; simp at hu; subst hu; rfl
      case d3 => unfold maxLen; omega
      case d4 => omega
      case d5 => simp; omega
      intro v' w1 hown' hgrow _
      have HW : Hid (Below w.heap.size w w1) := (HX.out.2.2.1.alloc hbs _).grown hgrow (by simp; omega) (ownBlock_base HX.out.2.2.2)
      have hnm : xs ++ [UInt8.ofNat M] = numL n := by
        rw [← HX.out.2.1]
        cases f with
        | zero => rw [numF]
        | succ g => rw [numF, if_pos (by omega)]
      have h2 : ((UInt8.ofNat M).toNat : Int) = (M : Int) := by rw [ofNat_toNat8 _ (by omega)]
      have hcv : (convert 113 9 v').run Try.prog w1 = .ok (.string (bstr (numL n))) w1 := by
        rw [← hnm]
        refine convert_own (n := xs.length + 1) (base := w.heap.size) Try.underlying113 Try.underlying5 Try.underlying9 ?_ (by simp)
        rw [List.map_append, List.map_cons, h2]
        exact hown'
      clear hown' hgrow h2 hnm
      go_wp2_with fail
      go_ret
      exact ⟨rfl, HW.out⟩

set_option maxHeartbeats 1600000 in
set_option maxRecDepth 100000 in
theorem framed_any (k : UInt8) (s : ByteArray) (hs : s.size ≤ 900000) (w : World) : Calls Try.prog 38 #[.int .u8 (k.toNat : Int), .string s] w fun e w' => e = .returned (.string (bstr (frameL k s.data.toList))) ∧ Below w.heap.size w w' := by
  have c1 := convert_new w _ rfl [k] #[.int .u8 (k.toNat : Int)] 1 rfl rfl
  have z1 : (bstr [k]).size = 1 := bstr_size _
  obtain ⟨H, hH⟩ : ∃ H : ByteArray, { data := #[70, 89, 49] } ++ bstr [k] ++ s = H := ⟨_, rfl⟩
  have hHl : H.data.toList = headL k s.data.toList := by rw [← hH, list_append, list_append, bstr_list]; rfl
  have hHs : H.size = s.size + 4 := by
    have h1 : H.data.toList.length = s.data.toList.length + 4 := by rw [hHl]; simp [headL]
    simpa using h1
  have HL := Lib.hid hHl
  clear hHl
  go_enter Try.func38, Try.ntmps38
  go_wp2_with fail
  refine (refsum_any H (by omega) _).mono ?_
  rintro e w1 ⟨rfl, rfl⟩
  clear c1 z1
  obtain ⟨x, hx⟩ : ∃ x, crcL H.data.toList = x := ⟨_, rfl⟩
  rw [hx]
  have HX := Lib.hid (show crcL (headL k s.data.toList) = x by rw [← HL.out]; exact hx)
  clear hx
  have hxl := x.isLt
  obtain ⟨z, hz⟩ : ∃ z, x.toNat = z := ⟨_, rfl⟩
  rw [hz] at hxl ⊢
  have HZ := Lib.hid hz
  clear hz
  have hb0 : Below w.heap.size w (w.alloc (.cells #[.int .u8 (k.toNat : Int)] 5)) := (Below.refl _ _).alloc (Nat.le_refl _) _
  go_wp2_with fail
  go_loopw [5, 6, 7] (fun a b c wr => ∃ (j X : Nat) (S : ByteArray), a = .string S ∧ b = .int .u32 X ∧ c = .int .i64 j ∧ j ≤ 4 ∧ X < 4294967296 ∧ S.size = s.size + 4 + j ∧ (X = z / 256 ^ j ∧ S.data.toList = headL k s.data.toList ++ (le4 x).take j ∧ Below w.heap.size w wr))
    (fun _ _ c _ => (4 - intOf c).toNat)
  case atStart => exact ⟨0, z, H, rfl, rfl, rfl, by omega, by omega, by omega, by simp, by rw [HL.out]; simp, hb0⟩
  case round =>
    clear hb0
    obtain ⟨j, X, S, rfl, rfl, rfl, hj, hX, hS, hr⟩ := hrel
    have HR := Lib.hid hr
    have hbs := hr.2.2.size
    have HS := Lib.hid hS
    have hSs : S.size ≤ 1000000 := by omega
    clear hr hS
    by_cases hlt : j < 4
    · have c1 := convert_new wr _ rfl [UInt8.ofNat (X % 256)] #[.int .u8 ((X : Int) % 256)] 1 rfl (by
        simp only [List.map_cons, List.map_nil]
        rw [ofNat_toNat8 _ (by omega)]
        rfl)
      have z1 : (bstr [UInt8.ofNat (X % 256)]).size = 1 := bstr_size _
      have hnx : Hid (X / 256 = z / 256 ^ (j + 1) ∧ (S ++ bstr [UInt8.ofNat (X % 256)]).data.toList = headL k s.data.toList ++ (le4 x).take (j + 1)) := by
        refine ⟨?_, ?_⟩
        · rw [HR.out.1, Nat.div_div_eq_div_mul, Nat.pow_succ]
        · rw [list_append, bstr_list, HR.out.2.1, List.append_assoc]
          congr 1
          have hz := HZ.out
          have hX := HR.out.1
          have hj4 : j = 0 ∨ j = 1 ∨ j = 2 ∨ j = 3 := by omega
          rcases hj4 with rfl | rfl | rfl | rfl <;> simp [le4, hz, hX]
      go_wp2_with fail
      go_roundw
      case rel => exact ⟨j + 1, X / 256, _, rfl, intv (by omega), by go_num, by omega, by omega, by rw [ByteArray.size_append, bstr_size]; have := HS.out; simp; omega, hnx.out.1, hnx.out.2, HR.out.2.2.alloc hbs _⟩
      case measure => simp [intOf]; omega
    · obtain rfl : j = 4 := by omega
      have hfin : Hid (S = bstr (frameL k s.data.toList)) := by
        show _ = _
        rw [← bstr_of S, HR.out.2.1]
        unfold frameL
        rw [HX.out]
        rfl
      go_wp2_with fail
      go_ret
      exact ⟨ret1 (strv hfin.out), HR.out.2.2⟩
theorem same_nil (f : Int) (w : World) : Calls Try.prog 31 #[.nilIface, .int .i64 f] w fun e w' => e = .returned (.bool (f == 0)) ∧ w = w' := by
  go_enter Try.func31, Try.ntmps31
  go_wp2_with fail
  go_ret
  exact ⟨rfl, rfl⟩
theorem assert_errno (n : Int) (w : World) : (Instr.typeAssert (.iface 148 (.int .i64 n)) 46 148 true).run Try.prog w = .ok (.tuple #[.int .i64 n, .bool true]) w := by kernel_rfl
set_option maxRecDepth 100000 in
theorem same_err (n f : Int) (hn : 0 < n) (w : World) : Calls Try.prog 31 #[.iface 148 (.int .i64 n), .int .i64 f] w fun e w' => e = .returned (.bool (n == f)) ∧ w = w' := by
  have ha := assert_errno n w
  go_enter Try.func31, Try.ntmps31
  go_wp2_with fail
  all_goals (go_ret; exact ⟨ret1 (boolv (by first | rfl | (simp; omega))), rfl⟩)
/-- An error held against its own number. -/
theorem same_any (n f : Nat) (w : World) : Calls Try.prog 31 #[errV n, .int .i64 f] w fun e w' => e = .returned (.bool (n == f)) ∧ w = w' := by
  by_cases h : n = 0
  · subst h
    rw [errV_zero]
    refine (same_nil f w).mono ?_
    rintro e w' ⟨rfl, rfl⟩
    exact ⟨ret1 (boolv (by rw [Bool.eq_iff_iff]; simp; omega)), rfl⟩
  · rw [errV_pos n h]
    refine (same_err n f (by omega) w).mono ?_
    rintro e w' ⟨rfl, rfl⟩
    exact ⟨ret1 (boolv (by rw [Bool.eq_iff_iff]; simp; omega)), rfl⟩
end Go.Proofs.Ytlfljlhppigejaa
