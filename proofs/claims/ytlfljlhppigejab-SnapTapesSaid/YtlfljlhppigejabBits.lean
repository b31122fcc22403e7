/-
  Bits of the model's integers as words of 32 bits. No program in sight.
-/
import Derived.Test.YtlfljlhppigejabPackPure
import Derived.WalkKit
import Derived.Laws.BitsLemmas
import Derived.Lib.EndianBits
import Derived.IntWalk
namespace Go.Proofs.Ytlfljlhppigejab
open Go
open Go.RowKit (wrap64)

theorem bits_u32 (op : BinOp) (a b r : BitVec 32) (h : bits op .u32 (a.toNat : Int) (b.toNat : Int) = IntKind.u32.wrap ((r.toNat : Nat) : Int)) : bits op .u32 (a.toNat : Int) (b.toNat : Int) = (r.toNat : Int) := by
  rw [h]
  have := r.isLt
  simp [IntKind.wrap, IntKind.bits, IntKind.signed]
  omega
theorem ofInt_nat (a : BitVec 32) : BitVec.ofInt 32 (a.toNat : Int) = a := by simp
theorem bits_xor32 (a b : BitVec 32) : bits .xor .u32 (a.toNat : Int) (b.toNat : Int) = ((a ^^^ b).toNat : Int) := by
  apply bits_u32
  show IntKind.u32.wrap (((BitVec.ofInt 32 (a.toNat : Int) ^^^ BitVec.ofInt 32 (b.toNat : Int) : BitVec 32).toNat : Nat) : Int) = _
  rw [ofInt_nat, ofInt_nat]
theorem bits_and32 (a b : BitVec 32) : bits .and .u32 (a.toNat : Int) (b.toNat : Int) = ((a &&& b).toNat : Int) := by
  apply bits_u32
  show IntKind.u32.wrap (((BitVec.ofInt 32 (a.toNat : Int) &&& BitVec.ofInt 32 (b.toNat : Int) : BitVec 32).toNat : Nat) : Int) = _
  rw [ofInt_nat, ofInt_nat]
/-- A byte as a word. -/
theorem byte32_nat (c : UInt8) : ((byte32 c).toNat : Int) = (c.toNat : Int) := by
  have := c.toNat_lt
  simp [byte32]
theorem xor_byte (X : BitVec 32) (c : UInt8) : bits .xor .u32 (X.toNat : Int) ((c.toNat : Int) % 4294967296) = ((X ^^^ byte32 c).toNat : Int) := by
  have h := c.toNat_lt
  have e : (c.toNat : Int) % 4294967296 = ((byte32 c).toNat : Int) := by rw [byte32_nat]; omega
  rw [e, bits_xor32]
theorem lsb_nat (X : BitVec 32) : X.getLsbD 0 = decide (X.toNat % 2 = 1) := by
  rw [BitVec.getLsbD]
  simp [Nat.testBit_zero]
theorem and_one (X : BitVec 32) : bits .and .u32 (X.toNat : Int) 1 = if X.getLsbD 0 then 1 else 0 := by
  have h : bits .and .u32 (X.toNat : Int) 1 = ((X &&& 1#32).toNat : Int) := bits_and32 X 1#32
  rw [h, lsb_nat, BitVec.toNat_and]
  have : X.toNat &&& (1#32).toNat = X.toNat % 2 := by simp
  rw [this]
  rcases Nat.mod_two_eq_zero_or_one X.toNat with e | e <;> simp [e]
theorem half_nat (X : BitVec 32) : ((X >>> 1).toNat : Int) = (X.toNat : Int) / 2 := by
  simp [Nat.shiftRight_eq_div_pow]
/-- One step of the sum where the word is odd. -/
theorem step_odd (X : BitVec 32) (h : X.getLsbD 0 = true) : bits .xor .u32 ((X.toNat : Int) / 2) 3988292384 = ((crcStep X).toNat : Int) := by
  have e : (3988292384 : Int) = ((poly.toNat : Nat) : Int) := by decide
  rw [← half_nat, e, bits_xor32]
  unfold crcStep
  rw [if_pos h]
theorem step_even (X : BitVec 32) (h : X.getLsbD 0 = false) : bits .xor .u32 ((X.toNat : Int) / 2) 0 = ((crcStep X).toNat : Int) := by
  have e : (0 : Int) = (((0#32).toNat : Nat) : Int) := by decide
  rw [← half_nat, e, bits_xor32]
  unfold crcStep
  rw [h]
  simp
theorem not_word (X : BitVec 32) : bits .xor .u32 IntKind.u32.max (X.toNat : Int) = ((~~~X).toNat : Int) := by
  have e : IntKind.u32.max = (((BitVec.allOnes 32).toNat : Nat) : Int) := by decide
  rw [e, bits_xor32]
  rw [BitVec.allOnes_xor]
theorem and_shift (c : UInt8) (j : Nat) : bits .and .u32 ((c.toNat : Int) / 2 ^ j % 4294967296) 1 = if (byte32 c >>> j).getLsbD 0 then 1 else 0 := by
  have h := c.toNat_lt
  have h1 : c.toNat / 2 ^ j ≤ c.toNat := Nat.div_le_self _ _
  have hb : (byte32 c >>> j).toNat = c.toNat / 2 ^ j := by
    rw [BitVec.toNat_ushiftRight, Nat.shiftRight_eq_div_pow]
    congr 1
    have := byte32_nat c
    omega
  have e : (c.toNat : Int) / 2 ^ j % 4294967296 = (((byte32 c >>> j).toNat : Nat) : Int) := by
    have e1 : ((c.toNat : Int) / 2 ^ j) = ((c.toNat / 2 ^ j : Nat) : Int) := by simp
    rw [e1, hb]
    generalize c.toNat / 2 ^ j = q at *
    omega
  rw [e, and_one]
theorem not_word' (X : BitVec 32) : bits .xor .u32 (X.toNat : Int) 4294967295 = ((~~~X).toNat : Int) := by
  have e : (4294967295 : Int) = (((BitVec.allOnes 32).toNat : Nat) : Int) := by decide
  rw [e, bits_xor32]
  rw [BitVec.xor_allOnes]
theorem xor_lits (a b : Bool) : bits .xor .u32 (if a then 1 else 0) (if b then 1 else 0) = if a != b then 1 else 0 := by
  cases a <;> cases b <;> decide
theorem wraps_i64 (n : Int) (h₀ : 0 ≤ n) (h₁ : n < 2 ^ 63) : IntKind.i64.wrap n = n := by rw [IntKind.wrap_i64]; omega
/-- What Take makes of one byte more. -/
theorem take_or (N k : Nat) (c : UInt8) (hk : k ≤ 8) (hN : N < 128 ^ k) :
    bits .or .i64 (N : Int) (wrap64 (wrap64 (bits .and .u8 (c.toNat : Int) 127) * 2 ^ (7 * k))) = ((N + (c.toNat % 128) * 128 ^ k : Nat) : Int) := by
  have hc := c.toNat_lt
  have h1 : bits .and .u8 (c.toNat : Int) 127 = (c.toNat : Int) % 128 := bits_mask .u8 8 (by decide) wraps_u8 7 (by decide) _ (by omega) (by omega)
  rw [h1]
  generalize c.toNat = d at *
  have h2 : wrap64 ((d : Int) % 128) = (d : Int) % 128 := IntWalk.wrap64_in _ ⟨by omega, by omega⟩
  rw [h2]
  have hk' : k = 0 ∨ k = 1 ∨ k = 2 ∨ k = 3 ∨ k = 4 ∨ k = 5 ∨ k = 6 ∨ k = 7 ∨ k = 8 := by omega
  rcases hk' with rfl | rfl | rfl | rfl | rfl | rfl | rfl | rfl | rfl
  all_goals
    simp only [Nat.reducePow, Nat.reduceMul, Int.reducePow, Int.mul_one, Nat.mul_one] at *
    rw [IntWalk.wrap64_in _ ⟨by omega, by omega⟩]
  · rw [bits_join_low .i64 63 (by decide) wraps_i64 0 _ _ (by omega) (by omega) (by omega) (by omega) (by omega) (by omega)]; omega
  · rw [bits_join_low .i64 63 (by decide) wraps_i64 7 _ _ (by omega) (by omega) (by omega) (by omega) (by omega) (by omega)]; omega
  · rw [bits_join_low .i64 63 (by decide) wraps_i64 14 _ _ (by omega) (by omega) (by omega) (by omega) (by omega) (by omega)]; omega
  · rw [bits_join_low .i64 63 (by decide) wraps_i64 21 _ _ (by omega) (by omega) (by omega) (by omega) (by omega) (by omega)]; omega
  · rw [bits_join_low .i64 63 (by decide) wraps_i64 28 _ _ (by omega) (by omega) (by omega) (by omega) (by omega) (by omega)]; omega
  · rw [bits_join_low .i64 63 (by decide) wraps_i64 35 _ _ (by omega) (by omega) (by omega) (by omega) (by omega) (by omega)]; omega
  · rw [bits_join_low .i64 63 (by decide) wraps_i64 42 _ _ (by omega) (by omega) (by omega) (by omega) (by omega) (by omega)]; omega
  · rw [bits_join_low .i64 63 (by decide) wraps_i64 49 _ _ (by omega) (by omega) (by omega) (by omega) (by omega) (by omega)]; omega
  · rw [bits_join_low .i64 63 (by decide) wraps_i64 56 _ _ (by omega) (by omega) (by omega) (by omega) (by omega) (by omega)]; omega
theorem and127 (M : Nat) (hM : M < 9223372036854775808) : bits .and .i64 (M : Int) 127 = (M : Int) % 128 :=
  bits_mask .i64 63 (by decide) wraps_i64 7 (by decide) _ (by omega) (by omega)
theorem or128 (M : Nat) : bits .or .i64 ((M : Int) % 128) 128 = (M : Int) % 128 + 128 :=
  bits_join_low .i64 63 (by decide) wraps_i64 7 _ _ (by omega) (by omega) (by omega) (by omega) (by omega) (by omega)
theorem reftake_or (N k W d : Nat) (hW : W = 128 ^ k) (hk : k ≤ 8) (hN : N < 128 ^ k) (hd : d < 128) : wrap64 ((N : Int) + wrap64 ((W : Int) * (d : Int))) = ((N + d * 128 ^ k : Nat) : Int) := by
  have h2 : N + d * 128 ^ k < 9223372036854775808 := Nat.lt_of_lt_of_le (take_bound N d k hN hd) (pow128_le (k + 1) (by omega))
  have e : (W : Int) * (d : Int) = ((d * 128 ^ k : Nat) : Int) := by rw [hW, Nat.mul_comm]; simp
  obtain ⟨q, hq⟩ : ∃ q, d * 128 ^ k = q := ⟨_, rfl⟩
  rw [hq] at h2 e
  rw [e, hq]
  clear e hq hN hW
  rw [IntWalk.wrap64_in (q : Int) ⟨by omega, by omega⟩, IntWalk.wrap64_in _ ⟨by omega, by omega⟩]
  omega
theorem bits_xor8 (a b : Nat) (ha : a < 256) (hb : b < 256) : bits .xor .u8 (a : Int) (b : Int) = ((a ^^^ b : Nat) : Int) := by
  have hx : a ^^^ b < 2 ^ 8 := Nat.xor_lt_two_pow (by omega) (by omega)
  show IntKind.u8.wrap (((BitVec.ofInt 8 (a : Int) ^^^ BitVec.ofInt 8 (b : Int) : BitVec 8).toNat : Nat) : Int) = _
  rw [BitVec.ofInt_natCast, BitVec.ofInt_natCast, BitVec.toNat_xor, BitVec.toNat_ofNat, BitVec.toNat_ofNat, Nat.mod_eq_of_lt (show a < 2 ^ 8 by omega), Nat.mod_eq_of_lt (show b < 2 ^ 8 by omega)]
  exact wraps_u8 _ (Int.natCast_nonneg _) (by exact_mod_cast hx)
/-- One bit of a byte turned. -/
theorem flip_bit (c : UInt8) (j : Nat) (hj : j < 8) : ∃ d : UInt8, bits .xor .u8 (c.toNat : Int) (2 ^ j % 256) = (d.toNat : Int) ∧ ∀ i, i ≠ j → d.toNat.testBit i = c.toNat.testBit i := by
  have hc := c.toNat_lt
  have hp : 2 ^ j ≤ 2 ^ 7 := Nat.pow_le_pow_right (by decide) (by omega)
  have hx : c.toNat ^^^ 2 ^ j < 2 ^ 8 := Nat.xor_lt_two_pow (by omega) (by omega)
  have e : ((2 : Int) ^ j % 256) = ((2 ^ j : Nat) : Int) := by
    have : ((2 : Int) ^ j) = ((2 ^ j : Nat) : Int) := by simp
    rw [this]
    obtain ⟨r, hr⟩ : ∃ r, 2 ^ j = r := ⟨_, rfl⟩
    rw [hr] at hp ⊢
    omega
  have hd : (UInt8.ofNat (c.toNat ^^^ 2 ^ j)).toNat = c.toNat ^^^ 2 ^ j := by
    generalize c.toNat ^^^ 2 ^ j = r at *
    simp
    omega
  refine ⟨UInt8.ofNat (c.toNat ^^^ 2 ^ j), ?_, ?_⟩
  · rw [e, bits_xor8 _ _ (by omega) (by omega), hd]
  · intro i hi
    rw [hd, Nat.testBit_xor, Nat.testBit_two_pow]
    have : decide (j = i) = false := by simp; omega
    rw [this]
    simp
end Go.Proofs.Ytlfljlhppigejab
