/-
  Plain facts for chapter 1: numbers as bytes, the sum, frames. No program in sight.
-/
namespace Go.Proofs.Ytlfljlhppigejaa

/-! ### The sum -/
def poly : BitVec 32 := 0xEDB88320#32
def crcStep (s : BitVec 32) : BitVec 32 := (s >>> 1) ^^^ (if s.getLsbD 0 then poly else 0#32)
def crcN : Nat → BitVec 32 → BitVec 32
  | 0, s => s
  | n + 1, s => crcN n (crcStep s)
def byte32 (c : UInt8) : BitVec 32 := BitVec.ofNat 32 c.toNat
def crcByte (s : BitVec 32) (c : UInt8) : BitVec 32 := crcN 8 (s ^^^ byte32 c)
def crcGo (l : List UInt8) (s : BitVec 32) : BitVec 32 := l.foldl crcByte s
def crcL (l : List UInt8) : BitVec 32 := ~~~ (crcGo l (BitVec.allOnes 32))

theorem crcN_succ (n : Nat) (s : BitVec 32) : crcN (n + 1) s = crcStep (crcN n s) := by
  induction n generalizing s with
  | zero => rfl
  | succ n ih => rw [crcN, ih (crcStep s)]; rfl
theorem crcGo_snoc (l : List UInt8) (c : UInt8) (s : BitVec 32) : crcGo (l ++ [c]) s = crcByte (crcGo l s) c := by simp [crcGo]
theorem crcGo_append (l m : List UInt8) (s : BitVec 32) : crcGo (l ++ m) s = crcGo m (crcGo l s) := by simp [crcGo]

/-- The state in the middle of a byte, bit by bit. -/
def crcMid (S c : BitVec 32) (j : Nat) : BitVec 32 := crcN j (S ^^^ c) ^^^ (c >>> j)
theorem crcMid_zero (S c : BitVec 32) : crcMid S c 0 = S := by simp [crcMid, crcN, BitVec.xor_assoc]
theorem crcMid_succ (S c : BitVec 32) (j : Nat) : crcMid S c (j + 1) = (crcMid S c j >>> 1) ^^^ (if (crcMid S c j).getLsbD 0 != (c >>> j).getLsbD 0 then poly else 0#32) := by
  unfold crcMid
  rw [crcN_succ]
  generalize crcN j (S ^^^ c) = x
  have h1 : ((x ^^^ c >>> j).getLsbD 0 != (c >>> j).getLsbD 0) = x.getLsbD 0 := by
    rw [BitVec.getLsbD_xor]
    cases x.getLsbD 0 <;> cases (c >>> j).getLsbD 0 <;> rfl
  rw [h1]
  unfold crcStep
  rw [BitVec.ushiftRight_xor_distrib, ← BitVec.shiftRight_add]
  generalize (if x.getLsbD 0 = true then poly else 0#32) = t
  rw [BitVec.xor_assoc, BitVec.xor_assoc, BitVec.xor_comm t]
theorem crcMid_eight (S : BitVec 32) (c : UInt8) : crcMid S (byte32 c) 8 = crcByte S c := by
  unfold crcMid crcByte
  have : byte32 c >>> 8 = 0#32 := by
    apply BitVec.eq_of_toNat_eq
    have h := c.toNat_lt
    simp [byte32, Nat.shiftRight_eq_div_pow]
    omega
  rw [this]
  simp

/-- The state behind k bits of a text. -/
def crcBits (l : List UInt8) (k : Nat) : BitVec 32 := crcMid (crcGo (l.take (k / 8)) (BitVec.allOnes 32)) (byte32 (l.getD (k / 8) 0)) (k % 8)
theorem crcBits_next (l : List UInt8) (k : Nat) (h : k < 8 * l.length) :
    crcBits l (k + 1) = (crcBits l k >>> 1) ^^^ (if (crcBits l k).getLsbD 0 != ((byte32 (l.getD (k / 8) 0)) >>> (k % 8)).getLsbD 0 then poly else 0#32) := by
  have h1 := crcMid_succ (crcGo (l.take (k / 8)) (BitVec.allOnes 32)) (byte32 (l.getD (k / 8) 0)) (k % 8)
  by_cases h8 : k % 8 = 7
  · have e1 : (k + 1) / 8 = k / 8 + 1 := by omega
    have e2 : (k + 1) % 8 = 0 := by omega
    have h3 : k / 8 < l.length := by omega
    have h2 : crcBits l (k + 1) = crcMid (crcGo (l.take (k / 8)) (BitVec.allOnes 32)) (byte32 (l.getD (k / 8) 0)) (k % 8 + 1) := by
      unfold crcBits
      rw [e1, e2, crcMid_zero, h8, crcMid_eight, List.take_succ_eq_append_getElem h3, crcGo_snoc]
      simp [List.getD, h3]
    rw [h2, h1]
    rfl
  · have e1 : (k + 1) / 8 = k / 8 := by omega
    have e2 : (k + 1) % 8 = k % 8 + 1 := by omega
    have h2 : crcBits l (k + 1) = crcMid (crcGo (l.take (k / 8)) (BitVec.allOnes 32)) (byte32 (l.getD (k / 8) 0)) (k % 8 + 1) := by
      unfold crcBits
      rw [e1, e2]
    rw [h2, h1]
    rfl
theorem crcBits_zero (l : List UInt8) : crcBits l 0 = BitVec.allOnes 32 := by
  show crcMid (crcGo [] _) _ 0 = _
  rw [crcMid_zero]; rfl
theorem crcBits_all (l : List UInt8) : crcBits l (8 * l.length) = crcGo l (BitVec.allOnes 32) := by
  unfold crcBits
  rw [show 8 * l.length / 8 = l.length from by omega, show 8 * l.length % 8 = 0 from by omega, crcMid_zero]
  simp

/-! ### Numbers -/
def numF : Nat → Nat → List UInt8
  | 0, n => [UInt8.ofNat n]
  | f + 1, n => if n < 128 then [UInt8.ofNat n] else UInt8.ofNat (n % 128 + 128) :: numF f (n / 128)
/-- A number as bytes. -/
def numL (n : Nat) : List UInt8 := numF 9 n

/-- A number off bytes: it, what is left, the error's number. -/
def takeGo : Nat → Nat → List UInt8 → Nat × List UInt8 × Nat
  | _, _, [] => (0, [], 4)
  | i, n, c :: r =>
    if i = 9 then (0, [], 1)
    else if 127 < c.toNat then takeGo (i + 1) (n + (c.toNat - 128) * 128 ^ i) r
    else if 0 < i ∧ c.toNat = 0 then (0, [], 7)
    else (n + c.toNat * 128 ^ i, r, 0)
def takeL (l : List UInt8) : Nat × List UInt8 × Nat := takeGo 0 0 l

theorem take_bound (N c k : Nat) (hN : N < 128 ^ k) (hc : c < 128) : N + c * 128 ^ k < 128 ^ (k + 1) := by
  have h1 : (c + 1) * 128 ^ k ≤ 128 * 128 ^ k := Nat.mul_le_mul_right _ (by omega)
  have h2 : (c + 1) * 128 ^ k = c * 128 ^ k + 128 ^ k := Nat.succ_mul _ _
  have h3 : 128 ^ (k + 1) = 128 * 128 ^ k := by rw [Nat.pow_succ, Nat.mul_comm]
  omega
theorem pow128_le (k : Nat) (h : k ≤ 9) : 128 ^ k ≤ 9223372036854775808 := by
  have : 128 ^ k ≤ 128 ^ 9 := Nat.pow_le_pow_right (by decide) h
  simpa using this
theorem takeGo_nil (i n : Nat) : takeGo i n [] = (0, [], 4) := by rw [takeGo]
theorem takeGo_nine (n : Nat) (c : UInt8) (r : List UInt8) : takeGo 9 n (c :: r) = (0, [], 1) := by rw [takeGo]; simp
theorem takeGo_more (i n : Nat) (c : UInt8) (r : List UInt8) (hi : i ≠ 9) (hc : 127 < c.toNat) : takeGo i n (c :: r) = takeGo (i + 1) (n + (c.toNat % 128) * 128 ^ i) r := by
  have h := c.toNat_lt
  rw [takeGo, if_neg hi, if_pos hc, show c.toNat - 128 = c.toNat % 128 from by omega]
theorem takeGo_form (i n : Nat) (c : UInt8) (r : List UInt8) (hi : i ≠ 9) (h0 : 0 < i) (hc : c.toNat = 0) : takeGo i n (c :: r) = (0, [], 7) := by
  rw [takeGo, if_neg hi, if_neg (by omega), if_pos ⟨h0, hc⟩]
theorem takeGo_last (i n : Nat) (c : UInt8) (r : List UInt8) (hi : i ≠ 9) (hc : c.toNat ≤ 127) (hz : ¬ (0 < i ∧ c.toNat = 0)) : takeGo i n (c :: r) = (n + (c.toNat % 128) * 128 ^ i, r, 0) := by
  rw [takeGo, if_neg hi, if_neg (by omega), if_neg hz, show c.toNat % 128 = c.toNat from by omega]

/-! ### Frames -/
def le4 (x : BitVec 32) : List UInt8 := [UInt8.ofNat (x.toNat % 256), UInt8.ofNat (x.toNat / 256 % 256), UInt8.ofNat (x.toNat / 65536 % 256), UInt8.ofNat (x.toNat / 16777216 % 256)]
def headL (k : UInt8) (body : List UInt8) : List UInt8 := [70, 89, 49, k] ++ body
def frameL (k : UInt8) (body : List UInt8) : List UInt8 := headL k body ++ le4 (crcL (headL k body))
/-- A frame's body, the error's number. -/
def openL (k : UInt8) (s : List UInt8) : List UInt8 × Nat :=
  if s.length < 8 then ([], 4)
  else if s.take 4 ≠ [70, 89, 49, k] then ([], 6)
  else if frameL k ((s.drop 4).take (s.length - 8)) ≠ s then ([], 5)
  else ((s.drop 4).take (s.length - 8), 0)

theorem frameL_length (k : UInt8) (b : List UInt8) : (frameL k b).length = b.length + 8 := by simp [frameL, headL, le4]
theorem openL_frame (k : UInt8) (b : List UInt8) : openL k (frameL k b) = (b, 0) := by
  have h1 := frameL_length k b
  have h2 : (frameL k b).take 4 = [70, 89, 49, k] := by simp [frameL, headL]
  have h3 : ((frameL k b).drop 4).take ((frameL k b).length - 8) = b := by
    rw [h1]
    simp [frameL, headL]
  unfold openL
  rw [if_neg (by omega), h2, h3]
  simp
end Go.Proofs.Ytlfljlhppigejaa
