/-
  Plain facts for chapter 1: a frame in which bits within 32 are turned is no frame; what is taken is what was written. No program in sight.
-/
import Derived.Test.YtlfljlhppigejaaWirePure
namespace Go.Proofs.Ytlfljlhppigejaa

/-! ### Steps are linear, and lose nothing -/
theorem crcStep_xor (a b : BitVec 32) : crcStep (a ^^^ b) = crcStep a ^^^ crcStep b := by
  unfold crcStep
  rw [BitVec.ushiftRight_xor_distrib, BitVec.getLsbD_xor]
  have h : ∀ p q r t : BitVec 32, (p ^^^ q) ^^^ (r ^^^ t) = (p ^^^ r) ^^^ (q ^^^ t) := by
    intro p q r t
    apply BitVec.eq_of_getLsbD_eq
    intro i _
    simp only [BitVec.getLsbD_xor]
    cases p.getLsbD i <;> cases q.getLsbD i <;> cases r.getLsbD i <;> cases t.getLsbD i <;> rfl
  rw [h]
  congr 1
  cases a.getLsbD 0 <;> cases b.getLsbD 0 <;> simp
theorem crcN_xor (n : Nat) (a b : BitVec 32) : crcN n (a ^^^ b) = crcN n a ^^^ crcN n b := by
  induction n generalizing a b with
  | zero => rfl
  | succ n ih => rw [crcN, crcStep_xor, ih]; rfl
theorem crcStep_ne (a : BitVec 32) (h : a ≠ 0#32) : crcStep a ≠ 0#32 := by
  intro e
  apply h
  unfold crcStep at e
  by_cases hb : a.getLsbD 0 = true
  · rw [if_pos hb] at e
    have h1 := congrArg (fun x => x.getLsbD 31) e
    simp [poly] at h1
  · rw [if_neg hb, BitVec.xor_zero] at e
    apply BitVec.eq_of_getLsbD_eq
    intro i hi
    cases i with
    | zero => simpa using hb
    | succ i =>
      have h1 := congrArg (fun x => x.getLsbD i) e
      simp at h1
      simpa [Nat.add_comm] using h1
theorem crcN_ne (n : Nat) (a : BitVec 32) (h : a ≠ 0#32) : crcN n a ≠ 0#32 := by
  induction n generalizing a with
  | zero => exact h
  | succ n ih => exact ih _ (crcStep_ne a h)
theorem crcN_zero (n : Nat) : crcN n 0#32 = 0#32 := by
  induction n with
  | zero => rfl
  | succ n ih => rw [crcN, show crcStep 0#32 = 0#32 from by decide, ih]
theorem crcN_add (m n : Nat) (a : BitVec 32) : crcN (m + n) a = crcN n (crcN m a) := by
  induction m generalizing a with
  | zero => simp [crcN]
  | succ m ih => rw [show m + 1 + n = (m + n) + 1 from by omega, crcN, ih]; rfl

/-! ### Bit by bit -/
def bitStep (s : BitVec 32) (b : Bool) : BitVec 32 := (s >>> 1) ^^^ (if s.getLsbD 0 != b then poly else 0#32)
def bitGo (l : List Bool) (s : BitVec 32) : BitVec 32 := l.foldl bitStep s
def numB : List Bool → Nat
  | [] => 0
  | b :: l => (if b then 1 else 0) + 2 * numB l
theorem numB_lt (l : List Bool) : numB l < 2 ^ l.length := by
  induction l with
  | nil => simp [numB]
  | cons b l ih => simp only [numB, List.length_cons, Nat.pow_succ]; split <;> omega
theorem numB_append (a b : List Bool) : numB (a ++ b) = numB a + 2 ^ a.length * numB b := by
  induction a with
  | nil => simp [numB]
  | cons x a ih =>
    simp only [List.cons_append, numB, ih, List.length_cons, Nat.pow_succ]
    rw [show 2 ^ a.length * 2 * numB b = 2 * (2 ^ a.length * numB b) from by rw [Nat.mul_comm (2 ^ a.length) 2, Nat.mul_assoc]]
    omega
theorem numB_pos (l : List Bool) (h : true ∈ l) : numB l ≠ 0 := by
  induction l with
  | nil => simp at h
  | cons b l ih =>
    simp only [numB]
    rcases List.mem_cons.1 h with h | h
    · rw [if_pos h.symm]; omega
    · have := ih h; omega
theorem bitGo_append (a b : List Bool) (s : BitVec 32) : bitGo (a ++ b) s = bitGo b (bitGo a s) := by simp [bitGo]
theorem bitGo_crc (l : List Bool) (s : BitVec 32) (h : l.length ≤ 32) : bitGo l s = crcN l.length (s ^^^ BitVec.ofNat 32 (numB l)) := by
  induction l generalizing s with
  | nil => simp [bitGo, crcN, numB]
  | cons b l ih =>
    have h' : l.length + 1 ≤ 32 := by simpa using h
    have h1 := ih (bitStep s b) (by omega)
    have h2 : crcStep (s ^^^ BitVec.ofNat 32 (numB (b :: l))) = bitStep s b ^^^ BitVec.ofNat 32 (numB l) := by
      have hlt := numB_lt l
      have hp : 2 ^ l.length ≤ 2 ^ 31 := Nat.pow_le_pow_right (by decide) (by omega)
      unfold crcStep bitStep
      rw [BitVec.ushiftRight_xor_distrib, BitVec.getLsbD_xor]
      have e1 : BitVec.ofNat 32 (numB (b :: l)) >>> 1 = BitVec.ofNat 32 (numB l) := by
        apply BitVec.eq_of_toNat_eq
        simp only [numB, BitVec.toNat_ushiftRight, BitVec.toNat_ofNat, Nat.shiftRight_eq_div_pow]
        split <;> omega
      have e2 : (BitVec.ofNat 32 (numB (b :: l))).getLsbD 0 = b := by
        simp only [numB, BitVec.getLsbD_ofNat, Nat.testBit_zero]
        cases b <;> simp <;> omega
      rw [e1, e2]
      have e3 : (s.getLsbD 0 ^^ b) = (s.getLsbD 0 != b) := by cases s.getLsbD 0 <;> cases b <;> rfl
      rw [e3]
      generalize (if (s.getLsbD 0 != b) = true then poly else 0#32) = t
      rw [BitVec.xor_assoc, BitVec.xor_assoc, BitVec.xor_comm t]
    show bitGo l (bitStep s b) = _
    rw [h1, List.length_cons, crcN, h2]
def byteBits (c : UInt8) : List Bool := (List.range 8).map fun i => c.toNat.testBit i
def bitsL (l : List UInt8) : List Bool := l.flatMap byteBits
theorem byteBits_length (c : UInt8) : (byteBits c).length = 8 := by simp [byteBits]
theorem numB_byte (c : UInt8) : numB (byteBits c) = c.toNat := by
  have h := c.toNat_lt
  have e : byteBits c = [c.toNat.testBit 0, c.toNat.testBit 1, c.toNat.testBit 2, c.toNat.testBit 3, c.toNat.testBit 4, c.toNat.testBit 5, c.toNat.testBit 6, c.toNat.testBit 7] := rfl
  have t : ∀ i, (if c.toNat.testBit i = true then 1 else 0) = c.toNat / 2 ^ i % 2 := by
    intro i
    rw [Nat.testBit_eq_decide_div_mod_eq]
    generalize c.toNat / 2 ^ i = q
    simp only [decide_eq_true_eq]
    split <;> omega
  rw [e]
  simp only [numB, t]
  omega
theorem crcByte_bits (s : BitVec 32) (c : UInt8) : crcByte s c = bitGo (byteBits c) s := by
  rw [bitGo_crc _ _ (by rw [byteBits_length]; omega), byteBits_length, numB_byte]
  rfl
theorem crcGo_bits (l : List UInt8) (s : BitVec 32) : crcGo l s = bitGo (bitsL l) s := by
  induction l generalizing s with
  | nil => rfl
  | cons c l ih =>
    show crcGo l (crcByte s c) = bitGo (byteBits c ++ bitsL l) s
    rw [ih, bitGo_append, crcByte_bits]
theorem bitStep_xor (s t : BitVec 32) (a b : Bool) : bitStep (s ^^^ t) (a ^^ b) = bitStep s a ^^^ bitStep t b := by
  unfold bitStep
  rw [BitVec.ushiftRight_xor_distrib, BitVec.getLsbD_xor]
  have h : ∀ p q r t : BitVec 32, (p ^^^ q) ^^^ (r ^^^ t) = (p ^^^ r) ^^^ (q ^^^ t) := by
    intro p q r t
    apply BitVec.eq_of_getLsbD_eq
    intro i _
    simp only [BitVec.getLsbD_xor]
    cases p.getLsbD i <;> cases q.getLsbD i <;> cases r.getLsbD i <;> cases t.getLsbD i <;> rfl
  rw [h]
  congr 1
  cases s.getLsbD 0 <;> cases t.getLsbD 0 <;> cases a <;> cases b <;> simp
theorem bitGo_xor (a b : List Bool) (s t : BitVec 32) (h : a.length = b.length) : bitGo (List.zipWith (· ^^ ·) a b) (s ^^^ t) = bitGo a s ^^^ bitGo b t := by
  induction a generalizing b s t with
  | nil => cases b with
    | nil => rfl
    | cons _ _ => simp at h
  | cons x a ih => cases b with
    | nil => simp at h
    | cons y b =>
      show bitGo (List.zipWith (· ^^ ·) a b) (bitStep (s ^^^ t) (x ^^ y)) = bitGo a (bitStep s x) ^^^ bitGo b (bitStep t y)
      rw [bitStep_xor, ih b _ _ (by simpa using h)]
theorem bitGo_false (n : Nat) (s : BitVec 32) : bitGo (List.replicate n false) s = crcN n s := by
  induction n generalizing s with
  | zero => rfl
  | succ n ih =>
    show bitGo (List.replicate n false) (bitStep s false) = crcN n (crcStep s)
    rw [ih]
    congr 1
    unfold bitStep crcStep
    cases s.getLsbD 0 <;> rfl

/-- A burst of at most 32 bits is seen. -/
theorem burst_seen (W : List Bool) (m n : Nat) (hW : W.length ≤ 32) (ht : true ∈ W) : bitGo (List.replicate m false ++ (W ++ List.replicate n false)) 0#32 ≠ 0#32 := by
  rw [bitGo_append, bitGo_false, crcN_zero, bitGo_append, bitGo_false]
  apply crcN_ne
  rw [bitGo_crc W _ hW]
  apply crcN_ne
  rw [BitVec.zero_xor]
  intro e
  have h1 := congrArg BitVec.toNat e
  have h2 := numB_lt W
  have h3 : 2 ^ W.length ≤ 2 ^ 32 := Nat.pow_le_pow_right (by decide) hW
  have h4 := numB_pos W ht
  simp at h1
  omega

/-! ### Frames whose bits are turned -/
def bitAt (l : List UInt8) (k : Nat) : Bool := (l.getD (k / 8) 0).toNat.testBit (k % 8)
theorem bitsL_length (l : List UInt8) : (bitsL l).length = 8 * l.length := by
  induction l with
  | nil => rfl
  | cons c l ih => simp only [bitsL, List.flatMap_cons, List.length_append, byteBits_length, List.length_cons]; unfold bitsL at ih; omega
theorem bitsL_get (l : List UInt8) (k : Nat) (h : k < 8 * l.length) : (bitsL l)[k]? = some (bitAt l k) := by
  induction l generalizing k with
  | nil => simp at h
  | cons c l ih =>
    show (byteBits c ++ bitsL l)[k]? = _
    by_cases hk : k < 8
    · rw [List.getElem?_append_left (by rw [byteBits_length]; exact hk)]
      simp [byteBits, hk, bitAt, Nat.div_eq_of_lt hk, Nat.mod_eq_of_lt hk]
    · rw [List.getElem?_append_right (by rw [byteBits_length]; omega), byteBits_length, ih (k - 8) (by simp at h; omega)]
      congr 1
      unfold bitAt
      rw [show k / 8 = (k - 8) / 8 + 1 from by omega, show k % 8 = (k - 8) % 8 from by omega]
      simp
theorem byte_ext (a b : UInt8) (h : ∀ i, i < 8 → a.toNat.testBit i = b.toNat.testBit i) : a = b := by
  apply UInt8.toNat_inj.1
  apply Nat.eq_of_testBit_eq
  intro i
  by_cases hi : i < 8
  · exact h i hi
  · have h1 := a.toNat_lt
    have h2 := b.toNat_lt
    have hp : 2 ^ 8 ≤ 2 ^ i := Nat.pow_le_pow_right (by decide) (by omega)
    rw [Nat.testBit_lt_two_pow (by omega), Nat.testBit_lt_two_pow (by omega)]
theorem list_bits_ext (a b : List UInt8) (hl : a.length = b.length) (h : ∀ k, k < 8 * a.length → bitAt a k = bitAt b k) : a = b := by
  apply List.ext_getElem hl
  intro i h1 h2
  apply byte_ext
  intro j hj
  have := h (8 * i + j) (by omega)
  unfold bitAt at this
  rw [show (8 * i + j) / 8 = i from by omega, show (8 * i + j) % 8 = j from by omega] at this
  simpa [List.getD, h1, h2] using this

theorem le4_num (x : BitVec 32) : numB (bitsL (le4 x)) = x.toNat := by
  have h := x.isLt
  have e : bitsL (le4 x) = byteBits (UInt8.ofNat (x.toNat % 256)) ++ (byteBits (UInt8.ofNat (x.toNat / 256 % 256)) ++ (byteBits (UInt8.ofNat (x.toNat / 65536 % 256)) ++ (byteBits (UInt8.ofNat (x.toNat / 16777216 % 256)) ++ []))) := rfl
  rw [e]
  simp only [numB_append, byteBits_length, numB_byte, numB]
  simp
  omega
theorem crc_residue (l : List UInt8) : crcGo (l ++ le4 (crcL l)) (BitVec.allOnes 32) = crcN 32 (BitVec.allOnes 32) := by
  have hlen : (bitsL (le4 (crcL l))).length = 32 := by rw [bitsL_length]; rfl
  rw [crcGo_append, crcGo_bits (le4 _), bitGo_crc _ _ (by rw [hlen]; omega), hlen, le4_num]
  congr 1
  unfold crcL
  generalize crcGo l (BitVec.allOnes 32) = s
  rw [BitVec.ofNat_toNat, BitVec.setWidth_eq, ← BitVec.xor_allOnes, ← BitVec.xor_assoc, BitVec.xor_self, BitVec.zero_xor]
theorem openL_ok (k : UInt8) (l : List UInt8) (h : (openL k l).2 = 0) : l = frameL k (openL k l).1 := by
  unfold openL at h ⊢
  by_cases h1 : l.length < 8
  · rw [if_pos h1] at h; simp at h
  · rw [if_neg h1] at h ⊢
    by_cases h2 : l.take 4 ≠ [70, 89, 49, k]
    · rw [if_pos h2] at h; simp at h
    · rw [if_neg h2] at h ⊢
      by_cases h3 : frameL k ((l.drop 4).take (l.length - 8)) ≠ l
      · rw [if_pos h3] at h; simp at h
      · rw [if_neg h3]
        exact (Classical.not_not.1 h3).symm

/-- What opens as a frame, and parts from a frame within 32 bits alone, is that frame. -/
theorem burst_frame (k : UInt8) (b l : List UInt8) (at_ : Nat) (hl : l.length = (frameL k b).length) (ho : (openL k l).2 = 0)
    (hw : ∀ i, i < 8 * l.length → (i < at_ ∨ at_ + 32 ≤ i) → bitAt l i = bitAt (frameL k b) i) : l = frameL k b := by
  have r1 := crc_residue (headL k b)
  have r2 := crc_residue (headL k (openL k l).1)
  have hok := openL_ok k l ho
  have hf : headL k (openL k l).1 ++ le4 (crcL (headL k (openL k l).1)) = l := hok.symm
  have hg : headL k b ++ le4 (crcL (headL k b)) = frameL k b := rfl
  rw [hf] at r2
  rw [hg] at r1
  generalize frameL k b = f at *
  have hx : bitGo (List.zipWith (· ^^ ·) (bitsL l) (bitsL f)) 0#32 = 0#32 := by
    have h1 := bitGo_xor (bitsL l) (bitsL f) (BitVec.allOnes 32) (BitVec.allOnes 32) (by rw [bitsL_length, bitsL_length, hl])
    rw [BitVec.xor_self, ← crcGo_bits, ← crcGo_bits, r1, r2, BitVec.xor_self] at h1
    exact h1
  obtain ⟨Z, hZ⟩ : ∃ Z, List.zipWith (· ^^ ·) (bitsL l) (bitsL f) = Z := ⟨_, rfl⟩
  have hZl : Z.length = 8 * l.length := by rw [← hZ, List.length_zipWith, bitsL_length, bitsL_length, hl]; simp
  have hZg : ∀ i, i < 8 * l.length → Z[i]? = some (bitAt l i ^^ bitAt f i) := by
    intro i hi
    rw [← hZ, List.getElem?_zipWith, bitsL_get l i hi, bitsL_get f i (by rw [← hl]; exact hi)]
  rw [hZ] at hx
  apply list_bits_ext l f hl
  intro i hi
  rcases Classical.em (i < at_ ∨ at_ + 32 ≤ i) with h | h
  · exact hw i hi h
  · have h1 : at_ ≤ i ∧ i < at_ + 32 := by omega
    apply Classical.byContradiction
    intro hne
    have hsplit : Z = List.replicate at_ false ++ ((Z.drop at_).take 32 ++ List.replicate (8 * l.length - at_ - 32) false) := by
      apply List.ext_getElem?
      intro j
      by_cases hj : j < 8 * l.length
      · by_cases hj1 : j < at_
        · rw [List.getElem?_append_left (by simpa using hj1), hZg j hj, hw j hj (Or.inl hj1)]
          simp [hj1]
        · rw [List.getElem?_append_right (by simp; omega)]
          simp only [List.length_replicate]
          by_cases hj2 : j < at_ + 32
          · rw [List.getElem?_append_left (by simp; omega), List.getElem?_take_of_lt (by omega), List.getElem?_drop]
            congr 1
            omega
          · have htl : ((Z.drop at_).take 32).length = 32 := by rw [List.length_take, List.length_drop, hZl]; omega
            rw [List.getElem?_append_right (by omega), hZg j hj, hw j hj (Or.inr (by omega)), htl, List.getElem?_replicate, if_pos (by omega)]
            simp
      · rw [List.getElem?_eq_none (by omega), List.getElem?_eq_none]
        simp
        omega
    rw [hsplit] at hx
    refine burst_seen _ _ _ ?_ ?_ hx
    · simp; omega
    · rw [List.mem_iff_getElem?]
      refine ⟨i - at_, ?_⟩
      rw [List.getElem?_take_of_lt (by omega), List.getElem?_drop, show at_ + (i - at_) = i from by omega, hZg i hi]
      generalize bitAt l i = p at hne
      generalize bitAt f i = q at hne
      cases p <;> cases q <;> first | rfl | exact absurd rfl hne
end Go.Proofs.Ytlfljlhppigejaa
