/-
  Plain facts for chapter 1: what is taken is what was written. No program in sight.
-/
import Derived.Test.YtlfljlhppigejaaWirePure
namespace Go.Proofs.Ytlfljlhppigejaa

theorem ofNat_nat (c : Nat) (h : c < 256) : (UInt8.ofNat c).toNat = c := by simp; omega
theorem takeGo_num (f : Nat) : ∀ (k N M : Nat) (rest : List UInt8), k + f = 9 → M < 128 ^ f → (0 < k → 0 < M) → takeGo k N (numF f M ++ rest) = (N + M * 128 ^ k, rest, 0) := by
  induction f with
  | zero =>
    intro k N M rest hk hM hp
    simp at hM
    have := hp (by omega)
    omega
  | succ f ih =>
    intro k N M rest hk hM hp
    by_cases hb : M < 128
    · rw [numF, if_pos hb]
      show takeGo k N (UInt8.ofNat M :: rest) = _
      have h1 := ofNat_nat M (by omega)
      rw [takeGo_last _ _ _ _ (by omega) (by omega) (by rw [h1]; intro h; have := hp h.1; omega), h1, Nat.mod_eq_of_lt hb]
    · rw [numF, if_neg hb]
      show takeGo k N (UInt8.ofNat (M % 128 + 128) :: (numF f (M / 128) ++ rest)) = _
      have h1 := ofNat_nat (M % 128 + 128) (by omega)
      rw [takeGo_more _ _ _ _ (by omega) (by omega), h1, ih (k + 1) _ (M / 128) rest (by omega) (by rw [Nat.pow_succ] at hM; omega) (fun _ => by omega)]
      congr 1
      have e1 : (M % 128 + 128) % 128 = M % 128 := by omega
      rw [e1, Nat.pow_succ]
      have e2 : M / 128 * (128 ^ k * 128) = M / 128 * 128 * 128 ^ k := by rw [Nat.mul_comm (128 ^ k) 128, Nat.mul_assoc]
      rw [e2, Nat.add_assoc, ← Nat.add_mul]
      congr 2
      omega
theorem takeL_num (n : Nat) (rest : List UInt8) (h : n < 9223372036854775808) : takeL (numL n ++ rest) = (n, rest, 0) := by
  unfold takeL numL
  rw [takeGo_num 9 0 0 n rest rfl (by simpa using h) (fun h => absurd h (by omega))]
  simp

theorem takeGo_inv (f : Nat) : ∀ (k N y : Nat) (l left : List UInt8), k + f = 9 → takeGo k N l = (y, left, 0) → ∃ M, y = N + M * 128 ^ k ∧ l = numF f M ++ left ∧ M < 128 ^ f ∧ (0 < k → 0 < M) := by
  induction f with
  | zero =>
    intro k N y l left hk h
    obtain rfl : k = 9 := by omega
    cases l with
    | nil => rw [takeGo_nil] at h; simp at h
    | cons c r => rw [takeGo_nine] at h; simp at h
  | succ f ih =>
    intro k N y l left hk h
    cases l with
    | nil => rw [takeGo_nil] at h; simp at h
    | cons c r =>
      have hc := c.toNat_lt
      by_cases hb : 127 < c.toNat
      · rw [takeGo_more _ _ _ _ (by omega) hb] at h
        obtain ⟨M, h1, h2, h3, h4⟩ := ih (k + 1) _ y r left (by omega) h
        have h5 := h4 (by omega)
        refine ⟨c.toNat % 128 + 128 * M, ?_, ?_, ?_, fun _ => by omega⟩
        · rw [h1, Nat.pow_succ]
          have e2 : M * (128 ^ k * 128) = 128 * M * 128 ^ k := by rw [Nat.mul_comm (128 ^ k) 128, ← Nat.mul_assoc, Nat.mul_comm M 128]
          rw [e2, Nat.add_mul, Nat.add_assoc]
        · rw [numF, if_neg (by omega), show (c.toNat % 128 + 128 * M) / 128 = M from by omega, show (c.toNat % 128 + 128 * M) % 128 + 128 = c.toNat from by omega, h2]
          simp
        · rw [Nat.pow_succ]; omega
      · by_cases hz : 0 < k ∧ c.toNat = 0
        · rw [takeGo_form _ _ _ _ (by omega) hz.1 hz.2] at h; simp at h
        · rw [takeGo_last _ _ _ _ (by omega) (by omega) hz] at h
          simp only [Prod.mk.injEq, and_true] at h
          obtain ⟨h1, h2⟩ := h
          refine ⟨c.toNat, ?_, ?_, ?_, fun hk => by omega⟩
          · rw [← h1, Nat.mod_eq_of_lt (by omega)]
          · rw [numF, if_pos (by omega), h2]; simp
          · have : 128 ≤ 128 ^ (f + 1) := by rw [Nat.pow_succ]; have := Nat.one_le_two_pow (n := 7 * f); have h3 : 1 ≤ 128 ^ f := Nat.one_le_pow _ _ (by omega); omega
            omega
theorem takeL_inv (l left : List UInt8) (y : Nat) (h : takeL l = (y, left, 0)) : y < 9223372036854775808 ∧ numL y ++ left = l := by
  obtain ⟨M, h1, h2, h3, _⟩ := takeGo_inv 9 0 0 y l left rfl h
  have : y = M := by simpa using h1
  subst this
  exact ⟨by simpa using h3, h2.symm⟩
end Go.Proofs.Ytlfljlhppigejaa
