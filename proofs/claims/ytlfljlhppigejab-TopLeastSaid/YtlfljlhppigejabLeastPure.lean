/-
  Plain facts for chapter 8 (where two plays part): halving, and what the search leaves. No program in sight.
-/
namespace Go.Proofs.Ytlfljlhppigejab

/-- How often n can be halved, rounded up, till it is 1 (fuel first). -/
def halvesF : Nat → Nat → Nat
  | 0, _ => 0
  | f + 1, n => if 1 < n then halvesF f ((n + 1) / 2) + 1 else 0
def halves (n : Nat) : Nat := halvesF n n

theorem halvesF_fuel : ∀ (f g n : Nat), n ≤ f → n ≤ g → halvesF f n = halvesF g n := by
  intro f
  induction f with
  | zero => intro g n h1 _; obtain rfl : n = 0 := by omega
            cases g <;> simp [halvesF]
  | succ f ih =>
    intro g n h1 h2
    cases g with
    | zero => obtain rfl : n = 0 := by omega
              simp [halvesF]
    | succ g =>
      simp only [halvesF]
      by_cases h : 1 < n
      · rw [if_pos h, if_pos h, ih g _ (by omega) (by omega)]
      · rw [if_neg h, if_neg h]

theorem halves_step (n : Nat) (h : 1 < n) : halves n = halves ((n + 1) / 2) + 1 := by
  unfold halves
  obtain ⟨m, rfl⟩ : ∃ m, n = m + 1 := ⟨n - 1, by omega⟩
  rw [halvesF, if_pos h, halvesF_fuel m _ _ (by omega) (Nat.le_refl _)]
theorem halves_done (n : Nat) (h : n ≤ 1) : halves n = 0 := by
  unfold halves
  cases n with
  | zero => rfl
  | succ m => rw [halvesF, if_neg (by omega)]

theorem halvesF_mono : ∀ (f m n : Nat), m ≤ n → halvesF f m ≤ halvesF f n := by
  intro f
  induction f with
  | zero => intros; simp [halvesF]
  | succ f ih =>
    intro m n h
    simp only [halvesF]
    by_cases h1 : 1 < m
    · rw [if_pos h1, if_pos (by omega)]
      have := ih ((m + 1) / 2) ((n + 1) / 2) (by omega)
      omega
    · rw [if_neg h1]; omega
theorem halves_mono (m n : Nat) (h : m ≤ n) : halves m ≤ halves n := by
  have := halvesF_mono n m n h
  unfold halves
  rw [halvesF_fuel m n m (Nat.le_refl _) h]
  exact this
theorem halves_le (n : Nat) : halves n ≤ n := by
  have : ∀ f n, halvesF f n ≤ f := by
    intro f
    induction f with
    | zero => intro n; simp [halvesF]
    | succ f ih => intro n; simp only [halvesF]; split
                   · have := ih ((n + 1) / 2); omega
                   · omega
  exact this n n

/-- The first half is left. -/
theorem halves_left (lo hi : Nat) (h : lo < hi) : halves (lo + (hi - lo) / 2 - lo + 1) + 1 ≤ halves (hi - lo + 1) := by
  rw [halves_step (hi - lo + 1) (by omega)]
  have := halves_mono (lo + (hi - lo) / 2 - lo + 1) ((hi - lo + 1 + 1) / 2) (by omega)
  omega
/-- The second half is left. -/
theorem halves_right (lo hi : Nat) (h : lo < hi) : halves (hi - (lo + (hi - lo) / 2 + 1) + 1) + 1 ≤ halves (hi - lo + 1) := by
  rw [halves_step (hi - lo + 1) (by omega)]
  have := halves_mono (hi - (lo + (hi - lo) / 2 + 1) + 1) ((hi - lo + 1 + 1) / 2) (by omega)
  omega

/-- What the search hands back. -/
def FindPost (d : Nat → Bool) (n : Nat) (at_ asked : Nat) (found : Bool) : Prop :=
  (n = 0 → at_ = 0 ∧ asked = 0 ∧ found = false) ∧
  (0 < n → d (n - 1) = false → at_ = 0 ∧ asked = 1 ∧ found = false) ∧
  (0 < n → d (n - 1) = true → found = true ∧ at_ < n ∧ d at_ = true ∧ (0 < at_ → d (at_ - 1) = false) ∧ 1 ≤ asked ∧ asked ≤ halves n + 1)

/-- How far two lists are the same. -/
def samePre : List Int → List Int → Nat
  | a :: as, b :: bs => if a = b then samePre as bs + 1 else 0
  | _, _ => 0
theorem samePre_le (a b : List Int) : samePre a b ≤ a.length ∧ samePre a b ≤ b.length := by
  induction a generalizing b with
  | nil => simp [samePre]
  | cons x xs ih =>
    cases b with
    | nil => simp [samePre]
    | cons y ys => have := ih ys; simp only [samePre]; split <;> simp <;> omega
theorem samePre_eq (a b : List Int) (i : Nat) (h : i < samePre a b) : a.getD i 0 = b.getD i 0 := by
  induction a generalizing b i with
  | nil => simp [samePre] at h
  | cons x xs ih =>
    cases b with
    | nil => simp [samePre] at h
    | cons y ys =>
      simp only [samePre] at h
      split at h
      · rename_i e
        cases i with
        | zero => simpa using e
        | succ i => simpa using ih ys i (by omega)
      · omega
theorem samePre_ne (a b : List Int) (h1 : samePre a b < a.length) (h2 : samePre a b < b.length) : a.getD (samePre a b) 0 ≠ b.getD (samePre a b) 0 := by
  induction a generalizing b with
  | nil => simp at h1
  | cons x xs ih =>
    cases b with
    | nil => simp at h2
    | cons y ys =>
      by_cases e : x = y
      · simp only [samePre, if_pos e] at *
        simpa using ih ys (by simpa using h1) (by simpa using h2)
      · simp only [samePre, if_neg e]; simpa using e
theorem samePre_unique (a b : List Int) (k : Nat) (h0 : ∀ i, i < k → a.getD i 0 = b.getD i 0) (ha : k ≤ a.length) (hb : k ≤ b.length)
    (h1 : k < a.length → k < b.length → a.getD k 0 ≠ b.getD k 0) : samePre a b = k := by
  have hl := samePre_le a b
  rcases Nat.lt_trichotomy (samePre a b) k with h | h | h
  · exact absurd (h0 _ h) (samePre_ne a b (by omega) (by omega))
  · exact h
  · exact absurd (samePre_eq a b k h) (h1 (by omega) (by omega))
end Go.Proofs.Ytlfljlhppigejab
