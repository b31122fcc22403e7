/-
  Plain facts for chapter 2 (kinds, places). No program in sight.
-/
namespace Go.Proofs.Ytlfljlhppigejab

structure RuleR where
  cost : Int
  hp : Int
  speed : Int
  harm : Int
  range : Int
  load : Int

/-- The rule of a kind (n: in the newer game). -/
def ruleOf (n : Bool) (k : Int) : RuleR :=
  if k = 1 then ⟨5, 5, 1, 1, 1, 1⟩
  else if k = 2 then ⟨8, 8, 1, 2, 2, 0⟩
  else if k = 3 then ⟨15, 20, 0, 3, if n then 4 else 3, 0⟩
  else if k = 5 ∧ n = false then ⟨7, 6, 1, 0, 1, 2⟩
  else ⟨0, 0, 0, 0, 0, 0⟩
def isRule (n : Bool) (k : Int) : Bool := decide (1 ≤ k ∧ k ≤ 4 ∨ k = 5 ∧ n = false)

def onB (x y : Int) : Bool := decide (0 ≤ x ∧ x < 12 ∧ 0 ≤ y ∧ y < 12)
theorem onB_iff (x y : Int) : onB x y = true ↔ 0 ≤ x ∧ x < 12 ∧ 0 ≤ y ∧ y < 12 := by unfold onB; simp

def farI (a b : Int) : Int := if b < a then a - b else b - a
def far (x y tx ty : Int) : Int := if farI y ty < farI x tx then farI x tx else farI y ty
def near1 (a b : Int) : Int := if a < b then a + 1 else if b < a then a - 1 else a

theorem ruleOf_bd (n : Bool) (k : Int) : 0 ≤ (ruleOf n k).cost ∧ (ruleOf n k).cost ≤ 15 ∧ 0 ≤ (ruleOf n k).hp ∧ (ruleOf n k).hp ≤ 20 ∧ 0 ≤ (ruleOf n k).speed ∧ (ruleOf n k).speed ≤ 1 ∧
    0 ≤ (ruleOf n k).harm ∧ (ruleOf n k).harm ≤ 3 ∧ 0 ≤ (ruleOf n k).range ∧ (ruleOf n k).range ≤ 4 ∧ 0 ≤ (ruleOf n k).load ∧ (ruleOf n k).load ≤ 2 := by
  unfold ruleOf
  repeat' split
  all_goals (simp; try omega)
theorem ruleOf_hp (n : Bool) (k : Int) (h : isRule n k = true) (h4 : k ≠ 4) : 1 ≤ (ruleOf n k).hp := by
  unfold isRule at h
  unfold ruleOf
  cases n <;> simp at h ⊢
  all_goals
    repeat' split
    all_goals (simp; try omega)
theorem farI_nonneg (a b : Int) : 0 ≤ farI a b := by unfold farI; split <;> omega
theorem far_nonneg (x y tx ty : Int) : 0 ≤ far x y tx ty := by
  have := farI_nonneg x tx
  have := farI_nonneg y ty
  unfold far; split <;> omega
theorem near1_on (a b : Int) (h : 0 ≤ a ∧ a < 12) (h' : 0 ≤ b ∧ b < 12) : 0 ≤ near1 a b ∧ near1 a b < 12 := by
  unfold near1; split
  · omega
  · split <;> omega
theorem farI_le (a b : Int) (h : 0 ≤ a ∧ a < 12) (h' : 0 ≤ b ∧ b < 12) : farI a b ≤ 11 := by unfold farI; split <;> omega
theorem far_le (x y tx ty : Int) (hx : 0 ≤ x ∧ x < 12) (hy : 0 ≤ y ∧ y < 12) (htx : 0 ≤ tx ∧ tx < 12) (hty : 0 ≤ ty ∧ ty < 12) : far x y tx ty ≤ 11 := by
  have := farI_le x tx hx htx
  have := farI_le y ty hy hty
  unfold far; split <;> omega
theorem far_near1 (x y tx ty : Int) (h : 0 < far x y tx ty) : far (near1 x tx) (near1 y ty) tx ty = far x y tx ty - 1 := by
  unfold far farI near1 at *
  repeat' split at h
  all_goals (repeat' split)
  all_goals omega
theorem far_zero (x y tx ty : Int) : far x y tx ty = 0 ↔ x = tx ∧ y = ty := by
  unfold far farI
  repeat' split
  all_goals omega
end Go.Proofs.Ytlfljlhppigejab
