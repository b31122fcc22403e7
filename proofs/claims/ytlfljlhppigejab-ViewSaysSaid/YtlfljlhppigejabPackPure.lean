/-
  Plain facts for chapter 2 (kinds, places). No program in sight. Plain data of both games, and what the document's chapters 3 and 4 make of them. No program in sight. What a tick makes of a state (C3, D2), as plain functions. No program in sight. Plain laws on what is wrong with a state of the elder game, as its check goes over it. No program in sight. Plain laws on which IDs are free. No program in sight. What a state that is right is like, limb by limb; who has an ID. No program in sight. A state that is right stays so, whatever is commanded or ordered. No program in sight. A state that is right is right behind a tick. No program in sight. Who was there and who came, through a tick's commands and its end. No program in sight. The end of a tick, unit by unit: what the loops of move, work and bury hold. No program in sight. A state as it is read again, or as the document holds it: since is 0 in the elder game. No program in sight. Plain facts for chapter 1: numbers as bytes, the sum, frames. No program in sight.
-/
namespace Go.Proofs.Ytlfljlhppigejab

structure RuleR where
  cost : Int
  hp : Int
  speed : Int
  harm : Int
  range : Int
  load : Int

/-- The rule of a kind (n: in the newer game). -/
def ruleOf (n : Bool) (k : Int) : RuleR :=
  if k = 1 then ⟨5, 5, 1, 1, 1, 1⟩
  else if k = 2 then ⟨8, 8, 1, 2, 2, 0⟩
  else if k = 3 then ⟨15, 20, 0, 3, if n then 4 else 3, 0⟩
  else if k = 5 ∧ n = false then ⟨7, 6, 1, 0, 1, 2⟩
  else ⟨0, 0, 0, 0, 0, 0⟩
def isRule (n : Bool) (k : Int) : Bool := decide (1 ≤ k ∧ k ≤ 4 ∨ k = 5 ∧ n = false)

def onB (x y : Int) : Bool := decide (0 ≤ x ∧ x < 12 ∧ 0 ≤ y ∧ y < 12)
theorem onB_iff (x y : Int) : onB x y = true ↔ 0 ≤ x ∧ x < 12 ∧ 0 ≤ y ∧ y < 12 := by unfold onB; simp

def farI (a b : Int) : Int := if b < a then a - b else b - a
def far (x y tx ty : Int) : Int := if farI y ty < farI x tx then farI x tx else farI y ty
end Go.Proofs.Ytlfljlhppigejab
namespace Go.Proofs.Ytlfljlhppigejab

/-- One that is there (of the elder game: since is 0). -/
structure U where
  id : Int
  owner : Int
  kind : Int
  x : Int
  y : Int
  hp : Int
  does : Int
  gx : Int
  gy : Int
  target : Int
  since : Int
  deriving DecidableEq, Inhabited

/-- A state of either game. -/
structure G where
  new : Bool
  tick : Int
  g0 : Int
  g1 : Int
  next : Int
  free : List Int
  us : List U
  deriving DecidableEq

def zeroU : U := ⟨0, 0, 0, 0, 0, 0, 0, 0, 0, 0, 0⟩
/-- Every number fits a word of 64 bits. -/
def Fits64 (n : Int) : Prop := -9223372036854775808 ≤ n ∧ n < 9223372036854775808
def U.Fits (u : U) : Prop := Fits64 u.id ∧ Fits64 u.owner ∧ Fits64 u.kind ∧ Fits64 u.x ∧ Fits64 u.y ∧ Fits64 u.hp ∧ Fits64 u.does ∧ Fits64 u.gx ∧ Fits64 u.gy ∧ Fits64 u.target ∧ Fits64 u.since
def G.Fits (g : G) : Prop := Fits64 g.tick ∧ Fits64 g.g0 ∧ Fits64 g.g1 ∧ Fits64 g.next ∧ (∀ n ∈ g.free, Fits64 n) ∧ ∀ u ∈ g.us, u.Fits

/-! ### Bounds -/
def topOf (n : Bool) : Int := if n then 2000 else 200
def richOf (n : Bool) : Int := if n then 1000 else 40

/-- One by itself (C1, D1): the error's number. -/
def oneFault (n : Bool) (tick : Int) (u : U) : Nat :=
  if isRule n u.kind = false ∨ u.id < 1 ∨ topOf n < u.id ∨ onB u.x u.y = false ∨ u.hp < 1 ∨ (if u.kind = 4 then 100 else (ruleOf n u.kind).hp) < u.hp ∨ u.does < 0 ∨ 3 < u.does ∨ u.target < 0 ∨ topOf n < u.target ∨ (n = true ∧ (u.since < 0 ∨ tick < u.since)) then 1
  else if u.owner < 0 ∨ 2 < u.owner ∨ ¬ (u.owner = 2 ↔ u.kind = 4) then 3
  else if (u.does = 1 ∧ (onB u.gx u.gy = false ∨ (ruleOf n u.kind).speed = 0)) ∨ (¬ u.does = 1 ∧ (u.gx ≠ 0 ∨ u.gy ≠ 0)) ∨ ¬ (1 < u.does ↔ 0 < u.target) then 3
  else 0

/-- What one may do to another one (C2). -/
def mayDo (n : Bool) (u t : U) : Int :=
  if t.kind = 4 ∧ 0 < (ruleOf n u.kind).load then 3
  else if ¬ t.kind = 4 ∧ t.owner ≠ u.owner ∧ 0 < (ruleOf n u.kind).harm then 2
  else 0

/-- Where an ID stands. -/
def whoIx (us : List U) (id : Int) : Option Nat := us.findIdx? fun u => u.id == id
def standsAt (us : List U) (x y : Int) : Bool := us.any fun u => u.x == x && u.y == y

/-- Each by itself, its ID, its place, in order: the first error's number. -/
def eachFault (n : Bool) (tick next : Int) (before : List U) : List U → Nat
  | [] => 0
  | u :: rest =>
    if oneFault n tick u ≠ 0 then oneFault n tick u
    else if next ≤ u.id ∨ (∃ p, before.getLast? = some p ∧ u.id ≤ p.id) ∨ standsAt before u.x u.y = true then 3
    else eachFault n tick next (before ++ [u]) rest

/-- Where an ID stands, as the program says it: below 0: nowhere. -/
def ixOf (us : List U) (id : Int) : Int := match whoIx us id with | some i => (i : Int) | none => -1
/-- May it do what it does to its target? -/
def aimsOk (n : Bool) (us : List U) (u : U) : Bool :=
  decide (u.target = 0 ∨ (0 ≤ ixOf us u.target ∧ mayDo n u (us.getD (ixOf us u.target).toNat zeroU) = u.does))

/-- Free: just the IDs that nobody has, each once. -/
def freeOk (next : Int) (free : List Int) (us : List U) : Bool :=
  (List.range (next - 1).toNat).all (fun i => decide (free.count ((i : Int) + 1) + (if us.any (fun u => u.id == (i : Int) + 1) then 1 else 0) = 1)) && decide (((free.length + us.length : Nat) : Int) = next - 1)

/-- The error's number of a state (C1, D1). -/
def faultOf (g : G) : Nat :=
  if g.tick < 0 ∨ 60 < g.tick ∨ g.next < 1 ∨ topOf g.new + 1 < g.next ∨ g.g0 < 0 ∨ richOf g.new < g.g0 ∨ g.g1 < 0 ∨ richOf g.new < g.g1 then 1
  else if 20 < g.us.length ∨ 200 < g.free.length then 2
  else if eachFault g.new g.tick g.next [] g.us ≠ 0 then eachFault g.new g.tick g.next [] g.us
  else if g.us.all (aimsOk g.new g.us) = false then 3
  else if g.new = false ∧ freeOk g.next g.free g.us = false then 3
  else 0

/-! ### Lists by rising IDs -/
def sortedU (us : List U) : Prop := ∀ i j, i < j → j < us.length → (us.getD i zeroU).id < (us.getD j zeroU).id
theorem getD_lt {us : List U} {i : Nat} (h : i < us.length) : us.getD i zeroU = us[i] := by simp [List.getD, h]
theorem ixOf_none {us : List U} {id : Int} (h : ∀ k, k < us.length → (us.getD k zeroU).id ≠ id) : ixOf us id = -1 := by
  unfold ixOf whoIx
  have : us.findIdx? (fun u => u.id == id) = none := by
    rw [List.findIdx?_eq_none_iff]
    intro u hu
    obtain ⟨k, hk, rfl⟩ := List.mem_iff_getElem.1 hu
    have := h k hk
    rw [getD_lt hk] at this
    simpa using this
  rw [this]
theorem ixOf_hit {us : List U} {id : Int} {i : Nat} (hi : i < us.length) (he : (us.getD i zeroU).id = id) (hn : ∀ k, k < i → (us.getD k zeroU).id ≠ id) : ixOf us id = i := by
  unfold ixOf whoIx
  have : us.findIdx? (fun u => u.id == id) = some i := by
    rw [List.findIdx?_eq_some_iff_getElem]
    refine ⟨hi, by rw [getD_lt hi] at he; simpa using he, fun j hj => ?_⟩
    have := hn j hj
    rw [getD_lt (by omega)] at this
    simpa using this
  rw [this]
theorem ixOf_lt {us : List U} {id : Int} {i : Nat} (h : ixOf us id = i) : i < us.length ∧ (us.getD i zeroU).id = id := by
  unfold ixOf whoIx at h
  cases hf : us.findIdx? (fun u => u.id == id) with
  | none => rw [hf] at h; simp at h
  | some k =>
    rw [hf] at h
    have hk : k = i := by
      have h' : (k : Int) = (i : Int) := h
      omega
    subst hk
    obtain ⟨h1, h2, _⟩ := List.findIdx?_eq_some_iff_getElem.1 hf
    exact ⟨h1, by rw [getD_lt h1]; simpa using h2⟩
theorem ixOf_range (us : List U) (id : Int) : -1 ≤ ixOf us id ∧ ixOf us id < us.length := by
  cases hf : us.findIdx? (fun u => u.id == id) with
  | none => unfold ixOf whoIx; rw [hf]; simp; omega
  | some k =>
    obtain ⟨h1, _⟩ := List.findIdx?_eq_some_iff_getElem.1 hf
    unfold ixOf whoIx; rw [hf]; simp; omega
/-- What the binary search finds. -/
theorem ixOf_search {us : List U} {id : Int} {i : Nat} (hs : sortedU us) (hi : i ≤ us.length) (h1 : i < us.length → id ≤ (us.getD i zeroU).id) (h2 : 0 < i → (us.getD (i - 1) zeroU).id < id) :
    ixOf us id = if i < us.length ∧ (us.getD i zeroU).id = id then (i : Int) else -1 := by
  have hlo : ∀ k, k < i → (us.getD k zeroU).id ≠ id := by
    intro k hk
    have h3 := h2 (by omega)
    by_cases hki : k = i - 1
    · rw [hki]; omega
    · have := hs k (i - 1) (by omega) (by omega); omega
  by_cases hc : i < us.length ∧ (us.getD i zeroU).id = id
  · rw [if_pos hc]
    exact ixOf_hit hc.1 hc.2 hlo
  · rw [if_neg hc]
    apply ixOf_none
    intro k hk
    by_cases hki : k < i
    · exact hlo k hki
    · have h4 := h1 (by omega)
      by_cases hke : k = i
      · intro e; exact hc ⟨by omega, by rw [← hke]; exact e⟩
      · have h5 := hs i k (by omega) hk
        intro e
        have : ¬ (us.getD i zeroU).id = id := fun e2 => hc ⟨by omega, e2⟩
        omega
end Go.Proofs.Ytlfljlhppigejab
namespace Go.Proofs.Ytlfljlhppigejab

/-- A command, or an order (of which kind and target are one: arg). -/
structure Cm where
  player : Int
  op : Int
  id : Int
  kind : Int
  x : Int
  y : Int
  target : Int
  deriving DecidableEq, Inhabited
def zeroC : Cm := ⟨0, 0, 0, 0, 0, 0, 0⟩
def Cm.Fits (c : Cm) : Prop := Fits64 c.player ∧ Fits64 c.op ∧ Fits64 c.id ∧ Fits64 c.kind ∧ Fits64 c.x ∧ Fits64 c.y ∧ Fits64 c.target

def tellU (u : U) (does gx gy target : Int) : U := { u with does := does, gx := gx, gy := gy, target := target }

def goesF (n : Bool) (us : List U) (i : Nat) (x y : Int) : List U :=
  if onB x y = true ∧ 0 < (ruleOf n (us.getD i zeroU).kind).speed then us.set i (tellU (us.getD i zeroU) 1 x y 0) else us

def aimsF (n : Bool) (us : List U) (i : Nat) (target does : Int) : List U :=
  if 0 ≤ ixOf us target ∧ 0 < does ∧ mayDo n (us.getD i zeroU) (us.getD (ixOf us target).toNat zeroU) = does then us.set i (tellU (us.getD i zeroU) does 0 0 target) else us

def goldOf (g : G) (o : Int) : Int := if o = 0 then g.g0 else g.g1
def canBuild (g : G) (i : Nat) (kind x y : Int) : Prop :=
  isRule g.new kind = true ∧ kind ≠ 4 ∧ (g.us.getD i zeroU).kind = 1 ∧ onB x y = true ∧ standsAt g.us x y = false ∧ far (g.us.getD i zeroU).x (g.us.getD i zeroU).y x y ≤ 1 ∧
    (ruleOf g.new kind).cost ≤ goldOf g (g.us.getD i zeroU).owner ∧ g.us.length ≠ 20 ∧ (g.free ≠ [] ∨ g.next ≤ topOf g.new)
instance (g : G) (i : Nat) (kind x y : Int) : Decidable (canBuild g i kind x y) := by unfold canBuild; infer_instance
/-- A game while a tick goes on: with who came. -/
abbrev GB := G × List Int

def withUs (s : GB) (us : List U) : GB := ({ s.1 with us := us }, s.2)
end Go.Proofs.Ytlfljlhppigejab
namespace Go.Proofs.Ytlfljlhppigejab

theorem oneFault_old (t : Int) (u : U) : oneFault false t u = oneFault false 0 u := by simp [oneFault]

def headBad (g : G) : Prop := g.tick < 0 ∨ 60 < g.tick ∨ g.next < 1 ∨ topOf g.new + 1 < g.next ∨ g.g0 < 0 ∨ richOf g.new < g.g0 ∨ g.g1 < 0 ∨ richOf g.new < g.g1
theorem fault_head {g : G} (h : headBad g) : faultOf g = 1 := by
  unfold headBad at h; unfold faultOf; rw [if_pos h]
theorem head_old {g : G} (hn : g.new = false) : headBad g ↔ (g.tick < 0 ∨ 60 < g.tick ∨ g.next < 1 ∨ 201 < g.next ∨ g.g0 < 0 ∨ 40 < g.g0 ∨ g.g1 < 0 ∨ 40 < g.g1) := by
  unfold headBad topOf richOf; rw [hn]; rfl
theorem head_newer {g : G} (hn : g.new = true) : headBad g ↔ (g.tick < 0 ∨ 60 < g.tick ∨ g.next < 1 ∨ 2001 < g.next ∨ g.g0 < 0 ∨ 1000 < g.g0 ∨ g.g1 < 0 ∨ 1000 < g.g1) := by
  unfold headBad topOf richOf; rw [hn]; rfl
theorem fault_many {g : G} (h : ¬ headBad g) (hm : 20 < g.us.length ∨ 200 < g.free.length) : faultOf g = 2 := by
  unfold headBad at h; unfold faultOf; rw [if_neg h, if_pos hm]
theorem fault_rest {g : G} (h : ¬ headBad g) (hm : ¬ (20 < g.us.length ∨ 200 < g.free.length)) :
    faultOf g = if eachFault g.new g.tick g.next [] g.us ≠ 0 then eachFault g.new g.tick g.next [] g.us
      else if g.us.all (aimsOk g.new g.us) = false then 3
      else if g.new = false ∧ freeOk g.next g.free g.us = false then 3
      else 0 := by
  unfold headBad at h; unfold faultOf; rw [if_neg h, if_neg hm]

theorem fault_each {g : G} (h : ¬ headBad g) (hm : ¬ (20 < g.us.length ∨ 200 < g.free.length)) {f : Nat} (he : eachFault g.new g.tick g.next [] g.us = f) (hf : f ≠ 0) : faultOf g = f := by
  rw [fault_rest h hm, if_pos (by rw [he]; exact hf), he]
/-! ### Over the units -/
/-- What the check has found out, k units on. -/
def eachUpTo (n : Bool) (tick next : Int) (us : List U) (k : Nat) : Prop :=
  eachFault n tick next [] us = eachFault n tick next (us.take k) (us.drop k) ∧ sortedU (us.take k) ∧ ∀ j, j < k → oneFault n tick (us.getD j zeroU) = 0 ∧ (us.getD j zeroU).id < next
theorem eachUpTo_zero (n : Bool) (tick next : Int) (us : List U) : eachUpTo n tick next us 0 :=
  ⟨by simp, fun i j _ h => by simp at h, fun j h => absurd h (by omega)⟩
theorem drop_at {us : List U} {k : Nat} (hk : k < us.length) : us.drop k = us.getD k zeroU :: us.drop (k + 1) := by
  rw [List.drop_eq_getElem_cons hk, getD_lt hk]
theorem take_at {us : List U} {k : Nat} (hk : k < us.length) : us.take (k + 1) = us.take k ++ [us.getD k zeroU] := by
  rw [List.take_succ_eq_append_getElem hk, getD_lt hk]
theorem getD_take {us : List U} {k j : Nat} (h : j < k) : (us.take k).getD j zeroU = us.getD j zeroU := by
  simp [List.getD, h]
theorem last_take {us : List U} {k : Nat} (hk : k < us.length) (h0 : 0 < k) : (us.take k).getLast? = some (us.getD (k - 1) zeroU) := by
  rw [List.getLast?_eq_getElem?, List.length_take, Nat.min_eq_left (by omega), List.getElem?_take, if_pos (by omega), List.getElem?_eq_getElem (by omega), getD_lt (by omega)]
/-- One by itself is wrong. -/
theorem each_one {n : Bool} {tick next : Int} {us : List U} {k : Nat} (h : eachUpTo n tick next us k) (hk : k < us.length) {u : U} (hu : us.getD k zeroU = u) (hf : oneFault n tick u ≠ 0) : eachFault n tick next [] us = oneFault n tick u := by
  rw [h.1, drop_at hk, hu]
  simp only [eachFault]
  rw [if_pos hf]
/-- It is not shaped. -/
def misfit (next : Int) (us : List U) (k : Nat) (u : U) : Prop := next ≤ u.id ∨ (0 < k ∧ u.id ≤ (us.getD (k - 1) zeroU).id) ∨ standsAt (us.take k) u.x u.y = true
theorem misfit_iff {next : Int} {us : List U} {k : Nat} {u : U} (hk : k < us.length) : (next ≤ u.id ∨ (∃ p, (us.take k).getLast? = some p ∧ u.id ≤ p.id) ∨ standsAt (us.take k) u.x u.y = true) ↔ misfit next us k u := by
  unfold misfit
  by_cases h0 : 0 < k
  · rw [last_take hk h0]; simp [h0]
  · obtain rfl : k = 0 := by omega
    simp
theorem each_shape {n : Bool} {tick next : Int} {us : List U} {k : Nat} (h : eachUpTo n tick next us k) (hk : k < us.length) {u : U} (hu : us.getD k zeroU = u) (hf : oneFault n tick u = 0) (hm : misfit next us k u) : eachFault n tick next [] us = 3 := by
  rw [h.1, drop_at hk, hu]
  simp only [eachFault]
  rw [if_neg (by simp [hf]), if_pos ((misfit_iff hk).2 hm)]
theorem each_next {n : Bool} {tick next : Int} {us : List U} {k : Nat} (h : eachUpTo n tick next us k) (hk : k < us.length) {u : U} (hu : us.getD k zeroU = u) (hf : oneFault n tick u = 0) (hm : ¬ misfit next us k u) : eachUpTo n tick next us (k + 1) := by
  refine ⟨?_, ?_, ?_⟩
  · rw [h.1, drop_at hk, hu, take_at hk, hu]
    conv => lhs; simp only [eachFault]
    rw [if_neg (by simp [hf]), if_neg (fun x => hm ((misfit_iff hk).1 x))]
  · intro i j hij hj
    have hl : (us.take (k + 1)).length = k + 1 := by rw [List.length_take]; omega
    rw [hl] at hj
    rw [getD_take (by omega), getD_take (by omega)]
    have hs : ∀ i j, i < j → j < k → (us.getD i zeroU).id < (us.getD j zeroU).id := by
      intro a b hab hb
      have := h.2.1 a b hab (by rw [List.length_take]; omega)
      rw [getD_take (by omega), getD_take (by omega)] at this
      exact this
    by_cases hjk : j < k
    · exact hs i j hij hjk
    · obtain rfl : j = k := by omega
      have hlast : (us.getD (j - 1) zeroU).id < u.id := by
        have : ¬ (0 < j ∧ u.id ≤ (us.getD (j - 1) zeroU).id) := fun x => hm (Or.inr (Or.inl x))
        omega
      rw [hu]
      by_cases hi : i = j - 1
      · rw [hi]; exact hlast
      · have := hs i (j - 1) (by omega) (by omega); omega
  · intro j hj
    by_cases hjk : j < k
    · exact h.2.2 j hjk
    · obtain rfl : j = k := by omega
      rw [hu]
      have : ¬ next ≤ u.id := fun x => hm (Or.inl x)
      exact ⟨hf, by omega⟩
theorem each_all {n : Bool} {tick next : Int} {us : List U} {k : Nat} (h : eachUpTo n tick next us k) (hk : k = us.length) : eachFault n tick next [] us = 0 ∧ sortedU us ∧ ∀ j, j < us.length → oneFault n tick (us.getD j zeroU) = 0 ∧ (us.getD j zeroU).id < next := by
  subst hk
  obtain ⟨h1, h2, h3⟩ := h
  simp only [List.take_length, List.drop_length, eachFault] at h1 h2
  exact ⟨h1, h2, h3⟩

/-! ### Who is there -/
def hasId (us : List U) (id : Int) : Bool := us.any fun u => u.id == id
theorem hasId_snoc (us : List U) (u : U) (id : Int) : hasId (us ++ [u]) id = (hasId us id || u.id == id) := by simp [hasId]
theorem stands_snoc (us : List U) (u : U) (x y : Int) : standsAt (us ++ [u]) x y = (standsAt us x y || (u.x == x && u.y == y)) := by simp [standsAt]
theorem hasId_new {n : Bool} {tick next : Int} {us : List U} {k : Nat} (h : eachUpTo n tick next us (k + 1)) (hk : k < us.length) : hasId (us.take k) (us.getD k zeroU).id = false := by
  unfold hasId
  rw [List.any_eq_false]
  intro v hv
  obtain ⟨i, hi, rfl⟩ := List.mem_iff_getElem.1 hv
  rw [List.length_take] at hi
  have := h.2.1 i k (by omega) (by rw [List.length_take]; omega)
  rw [getD_take (by omega), getD_take (by omega)] at this
  rw [List.getElem_take, ← getD_lt (by omega)]
  simp only [beq_iff_eq]
  omega
end Go.Proofs.Ytlfljlhppigejab
namespace Go.Proofs.Ytlfljlhppigejab

/-- How often the numbers 1 to N come, all told. -/
def tally (L : List Int) : Nat → Nat
  | 0 => 0
  | N + 1 => tally L N + L.count ((N : Int) + 1)
theorem tally_nil (N : Nat) : tally [] N = 0 := by
  induction N with
  | zero => rfl
  | succ N ih => simp [tally, ih]
theorem tally_cons (x : Int) (L : List Int) (N : Nat) : tally (x :: L) N = tally L N + if 1 ≤ x ∧ x ≤ N then 1 else 0 := by
  induction N with
  | zero => simp only [tally]; rw [if_neg (by omega)]
  | succ N ih =>
    simp only [tally, ih, List.count_cons]
    by_cases h : x = (N : Int) + 1
    · rw [if_neg (by omega), if_pos (by simp [h]), if_pos (by omega)]; omega
    · by_cases h2 : 1 ≤ x ∧ x ≤ N
      · rw [if_pos h2, if_neg (by simp [h]), if_pos (by omega)]; omega
      · rw [if_neg h2, if_neg (by simp [h]), if_neg (by omega)]; omega
theorem tally_le (L : List Int) (N : Nat) : tally L N ≤ L.length := by
  induction L with
  | nil => simp [tally_nil]
  | cons x L ih => rw [tally_cons, List.length_cons]; split <;> omega
theorem tally_in (L : List Int) (N : Nat) (h : ∀ x ∈ L, 1 ≤ x ∧ x ≤ N) : tally L N = L.length := by
  induction L with
  | nil => simp [tally_nil]
  | cons x L ih => rw [tally_cons, if_pos (h x (by simp)), ih (fun y hy => h y (by simp [hy])), List.length_cons]
theorem tally_out (L : List Int) (N : Nat) (x : Int) (hx : x ∈ L) (h : ¬ (1 ≤ x ∧ x ≤ N)) : tally L N < L.length := by
  induction L with
  | nil => cases hx
  | cons y L ih =>
    rw [tally_cons, List.length_cons]
    rcases List.mem_cons.1 hx with e | e
    · subst e; rw [if_neg h]; have := tally_le L N; omega
    · have := ih e; split <;> omega
theorem tally_ones (L : List Int) (N : Nat) (h : ∀ i, i < N → L.count ((i : Int) + 1) = 1) : tally L N = N := by
  induction N with
  | zero => rfl
  | succ N ih => simp only [tally]; rw [ih (fun i hi => h i (by omega)), h N (by omega)]
theorem tally_most (L : List Int) (N : Nat) (h : ∀ i, i < N → L.count ((i : Int) + 1) ≤ 1) : tally L N ≤ N := by
  induction N with
  | zero => simp [tally]
  | succ N ih => simp only [tally]; have := ih (fun i hi => h i (by omega)); have := h N (by omega); omega
theorem tally_full (L : List Int) (N : Nat) (h : ∀ i, i < N → L.count ((i : Int) + 1) ≤ 1) (ht : tally L N = N) : ∀ i, i < N → L.count ((i : Int) + 1) = 1 := by
  induction N with
  | zero => intro i hi; omega
  | succ N ih =>
    simp only [tally] at ht
    have h1 := tally_most L N (fun i hi => h i (by omega))
    have h2 := h N (by omega)
    intro i hi
    by_cases e : i = N
    · subst e; omega
    · exact ih (fun i hi => h i (by omega)) (by omega) i (by omega)

def idsOf (us : List U) : List Int := us.map U.id
theorem ids_nodup {us : List U} (h : sortedU us) : (idsOf us).Nodup := by
  unfold idsOf
  rw [List.nodup_iff_pairwise_ne, List.pairwise_iff_getElem]
  intro i j hi hj hij
  simp only [List.length_map] at hi hj
  have := h i j hij hj
  rw [getD_lt hi, getD_lt hj] at this
  simp only [List.getElem_map]
  omega
theorem hasId_iff (us : List U) (id : Int) : hasId us id = true ↔ id ∈ idsOf us := by
  unfold hasId idsOf
  simp [List.any_eq_true, List.mem_map]
theorem count_ids {us : List U} (h : sortedU us) (id : Int) : (idsOf us).count id = if hasId us id then 1 else 0 := by
  rw [(ids_nodup h).count]
  simp only [← hasId_iff]
theorem freeOk_iff {next : Int} {free : List Int} {us : List U} (hs : sortedU us) (hn : 1 ≤ next) :
    freeOk next free us = true ↔ (∀ i, i < (next - 1).toNat → (idsOf us ++ free).count ((i : Int) + 1) = 1) ∧ (idsOf us ++ free).length = (next - 1).toNat := by
  unfold freeOk
  simp only [Bool.and_eq_true, List.all_eq_true, List.mem_range, decide_eq_true_eq, List.count_append, List.length_append]
  constructor
  · rintro ⟨h1, h2⟩
    refine ⟨fun i hi => ?_, ?_⟩
    · have h3 := h1 i hi
      rw [count_ids hs]
      unfold hasId
      omega
    · simp only [idsOf, List.length_map]; omega
  · rintro ⟨h1, h2⟩
    refine ⟨fun i hi => ?_, ?_⟩
    · have h3 := h1 i hi
      rw [count_ids hs] at h3
      unfold hasId at h3
      omega
    · simp only [idsOf, List.length_map] at h2; omega

/-- k of the free ones on: each is a number below next that nobody has, none comes twice. -/
def freeUpTo (next : Int) (free : List Int) (us : List U) (k : Nat) : Prop := (∀ x ∈ free.take k, 1 ≤ x ∧ x < next) ∧ (idsOf us ++ free.take k).Nodup
theorem freeUpTo_zero (next : Int) (free : List Int) {us : List U} (hs : sortedU us) : freeUpTo next free us 0 :=
  ⟨by simp, by simpa using ids_nodup hs⟩
theorem takeI_at {l : List Int} {k : Nat} (hk : k < l.length) : l.take (k + 1) = l.take k ++ [l.getD k 0] := by
  rw [List.take_succ_eq_append_getElem hk]; simp [List.getD, hk]
def takenId (free : List Int) (us : List U) (k : Nat) (id : Int) : Bool := hasId us id || (free.take k).contains id
theorem taken_iff (free : List Int) (us : List U) (k : Nat) (id : Int) : takenId free us k id = true ↔ id ∈ idsOf us ++ free.take k := by
  unfold takenId
  rw [Bool.or_eq_true, hasId_iff, List.mem_append]
  simp
theorem taken_next {free : List Int} {us : List U} {k : Nat} (hk : k < free.length) {x : Int} (hx : free.getD k 0 = x) (id : Int) : takenId free us (k + 1) id = (takenId free us k id || id == x) := by
  unfold takenId
  rw [takeI_at hk, hx, Bool.or_assoc]
  congr 1
  rw [Bool.eq_iff_iff]
  simp
theorem freeUpTo_next {next : Int} {free : List Int} {us : List U} {k : Nat} (h : freeUpTo next free us k) (hk : k < free.length) {x : Int} (hx : free.getD k 0 = x) (h1 : 1 ≤ x) (h2 : x < next) (h3 : takenId free us k x = false) : freeUpTo next free us (k + 1) := by
  refine ⟨?_, ?_⟩
  · rw [takeI_at hk, hx]
    intro y hy
    rcases List.mem_append.1 hy with e | e
    · exact h.1 y e
    · obtain rfl : y = x := by simpa using e
      exact ⟨h1, h2⟩
  · rw [takeI_at hk, hx, ← List.append_assoc, List.nodup_append]
    refine ⟨h.2, by simp, ?_⟩
    intro a ha b hb
    obtain rfl : b = x := by simpa using hb
    intro e
    subst e
    have := (taken_iff free us k a).2 ha
    rw [h3] at this
    cases this
theorem free_bad_range {next : Int} {free : List Int} {us : List U} (hs : sortedU us) (hn : 1 ≤ next) {k : Nat} (hk : k < free.length) {x : Int} (hx : free.getD k 0 = x) (hb : x < 1 ∨ next ≤ x) : freeOk next free us = false := by
  rw [Bool.eq_false_iff]
  intro h
  obtain ⟨h1, h2⟩ := (freeOk_iff hs hn).1 h
  have hmem : x ∈ idsOf us ++ free := by
    rw [List.mem_append]
    right
    rw [← hx]
    simp [List.getD, hk]
  have := tally_out _ (next - 1).toNat x hmem (by omega)
  rw [tally_ones _ _ h1] at this
  omega
theorem free_bad_twice {next : Int} {free : List Int} {us : List U} (hs : sortedU us) (hn : 1 ≤ next) {k : Nat} (hk : k < free.length) {x : Int} (hx : free.getD k 0 = x) (ha : 1 ≤ x) (hb : x < next) (ht : takenId free us k x = true) : freeOk next free us = false := by
  rw [Bool.eq_false_iff]
  intro h
  obtain ⟨h1, h2⟩ := (freeOk_iff hs hn).1 h
  have h3 := h1 (x - 1).toNat (by omega)
  rw [show (((x - 1).toNat : Nat) : Int) + 1 = x from by omega] at h3
  have h4 : (idsOf us ++ free) = (idsOf us ++ free.take k) ++ (x :: free.drop (k + 1)) := by
    rw [List.append_assoc]
    congr 1
    have : free.drop k = x :: free.drop (k + 1) := by
      rw [List.drop_eq_getElem_cons hk, ← hx]; simp [List.getD, hk]
    rw [← this, List.take_append_drop]
  rw [h4, List.count_append, List.count_cons] at h3
  have h5 := List.count_pos_iff.2 ((taken_iff free us k x).1 ht)
  simp only [beq_self_eq_true, if_true] at h3
  omega
theorem free_bad_len {next : Int} {free : List Int} {us : List U} (hs : sortedU us) (hn : 1 ≤ next) (hl : ((us.length + free.length : Nat) : Int) ≠ next - 1) : freeOk next free us = false := by
  rw [Bool.eq_false_iff]
  intro h
  obtain ⟨-, h2⟩ := (freeOk_iff hs hn).1 h
  simp only [idsOf, List.length_append, List.length_map] at h2
  omega
theorem free_good {next : Int} {free : List Int} {us : List U} (hs : sortedU us) (hr : ∀ j, j < us.length → 1 ≤ (us.getD j zeroU).id ∧ (us.getD j zeroU).id < next) (hn : 1 ≤ next) (h : freeUpTo next free us free.length)
    (hl : ((us.length + free.length : Nat) : Int) = next - 1) : freeOk next free us = true := by
  rw [freeOk_iff hs hn]
  have hlen : (idsOf us ++ free).length = (next - 1).toNat := by
    simp only [idsOf, List.length_append, List.length_map]; omega
  refine ⟨?_, hlen⟩
  obtain ⟨h1, h2⟩ := h
  rw [List.take_length] at h1 h2
  apply tally_full
  · intro i _
    rw [h2.count]
    split <;> omega
  · rw [tally_in, hlen]
    intro x hx
    rcases List.mem_append.1 hx with e | e
    · unfold idsOf at e
      obtain ⟨u, hu, rfl⟩ := List.mem_map.1 e
      obtain ⟨j, hj, rfl⟩ := List.mem_iff_getElem.1 hu
      have := hr j hj
      rw [getD_lt hj] at this
      omega
    · have := h1 x e
      omega
end Go.Proofs.Ytlfljlhppigejab
namespace Go.Proofs.Ytlfljlhppigejab

/-- Who has an ID. -/
def findU (us : List U) (id : Int) : Option U := us.find? fun u => u.id == id
def byId (us : List U) : Prop := us.Pairwise fun a b => a.id < b.id
theorem byId_iff {us : List U} : byId us ↔ sortedU us := by
  unfold byId sortedU
  rw [List.pairwise_iff_getElem]
  constructor
  · intro h i j hij hj
    rw [getD_lt hj, getD_lt (by omega)]
    exact h i j (by omega) hj hij
  · intro h i j hi hj hij
    have := h i j hij hj
    rwa [getD_lt hj, getD_lt hi] at this
theorem find_none_iff {us : List U} {id : Int} : findU us id = none ↔ ∀ u ∈ us, u.id ≠ id := by
  unfold findU
  rw [List.find?_eq_none]
  simp
theorem find_some {us : List U} {id : Int} {u : U} (h : findU us id = some u) : u ∈ us ∧ u.id = id := by
  unfold findU at h
  exact ⟨List.mem_of_find?_eq_some h, by simpa using List.find?_some h⟩
theorem byId_inj {us : List U} (hs : byId us) {u v : U} (hu : u ∈ us) (hv : v ∈ us) (h : u.id = v.id) : u = v := by
  obtain ⟨i, hi, rfl⟩ := List.mem_iff_getElem.1 hu
  obtain ⟨j, hj, rfl⟩ := List.mem_iff_getElem.1 hv
  unfold byId at hs
  rw [List.pairwise_iff_getElem] at hs
  rcases Nat.lt_trichotomy i j with e | e | e
  · have := hs i j hi hj e; omega
  · cases e; rfl
  · have := hs j i hj hi e; omega
/-- The index, and who stands there. -/
theorem ix_find (us : List U) (id : Int) : (ixOf us id < 0 ∧ findU us id = none) ∨ (∃ (k : Nat) (u : U), ixOf us id = k ∧ k < us.length ∧ us.getD k zeroU = u ∧ findU us id = some u ∧ us[k]? = some u) := by
  unfold ixOf whoIx findU
  cases h : us.findIdx? (fun u => u.id == id) with
  | none =>
    left
    refine ⟨by simp, ?_⟩
    rw [List.findIdx?_eq_none_iff] at h
    rw [List.find?_eq_none]
    intro u hu
    simp [h u hu]
  | some k =>
    right
    obtain ⟨h1, h2, h3⟩ := List.findIdx?_eq_some_iff_getElem.1 h
    refine ⟨k, us[k], rfl, h1, getD_lt h1, ?_, List.getElem?_eq_getElem h1⟩
    rw [List.find?_eq_some_iff_getElem]
    exact ⟨h2, k, h1, rfl, fun j hj => by simpa using h3 j hj⟩
theorem find_map {us : List U} {f : U → U} (hf : ∀ u ∈ us, (f u).id = u.id) (id : Int) : findU (us.map f) id = (findU us id).map f := by
  unfold findU
  induction us with
  | nil => rfl
  | cons u us ih =>
    have h1 := hf u (by simp)
    have h2 := ih (fun v hv => hf v (by simp [hv]))
    simp only [List.map_cons, List.find?_cons, h1]
    cases hh : (u.id == id)
    · simpa using h2
    · rfl
theorem byId_map {us : List U} {f : U → U} (hf : ∀ u ∈ us, (f u).id = u.id) (hs : byId us) : byId (us.map f) := by
  unfold byId at *
  rw [List.pairwise_map]
  exact hs.imp_of_mem fun {a b} ha hb h => by rw [hf a ha, hf b hb]; exact h
/-- One is set anew, by its ID. -/
def setId (us : List U) (id : Int) (f : U → U) : List U := us.map fun v => if v.id = id then f v else v
theorem set_eq {us : List U} (hs : byId us) {i : Nat} {u : U} (h : us[i]? = some u) (v : U) : us.set i v = setId us u.id (fun _ => v) := by
  obtain ⟨hi, he⟩ := List.getElem?_eq_some_iff.1 h
  unfold setId
  apply List.ext_getElem
  · simp
  · intro j h1 h2
    simp only [List.length_set] at h1
    rw [List.getElem_map, List.getElem_set]
    by_cases hij : i = j
    · subst hij
      rw [if_pos rfl, if_pos (by rw [he])]
    · rw [if_neg hij, if_neg]
      intro e
      unfold byId at hs
      rw [List.pairwise_iff_getElem] at hs
      have e' : us[j].id = us[i].id := by rw [he]; exact e
      rcases Nat.lt_or_gt_of_ne hij with c | c
      · have := hs i j hi h1 c; omega
      · have := hs j i h1 hi c; omega

/-- Where one stands. -/
def spot (u : U) : Int × Int := (u.x, u.y)
def apartU (us : List U) : Prop := (us.map spot).Nodup
theorem stands_iff (us : List U) (x y : Int) : standsAt us x y = true ↔ (x, y) ∈ us.map spot := by
  unfold standsAt spot
  simp [List.any_eq_true, List.mem_map]

theorem aims_iff (n : Bool) (us : List U) (u : U) : aimsOk n us u = true ↔ u.target = 0 ∨ ∃ t, findU us u.target = some t ∧ mayDo n u t = u.does := by
  unfold aimsOk
  rw [decide_eq_true_eq]
  rcases ix_find us u.target with ⟨h1, h2⟩ | ⟨k, t, h1, h2, h3, h4, -⟩
  · rw [h2]
    constructor
    · rintro (h | h)
      · exact Or.inl h
      · omega
    · rintro (h | ⟨t, h, -⟩)
      · exact Or.inl h
      · cases h
  · rw [h1, h4]
    simp only [Int.toNat_natCast, h3, Option.some.injEq, exists_eq_left']
    constructor
    · rintro (h | h)
      · exact Or.inl h
      · exact Or.inr h.2
    · rintro (h | h)
      · exact Or.inl h
      · exact Or.inr ⟨by omega, h⟩

/-- A state that is right. -/
structure Right (g : G) : Prop where
  head : ¬ headBad g
  few : g.us.length ≤ 20
  one : ∀ u ∈ g.us, oneFault g.new g.tick u = 0
  below : ∀ u ∈ g.us, u.id < g.next
  sorted : byId g.us
  apart : apartU g.us
  aims : ∀ u ∈ g.us, aimsOk g.new g.us u = true
  free : g.new = false → freeOk g.next g.free g.us = true
  unfree : g.free.length ≤ 200

theorem each_iff (n : Bool) (tick next : Int) (l : List U) : ∀ (before : List U), byId before → apartU before →
    (eachFault n tick next before l = 0 ↔ (∀ u ∈ l, oneFault n tick u = 0 ∧ u.id < next) ∧ byId (before ++ l) ∧ apartU (before ++ l)) := by
  induction l with
  | nil => intro before h1 h2; simp [eachFault, h1, h2]
  | cons u l ih =>
    intro before h1 h2
    unfold eachFault
    by_cases hf : oneFault n tick u ≠ 0
    · rw [if_pos hf]
      constructor
      · intro h; exact absurd h hf
      · intro h; exact absurd (h.1 u (by simp)).1 hf
    · rw [if_neg hf]
      by_cases hm : next ≤ u.id ∨ (∃ p, before.getLast? = some p ∧ u.id ≤ p.id) ∨ standsAt before u.x u.y = true
      · rw [if_pos hm]
        constructor
        · intro h; cases h
        · rintro ⟨a1, a2, a3⟩
          exfalso
          rcases hm with hm | ⟨p, hp, hle⟩ | hst
          · have := (a1 u (by simp)).2; omega
          · have hpm : p ∈ before := List.mem_of_getLast? hp
            unfold byId at a2
            rw [List.pairwise_append] at a2
            have := a2.2.2 p hpm u (by simp)
            omega
          · rw [stands_iff] at hst
            unfold apartU at a3
            rw [List.map_append, List.nodup_append] at a3
            exact a3.2.2 _ hst (u.x, u.y) (by simp [spot]) rfl
      · rw [if_neg hm]
        have hb : byId (before ++ [u]) := by
          unfold byId
          rw [List.pairwise_append]
          refine ⟨h1, by simp, ?_⟩
          intro a ha b hb
          obtain rfl : b = u := by simpa using hb
          cases hl : before.getLast? with
          | none => rw [List.getLast?_eq_none_iff] at hl; subst hl; cases ha
          | some p =>
            have hlt : p.id < b.id := by
              apply Int.not_le.1
              intro hx
              exact hm (Or.inr (Or.inl ⟨p, hl, hx⟩))
            obtain ⟨ini, rfl⟩ := List.getLast?_eq_some_iff.1 hl
            rcases List.mem_append.1 ha with e | e
            · unfold byId at h1
              rw [List.pairwise_append] at h1
              have := h1.2.2 a e p (by simp)
              omega
            · obtain rfl : a = p := by simpa using e
              exact hlt
        have ha : apartU (before ++ [u]) := by
          unfold apartU
          rw [List.map_append, List.nodup_append]
          refine ⟨h2, by simp, ?_⟩
          intro a ha b hb e
          subst e
          obtain rfl : a = spot u := by simpa using hb
          exact hm (Or.inr (Or.inr ((stands_iff _ _ _).2 ha)))
        rw [ih (before ++ [u]) hb ha, List.append_assoc, List.singleton_append]
        constructor
        · rintro ⟨a1, a2, a3⟩
          refine ⟨?_, a2, a3⟩
          intro v hv
          rcases List.mem_cons.1 hv with rfl | e
          · refine ⟨by omega, ?_⟩
            apply Int.not_le.1
            exact fun hx => hm (Or.inl hx)
          · exact a1 v e
        · rintro ⟨a1, a2, a3⟩
          exact ⟨fun v hv => a1 v (by simp [hv]), a2, a3⟩

theorem right_iff (g : G) : faultOf g = 0 ↔ Right g := by
  by_cases hh : headBad g
  · rw [fault_head hh]
    constructor
    · intro h; cases h
    · intro h; exact absurd hh h.head
  · by_cases hm : 20 < g.us.length ∨ 200 < g.free.length
    · rw [fault_many hh hm]
      constructor
      · intro h; cases h
      · intro h; have := h.few; have := h.unfree; omega
    · rw [fault_rest hh hm]
      have he := each_iff g.new g.tick g.next g.us [] (by simp [byId]) (by simp [apartU])
      simp only [List.nil_append] at he
      by_cases h1 : eachFault g.new g.tick g.next [] g.us ≠ 0
      · rw [if_pos h1]
        constructor
        · intro h; exact absurd h h1
        · intro h; exact absurd (he.2 ⟨fun u hu => ⟨h.one u hu, h.below u hu⟩, h.sorted, h.apart⟩) h1
      · rw [if_neg h1]
        obtain ⟨b1, b2, b3⟩ := he.1 (by omega)
        by_cases h2 : g.us.all (aimsOk g.new g.us) = false
        · rw [if_pos h2]
          constructor
          · intro h; cases h
          · intro h
            have : g.us.all (aimsOk g.new g.us) = true := List.all_eq_true.2 h.aims
            rw [this] at h2
            cases h2
        · rw [if_neg h2]
          have h2' : ∀ u ∈ g.us, aimsOk g.new g.us u = true := List.all_eq_true.1 (by simpa using h2)
          by_cases h3 : g.new = false ∧ freeOk g.next g.free g.us = false
          · rw [if_pos h3]
            constructor
            · intro h; cases h
            · intro h
              have := h.free h3.1
              rw [h3.2] at this
              cases this
          · rw [if_neg h3]
            refine ⟨fun _ => ⟨hh, by omega, fun u hu => (b1 u hu).1, fun u hu => (b1 u hu).2, b2, b3, h2', ?_, by omega⟩, fun _ => rfl⟩
            intro hn
            cases h4 : freeOk g.next g.free g.us
            · exact absurd ⟨hn, h4⟩ h3
            · rfl
end Go.Proofs.Ytlfljlhppigejab
namespace Go.Proofs.Ytlfljlhppigejab

structure OneOk (n : Bool) (tick : Int) (u : U) : Prop where
  rule : isRule n u.kind = true
  id1 : 1 ≤ u.id
  idT : u.id ≤ topOf n
  on : onB u.x u.y = true
  hp1 : 1 ≤ u.hp
  hpT : u.hp ≤ if u.kind = 4 then 100 else (ruleOf n u.kind).hp
  does0 : 0 ≤ u.does
  does3 : u.does ≤ 3
  tgt0 : 0 ≤ u.target
  tgtT : u.target ≤ topOf n
  since : n = true → 0 ≤ u.since ∧ u.since ≤ tick
  own0 : 0 ≤ u.owner
  own2 : u.owner ≤ 2
  mine : u.owner = 2 ↔ u.kind = 4
  going : u.does = 1 → onB u.gx u.gy = true ∧ (ruleOf n u.kind).speed ≠ 0
  still : u.does ≠ 1 → u.gx = 0 ∧ u.gy = 0
  aim : 1 < u.does ↔ 0 < u.target
theorem one_iff (n : Bool) (tick : Int) (u : U) : oneFault n tick u = 0 ↔ OneOk n tick u := by
  constructor
  · intro h
    unfold oneFault at h
    by_cases h1 : isRule n u.kind = false ∨ u.id < 1 ∨ topOf n < u.id ∨ onB u.x u.y = false ∨ u.hp < 1 ∨ (if u.kind = 4 then 100 else (ruleOf n u.kind).hp) < u.hp ∨ u.does < 0 ∨ 3 < u.does ∨ u.target < 0 ∨ topOf n < u.target ∨ (n = true ∧ (u.since < 0 ∨ tick < u.since))
    · rw [if_pos h1] at h; cases h
    · rw [if_neg h1] at h
      by_cases h2 : u.owner < 0 ∨ 2 < u.owner ∨ ¬ (u.owner = 2 ↔ u.kind = 4)
      · rw [if_pos h2] at h; cases h
      · rw [if_neg h2] at h
        by_cases h3 : (u.does = 1 ∧ (onB u.gx u.gy = false ∨ (ruleOf n u.kind).speed = 0)) ∨ (¬ u.does = 1 ∧ (u.gx ≠ 0 ∨ u.gy ≠ 0)) ∨ ¬ (1 < u.does ↔ 0 < u.target)
        · rw [if_pos h3] at h; cases h
        · simp only [not_or] at h1 h2 h3
          obtain ⟨a1, a2, a3, a4, a5, a6, a7, a8, a9, a10, a11⟩ := h1
          obtain ⟨b1, b2, b3⟩ := h2
          obtain ⟨c1, c2, c3⟩ := h3
          refine ⟨by simpa using a1, by omega, by omega, by simpa using a4, by omega, by omega, by omega, by omega, by omega, by omega, ?_, by omega, by omega, Decidable.not_not.1 b3, ?_, ?_, Decidable.not_not.1 c3⟩
          · intro hn
            have : ¬ (u.since < 0 ∨ tick < u.since) := fun x => a11 ⟨hn, x⟩
            omega
          · intro hd
            have : ¬ (onB u.gx u.gy = false ∨ (ruleOf n u.kind).speed = 0) := fun x => c1 ⟨hd, x⟩
            simp only [not_or, Bool.not_eq_false] at this
            exact this
          · intro hd
            have : ¬ (u.gx ≠ 0 ∨ u.gy ≠ 0) := fun x => c2 ⟨hd, x⟩
            omega
  · intro h
    unfold oneFault
    rw [if_neg, if_neg, if_neg]
    · rintro (⟨h1, h2 | h2⟩ | ⟨h1, h2⟩ | h1)
      · have := (h.going h1).1; rw [h2] at this; cases this
      · exact (h.going h1).2 h2
      · have := h.still h1; omega
      · exact h1 h.aim
    · rintro (h1 | h1 | h1)
      · have := h.own0; omega
      · have := h.own2; omega
      · exact h1 h.mine
    · have := h.id1; have := h.idT; have := h.hp1; have := h.hpT; have := h.does0; have := h.does3; have := h.tgt0; have := h.tgtT
      rintro (h1 | h1 | h1 | h1 | h1 | h1 | h1 | h1 | h1 | h1 | ⟨h1, h2⟩)
      · have := h.rule; rw [h1] at this; cases this
      · omega
      · omega
      · have := h.on; rw [h1] at this; cases this
      all_goals first | omega | (have := h.since h1; omega)

theorem ids_map {us : List U} {f : U → U} (hf : ∀ u ∈ us, (f u).id = u.id) : idsOf (us.map f) = idsOf us := by
  unfold idsOf
  rw [List.map_map]
  exact List.map_congr_left fun u hu => hf u hu
theorem freeOk_ids {next : Int} {free : List Int} {us vs : List U} (h : idsOf us = idsOf vs) : freeOk next free us = freeOk next free vs := by
  have hl : us.length = vs.length := by simpa [idsOf] using congrArg List.length h
  have ha : ∀ id, (us.any fun u => u.id == id) = (vs.any fun u => u.id == id) := by
    intro id
    have h1 := hasId_iff us id
    have h2 := hasId_iff vs id
    rw [h] at h1
    unfold hasId at h1 h2
    rw [Bool.eq_iff_iff, h1, h2]
  unfold freeOk
  rw [hl]
  simp only [ha]

theorem mayDo_congr {n : Bool} {u v t s : U} (h1 : u.kind = v.kind) (h2 : u.owner = v.owner) (h3 : t.kind = s.kind) (h4 : t.owner = s.owner) : mayDo n u t = mayDo n v s := by
  unfold mayDo; rw [h1, h2, h3, h4]
theorem may_range (n : Bool) (u t : U) : mayDo n u t = 0 ∨ mayDo n u t = 2 ∨ mayDo n u t = 3 := by
  unfold mayDo
  split
  · omega
  · split <;> omega

theorem Right.map {g : G} (hg : Right g) {f : U → U} (hid : ∀ u ∈ g.us, (f u).id = u.id ∧ (f u).kind = u.kind ∧ (f u).owner = u.owner ∧ spot (f u) = spot u)
    (h1 : ∀ u ∈ g.us, oneFault g.new g.tick (f u) = 0) (ha : ∀ u ∈ g.us, (f u).target = 0 ∨ ∃ t, findU g.us (f u).target = some t ∧ mayDo g.new u t = (f u).does) : Right { g with us := g.us.map f } := by
  have hi : ∀ u ∈ g.us, (f u).id = u.id := fun u hu => (hid u hu).1
  refine ⟨hg.head, by simpa using hg.few, ?_, ?_, byId_map hi hg.sorted, ?_, ?_, ?_, hg.unfree⟩
  · intro u hu
    obtain ⟨v, hv, rfl⟩ := List.mem_map.1 hu
    exact h1 v hv
  · intro u hu
    obtain ⟨v, hv, rfl⟩ := List.mem_map.1 hu
    show (f v).id < _
    rw [hi v hv]
    exact hg.below v hv
  · show apartU (g.us.map f)
    unfold apartU
    rw [List.map_map, List.map_congr_left (g := spot)]
    · exact hg.apart
    · intro u hu
      exact (hid u hu).2.2.2
  · intro u hu
    obtain ⟨v, hv, rfl⟩ := List.mem_map.1 hu
    show aimsOk g.new (g.us.map f) (f v) = true
    rw [aims_iff]
    rcases ha v hv with h | ⟨t, h2, h3⟩
    · exact Or.inl h
    · right
      refine ⟨f t, by rw [find_map hi, h2]; rfl, ?_⟩
      have ht := hid t (find_some h2).1
      have hv' := hid v hv
      rw [← h3]
      exact mayDo_congr hv'.2.1 hv'.2.2.1 ht.2.1 ht.2.2.1
  · intro hn
    show freeOk g.next g.free (g.us.map f) = true
    rw [freeOk_ids (ids_map hi)]
    exact hg.free hn

theorem Right.ok {g : G} (hg : Right g) {u : U} (hu : u ∈ g.us) : OneOk g.new g.tick u := (one_iff _ _ _).1 (hg.one u hu)
theorem tell_ok {n : Bool} {tick : Int} {u : U} (h : OneOk n tick u) {d x y t : Int} (h0 : 0 ≤ d) (h3 : d ≤ 3) (t0 : 0 ≤ t) (tT : t ≤ topOf n) (hg : d = 1 → onB x y = true ∧ (ruleOf n u.kind).speed ≠ 0) (hs : d ≠ 1 → x = 0 ∧ y = 0) (ha : 1 < d ↔ 0 < t) :
    OneOk n tick (tellU u d x y t) :=
  ⟨h.rule, h.id1, h.idT, h.on, h.hp1, h.hpT, h0, h3, t0, tT, h.since, h.own0, h.own2, h.mine, hg, hs, ha⟩
/-- One is told something else. -/
theorem Right.tell {g : G} (hg : Right g) {i : Nat} {u : U} (hi : g.us[i]? = some u) {d x y t : Int} (h0 : 0 ≤ d) (h3 : d ≤ 3) (t0 : 0 ≤ t) (tT : t ≤ topOf g.new) (hgo : d = 1 → onB x y = true ∧ (ruleOf g.new u.kind).speed ≠ 0) (hs : d ≠ 1 → x = 0 ∧ y = 0) (ha : 1 < d ↔ 0 < t)
    (haim : t = 0 ∨ ∃ v, findU g.us t = some v ∧ mayDo g.new u v = d) : Right { g with us := g.us.set i (tellU u d x y t) } := by
  have hu : u ∈ g.us := List.mem_of_getElem? hi
  rw [set_eq hg.sorted hi]
  refine hg.map (f := fun v => if v.id = u.id then tellU u d x y t else v) ?_ ?_ ?_
  · intro v hv
    by_cases e : v.id = u.id
    · rw [if_pos e, byId_inj hg.sorted hv hu e]
      exact ⟨rfl, rfl, rfl, rfl⟩
    · rw [if_neg e]
      exact ⟨rfl, rfl, rfl, rfl⟩
  · intro v hv
    by_cases e : v.id = u.id
    · rw [if_pos e, one_iff]
      exact tell_ok (hg.ok hu) h0 h3 t0 tT hgo hs ha
    · rw [if_neg e]
      exact hg.one v hv
  · intro v hv
    by_cases e : v.id = u.id
    · rw [if_pos e, byId_inj hg.sorted hv hu e]
      exact haim
    · rw [if_neg e]
      exact (aims_iff _ _ _).1 (hg.aims v hv)
theorem Right.same {g : G} (hg : Right g) : Right { g with us := g.us } := hg
theorem right_goes {g : G} (hg : Right g) {i : Nat} {u : U} (hi : g.us[i]? = some u) (x y : Int) : Right { g with us := goesF g.new g.us i x y } := by
  have hd : g.us.getD i zeroU = u := by simp [List.getD, hi]
  unfold goesF
  rw [hd]
  split
  · rename_i h
    refine hg.tell hi (by omega) (by omega) (by omega) ?_ ?_ ?_ (by omega) (Or.inl rfl)
    · unfold topOf; split <;> omega
    · intro _; exact ⟨h.1, by omega⟩
    · intro h'; exact absurd rfl h'
  · exact hg
theorem right_aims {g : G} (hg : Right g) {i : Nat} {u : U} (hi : g.us[i]? = some u) (t d : Int) : Right { g with us := aimsF g.new g.us i t d } := by
  have hd : g.us.getD i zeroU = u := by simp [List.getD, hi]
  unfold aimsF
  rw [hd]
  rcases ix_find g.us t with ⟨h1, h2⟩ | ⟨k, v, h1, h2, h3, h4, h5⟩
  · rw [if_neg (by omega)]
    exact hg
  · rw [h1]
    simp only [Int.toNat_natCast, h3]
    split
    · rename_i h
      obtain ⟨hv, hvi⟩ := find_some h4
      have hvo := hg.ok hv
      have := hvo.id1
      have := hvo.idT
      have hr := may_range g.new u v
      refine hg.tell hi (by omega) (by omega) (by omega) (by omega) ?_ ?_ ?_ (Or.inr ⟨v, h4, h.2.2⟩)
      · intro h'; omega
      · intro _; exact ⟨rfl, rfl⟩
      · constructor <;> intro _ <;> omega
    · exact hg
/-- A game that goes on: right; of the newer one nothing is free. -/
structure Going (g0 : G) (s : GB) : Prop where
  right : Right s.1
  new : s.1.new = g0.new
  tick : s.1.tick = g0.tick
  nofree : s.1.new = true → s.1.free = []
theorem Going.us {g0 : G} {s : GB} (h : Going g0 s) {us : List U} (hr : Right { s.1 with us := us }) : Going g0 (withUs s us) := ⟨hr, h.new, h.tick, h.nofree⟩
end Go.Proofs.Ytlfljlhppigejab
namespace Go.Proofs.Ytlfljlhppigejab

/-- What stays of one while all move, strike and are idle. -/
structure SameU (u v : U) : Prop where
  id : v.id = u.id
  owner : v.owner = u.owner
  kind : v.kind = u.kind
  since : v.since = u.since
theorem SameU.rfl' (u : U) : SameU u u := ⟨rfl, rfl, rfl, rfl⟩

end Go.Proofs.Ytlfljlhppigejab
namespace Go.Proofs.Ytlfljlhppigejab

/-- One as it was, but for what it does. -/
structure Kept (u v : U) : Prop where
  same : SameU u v
  at_ : spot v = spot u
  hp : v.hp = u.hp
theorem Kept.refl (u : U) : Kept u u := ⟨SameU.rfl' u, rfl, rfl⟩
theorem Kept.trans {u v w : U} (h : Kept u v) (k : Kept v w) : Kept u w :=
  ⟨⟨k.same.id.trans h.same.id, k.same.owner.trans h.same.owner, k.same.kind.trans h.same.kind, k.same.since.trans h.same.since⟩, k.at_.trans h.at_, k.hp.trans h.hp⟩

/-- s goes on from g. -/
structure Track (g : G) (s : GB) : Prop where
  going : Going g s
  kept : ∀ u ∈ g.us, ∃ v ∈ s.1.us, Kept u v
  here : ∀ v ∈ s.1.us, (v.id ∈ s.2 ∧ v.since = (if g.new then g.tick else 0) ∧ (g.new = true → g.next ≤ v.id) ∧ v.kind ≠ 4) ∨ ∃ u ∈ g.us, Kept u v
  fresh : ∀ i ∈ s.2, ∀ u ∈ g.us, u.id ≠ i
  many : s.1.us.length = g.us.length + s.2.length
  next : g.next ≤ s.1.next ∧ s.1.next ≤ g.next + s.2.length
  gold : s.1.g0 ≤ g.g0 ∧ s.1.g1 ≤ g.g1
theorem Track.start {g : G} (hg : Right g) (hf : g.new = true → g.free = []) : Track g (g, []) :=
  ⟨⟨hg, rfl, rfl, hf⟩, fun u hu => ⟨u, hu, Kept.refl u⟩, fun v hv => Or.inr ⟨v, hv, Kept.refl v⟩, fun i hi => (by cases hi), (by simp), (by simp), (by simp)⟩
theorem Track.set {g : G} {s : GB} (h : Track g s) {i : Nat} {u : U} (hi : s.1.us[i]? = some u) {d x y t : Int} (hr : Right { s.1 with us := s.1.us.set i (tellU u d x y t) }) : Track g (withUs s (s.1.us.set i (tellU u d x y t))) := by
  have hs := h.going.right.sorted
  have hu : u ∈ s.1.us := List.mem_of_getElem? hi
  have hk : Kept u (tellU u d x y t) := ⟨⟨rfl, rfl, rfl, rfl⟩, rfl, rfl⟩
  have hset := set_eq hs hi (tellU u d x y t)
  refine ⟨h.going.us hr, ?_, ?_, h.fresh, ?_, h.next, h.gold⟩
  · intro w hw
    obtain ⟨v, hv, k⟩ := h.kept w hw
    show ∃ z ∈ s.1.us.set i (tellU u d x y t), Kept w z
    rw [hset]
    by_cases e : v.id = u.id
    · have : v = u := byId_inj hs hv hu e
      subst this
      exact ⟨_, List.mem_map.2 ⟨v, hv, if_pos rfl⟩, k.trans hk⟩
    · exact ⟨v, List.mem_map.2 ⟨v, hv, if_neg e⟩, k⟩
  · intro z hz
    have hz' : z ∈ s.1.us.set i (tellU u d x y t) := hz
    rw [hset] at hz'
    obtain ⟨v, hv, rfl⟩ := List.mem_map.1 hz'
    by_cases e : v.id = u.id
    · have : v = u := byId_inj hs hv hu e
      subst this
      rw [if_pos rfl]
      rcases h.here v hv with h1 | ⟨w, hw, k⟩
      · exact Or.inl h1
      · exact Or.inr ⟨w, hw, k.trans hk⟩
    · rw [if_neg e]
      exact h.here v hv
  · show (s.1.us.set i (tellU u d x y t)).length = _
    rw [List.length_set]
    exact h.many
theorem Track.same {g : G} {s : GB} (h : Track g s) : Track g (withUs s s.1.us) := h
theorem Track.goes {g : G} {s : GB} (h : Track g s) {i : Nat} {u : U} (hi : s.1.us[i]? = some u) (x y : Int) : Track g (withUs s (goesF s.1.new s.1.us i x y)) := by
  have hd : s.1.us.getD i zeroU = u := by simp [List.getD, hi]
  have hr := right_goes h.going.right hi x y
  unfold goesF at hr ⊢
  rw [hd] at hr ⊢
  by_cases hc : onB x y = true ∧ 0 < (ruleOf s.1.new u.kind).speed
  · rw [if_pos hc] at hr ⊢; exact h.set hi hr
  · rw [if_neg hc]; exact h
theorem Track.aims {g : G} {s : GB} (h : Track g s) {i : Nat} {u : U} (hi : s.1.us[i]? = some u) (t d : Int) : Track g (withUs s (aimsF s.1.new s.1.us i t d)) := by
  have hd : s.1.us.getD i zeroU = u := by simp [List.getD, hi]
  have hr := right_aims h.going.right hi t d
  unfold aimsF at hr ⊢
  rw [hd] at hr ⊢
  by_cases hc : 0 ≤ ixOf s.1.us t ∧ 0 < d ∧ mayDo s.1.new u (s.1.us.getD (ixOf s.1.us t).toNat zeroU) = d
  · rw [if_pos hc] at hr ⊢; exact h.set hi hr
  · rw [if_neg hc]; exact h
end Go.Proofs.Ytlfljlhppigejab
namespace Go.Proofs.Ytlfljlhppigejab

theorem find_take {us : List U} (hs : byId us) {k : Nat} (hk : k < us.length) {u : U} (hu : us.getD k zeroU = u) (id : Int) : findU (us.take (k + 1)) id = if u.id = id then some u else findU (us.take k) id := by
  rw [take_at hk, hu]
  unfold findU
  rw [List.find?_append]
  by_cases h : u.id = id
  · rw [if_pos h]
    have : (us.take k).find? (fun v => v.id == id) = none := by
      rw [List.find?_eq_none]
      intro v hv
      obtain ⟨j, hj, rfl⟩ := List.mem_iff_getElem.1 hv
      rw [List.length_take] at hj
      have := byId_iff.1 hs j k (by omega) hk
      rw [hu, getD_lt (by omega)] at this
      rw [List.getElem_take]
      simp
      omega
    rw [this]
    simp [h]
  · rw [if_neg h]
    simp [h]
theorem ix_ids {us vs : List U} (h : idsOf us = idsOf vs) (id : Int) : ixOf us id = ixOf vs id := by
  have hw : ∀ l : List U, whoIx l id = (idsOf l).findIdx? (fun i => i == id) := by
    intro l
    unfold whoIx idsOf
    rw [List.findIdx?_map]
    rfl
  unfold ixOf
  rw [hw us, hw vs, h]

end Go.Proofs.Ytlfljlhppigejab
namespace Go.Proofs.Ytlfljlhppigejab

/-- A state as it is read again. -/
def backU (n : Bool) (u : U) : U := if n then u else { u with since := 0 }
def backG (n : Bool) (g : G) : G := { g with new := n, free := if n then [] else g.free, us := g.us.map (backU n) }
theorem one_back (n : Bool) (t : Int) (u : U) : oneFault n t (backU n u) = oneFault n t u := by
  cases n
  · unfold oneFault
    simp [backU]
  · rfl
theorem back_id (n : Bool) (u : U) : (backU n u).id = u.id ∧ (backU n u).x = u.x ∧ (backU n u).y = u.y := by cases n <;> exact ⟨rfl, rfl, rfl⟩
theorem each_back (n : Bool) (t nx : Int) (l : List U) : ∀ before : List U, eachFault n t nx (before.map (backU n)) (l.map (backU n)) = eachFault n t nx before l := by
  induction l with
  | nil => intro _; rfl
  | cons u l ih =>
    intro before
    have h1 : standsAt (before.map (backU n)) (backU n u).x (backU n u).y = standsAt before u.x u.y := by
      unfold standsAt
      rw [List.any_map, (back_id n u).2.1, (back_id n u).2.2]
      congr 1
      funext v
      show ((backU n v).x == u.x && (backU n v).y == u.y) = _
      rw [(back_id n v).2.1, (back_id n v).2.2]
    have h2 : (∃ p, (before.map (backU n)).getLast? = some p ∧ (backU n u).id ≤ p.id) ↔ (∃ p, before.getLast? = some p ∧ u.id ≤ p.id) := by
      rw [List.getLast?_map]
      constructor
      · rintro ⟨p, hp, h⟩
        cases hb : before.getLast? with
        | none => rw [hb] at hp; cases hp
        | some q =>
          rw [hb] at hp
          have : backU n q = p := Option.some.inj hp
          refine ⟨q, rfl, ?_⟩
          rw [← this, (back_id n u).1, (back_id n q).1] at h
          exact h
      · rintro ⟨p, hp, h⟩
        exact ⟨backU n p, by rw [hp]; rfl, by rw [(back_id n u).1, (back_id n p).1]; exact h⟩
    show eachFault n t nx (before.map (backU n)) (backU n u :: l.map (backU n)) = _
    unfold eachFault
    have h3 := ih (before ++ [u])
    rw [List.map_append] at h3
    rw [one_back, h1, (back_id n u).1]
    rw [(back_id n u).1] at h2
    simp only [h2]
    split
    · rfl
    · split
      · rfl
      · exact h3
theorem ids_back (n : Bool) (us : List U) : idsOf (us.map (backU n)) = idsOf us := ids_map (fun u _ => (back_id n u).1)
theorem aims_back (n : Bool) (us : List U) (u : U) : aimsOk n (us.map (backU n)) (backU n u) = aimsOk n us u := by
  rw [Bool.eq_iff_iff, aims_iff, aims_iff]
  have hf : ∀ id, findU (us.map (backU n)) id = (findU us id).map (backU n) := fun id => find_map (fun u _ => (back_id n u).1) id
  have ht : (backU n u).target = u.target ∧ (backU n u).does = u.does := by cases n <;> exact ⟨rfl, rfl⟩
  have hm : ∀ t, mayDo n (backU n u) (backU n t) = mayDo n u t := fun t => by cases n <;> exact mayDo_congr rfl rfl rfl rfl
  rw [ht.1, ht.2, hf]
  constructor
  · rintro (h | ⟨t, h1, h2⟩)
    · exact Or.inl h
    · right
      cases hb : findU us u.target with
      | none => rw [hb] at h1; cases h1
      | some q =>
        rw [hb] at h1
        have : backU n q = t := Option.some.inj h1
        exact ⟨q, rfl, by rw [← hm q, this]; exact h2⟩
  · rintro (h | ⟨t, h1, h2⟩)
    · exact Or.inl h
    · exact Or.inr ⟨backU n t, by rw [h1]; rfl, by rw [hm]; exact h2⟩
/-- What is wrong with a state does not hang on what the document's game forgets. -/
theorem fault_back (n : Bool) (g : G) (hn : g.new = n) (hf : n = true → g.free = []) : faultOf (backG n g) = faultOf g := by
  have h1 := each_back n g.tick g.next g.us []
  have h2 : (g.us.map (backU n)).all (aimsOk n (g.us.map (backU n))) = g.us.all (aimsOk n g.us) := by
    rw [List.all_map]
    congr 1
    funext u
    exact aims_back n g.us u
  have h3 : freeOk g.next g.free (g.us.map (backU n)) = freeOk g.next g.free g.us := freeOk_ids (ids_back n g.us)
  have hfr : (if n = true then [] else g.free) = g.free := by
    cases n
    · rfl
    · exact (hf rfl).symm
  have e : backG n g = ⟨n, g.tick, g.g0, g.g1, g.next, g.free, g.us.map (backU n)⟩ := by
    unfold backG
    rw [hfr]
  rw [e]
  unfold faultOf
  rw [hn]
  dsimp only
  rw [show ([] : List U) = ([] : List U).map (backU n) from rfl, h1, h2, h3]
  rw [List.length_map]
  rfl
end Go.Proofs.Ytlfljlhppigejab
namespace Go.Proofs.Ytlfljlhppigejab

/-! ### The sum -/
def poly : BitVec 32 := 0xEDB88320#32
def crcStep (s : BitVec 32) : BitVec 32 := (s >>> 1) ^^^ (if s.getLsbD 0 then poly else 0#32)
def crcN : Nat → BitVec 32 → BitVec 32
  | 0, s => s
  | n + 1, s => crcN n (crcStep s)
def byte32 (c : UInt8) : BitVec 32 := BitVec.ofNat 32 c.toNat
def crcByte (s : BitVec 32) (c : UInt8) : BitVec 32 := crcN 8 (s ^^^ byte32 c)
def crcGo (l : List UInt8) (s : BitVec 32) : BitVec 32 := l.foldl crcByte s
def crcL (l : List UInt8) : BitVec 32 := ~~~ (crcGo l (BitVec.allOnes 32))

/-- A number off bytes: it, what is left, the error's number. -/
def takeGo : Nat → Nat → List UInt8 → Nat × List UInt8 × Nat
  | _, _, [] => (0, [], 4)
  | i, n, c :: r =>
    if i = 9 then (0, [], 1)
    else if 127 < c.toNat then takeGo (i + 1) (n + (c.toNat - 128) * 128 ^ i) r
    else if 0 < i ∧ c.toNat = 0 then (0, [], 7)
    else (n + c.toNat * 128 ^ i, r, 0)
def takeL (l : List UInt8) : Nat × List UInt8 × Nat := takeGo 0 0 l

/-! ### Frames -/
def le4 (x : BitVec 32) : List UInt8 := [UInt8.ofNat (x.toNat % 256), UInt8.ofNat (x.toNat / 256 % 256), UInt8.ofNat (x.toNat / 65536 % 256), UInt8.ofNat (x.toNat / 16777216 % 256)]
def headL (k : UInt8) (body : List UInt8) : List UInt8 := [70, 89, 49, k] ++ body
def frameL (k : UInt8) (body : List UInt8) : List UInt8 := headL k body ++ le4 (crcL (headL k body))
/-- A frame's body, the error's number. -/
def openL (k : UInt8) (s : List UInt8) : List UInt8 × Nat :=
  if s.length < 8 then ([], 4)
  else if s.take 4 ≠ [70, 89, 49, k] then ([], 6)
  else if frameL k ((s.drop 4).take (s.length - 8)) ≠ s then ([], 5)
  else ((s.drop 4).take (s.length - 8), 0)

end Go.Proofs.Ytlfljlhppigejab
