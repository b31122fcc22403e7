/-
  Plain data of both games, and what the document's chapters 3 and 4 make of them. No program in sight.
-/
import Derived.Test.YtlfljlhppigejabRulesPure
namespace Go.Proofs.Ytlfljlhppigejab

/-- One that is there (of the elder game: since is 0). -/
structure U where
  id : Int
  owner : Int
  kind : Int
  x : Int
  y : Int
  hp : Int
  does : Int
  gx : Int
  gy : Int
  target : Int
  since : Int
  deriving DecidableEq, Inhabited

/-- A state of either game. -/
structure G where
  new : Bool
  tick : Int
  g0 : Int
  g1 : Int
  next : Int
  free : List Int
  us : List U
  deriving DecidableEq

def zeroU : U := ⟨0, 0, 0, 0, 0, 0, 0, 0, 0, 0, 0⟩
def zeroG (n : Bool) : G := ⟨n, 0, 0, 0, 0, [], []⟩

/-- Every number fits a word of 64 bits. -/
def Fits64 (n : Int) : Prop := -9223372036854775808 ≤ n ∧ n < 9223372036854775808
def U.Fits (u : U) : Prop := Fits64 u.id ∧ Fits64 u.owner ∧ Fits64 u.kind ∧ Fits64 u.x ∧ Fits64 u.y ∧ Fits64 u.hp ∧ Fits64 u.does ∧ Fits64 u.gx ∧ Fits64 u.gy ∧ Fits64 u.target ∧ Fits64 u.since
def G.Fits (g : G) : Prop := Fits64 g.tick ∧ Fits64 g.g0 ∧ Fits64 g.g1 ∧ Fits64 g.next ∧ (∀ n ∈ g.free, Fits64 n) ∧ ∀ u ∈ g.us, u.Fits

/-! ### Bounds -/
def topOf (n : Bool) : Int := if n then 2000 else 200
def richOf (n : Bool) : Int := if n then 1000 else 40

/-- One by itself (C1, D1): the error's number. -/
def oneFault (n : Bool) (tick : Int) (u : U) : Nat :=
  if isRule n u.kind = false ∨ u.id < 1 ∨ topOf n < u.id ∨ onB u.x u.y = false ∨ u.hp < 1 ∨ (if u.kind = 4 then 100 else (ruleOf n u.kind).hp) < u.hp ∨ u.does < 0 ∨ 3 < u.does ∨ u.target < 0 ∨ topOf n < u.target ∨ (n = true ∧ (u.since < 0 ∨ tick < u.since)) then 1
  else if u.owner < 0 ∨ 2 < u.owner ∨ ¬ (u.owner = 2 ↔ u.kind = 4) then 3
  else if (u.does = 1 ∧ (onB u.gx u.gy = false ∨ (ruleOf n u.kind).speed = 0)) ∨ (¬ u.does = 1 ∧ (u.gx ≠ 0 ∨ u.gy ≠ 0)) ∨ ¬ (1 < u.does ↔ 0 < u.target) then 3
  else 0

/-- What one may do to another one (C2). -/
def mayDo (n : Bool) (u t : U) : Int :=
  if t.kind = 4 ∧ 0 < (ruleOf n u.kind).load then 3
  else if ¬ t.kind = 4 ∧ t.owner ≠ u.owner ∧ 0 < (ruleOf n u.kind).harm then 2
  else 0

/-- Where an ID stands. -/
def whoIx (us : List U) (id : Int) : Option Nat := us.findIdx? fun u => u.id == id
def standsAt (us : List U) (x y : Int) : Bool := us.any fun u => u.x == x && u.y == y

/-- Each by itself, its ID, its place, in order: the first error's number. -/
def eachFault (n : Bool) (tick next : Int) (before : List U) : List U → Nat
  | [] => 0
  | u :: rest =>
    if oneFault n tick u ≠ 0 then oneFault n tick u
    else if next ≤ u.id ∨ (∃ p, before.getLast? = some p ∧ u.id ≤ p.id) ∨ standsAt before u.x u.y = true then 3
    else eachFault n tick next (before ++ [u]) rest

/-- Where an ID stands, as the program says it: below 0: nowhere. -/
def ixOf (us : List U) (id : Int) : Int := match whoIx us id with | some i => (i : Int) | none => -1
/-- May it do what it does to its target? -/
def aimsOk (n : Bool) (us : List U) (u : U) : Bool :=
  decide (u.target = 0 ∨ (0 ≤ ixOf us u.target ∧ mayDo n u (us.getD (ixOf us u.target).toNat zeroU) = u.does))

/-- Free: just the IDs that nobody has, each once. -/
def freeOk (next : Int) (free : List Int) (us : List U) : Bool :=
  (List.range (next - 1).toNat).all (fun i => decide (free.count ((i : Int) + 1) + (if us.any (fun u => u.id == (i : Int) + 1) then 1 else 0) = 1)) && decide (((free.length + us.length : Nat) : Int) = next - 1)

/-- The error's number of a state (C1, D1). -/
def faultOf (g : G) : Nat :=
  if g.tick < 0 ∨ 60 < g.tick ∨ g.next < 1 ∨ topOf g.new + 1 < g.next ∨ g.g0 < 0 ∨ richOf g.new < g.g0 ∨ g.g1 < 0 ∨ richOf g.new < g.g1 then 1
  else if 20 < g.us.length ∨ 200 < g.free.length then 2
  else if eachFault g.new g.tick g.next [] g.us ≠ 0 then eachFault g.new g.tick g.next [] g.us
  else if g.us.all (aimsOk g.new g.us) = false then 3
  else if g.new = false ∧ freeOk g.next g.free g.us = false then 3
  else 0

/-! ### Lists by rising IDs -/
def sortedU (us : List U) : Prop := ∀ i j, i < j → j < us.length → (us.getD i zeroU).id < (us.getD j zeroU).id
theorem getD_lt {us : List U} {i : Nat} (h : i < us.length) : us.getD i zeroU = us[i] := by simp [List.getD, h]
theorem ixOf_none {us : List U} {id : Int} (h : ∀ k, k < us.length → (us.getD k zeroU).id ≠ id) : ixOf us id = -1 := by
  unfold ixOf whoIx
  have : us.findIdx? (fun u => u.id == id) = none := by
    rw [List.findIdx?_eq_none_iff]
    intro u hu
    obtain ⟨k, hk, rfl⟩ := List.mem_iff_getElem.1 hu
    have := h k hk
    rw [getD_lt hk] at this
    simpa using this
  rw [this]
theorem ixOf_hit {us : List U} {id : Int} {i : Nat} (hi : i < us.length) (he : (us.getD i zeroU).id = id) (hn : ∀ k, k < i → (us.getD k zeroU).id ≠ id) : ixOf us id = i := by
  unfold ixOf whoIx
  have : us.findIdx? (fun u => u.id == id) = some i := by
    rw [List.findIdx?_eq_some_iff_getElem]
    refine ⟨hi, by rw [getD_lt hi] at he; simpa using he, fun j hj => ?_⟩
    have := hn j hj
    rw [getD_lt (by omega)] at this
    simpa using this
  rw [this]
theorem ixOf_lt {us : List U} {id : Int} {i : Nat} (h : ixOf us id = i) : i < us.length ∧ (us.getD i zeroU).id = id := by
  unfold ixOf whoIx at h
  cases hf : us.findIdx? (fun u => u.id == id) with
  | none => rw [hf] at h; simp at h
  | some k =>
    rw [hf] at h
    have hk : k = i := by
      have h' : (k : Int) = (i : Int) := h
      omega
    subst hk
    obtain ⟨h1, h2, _⟩ := List.findIdx?_eq_some_iff_getElem.1 hf
    exact ⟨h1, by rw [getD_lt h1]; simpa using h2⟩
theorem ixOf_range (us : List U) (id : Int) : -1 ≤ ixOf us id ∧ ixOf us id < us.length := by
  cases hf : us.findIdx? (fun u => u.id == id) with
  | none => unfold ixOf whoIx; rw [hf]; simp; omega
  | some k =>
    obtain ⟨h1, _⟩ := List.findIdx?_eq_some_iff_getElem.1 hf
    unfold ixOf whoIx; rw [hf]; simp; omega
/-- What the binary search finds. -/
theorem ixOf_search {us : List U} {id : Int} {i : Nat} (hs : sortedU us) (hi : i ≤ us.length) (h1 : i < us.length → id ≤ (us.getD i zeroU).id) (h2 : 0 < i → (us.getD (i - 1) zeroU).id < id) :
    ixOf us id = if i < us.length ∧ (us.getD i zeroU).id = id then (i : Int) else -1 := by
  have hlo : ∀ k, k < i → (us.getD k zeroU).id ≠ id := by
    intro k hk
    have h3 := h2 (by omega)
    by_cases hki : k = i - 1
    · rw [hki]; omega
    · have := hs k (i - 1) (by omega) (by omega); omega
  by_cases hc : i < us.length ∧ (us.getD i zeroU).id = id
  · rw [if_pos hc]
    exact ixOf_hit hc.1 hc.2 hlo
  · rw [if_neg hc]
    apply ixOf_none
    intro k hk
    by_cases hki : k < i
    · exact hlo k hki
    · have h4 := h1 (by omega)
      by_cases hke : k = i
      · intro e; exact hc ⟨by omega, by rw [← hke]; exact e⟩
      · have h5 := hs i k (by omega) hk
        intro e
        have : ¬ (us.getD i zeroU).id = id := fun e2 => hc ⟨by omega, e2⟩
        omega
end Go.Proofs.Ytlfljlhppigejab
