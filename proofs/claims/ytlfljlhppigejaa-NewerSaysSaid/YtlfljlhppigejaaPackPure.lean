/-
  Plain facts for chapter 2 (kinds, places). No program in sight. Plain data of both games, and what the document's chapters 3 and 4 make of them. No program in sight. What a tick makes of a state (C3, D2), as plain functions. No program in sight. Plain laws on what is wrong with a state of the elder game, as its check goes over it. No program in sight. Plain laws on which IDs are free. No program in sight. What a state that is right is like, limb by limb; who has an ID. No program in sight. A state that is right stays so, whatever is commanded or ordered. No program in sight. A state that is right is right behind a tick. No program in sight. Who was there and who came, through a tick's commands and its end. No program in sight. The end of a tick, unit by unit: what the loops of move, work and bury hold. No program in sight. A state as it is read again, or as the document holds it: since is 0 in the elder game. No program in sight. The document's loops, step by step: put, who is alone, what one loses. No program in sight. Ranges over the units of a board, in any order: what is done while some are left. No program in sight. The newer game's end of a tick, as the program goes about it. No program in sight. What is played of a reel: tick by tick. No program in sight. Plain facts for chapter 1: numbers as bytes, the sum, frames. No program in sight.
-/
namespace Go.Proofs.Ytlfljlhppigejaa

structure RuleR where
  cost : Int
  hp : Int
  speed : Int
  harm : Int
  range : Int
  load : Int

/-- The rule of a kind (n: in the newer game). -/
def ruleOf (n : Bool) (k : Int) : RuleR :=
  if k = 1 then ⟨5, 5, 1, 1, 1, 1⟩
  else if k = 2 then ⟨8, 8, 1, 2, 2, 0⟩
  else if k = 3 then ⟨15, 20, 0, 3, if n then 4 else 3, 0⟩
  else if k = 5 ∧ n = false then ⟨7, 6, 1, 0, 1, 2⟩
  else ⟨0, 0, 0, 0, 0, 0⟩
def isRule (n : Bool) (k : Int) : Bool := decide (1 ≤ k ∧ k ≤ 4 ∨ k = 5 ∧ n = false)

def onB (x y : Int) : Bool := decide (0 ≤ x ∧ x < 12 ∧ 0 ≤ y ∧ y < 12)
theorem onB_iff (x y : Int) : onB x y = true ↔ 0 ≤ x ∧ x < 12 ∧ 0 ≤ y ∧ y < 12 := by unfold onB; simp

def farI (a b : Int) : Int := if b < a then a - b else b - a
def far (x y tx ty : Int) : Int := if farI y ty < farI x tx then farI x tx else farI y ty
def near1 (a b : Int) : Int := if a < b then a + 1 else if b < a then a - 1 else a

theorem ruleOf_bd (n : Bool) (k : Int) : 0 ≤ (ruleOf n k).cost ∧ (ruleOf n k).cost ≤ 15 ∧ 0 ≤ (ruleOf n k).hp ∧ (ruleOf n k).hp ≤ 20 ∧ 0 ≤ (ruleOf n k).speed ∧ (ruleOf n k).speed ≤ 1 ∧
    0 ≤ (ruleOf n k).harm ∧ (ruleOf n k).harm ≤ 3 ∧ 0 ≤ (ruleOf n k).range ∧ (ruleOf n k).range ≤ 4 ∧ 0 ≤ (ruleOf n k).load ∧ (ruleOf n k).load ≤ 2 := by
  unfold ruleOf
  repeat' split
  all_goals (simp; try omega)
theorem ruleOf_hp (n : Bool) (k : Int) (h : isRule n k = true) (h4 : k ≠ 4) : 1 ≤ (ruleOf n k).hp := by
  unfold isRule at h
  unfold ruleOf
  cases n <;> simp at h ⊢
  all_goals
    repeat' split
    all_goals (simp; try omega)
theorem near1_on (a b : Int) (h : 0 ≤ a ∧ a < 12) (h' : 0 ≤ b ∧ b < 12) : 0 ≤ near1 a b ∧ near1 a b < 12 := by
  unfold near1; split
  · omega
  · split <;> omega
theorem far_zero (x y tx ty : Int) : far x y tx ty = 0 ↔ x = tx ∧ y = ty := by
  unfold far farI
  repeat' split
  all_goals omega
end Go.Proofs.Ytlfljlhppigejaa
namespace Go.Proofs.Ytlfljlhppigejaa

/-- One that is there (of the elder game: since is 0). -/
structure U where
  id : Int
  owner : Int
  kind : Int
  x : Int
  y : Int
  hp : Int
  does : Int
  gx : Int
  gy : Int
  target : Int
  since : Int
  deriving DecidableEq, Inhabited

/-- A state of either game. -/
structure G where
  new : Bool
  tick : Int
  g0 : Int
  g1 : Int
  next : Int
  free : List Int
  us : List U
  deriving DecidableEq

def zeroU : U := ⟨0, 0, 0, 0, 0, 0, 0, 0, 0, 0, 0⟩
/-- Every number fits a word of 64 bits. -/
def Fits64 (n : Int) : Prop := -9223372036854775808 ≤ n ∧ n < 9223372036854775808
def U.Fits (u : U) : Prop := Fits64 u.id ∧ Fits64 u.owner ∧ Fits64 u.kind ∧ Fits64 u.x ∧ Fits64 u.y ∧ Fits64 u.hp ∧ Fits64 u.does ∧ Fits64 u.gx ∧ Fits64 u.gy ∧ Fits64 u.target ∧ Fits64 u.since
def G.Fits (g : G) : Prop := Fits64 g.tick ∧ Fits64 g.g0 ∧ Fits64 g.g1 ∧ Fits64 g.next ∧ (∀ n ∈ g.free, Fits64 n) ∧ ∀ u ∈ g.us, u.Fits

/-! ### Bounds -/
def topOf (n : Bool) : Int := if n then 2000 else 200
def richOf (n : Bool) : Int := if n then 1000 else 40

/-- One by itself (C1, D1): the error's number. -/
def oneFault (n : Bool) (tick : Int) (u : U) : Nat :=
  if isRule n u.kind = false ∨ u.id < 1 ∨ topOf n < u.id ∨ onB u.x u.y = false ∨ u.hp < 1 ∨ (if u.kind = 4 then 100 else (ruleOf n u.kind).hp) < u.hp ∨ u.does < 0 ∨ 3 < u.does ∨ u.target < 0 ∨ topOf n < u.target ∨ (n = true ∧ (u.since < 0 ∨ tick < u.since)) then 1
  else if u.owner < 0 ∨ 2 < u.owner ∨ ¬ (u.owner = 2 ↔ u.kind = 4) then 3
  else if (u.does = 1 ∧ (onB u.gx u.gy = false ∨ (ruleOf n u.kind).speed = 0)) ∨ (¬ u.does = 1 ∧ (u.gx ≠ 0 ∨ u.gy ≠ 0)) ∨ ¬ (1 < u.does ↔ 0 < u.target) then 3
  else 0

/-- What one may do to another one (C2). -/
def mayDo (n : Bool) (u t : U) : Int :=
  if t.kind = 4 ∧ 0 < (ruleOf n u.kind).load then 3
  else if ¬ t.kind = 4 ∧ t.owner ≠ u.owner ∧ 0 < (ruleOf n u.kind).harm then 2
  else 0

/-- Where an ID stands. -/
def whoIx (us : List U) (id : Int) : Option Nat := us.findIdx? fun u => u.id == id
def standsAt (us : List U) (x y : Int) : Bool := us.any fun u => u.x == x && u.y == y

/-- Each by itself, its ID, its place, in order: the first error's number. -/
def eachFault (n : Bool) (tick next : Int) (before : List U) : List U → Nat
  | [] => 0
  | u :: rest =>
    if oneFault n tick u ≠ 0 then oneFault n tick u
    else if next ≤ u.id ∨ (∃ p, before.getLast? = some p ∧ u.id ≤ p.id) ∨ standsAt before u.x u.y = true then 3
    else eachFault n tick next (before ++ [u]) rest

/-- Where an ID stands, as the program says it: below 0: nowhere. -/
def ixOf (us : List U) (id : Int) : Int := match whoIx us id with | some i => (i : Int) | none => -1
/-- May it do what it does to its target? -/
def aimsOk (n : Bool) (us : List U) (u : U) : Bool :=
  decide (u.target = 0 ∨ (0 ≤ ixOf us u.target ∧ mayDo n u (us.getD (ixOf us u.target).toNat zeroU) = u.does))

/-- Free: just the IDs that nobody has, each once. -/
def freeOk (next : Int) (free : List Int) (us : List U) : Bool :=
  (List.range (next - 1).toNat).all (fun i => decide (free.count ((i : Int) + 1) + (if us.any (fun u => u.id == (i : Int) + 1) then 1 else 0) = 1)) && decide (((free.length + us.length : Nat) : Int) = next - 1)

/-- The error's number of a state (C1, D1). -/
def faultOf (g : G) : Nat :=
  if g.tick < 0 ∨ 60 < g.tick ∨ g.next < 1 ∨ topOf g.new + 1 < g.next ∨ g.g0 < 0 ∨ richOf g.new < g.g0 ∨ g.g1 < 0 ∨ richOf g.new < g.g1 then 1
  else if 20 < g.us.length ∨ 200 < g.free.length then 2
  else if eachFault g.new g.tick g.next [] g.us ≠ 0 then eachFault g.new g.tick g.next [] g.us
  else if g.us.all (aimsOk g.new g.us) = false then 3
  else if g.new = false ∧ freeOk g.next g.free g.us = false then 3
  else 0

/-! ### Lists by rising IDs -/
def sortedU (us : List U) : Prop := ∀ i j, i < j → j < us.length → (us.getD i zeroU).id < (us.getD j zeroU).id
theorem getD_lt {us : List U} {i : Nat} (h : i < us.length) : us.getD i zeroU = us[i] := by simp [List.getD, h]
theorem ixOf_none {us : List U} {id : Int} (h : ∀ k, k < us.length → (us.getD k zeroU).id ≠ id) : ixOf us id = -1 := by
  unfold ixOf whoIx
  have : us.findIdx? (fun u => u.id == id) = none := by
    rw [List.findIdx?_eq_none_iff]
    intro u hu
    obtain ⟨k, hk, rfl⟩ := List.mem_iff_getElem.1 hu
    have := h k hk
    rw [getD_lt hk] at this
    simpa using this
  rw [this]
theorem ixOf_hit {us : List U} {id : Int} {i : Nat} (hi : i < us.length) (he : (us.getD i zeroU).id = id) (hn : ∀ k, k < i → (us.getD k zeroU).id ≠ id) : ixOf us id = i := by
  unfold ixOf whoIx
  have : us.findIdx? (fun u => u.id == id) = some i := by
    rw [List.findIdx?_eq_some_iff_getElem]
    refine ⟨hi, by rw [getD_lt hi] at he; simpa using he, fun j hj => ?_⟩
    have := hn j hj
    rw [getD_lt (by omega)] at this
    simpa using this
  rw [this]
theorem ixOf_lt {us : List U} {id : Int} {i : Nat} (h : ixOf us id = i) : i < us.length ∧ (us.getD i zeroU).id = id := by
  unfold ixOf whoIx at h
  cases hf : us.findIdx? (fun u => u.id == id) with
  | none => rw [hf] at h; simp at h
  | some k =>
    rw [hf] at h
    have hk : k = i := by
      have h' : (k : Int) = (i : Int) := h
      omega
    subst hk
    obtain ⟨h1, h2, _⟩ := List.findIdx?_eq_some_iff_getElem.1 hf
    exact ⟨h1, by rw [getD_lt h1]; simpa using h2⟩
theorem ixOf_range (us : List U) (id : Int) : -1 ≤ ixOf us id ∧ ixOf us id < us.length := by
  cases hf : us.findIdx? (fun u => u.id == id) with
  | none => unfold ixOf whoIx; rw [hf]; simp; omega
  | some k =>
    obtain ⟨h1, _⟩ := List.findIdx?_eq_some_iff_getElem.1 hf
    unfold ixOf whoIx; rw [hf]; simp; omega
end Go.Proofs.Ytlfljlhppigejaa
namespace Go.Proofs.Ytlfljlhppigejaa

/-- A command, or an order (of which kind and target are one: arg). -/
structure Cm where
  player : Int
  op : Int
  id : Int
  kind : Int
  x : Int
  y : Int
  target : Int
  deriving DecidableEq, Inhabited
def zeroC : Cm := ⟨0, 0, 0, 0, 0, 0, 0⟩
def Cm.Fits (c : Cm) : Prop := Fits64 c.player ∧ Fits64 c.op ∧ Fits64 c.id ∧ Fits64 c.kind ∧ Fits64 c.x ∧ Fits64 c.y ∧ Fits64 c.target

def tellU (u : U) (does gx gy target : Int) : U := { u with does := does, gx := gx, gy := gy, target := target }

def goesF (n : Bool) (us : List U) (i : Nat) (x y : Int) : List U :=
  if onB x y = true ∧ 0 < (ruleOf n (us.getD i zeroU).kind).speed then us.set i (tellU (us.getD i zeroU) 1 x y 0) else us

def aimsF (n : Bool) (us : List U) (i : Nat) (target does : Int) : List U :=
  if 0 ≤ ixOf us target ∧ 0 < does ∧ mayDo n (us.getD i zeroU) (us.getD (ixOf us target).toNat zeroU) = does then us.set i (tellU (us.getD i zeroU) does 0 0 target) else us

def goldOf (g : G) (o : Int) : Int := if o = 0 then g.g0 else g.g1
def pay (g : G) (o c : Int) : G := if o = 0 then { g with g0 := g.g0 - c } else { g with g1 := g.g1 - c }
/-- One is put in, by its ID. -/
def insU (us : List U) (u : U) : List U := us.takeWhile (fun v => decide (v.id ≤ u.id)) ++ u :: us.dropWhile (fun v => decide (v.id ≤ u.id))
def newId (g : G) : Int := match g.free.getLast? with | some i => i | none => g.next
def canBuild (g : G) (i : Nat) (kind x y : Int) : Prop :=
  isRule g.new kind = true ∧ kind ≠ 4 ∧ (g.us.getD i zeroU).kind = 1 ∧ onB x y = true ∧ standsAt g.us x y = false ∧ far (g.us.getD i zeroU).x (g.us.getD i zeroU).y x y ≤ 1 ∧
    (ruleOf g.new kind).cost ≤ goldOf g (g.us.getD i zeroU).owner ∧ g.us.length ≠ 20 ∧ (g.free ≠ [] ∨ g.next ≤ topOf g.new)
instance (g : G) (i : Nat) (kind x y : Int) : Decidable (canBuild g i kind x y) := by unfold canBuild; infer_instance
def builtU (g : G) (i : Nat) (kind x y : Int) : U := ⟨newId g, (g.us.getD i zeroU).owner, kind, x, y, (ruleOf g.new kind).hp, 0, 0, 0, 0, if g.new then g.tick else 0⟩
def built (g : G) (i : Nat) (kind x y : Int) : G :=
  { pay g (g.us.getD i zeroU).owner (ruleOf g.new kind).cost with
    next := if g.free = [] then g.next + 1 else g.next
    free := g.free.dropLast
    us := insU g.us (builtU g i kind x y) }

/-- A game while a tick goes on: with who came. -/
abbrev GB := G × List Int

def buildsF (s : GB) (i : Nat) (kind x y : Int) : GB := if canBuild s.1 i kind x y then (built s.1 i kind x y, s.2 ++ [newId s.1]) else s

def withUs (s : GB) (us : List U) : GB := ({ s.1 with us := us }, s.2)
/-- An order: arg stands in kind and in target. -/
def ordF (s : GB) (c : Cm) : GB :=
  if ixOf s.1.us c.id < 0 ∨ (s.1.us.getD (ixOf s.1.us c.id).toNat zeroU).owner ≠ c.player then s
  else if c.op = 1 then withUs s (goesF s.1.new s.1.us (ixOf s.1.us c.id).toNat c.x c.y)
  else if c.op = 2 then
    if ixOf s.1.us c.target < 0 then s
    else withUs s (aimsF s.1.new s.1.us (ixOf s.1.us c.id).toNat c.target (mayDo s.1.new (s.1.us.getD (ixOf s.1.us c.id).toNat zeroU) (s.1.us.getD (ixOf s.1.us c.target).toNat zeroU)))
  else if c.op = 3 then buildsF s (ixOf s.1.us c.id).toNat c.kind c.x c.y
  else if c.op = 4 then withUs s (s.1.us.set (ixOf s.1.us c.id).toNat (tellU (s.1.us.getD (ixOf s.1.us c.id).toNat zeroU) 0 0 0 0))
  else s

/-! ### The end of a tick -/
/-- Its target is near. -/
def nearF (n : Bool) (us : List U) (u : U) : Bool :=
  decide ((u.does = 3 ∧ far u.x u.y (us.getD (ixOf us u.target).toNat zeroU).x (us.getD (ixOf us u.target).toNat zeroU).y ≤ 1) ∨
    (u.does = 2 ∧ far u.x u.y (us.getD (ixOf us u.target).toNat zeroU).x (us.getD (ixOf us u.target).toNat zeroU).y ≤ (ruleOf n u.kind).range))
/-- Where it wants to go next. -/
def goalF (us : List U) (u : U) : Int × Int := if u.does = 1 then (u.gx, u.gy) else ((us.getD (ixOf us u.target).toNat zeroU).x, (us.getD (ixOf us u.target).toNat zeroU).y)
def wishF (n : Bool) (us : List U) (u : U) : Option (Int × Int) :=
  if u.does = 0 ∨ (ruleOf n u.kind).speed = 0 ∨ (1 < u.does ∧ nearF n us u = true) then none
  else if goalF us u = (u.x, u.y) then none
  else some (near1 u.x (goalF us u).1, near1 u.y (goalF us u).2)
/-- How many of who was there wish this place. -/
def wishers (n : Bool) (old : List Int) (us : List U) (p : Int × Int) : Nat := us.countP fun v => old.contains v.id && wishF n us v == some p
/-- Where one stands behind the moves. -/
def moveF (n : Bool) (old : List Int) (us : List U) (u : U) : U :=
  match wishF n us u with
  | some p => if old.contains u.id = true ∧ standsAt us p.1 p.2 = false ∧ wishers n old us p = 1 then { u with x := p.1, y := p.2 } else u
  | none => u
def arriveF (old : List Int) (u : U) : U := if old.contains u.id = true ∧ u.does = 1 ∧ u.x = u.gx ∧ u.y = u.gy then tellU u 0 0 0 0 else u
def movesF (n : Bool) (old : List Int) (us : List U) : List U := us.map fun u => arriveF old (moveF n old us u)

/-- Does it strike its target? -/
def strikes (n : Bool) (old : List Int) (us : List U) (u : U) : Bool := old.contains u.id && decide (u.target ≠ 0) && nearF n us u
/-- What it takes from its target. -/
def blow (n : Bool) (u : U) : Int := if u.does = 2 then (ruleOf n u.kind).harm else (ruleOf n u.kind).load
/-- What one loses to these. -/
def lossF (n : Bool) (old : List Int) (us : List U) (id : Int) : List U → Int
  | [] => 0
  | u :: l => (if strikes n old us u = true ∧ u.target = id then blow n u else 0) + lossF n old us id l
/-- Gold of a player, behind the work of these. -/
def gainF (n : Bool) (old : List Int) (us : List U) (o : Int) : List U → Int → Int
  | [], g => g
  | u :: l, g => gainF n old us o l (if strikes n old us u = true ∧ u.does ≠ 2 ∧ u.owner = o then min (richOf n) (g + (ruleOf n u.kind).load) else g)
def hurtF (n : Bool) (old : List Int) (us : List U) : List U := us.map fun u => { u with hp := u.hp - lossF n old us u.id us }
def idleF (us : List U) (u : U) : U := if 0 < u.target ∧ ixOf us u.target < 0 then tellU u 0 0 0 0 else u
/-- Who is left of these. -/
def leftF (us : List U) : List U := us.filter fun u => decide (0 < u.hp)
def goneF (us : List U) : List Int := (us.filter fun u => decide (u.hp ≤ 0)).map U.id
def endF (g : G) (old : List Int) : G :=
  { g with
    tick := g.tick + 1
    g0 := gainF g.new old (movesF g.new old g.us) 0 (movesF g.new old g.us) g.g0
    g1 := gainF g.new old (movesF g.new old g.us) 1 (movesF g.new old g.us) g.g1
    free := if g.new then g.free else g.free ++ goneF (hurtF g.new old (movesF g.new old g.us))
    us := (leftF (hurtF g.new old (movesF g.new old g.us))).map (idleF (leftF (hurtF g.new old (movesF g.new old g.us)))) }

def idList (us : List U) : List Int := us.map U.id
def stepN (g : G) (l : List Cm) : G := endF (l.foldl ordF (g, [])).1 (idList g.us)
/-- The error's number of a step: 0: none. -/
def stepFault (g : G) (l : List Cm) : Nat := if faultOf g ≠ 0 then faultOf g else if 8 < l.length ∨ g.tick = 60 then 2 else 0

end Go.Proofs.Ytlfljlhppigejaa
namespace Go.Proofs.Ytlfljlhppigejaa

def headBad (g : G) : Prop := g.tick < 0 ∨ 60 < g.tick ∨ g.next < 1 ∨ topOf g.new + 1 < g.next ∨ g.g0 < 0 ∨ richOf g.new < g.g0 ∨ g.g1 < 0 ∨ richOf g.new < g.g1
theorem fault_head {g : G} (h : headBad g) : faultOf g = 1 := by
  unfold headBad at h; unfold faultOf; rw [if_pos h]
theorem head_newer {g : G} (hn : g.new = true) : headBad g ↔ (g.tick < 0 ∨ 60 < g.tick ∨ g.next < 1 ∨ 2001 < g.next ∨ g.g0 < 0 ∨ 1000 < g.g0 ∨ g.g1 < 0 ∨ 1000 < g.g1) := by
  unfold headBad topOf richOf; rw [hn]; rfl
theorem fault_many {g : G} (h : ¬ headBad g) (hm : 20 < g.us.length ∨ 200 < g.free.length) : faultOf g = 2 := by
  unfold headBad at h; unfold faultOf; rw [if_neg h, if_pos hm]
theorem fault_rest {g : G} (h : ¬ headBad g) (hm : ¬ (20 < g.us.length ∨ 200 < g.free.length)) :
    faultOf g = if eachFault g.new g.tick g.next [] g.us ≠ 0 then eachFault g.new g.tick g.next [] g.us
      else if g.us.all (aimsOk g.new g.us) = false then 3
      else if g.new = false ∧ freeOk g.next g.free g.us = false then 3
      else 0 := by
  unfold headBad at h; unfold faultOf; rw [if_neg h, if_neg hm]

theorem fault_each {g : G} (h : ¬ headBad g) (hm : ¬ (20 < g.us.length ∨ 200 < g.free.length)) {f : Nat} (he : eachFault g.new g.tick g.next [] g.us = f) (hf : f ≠ 0) : faultOf g = f := by
  rw [fault_rest h hm, if_pos (by rw [he]; exact hf), he]
/-! ### Over the units -/
/-- What the check has found out, k units on. -/
def eachUpTo (n : Bool) (tick next : Int) (us : List U) (k : Nat) : Prop :=
  eachFault n tick next [] us = eachFault n tick next (us.take k) (us.drop k) ∧ sortedU (us.take k) ∧ ∀ j, j < k → oneFault n tick (us.getD j zeroU) = 0 ∧ (us.getD j zeroU).id < next
theorem eachUpTo_zero (n : Bool) (tick next : Int) (us : List U) : eachUpTo n tick next us 0 :=
  ⟨by simp, fun i j _ h => by simp at h, fun j h => absurd h (by omega)⟩
theorem drop_at {us : List U} {k : Nat} (hk : k < us.length) : us.drop k = us.getD k zeroU :: us.drop (k + 1) := by
  rw [List.drop_eq_getElem_cons hk, getD_lt hk]
theorem take_at {us : List U} {k : Nat} (hk : k < us.length) : us.take (k + 1) = us.take k ++ [us.getD k zeroU] := by
  rw [List.take_succ_eq_append_getElem hk, getD_lt hk]
theorem getD_take {us : List U} {k j : Nat} (h : j < k) : (us.take k).getD j zeroU = us.getD j zeroU := by
  simp [List.getD, h]
theorem last_take {us : List U} {k : Nat} (hk : k < us.length) (h0 : 0 < k) : (us.take k).getLast? = some (us.getD (k - 1) zeroU) := by
  rw [List.getLast?_eq_getElem?, List.length_take, Nat.min_eq_left (by omega), List.getElem?_take, if_pos (by omega), List.getElem?_eq_getElem (by omega), getD_lt (by omega)]
/-- One by itself is wrong. -/
theorem each_one {n : Bool} {tick next : Int} {us : List U} {k : Nat} (h : eachUpTo n tick next us k) (hk : k < us.length) {u : U} (hu : us.getD k zeroU = u) (hf : oneFault n tick u ≠ 0) : eachFault n tick next [] us = oneFault n tick u := by
  rw [h.1, drop_at hk, hu]
  simp only [eachFault]
  rw [if_pos hf]
/-- It is not shaped. -/
def misfit (next : Int) (us : List U) (k : Nat) (u : U) : Prop := next ≤ u.id ∨ (0 < k ∧ u.id ≤ (us.getD (k - 1) zeroU).id) ∨ standsAt (us.take k) u.x u.y = true
theorem misfit_iff {next : Int} {us : List U} {k : Nat} {u : U} (hk : k < us.length) : (next ≤ u.id ∨ (∃ p, (us.take k).getLast? = some p ∧ u.id ≤ p.id) ∨ standsAt (us.take k) u.x u.y = true) ↔ misfit next us k u := by
  unfold misfit
  by_cases h0 : 0 < k
  · rw [last_take hk h0]; simp [h0]
  · obtain rfl : k = 0 := by omega
    simp
theorem each_shape {n : Bool} {tick next : Int} {us : List U} {k : Nat} (h : eachUpTo n tick next us k) (hk : k < us.length) {u : U} (hu : us.getD k zeroU = u) (hf : oneFault n tick u = 0) (hm : misfit next us k u) : eachFault n tick next [] us = 3 := by
  rw [h.1, drop_at hk, hu]
  simp only [eachFault]
  rw [if_neg (by simp [hf]), if_pos ((misfit_iff hk).2 hm)]
theorem each_next {n : Bool} {tick next : Int} {us : List U} {k : Nat} (h : eachUpTo n tick next us k) (hk : k < us.length) {u : U} (hu : us.getD k zeroU = u) (hf : oneFault n tick u = 0) (hm : ¬ misfit next us k u) : eachUpTo n tick next us (k + 1) := by
  refine ⟨?_, ?_, ?_⟩
  · rw [h.1, drop_at hk, hu, take_at hk, hu]
    conv => lhs; simp only [eachFault]
    rw [if_neg (by simp [hf]), if_neg (fun x => hm ((misfit_iff hk).1 x))]
  · intro i j hij hj
    have hl : (us.take (k + 1)).length = k + 1 := by rw [List.length_take]; omega
    rw [hl] at hj
    rw [getD_take (by omega), getD_take (by omega)]
    have hs : ∀ i j, i < j → j < k → (us.getD i zeroU).id < (us.getD j zeroU).id := by
      intro a b hab hb
      have := h.2.1 a b hab (by rw [List.length_take]; omega)
      rw [getD_take (by omega), getD_take (by omega)] at this
      exact this
    by_cases hjk : j < k
    · exact hs i j hij hjk
    · obtain rfl : j = k := by omega
      have hlast : (us.getD (j - 1) zeroU).id < u.id := by
        have : ¬ (0 < j ∧ u.id ≤ (us.getD (j - 1) zeroU).id) := fun x => hm (Or.inr (Or.inl x))
        omega
      rw [hu]
      by_cases hi : i = j - 1
      · rw [hi]; exact hlast
      · have := hs i (j - 1) (by omega) (by omega); omega
  · intro j hj
    by_cases hjk : j < k
    · exact h.2.2 j hjk
    · obtain rfl : j = k := by omega
      rw [hu]
      have : ¬ next ≤ u.id := fun x => hm (Or.inl x)
      exact ⟨hf, by omega⟩
theorem each_all {n : Bool} {tick next : Int} {us : List U} {k : Nat} (h : eachUpTo n tick next us k) (hk : k = us.length) : eachFault n tick next [] us = 0 ∧ sortedU us ∧ ∀ j, j < us.length → oneFault n tick (us.getD j zeroU) = 0 ∧ (us.getD j zeroU).id < next := by
  subst hk
  obtain ⟨h1, h2, h3⟩ := h
  simp only [List.take_length, List.drop_length, eachFault] at h1 h2
  exact ⟨h1, h2, h3⟩

/-! ### Who is there -/
def hasId (us : List U) (id : Int) : Bool := us.any fun u => u.id == id
theorem stands_snoc (us : List U) (u : U) (x y : Int) : standsAt (us ++ [u]) x y = (standsAt us x y || (u.x == x && u.y == y)) := by simp [standsAt]
end Go.Proofs.Ytlfljlhppigejaa
namespace Go.Proofs.Ytlfljlhppigejaa

/-- How often the numbers 1 to N come, all told. -/
def tally (L : List Int) : Nat → Nat
  | 0 => 0
  | N + 1 => tally L N + L.count ((N : Int) + 1)
theorem tally_nil (N : Nat) : tally [] N = 0 := by
  induction N with
  | zero => rfl
  | succ N ih => simp [tally, ih]
theorem tally_cons (x : Int) (L : List Int) (N : Nat) : tally (x :: L) N = tally L N + if 1 ≤ x ∧ x ≤ N then 1 else 0 := by
  induction N with
  | zero => simp only [tally]; rw [if_neg (by omega)]
  | succ N ih =>
    simp only [tally, ih, List.count_cons]
    by_cases h : x = (N : Int) + 1
    · rw [if_neg (by omega), if_pos (by simp [h]), if_pos (by omega)]; omega
    · by_cases h2 : 1 ≤ x ∧ x ≤ N
      · rw [if_pos h2, if_neg (by simp [h]), if_pos (by omega)]; omega
      · rw [if_neg h2, if_neg (by simp [h]), if_neg (by omega)]; omega
theorem tally_le (L : List Int) (N : Nat) : tally L N ≤ L.length := by
  induction L with
  | nil => simp [tally_nil]
  | cons x L ih => rw [tally_cons, List.length_cons]; split <;> omega
theorem tally_out (L : List Int) (N : Nat) (x : Int) (hx : x ∈ L) (h : ¬ (1 ≤ x ∧ x ≤ N)) : tally L N < L.length := by
  induction L with
  | nil => cases hx
  | cons y L ih =>
    rw [tally_cons, List.length_cons]
    rcases List.mem_cons.1 hx with e | e
    · subst e; rw [if_neg h]; have := tally_le L N; omega
    · have := ih e; split <;> omega
theorem tally_ones (L : List Int) (N : Nat) (h : ∀ i, i < N → L.count ((i : Int) + 1) = 1) : tally L N = N := by
  induction N with
  | zero => rfl
  | succ N ih => simp only [tally]; rw [ih (fun i hi => h i (by omega)), h N (by omega)]
def idsOf (us : List U) : List Int := us.map U.id
theorem ids_nodup {us : List U} (h : sortedU us) : (idsOf us).Nodup := by
  unfold idsOf
  rw [List.nodup_iff_pairwise_ne, List.pairwise_iff_getElem]
  intro i j hi hj hij
  simp only [List.length_map] at hi hj
  have := h i j hij hj
  rw [getD_lt hi, getD_lt hj] at this
  simp only [List.getElem_map]
  omega
theorem hasId_iff (us : List U) (id : Int) : hasId us id = true ↔ id ∈ idsOf us := by
  unfold hasId idsOf
  simp [List.any_eq_true, List.mem_map]
theorem count_ids {us : List U} (h : sortedU us) (id : Int) : (idsOf us).count id = if hasId us id then 1 else 0 := by
  rw [(ids_nodup h).count]
  simp only [← hasId_iff]
theorem freeOk_iff {next : Int} {free : List Int} {us : List U} (hs : sortedU us) (hn : 1 ≤ next) :
    freeOk next free us = true ↔ (∀ i, i < (next - 1).toNat → (idsOf us ++ free).count ((i : Int) + 1) = 1) ∧ (idsOf us ++ free).length = (next - 1).toNat := by
  unfold freeOk
  simp only [Bool.and_eq_true, List.all_eq_true, List.mem_range, decide_eq_true_eq, List.count_append, List.length_append]
  constructor
  · rintro ⟨h1, h2⟩
    refine ⟨fun i hi => ?_, ?_⟩
    · have h3 := h1 i hi
      rw [count_ids hs]
      unfold hasId
      omega
    · simp only [idsOf, List.length_map]; omega
  · rintro ⟨h1, h2⟩
    refine ⟨fun i hi => ?_, ?_⟩
    · have h3 := h1 i hi
      rw [count_ids hs] at h3
      unfold hasId at h3
      omega
    · simp only [idsOf, List.length_map] at h2; omega

end Go.Proofs.Ytlfljlhppigejaa
namespace Go.Proofs.Ytlfljlhppigejaa

/-- Who has an ID. -/
def findU (us : List U) (id : Int) : Option U := us.find? fun u => u.id == id
def byId (us : List U) : Prop := us.Pairwise fun a b => a.id < b.id
theorem byId_iff {us : List U} : byId us ↔ sortedU us := by
  unfold byId sortedU
  rw [List.pairwise_iff_getElem]
  constructor
  · intro h i j hij hj
    rw [getD_lt hj, getD_lt (by omega)]
    exact h i j (by omega) hj hij
  · intro h i j hi hj hij
    have := h i j hij hj
    rwa [getD_lt hj, getD_lt hi] at this
theorem find_none_iff {us : List U} {id : Int} : findU us id = none ↔ ∀ u ∈ us, u.id ≠ id := by
  unfold findU
  rw [List.find?_eq_none]
  simp
theorem find_some {us : List U} {id : Int} {u : U} (h : findU us id = some u) : u ∈ us ∧ u.id = id := by
  unfold findU at h
  exact ⟨List.mem_of_find?_eq_some h, by simpa using List.find?_some h⟩
theorem byId_inj {us : List U} (hs : byId us) {u v : U} (hu : u ∈ us) (hv : v ∈ us) (h : u.id = v.id) : u = v := by
  obtain ⟨i, hi, rfl⟩ := List.mem_iff_getElem.1 hu
  obtain ⟨j, hj, rfl⟩ := List.mem_iff_getElem.1 hv
  unfold byId at hs
  rw [List.pairwise_iff_getElem] at hs
  rcases Nat.lt_trichotomy i j with e | e | e
  · have := hs i j hi hj e; omega
  · cases e; rfl
  · have := hs j i hj hi e; omega
theorem find_mem {us : List U} (hs : byId us) {u : U} (hu : u ∈ us) : findU us u.id = some u := by
  cases h : findU us u.id with
  | none => exact absurd rfl (find_none_iff.1 h u hu)
  | some v =>
    obtain ⟨h1, h2⟩ := find_some h
    rw [byId_inj hs h1 hu h2]
/-- The index, and who stands there. -/
theorem ix_find (us : List U) (id : Int) : (ixOf us id < 0 ∧ findU us id = none) ∨ (∃ (k : Nat) (u : U), ixOf us id = k ∧ k < us.length ∧ us.getD k zeroU = u ∧ findU us id = some u ∧ us[k]? = some u) := by
  unfold ixOf whoIx findU
  cases h : us.findIdx? (fun u => u.id == id) with
  | none =>
    left
    refine ⟨by simp, ?_⟩
    rw [List.findIdx?_eq_none_iff] at h
    rw [List.find?_eq_none]
    intro u hu
    simp [h u hu]
  | some k =>
    right
    obtain ⟨h1, h2, h3⟩ := List.findIdx?_eq_some_iff_getElem.1 h
    refine ⟨k, us[k], rfl, h1, getD_lt h1, ?_, List.getElem?_eq_getElem h1⟩
    rw [List.find?_eq_some_iff_getElem]
    exact ⟨h2, k, h1, rfl, fun j hj => by simpa using h3 j hj⟩
theorem find_map {us : List U} {f : U → U} (hf : ∀ u ∈ us, (f u).id = u.id) (id : Int) : findU (us.map f) id = (findU us id).map f := by
  unfold findU
  induction us with
  | nil => rfl
  | cons u us ih =>
    have h1 := hf u (by simp)
    have h2 := ih (fun v hv => hf v (by simp [hv]))
    simp only [List.map_cons, List.find?_cons, h1]
    cases hh : (u.id == id)
    · simpa using h2
    · rfl
theorem byId_map {us : List U} {f : U → U} (hf : ∀ u ∈ us, (f u).id = u.id) (hs : byId us) : byId (us.map f) := by
  unfold byId at *
  rw [List.pairwise_map]
  exact hs.imp_of_mem fun {a b} ha hb h => by rw [hf a ha, hf b hb]; exact h
theorem byId_filter {us : List U} (p : U → Bool) (hs : byId us) : byId (us.filter p) := by
  unfold byId at *
  exact hs.filter p
/-- One is set anew, by its ID. -/
def setId (us : List U) (id : Int) (f : U → U) : List U := us.map fun v => if v.id = id then f v else v
theorem set_eq {us : List U} (hs : byId us) {i : Nat} {u : U} (h : us[i]? = some u) (v : U) : us.set i v = setId us u.id (fun _ => v) := by
  obtain ⟨hi, he⟩ := List.getElem?_eq_some_iff.1 h
  unfold setId
  apply List.ext_getElem
  · simp
  · intro j h1 h2
    simp only [List.length_set] at h1
    rw [List.getElem_map, List.getElem_set]
    by_cases hij : i = j
    · subst hij
      rw [if_pos rfl, if_pos (by rw [he])]
    · rw [if_neg hij, if_neg]
      intro e
      unfold byId at hs
      rw [List.pairwise_iff_getElem] at hs
      have e' : us[j].id = us[i].id := by rw [he]; exact e
      rcases Nat.lt_or_gt_of_ne hij with c | c
      · have := hs i j hi h1 c; omega
      · have := hs j i h1 hi c; omega

/-- Where one stands. -/
def spot (u : U) : Int × Int := (u.x, u.y)
def apartU (us : List U) : Prop := (us.map spot).Nodup
theorem stands_iff (us : List U) (x y : Int) : standsAt us x y = true ↔ (x, y) ∈ us.map spot := by
  unfold standsAt spot
  simp [List.any_eq_true, List.mem_map]

theorem aims_iff (n : Bool) (us : List U) (u : U) : aimsOk n us u = true ↔ u.target = 0 ∨ ∃ t, findU us u.target = some t ∧ mayDo n u t = u.does := by
  unfold aimsOk
  rw [decide_eq_true_eq]
  rcases ix_find us u.target with ⟨h1, h2⟩ | ⟨k, t, h1, h2, h3, h4, -⟩
  · rw [h2]
    constructor
    · rintro (h | h)
      · exact Or.inl h
      · omega
    · rintro (h | ⟨t, h, -⟩)
      · exact Or.inl h
      · cases h
  · rw [h1, h4]
    simp only [Int.toNat_natCast, h3, Option.some.injEq, exists_eq_left']
    constructor
    · rintro (h | h)
      · exact Or.inl h
      · exact Or.inr h.2
    · rintro (h | h)
      · exact Or.inl h
      · exact Or.inr ⟨by omega, h⟩

/-- A state that is right. -/
structure Right (g : G) : Prop where
  head : ¬ headBad g
  few : g.us.length ≤ 20
  one : ∀ u ∈ g.us, oneFault g.new g.tick u = 0
  below : ∀ u ∈ g.us, u.id < g.next
  sorted : byId g.us
  apart : apartU g.us
  aims : ∀ u ∈ g.us, aimsOk g.new g.us u = true
  free : g.new = false → freeOk g.next g.free g.us = true
  unfree : g.free.length ≤ 200

theorem each_iff (n : Bool) (tick next : Int) (l : List U) : ∀ (before : List U), byId before → apartU before →
    (eachFault n tick next before l = 0 ↔ (∀ u ∈ l, oneFault n tick u = 0 ∧ u.id < next) ∧ byId (before ++ l) ∧ apartU (before ++ l)) := by
  induction l with
  | nil => intro before h1 h2; simp [eachFault, h1, h2]
  | cons u l ih =>
    intro before h1 h2
    unfold eachFault
    by_cases hf : oneFault n tick u ≠ 0
    · rw [if_pos hf]
      constructor
      · intro h; exact absurd h hf
      · intro h; exact absurd (h.1 u (by simp)).1 hf
    · rw [if_neg hf]
      by_cases hm : next ≤ u.id ∨ (∃ p, before.getLast? = some p ∧ u.id ≤ p.id) ∨ standsAt before u.x u.y = true
      · rw [if_pos hm]
        constructor
        · intro h; cases h
        · rintro ⟨a1, a2, a3⟩
          exfalso
          rcases hm with hm | ⟨p, hp, hle⟩ | hst
          · have := (a1 u (by simp)).2; omega
          · have hpm : p ∈ before := List.mem_of_getLast? hp
            unfold byId at a2
            rw [List.pairwise_append] at a2
            have := a2.2.2 p hpm u (by simp)
            omega
          · rw [stands_iff] at hst
            unfold apartU at a3
            rw [List.map_append, List.nodup_append] at a3
            exact a3.2.2 _ hst (u.x, u.y) (by simp [spot]) rfl
      · rw [if_neg hm]
        have hb : byId (before ++ [u]) := by
          unfold byId
          rw [List.pairwise_append]
          refine ⟨h1, by simp, ?_⟩
          intro a ha b hb
          obtain rfl : b = u := by simpa using hb
          cases hl : before.getLast? with
          | none => rw [List.getLast?_eq_none_iff] at hl; subst hl; cases ha
          | some p =>
            have hlt : p.id < b.id := by
              apply Int.not_le.1
              intro hx
              exact hm (Or.inr (Or.inl ⟨p, hl, hx⟩))
            obtain ⟨ini, rfl⟩ := List.getLast?_eq_some_iff.1 hl
            rcases List.mem_append.1 ha with e | e
            · unfold byId at h1
              rw [List.pairwise_append] at h1
              have := h1.2.2 a e p (by simp)
              omega
            · obtain rfl : a = p := by simpa using e
              exact hlt
        have ha : apartU (before ++ [u]) := by
          unfold apartU
          rw [List.map_append, List.nodup_append]
          refine ⟨h2, by simp, ?_⟩
          intro a ha b hb e
          subst e
          obtain rfl : a = spot u := by simpa using hb
          exact hm (Or.inr (Or.inr ((stands_iff _ _ _).2 ha)))
        rw [ih (before ++ [u]) hb ha, List.append_assoc, List.singleton_append]
        constructor
        · rintro ⟨a1, a2, a3⟩
          refine ⟨?_, a2, a3⟩
          intro v hv
          rcases List.mem_cons.1 hv with rfl | e
          · refine ⟨by omega, ?_⟩
            apply Int.not_le.1
            exact fun hx => hm (Or.inl hx)
          · exact a1 v e
        · rintro ⟨a1, a2, a3⟩
          exact ⟨fun v hv => a1 v (by simp [hv]), a2, a3⟩

theorem right_iff (g : G) : faultOf g = 0 ↔ Right g := by
  by_cases hh : headBad g
  · rw [fault_head hh]
    constructor
    · intro h; cases h
    · intro h; exact absurd hh h.head
  · by_cases hm : 20 < g.us.length ∨ 200 < g.free.length
    · rw [fault_many hh hm]
      constructor
      · intro h; cases h
      · intro h; have := h.few; have := h.unfree; omega
    · rw [fault_rest hh hm]
      have he := each_iff g.new g.tick g.next g.us [] (by simp [byId]) (by simp [apartU])
      simp only [List.nil_append] at he
      by_cases h1 : eachFault g.new g.tick g.next [] g.us ≠ 0
      · rw [if_pos h1]
        constructor
        · intro h; exact absurd h h1
        · intro h; exact absurd (he.2 ⟨fun u hu => ⟨h.one u hu, h.below u hu⟩, h.sorted, h.apart⟩) h1
      · rw [if_neg h1]
        obtain ⟨b1, b2, b3⟩ := he.1 (by omega)
        by_cases h2 : g.us.all (aimsOk g.new g.us) = false
        · rw [if_pos h2]
          constructor
          · intro h; cases h
          · intro h
            have : g.us.all (aimsOk g.new g.us) = true := List.all_eq_true.2 h.aims
            rw [this] at h2
            cases h2
        · rw [if_neg h2]
          have h2' : ∀ u ∈ g.us, aimsOk g.new g.us u = true := List.all_eq_true.1 (by simpa using h2)
          by_cases h3 : g.new = false ∧ freeOk g.next g.free g.us = false
          · rw [if_pos h3]
            constructor
            · intro h; cases h
            · intro h
              have := h.free h3.1
              rw [h3.2] at this
              cases this
          · rw [if_neg h3]
            refine ⟨fun _ => ⟨hh, by omega, fun u hu => (b1 u hu).1, fun u hu => (b1 u hu).2, b2, b3, h2', ?_, by omega⟩, fun _ => rfl⟩
            intro hn
            cases h4 : freeOk g.next g.free g.us
            · exact absurd ⟨hn, h4⟩ h3
            · rfl
end Go.Proofs.Ytlfljlhppigejaa
namespace Go.Proofs.Ytlfljlhppigejaa

structure OneOk (n : Bool) (tick : Int) (u : U) : Prop where
  rule : isRule n u.kind = true
  id1 : 1 ≤ u.id
  idT : u.id ≤ topOf n
  on : onB u.x u.y = true
  hp1 : 1 ≤ u.hp
  hpT : u.hp ≤ if u.kind = 4 then 100 else (ruleOf n u.kind).hp
  does0 : 0 ≤ u.does
  does3 : u.does ≤ 3
  tgt0 : 0 ≤ u.target
  tgtT : u.target ≤ topOf n
  since : n = true → 0 ≤ u.since ∧ u.since ≤ tick
  own0 : 0 ≤ u.owner
  own2 : u.owner ≤ 2
  mine : u.owner = 2 ↔ u.kind = 4
  going : u.does = 1 → onB u.gx u.gy = true ∧ (ruleOf n u.kind).speed ≠ 0
  still : u.does ≠ 1 → u.gx = 0 ∧ u.gy = 0
  aim : 1 < u.does ↔ 0 < u.target
theorem one_iff (n : Bool) (tick : Int) (u : U) : oneFault n tick u = 0 ↔ OneOk n tick u := by
  constructor
  · intro h
    unfold oneFault at h
    by_cases h1 : isRule n u.kind = false ∨ u.id < 1 ∨ topOf n < u.id ∨ onB u.x u.y = false ∨ u.hp < 1 ∨ (if u.kind = 4 then 100 else (ruleOf n u.kind).hp) < u.hp ∨ u.does < 0 ∨ 3 < u.does ∨ u.target < 0 ∨ topOf n < u.target ∨ (n = true ∧ (u.since < 0 ∨ tick < u.since))
    · rw [if_pos h1] at h; cases h
    · rw [if_neg h1] at h
      by_cases h2 : u.owner < 0 ∨ 2 < u.owner ∨ ¬ (u.owner = 2 ↔ u.kind = 4)
      · rw [if_pos h2] at h; cases h
      · rw [if_neg h2] at h
        by_cases h3 : (u.does = 1 ∧ (onB u.gx u.gy = false ∨ (ruleOf n u.kind).speed = 0)) ∨ (¬ u.does = 1 ∧ (u.gx ≠ 0 ∨ u.gy ≠ 0)) ∨ ¬ (1 < u.does ↔ 0 < u.target)
        · rw [if_pos h3] at h; cases h
        · simp only [not_or] at h1 h2 h3
          obtain ⟨a1, a2, a3, a4, a5, a6, a7, a8, a9, a10, a11⟩ := h1
          obtain ⟨b1, b2, b3⟩ := h2
          obtain ⟨c1, c2, c3⟩ := h3
          refine ⟨by simpa using a1, by omega, by omega, by simpa using a4, by omega, by omega, by omega, by omega, by omega, by omega, ?_, by omega, by omega, Decidable.not_not.1 b3, ?_, ?_, Decidable.not_not.1 c3⟩
          · intro hn
            have : ¬ (u.since < 0 ∨ tick < u.since) := fun x => a11 ⟨hn, x⟩
            omega
          · intro hd
            have : ¬ (onB u.gx u.gy = false ∨ (ruleOf n u.kind).speed = 0) := fun x => c1 ⟨hd, x⟩
            simp only [not_or, Bool.not_eq_false] at this
            exact this
          · intro hd
            have : ¬ (u.gx ≠ 0 ∨ u.gy ≠ 0) := fun x => c2 ⟨hd, x⟩
            omega
  · intro h
    unfold oneFault
    rw [if_neg, if_neg, if_neg]
    · rintro (⟨h1, h2 | h2⟩ | ⟨h1, h2⟩ | h1)
      · have := (h.going h1).1; rw [h2] at this; cases this
      · exact (h.going h1).2 h2
      · have := h.still h1; omega
      · exact h1 h.aim
    · rintro (h1 | h1 | h1)
      · have := h.own0; omega
      · have := h.own2; omega
      · exact h1 h.mine
    · have := h.id1; have := h.idT; have := h.hp1; have := h.hpT; have := h.does0; have := h.does3; have := h.tgt0; have := h.tgtT
      rintro (h1 | h1 | h1 | h1 | h1 | h1 | h1 | h1 | h1 | h1 | ⟨h1, h2⟩)
      · have := h.rule; rw [h1] at this; cases this
      · omega
      · omega
      · have := h.on; rw [h1] at this; cases this
      all_goals first | omega | (have := h.since h1; omega)

theorem ids_map {us : List U} {f : U → U} (hf : ∀ u ∈ us, (f u).id = u.id) : idsOf (us.map f) = idsOf us := by
  unfold idsOf
  rw [List.map_map]
  exact List.map_congr_left fun u hu => hf u hu
theorem freeOk_ids {next : Int} {free : List Int} {us vs : List U} (h : idsOf us = idsOf vs) : freeOk next free us = freeOk next free vs := by
  have hl : us.length = vs.length := by simpa [idsOf] using congrArg List.length h
  have ha : ∀ id, (us.any fun u => u.id == id) = (vs.any fun u => u.id == id) := by
    intro id
    have h1 := hasId_iff us id
    have h2 := hasId_iff vs id
    rw [h] at h1
    unfold hasId at h1 h2
    rw [Bool.eq_iff_iff, h1, h2]
  unfold freeOk
  rw [hl]
  simp only [ha]

theorem mayDo_congr {n : Bool} {u v t s : U} (h1 : u.kind = v.kind) (h2 : u.owner = v.owner) (h3 : t.kind = s.kind) (h4 : t.owner = s.owner) : mayDo n u t = mayDo n v s := by
  unfold mayDo; rw [h1, h2, h3, h4]
theorem may_range (n : Bool) (u t : U) : mayDo n u t = 0 ∨ mayDo n u t = 2 ∨ mayDo n u t = 3 := by
  unfold mayDo
  split
  · omega
  · split <;> omega

theorem Right.map {g : G} (hg : Right g) {f : U → U} (hid : ∀ u ∈ g.us, (f u).id = u.id ∧ (f u).kind = u.kind ∧ (f u).owner = u.owner ∧ spot (f u) = spot u)
    (h1 : ∀ u ∈ g.us, oneFault g.new g.tick (f u) = 0) (ha : ∀ u ∈ g.us, (f u).target = 0 ∨ ∃ t, findU g.us (f u).target = some t ∧ mayDo g.new u t = (f u).does) : Right { g with us := g.us.map f } := by
  have hi : ∀ u ∈ g.us, (f u).id = u.id := fun u hu => (hid u hu).1
  refine ⟨hg.head, by simpa using hg.few, ?_, ?_, byId_map hi hg.sorted, ?_, ?_, ?_, hg.unfree⟩
  · intro u hu
    obtain ⟨v, hv, rfl⟩ := List.mem_map.1 hu
    exact h1 v hv
  · intro u hu
    obtain ⟨v, hv, rfl⟩ := List.mem_map.1 hu
    show (f v).id < _
    rw [hi v hv]
    exact hg.below v hv
  · show apartU (g.us.map f)
    unfold apartU
    rw [List.map_map, List.map_congr_left (g := spot)]
    · exact hg.apart
    · intro u hu
      exact (hid u hu).2.2.2
  · intro u hu
    obtain ⟨v, hv, rfl⟩ := List.mem_map.1 hu
    show aimsOk g.new (g.us.map f) (f v) = true
    rw [aims_iff]
    rcases ha v hv with h | ⟨t, h2, h3⟩
    · exact Or.inl h
    · right
      refine ⟨f t, by rw [find_map hi, h2]; rfl, ?_⟩
      have ht := hid t (find_some h2).1
      have hv' := hid v hv
      rw [← h3]
      exact mayDo_congr hv'.2.1 hv'.2.2.1 ht.2.1 ht.2.2.1
  · intro hn
    show freeOk g.next g.free (g.us.map f) = true
    rw [freeOk_ids (ids_map hi)]
    exact hg.free hn

theorem Right.ok {g : G} (hg : Right g) {u : U} (hu : u ∈ g.us) : OneOk g.new g.tick u := (one_iff _ _ _).1 (hg.one u hu)
theorem tell_ok {n : Bool} {tick : Int} {u : U} (h : OneOk n tick u) {d x y t : Int} (h0 : 0 ≤ d) (h3 : d ≤ 3) (t0 : 0 ≤ t) (tT : t ≤ topOf n) (hg : d = 1 → onB x y = true ∧ (ruleOf n u.kind).speed ≠ 0) (hs : d ≠ 1 → x = 0 ∧ y = 0) (ha : 1 < d ↔ 0 < t) :
    OneOk n tick (tellU u d x y t) :=
  ⟨h.rule, h.id1, h.idT, h.on, h.hp1, h.hpT, h0, h3, t0, tT, h.since, h.own0, h.own2, h.mine, hg, hs, ha⟩
/-- One is told something else. -/
theorem Right.tell {g : G} (hg : Right g) {i : Nat} {u : U} (hi : g.us[i]? = some u) {d x y t : Int} (h0 : 0 ≤ d) (h3 : d ≤ 3) (t0 : 0 ≤ t) (tT : t ≤ topOf g.new) (hgo : d = 1 → onB x y = true ∧ (ruleOf g.new u.kind).speed ≠ 0) (hs : d ≠ 1 → x = 0 ∧ y = 0) (ha : 1 < d ↔ 0 < t)
    (haim : t = 0 ∨ ∃ v, findU g.us t = some v ∧ mayDo g.new u v = d) : Right { g with us := g.us.set i (tellU u d x y t) } := by
  have hu : u ∈ g.us := List.mem_of_getElem? hi
  rw [set_eq hg.sorted hi]
  refine hg.map (f := fun v => if v.id = u.id then tellU u d x y t else v) ?_ ?_ ?_
  · intro v hv
    by_cases e : v.id = u.id
    · rw [if_pos e, byId_inj hg.sorted hv hu e]
      exact ⟨rfl, rfl, rfl, rfl⟩
    · rw [if_neg e]
      exact ⟨rfl, rfl, rfl, rfl⟩
  · intro v hv
    by_cases e : v.id = u.id
    · rw [if_pos e, one_iff]
      exact tell_ok (hg.ok hu) h0 h3 t0 tT hgo hs ha
    · rw [if_neg e]
      exact hg.one v hv
  · intro v hv
    by_cases e : v.id = u.id
    · rw [if_pos e, byId_inj hg.sorted hv hu e]
      exact haim
    · rw [if_neg e]
      exact (aims_iff _ _ _).1 (hg.aims v hv)
theorem Right.same {g : G} (hg : Right g) : Right { g with us := g.us } := hg
theorem right_goes {g : G} (hg : Right g) {i : Nat} {u : U} (hi : g.us[i]? = some u) (x y : Int) : Right { g with us := goesF g.new g.us i x y } := by
  have hd : g.us.getD i zeroU = u := by simp [List.getD, hi]
  unfold goesF
  rw [hd]
  split
  · rename_i h
    refine hg.tell hi (by omega) (by omega) (by omega) ?_ ?_ ?_ (by omega) (Or.inl rfl)
    · unfold topOf; split <;> omega
    · intro _; exact ⟨h.1, by omega⟩
    · intro h'; exact absurd rfl h'
  · exact hg
theorem right_aims {g : G} (hg : Right g) {i : Nat} {u : U} (hi : g.us[i]? = some u) (t d : Int) : Right { g with us := aimsF g.new g.us i t d } := by
  have hd : g.us.getD i zeroU = u := by simp [List.getD, hi]
  unfold aimsF
  rw [hd]
  rcases ix_find g.us t with ⟨h1, h2⟩ | ⟨k, v, h1, h2, h3, h4, h5⟩
  · rw [if_neg (by omega)]
    exact hg
  · rw [h1]
    simp only [Int.toNat_natCast, h3]
    split
    · rename_i h
      obtain ⟨hv, hvi⟩ := find_some h4
      have hvo := hg.ok hv
      have := hvo.id1
      have := hvo.idT
      have hr := may_range g.new u v
      refine hg.tell hi (by omega) (by omega) (by omega) (by omega) ?_ ?_ ?_ (Or.inr ⟨v, h4, h.2.2⟩)
      · intro h'; omega
      · intro _; exact ⟨rfl, rfl⟩
      · constructor <;> intro _ <;> omega
    · exact hg
theorem right_stop {g : G} (hg : Right g) {i : Nat} {u : U} (hi : g.us[i]? = some u) : Right { g with us := g.us.set i (tellU u 0 0 0 0) } := by
  refine hg.tell hi (by omega) (by omega) (by omega) ?_ (fun h => by cases h) (fun _ => ⟨rfl, rfl⟩) (by omega) (Or.inl rfl)
  unfold topOf; split <;> omega

/-! ### One more -/
theorem takew_all {us : List U} {p : U → Bool} {v : U} (h : v ∈ us.takeWhile p) : p v = true := by
  induction us with
  | nil => cases h
  | cons w us ih =>
    rw [List.takeWhile_cons] at h
    split at h
    · rcases List.mem_cons.1 h with rfl | e
      · assumption
      · exact ih e
    · cases h
theorem ins_split {us : List U} {u : U} (hs : byId us) (hn : ∀ v ∈ us, v.id ≠ u.id) : ∃ a b, us = a ++ b ∧ insU us u = a ++ u :: b ∧ (∀ v ∈ a, v.id < u.id) ∧ ∀ v ∈ b, u.id < v.id := by
  refine ⟨us.takeWhile (fun v => decide (v.id ≤ u.id)), us.dropWhile (fun v => decide (v.id ≤ u.id)), List.takeWhile_append_dropWhile.symm, rfl, ?_, ?_⟩
  · intro v hv
    have h1 := takew_all hv
    have h2 := hn v (List.IsPrefix.mem hv (List.takeWhile_prefix _))
    simp at h1
    omega
  · intro v hv
    induction us with
    | nil => cases hv
    | cons w us ih =>
      rw [List.dropWhile_cons] at hv
      split at hv
      · exact ih (List.Pairwise.of_cons hs) (fun v hv => hn v (by simp [hv])) hv
      · rename_i h
        simp at h
        rcases List.mem_cons.1 hv with rfl | e
        · exact h
        · have := List.rel_of_pairwise_cons hs e
          omega
theorem mem_ins {us : List U} {u : U} (hs : byId us) (hn : ∀ v ∈ us, v.id ≠ u.id) (v : U) : v ∈ insU us u ↔ v = u ∨ v ∈ us := by
  obtain ⟨a, b, h1, h2, -, -⟩ := ins_split hs hn
  rw [h2, h1]
  simp only [List.mem_append, List.mem_cons]
  constructor
  · rintro (h | h | h)
    · exact Or.inr (Or.inl h)
    · exact Or.inl h
    · exact Or.inr (Or.inr h)
  · rintro (h | h | h)
    · exact Or.inr (Or.inl h)
    · exact Or.inl h
    · exact Or.inr (Or.inr h)
theorem byId_ins {us : List U} {u : U} (hs : byId us) (hn : ∀ v ∈ us, v.id ≠ u.id) : byId (insU us u) := by
  obtain ⟨a, b, h1, h2, h3, h4⟩ := ins_split hs hn
  rw [h2]
  rw [h1] at hs
  unfold byId at *
  rw [List.pairwise_append] at hs ⊢
  obtain ⟨p1, p2, p3⟩ := hs
  refine ⟨p1, List.pairwise_cons.2 ⟨h4, p2⟩, ?_⟩
  intro x hx y hy
  rcases List.mem_cons.1 hy with rfl | e
  · exact h3 x hx
  · exact p3 x hx y e
theorem perm_ins {us : List U} {u : U} : (insU us u).Perm (u :: us) := by
  unfold insU
  refine List.perm_middle.trans ?_
  rw [List.takeWhile_append_dropWhile]
theorem ids_ins {us : List U} {u : U} : (idsOf (insU us u)).Perm (u.id :: idsOf us) := by
  unfold idsOf
  exact perm_ins.map _
theorem length_ins {us : List U} {u : U} : (insU us u).length = us.length + 1 := by
  rw [perm_ins.length_eq]; rfl

theorem newId_fresh {g : G} (hg : Right g) (hc : g.free ≠ [] ∨ g.next ≤ topOf g.new) (hnf : g.new = true → g.free = []) : 1 ≤ newId g ∧ newId g ≤ topOf g.new ∧ (∀ v ∈ g.us, v.id ≠ newId g) ∧ newId g < (if g.free = [] then g.next + 1 else g.next) := by
  have hh := hg.head
  unfold headBad at hh
  unfold newId
  cases hl : g.free.getLast? with
  | none =>
    rw [List.getLast?_eq_none_iff] at hl
    rw [if_pos hl]
    dsimp only
    refine ⟨by omega, ?_, ?_, by omega⟩
    · rcases hc with h | h
      · exact absurd hl h
      · exact h
    · intro v hv
      have := hg.below v hv
      omega
  | some x =>
    have hne : g.free ≠ [] := by intro e; rw [e] at hl; cases hl
    rw [if_neg hne]
    dsimp only
    have hx : x ∈ g.free := List.mem_of_getLast? hl
    have hold : g.new = false := by
      cases hn : g.new
      · rfl
      · exact absurd (hnf hn) hne
    have hf := (freeOk_iff (byId_iff.1 hg.sorted) (by omega)).1 (hg.free hold)
    have hb : 1 ≤ x ∧ x < g.next := by
      apply Decidable.not_not.1
      intro hb
      have := tally_out _ (g.next - 1).toNat x (List.mem_append.2 (Or.inr hx) : x ∈ idsOf g.us ++ g.free) (by omega)
      rw [tally_ones _ _ hf.1, hf.2] at this
      omega
    refine ⟨hb.1, by omega, ?_, hb.2⟩
    intro v hv e
    have h1 := hf.1 (x - 1).toNat (by omega)
    rw [show (((x - 1).toNat : Nat) : Int) + 1 = x from by omega, List.count_append] at h1
    have h2 := List.count_pos_iff.2 hx
    have h3 : 0 < (idsOf g.us).count x := List.count_pos_iff.2 (by rw [← e]; exact List.mem_map.2 ⟨v, hv, rfl⟩)
    omega

theorem free_built {g : G} (hg : Right g) (hold : g.new = false) {u : U} (hu : u.id = newId g) (hnew : ∀ v ∈ g.us, v.id ≠ u.id) :
    freeOk (if g.free = [] then g.next + 1 else g.next) g.free.dropLast (insU g.us u) = true := by
  have hh := hg.head
  unfold headBad at hh
  have hf := (freeOk_iff (byId_iff.1 hg.sorted) (by omega)).1 (hg.free hold)
  have hs2 := byId_ins hg.sorted hnew
  have hperm : (idsOf (insU g.us u) ++ g.free.dropLast).Perm (u.id :: (idsOf g.us ++ g.free.dropLast)) := by
    have := (ids_ins (us := g.us) (u := u)).append_right g.free.dropLast
    simpa using this
  by_cases he : g.free = []
  · rw [if_pos he, freeOk_iff (byId_iff.1 hs2) (by omega)]
    have hid : u.id = g.next := by rw [hu]; unfold newId; rw [he]; rfl
    rw [he] at hf hperm ⊢
    simp only [List.dropLast_nil, List.append_nil] at hf hperm ⊢
    constructor
    · intro i hi
      rw [hperm.count_eq, List.count_cons]
      by_cases hlast : i < (g.next - 1).toNat
      · rw [hf.1 i hlast, if_neg]
        simp; omega
      · have hi' : (i : Int) + 1 = g.next := by omega
        rw [hi', hid]
        simp only [beq_self_eq_true, if_true]
        have : (idsOf g.us).count g.next = 0 := by
          rw [List.count_eq_zero]
          intro hm
          obtain ⟨v, hv, e⟩ := List.mem_map.1 hm
          exact hnew v hv (by rw [hid]; exact e)
        omega
    · rw [hperm.length_eq, List.length_cons, hf.2]
      omega
  · rw [if_neg he, freeOk_iff (byId_iff.1 hs2) (by omega)]
    have hid : u.id = g.free.getLast he := by rw [hu]; unfold newId; rw [List.getLast?_eq_some_getLast he]
    have hsplit : g.free.dropLast ++ [g.free.getLast he] = g.free := List.dropLast_concat_getLast he
    have hp2 : (u.id :: (idsOf g.us ++ g.free.dropLast)).Perm (idsOf g.us ++ g.free) := by
      rw [hid]
      conv => rhs; rw [← hsplit, ← List.append_assoc]
      exact (List.perm_append_comm (l₁ := [g.free.getLast he]))
    have hp3 := hperm.trans hp2
    refine ⟨fun i hi => ?_, ?_⟩
    · rw [hp3.count_eq]; exact hf.1 i hi
    · rw [hp3.length_eq]; exact hf.2

theorem right_builds {g : G} (hg : Right g) {i : Nat} {u : U} (hi : g.us[i]? = some u) {kind x y : Int} (hc : canBuild g i kind x y) (hnf : g.new = true → g.free = []) : Right (built g i kind x y) := by
  have hd : g.us.getD i zeroU = u := by simp [List.getD, hi]
  obtain ⟨c1, c2, c3, c4, c5, c6, c7, c8, c9⟩ := hc
  rw [hd] at c3 c6 c7
  obtain ⟨f1, f2, f3, f4⟩ := newId_fresh hg c9 hnf
  have hu := hg.ok (List.mem_of_getElem? hi)
  have hh := hg.head
  unfold headBad at hh
  have hbu : (builtU g i kind x y).id = newId g := rfl
  have hnew : ∀ v ∈ g.us, v.id ≠ (builtU g i kind x y).id := f3
  have hmine := hu.mine
  have ho0 := hu.own0
  have ho2 := hu.own2
  have hrb := ruleOf_bd g.new kind
  have hhp := ruleOf_hp g.new kind c1 c2
  have hpay : (pay g u.owner (ruleOf g.new kind).cost).new = g.new ∧ (pay g u.owner (ruleOf g.new kind).cost).tick = g.tick ∧ 0 ≤ (pay g u.owner (ruleOf g.new kind).cost).g0 ∧ (pay g u.owner (ruleOf g.new kind).cost).g0 ≤ richOf g.new ∧ 0 ≤ (pay g u.owner (ruleOf g.new kind).cost).g1 ∧ (pay g u.owner (ruleOf g.new kind).cost).g1 ≤ richOf g.new := by
    unfold goldOf at c7
    unfold pay
    by_cases h0 : u.owner = 0
    · rw [if_pos h0] at c7 ⊢; dsimp only; exact ⟨rfl, rfl, by omega, by omega, by omega, by omega⟩
    · rw [if_neg h0] at c7 ⊢; dsimp only; exact ⟨rfl, rfl, by omega, by omega, by omega, by omega⟩
  obtain ⟨p1, p2, p3, p4, p5, p6⟩ := hpay
  have hok : OneOk g.new g.tick (builtU g i kind x y) := by
    unfold builtU
    rw [hd]
    refine ⟨c1, f1, f2, c4, by show 1 ≤ (ruleOf g.new kind).hp; omega, ?_, by show (0 : Int) ≤ 0; omega, by show (0 : Int) ≤ 3; omega, by show (0 : Int) ≤ 0; omega, ?_, ?_, ho0, ho2, ?_, ?_, ?_, by show (1 : Int) < 0 ↔ (0 : Int) < 0; omega⟩
    · show (ruleOf g.new kind).hp ≤ if kind = 4 then 100 else (ruleOf g.new kind).hp
      rw [if_neg c2]; omega
    · show (0 : Int) ≤ topOf g.new
      unfold topOf; split <;> omega
    · intro hn
      show 0 ≤ (if g.new = true then g.tick else 0) ∧ (if g.new = true then g.tick else 0) ≤ g.tick
      rw [if_pos hn]; omega
    · show u.owner = 2 ↔ kind = 4
      constructor
      · intro h; have := hmine.1 h; omega
      · intro h; exact absurd h c2
    · intro h; cases h
    · intro _; exact ⟨rfl, rfl⟩
  have hsize : (insU g.us (builtU g i kind x y)).length ≤ 20 := by rw [length_ins]; have := hg.few; omega
  unfold built
  rw [hd]
  refine ⟨?_, hsize, ?_, ?_, byId_ins hg.sorted hnew, ?_, ?_, ?_, ?_⟩
  · unfold headBad
    show ¬ ((pay g u.owner (ruleOf g.new kind).cost).tick < 0 ∨ 60 < (pay g u.owner (ruleOf g.new kind).cost).tick ∨ (if g.free = [] then g.next + 1 else g.next) < 1 ∨ topOf (pay g u.owner (ruleOf g.new kind).cost).new + 1 < (if g.free = [] then g.next + 1 else g.next) ∨ (pay g u.owner (ruleOf g.new kind).cost).g0 < 0 ∨ richOf (pay g u.owner (ruleOf g.new kind).cost).new < (pay g u.owner (ruleOf g.new kind).cost).g0 ∨ (pay g u.owner (ruleOf g.new kind).cost).g1 < 0 ∨ richOf (pay g u.owner (ruleOf g.new kind).cost).new < (pay g u.owner (ruleOf g.new kind).cost).g1)
    rw [p1, p2]
    by_cases he : g.free = []
    · rw [if_pos he]
      have : g.next ≤ topOf g.new := c9.resolve_left (fun h => h he)
      omega
    · rw [if_neg he]; omega
  · intro v hv
    show oneFault (pay g u.owner (ruleOf g.new kind).cost).new (pay g u.owner (ruleOf g.new kind).cost).tick v = 0
    rw [p1, p2]
    rcases (mem_ins hg.sorted hnew v).1 hv with rfl | h
    · exact (one_iff _ _ _).2 hok
    · exact hg.one v h
  · intro v hv
    show v.id < (if g.free = [] then g.next + 1 else g.next)
    rcases (mem_ins hg.sorted hnew v).1 hv with rfl | h
    · exact f4
    · have := hg.below v h
      split <;> omega
  · show apartU (insU g.us (builtU g i kind x y))
    unfold apartU
    rw [(perm_ins.map spot).nodup_iff, List.map_cons, List.nodup_cons]
    refine ⟨?_, hg.apart⟩
    intro h
    have := (stands_iff g.us x y).2 h
    rw [c5] at this
    cases this
  · intro v hv
    show aimsOk (pay g u.owner (ruleOf g.new kind).cost).new (insU g.us (builtU g i kind x y)) v = true
    rw [p1, aims_iff]
    rcases (mem_ins hg.sorted hnew v).1 hv with rfl | h
    · exact Or.inl rfl
    · rcases (aims_iff _ _ _).1 (hg.aims v h) with h' | ⟨t, h2, h3⟩
      · exact Or.inl h'
      · right
        obtain ⟨q1, q2⟩ := find_some h2
        refine ⟨t, ?_, h3⟩
        rw [← q2]
        exact find_mem (byId_ins hg.sorted hnew) ((mem_ins hg.sorted hnew t).2 (Or.inr q1))
  · intro hn
    have hold : g.new = false := by rw [← p1]; exact hn
    exact free_built hg hold hbu hnew
  · show g.free.dropLast.length ≤ 200
    rw [List.length_dropLast]
    have := hg.unfree
    omega
theorem built_new (g : G) (i : Nat) (kind x y : Int) : (built g i kind x y).new = g.new ∧ (built g i kind x y).tick = g.tick := by
  unfold built pay
  split <;> exact ⟨rfl, rfl⟩
theorem built_free (g : G) (i : Nat) (kind x y : Int) (h : g.free = []) : (built g i kind x y).free = [] := by
  unfold built
  show g.free.dropLast = []
  rw [h]; rfl

/-- A game that goes on: right; of the newer one nothing is free. -/
structure Going (g0 : G) (s : GB) : Prop where
  right : Right s.1
  new : s.1.new = g0.new
  tick : s.1.tick = g0.tick
  nofree : s.1.new = true → s.1.free = []
theorem Going.us {g0 : G} {s : GB} (h : Going g0 s) {us : List U} (hr : Right { s.1 with us := us }) : Going g0 (withUs s us) := ⟨hr, h.new, h.tick, h.nofree⟩
theorem Going.builds {g0 : G} {s : GB} (h : Going g0 s) {i : Nat} {u : U} (hi : s.1.us[i]? = some u) (kind x y : Int) : Going g0 (buildsF s i kind x y) := by
  unfold buildsF
  split
  · rename_i hc
    obtain ⟨b1, b2⟩ := built_new s.1 i kind x y
    refine ⟨right_builds h.right hi hc h.nofree, b1.trans h.new, b2.trans h.tick, ?_⟩
    intro hn
    exact built_free _ _ _ _ _ (h.nofree (by rw [← b1]; exact hn))
  · exact h
theorem at_ix {us : List U} {id : Int} (h : ¬ ixOf us id < 0) : ∃ u, us[(ixOf us id).toNat]? = some u ∧ us.getD (ixOf us id).toNat zeroU = u ∧ u.id = id := by
  rcases ix_find us id with ⟨h1, -⟩ | ⟨k, u, h1, h2, h3, h4, h5⟩
  · exact absurd h1 h
  · rw [h1]
    exact ⟨u, by simpa using h5, by simpa using h3, (find_some h4).2⟩
theorem Going.ord {g0 : G} {s : GB} (h : Going g0 s) (c : Cm) : Going g0 (ordF s c) := by
  unfold ordF
  by_cases h0 : ixOf s.1.us c.id < 0 ∨ (s.1.us.getD (ixOf s.1.us c.id).toNat zeroU).owner ≠ c.player
  · rw [if_pos h0]; exact h
  rw [if_neg h0]
  obtain ⟨u, hu, hd, -⟩ := at_ix (us := s.1.us) (id := c.id) (fun x => h0 (Or.inl x))
  split
  · exact h.us (right_goes h.right hu _ _)
  split
  · split
    · exact h
    · exact h.us (right_aims h.right hu _ _)
  split
  · exact h.builds hu _ _ _
  split
  · rw [hd]; exact h.us (right_stop h.right hu)
  · exact h
theorem Going.ords {g0 : G} (l : List Cm) : ∀ {s : GB}, Going g0 s → Going g0 (l.foldl ordF s) := by
  induction l with
  | nil => intro s h; exact h
  | cons c l ih => intro s h; exact ih (h.ord c)
end Go.Proofs.Ytlfljlhppigejaa
namespace Go.Proofs.Ytlfljlhppigejaa

/-- What stays of one while all move, strike and are idle. -/
structure SameU (u v : U) : Prop where
  id : v.id = u.id
  owner : v.owner = u.owner
  kind : v.kind = u.kind
  since : v.since = u.since
theorem SameU.rfl' (u : U) : SameU u u := ⟨rfl, rfl, rfl, rfl⟩

theorem wish_on {g : G} (hg : Right g) {u : U} (hu : u ∈ g.us) {p : Int × Int} (hw : wishF g.new g.us u = some p) : onB p.1 p.2 = true := by
  have ho := hg.ok hu
  unfold wishF at hw
  split at hw
  · cases hw
  rename_i h1
  split at hw
  · cases hw
  cases hw
  have hgoal : onB (goalF g.us u).1 (goalF g.us u).2 = true := by
    unfold goalF
    split
    · rename_i hd
      exact (ho.going hd).1
    · rename_i hd
      have h0 := ho.does0
      have ht : 0 < u.target := ho.aim.1 (by omega)
      rcases (aims_iff _ _ _).1 (hg.aims u hu) with h | ⟨t, h2, -⟩
      · omega
      · rcases ix_find g.us u.target with ⟨-, h4⟩ | ⟨k, v, h3, h4, h5, h6, -⟩
        · rw [h4] at h2; cases h2
        · rw [h3]
          simp only [Int.toNat_natCast, h5]
          exact (hg.ok (find_some h6).1).on
  have hon := ho.on
  rw [onB_iff] at *
  have := near1_on u.x (goalF g.us u).1 (by omega) (by omega)
  have := near1_on u.y (goalF g.us u).2 (by omega) (by omega)
  show 0 ≤ near1 u.x (goalF g.us u).1 ∧ near1 u.x (goalF g.us u).1 < 12 ∧ 0 ≤ near1 u.y (goalF g.us u).2 ∧ near1 u.y (goalF g.us u).2 < 12
  omega

/-- It moves to p. -/
def movesTo (n : Bool) (old : List Int) (us : List U) (u : U) (p : Int × Int) : Prop := wishF n us u = some p ∧ old.contains u.id = true ∧ standsAt us p.1 p.2 = false ∧ wishers n old us p = 1
theorem move_cases (n : Bool) (old : List Int) (us : List U) (u : U) : moveF n old us u = u ∨ ∃ p, movesTo n old us u p ∧ moveF n old us u = { u with x := p.1, y := p.2 } := by
  unfold moveF movesTo
  cases hw : wishF n us u with
  | none => exact Or.inl rfl
  | some p =>
    dsimp only
    by_cases h : old.contains u.id = true ∧ standsAt us p.1 p.2 = false ∧ wishers n old us p = 1
    · rw [if_pos h]
      exact Or.inr ⟨p, ⟨rfl, h⟩, rfl⟩
    · rw [if_neg h]
      exact Or.inl rfl
theorem count_two {α : Type} {l : List α} {p : α → Bool} {i j : Nat} (hi : i < l.length) (hj : j < l.length) (hij : i < j) (h1 : p l[i] = true) (h2 : p l[j] = true) : 2 ≤ l.countP p := by
  have hs : l = l.take j ++ l.drop j := (List.take_append_drop j l).symm
  rw [hs, List.countP_append]
  have ha : 0 < (l.take j).countP p := List.countP_pos_iff.2 ⟨l[i], by rw [List.mem_take_iff_getElem]; exact ⟨i, by omega, rfl⟩, h1⟩
  have hb : 0 < (l.drop j).countP p := List.countP_pos_iff.2 ⟨l[j], by rw [List.drop_eq_getElem_cons hj]; exact List.mem_cons_self, h2⟩
  omega
theorem moves_apart (n : Bool) (old : List Int) (us : List U) (hp : apartU us) : apartU (us.map (moveF n old us)) := by
  unfold apartU at *
  rw [List.map_map, List.nodup_iff_pairwise_ne, List.pairwise_map, List.pairwise_iff_getElem]
  rw [List.nodup_iff_pairwise_ne, List.pairwise_map, List.pairwise_iff_getElem] at hp
  intro i j hi hj hij e
  have h0 := hp i j hi hj hij
  simp only [Function.comp] at e
  have hst : ∀ (k : Nat) (hk : k < us.length) (p : Int × Int), standsAt us p.1 p.2 = false → spot us[k] ≠ p := by
    intro k hk p hs he
    have : standsAt us p.1 p.2 = true := (stands_iff _ _ _).2 (by
      rw [show ((p.1, p.2) : Int × Int) = p from rfl, ← he]
      exact List.mem_map.2 ⟨us[k], List.getElem_mem hk, rfl⟩)
    rw [hs] at this
    cases this
  rcases move_cases n old us us[i] with h1 | ⟨p, h1, h2⟩ <;> rcases move_cases n old us us[j] with h3 | ⟨q, h3, h4⟩
  · rw [h1, h3] at e; exact h0 e
  · rw [h1, h4] at e
    exact hst i hi q h3.2.2.1 e
  · rw [h2, h3] at e
    exact hst j hj p h1.2.2.1 e.symm
  · rw [h2, h4] at e
    have hpq : p = q := e
    subst hpq
    have := count_two (p := fun v => old.contains v.id && wishF n us v == some p) hi hj hij (by simp [h1.1]; simpa using h1.2.1) (by simp [h3.1]; simpa using h3.2.1)
    have h5 := h1.2.2.2
    unfold wishers at h5
    omega
theorem arrive_spot (old : List Int) (u : U) : spot (arriveF old u) = spot u := by
  unfold arriveF
  split <;> rfl
theorem arrive_cases (old : List Int) (u : U) : arriveF old u = u ∨ (u.does = 1 ∧ arriveF old u = tellU u 0 0 0 0) := by
  unfold arriveF
  split
  · rename_i h
    exact Or.inr ⟨h.2.1, rfl⟩
  · exact Or.inl rfl
/-- How one is behind the moves. -/
structure Moved (n : Bool) (old : List Int) (us : List U) (u v : U) : Prop where
  same : SameU u v
  hp : v.hp = u.hp
  job : (v.does = u.does ∧ v.gx = u.gx ∧ v.gy = u.gy ∧ v.target = u.target) ∨ (u.does = 1 ∧ v.does = 0 ∧ v.gx = 0 ∧ v.gy = 0 ∧ v.target = 0)
  at_ : spot v = spot u ∨ ∃ p, movesTo n old us u p ∧ spot v = p
theorem moved (n : Bool) (old : List Int) (us : List U) (u : U) : Moved n old us u (arriveF old (moveF n old us u)) := by
  rcases move_cases n old us u with h1 | ⟨p, h1, h2⟩
  · rw [h1]
    rcases arrive_cases old u with h3 | ⟨h3, h4⟩
    · rw [h3]; exact ⟨SameU.rfl' u, rfl, Or.inl ⟨rfl, rfl, rfl, rfl⟩, Or.inl rfl⟩
    · rw [h4]; exact ⟨⟨rfl, rfl, rfl, rfl⟩, rfl, Or.inr ⟨h3, rfl, rfl, rfl, rfl⟩, Or.inl rfl⟩
  · rw [h2]
    rcases arrive_cases old { u with x := p.1, y := p.2 } with h3 | ⟨h3, h4⟩
    · rw [h3]; exact ⟨⟨rfl, rfl, rfl, rfl⟩, rfl, Or.inl ⟨rfl, rfl, rfl, rfl⟩, Or.inr ⟨p, h1, rfl⟩⟩
    · rw [h4]; exact ⟨⟨rfl, rfl, rfl, rfl⟩, rfl, Or.inr ⟨h3, rfl, rfl, rfl, rfl⟩, Or.inr ⟨p, h1, rfl⟩⟩
theorem moves_places (n : Bool) (old : List Int) (us : List U) (hp : apartU us) : apartU (movesF n old us) := by
  have h := moves_apart n old us hp
  unfold apartU movesF at *
  rw [List.map_map] at h ⊢
  rw [List.map_congr_left (g := spot ∘ moveF n old us)]
  · exact h
  · intro u _
    exact arrive_spot old _

theorem right_moves {g : G} (hg : Right g) (old : List Int) : Right { g with us := movesF g.new old g.us } := by
  have hm : ∀ u, Moved g.new old g.us u (arriveF old (moveF g.new old g.us u)) := fun u => moved g.new old g.us u
  have hi : ∀ u ∈ g.us, (arriveF old (moveF g.new old g.us u)).id = u.id := fun u _ => (hm u).same.id
  refine ⟨hg.head, by show (movesF g.new old g.us).length ≤ 20; unfold movesF; simpa using hg.few, ?_, ?_, byId_map hi hg.sorted, moves_places _ _ _ hg.apart, ?_, ?_, hg.unfree⟩
  · intro v hv
    obtain ⟨u, hu, rfl⟩ := List.mem_map.1 hv
    have ho := hg.ok hu
    have h := hm u
    generalize arriveF old (moveF g.new old g.us u) = v at h
    rw [one_iff]
    obtain ⟨⟨s1, s2, s3, s4⟩, s5, s6, s7⟩ := h
    have hon : onB v.x v.y = true := by
      rcases s7 with e | ⟨p, hp, e⟩
      · have : (v.x, v.y) = (u.x, u.y) := e
        simp only [Prod.mk.injEq] at this
        rw [this.1, this.2]; exact ho.on
      · have : (v.x, v.y) = (p.1, p.2) := e
        simp only [Prod.mk.injEq] at this
        rw [this.1, this.2]; exact wish_on hg hu hp.1
    have hx := ho.aim
    refine ⟨by rw [s3]; exact ho.rule, by rw [s1]; exact ho.id1, by rw [s1]; exact ho.idT, hon, by rw [s5]; exact ho.hp1, by rw [s5, s3]; exact ho.hpT, ?_, ?_, ?_, ?_, by rw [s4]; exact ho.since, by rw [s2]; exact ho.own0, by rw [s2]; exact ho.own2, by rw [s2, s3]; exact ho.mine, ?_, ?_, ?_⟩
    · rcases s6 with h | h
      · rw [h.1]; exact ho.does0
      · omega
    · rcases s6 with h | h
      · rw [h.1]; exact ho.does3
      · omega
    · rcases s6 with h | h
      · rw [h.2.2.2]; exact ho.tgt0
      · omega
    · rcases s6 with h | h
      · rw [h.2.2.2]; exact ho.tgtT
      · have h1 := ho.tgtT; have h2 := ho.tgt0; show v.target ≤ topOf g.new; omega
    · intro hd
      rcases s6 with h | h
      · rw [s3, h.2.1, h.2.2.1]; exact ho.going (by omega)
      · omega
    · intro hd
      rcases s6 with h | h
      · have := ho.still (by omega); omega
      · omega
    · rcases s6 with h | h
      · rw [h.1, h.2.2.2]; exact ho.aim
      · omega
  · intro v hv
    obtain ⟨u, hu, rfl⟩ := List.mem_map.1 hv
    show (arriveF old (moveF g.new old g.us u)).id < _
    rw [hi u hu]; exact hg.below u hu
  · intro v hv
    obtain ⟨u, hu, rfl⟩ := List.mem_map.1 hv
    show aimsOk g.new (movesF g.new old g.us) _ = true
    rw [aims_iff]
    have ho := hg.ok hu
    rcases (hm u).job with h | h
    · rw [h.1, h.2.2.2]
      rcases (aims_iff _ _ _).1 (hg.aims u hu) with h' | ⟨t, h2, h3⟩
      · exact Or.inl h'
      · right
        unfold movesF
        refine ⟨_, by rw [find_map hi, h2]; rfl, ?_⟩
        rw [← h3]
        exact mayDo_congr (hm u).same.kind (hm u).same.owner (hm t).same.kind (hm t).same.owner
    · exact Or.inl h.2.2.2.2
  · intro hn
    show freeOk g.next g.free (movesF g.new old g.us) = true
    unfold movesF
    rw [freeOk_ids (ids_map hi)]
    exact hg.free hn

theorem blow_nonneg (n : Bool) (u : U) : 0 ≤ blow n u := by
  have := ruleOf_bd n u.kind
  unfold blow
  split <;> omega
theorem loss_nonneg (n : Bool) (old : List Int) (us : List U) (id : Int) (l : List U) : 0 ≤ lossF n old us id l := by
  induction l with
  | nil => exact Int.le_refl _
  | cons u l ih =>
    unfold lossF
    have := blow_nonneg n u
    split <;> omega
theorem gain_range (n : Bool) (old : List Int) (us : List U) (o : Int) (l : List U) : ∀ (g : Int), 0 ≤ g → g ≤ richOf n → 0 ≤ gainF n old us o l g ∧ gainF n old us o l g ≤ richOf n := by
  induction l with
  | nil => intro g h1 h2; exact ⟨h1, h2⟩
  | cons u l ih =>
    intro g h1 h2
    unfold gainF
    have := ruleOf_bd n u.kind
    split
    · exact ih _ (by omega) (by omega)
    · exact ih g h1 h2
theorem idle_cases (us : List U) (u : U) : (idleF us u = u ∧ (u.target ≤ 0 ∨ ∃ t, findU us u.target = some t)) ∨ (0 < u.target ∧ findU us u.target = none ∧ idleF us u = tellU u 0 0 0 0) := by
  unfold idleF
  rcases ix_find us u.target with ⟨h1, h2⟩ | ⟨k, t, h1, h2, h3, h4, -⟩
  · by_cases h : 0 < u.target
    · rw [if_pos ⟨h, h1⟩]; exact Or.inr ⟨h, h2, rfl⟩
    · rw [if_neg (fun x => h x.1)]; exact Or.inl ⟨rfl, Or.inl (by omega)⟩
  · rw [if_neg (by omega)]
    exact Or.inl ⟨rfl, Or.inr ⟨t, h4⟩⟩
theorem gone_perm (us : List U) : (idsOf (leftF us) ++ goneF us).Perm (idsOf us) := by
  unfold idsOf leftF goneF
  rw [← List.map_append]
  apply List.Perm.map
  have : (fun u : U => decide (u.hp ≤ 0)) = fun u => !decide (0 < u.hp) := by
    funext u
    rw [Bool.eq_iff_iff]
    simp
  rw [this]
  exact List.filter_append_perm (fun u => decide (0 < u.hp)) us

theorem right_end {g : G} (hg : Right g) (old : List Int) (ht : g.tick < 60) : Right (endF g old) := by
  obtain ⟨us1, e1⟩ : ∃ us1, movesF g.new old g.us = us1 := ⟨_, rfl⟩
  have h1 : Right { g with us := us1 } := by rw [← e1]; exact right_moves hg old
  obtain ⟨us2, e2⟩ : ∃ us2, hurtF g.new old us1 = us2 := ⟨_, rfl⟩
  have hid2 : ∀ u ∈ us1, ({ u with hp := u.hp - lossF g.new old us1 u.id us1 } : U).id = u.id := fun u _ => rfl
  have hs2 : byId us2 := by rw [← e2]; exact byId_map hid2 h1.sorted
  have hmem2 : ∀ v ∈ us2, ∃ u ∈ us1, v = { u with hp := u.hp - lossF g.new old us1 u.id us1 } := by
    intro v hv
    rw [← e2] at hv
    obtain ⟨u, hu, rfl⟩ := List.mem_map.1 hv
    exact ⟨u, hu, rfl⟩
  have hidsof : idsOf us2 = idsOf g.us := by
    rw [← e2]
    unfold hurtF
    rw [ids_map hid2, ← e1]
    unfold movesF
    rw [ids_map (fun u _ => (moved g.new old g.us u).same.id)]
  obtain ⟨us3, e3⟩ : ∃ us3, leftF us2 = us3 := ⟨_, rfl⟩
  have hs3 : byId us3 := by rw [← e3]; exact byId_filter _ hs2
  have hmem3 : ∀ v ∈ us3, v ∈ us2 ∧ 0 < v.hp := by
    intro v hv
    rw [← e3] at hv
    have := List.mem_filter.1 hv
    simpa using this
  have hid4 : ∀ u ∈ us3, (idleF us3 u).id = u.id ∧ (idleF us3 u).kind = u.kind ∧ (idleF us3 u).owner = u.owner := by
    intro u _
    rcases idle_cases us3 u with ⟨h, -⟩ | ⟨-, -, h⟩ <;> rw [h] <;> exact ⟨rfl, rfl, rfl⟩
  have hend : endF g old = { g with tick := g.tick + 1, g0 := gainF g.new old us1 0 us1 g.g0, g1 := gainF g.new old us1 1 us1 g.g1, free := if g.new then g.free else g.free ++ goneF us2, us := us3.map (idleF us3) } := by
    unfold endF
    rw [e1, e2, e3]
  have hh := hg.head
  unfold headBad at hh
  have hsub : us3.Sublist us2 := by rw [← e3]; exact List.filter_sublist
  have hlen2 : us2.length = g.us.length := by
    have := congrArg List.length hidsof
    simpa [idsOf] using this
  have hle : us3.length ≤ us2.length := hsub.length_le
  rw [hend]
  refine ⟨?_, ?_, ?_, ?_, byId_map (fun u hu => (hid4 u hu).1) hs3, ?_, ?_, ?_, ?_⟩
  · unfold headBad
    dsimp only
    have := gain_range g.new old us1 0 us1 g.g0 (by omega) (by omega)
    have := gain_range g.new old us1 1 us1 g.g1 (by omega) (by omega)
    omega
  · show (us3.map (idleF us3)).length ≤ 20
    rw [List.length_map]
    have := hg.few
    omega
  · intro v hv
    obtain ⟨w, hw, rfl⟩ := List.mem_map.1 hv
    obtain ⟨h2, h3⟩ := hmem3 w hw
    obtain ⟨u, hu, rfl⟩ := hmem2 w h2
    have ho := h1.ok hu
    dsimp only at ho h3
    show oneFault g.new (g.tick + 1) _ = 0
    rw [one_iff]
    have hl := loss_nonneg g.new old us1 u.id us1
    have hok : OneOk g.new (g.tick + 1) { u with hp := u.hp - lossF g.new old us1 u.id us1 } := by
      refine ⟨ho.rule, ho.id1, ho.idT, ho.on, by show 1 ≤ u.hp - lossF g.new old us1 u.id us1; omega, ?_, ho.does0, ho.does3, ho.tgt0, ho.tgtT, ?_, ho.own0, ho.own2, ho.mine, ho.going, ho.still, ho.aim⟩
      · show u.hp - lossF g.new old us1 u.id us1 ≤ if u.kind = 4 then 100 else (ruleOf g.new u.kind).hp
        have := ho.hpT
        omega
      · intro hn
        have : 0 ≤ u.since ∧ u.since ≤ g.tick := ho.since hn
        show 0 ≤ u.since ∧ u.since ≤ g.tick + 1
        omega
    rcases idle_cases us3 { u with hp := u.hp - lossF g.new old us1 u.id us1 } with ⟨h, -⟩ | ⟨-, -, h⟩
    · rw [h]; exact hok
    · rw [h]
      refine tell_ok hok (by omega) (by omega) (by omega) ?_ (fun h => by cases h) (fun _ => ⟨rfl, rfl⟩) (by omega)
      unfold topOf; split <;> omega
  · intro v hv
    obtain ⟨w, hw, rfl⟩ := List.mem_map.1 hv
    rw [(hid4 w hw).1]
    obtain ⟨u, hu, rfl⟩ := hmem2 w (hmem3 w hw).1
    exact h1.below u hu
  · have hp1 : apartU us1 := h1.apart
    show apartU (us3.map (idleF us3))
    unfold apartU at *
    rw [List.map_map, List.map_congr_left (g := spot)]
    · have hsp : us2.map spot = us1.map spot := by
        rw [← e2]
        unfold hurtF
        rw [List.map_map]
        rfl
      rw [← hsp] at hp1
      exact List.Nodup.sublist (hsub.map spot) hp1
    · intro u _
      show spot (idleF us3 u) = spot u
      rcases idle_cases us3 u with ⟨h, -⟩ | ⟨-, -, h⟩ <;> rw [h] <;> rfl
  · intro v hv
    obtain ⟨w, hw, rfl⟩ := List.mem_map.1 hv
    show aimsOk g.new (us3.map (idleF us3)) (idleF us3 w) = true
    rw [aims_iff]
    rcases idle_cases us3 w with ⟨h, hq⟩ | ⟨-, -, h⟩
    · rw [h]
      obtain ⟨u, hu, rfl⟩ := hmem2 w (hmem3 w hw).1
      rcases (aims_iff _ _ _).1 (h1.aims u hu) with h' | ⟨t, h2, h3⟩
      · exact Or.inl h'
      · rcases hq with hq | ⟨s, hq⟩
        · have := (h1.ok hu).tgt0
          dsimp only at hq
          left
          show u.target = 0
          omega
        · right
          refine ⟨idleF us3 s, by rw [find_map (fun x hx => (hid4 x hx).1), hq]; rfl, ?_⟩
          obtain ⟨k1, k2⟩ := find_some hq
          obtain ⟨t', ht', e⟩ := hmem2 s (hmem3 s k1).1
          have htt : t' = t := by
            obtain ⟨m1, m2⟩ := find_some h2
            refine byId_inj h1.sorted ht' m1 ?_
            rw [m2, ← k2, e]
          subst htt
          show mayDo g.new _ _ = u.does
          rw [← h3]
          refine mayDo_congr rfl rfl ?_ ?_
          · rw [(hid4 s k1).2.1, e]
          · rw [(hid4 s k1).2.2, e]
    · rw [h]; exact Or.inl rfl
  · intro hn
    have hn' : g.new = false := hn
    show freeOk g.next (if g.new then g.free else g.free ++ goneF us2) (us3.map (idleF us3)) = true
    rw [hn', if_neg (by simp), freeOk_ids (ids_map (fun u hu => (hid4 u hu).1)), freeOk_iff (byId_iff.1 hs3) (by omega)]
    have hf := (freeOk_iff (byId_iff.1 hg.sorted) (by omega)).1 (hg.free hn')
    have hperm : (idsOf us3 ++ (g.free ++ goneF us2)).Perm (idsOf g.us ++ g.free) := by
      have h5 := gone_perm us2
      rw [e3, hidsof] at h5
      refine List.Perm.trans ?_ (h5.append_right g.free)
      rw [List.append_assoc]
      exact List.Perm.append_left _ List.perm_append_comm
    exact ⟨fun i hi => by rw [hperm.count_eq]; exact hf.1 i hi, by rw [hperm.length_eq]; exact hf.2⟩
  · show (if g.new then g.free else g.free ++ goneF us2).length ≤ 200
    by_cases hn : g.new = true
    · rw [if_pos hn]; exact hg.unfree
    · have hn' : g.new = false := by simpa using hn
      rw [if_neg hn]
      have hf := (freeOk_iff (byId_iff.1 hg.sorted) (by omega)).1 (hg.free hn')
      have h5 := (gone_perm us2).length_eq
      rw [hidsof] at h5
      have h6 := hf.2
      have h7 : topOf g.new = 200 := by unfold topOf; rw [hn']; rfl
      simp only [List.length_append] at h5 h6 ⊢
      omega
end Go.Proofs.Ytlfljlhppigejaa
namespace Go.Proofs.Ytlfljlhppigejaa

/-- One as it was, but for what it does. -/
structure Kept (u v : U) : Prop where
  same : SameU u v
  at_ : spot v = spot u
  hp : v.hp = u.hp
theorem Kept.refl (u : U) : Kept u u := ⟨SameU.rfl' u, rfl, rfl⟩
theorem Kept.trans {u v w : U} (h : Kept u v) (k : Kept v w) : Kept u w :=
  ⟨⟨k.same.id.trans h.same.id, k.same.owner.trans h.same.owner, k.same.kind.trans h.same.kind, k.same.since.trans h.same.since⟩, k.at_.trans h.at_, k.hp.trans h.hp⟩

/-- s goes on from g. -/
structure Track (g : G) (s : GB) : Prop where
  going : Going g s
  kept : ∀ u ∈ g.us, ∃ v ∈ s.1.us, Kept u v
  here : ∀ v ∈ s.1.us, (v.id ∈ s.2 ∧ v.since = (if g.new then g.tick else 0) ∧ (g.new = true → g.next ≤ v.id) ∧ v.kind ≠ 4) ∨ ∃ u ∈ g.us, Kept u v
  fresh : ∀ i ∈ s.2, ∀ u ∈ g.us, u.id ≠ i
  many : s.1.us.length = g.us.length + s.2.length
  next : g.next ≤ s.1.next ∧ s.1.next ≤ g.next + s.2.length
  gold : s.1.g0 ≤ g.g0 ∧ s.1.g1 ≤ g.g1
theorem Track.start {g : G} (hg : Right g) (hf : g.new = true → g.free = []) : Track g (g, []) :=
  ⟨⟨hg, rfl, rfl, hf⟩, fun u hu => ⟨u, hu, Kept.refl u⟩, fun v hv => Or.inr ⟨v, hv, Kept.refl v⟩, fun i hi => (by cases hi), (by simp), (by simp), (by simp)⟩
theorem Track.set {g : G} {s : GB} (h : Track g s) {i : Nat} {u : U} (hi : s.1.us[i]? = some u) {d x y t : Int} (hr : Right { s.1 with us := s.1.us.set i (tellU u d x y t) }) : Track g (withUs s (s.1.us.set i (tellU u d x y t))) := by
  have hs := h.going.right.sorted
  have hu : u ∈ s.1.us := List.mem_of_getElem? hi
  have hk : Kept u (tellU u d x y t) := ⟨⟨rfl, rfl, rfl, rfl⟩, rfl, rfl⟩
  have hset := set_eq hs hi (tellU u d x y t)
  refine ⟨h.going.us hr, ?_, ?_, h.fresh, ?_, h.next, h.gold⟩
  · intro w hw
    obtain ⟨v, hv, k⟩ := h.kept w hw
    show ∃ z ∈ s.1.us.set i (tellU u d x y t), Kept w z
    rw [hset]
    by_cases e : v.id = u.id
    · have : v = u := byId_inj hs hv hu e
      subst this
      exact ⟨_, List.mem_map.2 ⟨v, hv, if_pos rfl⟩, k.trans hk⟩
    · exact ⟨v, List.mem_map.2 ⟨v, hv, if_neg e⟩, k⟩
  · intro z hz
    have hz' : z ∈ s.1.us.set i (tellU u d x y t) := hz
    rw [hset] at hz'
    obtain ⟨v, hv, rfl⟩ := List.mem_map.1 hz'
    by_cases e : v.id = u.id
    · have : v = u := byId_inj hs hv hu e
      subst this
      rw [if_pos rfl]
      rcases h.here v hv with h1 | ⟨w, hw, k⟩
      · exact Or.inl h1
      · exact Or.inr ⟨w, hw, k.trans hk⟩
    · rw [if_neg e]
      exact h.here v hv
  · show (s.1.us.set i (tellU u d x y t)).length = _
    rw [List.length_set]
    exact h.many
theorem Track.same {g : G} {s : GB} (h : Track g s) : Track g (withUs s s.1.us) := h
theorem Track.goes {g : G} {s : GB} (h : Track g s) {i : Nat} {u : U} (hi : s.1.us[i]? = some u) (x y : Int) : Track g (withUs s (goesF s.1.new s.1.us i x y)) := by
  have hd : s.1.us.getD i zeroU = u := by simp [List.getD, hi]
  have hr := right_goes h.going.right hi x y
  unfold goesF at hr ⊢
  rw [hd] at hr ⊢
  by_cases hc : onB x y = true ∧ 0 < (ruleOf s.1.new u.kind).speed
  · rw [if_pos hc] at hr ⊢; exact h.set hi hr
  · rw [if_neg hc]; exact h
theorem Track.aims {g : G} {s : GB} (h : Track g s) {i : Nat} {u : U} (hi : s.1.us[i]? = some u) (t d : Int) : Track g (withUs s (aimsF s.1.new s.1.us i t d)) := by
  have hd : s.1.us.getD i zeroU = u := by simp [List.getD, hi]
  have hr := right_aims h.going.right hi t d
  unfold aimsF at hr ⊢
  rw [hd] at hr ⊢
  by_cases hc : 0 ≤ ixOf s.1.us t ∧ 0 < d ∧ mayDo s.1.new u (s.1.us.getD (ixOf s.1.us t).toNat zeroU) = d
  · rw [if_pos hc] at hr ⊢; exact h.set hi hr
  · rw [if_neg hc]; exact h
theorem Track.builds {g : G} {s : GB} (h : Track g s) {i : Nat} {u : U} (hi : s.1.us[i]? = some u) (kind x y : Int) : Track g (buildsF s i kind x y) := by
  have hgo := h.going.builds hi kind x y
  unfold buildsF at hgo ⊢
  by_cases hc : canBuild s.1 i kind x y
  · rw [if_pos hc] at hgo ⊢
    have hd : s.1.us.getD i zeroU = u := by simp [List.getD, hi]
    obtain ⟨c1, c2, c3, c4, c5, c6, c7, c8, c9⟩ := hc
    obtain ⟨f1, f2, f3, f4⟩ := newId_fresh h.going.right c9 h.going.nofree
    have hnew : ∀ v ∈ s.1.us, v.id ≠ (builtU s.1 i kind x y).id := f3
    have hs := h.going.right.sorted
    have hrb := ruleOf_bd s.1.new kind
    refine ⟨hgo, ?_, ?_, ?_, ?_, ?_, ?_⟩
    · intro w hw
      obtain ⟨v, hv, k⟩ := h.kept w hw
      exact ⟨v, (mem_ins hs hnew v).2 (Or.inr hv), k⟩
    · intro v hv
      rcases (mem_ins hs hnew v).1 hv with rfl | hv
      · left
        refine ⟨by simp [builtU], ?_, ?_, c2⟩
        · show (if s.1.new then s.1.tick else 0) = _
          rw [h.going.new, h.going.tick]
        · intro hn
          show g.next ≤ newId s.1
          have hfr := h.going.nofree (by rw [h.going.new]; exact hn)
          unfold newId
          rw [hfr]
          exact h.next.1
      · rcases h.here v hv with ⟨h1, h2⟩ | h1
        · exact Or.inl ⟨List.mem_append.2 (Or.inl h1), h2⟩
        · exact Or.inr h1
    · intro j hj w hw
      rcases List.mem_append.1 hj with e | e
      · exact h.fresh j e w hw
      · obtain rfl : j = newId s.1 := by simpa using e
        obtain ⟨v, hv, k⟩ := h.kept w hw
        rw [← k.same.id]
        exact f3 v hv
    · show (insU s.1.us (builtU s.1 i kind x y)).length = _
      rw [length_ins, h.many]
      simp; omega
    · show g.next ≤ (if s.1.free = [] then s.1.next + 1 else s.1.next) ∧ (if s.1.free = [] then s.1.next + 1 else s.1.next) ≤ g.next + ((s.2 ++ [newId s.1]).length : Nat)
      have := h.next
      rw [List.length_append, List.length_singleton]
      split <;> omega
    · have hgold := h.gold
      show (pay s.1 (s.1.us.getD i zeroU).owner (ruleOf s.1.new kind).cost).g0 ≤ _ ∧ (pay s.1 (s.1.us.getD i zeroU).owner (ruleOf s.1.new kind).cost).g1 ≤ _
      unfold pay
      split
      · dsimp only; omega
      · dsimp only; omega
  · rw [if_neg hc]; exact h
theorem Track.ord {g : G} {s : GB} (h : Track g s) (c : Cm) : Track g (ordF s c) := by
  unfold ordF
  by_cases h0 : ixOf s.1.us c.id < 0 ∨ (s.1.us.getD (ixOf s.1.us c.id).toNat zeroU).owner ≠ c.player
  · rw [if_pos h0]; exact h
  rw [if_neg h0]
  obtain ⟨u, hu, hd, -⟩ := at_ix (us := s.1.us) (id := c.id) (fun x => h0 (Or.inl x))
  split
  · exact h.goes hu _ _
  split
  · split
    · exact h
    · exact h.aims hu _ _
  split
  · exact h.builds hu _ _ _
  split
  · rw [hd]; exact h.set hu (right_stop h.going.right hu)
  · exact h
theorem Track.ords {g : G} (l : List Cm) : ∀ {s : GB}, Track g s → Track g (l.foldl ordF s) := by
  induction l with
  | nil => intro s h; exact h
  | cons c l ih => intro s h; exact ih (h.ord c)
theorem ords_born (l : List Cm) : ∀ (s : GB), (l.foldl ordF s).2.length ≤ s.2.length + l.length := by
  induction l with
  | nil => intro s; simp
  | cons c l ih =>
    intro s
    have h1 := ih (ordF s c)
    have h2 : (ordF s c).2.length ≤ s.2.length + 1 := by
      unfold ordF withUs buildsF
      repeat' split
      all_goals simp
    simp only [List.foldl_cons, List.length_cons] at h1 ⊢
    omega

/-- One behind the end of a tick. -/
structure Ended (n : Bool) (old : List Int) (us : List U) (u v : U) : Prop where
  same : SameU u v
  hp : v.hp ≤ u.hp
  at_ : spot v = spot u ∨ ∃ p, movesTo n old us u p ∧ spot v = p
theorem end_mem {g : G} {old : List Int} {e : U} (he : e ∈ (endF g old).us) : ∃ u ∈ g.us, Ended g.new old g.us u e := by
  unfold endF at he
  dsimp only at he
  obtain ⟨w, hw, rfl⟩ := List.mem_map.1 he
  have hw2 := (List.mem_filter.1 hw).1
  obtain ⟨z, hz, rfl⟩ := List.mem_map.1 hw2
  obtain ⟨u, hu, rfl⟩ := List.mem_map.1 hz
  have hm := moved g.new old g.us u
  have hl := loss_nonneg g.new old (movesF g.new old g.us) (arriveF old (moveF g.new old g.us u)).id (movesF g.new old g.us)
  refine ⟨u, hu, ?_⟩
  rcases idle_cases (leftF (hurtF g.new old (movesF g.new old g.us))) { arriveF old (moveF g.new old g.us u) with hp := (arriveF old (moveF g.new old g.us u)).hp - lossF g.new old (movesF g.new old g.us) (arriveF old (moveF g.new old g.us u)).id (movesF g.new old g.us) } with ⟨h, -⟩ | ⟨-, -, h⟩
  all_goals
    rw [h]
    refine ⟨⟨hm.same.id, hm.same.owner, hm.same.kind, hm.same.since⟩, ?_, hm.at_⟩
    have := hm.hp
    first
      | (show (arriveF old (moveF g.new old g.us u)).hp - lossF g.new old (movesF g.new old g.us) (arriveF old (moveF g.new old g.us u)).id (movesF g.new old g.us) ≤ u.hp; omega)
theorem near1_far (x tx : Int) : farI x (near1 x tx) ≤ 1 := by
  unfold farI near1
  repeat' split
  all_goals omega
theorem far_le_one {x y tx ty : Int} (h1 : farI x tx ≤ 1) (h2 : farI y ty ≤ 1) : far x y tx ty ≤ 1 := by
  unfold far; split <;> assumption
theorem far_self (x y : Int) : far x y x y = 0 := (far_zero _ _ _ _).2 ⟨rfl, rfl⟩
theorem wish_near {n : Bool} {us : List U} {u : U} {p : Int × Int} (h : wishF n us u = some p) : far u.x u.y p.1 p.2 ≤ 1 := by
  unfold wishF at h
  split at h
  · cases h
  split at h
  · cases h
  cases h
  exact far_le_one (near1_far _ _) (near1_far _ _)
theorem ended_far {n : Bool} {old : List Int} {us : List U} {u v : U} (h : Ended n old us u v) : far u.x u.y v.x v.y ≤ 1 := by
  rcases h.at_ with e | ⟨p, hp, e⟩
  · have : (v.x, v.y) = (u.x, u.y) := e
    simp only [Prod.mk.injEq] at this
    rw [this.1, this.2, far_self]; omega
  · have := wish_near hp.1
    rw [← e] at this
    exact this
/-- What TopNewer says. -/
structure NewerLaw (g x : G) (n : Nat) : Prop where
  right : faultOf x = 0
  tick : x.tick = g.tick + 1
  next : g.next ≤ x.next ∧ x.next ≤ g.next + n
  here : ∀ u ∈ x.us, (∃ o ∈ g.us, o.id = u.id ∧ o.kind = u.kind ∧ o.owner = u.owner ∧ o.since = u.since ∧ far o.x o.y u.x u.y ≤ 1) ∨ (g.next ≤ u.id ∧ u.since = g.tick)
  poor : (∀ u ∈ g.us, u.kind ≠ 4) → x.g0 + x.g1 ≤ g.g0 + g.g1
theorem gain_none (n : Bool) (old : List Int) (us : List U) (o : Int) (l : List U) : ∀ (g : Int), (∀ u ∈ l, u.does ≠ 3) → (∀ u ∈ l, strikes n old us u = true → u.does = 2 ∨ u.does = 3) → gainF n old us o l g = g := by
  induction l with
  | nil => intro g _ _; rfl
  | cons u l ih =>
    intro g h1 h2
    unfold gainF
    rw [if_neg, ih g (fun v hv => h1 v (by simp [hv])) (fun v hv => h2 v (by simp [hv]))]
    rintro ⟨a, b, -⟩
    have := h1 u (by simp)
    have := h2 u (by simp) a
    omega
theorem strike_does {n : Bool} {old : List Int} {us : List U} {u : U} (h : strikes n old us u = true) : u.does = 2 ∨ u.does = 3 := by
  unfold strikes nearF at h
  simp only [Bool.and_eq_true, decide_eq_true_eq] at h
  omega
theorem may_mine {n : Bool} {u t : U} (h : mayDo n u t = 3) : t.kind = 4 := by
  unfold mayDo at h
  split at h
  · rename_i hc; exact hc.1
  · split at h <;> omega
theorem newer_law {g : G} (hn : g.new = true) (hfree : g.free = []) {l : List Cm} (h : stepFault g l = 0) : NewerLaw g (stepN g l) l.length := by
  unfold stepFault at h
  by_cases hf : faultOf g ≠ 0
  · rw [if_pos hf] at h; exact absurd h hf
  rw [if_neg hf] at h
  have hg : Right g := (right_iff g).1 (by omega)
  have hh := hg.head
  unfold headBad at hh
  have ht : g.tick < 60 := by
    have : ¬ (8 < l.length ∨ g.tick = 60) := fun x => by rw [if_pos x] at h; cases h
    omega
  have T : Track g (l.foldl ordF (g, [])) := (Track.start hg (fun _ => hfree)).ords l
  have hb := ords_born l (g, [])
  unfold stepN
  generalize l.foldl ordF (g, []) = s at T hb
  have htk : s.1.tick = g.tick := T.going.tick
  refine ⟨(right_iff _).2 (right_end T.going.right _ (by omega)), by show s.1.tick + 1 = _; omega, ?_, ?_, ?_⟩
  · have := T.next
    simp only [List.length_nil, Nat.zero_add] at hb
    show g.next ≤ s.1.next ∧ s.1.next ≤ g.next + l.length
    omega
  · intro e he
    obtain ⟨v, hv, k⟩ := end_mem he
    rcases T.here v hv with ⟨h1, h2, h3, -⟩ | ⟨u, hu, ku⟩
    · right
      refine ⟨by rw [k.same.id]; exact h3 hn, ?_⟩
      rw [k.same.since, h2, if_pos hn]
    · left
      refine ⟨u, hu, by rw [k.same.id, ku.same.id], by rw [k.same.kind, ku.same.kind], by rw [k.same.owner, ku.same.owner], by rw [k.same.since, ku.same.since], ?_⟩
      have h1 := ended_far k
      have h2 : (v.x, v.y) = (u.x, u.y) := ku.at_
      simp only [Prod.mk.injEq] at h2
      rw [h2.1, h2.2] at h1
      exact h1
  · intro hm
    have hs : ∀ v ∈ s.1.us, v.kind ≠ 4 := by
      intro v hv
      rcases T.here v hv with ⟨-, -, -, h4⟩ | ⟨u, hu, ku⟩
      · exact h4
      · rw [ku.same.kind]; exact hm u hu
    have hR := right_moves T.going.right (idList g.us)
    have hno : ∀ v ∈ movesF s.1.new (idList g.us) s.1.us, v.does ≠ 3 := by
      intro v hv hd
      have ho := hR.ok hv
      have ht : 0 < v.target := ho.aim.1 (by omega)
      rcases (aims_iff _ _ _).1 (hR.aims v hv) with h' | ⟨t, h2, h3⟩
      · omega
      · have h4 := may_mine (h3.trans hd)
        obtain ⟨h5, -⟩ := find_some h2
        obtain ⟨z, hz, rfl⟩ := List.mem_map.1 h5
        rw [(moved s.1.new (idList g.us) s.1.us z).same.kind] at h4
        exact hs z hz h4
    have hg0 := gain_none s.1.new (idList g.us) (movesF s.1.new (idList g.us) s.1.us) 0 _ s.1.g0 hno (fun u _ => strike_does)
    have hg1 := gain_none s.1.new (idList g.us) (movesF s.1.new (idList g.us) s.1.us) 1 _ s.1.g1 hno (fun u _ => strike_does)
    have := T.gold
    show gainF _ _ _ _ _ _ + gainF _ _ _ _ _ _ ≤ _
    rw [hg0, hg1]
    omega
end Go.Proofs.Ytlfljlhppigejaa
namespace Go.Proofs.Ytlfljlhppigejaa

/-- Where one that was there wants to go. -/
def goer (n : Bool) (old : List Int) (us : List U) (u : U) : Option (Int × Int) := if old.contains u.id = true then wishF n us u else none
/-- How many of the first k want there. -/
def wantC (n : Bool) (old : List Int) (us : List U) (k : Nat) (p : Int × Int) : Nat := (us.take k).countP fun v => goer n old us v == some p
theorem goer_beq (n : Bool) (old : List Int) (us : List U) (v : U) (p : Int × Int) : (goer n old us v == some p) = (old.contains v.id && wishF n us v == some p) := by
  unfold goer
  cases h : old.contains v.id <;> simp
theorem wantC_all (n : Bool) (old : List Int) (us : List U) (p : Int × Int) : wantC n old us us.length p = wishers n old us p := by
  unfold wantC wishers
  rw [List.take_length]
  congr 1
  funext v
  exact goer_beq n old us v p
theorem wantC_zero (n : Bool) (old : List Int) (us : List U) (p : Int × Int) : wantC n old us 0 p = 0 := by simp [wantC]
theorem wantC_next {n : Bool} {old : List Int} {us : List U} {k : Nat} (hk : k < us.length) {u : U} (hu : us.getD k zeroU = u) (p : Int × Int) : wantC n old us (k + 1) p = wantC n old us k p + if goer n old us u = some p then 1 else 0 := by
  unfold wantC
  rw [take_at hk, hu, List.countP_append, List.countP_singleton]
  by_cases h : goer n old us u = some p <;> simp [h]
theorem goer_none {n : Bool} {old : List Int} {us : List U} {u : U} (h : wishF n us u = none ∨ old.contains u.id = false) : goer n old us u = none := by
  unfold goer
  rcases h with h | h
  · split
    · exact h
    · rfl
  · rw [h]; rfl
theorem goer_some {n : Bool} {old : List Int} {us : List U} {u : U} {p : Int × Int} (h : wishF n us u = some p) (ho : old.contains u.id = true) : goer n old us u = some p := by
  unfold goer
  rw [if_pos ho, h]
/-- What the second loop makes of one. -/
theorem move_go {n : Bool} {old : List Int} {us : List U} {u : U} {p : Int × Int} (hg : goer n old us u = some p) : moveF n old us u = if wishers n old us p = 1 ∧ standsAt us p.1 p.2 = false then { u with x := p.1, y := p.2 } else u := by
  unfold goer at hg
  by_cases ho : old.contains u.id = true
  · rw [if_pos ho] at hg
    unfold moveF
    rw [hg]
    dsimp only
    by_cases h : wishers n old us p = 1 ∧ standsAt us p.1 p.2 = false
    · rw [if_pos h, if_pos ⟨ho, h.2, h.1⟩]
    · rw [if_neg h, if_neg (fun h' => h ⟨h'.2.2, h'.2.1⟩)]
  · rw [if_neg ho] at hg; cases hg
theorem move_stay {n : Bool} {old : List Int} {us : List U} {u : U} (hg : goer n old us u = none) : moveF n old us u = u := by
  unfold goer at hg
  unfold moveF
  by_cases ho : old.contains u.id = true
  · rw [if_pos ho] at hg
    rw [hg]
  · cases hw : wishF n us u with
    | none => rfl
    | some p =>
      dsimp only
      rw [if_neg (fun h => ho h.1)]

/-! ### A row of which the first k are done -/
def doneU (f : U → U) (us : List U) (k : Nat) : List U := (us.take k).map f ++ us.drop k
theorem done_zero (f : U → U) (us : List U) : doneU f us 0 = us := by simp [doneU]
theorem done_all (f : U → U) (us : List U) : doneU f us us.length = us.map f := by simp [doneU]
theorem done_length (f : U → U) (us : List U) (k : Nat) : (doneU f us k).length = us.length := by simp [doneU]; omega
theorem done_at {f : U → U} {us : List U} {k : Nat} (hk : k < us.length) : (doneU f us k).getD k zeroU = us.getD k zeroU := by
  unfold doneU
  rw [List.getD_eq_getElem?_getD, List.getD_eq_getElem?_getD, List.getElem?_append_right (by rw [List.length_map, List.length_take]; omega)]
  rw [List.length_map, List.length_take, Nat.min_eq_left (by omega), Nat.sub_self, List.getElem?_drop, Nat.add_zero]
theorem done_next {f : U → U} {us : List U} {k : Nat} (hk : k < us.length) : doneU f us (k + 1) = (doneU f us k).set k (f (us.getD k zeroU)) := by
  unfold doneU
  rw [take_at hk, List.map_append]
  rw [List.set_append_right _ _ (by rw [List.length_map, List.length_take]; omega)]
  rw [List.length_map, List.length_take, Nat.min_eq_left (by omega), Nat.sub_self]
  rw [List.drop_eq_getElem_cons hk, List.set_cons_zero, List.append_assoc]
  rfl
theorem done_id {f : U → U} {us : List U} (hf : ∀ u ∈ us, (f u).id = u.id) (k : Nat) : idsOf (doneU f us k) = idsOf us := by
  unfold idsOf doneU
  rw [List.map_append, List.map_map]
  conv => rhs; rw [← List.take_append_drop k us, List.map_append]
  congr 1
  apply List.map_congr_left
  intro u hu
  exact hf u (List.mem_of_mem_take hu)
theorem ix_ids {us vs : List U} (h : idsOf us = idsOf vs) (id : Int) : ixOf us id = ixOf vs id := by
  have hw : ∀ l : List U, whoIx l id = (idsOf l).findIdx? (fun i => i == id) := by
    intro l
    unfold whoIx idsOf
    rw [List.findIdx?_map]
    rfl
  unfold ixOf
  rw [hw us, hw vs, h]

/-! ### Losses and gold -/
theorem loss_snoc (n : Bool) (old : List Int) (us : List U) (id : Int) (l : List U) (u : U) : lossF n old us id (l ++ [u]) = lossF n old us id l + if strikes n old us u = true ∧ u.target = id then blow n u else 0 := by
  induction l with
  | nil => simp [lossF]
  | cons v l ih =>
    rw [List.cons_append, lossF, lossF, ih]
    omega
theorem gain_snoc (n : Bool) (old : List Int) (us : List U) (o : Int) (l : List U) (u : U) : ∀ g, gainF n old us o (l ++ [u]) g = if strikes n old us u = true ∧ u.does ≠ 2 ∧ u.owner = o then min (richOf n) (gainF n old us o l g + (ruleOf n u.kind).load) else gainF n old us o l g := by
  induction l with
  | nil => intro g; simp [gainF]
  | cons v l ih => intro g; rw [List.cons_append, gainF, gainF, ih]
/-- Has one of the first k struck it? -/
def struck (n : Bool) (old : List Int) (us : List U) (k : Nat) (id : Int) : Bool := (us.take k).any fun u => strikes n old us u && u.target == id
def lossK (n : Bool) (old : List Int) (us : List U) (k : Nat) (id : Int) : Int := lossF n old us id (us.take k)
def gainK (n : Bool) (old : List Int) (us : List U) (k : Nat) (o g : Int) : Int := gainF n old us o (us.take k) g
theorem lossK_next {n : Bool} {old : List Int} {us : List U} {k : Nat} (hk : k < us.length) {u : U} (hu : us.getD k zeroU = u) (id : Int) : lossK n old us (k + 1) id = lossK n old us k id + if strikes n old us u = true ∧ u.target = id then blow n u else 0 := by
  unfold lossK
  rw [take_at hk, hu, loss_snoc]
theorem gainK_next {n : Bool} {old : List Int} {us : List U} {k : Nat} (hk : k < us.length) {u : U} (hu : us.getD k zeroU = u) (o g : Int) : gainK n old us (k + 1) o g = if strikes n old us u = true ∧ u.does ≠ 2 ∧ u.owner = o then min (richOf n) (gainK n old us k o g + (ruleOf n u.kind).load) else gainK n old us k o g := by
  unfold gainK
  rw [take_at hk, hu, gain_snoc]
theorem loss_none {n : Bool} {old : List Int} {us : List U} {id : Int} (l : List U) (h : l.any (fun u => strikes n old us u && u.target == id) = false) : lossF n old us id l = 0 := by
  induction l with
  | nil => rfl
  | cons v l ih =>
    rw [List.any_cons, Bool.or_eq_false_iff] at h
    rw [lossF, ih h.2, if_neg]
    · rfl
    · rintro ⟨h1, h2⟩
      rw [h1] at h
      simp [h2] at h
theorem blow_le (n : Bool) (u : U) : blow n u ≤ 100 := by
  have := ruleOf_bd n u.kind
  unfold blow
  split <;> omega
theorem loss_le (n : Bool) (old : List Int) (us : List U) (id : Int) (l : List U) : lossF n old us id l ≤ 100 * l.length := by
  induction l with
  | nil => simp [lossF]
  | cons u l ih =>
    rw [lossF, List.length_cons]
    have := blow_le n u
    split <;> omega
theorem lossK_range (n : Bool) (old : List Int) (us : List U) (k : Nat) (id : Int) : 0 ≤ lossK n old us k id ∧ lossK n old us k id ≤ 100 * us.length := by
  refine ⟨loss_nonneg _ _ _ _ _, Int.le_trans (loss_le _ _ _ _ _) ?_⟩
  rw [List.length_take]
  omega
theorem lossK_all (n : Bool) (old : List Int) (us : List U) (id : Int) : lossK n old us us.length id = lossF n old us id us := by unfold lossK; rw [List.take_length]
theorem gainK_all (n : Bool) (old : List Int) (us : List U) (o g : Int) : gainK n old us us.length o g = gainF n old us o us g := by unfold gainK; rw [List.take_length]
theorem gainK_range (n : Bool) (old : List Int) (us : List U) (k : Nat) (o g : Int) (h1 : 0 ≤ g) (h2 : g ≤ richOf n) : 0 ≤ gainK n old us k o g ∧ gainK n old us k o g ≤ richOf n := gain_range _ _ _ _ _ _ h1 h2

/-! ### Who is left -/
theorem left_next {us : List U} {k : Nat} (hk : k < us.length) {u : U} (hu : us.getD k zeroU = u) : leftF (us.take (k + 1)) = if 0 < u.hp then leftF (us.take k) ++ [u] else leftF (us.take k) := by
  unfold leftF
  rw [take_at hk, hu, List.filter_append]
  by_cases h : 0 < u.hp <;> simp [h]
theorem gone_next {us : List U} {k : Nat} (hk : k < us.length) {u : U} (hu : us.getD k zeroU = u) : goneF (us.take (k + 1)) = if 0 < u.hp then goneF (us.take k) else goneF (us.take k) ++ [u.id] := by
  unfold goneF
  rw [take_at hk, hu, List.filter_append, List.map_append]
  by_cases h : 0 < u.hp
  · have h' : ¬ u.hp ≤ 0 := by omega
    simp [h, h']
  · have h' : u.hp ≤ 0 := by omega
    simp [h, h']
end Go.Proofs.Ytlfljlhppigejaa
namespace Go.Proofs.Ytlfljlhppigejaa

/-- A state as it is read again. -/
def backU (n : Bool) (u : U) : U := if n then u else { u with since := 0 }
def backG (n : Bool) (g : G) : G := { g with new := n, free := if n then [] else g.free, us := g.us.map (backU n) }
end Go.Proofs.Ytlfljlhppigejaa
namespace Go.Proofs.Ytlfljlhppigejaa

/-! ### put -/
theorem ins_cons (a : U) (l : List U) (u : U) : insU (a :: l) u = if a.id ≤ u.id then a :: insU l u else u :: a :: l := by
  unfold insU
  by_cases h : a.id ≤ u.id
  · rw [if_pos h, List.takeWhile_cons_of_pos (by simpa using h), List.dropWhile_cons_of_pos (by simpa using h)]
    rfl
  · rw [if_neg h, List.takeWhile_cons_of_neg (by simpa using h), List.dropWhile_cons_of_neg (by simpa using h)]
    rfl
theorem ins_low {l : List U} {u : U} (h : ∀ v ∈ l, v.id ≤ u.id) : insU l u = l ++ [u] := by
  induction l with
  | nil => rfl
  | cons a l ih =>
    rw [ins_cons, if_pos (h a List.mem_cons_self), ih (fun v hv => h v (List.mem_cons_of_mem _ hv))]
    rfl
theorem ins_here {l : List U} {u v : U} (h : ∀ w ∈ l, w.id ≤ u.id) (hv : u.id < v.id) : insU (l ++ [v]) u = l ++ [u] ++ [v] := by
  induction l with
  | nil => rw [List.nil_append, ins_cons, if_neg (by omega)]; rfl
  | cons a l ih =>
    rw [List.cons_append, ins_cons, if_pos (h a List.mem_cons_self), ih (fun w hw => h w (List.mem_cons_of_mem _ hw))]
    rfl
theorem ins_behind {l : List U} {u : U} (v : U) (h : ∃ w ∈ l, u.id < w.id) : insU (l ++ [v]) u = insU l u ++ [v] := by
  induction l with
  | nil => obtain ⟨w, hw, -⟩ := h; cases hw
  | cons a l ih =>
    rw [List.cons_append, ins_cons, ins_cons]
    by_cases ha : a.id ≤ u.id
    · rw [if_pos ha, if_pos ha, ih (by
        obtain ⟨w, hw, hlt⟩ := h
        rcases List.mem_cons.1 hw with rfl | hw
        · omega
        · exact ⟨w, hw, hlt⟩)]
      rfl
    · rw [if_neg ha, if_neg ha]
      rfl
/-- Has it been laid among the first k? -/
def laidK (us : List U) (u : U) (k : Nat) : Bool := (us.take k).any fun v => decide (u.id < v.id)
/-- What has been laid of the first k. -/
def putK (us : List U) (u : U) (k : Nat) : List U := if laidK us u k = true then insU (us.take k) u else us.take k
theorem laid_zero (us : List U) (u : U) : laidK us u 0 = false := by simp [laidK]
theorem put_zero (us : List U) (u : U) : putK us u 0 = [] := by simp [putK, laid_zero]
theorem laid_next {us : List U} {u : U} {k : Nat} (hk : k < us.length) {v : U} (hv : us.getD k zeroU = v) : laidK us u (k + 1) = (laidK us u k || decide (u.id < v.id)) := by
  unfold laidK
  rw [take_at hk, hv, List.any_append]
  simp
theorem not_laid {us : List U} {u : U} {k : Nat} (h : laidK us u k = false) : ∀ v ∈ us.take k, v.id ≤ u.id := by
  unfold laidK at h
  rw [List.any_eq_false] at h
  intro v hv
  have := h v hv
  simp at this
  exact this
theorem put_laid {us : List U} {u : U} {k : Nat} (hk : k < us.length) {v : U} (hv : us.getD k zeroU = v) (h : laidK us u k = true) : putK us u (k + 1) = putK us u k ++ [v] := by
  have h1 : laidK us u (k + 1) = true := by rw [laid_next hk hv, h]; rfl
  unfold putK
  rw [if_pos h1, if_pos h, take_at hk, hv]
  unfold laidK at h
  rw [List.any_eq_true] at h
  obtain ⟨w, hw, hlt⟩ := h
  exact ins_behind v ⟨w, hw, of_decide_eq_true hlt⟩
theorem put_here {us : List U} {u : U} {k : Nat} (hk : k < us.length) {v : U} (hv : us.getD k zeroU = v) (h : laidK us u k = false) (hlt : u.id < v.id) : putK us u (k + 1) = putK us u k ++ [u] ++ [v] := by
  have h1 : laidK us u (k + 1) = true := by rw [laid_next hk hv, decide_eq_true hlt, Bool.or_true]
  unfold putK
  rw [if_pos h1, h, take_at hk, hv]
  exact ins_here (not_laid h) hlt
theorem put_later {us : List U} {u : U} {k : Nat} (hk : k < us.length) {v : U} (hv : us.getD k zeroU = v) (h : laidK us u k = false) (hlt : ¬ u.id < v.id) : putK us u (k + 1) = putK us u k ++ [v] := by
  have h1 : laidK us u (k + 1) = false := by rw [laid_next hk hv, h, decide_eq_false hlt]; rfl
  unfold putK
  rw [h1, h, take_at hk, hv]
  rfl
theorem put_end_laid {us : List U} {u : U} (h : laidK us u us.length = true) : putK us u us.length = insU us u := by
  unfold putK
  rw [if_pos h, List.take_length]
theorem put_end {us : List U} {u : U} (h : laidK us u us.length = false) : putK us u us.length ++ [u] = insU us u := by
  have h2 := not_laid h
  rw [List.take_length] at h2
  unfold putK
  rw [h, List.take_length, ins_low h2]
  rfl
theorem putK_length (us : List U) (u : U) (k : Nat) : (putK us u k).length ≤ us.length + 1 := by
  unfold putK
  split
  · rw [length_ins, List.length_take]; omega
  · rw [List.length_take]; omega

/-! ### Who goes alone -/
/-- None of the first k but the i-th wants there. -/
def aloneK (n : Bool) (old : List Int) (us : List U) (i : Nat) (p : Int × Int) (k : Nat) : Bool := decide (wantC n old us k p = if i < k then 1 else 0)
theorem want_mine {n : Bool} {old : List Int} {us : List U} {i : Nat} {p : Int × Int} (hi : i < us.length) (hg : goer n old us (us.getD i zeroU) = some p) : ∀ k, k ≤ us.length → (if i < k then 1 else 0) ≤ wantC n old us k p := by
  intro k
  induction k with
  | zero => intro _; simp
  | succ k ih =>
    intro hk
    rw [wantC_next (by omega) rfl]
    have h1 := ih (by omega)
    by_cases e : k = i
    · subst e
      rw [if_pos hg, if_pos (by omega)]
      omega
    · by_cases h2 : i < k
      · rw [if_pos h2] at h1
        rw [if_pos (by omega)]
        omega
      · rw [if_neg (by omega)]
        omega
theorem alone_zero (n : Bool) (old : List Int) (us : List U) (i : Nat) (p : Int × Int) : aloneK n old us i p 0 = true := by
  unfold aloneK
  rw [wantC_zero, if_neg (by omega)]
  rfl
theorem alone_next {n : Bool} {old : List Int} {us : List U} {i : Nat} {p : Int × Int} (hi : i < us.length) (hg : goer n old us (us.getD i zeroU) = some p) {k : Nat} (hk : k < us.length) :
    aloneK n old us i p (k + 1) = (aloneK n old us i p k && !(decide (k ≠ i) && decide (goer n old us (us.getD k zeroU) = some p))) := by
  unfold aloneK
  have h1 := want_mine hi hg k (by omega)
  rw [wantC_next hk rfl]
  by_cases e : k = i
  · subst e
    rw [if_pos hg, if_pos (by omega), if_neg (by omega)]
    simp
  · by_cases h2 : goer n old us (us.getD k zeroU) = some p
    · rw [if_pos h2]
      simp only [e, h2, ne_eq, not_false_eq_true, decide_true, Bool.and_true, Bool.not_true, Bool.and_false, decide_eq_false_iff_not]
      intro h3
      by_cases h4 : i < k
      · rw [if_pos h4] at h1
        rw [if_pos (by omega)] at h3
        omega
      · rw [if_neg (by omega)] at h3
        omega
    · rw [if_neg h2]
      simp only [h2, decide_false, Bool.and_false, Bool.not_false, Bool.and_true]
      by_cases h4 : i < k
      · rw [if_pos h4, if_pos (by omega)]; rfl
      · rw [if_neg h4, if_neg (by omega)]; rfl
theorem alone_all {n : Bool} {old : List Int} {us : List U} {i : Nat} {p : Int × Int} (hi : i < us.length) : aloneK n old us i p us.length = decide (wishers n old us p = 1) := by
  unfold aloneK
  rw [wantC_all, if_pos hi]

/-! ### What one loses, by its place -/
theorem loss_at {n : Bool} {old : List Int} {us : List U} (hs : byId us) {k : Nat} (hk : k < us.length) {u : U} (hu : us.getD k zeroU = u) (hst : strikes n old us u = true) {m : Nat} (hm : ixOf us u.target = m) {j : Nat} (hj : j < us.length) :
    lossK n old us (k + 1) (us.getD j zeroU).id = lossK n old us k (us.getD j zeroU).id + if j = m then blow n u else 0 := by
  rw [lossK_next hk hu]
  obtain ⟨hml, hmid⟩ := ixOf_lt hm
  by_cases e : j = m
  · subst e
    rw [if_pos ⟨hst, hmid.symm⟩, if_pos rfl]
  · rw [if_neg e, if_neg]
    rintro ⟨-, h⟩
    have hs' := byId_iff.1 hs
    rcases Nat.lt_or_gt_of_ne e with h1 | h1
    · have := hs' j m h1 hml; omega
    · have := hs' m j h1 hj; omega
theorem loss_same {n : Bool} {old : List Int} {us : List U} {k : Nat} (hk : k < us.length) {u : U} (hu : us.getD k zeroU = u) (hst : strikes n old us u = false) (id : Int) : lossK n old us (k + 1) id = lossK n old us k id := by
  rw [lossK_next hk hu, if_neg (by rw [hst]; simp)]
  omega

/-- Who mines is a player's. -/
theorem miner_any {g : G} (hg : Right g) {u : U} (hu : u ∈ g.us) (hd : u.does = 3) : u.owner = 0 ∨ u.owner = 1 := by
  have ok := hg.ok hu
  have ht : 0 < u.target := ok.aim.1 (by omega)
  rcases (aims_iff _ _ _).1 (hg.aims u hu) with h | ⟨t, h2, h3⟩
  · omega
  · have hl : 0 < (ruleOf g.new u.kind).load := by
      unfold mayDo at h3
      split at h3
      · next h => exact h.2
      · split at h3
        · omega
        · omega
    have h4 : u.kind ≠ 4 := by
      intro e
      rw [e] at hl
      cases g.new <;> simp [ruleOf] at hl
    have h5 := ok.mine
    have h6 := ok.own0
    have h7 := ok.own2
    omega
/-- A right state's aim is there. -/
theorem aim_there {g : G} (hg : Right g) {u : U} (hu : u ∈ g.us) (ht : u.target ≠ 0) : ∃ k v, ixOf g.us u.target = (k : Nat) ∧ g.us.getD k zeroU = v ∧ v ∈ g.us := by
  rcases (aims_iff _ _ _).1 (hg.aims u hu) with h | ⟨t, h2, -⟩
  · exact absurd h ht
  · rcases ix_find g.us u.target with ⟨-, h4⟩ | ⟨k, v, h3, h4, h5, h6, -⟩
    · rw [h4] at h2; cases h2
    · exact ⟨k, v, h3, h5, (find_some h6).1⟩
/-- The gold while the first k have worked. -/
def goldG (g : G) (old : List Int) (k : Nat) : G := { g with g0 := gainK g.new old g.us k 0 g.g0, g1 := gainK g.new old g.us k 1 g.g1 }
theorem goldG_zero (g : G) (old : List Int) : goldG g old 0 = g := by simp [goldG, gainK, gainF]
theorem goldG_same {g : G} {old : List Int} {k : Nat} (hk : k < g.us.length) {u : U} (hu : g.us.getD k zeroU = u) (h : strikes g.new old g.us u = false ∨ u.does = 2) : goldG g old (k + 1) = goldG g old k := by
  unfold goldG
  rw [gainK_next hk hu, gainK_next hk hu, if_neg, if_neg]
  · rintro ⟨h1, h2, -⟩
    rcases h with h | h
    · rw [h] at h1; cases h1
    · exact h2 h
  · rintro ⟨h1, h2, -⟩
    rcases h with h | h
    · rw [h] at h1; cases h1
    · exact h2 h
theorem goldG_next {g : G} {old : List Int} {k : Nat} (hk : k < g.us.length) {u : U} (hu : g.us.getD k zeroU = u) (h : strikes g.new old g.us u = true) (h2 : u.does ≠ 2) (ho : u.owner = 0 ∨ u.owner = 1) :
    goldG g old (k + 1) = if u.owner = 0 then { goldG g old k with g0 := min (richOf g.new) (goldOf (goldG g old k) u.owner + (ruleOf g.new u.kind).load) } else { goldG g old k with g1 := min (richOf g.new) (goldOf (goldG g old k) u.owner + (ruleOf g.new u.kind).load) } := by
  unfold goldG
  rw [gainK_next hk hu, gainK_next hk hu]
  rcases ho with e | e
  · rw [if_pos ⟨h, h2, e⟩, if_neg (by rintro ⟨-, -, e2⟩; omega), if_pos e, e]
    rfl
  · rw [if_neg (by rintro ⟨-, -, e2⟩; omega), if_pos ⟨h, h2, e⟩, if_neg (by omega), e]
    rfl
/-- What the j-th has lost to the first k. -/
def lessJ (n : Bool) (old : List Int) (us : List U) (k j : Nat) : Int := if j < us.length then lossK n old us k (us.getD j zeroU).id else 0
theorem lessJ_zero (n : Bool) (old : List Int) (us : List U) (j : Nat) : lessJ n old us 0 j = 0 := by
  unfold lessJ lossK
  split
  · simp [lossF]
  · rfl
theorem lessJ_same {n : Bool} {old : List Int} {us : List U} {k : Nat} (hk : k < us.length) {u : U} (hu : us.getD k zeroU = u) (hst : strikes n old us u = false) (j : Nat) : lessJ n old us (k + 1) j = lessJ n old us k j := by
  unfold lessJ
  rw [loss_same hk hu hst]
theorem lessJ_next {n : Bool} {old : List Int} {us : List U} (hs : byId us) {k : Nat} (hk : k < us.length) {u : U} (hu : us.getD k zeroU = u) (hst : strikes n old us u = true) {m : Nat} (hm : ixOf us u.target = m) (j : Nat) :
    lessJ n old us (k + 1) j = if j = m then lessJ n old us k j + blow n u else lessJ n old us k j := by
  have hml := (ixOf_lt hm).1
  unfold lessJ
  by_cases hj : j < us.length
  · rw [if_pos hj, if_pos hj, loss_at hs hk hu hst hm hj]
    by_cases e : j = m
    · rw [if_pos e, if_pos e]
    · rw [if_neg e, if_neg e]; omega
  · rw [if_neg hj, if_neg hj, if_neg (by omega)]
theorem lessJ_range (n : Bool) (old : List Int) (us : List U) (k j : Nat) : 0 ≤ lessJ n old us k j ∧ lessJ n old us k j ≤ 100 * us.length := by
  unfold lessJ
  split
  · exact lossK_range _ _ _ _ _
  · omega
theorem lessJ_all {n : Bool} {old : List Int} {us : List U} {j : Nat} (hj : j < us.length) : lessJ n old us us.length j = lossF n old us (us.getD j zeroU).id us := by
  unfold lessJ
  rw [if_pos hj, lossK_all]
/-- One behind the fights. -/
def hurtU (n : Bool) (old : List Int) (us : List U) (u : U) : U := { u with hp := u.hp - lossF n old us u.id us }
theorem hurt_at {n : Bool} {old : List Int} {us : List U} {k : Nat} (hk : k < us.length) {u : U} (hu : us.getD k zeroU = u) : (hurtF n old us).getD k zeroU = hurtU n old us u ∧ k < (hurtF n old us).length := by
  have hl : k < (hurtF n old us).length := by unfold hurtF; simpa using hk
  refine ⟨?_, hl⟩
  rw [getD_lt hk] at hu
  have e : (hurtF n old us)[k]? = some (hurtU n old us u) := by
    unfold hurtF
    rw [List.getElem?_map, List.getElem?_eq_getElem hk, hu]
    rfl
  rw [List.getD_eq_getElem?_getD, e]
  rfl
end Go.Proofs.Ytlfljlhppigejaa
namespace Go.Proofs.Ytlfljlhppigejaa

/-- One less is left. -/
def but (lf : Int → Bool) (i : Int) : Int → Bool := fun j => lf j && !decide (j = i)
theorem but_self (lf : Int → Bool) (i : Int) : but lf i i = false := by simp [but]
theorem but_other {lf : Int → Bool} {i j : Int} (h : j ≠ i) : but lf i j = lf j := by simp [but, h]

/-- What those that are done give together. -/
def doneS (lf : Int → Bool) (f : U → Int) : List U → Int
  | [] => 0
  | u :: l => (if lf u.id = true then 0 else f u) + doneS lf f l
theorem doneS_congr {lf lf' : Int → Bool} {f : U → Int} {us : List U} (h : ∀ u ∈ us, lf u.id = lf' u.id) : doneS lf f us = doneS lf' f us := by
  induction us with
  | nil => rfl
  | cons u us ih =>
    unfold doneS
    rw [h u (List.mem_cons_self), ih (fun v hv => h v (List.mem_cons_of_mem _ hv))]
theorem doneS_none {lf : Int → Bool} {f : U → Int} {us : List U} (h : ∀ u ∈ us, lf u.id = true ∨ f u = 0) : doneS lf f us = 0 := by
  induction us with
  | nil => rfl
  | cons u us ih =>
    unfold doneS
    rw [ih (fun v hv => h v (List.mem_cons_of_mem _ hv))]
    rcases h u List.mem_cons_self with e | e <;> simp [e]
theorem doneS_step {lf : Int → Bool} {f : U → Int} {us : List U} (hs : byId us) {u : U} (hu : u ∈ us) (hl : lf u.id = true) : doneS (but lf u.id) f us = doneS lf f us + f u := by
  induction us with
  | nil => cases hu
  | cons v us ih =>
    unfold byId at hs
    rw [List.pairwise_cons] at hs
    unfold doneS
    rcases List.mem_cons.1 hu with rfl | hu'
    · rw [but_self, hl, doneS_congr (lf := but lf u.id) (lf' := lf) (fun w hw => but_other (by have := hs.1 w hw; omega))]
      simp
      omega
    · rw [but_other (by have := hs.1 u hu'; omega), ih hs.2 hu']
      omega
theorem doneS_all {lf : Int → Bool} {f : U → Int} {us : List U} (h : ∀ u ∈ us, lf u.id = false) : doneS lf f us = (us.map f).sum := by
  induction us with
  | nil => rfl
  | cons u us ih =>
    unfold doneS
    rw [h u List.mem_cons_self, ih (fun v hv => h v (List.mem_cons_of_mem _ hv))]
    simp
theorem doneS_range {lf : Int → Bool} {f : U → Int} {m : Int} (hm : 0 ≤ m) {us : List U} (h : ∀ u ∈ us, 0 ≤ f u ∧ f u ≤ m) : 0 ≤ doneS lf f us ∧ doneS lf f us ≤ m * us.length := by
  induction us with
  | nil => simp [doneS]
  | cons u us ih =>
    unfold doneS
    have h1 := ih (fun v hv => h v (List.mem_cons_of_mem _ hv))
    have h2 := h u List.mem_cons_self
    rw [List.length_cons]
    have e : m * ((us.length + 1 : Nat) : Int) = m * us.length + m := by rw [Int.natCast_add, Int.mul_add]; simp
    rw [e]
    split <;> omega

/-- A row of which some are left as a says, the others are as b says. -/
def partU (lf : Int → Bool) (a b : U → U) (us : List U) : List U := us.map fun u => if lf u.id = true then a u else b u
theorem partU_length (lf : Int → Bool) (a b : U → U) (us : List U) : (partU lf a b us).length = us.length := by simp [partU]
theorem partU_at {lf : Int → Bool} {a b : U → U} {us : List U} {k : Nat} {u : U} (h : us[k]? = some u) : (partU lf a b us)[k]? = some (if lf u.id = true then a u else b u) := by simp [partU, h]
theorem partU_step {lf : Int → Bool} {a b : U → U} {us : List U} (hs : byId us) {k : Nat} {u : U} (hk : us[k]? = some u) : partU (but lf u.id) a b us = (partU lf a b us).set k (b u) := by
  obtain ⟨hlt, he⟩ := List.getElem?_eq_some_iff.1 hk
  refine List.ext_getElem (by simp [partU]) (fun i h1 h2 => ?_)
  have hi : i < us.length := by simpa [partU] using h1
  rw [List.getElem_set]
  by_cases e : k = i
  · subst e
    rw [if_pos rfl]
    simp [partU, he, but_self]
  · rw [if_neg e]
    have hne : (us[i]).id ≠ u.id := by
      intro hid
      have hs' := byId_iff.1 hs
      rcases Nat.lt_or_gt_of_ne e with h | h
      · have := hs' k i h hi
        rw [getD_lt hlt, getD_lt hi, he] at this
        omega
      · have := hs' i k h hlt
        rw [getD_lt hlt, getD_lt hi, he] at this
        omega
    simp [partU, but_other hne]
theorem partU_all {lf : Int → Bool} {a b : U → U} {us : List U} (h : ∀ u ∈ us, lf u.id = true ∨ a u = b u) : partU lf a b us = us.map a := by
  unfold partU
  refine List.map_congr_left (fun u hu => ?_)
  rcases h u hu with e | e
  · rw [if_pos e]
  · rw [e, ite_self]
theorem partU_none {lf : Int → Bool} {a b : U → U} {us : List U} (h : ∀ u ∈ us, lf u.id = false) : partU lf a b us = us.map b := by
  unfold partU
  refine List.map_congr_left (fun u hu => ?_)
  rw [if_neg (by rw [h u hu]; simp)]
theorem partU_same {lf : Int → Bool} {a b : U → U} {us : List U} {k : Nat} {u : U} (hs : byId us) (hk : us[k]? = some u) (he : a u = b u) : partU (but lf u.id) a b us = partU lf a b us := by
  rw [partU_step hs hk]
  obtain ⟨hlt, -⟩ := List.getElem?_eq_some_iff.1 hk
  have h1 := partU_at (lf := lf) (a := a) (b := b) hk
  rw [he, ite_self] at h1
  refine List.ext_getElem? (fun i => ?_)
  rw [List.getElem?_set]
  by_cases e : k = i
  · subst e
    rw [if_pos rfl, h1]
    simp [partU_length, hlt]
  · rw [if_neg e]
theorem partU_ids {lf : Int → Bool} {a b : U → U} {us : List U} (ha : ∀ u ∈ us, (a u).id = u.id) (hb : ∀ u ∈ us, (b u).id = u.id) : idsOf (partU lf a b us) = idsOf us := by
  unfold partU
  refine ids_map (fun u hu => ?_)
  split
  · exact ha u hu
  · exact hb u hu

/-! ### The steps -/
/-- Who wants to go where, of all. -/
def toAll (n : Bool) (old : List Int) (us : List U) (id : Int) : Option (Int × Int) := (findU us id).bind (goer n old us)
theorem toAll_at {n : Bool} {old : List Int} {us : List U} (hs : byId us) {u : U} (hu : u ∈ us) : toAll n old us u.id = goer n old us u := by
  unfold toAll
  rw [find_mem hs hu]
  rfl
theorem toAll_some {n : Bool} {old : List Int} {us : List U} {id : Int} {p : Int × Int} (h : toAll n old us id = some p) : ∃ (k : Nat) (u : U), us[k]? = some u ∧ u.id = id ∧ goer n old us u = some p := by
  unfold toAll at h
  rcases ix_find us id with ⟨-, h1⟩ | ⟨k, u, -, -, -, h2, h3⟩
  · rw [h1] at h; cases h
  · rw [h2] at h
    exact ⟨k, u, h3, (find_some h2).2, h⟩
/-- The steps found so far. -/
def toD (n : Bool) (old : List Int) (us : List U) (lf : Int → Bool) (id : Int) : Option (Int × Int) := if lf id = true then none else toAll n old us id
theorem toD_step {n : Bool} {old : List Int} {us : List U} (hs : byId us) {lf : Int → Bool} {u : U} (hu : u ∈ us) (id : Int) : toD n old us (but lf u.id) id = if id = u.id then goer n old us u else toD n old us lf id := by
  unfold toD
  by_cases e : id = u.id
  · subst e
    rw [if_pos rfl, but_self, if_neg (by simp), toAll_at hs hu]
  · rw [if_neg e, but_other e]
/-- How many of those that are done want there. -/
def wantU (n : Bool) (old : List Int) (us : List U) (p : Int × Int) (u : U) : Int := if goer n old us u = some p then 1 else 0
theorem wishers_sum (n : Bool) (old : List Int) (us : List U) (p : Int × Int) : ((wishers n old us p : Nat) : Int) = (us.map (wantU n old us p)).sum := by
  have key : ∀ l : List U, (((l.countP fun v => old.contains v.id && wishF n us v == some p) : Nat) : Int) = (l.map (wantU n old us p)).sum := by
    intro l
    induction l with
    | nil => rfl
    | cons u l ih =>
      rw [List.countP_cons, List.map_cons, List.sum_cons, ← ih, ← goer_beq]
      unfold wantU
      by_cases h : goer n old us u = some p
      · rw [if_pos h, if_pos (by simp [h])]
        omega
      · rw [if_neg h, if_neg (by simp [h])]
        omega
  exact key us

/-! ### Work -/
/-- What one takes in for a player. -/
def gainU (n : Bool) (old : List Int) (us : List U) (o : Int) (u : U) : Int := if strikes n old us u = true ∧ u.does ≠ 2 ∧ u.owner = o then (ruleOf n u.kind).load else 0
theorem gainU_range (n : Bool) (old : List Int) (us : List U) (o : Int) (u : U) : 0 ≤ gainU n old us o u ∧ gainU n old us o u ≤ 100 := by
  have := ruleOf_bd n u.kind
  unfold gainU
  split <;> omega
theorem gain_sum (n : Bool) (old : List Int) (us : List U) (o : Int) (l : List U) : ∀ g, g ≤ richOf n → gainF n old us o l g = min (richOf n) (g + (l.map (gainU n old us o)).sum) := by
  induction l with
  | nil =>
    intro g hg
    unfold gainF
    simp only [List.map_nil, List.sum_nil]
    omega
  | cons u l ih =>
    intro g hg
    unfold gainF
    have hb := gainU_range n old us o u
    have hsum : 0 ≤ (l.map (gainU n old us o)).sum := by
      have h1 := doneS_range (lf := fun _ => false) (f := gainU n old us o) (m := 100) (by omega) (us := l) (fun v _ => gainU_range n old us o v)
      rw [doneS_all (fun _ _ => rfl)] at h1
      exact h1.1
    rw [List.map_cons, List.sum_cons]
    by_cases h : strikes n old us u = true ∧ u.does ≠ 2 ∧ u.owner = o
    · rw [if_pos h, ih _ (by omega)]
      have e : gainU n old us o u = (ruleOf n u.kind).load := by unfold gainU; rw [if_pos h]
      rw [e] at hb ⊢
      omega
    · rw [if_neg h, ih _ hg]
      have e : gainU n old us o u = 0 := by unfold gainU; rw [if_neg h]
      rw [e]
      congr 1
      omega
/-- A player's gold while some are left. -/
def goldD (n : Bool) (old : List Int) (us : List U) (lf : Int → Bool) (o g : Int) : Int := min (richOf n) (g + doneS lf (gainU n old us o) us)
theorem goldD_step {n : Bool} {old : List Int} {us : List U} (hs : byId us) {lf : Int → Bool} {u : U} (hu : u ∈ us) (hl : lf u.id = true) (o g : Int) : goldD n old us (but lf u.id) o g = min (richOf n) (goldD n old us lf o g + gainU n old us o u) := by
  unfold goldD
  rw [doneS_step hs hu hl]
  have := gainU_range n old us o u
  omega
theorem goldD_start {n : Bool} {old : List Int} {us : List U} {lf : Int → Bool} (h : ∀ u ∈ us, lf u.id = true) (o : Int) {g : Int} (hg : g ≤ richOf n) : goldD n old us lf o g = g := by
  unfold goldD
  rw [doneS_none (fun u hu => Or.inl (h u hu))]
  omega
theorem goldD_end {n : Bool} {old : List Int} {us : List U} {lf : Int → Bool} (h : ∀ u ∈ us, lf u.id = false) (o : Int) {g : Int} (hg : g ≤ richOf n) : goldD n old us lf o g = gainF n old us o us g := by
  unfold goldD
  rw [doneS_all h, gain_sum _ _ _ _ _ _ hg]
theorem goldD_range {n : Bool} {old : List Int} {us : List U} {lf : Int → Bool} (o : Int) {g : Int} (h0 : 0 ≤ g) : 0 ≤ goldD n old us lf o g ∧ goldD n old us lf o g ≤ richOf n := by
  have h1 := doneS_range (lf := lf) (f := gainU n old us o) (m := 100) (by omega) (us := us) (fun v _ => gainU_range n old us o v)
  unfold goldD
  have : 0 ≤ richOf n := by cases n <;> decide
  omega
/-- What one takes from another one. -/
def lossU (n : Bool) (old : List Int) (us : List U) (id : Int) (u : U) : Int := if strikes n old us u = true ∧ u.target = id then blow n u else 0
theorem lossU_range (n : Bool) (old : List Int) (us : List U) (id : Int) (u : U) : 0 ≤ lossU n old us id u ∧ lossU n old us id u ≤ 100 := by
  have h1 := blow_le n u
  have h2 := blow_nonneg n u
  unfold lossU
  split <;> omega
theorem loss_sum (n : Bool) (old : List Int) (us : List U) (id : Int) (l : List U) : lossF n old us id l = (l.map (lossU n old us id)).sum := by
  induction l with
  | nil => rfl
  | cons u l ih =>
    unfold lossF
    rw [List.map_cons, List.sum_cons, ih]
    rfl
/-- Is anybody that is done at it? -/
def struckD (n : Bool) (old : List Int) (us : List U) (lf : Int → Bool) (id : Int) : Bool := us.any fun u => !lf u.id && strikes n old us u && u.target == id
/-- What is known of the harm while some are left. -/
def harmD (n : Bool) (old : List Int) (us : List U) (lf : Int → Bool) (id : Int) : Option Int := if struckD n old us lf id = true then some (doneS lf (lossU n old us id) us) else none
theorem struckD_step {n : Bool} {old : List Int} {us : List U} (hs : byId us) {lf : Int → Bool} {u : U} (hu : u ∈ us) (hl : lf u.id = true) (id : Int) : struckD n old us (but lf u.id) id = (struckD n old us lf id || (strikes n old us u && u.target == id)) := by
  unfold struckD
  rw [Bool.eq_iff_iff, Bool.or_eq_true, List.any_eq_true, List.any_eq_true]
  constructor
  · rintro ⟨v, hv, h⟩
    by_cases e : v.id = u.id
    · obtain rfl := byId_inj hs hv hu e
      right
      rw [but_self] at h
      simpa using h
    · left
      rw [but_other e] at h
      exact ⟨v, hv, h⟩
  · rintro (⟨v, hv, h⟩ | h)
    · refine ⟨v, hv, ?_⟩
      by_cases e : v.id = u.id
      · rw [e, hl] at h
        simp at h
      · rw [but_other e]
        exact h
    · refine ⟨u, hu, ?_⟩
      rw [but_self]
      simpa using h
theorem harmD_idle {n : Bool} {old : List Int} {us : List U} (hs : byId us) {lf : Int → Bool} {u : U} (hu : u ∈ us) (hl : lf u.id = true) (hn : strikes n old us u = false) (id : Int) : harmD n old us (but lf u.id) id = harmD n old us lf id := by
  unfold harmD
  rw [struckD_step hs hu hl, doneS_step hs hu hl, hn]
  have e : lossU n old us id u = 0 := by unfold lossU; rw [if_neg (by rw [hn]; simp)]
  rw [e]
  simp
theorem harmD_hit {n : Bool} {old : List Int} {us : List U} (hs : byId us) {lf : Int → Bool} {u : U} (hu : u ∈ us) (hl : lf u.id = true) (hn : strikes n old us u = true) (id : Int) : harmD n old us (but lf u.id) id = if id = u.target then some ((harmD n old us lf id).getD 0 + blow n u) else harmD n old us lf id := by
  unfold harmD
  rw [struckD_step hs hu hl, doneS_step hs hu hl, hn]
  by_cases e : id = u.target
  · rw [if_pos e, if_pos (by simp [e])]
    have e1 : lossU n old us id u = blow n u := by unfold lossU; rw [if_pos ⟨hn, e.symm⟩]
    rw [e1]
    by_cases hst : struckD n old us lf id = true
    · rw [if_pos hst]; rfl
    · rw [if_neg hst]
      have : doneS lf (lossU n old us id) us = 0 := by
        refine doneS_none (fun v hv => ?_)
        by_cases hlv : lf v.id = true
        · exact Or.inl hlv
        · right
          unfold lossU
          rw [if_neg]
          rintro ⟨h1, h2⟩
          apply hst
          unfold struckD
          rw [List.any_eq_true]
          exact ⟨v, hv, by simp at hlv; simp [hlv, h1, h2]⟩
      rw [this]
      rfl
  · rw [if_neg e]
    have e1 : lossU n old us id u = 0 := by unfold lossU; rw [if_neg (fun h => e h.2.symm)]
    have e2 : (u.target == id) = false := by simp; exact fun h => e h.symm
    rw [e1, e2]
    simp
theorem harmD_range {n : Bool} {old : List Int} {us : List U} {lf : Int → Bool} (id : Int) : 0 ≤ (harmD n old us lf id).getD 0 ∧ (harmD n old us lf id).getD 0 ≤ 100 * us.length := by
  unfold harmD
  split
  · exact doneS_range (by omega) (fun u _ => lossU_range n old us id u)
  · simp; omega
theorem harmD_start {n : Bool} {old : List Int} {us : List U} {lf : Int → Bool} (h : ∀ u ∈ us, lf u.id = true) (id : Int) : harmD n old us lf id = none := by
  unfold harmD
  rw [if_neg]
  unfold struckD
  rw [Bool.not_eq_true, List.any_eq_false]
  intro u hu
  rw [h u hu]
  simp
/-- The harm, when all are done. -/
theorem harmD_end {n : Bool} {old : List Int} {us : List U} {lf : Int → Bool} (h : ∀ u ∈ us, lf u.id = false) (id : Int) : (∀ m, harmD n old us lf id = some m → m = lossF n old us id us ∧ ∃ u ∈ us, strikes n old us u = true ∧ u.target = id) ∧ (harmD n old us lf id = none → lossF n old us id us = 0) := by
  unfold harmD
  constructor
  · intro m hm
    split at hm
    · next hst =>
      unfold struckD at hst
      rw [List.any_eq_true] at hst
      obtain ⟨u, hu, hx⟩ := hst
      rw [loss_sum, ← doneS_all h]
      refine ⟨(Option.some.inj hm).symm, u, hu, ?_⟩
      simp at hx
      exact ⟨hx.1.2, hx.2⟩
    · cases hm
  · intro hn
    split at hn
    · cases hn
    · next hst =>
      refine loss_none _ ?_
      rw [List.any_eq_false]
      intro u hu
      rw [Bool.not_eq_true] at hst
      unfold struckD at hst
      rw [List.any_eq_false] at hst
      have := hst u hu
      rw [h u hu] at this
      simpa using this
end Go.Proofs.Ytlfljlhppigejaa
namespace Go.Proofs.Ytlfljlhppigejaa

/-- Who was there ahead of the tick has a lesser number than who came. -/
theorem old_lt {g : G} {s : GB} (h : Track g s) (hg : Right g) (hn : g.new = true) {v : U} (hv : v ∈ s.1.us) : (idList g.us).contains v.id = decide (v.id < g.next) := by
  rcases h.here v hv with ⟨-, -, h1, -⟩ | ⟨u, hu, k⟩
  · have h2 := h1 hn
    have e : decide (v.id < g.next) = false := decide_eq_false (by omega)
    rw [e]
    unfold idList
    rw [← Bool.not_eq_true, List.contains_iff_mem]
    intro hm
    obtain ⟨u, hu, e⟩ := List.mem_map.1 hm
    have := hg.below u hu
    omega
  · have h2 := hg.below u hu
    have h3 := k.same.id
    have e : decide (v.id < g.next) = true := decide_eq_true (by omega)
    rw [e]
    unfold idList
    rw [List.contains_iff_mem]
    exact List.mem_map.2 ⟨u, hu, h3.symm⟩

/-- Its target. -/
def tgtU (us : List U) (u : U) : U := us.getD (ixOf us u.target).toNat zeroU
/-- Where it is on its way to. -/
def destF (us : List U) (u : U) : Int × Int := if 0 < u.target then ((tgtU us u).x, (tgtU us u).y) else (u.gx, u.gy)
theorem dest_goal {n : Bool} {tick : Int} {us : List U} {u : U} (ok : OneOk n tick u) (h0 : u.does ≠ 0) : goalF us u = destF us u := by
  unfold goalF destF tgtU
  have h1 := ok.aim
  have h2 := ok.does0
  by_cases e : u.does = 1
  · rw [if_pos e, if_neg (by omega)]
  · rw [if_neg e, if_pos (by omega)]
theorem goer_near {n : Bool} {tick : Int} {old : List Int} {us : List U} {u : U} (ok : OneOk n tick u) (ht : 0 < u.target) (h : nearF n us u = true) : goer n old us u = none := by
  refine goer_none (Or.inl ?_)
  unfold wishF
  rw [if_pos (Or.inr (Or.inr ⟨ok.aim.2 ht, h⟩))]
theorem goer_new {n : Bool} {old : List Int} {us : List U} {u : U} (h : old.contains u.id = false) : goer n old us u = none := goer_none (Or.inr h)
theorem goer_slow {n : Bool} {old : List Int} {us : List U} {u : U} (h : (ruleOf n u.kind).speed = 0) : goer n old us u = none := by
  refine goer_none (Or.inl ?_)
  unfold wishF
  rw [if_pos (Or.inr (Or.inl h))]
theorem goer_idle {n : Bool} {old : List Int} {us : List U} {u : U} (h : u.does = 0) : goer n old us u = none := by
  refine goer_none (Or.inl ?_)
  unfold wishF
  rw [if_pos (Or.inl h)]
theorem goer_there {n : Bool} {tick : Int} {old : List Int} {us : List U} {u : U} (ok : OneOk n tick u) (h1 : (destF us u).1 = u.x) (h2 : (destF us u).2 = u.y) : goer n old us u = none := by
  by_cases h0 : u.does = 0
  · exact goer_idle h0
  refine goer_none (Or.inl ?_)
  unfold wishF
  split
  · rfl
  · rw [if_pos]
    rw [dest_goal ok h0]
    exact Prod.ext h1 h2
theorem goer_go {n : Bool} {tick : Int} {old : List Int} {us : List U} {u : U} (ok : OneOk n tick u) (ho : old.contains u.id = true) (hs : (ruleOf n u.kind).speed ≠ 0) (h0 : u.does ≠ 0) (hn : 0 < u.target → nearF n us u = false) (hd : ¬ ((destF us u).1 = u.x ∧ (destF us u).2 = u.y)) :
    goer n old us u = some (near1 u.x (destF us u).1, near1 u.y (destF us u).2) := by
  refine goer_some ?_ ho
  unfold wishF
  rw [if_neg, dest_goal ok h0, if_neg]
  · intro e
    exact hd ⟨congrArg Prod.fst e, congrArg Prod.snd e⟩
  · rintro (h | h | ⟨h1, h2⟩)
    · exact h0 h
    · exact hs h
    · rw [hn (ok.aim.1 h1)] at h2
      cases h2
/-- Near, as the board's reach tells it. -/
theorem near_reach {n : Bool} {tick : Int} {us : List U} {u : U} (ok : OneOk n tick u) (ht : 0 < u.target) :
    nearF n us u = decide (far u.x u.y (tgtU us u).x (tgtU us u).y ≤ if u.does = 3 then 1 else (ruleOf n u.kind).range) := by
  have h1 := ok.aim.2 ht
  have h3 := ok.does3
  unfold nearF tgtU
  by_cases e : u.does = 3
  · rw [if_pos e]
    simp [e]
  · rw [if_neg e]
    have : u.does = 2 := by omega
    simp [this]
/-- Everybody's target is there. -/
theorem tgt_mem {n : Bool} {us : List U} {u : U} (ha : aimsOk n us u = true) (ht : 0 < u.target) : ∃ (k : Nat) (v : U), us[k]? = some v ∧ v.id = u.target ∧ tgtU us u = v ∧ mayDo n u v = u.does ∧ whoIx us u.target = some k := by
  unfold aimsOk at ha
  have ha' := of_decide_eq_true ha
  rcases ha' with h | ⟨h, hm⟩
  · omega
  · rcases ix_find us u.target with ⟨h1, -⟩ | ⟨k, v, h1, h2, h3, h4, h5⟩
    · omega
    · rw [h1, Int.toNat_natCast, h3] at hm
      refine ⟨k, v, h5, (find_some h4).2, ?_, hm, ?_⟩
      · unfold tgtU
        rw [h1, Int.toNat_natCast, h3]
      · unfold ixOf at h1
        split at h1
        · next i hi => rw [hi]; congr 1; omega
        · omega

/-! ### The moves -/
theorem move_pos {n : Bool} {old : List Int} {us : List U} {u : U} {p : Int × Int} (hg : goer n old us u = some p) (h1 : wishers n old us p = 1) (h2 : standsAt us p.1 p.2 = false) : moveF n old us u = { u with x := p.1, y := p.2 } := by
  rw [move_go hg, if_pos ⟨h1, h2⟩]
theorem move_neg {n : Bool} {old : List Int} {us : List U} {u : U} {p : Int × Int} (hg : goer n old us u = some p) (h : ¬ (wishers n old us p = 1 ∧ standsAt us p.1 p.2 = false)) : moveF n old us u = u := by
  rw [move_go hg, if_neg h]
theorem move_id (n : Bool) (old : List Int) (us : List U) (u : U) : (moveF n old us u).id = u.id := by
  unfold moveF
  split
  · split <;> rfl
  · rfl
theorem arrive_id (old : List Int) (u : U) : (arriveF old u).id = u.id := by
  unfold arriveF
  split <;> rfl
theorem byId_mapped {us : List U} {f : U → U} (hs : byId us) (hf : ∀ u ∈ us, (f u).id = u.id) : byId (us.map f) := byId_map hf hs
/-- In the map of steps is who wants to go. -/
theorem moves_start {n : Bool} {old : List Int} {us : List U} (hs : byId us) : partU (fun i => (toAll n old us i).isSome) id (moveF n old us) us = us := by
  unfold partU
  conv => rhs; rw [← List.map_id us]
  refine List.map_congr_left (fun u hu => ?_)
  have e := toAll_at (n := n) (old := old) hs hu
  cases h : goer n old us u with
  | none => exact (if_neg (by show ¬ (toAll n old us u.id).isSome = true; rw [e, h]; simp)).trans (move_stay h)
  | some p => exact if_pos (by show (toAll n old us u.id).isSome = true; rw [e, h]; rfl)
theorem wants_start {n : Bool} {old : List Int} {us : List U} (hs : byId us) (p : Int × Int) : doneS (fun i => (toAll n old us i).isSome) (wantU n old us p) us = 0 := by
  refine doneS_none (fun u hu => ?_)
  rw [toAll_at hs hu]
  cases h : goer n old us u with
  | none => right; unfold wantU; rw [if_neg (by rw [h]; simp)]
  | some q => left; rfl
theorem wants_step {n : Bool} {old : List Int} {us : List U} (hs : byId us) {lf : Int → Bool} {u : U} (hu : u ∈ us) (hl : lf u.id = true) {q : Int × Int} (hq : goer n old us u = some q) (p : Int × Int) :
    doneS (but lf u.id) (wantU n old us p) us = doneS lf (wantU n old us p) us + if q = p then 1 else 0 := by
  rw [doneS_step hs hu hl]
  unfold wantU
  rw [hq]
  by_cases e : q = p
  · rw [if_pos (by rw [e]), if_pos e]
  · rw [if_neg (fun h => e (Option.some.inj h)), if_neg e]
theorem wants_all {n : Bool} {old : List Int} {us : List U} {lf : Int → Bool} (h : ∀ u ∈ us, lf u.id = false) (p : Int × Int) : doneS lf (wantU n old us p) us = ((wishers n old us p : Nat) : Int) := by
  rw [doneS_all h, wishers_sum]
theorem wants_range {n : Bool} {old : List Int} {us : List U} {lf : Int → Bool} (p : Int × Int) : 0 ≤ doneS lf (wantU n old us p) us ∧ doneS lf (wantU n old us p) us ≤ us.length := by
  have := doneS_range (lf := lf) (f := wantU n old us p) (m := 1) (by omega) (us := us) (fun u _ => by unfold wantU; split <;> omega)
  omega

/-! ### The harm -/
def hurtN (n : Bool) (old : List Int) (us : List U) (u : U) : U := { u with hp := u.hp - lossF n old us u.id us }
theorem hurt_start {n : Bool} {old : List Int} {us : List U} {lf : Int → Bool} (h : ∀ u ∈ us, lf u.id = false) : partU (fun i => (harmD n old us lf i).isSome) id (hurtN n old us) us = us := by
  unfold partU
  conv => rhs; rw [← List.map_id us]
  refine List.map_congr_left (fun u hu => ?_)
  by_cases e : (harmD n old us lf u.id).isSome = true
  · exact if_pos e
  · refine (if_neg e).trans ?_
    have := (harmD_end h u.id).2 (by simpa using e)
    unfold hurtN
    rw [this, Int.sub_zero]
    rfl
theorem strike_tgt {n : Bool} {tick : Int} {old : List Int} {us : List U} {u : U} (ok : OneOk n tick u) (h : strikes n old us u = true) : 0 < u.target := by
  unfold strikes at h
  simp only [Bool.and_eq_true, decide_eq_true_eq] at h
  have := ok.tgt0
  have := h.1.2
  omega
/-! ### One more -/
theorem ins_end {us : List U} {u : U} (h : ∀ v ∈ us, v.id < u.id) : insU us u = us ++ [u] := by
  have e1 : us.takeWhile (fun v => decide (v.id ≤ u.id)) = us := by
    induction us with
    | nil => rfl
    | cons v us ih =>
      rw [List.takeWhile_cons, if_pos (by have := h v List.mem_cons_self; simp; omega), ih (fun w hw => h w (List.mem_cons_of_mem _ hw))]
  have e2 : us.dropWhile (fun v => decide (v.id ≤ u.id)) = [] := by
    have := List.takeWhile_append_dropWhile (p := fun v => decide (v.id ≤ u.id)) (l := us)
    rw [e1] at this
    simpa using this
  unfold insU
  rw [e1, e2]
theorem newId_next {g : G} (hf : g.free = []) : newId g = g.next := by unfold newId; rw [hf]; rfl
theorem built_end {g : G} (hg : Right g) (hf : g.free = []) (i : Nat) (kind x y : Int) :
    built g i kind x y = { pay g (g.us.getD i zeroU).owner (ruleOf g.new kind).cost with next := g.next + 1, us := g.us ++ [builtU g i kind x y] } := by
  have h1 : insU g.us (builtU g i kind x y) = g.us ++ [builtU g i kind x y] := ins_end (fun v hv => by
    show v.id < newId g
    rw [newId_next hf]
    exact hg.below v hv)
  unfold built
  rw [h1, if_pos hf]
  unfold pay
  split
  · rw [hf]; rfl
  · rw [hf]; rfl

/-! ### Who is left -/
/-- The row while those that are gone are struck out: j have been looked at. -/
def leftAt (us : List U) (j : Nat) : List U := leftF (us.take j) ++ us.drop (leftF (us.take j)).length
theorem left_le (us : List U) (j : Nat) : (leftF (us.take j)).length ≤ j := by
  unfold leftF
  exact Nat.le_trans (List.length_filter_le _ _) (by rw [List.length_take]; omega)
theorem left_le' (us : List U) (j : Nat) : (leftF (us.take j)).length ≤ us.length := by
  unfold leftF
  exact Nat.le_trans (List.length_filter_le _ _) (by rw [List.length_take]; omega)
theorem leftAt_length (us : List U) (j : Nat) : (leftAt us j).length = us.length := by
  unfold leftAt
  have := left_le' us j
  rw [List.length_append, List.length_drop]
  omega
theorem leftAt_keep {us : List U} {j : Nat} (hj : j < us.length) {u : U} (hu : us.getD j zeroU = u) (h : 0 < u.hp) : leftAt us (j + 1) = (leftAt us j).set (leftF (us.take j)).length u ∧ (leftF (us.take (j + 1))).length = (leftF (us.take j)).length + 1 := by
  have e := left_next hj hu
  rw [if_pos h] at e
  have hl := left_le us j
  unfold leftAt
  rw [e]
  refine ⟨?_, by simp⟩
  rw [List.length_append, List.length_singleton, List.set_append_right _ _ (Nat.le_refl _), Nat.sub_self, List.append_assoc]
  congr 1
  have hlt : (leftF (us.take j)).length < us.length := by omega
  rw [List.drop_eq_getElem_cons hlt]
  rfl
theorem leftAt_gone {us : List U} {j : Nat} (hj : j < us.length) {u : U} (hu : us.getD j zeroU = u) (h : ¬ 0 < u.hp) : leftAt us (j + 1) = leftAt us j ∧ (leftF (us.take (j + 1))).length = (leftF (us.take j)).length := by
  have e := left_next hj hu
  rw [if_neg h] at e
  unfold leftAt
  rw [e]
  exact ⟨rfl, rfl⟩
theorem leftAt_get {us : List U} {j k : Nat} (h : j ≤ k) : (leftAt us j).getD k zeroU = us.getD k zeroU := by
  have hl := left_le us j
  unfold leftAt
  rw [List.getD_eq_getElem?_getD, List.getD_eq_getElem?_getD, List.getElem?_append_right (by omega), List.getElem?_drop]
  congr 2
  omega
theorem left_all_of {us : List U} {j : Nat} (h : ∀ k, k < j → 0 < (us.getD k zeroU).hp) (hj : j ≤ us.length) : leftF (us.take j) = us.take j := by
  unfold leftF
  rw [List.filter_eq_self]
  intro u hu
  obtain ⟨k, hk, rfl⟩ := List.mem_iff_getElem.1 hu
  rw [List.length_take] at hk
  have := h k (by omega)
  rw [getD_lt (by omega)] at this
  rw [List.getElem_take]
  exact decide_eq_true this
theorem leftAt_start {us : List U} {j : Nat} (h : ∀ k, k < j → 0 < (us.getD k zeroU).hp) (hj : j ≤ us.length) : leftAt us j = us ∧ (leftF (us.take j)).length = j := by
  have e := left_all_of h hj
  unfold leftAt
  rw [e]
  have : (us.take j).length = j := by rw [List.length_take]; omega
  rw [this]
  exact ⟨List.take_append_drop j us, rfl⟩
theorem leftAt_end (us : List U) : leftAt us us.length = leftF us ++ us.drop (leftF us).length := by
  unfold leftAt
  rw [List.take_length]
end Go.Proofs.Ytlfljlhppigejaa
namespace Go.Proofs.Ytlfljlhppigejaa

def playStepN (s : Nat × G) (l : List Cm) : Nat × G := if s.1 ≠ 0 then s else (stepFault s.2 l, if stepFault s.2 l = 0 then stepN s.2 l else s.2)
def playFN (g : G) (ls : List (List Cm)) : Nat × G := ls.foldl playStepN (faultOf g, g)
theorem playN_stuck {s : Nat × G} (h : s.1 ≠ 0) (ls : List (List Cm)) : ls.foldl playStepN s = s := by
  induction ls with
  | nil => rfl
  | cons l ls ih =>
    have : playStepN s l = s := by unfold playStepN; rw [if_pos h]
    rw [List.foldl_cons, this, ih]
def PlayOkN (s : Nat × G) : Prop := s.2.new = true ∧ s.2.free = [] ∧ (s.1 = 0 → Right s.2)
theorem stepN_news {g : G} (hn : g.new = true) (hf : g.free = []) {l : List Cm} (h : stepFault g l = 0) : (stepN g l).new = true ∧ (stepN g l).free = [] := by
  have hg : Right g := (right_iff g).1 (by unfold stepFault at h; by_cases h1 : faultOf g ≠ 0; rw [if_pos h1] at h; exact absurd h h1; omega)
  have T := (Track.start hg (fun _ => hf)).ords l
  have h1 : ((l.foldl ordF (g, [])).1).new = true := T.going.new.trans hn
  refine ⟨h1, ?_⟩
  unfold stepN endF
  dsimp only
  rw [h1, if_pos rfl]
  exact T.going.nofree h1
theorem playN_ok {s : Nat × G} (h : PlayOkN s) (l : List Cm) : PlayOkN (playStepN s l) := by
  unfold playStepN
  by_cases h1 : s.1 ≠ 0
  · rw [if_pos h1]; exact h
  rw [if_neg h1]
  by_cases h2 : stepFault s.2 l = 0
  · have h3 := stepN_news h.1 h.2.1 h2
    have e : (if stepFault s.2 l = 0 then stepN s.2 l else s.2) = stepN s.2 l := if_pos h2
    unfold PlayOkN
    dsimp only
    rw [e]
    exact ⟨h3.1, h3.2, fun _ => (right_iff _).1 (newer_law h.1 h.2.1 h2).right⟩
  · have e : (if stepFault s.2 l = 0 then stepN s.2 l else s.2) = s.2 := if_neg h2
    unfold PlayOkN
    dsimp only
    rw [e]
    exact ⟨h.1, h.2.1, fun h3 => absurd h3 h2⟩
theorem playsN_ok (ls : List (List Cm)) : ∀ {s : Nat × G}, PlayOkN s → PlayOkN (ls.foldl playStepN s) := by
  induction ls with
  | nil => intro s h; exact h
  | cons l ls ih => intro s h; exact ih (playN_ok h l)
theorem playFN_ok {g : G} (hn : g.new = true) (hf : g.free = []) (ls : List (List Cm)) : PlayOkN (playFN g ls) := playsN_ok ls ⟨hn, hf, fun h => (right_iff g).1 h⟩
theorem playFN_succ (g : G) (ls : List (List Cm)) (k : Nat) (h : k < ls.length) : playFN g (ls.take (k + 1)) = playStepN (playFN g (ls.take k)) (ls.getD k []) := by
  unfold playFN
  rw [List.take_succ_eq_append_getElem h, List.foldl_append]
  simp [List.getD, h]
theorem playFN_stuck {g : G} {ts : List (List Cm)} {k n : Nat} (hk : k ≤ n) (h : (playFN g (ts.take k)).1 ≠ 0) : playFN g (ts.take n) = playFN g (ts.take k) := by
  have e : ts.take n = ts.take k ++ (ts.take n).drop k := by
    have := (List.take_append_drop k (ts.take n)).symm
    rwa [List.take_take, Nat.min_eq_left hk] at this
  rw [e]
  unfold playFN at h ⊢
  rw [List.foldl_append, playN_stuck h]
/-- What is played, for any number of ticks: the error's number, the state (zero, if it is not played). -/
def playNN (g : G) (ts : List (List Cm)) (n : Int) : Nat × G := if n < 0 ∨ (ts.length : Int) < n then (1, ⟨true, 0, 0, 0, 0, [], []⟩) else ((playFN g (ts.take n.toNat)).1, if (playFN g (ts.take n.toNat)).1 = 0 then (playFN g (ts.take n.toNat)).2 else ⟨true, 0, 0, 0, 0, [], []⟩)
theorem playNN_few {g : G} (hn : g.new = true) (hf : g.free = []) (ts : List (List Cm)) (n : Int) : (playNN g ts n).2.us.length ≤ 20 := by
  unfold playNN
  split
  · show (0 : Nat) ≤ 20; omega
  · dsimp only
    split
    · next h => exact ((playFN_ok hn hf (ts.take n.toNat)).2.2 h).few
    · show (0 : Nat) ≤ 20; omega
end Go.Proofs.Ytlfljlhppigejaa
namespace Go.Proofs.Ytlfljlhppigejaa

/-! ### The sum -/
def poly : BitVec 32 := 0xEDB88320#32
def crcStep (s : BitVec 32) : BitVec 32 := (s >>> 1) ^^^ (if s.getLsbD 0 then poly else 0#32)
def crcN : Nat → BitVec 32 → BitVec 32
  | 0, s => s
  | n + 1, s => crcN n (crcStep s)
def byte32 (c : UInt8) : BitVec 32 := BitVec.ofNat 32 c.toNat
def crcByte (s : BitVec 32) (c : UInt8) : BitVec 32 := crcN 8 (s ^^^ byte32 c)
def crcGo (l : List UInt8) (s : BitVec 32) : BitVec 32 := l.foldl crcByte s
def crcL (l : List UInt8) : BitVec 32 := ~~~ (crcGo l (BitVec.allOnes 32))

/-- A number off bytes: it, what is left, the error's number. -/
def takeGo : Nat → Nat → List UInt8 → Nat × List UInt8 × Nat
  | _, _, [] => (0, [], 4)
  | i, n, c :: r =>
    if i = 9 then (0, [], 1)
    else if 127 < c.toNat then takeGo (i + 1) (n + (c.toNat - 128) * 128 ^ i) r
    else if 0 < i ∧ c.toNat = 0 then (0, [], 7)
    else (n + c.toNat * 128 ^ i, r, 0)
def takeL (l : List UInt8) : Nat × List UInt8 × Nat := takeGo 0 0 l

/-! ### Frames -/
def le4 (x : BitVec 32) : List UInt8 := [UInt8.ofNat (x.toNat % 256), UInt8.ofNat (x.toNat / 256 % 256), UInt8.ofNat (x.toNat / 65536 % 256), UInt8.ofNat (x.toNat / 16777216 % 256)]
def headL (k : UInt8) (body : List UInt8) : List UInt8 := [70, 89, 49, k] ++ body
def frameL (k : UInt8) (body : List UInt8) : List UInt8 := headL k body ++ le4 (crcL (headL k body))
/-- A frame's body, the error's number. -/
def openL (k : UInt8) (s : List UInt8) : List UInt8 × Nat :=
  if s.length < 8 then ([], 4)
  else if s.take 4 ≠ [70, 89, 49, k] then ([], 6)
  else if frameL k ((s.drop 4).take (s.length - 8)) ≠ s then ([], 5)
  else ((s.drop 4).take (s.length - 8), 0)

end Go.Proofs.Ytlfljlhppigejaa
