/-
  What a tick makes of a state (C3, D2), as plain functions. No program in sight.
-/
import Derived.Test.YtlfljlhppigejabGamePure
namespace Go.Proofs.Ytlfljlhppigejab

/-- A command, or an order (of which kind and target are one: arg). -/
structure Cm where
  player : Int
  op : Int
  id : Int
  kind : Int
  x : Int
  y : Int
  target : Int
  deriving DecidableEq, Inhabited
def zeroC : Cm := ⟨0, 0, 0, 0, 0, 0, 0⟩
def Cm.Fits (c : Cm) : Prop := Fits64 c.player ∧ Fits64 c.op ∧ Fits64 c.id ∧ Fits64 c.kind ∧ Fits64 c.x ∧ Fits64 c.y ∧ Fits64 c.target

def tellU (u : U) (does gx gy target : Int) : U := { u with does := does, gx := gx, gy := gy, target := target }

def goesF (n : Bool) (us : List U) (i : Nat) (x y : Int) : List U :=
  if onB x y = true ∧ 0 < (ruleOf n (us.getD i zeroU).kind).speed then us.set i (tellU (us.getD i zeroU) 1 x y 0) else us

def aimsF (n : Bool) (us : List U) (i : Nat) (target does : Int) : List U :=
  if 0 ≤ ixOf us target ∧ 0 < does ∧ mayDo n (us.getD i zeroU) (us.getD (ixOf us target).toNat zeroU) = does then us.set i (tellU (us.getD i zeroU) does 0 0 target) else us

def goldOf (g : G) (o : Int) : Int := if o = 0 then g.g0 else g.g1
def pay (g : G) (o c : Int) : G := if o = 0 then { g with g0 := g.g0 - c } else { g with g1 := g.g1 - c }
/-- One is put in, by its ID. -/
def insU (us : List U) (u : U) : List U := us.takeWhile (fun v => decide (v.id ≤ u.id)) ++ u :: us.dropWhile (fun v => decide (v.id ≤ u.id))
def newId (g : G) : Int := match g.free.getLast? with | some i => i | none => g.next
def canBuild (g : G) (i : Nat) (kind x y : Int) : Prop :=
  isRule g.new kind = true ∧ kind ≠ 4 ∧ (g.us.getD i zeroU).kind = 1 ∧ onB x y = true ∧ standsAt g.us x y = false ∧ far (g.us.getD i zeroU).x (g.us.getD i zeroU).y x y ≤ 1 ∧
    (ruleOf g.new kind).cost ≤ goldOf g (g.us.getD i zeroU).owner ∧ g.us.length ≠ 20 ∧ (g.free ≠ [] ∨ g.next ≤ topOf g.new)
instance (g : G) (i : Nat) (kind x y : Int) : Decidable (canBuild g i kind x y) := by unfold canBuild; infer_instance
def builtU (g : G) (i : Nat) (kind x y : Int) : U := ⟨newId g, (g.us.getD i zeroU).owner, kind, x, y, (ruleOf g.new kind).hp, 0, 0, 0, 0, if g.new then g.tick else 0⟩
def built (g : G) (i : Nat) (kind x y : Int) : G :=
  { pay g (g.us.getD i zeroU).owner (ruleOf g.new kind).cost with
    next := if g.free = [] then g.next + 1 else g.next
    free := g.free.dropLast
    us := insU g.us (builtU g i kind x y) }

/-- A game while a tick goes on: with who came. -/
abbrev GB := G × List Int

def buildsF (s : GB) (i : Nat) (kind x y : Int) : GB := if canBuild s.1 i kind x y then (built s.1 i kind x y, s.2 ++ [newId s.1]) else s

def withUs (s : GB) (us : List U) : GB := ({ s.1 with us := us }, s.2)
/-- A command is done, or passed over. -/
def cmdF (s : GB) (c : Cm) : GB :=
  if ixOf s.1.us c.id < 0 ∨ (s.1.us.getD (ixOf s.1.us c.id).toNat zeroU).owner ≠ c.player then s
  else if c.op = 1 then withUs s (goesF s.1.new s.1.us (ixOf s.1.us c.id).toNat c.x c.y)
  else if c.op = 2 then withUs s (aimsF s.1.new s.1.us (ixOf s.1.us c.id).toNat c.target 2)
  else if c.op = 3 then withUs s (aimsF s.1.new s.1.us (ixOf s.1.us c.id).toNat c.target 3)
  else if c.op = 4 then buildsF s (ixOf s.1.us c.id).toNat c.kind c.x c.y
  else if c.op = 5 then withUs s (s.1.us.set (ixOf s.1.us c.id).toNat (tellU (s.1.us.getD (ixOf s.1.us c.id).toNat zeroU) 0 0 0 0))
  else s
/-- An order: arg stands in kind and in target. -/
def ordF (s : GB) (c : Cm) : GB :=
  if ixOf s.1.us c.id < 0 ∨ (s.1.us.getD (ixOf s.1.us c.id).toNat zeroU).owner ≠ c.player then s
  else if c.op = 1 then withUs s (goesF s.1.new s.1.us (ixOf s.1.us c.id).toNat c.x c.y)
  else if c.op = 2 then
    if ixOf s.1.us c.target < 0 then s
    else withUs s (aimsF s.1.new s.1.us (ixOf s.1.us c.id).toNat c.target (mayDo s.1.new (s.1.us.getD (ixOf s.1.us c.id).toNat zeroU) (s.1.us.getD (ixOf s.1.us c.target).toNat zeroU)))
  else if c.op = 3 then buildsF s (ixOf s.1.us c.id).toNat c.kind c.x c.y
  else if c.op = 4 then withUs s (s.1.us.set (ixOf s.1.us c.id).toNat (tellU (s.1.us.getD (ixOf s.1.us c.id).toNat zeroU) 0 0 0 0))
  else s

/-! ### The end of a tick -/
/-- Its target is near. -/
def nearF (n : Bool) (us : List U) (u : U) : Bool :=
  decide ((u.does = 3 ∧ far u.x u.y (us.getD (ixOf us u.target).toNat zeroU).x (us.getD (ixOf us u.target).toNat zeroU).y ≤ 1) ∨
    (u.does = 2 ∧ far u.x u.y (us.getD (ixOf us u.target).toNat zeroU).x (us.getD (ixOf us u.target).toNat zeroU).y ≤ (ruleOf n u.kind).range))
/-- Where it wants to go next. -/
def goalF (us : List U) (u : U) : Int × Int := if u.does = 1 then (u.gx, u.gy) else ((us.getD (ixOf us u.target).toNat zeroU).x, (us.getD (ixOf us u.target).toNat zeroU).y)
def wishF (n : Bool) (us : List U) (u : U) : Option (Int × Int) :=
  if u.does = 0 ∨ (ruleOf n u.kind).speed = 0 ∨ (1 < u.does ∧ nearF n us u = true) then none
  else if goalF us u = (u.x, u.y) then none
  else some (near1 u.x (goalF us u).1, near1 u.y (goalF us u).2)
/-- How many of who was there wish this place. -/
def wishers (n : Bool) (old : List Int) (us : List U) (p : Int × Int) : Nat := us.countP fun v => old.contains v.id && wishF n us v == some p
/-- Where one stands behind the moves. -/
def moveF (n : Bool) (old : List Int) (us : List U) (u : U) : U :=
  match wishF n us u with
  | some p => if old.contains u.id = true ∧ standsAt us p.1 p.2 = false ∧ wishers n old us p = 1 then { u with x := p.1, y := p.2 } else u
  | none => u
def arriveF (old : List Int) (u : U) : U := if old.contains u.id = true ∧ u.does = 1 ∧ u.x = u.gx ∧ u.y = u.gy then tellU u 0 0 0 0 else u
def movesF (n : Bool) (old : List Int) (us : List U) : List U := us.map fun u => arriveF old (moveF n old us u)

/-- Does it strike its target? -/
def strikes (n : Bool) (old : List Int) (us : List U) (u : U) : Bool := old.contains u.id && decide (u.target ≠ 0) && nearF n us u
/-- What it takes from its target. -/
def blow (n : Bool) (u : U) : Int := if u.does = 2 then (ruleOf n u.kind).harm else (ruleOf n u.kind).load
/-- What one loses to these. -/
def lossF (n : Bool) (old : List Int) (us : List U) (id : Int) : List U → Int
  | [] => 0
  | u :: l => (if strikes n old us u = true ∧ u.target = id then blow n u else 0) + lossF n old us id l
/-- Gold of a player, behind the work of these. -/
def gainF (n : Bool) (old : List Int) (us : List U) (o : Int) : List U → Int → Int
  | [], g => g
  | u :: l, g => gainF n old us o l (if strikes n old us u = true ∧ u.does ≠ 2 ∧ u.owner = o then min (richOf n) (g + (ruleOf n u.kind).load) else g)
def hurtF (n : Bool) (old : List Int) (us : List U) : List U := us.map fun u => { u with hp := u.hp - lossF n old us u.id us }
def idleF (us : List U) (u : U) : U := if 0 < u.target ∧ ixOf us u.target < 0 then tellU u 0 0 0 0 else u
/-- Who is left of these. -/
def leftF (us : List U) : List U := us.filter fun u => decide (0 < u.hp)
def goneF (us : List U) : List Int := (us.filter fun u => decide (u.hp ≤ 0)).map U.id
def endF (g : G) (old : List Int) : G :=
  { g with
    tick := g.tick + 1
    g0 := gainF g.new old (movesF g.new old g.us) 0 (movesF g.new old g.us) g.g0
    g1 := gainF g.new old (movesF g.new old g.us) 1 (movesF g.new old g.us) g.g1
    free := if g.new then g.free else g.free ++ goneF (hurtF g.new old (movesF g.new old g.us))
    us := (leftF (hurtF g.new old (movesF g.new old g.us))).map (idleF (leftF (hurtF g.new old (movesF g.new old g.us)))) }

def idList (us : List U) : List Int := us.map U.id
def stepE (g : G) (l : List Cm) : GB := (endF (l.foldl cmdF (g, [])).1 (idList g.us), (l.foldl cmdF (g, [])).2)
def stepN (g : G) (l : List Cm) : G := endF (l.foldl ordF (g, [])).1 (idList g.us)
/-- The error's number of a step: 0: none. -/
def stepFault (g : G) (l : List Cm) : Nat := if faultOf g ≠ 0 then faultOf g else if 8 < l.length ∨ g.tick = 60 then 2 else 0

/-- Play so many ticks. -/
def playE (g : G) : List (List Cm) → Option G ⊕ Nat
  | [] => .inl (some g)
  | l :: rest => if stepFault g l ≠ 0 then .inr (stepFault g l) else playE (stepE g l).1 rest
end Go.Proofs.Ytlfljlhppigejab
