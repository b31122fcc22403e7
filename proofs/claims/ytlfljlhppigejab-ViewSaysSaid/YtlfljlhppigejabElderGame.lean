/-
  An elder game while a tick goes on, as it lies in memory; elder.number.
-/
import Derived.Test.YtlfljlhppigejabElderAt
import Derived.Test.YtlfljlhppigejabPackBase
import Derived.Test.YtlfljlhppigejabPackPure
import Derived.Test.YtlfljlhppigejabRulesWalk
import Derived.Deep.DeepCutAuto
import Derived.Test.YtlfljlhppigejabPackMaps
import Derived.IntWalk
import Derived.WalkSmall
namespace Go.Proofs.Ytlfljlhppigejab
open Go.RowKit

/-- Of what was there nothing has turned but blocks in X. -/
structure Kp (X : Nat → Prop) (w w' : World) : Prop where
  os : w'.os = w.os
  tape : w'.tape = w.tape
  output : w'.output = w.output
  size : w.heap.size ≤ w'.heap.size
  block : ∀ k, k < w.heap.size → ¬ X k → w'.heap[k]? = w.heap[k]?
theorem Kp.refl (X : Nat → Prop) (w : World) : Kp X w w := ⟨rfl, rfl, rfl, Nat.le_refl _, fun _ _ _ => rfl⟩
theorem Kp.trans {X Y : Nat → Prop} {a b c : World} (h : Kp X a b) (k : Kp Y b c) (hX : ∀ k, k < a.heap.size → Y k → X k) : Kp X a c :=
  ⟨k.os.trans h.os, k.tape.trans h.tape, k.output.trans h.output, Nat.le_trans h.size k.size, fun i hi hx => (k.block i (Nat.lt_of_lt_of_le hi h.size) (fun y => hx (hX i hi y))).trans (h.block i hi hx)⟩
theorem Kp.imp {X Y : Nat → Prop} {a b : World} (h : Kp X a b) (hX : ∀ k, k < a.heap.size → X k → Y k) : Kp Y a b := ⟨h.os, h.tape, h.output, h.size, fun i hi hy => h.block i hi (fun x => hy (hX i hi x))⟩
theorem kp_of {w w' : World} (h : Below w.heap.size w w') (X : Nat → Prop) : Kp X w w' := ⟨h.os, h.tape, h.output, h.size, fun k hk _ => h.block k hk⟩
theorem Kp.below {X : Nat → Prop} {B : Nat} {w w' : World} (h : Kp X w w') (hX : ∀ k, X k → B ≤ k) (hB : B ≤ w.heap.size) : Below B w w' :=
  ⟨h.os, h.tape, h.output, h.size, fun k hk => h.block k (by omega) (fun x => by have := hX k x; omega)⟩
theorem Kp.grown {w w' : World} {row : Option Nat} (h : w.grownBy w' row) : Kp (fun k => some k = row) w w' := ⟨h.os, h.tape, h.output, h.size, fun k hk hx => h.block k hk hx⟩
theorem Kp.setCell (w : World) (a : Addr) (v : Value) : Kp (fun k => k = a.block) w (w.setCell a v) := ⟨rfl, rfl, rfl, by simp [World.setCell], fun k _ hx => Below.heap_setCell w a v k hx⟩
theorem Kp.turned {w w' : World} {b : Nat} (h : w.mapTurned w' b) : Kp (fun k => k = b) w w' := by
  obtain ⟨es, clock, es', clock', h1, rfl⟩ := h
  exact ⟨rfl, rfl, rfl, by simp [ChangeMaps.setBlock], fun i _ hx => ChangeMaps.heap_setBlock_other h1 _ hx⟩
theorem Kp.drew (X : Nat → Prop) (w : World) : Kp X w w.drew := ⟨rfl, rfl, rfl, Nat.le_refl _, fun _ _ _ => rfl⟩
theorem Blk.kp {X : Nat → Prop} {w w' : World} {T : Nat} {c : Array Value} (h : Blk w T c) (k : Kp X w w') (hx : ¬ X T) : Blk w' T c := by
  have hb := k.block T h.lt hx
  exact ⟨Nat.lt_of_lt_of_le h.lt k.size, fun i => (World.cell?_of_block (w := w) hb).trans (h.cell i), fun i => (World.frozen?_of_block (w := w) hb).trans (h.free i)⟩
theorem own_kp {X : Nat → Prop} {w w' : World} {B : Nat} {e : TypeId} {s n : Nat} {v : Value} {xs : List Value} (h : w.ownsRow B e s v n xs) (k : Kp X w w') (hx : ∀ b, v.ownBlock = some b → ¬ X b) : w'.ownsRow B e s v n xs := by
  refine ⟨h.1, ?_⟩
  rcases h.2 with h2 | ⟨g, cap, cur, h2, h3, h4, h5⟩
  · exact Or.inl h2
  · subst h2
    have hg : g < w.heap.size := (World.ownsRow.lt h g rfl).2
    exact Or.inr ⟨g, cap, cur, rfl, h3, by rw [k.block g hg (hx g rfl)]; exact h4, h5⟩
theorem MapOf.kp {P : Program} {k : TypeId} {ι : Type} {emb : ι → Value} {ok : ι → Prop} {w w' : World} {b n sz : Nat} {f : ι → Option Value} {X : Nat → Prop} (h : MapOf P k emb ok w b n sz f) (hk : Kp X w w') (hx : ¬ X b) : MapOf P k emb ok w' b n sz f :=
  h.blk (hk.block b h.lt hx)

def cellsAll (us : List U) : List Value := us.flatMap cellsE
def intCells (l : List Int) : List Value := l.map (Value.int .i64)
theorem cellsE_length (u : U) : (cellsE u).length = 10 := rfl
theorem cellsAll_length (us : List U) : (cellsAll us).length = us.length * 10 := by
  unfold cellsAll
  induction us with
  | nil => rfl
  | cons u us ih => rw [List.flatMap_cons, List.length_append, ih, cellsE_length, List.length_cons]; omega
theorem cellsAll_get (us : List U) : ∀ (i j : Nat), i < us.length → j < 10 → (cellsAll us)[i * 10 + j]? = (cellsE (us.getD i zeroU))[j]? := by
  unfold cellsAll
  induction us with
  | nil => intro i j h; simp at h
  | cons u us ih =>
    intro i j hi hj
    rw [List.flatMap_cons]
    cases i with
    | zero =>
      rw [Nat.zero_mul, Nat.zero_add, List.getElem?_append_left (by rw [cellsE_length]; exact hj)]
      rfl
    | succ i =>
      rw [List.getElem?_append_right (by rw [cellsE_length]; omega), cellsE_length, show (i + 1) * 10 + j - 10 = i * 10 + j by omega, ih i j (by simpa using hi) hj]
      rfl
theorem URow.of_own {B : Nat} {w : World} {v : Value} {us : List U} (h : w.ownsRow B 83 10 v us.length (cellsAll us)) : ∃ a c, v = .slice a us.length c ∧ us.length ≤ maxLen ∧ URow false w.heap.size w a us ∧ ∀ b, v.ownBlock = some b → a = some ⟨b, 0, none⟩ := by
  rcases h.2 with ⟨h1, h2⟩ | ⟨g, cap, cur, h1, -, -, h4, h5, -⟩
  · refine ⟨none, 0, by rw [h1, h2], by rw [h2]; simp [maxLen], fun i hi => by omega, ?_⟩
    intro b hb
    rw [h1] at hb
    cases hb
  · subst h1
    refine ⟨_, cap, rfl, by omega, ?_, ?_⟩
    · intro i hi
      refine ⟨g, 0, rfl, (World.ownsRow.lt h g rfl).2, fun j hj => ?_⟩
      have hj' : j < 10 := hj
      have := World.ownsRow.cellAt h (i * 10 + j) (by omega)
      rw [cellsAll_get us i j hi hj'] at this
      rw [show 0 + i * szOf false + j = i * 10 + j from by show 0 + i * 10 + j = _; omega]
      exact this
    · intro b hb
      cases hb
      rfl

/-- A game. -/
structure GE (w : World) (B S : Nat) (g : G) (born : List Int) (fv ev bv : Value) : Prop where
  blk : Blk w S #[.int .i64 g.tick, .int .i64 g.g0, .int .i64 g.g1, .int .i64 g.next, fv, ev, bv]
  base : B ≤ S
  fr : w.ownsRow B 3 1 fv g.free.length (intCells g.free)
  us : w.ownsRow B 83 10 ev g.us.length (cellsAll g.us)
  bo : w.ownsRow B 3 1 bv born.length (intCells born)
  sf : ∀ b, fv.ownBlock = some b → b ≠ S
  se : ∀ b, ev.ownBlock = some b → b ≠ S
  sb : ∀ b, bv.ownBlock = some b → b ≠ S
  fe : ∀ b, fv.ownBlock = some b → ev.ownBlock ≠ some b
  fb : ∀ b, fv.ownBlock = some b → bv.ownBlock ≠ some b
  eb : ∀ b, ev.ownBlock = some b → bv.ownBlock ≠ some b
theorem GE.kp {X : Nat → Prop} {w w' : World} {B S : Nat} {g : G} {born : List Int} {fv ev bv : Value} (h : GE w B S g born fv ev bv) (k : Kp X w w') (hS : ¬ X S) (hf : ∀ b, fv.ownBlock = some b → ¬ X b) (he : ∀ b, ev.ownBlock = some b → ¬ X b) (hb : ∀ b, bv.ownBlock = some b → ¬ X b) : GE w' B S g born fv ev bv :=
  ⟨h.blk.kp k hS, h.base, own_kp h.fr k hf, own_kp h.us k he, own_kp h.bo k hb, h.sf, h.se, h.sb, h.fe, h.fb, h.eb⟩
theorem GE.call {w w' : World} {B S : Nat} {g : G} {born : List Int} {fv ev bv : Value} (h : GE w B S g born fv ev bv) (k : Below w.heap.size w w') : GE w' B S g born fv ev bv :=
  h.kp (kp_of k (fun _ => False)) (fun x => x) (fun _ _ x => x) (fun _ _ x => x) (fun _ _ x => x)
/-- A store into the game's own block. -/
theorem GE.store {w : World} {B S : Nat} {g : G} {born : List Int} {fv ev bv : Value} (h : GE w B S g born fv ev bv) {i : Nat} (hi : i < 7) (v : Value) :
    Blk (w.setCell ⟨S, i, none⟩ v) S (#[.int .i64 g.tick, .int .i64 g.g0, .int .i64 g.g1, .int .i64 g.next, fv, ev, bv].setIfInBounds i v) ∧ (w.setCell ⟨S, i, none⟩ v).ownsRow B 3 1 fv g.free.length (intCells g.free) ∧
      (w.setCell ⟨S, i, none⟩ v).ownsRow B 83 10 ev g.us.length (cellsAll g.us) ∧ (w.setCell ⟨S, i, none⟩ v).ownsRow B 3 1 bv born.length (intCells born) :=
  ⟨h.blk.store v (by simpa using hi), own_kp h.fr (Kp.setCell w ⟨S, i, none⟩ v) (fun b hb => h.sf b hb), own_kp h.us (Kp.setCell w ⟨S, i, none⟩ v) (fun b hb => h.se b hb), own_kp h.bo (Kp.setCell w ⟨S, i, none⟩ v) (fun b hb => h.sb b hb)⟩
theorem GE.setG0 {w : World} {B S : Nat} {g : G} {born : List Int} {fv ev bv : Value} (h : GE w B S g born fv ev bv) (n : Int) : GE (w.setCell ⟨S, 1, none⟩ (.int .i64 n)) B S { g with g0 := n } born fv ev bv :=
  let ⟨h1, h2, h3, h4⟩ := h.store (i := 1) (by decide) (.int .i64 n)
  ⟨by simpa using h1, h.base, h2, h3, h4, h.sf, h.se, h.sb, h.fe, h.fb, h.eb⟩
theorem GE.setG1 {w : World} {B S : Nat} {g : G} {born : List Int} {fv ev bv : Value} (h : GE w B S g born fv ev bv) (n : Int) : GE (w.setCell ⟨S, 2, none⟩ (.int .i64 n)) B S { g with g1 := n } born fv ev bv :=
  let ⟨h1, h2, h3, h4⟩ := h.store (i := 2) (by decide) (.int .i64 n)
  ⟨by simpa using h1, h.base, h2, h3, h4, h.sf, h.se, h.sb, h.fe, h.fb, h.eb⟩
end Go.Proofs.Ytlfljlhppigejab
