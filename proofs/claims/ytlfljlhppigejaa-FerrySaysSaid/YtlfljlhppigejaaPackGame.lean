/-
  An elder game while a tick goes on, as it lies in memory; elder.number. A row of integers that is owned, read as a row.
-/
import Derived.Test.YtlfljlhppigejaaPackWish
import Derived.Test.YtlfljlhppigejaaPackPure
import Derived.Test.YtlfljlhppigejaaPackMaps
import Derived.IntWalk
import Derived.WalkSmall
namespace Go.Proofs.Ytlfljlhppigejaa
open Go.RowKit

/-- Of what was there nothing has turned but blocks in X. -/
structure Kp (X : Nat → Prop) (w w' : World) : Prop where
  os : w'.os = w.os
  tape : w'.tape = w.tape
  output : w'.output = w.output
  size : w.heap.size ≤ w'.heap.size
  block : ∀ k, k < w.heap.size → ¬ X k → w'.heap[k]? = w.heap[k]?
theorem Kp.refl (X : Nat → Prop) (w : World) : Kp X w w := ⟨rfl, rfl, rfl, Nat.le_refl _, fun _ _ _ => rfl⟩
theorem Kp.trans {X Y : Nat → Prop} {a b c : World} (h : Kp X a b) (k : Kp Y b c) (hX : ∀ k, k < a.heap.size → Y k → X k) : Kp X a c :=
  ⟨k.os.trans h.os, k.tape.trans h.tape, k.output.trans h.output, Nat.le_trans h.size k.size, fun i hi hx => (k.block i (Nat.lt_of_lt_of_le hi h.size) (fun y => hx (hX i hi y))).trans (h.block i hi hx)⟩
theorem Kp.imp {X Y : Nat → Prop} {a b : World} (h : Kp X a b) (hX : ∀ k, k < a.heap.size → X k → Y k) : Kp Y a b := ⟨h.os, h.tape, h.output, h.size, fun i hi hy => h.block i hi (fun x => hy (hX i hi x))⟩
theorem kp_of {w w' : World} (h : Below w.heap.size w w') (X : Nat → Prop) : Kp X w w' := ⟨h.os, h.tape, h.output, h.size, fun k hk _ => h.block k hk⟩
theorem Kp.below {X : Nat → Prop} {B : Nat} {w w' : World} (h : Kp X w w') (hX : ∀ k, X k → B ≤ k) (hB : B ≤ w.heap.size) : Below B w w' :=
  ⟨h.os, h.tape, h.output, h.size, fun k hk => h.block k (by omega) (fun x => by have := hX k x; omega)⟩
theorem Kp.grown {w w' : World} {row : Option Nat} (h : w.grownBy w' row) : Kp (fun k => some k = row) w w' := ⟨h.os, h.tape, h.output, h.size, fun k hk hx => h.block k hk hx⟩
theorem Kp.setCell (w : World) (a : Addr) (v : Value) : Kp (fun k => k = a.block) w (w.setCell a v) := ⟨rfl, rfl, rfl, by simp [World.setCell], fun k _ hx => Below.heap_setCell w a v k hx⟩
theorem Kp.turned {w w' : World} {b : Nat} (h : w.mapTurned w' b) : Kp (fun k => k = b) w w' := by
  obtain ⟨es, clock, es', clock', h1, rfl⟩ := h
  exact ⟨rfl, rfl, rfl, by simp [ChangeMaps.setBlock], fun i _ hx => ChangeMaps.heap_setBlock_other h1 _ hx⟩
theorem Kp.drew (X : Nat → Prop) (w : World) : Kp X w w.drew := ⟨rfl, rfl, rfl, Nat.le_refl _, fun _ _ _ => rfl⟩
theorem Blk.kp {X : Nat → Prop} {w w' : World} {T : Nat} {c : Array Value} (h : Blk w T c) (k : Kp X w w') (hx : ¬ X T) : Blk w' T c := by
  have hb := k.block T h.lt hx
  exact ⟨Nat.lt_of_lt_of_le h.lt k.size, fun i => (World.cell?_of_block (w := w) hb).trans (h.cell i), fun i => (World.frozen?_of_block (w := w) hb).trans (h.free i)⟩
theorem own_kp {X : Nat → Prop} {w w' : World} {B : Nat} {e : TypeId} {s n : Nat} {v : Value} {xs : List Value} (h : w.ownsRow B e s v n xs) (k : Kp X w w') (hx : ∀ b, v.ownBlock = some b → ¬ X b) : w'.ownsRow B e s v n xs := by
  refine ⟨h.1, ?_⟩
  rcases h.2 with h2 | ⟨g, cap, cur, h2, h3, h4, h5⟩
  · exact Or.inl h2
  · subst h2
    have hg : g < w.heap.size := (World.ownsRow.lt h g rfl).2
    exact Or.inr ⟨g, cap, cur, rfl, h3, by rw [k.block g hg (hx g rfl)]; exact h4, h5⟩
theorem MapOf.kp {P : Program} {k : TypeId} {ι : Type} {emb : ι → Value} {ok : ι → Prop} {w w' : World} {b n sz : Nat} {f : ι → Option Value} {X : Nat → Prop} (h : MapOf P k emb ok w b n sz f) (hk : Kp X w w') (hx : ¬ X b) : MapOf P k emb ok w' b n sz f :=
  h.blk (hk.block b h.lt hx)

def cellsAll (us : List U) : List Value := us.flatMap cellsE
def intCells (l : List Int) : List Value := l.map (Value.int .i64)
theorem cellsE_length (u : U) : (cellsE u).length = 10 := rfl
theorem cellsAll_length (us : List U) : (cellsAll us).length = us.length * 10 := by
  unfold cellsAll
  induction us with
  | nil => rfl
  | cons u us ih => rw [List.flatMap_cons, List.length_append, ih, cellsE_length, List.length_cons]; omega
theorem cellsAll_get (us : List U) : ∀ (i j : Nat), i < us.length → j < 10 → (cellsAll us)[i * 10 + j]? = (cellsE (us.getD i zeroU))[j]? := by
  unfold cellsAll
  induction us with
  | nil => intro i j h; simp at h
  | cons u us ih =>
    intro i j hi hj
    rw [List.flatMap_cons]
    cases i with
    | zero =>
      rw [Nat.zero_mul, Nat.zero_add, List.getElem?_append_left (by rw [cellsE_length]; exact hj)]
      rfl
    | succ i =>
      rw [List.getElem?_append_right (by rw [cellsE_length]; omega), cellsE_length, show (i + 1) * 10 + j - 10 = i * 10 + j by omega, ih i j (by simpa using hi) hj]
      rfl
theorem URow.of_own {B : Nat} {w : World} {v : Value} {us : List U} (h : w.ownsRow B 179 10 v us.length (cellsAll us)) : ∃ a c, v = .slice a us.length c ∧ us.length ≤ maxLen ∧ URow false w.heap.size w a us ∧ ∀ b, v.ownBlock = some b → a = some ⟨b, 0, none⟩ := by
  rcases h.2 with ⟨h1, h2⟩ | ⟨g, cap, cur, h1, -, -, h4, h5, -⟩
  · refine ⟨none, 0, by rw [h1, h2], by rw [h2]; simp [maxLen], fun i hi => by omega, ?_⟩
    intro b hb
    rw [h1] at hb
    cases hb
  · subst h1
    refine ⟨_, cap, rfl, by omega, ?_, ?_⟩
    · intro i hi
      refine ⟨g, 0, rfl, (World.ownsRow.lt h g rfl).2, fun j hj => ?_⟩
      have hj' : j < 10 := hj
      have := World.ownsRow.cellAt h (i * 10 + j) (by omega)
      rw [cellsAll_get us i j hi hj'] at this
      rw [show 0 + i * szOf false + j = i * 10 + j from by show 0 + i * 10 + j = _; omega]
      exact this
    · intro b hb
      cases hb
      rfl

/-- A game. -/
structure GE (w : World) (B S : Nat) (g : G) (born : List Int) (fv ev bv : Value) : Prop where
  blk : Blk w S #[.int .i64 g.tick, .int .i64 g.g0, .int .i64 g.g1, .int .i64 g.next, fv, ev, bv]
  base : B ≤ S
  fr : w.ownsRow B 3 1 fv g.free.length (intCells g.free)
  us : w.ownsRow B 179 10 ev g.us.length (cellsAll g.us)
  bo : w.ownsRow B 3 1 bv born.length (intCells born)
  sf : ∀ b, fv.ownBlock = some b → b ≠ S
  se : ∀ b, ev.ownBlock = some b → b ≠ S
  sb : ∀ b, bv.ownBlock = some b → b ≠ S
  fe : ∀ b, fv.ownBlock = some b → ev.ownBlock ≠ some b
  fb : ∀ b, fv.ownBlock = some b → bv.ownBlock ≠ some b
  eb : ∀ b, ev.ownBlock = some b → bv.ownBlock ≠ some b
theorem GE.kp {X : Nat → Prop} {w w' : World} {B S : Nat} {g : G} {born : List Int} {fv ev bv : Value} (h : GE w B S g born fv ev bv) (k : Kp X w w') (hS : ¬ X S) (hf : ∀ b, fv.ownBlock = some b → ¬ X b) (he : ∀ b, ev.ownBlock = some b → ¬ X b) (hb : ∀ b, bv.ownBlock = some b → ¬ X b) : GE w' B S g born fv ev bv :=
  ⟨h.blk.kp k hS, h.base, own_kp h.fr k hf, own_kp h.us k he, own_kp h.bo k hb, h.sf, h.se, h.sb, h.fe, h.fb, h.eb⟩
theorem GE.call {w w' : World} {B S : Nat} {g : G} {born : List Int} {fv ev bv : Value} (h : GE w B S g born fv ev bv) (k : Below w.heap.size w w') : GE w' B S g born fv ev bv :=
  h.kp (kp_of k (fun _ => False)) (fun x => x) (fun _ _ x => x) (fun _ _ x => x) (fun _ _ x => x)
/-- A store into the game's own block. -/
theorem GE.store {w : World} {B S : Nat} {g : G} {born : List Int} {fv ev bv : Value} (h : GE w B S g born fv ev bv) {i : Nat} (hi : i < 7) (v : Value) :
    Blk (w.setCell ⟨S, i, none⟩ v) S (#[.int .i64 g.tick, .int .i64 g.g0, .int .i64 g.g1, .int .i64 g.next, fv, ev, bv].setIfInBounds i v) ∧ (w.setCell ⟨S, i, none⟩ v).ownsRow B 3 1 fv g.free.length (intCells g.free) ∧
      (w.setCell ⟨S, i, none⟩ v).ownsRow B 179 10 ev g.us.length (cellsAll g.us) ∧ (w.setCell ⟨S, i, none⟩ v).ownsRow B 3 1 bv born.length (intCells born) :=
  ⟨h.blk.store v (by simpa using hi), own_kp h.fr (Kp.setCell w ⟨S, i, none⟩ v) (fun b hb => h.sf b hb), own_kp h.us (Kp.setCell w ⟨S, i, none⟩ v) (fun b hb => h.se b hb), own_kp h.bo (Kp.setCell w ⟨S, i, none⟩ v) (fun b hb => h.sb b hb)⟩
theorem GE.setNext {w : World} {B S : Nat} {g : G} {born : List Int} {fv ev bv : Value} (h : GE w B S g born fv ev bv) (n : Int) : GE (w.setCell ⟨S, 3, none⟩ (.int .i64 n)) B S { g with next := n } born fv ev bv :=
  let ⟨h1, h2, h3, h4⟩ := h.store (i := 3) (by decide) (.int .i64 n)
  ⟨by simpa using h1, h.base, h2, h3, h4, h.sf, h.se, h.sb, h.fe, h.fb, h.eb⟩
theorem GE.setG0 {w : World} {B S : Nat} {g : G} {born : List Int} {fv ev bv : Value} (h : GE w B S g born fv ev bv) (n : Int) : GE (w.setCell ⟨S, 1, none⟩ (.int .i64 n)) B S { g with g0 := n } born fv ev bv :=
  let ⟨h1, h2, h3, h4⟩ := h.store (i := 1) (by decide) (.int .i64 n)
  ⟨by simpa using h1, h.base, h2, h3, h4, h.sf, h.se, h.sb, h.fe, h.fb, h.eb⟩
theorem GE.setG1 {w : World} {B S : Nat} {g : G} {born : List Int} {fv ev bv : Value} (h : GE w B S g born fv ev bv) (n : Int) : GE (w.setCell ⟨S, 2, none⟩ (.int .i64 n)) B S { g with g1 := n } born fv ev bv :=
  let ⟨h1, h2, h3, h4⟩ := h.store (i := 2) (by decide) (.int .i64 n)
  ⟨by simpa using h1, h.base, h2, h3, h4, h.sf, h.se, h.sb, h.fe, h.fb, h.eb⟩
theorem GE.setTick {w : World} {B S : Nat} {g : G} {born : List Int} {fv ev bv : Value} (h : GE w B S g born fv ev bv) (n : Int) : GE (w.setCell ⟨S, 0, none⟩ (.int .i64 n)) B S { g with tick := n } born fv ev bv :=
  let ⟨h1, h2, h3, h4⟩ := h.store (i := 0) (by decide) (.int .i64 n)
  ⟨by simpa using h1, h.base, h2, h3, h4, h.sf, h.se, h.sb, h.fe, h.fb, h.eb⟩
theorem intCells_length (l : List Int) : (intCells l).length = l.length := by simp [intCells]
/-- The last of the free ones is taken off. -/
theorem GE.pop {w : World} {B S : Nat} {g : G} {born : List Int} {ev bv : Value} {f n cap : Nat} (h : GE w B S g born (.slice (some ⟨f, 0, none⟩) (n + 1) cap) ev bv) (hn : g.free.length = n + 1) :
    GE (w.setCell ⟨S, 4, none⟩ (.slice (some ⟨f, 0, none⟩) n cap)) B S { g with free := g.free.dropLast } born (.slice (some ⟨f, 0, none⟩) n cap) ev bv := by
  obtain ⟨h1, h2, h3, h4⟩ := h.store (i := 4) (by decide) (.slice (some ⟨f, 0, none⟩) n cap)
  have hne : g.free ≠ [] := by intro e; rw [e] at hn; simp at hn
  refine ⟨by simpa using h1, h.base, ?_, h3, h4, h.sf, h.se, h.sb, h.fe, h.fb, h.eb⟩
  have hl : g.free.dropLast.length = n := by rw [List.length_dropLast]; omega
  show (w.setCell ⟨S, 4, none⟩ (.slice (some ⟨f, 0, none⟩) n cap)).ownsRow B 3 1 (.slice (some ⟨f, 0, none⟩) n cap) g.free.dropLast.length (intCells g.free.dropLast)
  rw [hl]
  refine ownsRow_pop (last := intCells [g.free.getLast hne]) (by rw [intCells_length, hl]; omega) ?_
  rw [hn] at h2
  have : intCells g.free.dropLast ++ intCells [g.free.getLast hne] = intCells g.free := by
    unfold intCells
    rw [← List.map_append, List.dropLast_concat_getLast]
  rw [this]
  exact h2
/-- What stands in the row of free ones. -/
theorem GE.freeAt {w : World} {B S : Nat} {g : G} {born : List Int} {fv ev bv : Value} (h : GE w B S g born fv ev bv) : ∃ a c, fv = .slice a g.free.length c ∧ g.free.length ≤ c ∧ c ≤ maxLen ∧ Row w.heap.size w a g.free.length (fun k => .int .i64 (g.free.getD k 0)) ∧ (0 < g.free.length → ∃ f, a = some ⟨f, 0, none⟩) := by
  rcases h.fr.2 with ⟨h1, h2⟩ | ⟨f, cap, cur, h1, -, -, h4, h5, -⟩
  · exact ⟨none, 0, by rw [h1, h2], by omega, by simp [maxLen], fun k hk => by omega, fun hk => by omega⟩
  · have hown := h.fr
    subst h1
    refine ⟨_, cap, rfl, h4, h5, ?_, fun _ => ⟨f, rfl⟩⟩
    intro k hk
    refine ⟨f, 0, rfl, (World.ownsRow.lt hown f rfl).2, ?_⟩
    have := World.ownsRow.cellAt hown k (by omega)
    rw [Nat.zero_add, this]
    unfold intCells
    rw [List.getElem?_map, List.getElem?_eq_getElem hk]
    simp [List.getD, hk]

/-- What number hands back. -/
def NumberEnd (w : World) (B S : Nat) (g : G) (born : List Int) (fv ev bv : Value) (e : Ending) (w' : World) : Prop :=
  Kp (fun k => k = S) w w' ∧
  ((g.free = [] ∧ 200 < g.next ∧ e = .returned (.int .i64 0) ∧ w' = w) ∨
    ((g.free ≠ [] ∨ g.next ≤ 200) ∧ e = .returned (.int .i64 (newId g)) ∧ ∃ fv', GE w' B S { g with next := if g.free = [] then g.next + 1 else g.next, free := g.free.dropLast } born fv' ev bv ∧ ∀ b, fv'.ownBlock = some b → fv.ownBlock = some b))
set_option maxHeartbeats 1600000 in
set_option maxRecDepth 100000 in
theorem number_any (w : World) (B S : Nat) (g : G) (born : List Int) (fv ev bv : Value) (h : GE w B S g born fv ev bv) (hn : 1 ≤ g.next ∧ g.next ≤ 201) (hf : g.free.length ≤ 100000) :
    Calls Try.prog 174 #[.pointer (some ⟨S, 0, none⟩)] w (NumberEnd w B S g born fv ev bv) := by
  obtain ⟨a, c, rfl, hc1, hc2, hrow, hnn⟩ := h.freeAt
  obtain ⟨l1, c1, f1⟩ := h.blk
  have HH := Lib.hid h
  obtain ⟨_, _⟩ := hn
  unfold maxLen at hc2
  clear h
  by_cases h0 : 0 < g.free.length
  · obtain ⟨n, hl⟩ : ∃ n, g.free.length = n + 1 := ⟨g.free.length - 1, by omega⟩
    have hne : Hid (g.free ≠ []) := Lib.hid (by intro e; rw [e] at hl; simp at hl)
    obtain ⟨b, o, rfl, hbB, q0⟩ := hrow n (by omega)
    obtain ⟨f, hfe⟩ := hnn h0
    cases hfe
    rw [Nat.zero_add] at q0
    dsimp only at q0
    have HNI : Hid (newId g = g.free.getD n 0) := Lib.hid (by
      show _ = _
      unfold newId
      rw [List.getLast?_eq_getElem?, hl]
      simp [List.getD, hl])
    obtain ⟨x, hx⟩ : ∃ x, g.free.getD n 0 = x := ⟨_, rfl⟩
    rw [hx] at q0 HNI
    have HL := Lib.hid hl
    rw [hl] at HH c1
    rw [hl] at hc1 hf h0
    have hw : IntKind.i64.wrap (((n + 1 : Nat) : Int) - 1) = (n : Int) := by rw [IntWalk.i64_in _ (by omega)]; omega
    have hw2 : (((n + 1 : Nat) : Int) - 1) = (n : Int) := by omega
    have hw3 : ((n : Int) + 1 - 1) = (n : Int) := by omega
    have hni : (0 : Int) ≤ (n : Int) := by omega
    have hnc : (n : Int) ≤ (c : Int) := by omega
    have hnc2 : (n : Int) < (n : Int) + 1 := by omega
    clear hl hx hrow hnn
    go_enter Try.func174, Try.ntmps174
    go_wp2_with fail
    go_ret
    refine ⟨Kp.setCell w ⟨S, 4, none⟩ _, Or.inr ⟨Or.inl hne.out, ret1 (intv HNI.out.symm), .slice (some ⟨b, 0, none⟩) n c, ?_⟩⟩
    rw [if_neg hne.out]
    exact ⟨HH.out.pop HL.out, fun c hc => hc⟩
  · have hnil : g.free = [] := List.eq_nil_of_length_eq_zero (by omega)
    have HNIL := Lib.hid hnil
    have HNI : Hid (newId g = g.next) := Lib.hid (by show _ = _; unfold newId; rw [hnil]; rfl)
    have hl0 : g.free.length = 0 := by omega
    rw [hl0] at HH c1
    clear hnil hrow hnn
    by_cases hx : 200 < g.next
    · go_enter Try.func174, Try.ntmps174
      go_wp2_with fail
      go_ret
      exact ⟨Kp.refl _ _, Or.inl ⟨HNIL.out, hx, rfl, rfl⟩⟩
    · go_enter Try.func174, Try.ntmps174
      go_wp2_with fail
      go_ret
      refine ⟨Kp.setCell w ⟨S, 3, none⟩ _, Or.inr ⟨Or.inr (by omega), ret1 (intv HNI.out.symm), .slice a 0 c, ?_⟩⟩
      rw [if_pos HNIL.out]
      have h2 := HH.out.setNext (g.next + 1)
      rw [show ({ g with next := g.next + 1, free := g.free.dropLast } : G) = { g with next := g.next + 1 } from by rw [HNIL.out]; rfl]
      exact ⟨h2, fun c hc => hc⟩
end Go.Proofs.Ytlfljlhppigejaa
namespace Go.Proofs.Ytlfljlhppigejaa
open Go.RowKit

/-- A row of integers that is owned. -/
theorem ints_at {w : World} {B n : Nat} {v : Value} {l : List Int} (hn : l.length = n) (h : w.ownsRow B 3 1 v n (intCells l)) : ∃ a c, v = .slice a n c ∧ Row w.heap.size w a n (fun k => .int .i64 (l.getD k 0)) := by
  subst hn
  rcases h.2 with ⟨h1, h2⟩ | ⟨f, cap, cur, h1, -, -, h4, h5, -⟩
  · exact ⟨none, 0, by rw [h1, h2], fun k hk => by omega⟩
  · have hown := h
    subst h1
    refine ⟨_, cap, rfl, ?_⟩
    intro k hk
    refine ⟨f, 0, rfl, (World.ownsRow.lt hown f rfl).2, ?_⟩
    have := World.ownsRow.cellAt hown k (by omega)
    rw [Nat.zero_add, this]
    unfold intCells
    rw [List.getElem?_map, List.getElem?_eq_getElem hk]
    simp [List.getD, hk]
end Go.Proofs.Ytlfljlhppigejaa
