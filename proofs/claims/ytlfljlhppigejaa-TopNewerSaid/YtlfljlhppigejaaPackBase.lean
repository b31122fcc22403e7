/-
  Words that all walks of this seat use: a row of cells that is read; what stays. Regions that draw their order, walked once in the order of the text: what is read lies in old blocks, what is called may make new ones; a forced tail may write. Regions that draw their order and make a variable beside a call: what reads and calls is walked once, in the order of the text; then come the operations that write, one behind the other, though some of them may have come earlier.
-/
import Derived.WalkKit
import Derived.WalkSpells
import Derived.WalkLawsBesides
import Derived.Lib.Hide
import Derived.BigQuiet
import Derived.StillTail
import Derived.Deep.MidRow
import Derived.Laws.ResultCell
namespace Go.Proofs.Ytlfljlhppigejaa
open Go.RowKit

/-- The first n cells from a on are f 0, f 1 and so on (in blocks below B). -/
def Row (B : Nat) (w : World) (a : Option Addr) (n : Nat) (f : Nat → Value) : Prop :=
  ∀ k, k < n → ∃ b o, a = some ⟨b, o, none⟩ ∧ b < B ∧ w.cell? ⟨b, o + k, none⟩ = some (f k)

theorem Row.below {B : Nat} {w w' : World} {a : Option Addr} {n : Nat} {f : Nat → Value} (h : Row B w a n f) (hb : Below B w w') : Row B w' a n f :=
  fun k hk => let ⟨b, o, ha, hlt, hc⟩ := h k hk; ⟨b, o, ha, hlt, by rw [hb.cell (by exact hlt)]; exact hc⟩
theorem Row.mono {B B' : Nat} {w : World} {a : Option Addr} {n : Nat} {f : Nat → Value} (h : Row B w a n f) (hb : B ≤ B') : Row B' w a n f :=
  fun k hk => let ⟨b, o, ha, hlt, hc⟩ := h k hk; ⟨b, o, ha, Nat.lt_of_lt_of_le hlt hb, hc⟩
theorem Row.le {B : Nat} {w : World} {a : Option Addr} {n m : Nat} {f : Nat → Value} (h : Row B w a n f) (hm : m ≤ n) : Row B w a m f :=
  fun k hk => h k (Nat.lt_of_lt_of_le hk hm)

theorem cell_other {w : World} {a b : Addr} {v : Value} (h : a.block ≠ b.block) : (w.setCell a v).cell? b = w.cell? b :=
  World.cell?_setCell_other w a b v (fun e => h (by rw [e]))
theorem cell_off {w : World} {k i j : Nat} {v : Value} (h : i ≠ j) : (w.setCell ⟨k, i, none⟩ v).cell? ⟨k, j, none⟩ = w.cell? ⟨k, j, none⟩ :=
  World.cell?_setCell_other w _ _ v (fun e => h (congrArg Addr.off e))
theorem cell_same {w : World} {a : Addr} {v u : Value} (h : w.cell? a = some u) : (w.setCell a v).cell? a = some v :=
  World.cell?_setCell_same w a v h
theorem free_set {w : World} {a b : Addr} {v : Value} : (w.setCell a v).frozen? b = w.frozen? b := World.frozen?_setCell w a b v
theorem Row.set {B : Nat} {w : World} {a : Option Addr} {n : Nat} {f : Nat → Value} (h : Row B w a n f) {p : Addr} (hp : B ≤ p.block) (v : Value) : Row B (w.setCell p v) a n f :=
  fun k hk => let ⟨b, o, ha, hlt, hc⟩ := h k hk; ⟨b, o, ha, hlt, by rw [cell_other (by show p.block ≠ b; omega)]; exact hc⟩

theorem ret1 {a b : Value} (h : a = b) : Ending.returned a = .returned b := by rw [h]
theorem ret2 {a b c d : Value} (h : a = b) (h' : c = d) : Ending.returned (.tuple #[a, c]) = .returned (.tuple #[b, d]) := by rw [h, h']
theorem boolv {p q : Bool} (h : p = q) : Value.bool p = .bool q := by rw [h]
theorem intv {k : IntKind} {p q : Int} (h : p = q) : Value.int k p = .int k q := by rw [h]

theorem cell_blk {w : World} {k l i j : Nat} {v : Value} (h : k ≠ l) : (w.setCell ⟨k, i, none⟩ v).cell? ⟨l, j, none⟩ = w.cell? ⟨l, j, none⟩ := cell_other h
theorem Row.at {B : Nat} {w : World} {b o n : Nat} {f : Nat → Value} (h : Row B w (some ⟨b, o, none⟩) n f) (k : Nat) (hk : k < n) : w.cell? ⟨b, o + k, none⟩ = some (f k) := by
  obtain ⟨b', o', e, -, hc⟩ := h k hk
  cases e
  exact hc

/-- Block S holds just the cells c, and may be written. -/
def Blk (w : World) (S : Nat) (c : Array Value) : Prop := S < w.heap.size ∧ (∀ i, w.cell? ⟨S, i, none⟩ = c[i]?) ∧ ∀ i, w.frozen? ⟨S, i, none⟩ = false
theorem Blk.lt {w : World} {S : Nat} {c : Array Value} (h : Blk w S c) : S < w.heap.size := h.1
theorem Blk.cell {w : World} {S : Nat} {c : Array Value} (h : Blk w S c) : ∀ i, w.cell? ⟨S, i, none⟩ = c[i]? := h.2.1
theorem Blk.free {w : World} {S : Nat} {c : Array Value} (h : Blk w S c) : ∀ i, w.frozen? ⟨S, i, none⟩ = false := h.2.2
theorem Blk.new (w : World) (c : Array Value) (t : TypeId) : Blk (w.alloc (.cells c t)) w.heap.size c :=
  ⟨by simp, fun i => World.cell?_alloc_new w c t i, fun i => World.frozen?_alloc_new w c t i⟩
theorem Blk.alloc {w : World} {S : Nat} {c : Array Value} (h : Blk w S c) (o : Obj) : Blk (w.alloc o) S c :=
  ⟨by have := h.1; simp; omega, fun i => (World.cell?_alloc_old w o _ (Nat.ne_of_lt h.1)).trans (h.2.1 i), fun i => (World.frozen?_alloc_old w o _ (Nat.ne_of_lt h.1)).trans (h.2.2 i)⟩
theorem Blk.below {w w' : World} {S B : Nat} {c : Array Value} (h : Blk w S c) (hb : Below B w w') (hS : S < B) : Blk w' S c :=
  ⟨Nat.lt_of_lt_of_le h.1 hb.size, fun i => (hb.cell (p := ⟨S, i, none⟩) hS).trans (h.2.1 i), fun i => (hb.frozen (p := ⟨S, i, none⟩) hS).trans (h.2.2 i)⟩
theorem Blk.call {w w' : World} {S : Nat} {c : Array Value} (h : Blk w S c) (hb : Below w.heap.size w w') : Blk w' S c := h.below hb h.1
theorem Blk.other {w : World} {S T i : Nat} {c : Array Value} {v : Value} (h : Blk w S c) (hT : T ≠ S) : Blk (w.setCell ⟨T, i, none⟩ v) S c :=
  ⟨by simpa using h.1, fun j => (cell_blk hT).trans (h.2.1 j), fun j => free_set.trans (h.2.2 j)⟩
theorem Blk.store {w : World} {S i : Nat} {c : Array Value} (v : Value) (h : Blk w S c) (hi : i < c.size) : Blk (w.setCell ⟨S, i, none⟩ v) S (c.setIfInBounds i v) := by
  refine ⟨by simpa using h.1, fun j => ?_, fun j => free_set.trans (h.2.2 j)⟩
  by_cases hj : i = j
  · subst hj
    rw [cell_same (u := c[i]) (by rw [h.2.1 i]; simp [hi])]
    simp [hi]
  · rw [cell_off hj, h.2.1 j]
    simp [hj]
theorem Blk.drew {w : World} {S : Nat} {c : Array Value} (h : Blk w S c) : Blk w.drew S c := h
/-- What a statement's call comes to: true, and what was there stays. -/
def TrueBelow (w : World) (e : Ending) (w' : World) : Prop := e = .returned (.bool true) ∧ Below w.heap.size w w'
theorem tb {w w' : World} {v : Value} (h : v = .bool true) (hb : Below w.heap.size w w') : TrueBelow w (.returned v) w' := ⟨by rw [h], hb⟩
end Go.Proofs.Ytlfljlhppigejaa
namespace Go.Proofs.Ytlfljlhppigejaa
open Go.RowKit

/-- A world in which all old blocks of v are as they were. -/
structure Cw (v : World) where
  w : World
  below : Below v.heap.size v w
theorem Cw.ne (v : World) : Nonempty (Cw v) := ⟨⟨v, Below.refl _ _⟩⟩
theorem Cw.cell {v : World} (x : Cw v) (b o : Nat) (h : b < v.heap.size) : x.w.cell? ⟨b, o, none⟩ = v.cell? ⟨b, o, none⟩ := x.below.cell (p := ⟨b, o, none⟩) h
theorem Cw.frozen {v : World} (x : Cw v) (b o : Nat) (h : b < v.heap.size) : x.w.frozen? ⟨b, o, none⟩ = v.frozen? ⟨b, o, none⟩ := x.below.frozen (p := ⟨b, o, none⟩) h
theorem Cw.le {v : World} (x : Cw v) : v.heap.size ≤ x.w.heap.size := x.below.size
/-- The class of such worlds. -/
def In (v : World) (w' : World) : Prop := ∃ x : Cw v, w' = x.w

/-- A call that makes new blocks alone. -/
theorem Calls.cw {P : Program} {f : FuncId} {args : Array Value} {v : World} {x : Cw v} {r : Value}
    (h : Calls P f args x.w fun e w' => e = .returned r ∧ Below x.w.heap.size x.w w') : Calls P f args x.w fun e w' => e = .returned r ∧ ∃ y : Cw v, w' = y.w :=
  h.mono fun _ w' ⟨he, hb⟩ => ⟨he, ⟨w', x.below.trans (hb.mono x.le)⟩, rfl⟩
section
variable {P : Program}
/-- A region all of whose operations read, or call what makes new blocks alone. -/
theorem region_cw {id : Nat} {Q : Exit → Act → World → Prop} {a : Act} {w : World} {l : List Oper} (hm : P.follows .mixedOrders = true) (hB : Region.lexB .any l.toArray = true)
    (h : wpQuiet P l.toArray (fun w' => ∃ x : Cw w, w' = x.w) (fun a' => ∀ w', Below w.heap.size w w' → Q .normal a' w') l a) : (Code.region id l.toArray true).wp P Q a w := by
  refine wp_region_quiet (C := fun w' => ∃ x : Cw w, w' = x.w) hm hB ⟨⟨_, (Below.refl _ _).drew⟩, rfl⟩ ?_
  have : (fun a' => ∀ w', (∃ x : Cw w, w' = x.w) → Q .normal a' w') = (fun a' => ∀ w', Below w.heap.size w w' → Q .normal a' w') := by
    funext a'
    apply propext
    exact ⟨fun h w' hb => h w' ⟨⟨w', hb⟩, rfl⟩, fun h w' ⟨x, hx⟩ => by rw [hx]; exact h _ x.below⟩
  rw [this]
  simpa using h

/-! ### A head that reads and calls, then a forced tail -/
variable {ops : Array Oper} {C : World → Prop}
def wpHead (P : Program) (ops : Array Oper) (C : World → Prop) (n : Nat) (L : Array Bool → Act → Prop) : Nat → Array Bool → Act → Prop
  | 0, d, a => L d a
  | f + 1, d, a => Region.ready .any ops d ≠ [] ∧ ∀ i ∈ Region.ready .any ops d, i < n ∧ qOp P ops C i (wpHead P ops C n L f (d.setIfInBounds i true)) a

theorem any_of_head {n g : Nat} {L : Array Bool → Act → Prop} {Q : Exit → Act → World → Prop} (hL : ∀ d a w, C w → L d a → wpAny P .any ops Q g d a w) (f : Nat) :
    ∀ (d : Array Bool) (a : Act) (w : World), C w → wpHead P ops C n L f d a → wpAny P .any ops Q (f + g) d a w := by
  induction f with
  | zero => intro d a w hw h; rw [Nat.zero_add]; exact hL _ _ _ hw h
  | succ f ih =>
    intro d a w hw h
    rw [Nat.add_right_comm]
    exact ⟨fun e => absurd e h.1, fun i hi => wpOp_of_qOp hw (fun a' w' hw' h' => ih _ a' w' hw' h') (h.2 i hi).2⟩

theorem head_first {n i : Nat} {oi : Oper} {v : Value} {L : Array Bool → Act → Prop} (hi : ops[i]? = some oi) (hsel : Region.noSelect ops = true) (hs : Region.sinkB .any ops n = true) (hc : Region.chainB .any ops n = true)
    (hn : n < ops.size) (hin : i < n) (hdone : ∀ d a, L d a → ∀ j ∈ Region.ready .any ops d, n ≤ j) (f : Nat) :
    ∀ (d : Array Bool) (a : Act), HeadInv .any ops n d → (∀ j oj, ops[j]? = some oj → j ≠ i → d.getD j true = false → (∀ e ∈ oj.after, Region.binds .any e = true → e.on ≠ i) → oi.apart ops oj = true) →
      i ∈ Region.ready .any ops d → YieldsIn P ops C oi v a → wpHead P ops C n L f (d.setIfInBounds i true) (a.put oi.dst v) → wpHead P ops C n L (f + 1) d a := by
  have hsl := Region.noSelect_spec hsel
  induction f with
  | zero =>
    intro d a inv _ hr hy H
    refine ⟨fun h => List.ne_nil_of_mem hr h, fun j hj => ?_⟩
    have hjn : j < n := Nat.lt_of_not_le fun h => tail_waits hs hc hn inv _ i rfl hin (mem_ready.1 hr).1 j h hj
    refine ⟨hjn, ?_⟩
    by_cases hji : j = i
    · cases hji; exact hy.qOp hi H
    · exact absurd (hdone _ _ H j (ready_mono hj hji)) (Nat.not_le_of_lt hjn)
  | succ f ih =>
    intro d a inv hfree hr hy H
    refine ⟨fun h => List.ne_nil_of_mem hr h, fun j hj => ?_⟩
    have hjn : j < n := Nat.lt_of_not_le fun h => tail_waits hs hc hn inv _ i rfl hin (mem_ready.1 hr).1 j h hj
    refine ⟨hjn, ?_⟩
    by_cases hji : j = i
    · cases hji; exact hy.qOp hi H
    · obtain ⟨hjun, oj, hoj, hall⟩ := mem_ready.1 hj
      have hnot : ∀ e ∈ oj.after, Region.binds .any e = true → e.on ≠ i := by
        intro e he hb heq
        have h1 := hall e he hb
        rw [heq, getD_both (mem_ready.1 hr).1] at h1
        cases h1
      have h2 := qOp_put hoj (hfree j oj hoj hji hjun hnot) (fun cs b => hsl i oi cs b hi) (fun cs b => hsl j oj cs b hoj) hy (H.2 j (ready_mono hj hji)).2
      refine qOp_mono (fun a' h3 => ih (d.setIfInBounds j true) a' (inv.set hj hjn) ?_ (ready_mono hr (Ne.symm hji)) h3.1 ?_) h2
      · intro k ok hk hki hun hno
        refine hfree k ok hk hki ?_ hno
        by_cases hjk : j = k
        · cases hjk; exact hjun
        · rwa [getD_set_ne true hjk] at hun
      · rw [Array.setIfInBounds_comm _ _ hji]
        exact h3.2

theorem head_lex {n g : Nat} {Lq : Act → Prop} (hsel : Region.noSelect ops = true) (hs : Region.sinkB .any ops n = true) (hc : Region.chainB .any ops n = true) (hn : n < ops.size) (l : List Oper) :
    ∀ (k : Nat) (d : Array Bool) (a : Act), (∀ j, j < l.length → l[j]? = ops[k + j]?) → k + l.length = n → HeadInv .any ops n d → Region.lexHead .any ops g l.length k d = true → wpQuiet P ops C Lq l a →
    wpHead P ops C n (fun d' a' => Region.seqB .any ops g n d' = true ∧ Lq a') l.length d a := by
  induction l with
  | nil =>
    intro k d a _ hk _ hB h
    have hkn : k = n := by simpa using hk
    cases hkn
    exact ⟨by simpa [Region.lexHead] using hB, h⟩
  | cons o l ih =>
    intro k d a hl hk inv hB h
    have h0 : ops[k]? = some o := by simpa using (hl 0 (by simp)).symm
    simp only [List.length_cons, Region.lexHead, Bool.and_eq_true] at hB
    have hkn : k < n := by simp only [List.length_cons] at hk; omega
    have hr' : k ∈ Region.ready .any ops d := by simpa using hB.1.1
    have hst : qOp P ops C k (wpQuiet P ops C Lq l) a := by unfold qOp; simp only [h0]; exact h
    obtain ⟨v, hy, hK⟩ := yieldsIn_of_qOp h0 hst
    refine head_first h0 hsel hs hc hn hkn (fun d' a' hL => seqB_ready hL.1) l.length d a inv (Region.free_spec h0 hB.1.2) hr' hy ?_
    refine ih (k + 1) _ _ (fun j hj => ?_) (by simp only [List.length_cons] at hk; omega) (inv.set hr' hkn) hB.2 hK
    have := hl (j + 1) (by simp; omega)
    simpa [Nat.add_assoc, Nat.add_comm 1 j] using this

/-- The first n operations read, or call what makes new blocks alone; the others come in the text's order. -/
theorem region_cw_tail {id : Nat} {Q : Exit → Act → World → Prop} {a : Act} {w : World} {l : List Oper} (n : Nat) (hm : P.follows .mixedOrders = true) (hB : Region.lexTailB .any l.toArray n = true)
    (h : wpQuiet P l.toArray (fun w' => ∃ x : Cw w, w' = x.w) (fun a' => ∀ w', Below w.heap.size w w' → wpList P l.toArray Q (l.drop n) a' w') (l.take n) a) : (Code.region id l.toArray true).wp P Q a w := by
  simp only [Region.lexTailB, Bool.and_eq_true, decide_eq_true_eq] at hB
  obtain ⟨⟨⟨⟨hsel, hn⟩, hs⟩, hc⟩, hlex⟩ := hB
  have hn' : n < l.length := by simpa using hn
  have htl : (l.take n).length = n := by simp; omega
  have hdl : (l.drop n).length = l.toArray.size - n := by simp
  have inv0 : HeadInv .any l.toArray n (Array.replicate l.toArray.size false) :=
    ⟨by simp, fun j oj _ hl => (by rw [getD_replicate_false] at hl; cases hl), fun t _ ht => getD_in (by simpa using ht) (getD_replicate_false _ _)⟩
  have H := head_lex (g := l.toArray.size - n) (C := fun w' => ∃ x : Cw w, w' = x.w) hsel hs hc hn (l.take n) 0 _ a (fun j hj => by
    have hj' : j < n := by rw [htl] at hj; exact hj
    simp [hj']) (by simpa using htl) inv0 (by rw [htl]; exact hlex) h
  refine wp_region_any hm ?_
  have := any_of_head (C := fun w' => ∃ x : Cw w, w' = x.w) (Q := Q) (g := l.toArray.size - n) (fun d a' w' hw hL => by
    obtain ⟨x, rfl⟩ := hw
    have := wpAny_of_seq (md := .any) (Q' := Q) (l.drop n) n d a' x.w (fun j => by simp [List.getElem?_drop]) (by rw [hdl]; exact hL.1) (hL.2 _ x.below)
    rwa [hdl] at this) _ _ _ { w with drawn := w.drawn + 1 } ⟨⟨_, (Below.refl _ _).drew⟩, rfl⟩ H
  rw [htl, show n + (l.toArray.size - n) = l.toArray.size by omega] at this
  exact this
end
end Go.Proofs.Ytlfljlhppigejaa
namespace Go.Proofs.Ytlfljlhppigejaa
open Go.RowKit

/-- A class of worlds: what was there when the region began stays; new blocks may come at any time. -/
structure Cls (v : World) where
  C : World → Prop
  sub : ∀ w, C w → Below v.heap.size v w
  cl : ∀ w w', C w → Below w.heap.size w w' → C w'
def Cls.all (v : World) : Cls v := ⟨fun w => Below v.heap.size v w, fun _ h => h, fun _ _ h k => h.trans (k.mono h.size)⟩
/-- .. and a new block p holds these cells. -/
def Cls.blk (v : World) (p : Nat) (c : Array Value) : Cls v :=
  ⟨fun w => Below v.heap.size v w ∧ v.heap.size ≤ p ∧ Blk w p c, fun _ h => h.1, fun _ _ h k => ⟨h.1.trans (k.mono h.1.size), h.2.1, h.2.2.call k⟩⟩

section
variable {P : Program} {ops : Array Oper} {v0 : World} {Q : Exit → Act → World → Prop}
def qUp (P : Program) (w : World) (v : Value) : Result Next → Prop
  | .ok (.value u) w' => w' = w ∧ u = v
  | .ok .skip w' => w' = w ∧ v = undef
  | .ok (.enter f args) w' => w' = w ∧ Calls P f args w fun e w'' => e = .returned v ∧ Below w.heap.size w w''
  | _ => False
def qAt (P : Program) (v0 : World) (o : Oper) (a : Act) (v : Value) : Prop := ∀ x : Cw v0, qUp P x.w v ((execOp a.eval o).run P x.w)
def qOne (P : Program) (v0 : World) (o : Oper) (a : Act) (K : Act → Prop) : Prop := ∃ v, qAt P v0 o a v ∧ K (a.put o.dst v)
def qOpB (P : Program) (ops : Array Oper) (v0 : World) (i : Nat) (K : Act → Prop) (a : Act) : Prop :=
  match ops[i]? with
  | none => K a
  | some o => if Region.wanted o (yielded ops a.tmps) then qOne P v0 o a K else K (a.put o.dst undef)
def YB (P : Program) (ops : Array Oper) (v0 : World) (o : Oper) (v : Value) (a : Act) : Prop :=
  (Region.wanted o (yielded ops a.tmps) = true ∧ qAt P v0 o a v) ∨ (Region.wanted o (yielded ops a.tmps) = false ∧ v = undef)
theorem YB.op {i : Nat} {o : Oper} {v : Value} {a : Act} (hi : ops[i]? = some o) (hy : YB P ops v0 o v a) {K : Act → Prop} (h : K (a.put o.dst v)) : qOpB P ops v0 i K a := by
  unfold qOpB
  rw [hi]
  dsimp only
  rcases hy with ⟨h1, h2⟩ | ⟨h1, rfl⟩
  · rw [if_pos h1]; exact ⟨v, h2, h⟩
  · rw [if_neg (by rw [h1]; exact Bool.false_ne_true)]; exact h
theorem YB.same {o : Oper} {v : Value} {a a' : Act} (hy : YB P ops v0 o v a) (he : execOp a'.eval o = execOp a.eval o) (hw : Region.wanted o (yielded ops a'.tmps) = Region.wanted o (yielded ops a.tmps)) : YB P ops v0 o v a' := by
  unfold YB qAt at *
  rw [he, hw]
  exact hy

/-- On from any world of which so much is known. -/
theorem gen_world {C : Code} {a : Act} {w : World} (R : World → Prop) (hR : R w) (h : ∀ W, R W → C.wp P Q a W) : C.wp P Q a w := h w hR
end
end Go.Proofs.Ytlfljlhppigejaa
