/-
  Words that all walks of this seat use: a row of cells that is read; what stays. Regions that draw their order, walked once in the order of the text: what is read lies in old blocks, what is called may make new ones; a forced tail may write. Regions that draw their order and make a variable beside a call: what reads and calls is walked once, in the order of the text; then come the operations that write, one behind the other, though some of them may have come earlier.
-/
import Derived.WalkKit
import Derived.WalkSpells
import Derived.WalkLawsBesides
import Derived.Lib.Hide
import Derived.BigQuiet
import Derived.StillTail
import Derived.Deep.MidRow
import Derived.Laws.ResultCell
namespace Go.Proofs.Ytlfljlhppigejab
open Go.RowKit

/-- The first n cells from a on are f 0, f 1 and so on (in blocks below B). -/
def Row (B : Nat) (w : World) (a : Option Addr) (n : Nat) (f : Nat → Value) : Prop :=
  ∀ k, k < n → ∃ b o, a = some ⟨b, o, none⟩ ∧ b < B ∧ w.cell? ⟨b, o + k, none⟩ = some (f k)

theorem Row.below {B : Nat} {w w' : World} {a : Option Addr} {n : Nat} {f : Nat → Value} (h : Row B w a n f) (hb : Below B w w') : Row B w' a n f :=
  fun k hk => let ⟨b, o, ha, hlt, hc⟩ := h k hk; ⟨b, o, ha, hlt, by rw [hb.cell (by exact hlt)]; exact hc⟩
theorem Row.mono {B B' : Nat} {w : World} {a : Option Addr} {n : Nat} {f : Nat → Value} (h : Row B w a n f) (hb : B ≤ B') : Row B' w a n f :=
  fun k hk => let ⟨b, o, ha, hlt, hc⟩ := h k hk; ⟨b, o, ha, Nat.lt_of_lt_of_le hlt hb, hc⟩
theorem Row.le {B : Nat} {w : World} {a : Option Addr} {n m : Nat} {f : Nat → Value} (h : Row B w a n f) (hm : m ≤ n) : Row B w a m f :=
  fun k hk => h k (Nat.lt_of_lt_of_le hk hm)

theorem cell_other {w : World} {a b : Addr} {v : Value} (h : a.block ≠ b.block) : (w.setCell a v).cell? b = w.cell? b :=
  World.cell?_setCell_other w a b v (fun e => h (by rw [e]))
theorem cell_off {w : World} {k i j : Nat} {v : Value} (h : i ≠ j) : (w.setCell ⟨k, i, none⟩ v).cell? ⟨k, j, none⟩ = w.cell? ⟨k, j, none⟩ :=
  World.cell?_setCell_other w _ _ v (fun e => h (congrArg Addr.off e))
theorem cell_same {w : World} {a : Addr} {v u : Value} (h : w.cell? a = some u) : (w.setCell a v).cell? a = some v :=
  World.cell?_setCell_same w a v h
theorem free_set {w : World} {a b : Addr} {v : Value} : (w.setCell a v).frozen? b = w.frozen? b := World.frozen?_setCell w a b v
theorem Row.set {B : Nat} {w : World} {a : Option Addr} {n : Nat} {f : Nat → Value} (h : Row B w a n f) {p : Addr} (hp : B ≤ p.block) (v : Value) : Row B (w.setCell p v) a n f :=
  fun k hk => let ⟨b, o, ha, hlt, hc⟩ := h k hk; ⟨b, o, ha, hlt, by rw [cell_other (by show p.block ≠ b; omega)]; exact hc⟩

theorem ret1 {a b : Value} (h : a = b) : Ending.returned a = .returned b := by rw [h]
theorem boolv {p q : Bool} (h : p = q) : Value.bool p = .bool q := by rw [h]
theorem intv {k : IntKind} {p q : Int} (h : p = q) : Value.int k p = .int k q := by rw [h]

theorem cell_blk {w : World} {k l i j : Nat} {v : Value} (h : k ≠ l) : (w.setCell ⟨k, i, none⟩ v).cell? ⟨l, j, none⟩ = w.cell? ⟨l, j, none⟩ := cell_other h
theorem Row.at {B : Nat} {w : World} {b o n : Nat} {f : Nat → Value} (h : Row B w (some ⟨b, o, none⟩) n f) (k : Nat) (hk : k < n) : w.cell? ⟨b, o + k, none⟩ = some (f k) := by
  obtain ⟨b', o', e, -, hc⟩ := h k hk
  cases e
  exact hc

theorem bcell {W w1 : World} {B : Nat} (hb : Below B W w1) : (∀ b o, b < B → w1.cell? ⟨b, o, none⟩ = W.cell? ⟨b, o, none⟩) ∧ (∀ b o, b < B → w1.frozen? ⟨b, o, none⟩ = W.frozen? ⟨b, o, none⟩) :=
  ⟨fun b o h => hb.cell (p := ⟨b, o, none⟩) h, fun b o h => hb.frozen (p := ⟨b, o, none⟩) h⟩

/-- Block S holds just the cells c, and may be written. -/
def Blk (w : World) (S : Nat) (c : Array Value) : Prop := S < w.heap.size ∧ (∀ i, w.cell? ⟨S, i, none⟩ = c[i]?) ∧ ∀ i, w.frozen? ⟨S, i, none⟩ = false
theorem Blk.lt {w : World} {S : Nat} {c : Array Value} (h : Blk w S c) : S < w.heap.size := h.1
theorem Blk.cell {w : World} {S : Nat} {c : Array Value} (h : Blk w S c) : ∀ i, w.cell? ⟨S, i, none⟩ = c[i]? := h.2.1
theorem Blk.free {w : World} {S : Nat} {c : Array Value} (h : Blk w S c) : ∀ i, w.frozen? ⟨S, i, none⟩ = false := h.2.2
theorem Blk.new (w : World) (c : Array Value) (t : TypeId) : Blk (w.alloc (.cells c t)) w.heap.size c :=
  ⟨by simp, fun i => World.cell?_alloc_new w c t i, fun i => World.frozen?_alloc_new w c t i⟩
theorem Blk.alloc {w : World} {S : Nat} {c : Array Value} (h : Blk w S c) (o : Obj) : Blk (w.alloc o) S c :=
  ⟨by have := h.1; simp; omega, fun i => (World.cell?_alloc_old w o _ (Nat.ne_of_lt h.1)).trans (h.2.1 i), fun i => (World.frozen?_alloc_old w o _ (Nat.ne_of_lt h.1)).trans (h.2.2 i)⟩
theorem Blk.below {w w' : World} {S B : Nat} {c : Array Value} (h : Blk w S c) (hb : Below B w w') (hS : S < B) : Blk w' S c :=
  ⟨Nat.lt_of_lt_of_le h.1 hb.size, fun i => (hb.cell (p := ⟨S, i, none⟩) hS).trans (h.2.1 i), fun i => (hb.frozen (p := ⟨S, i, none⟩) hS).trans (h.2.2 i)⟩
theorem Blk.call {w w' : World} {S : Nat} {c : Array Value} (h : Blk w S c) (hb : Below w.heap.size w w') : Blk w' S c := h.below hb h.1
theorem Blk.other {w : World} {S T i : Nat} {c : Array Value} {v : Value} (h : Blk w S c) (hT : T ≠ S) : Blk (w.setCell ⟨T, i, none⟩ v) S c :=
  ⟨by simpa using h.1, fun j => (cell_blk hT).trans (h.2.1 j), fun j => free_set.trans (h.2.2 j)⟩
theorem Blk.store {w : World} {S i : Nat} {c : Array Value} (v : Value) (h : Blk w S c) (hi : i < c.size) : Blk (w.setCell ⟨S, i, none⟩ v) S (c.setIfInBounds i v) := by
  refine ⟨by simpa using h.1, fun j => ?_, fun j => free_set.trans (h.2.2 j)⟩
  by_cases hj : i = j
  · subst hj
    rw [cell_same (u := c[i]) (by rw [h.2.1 i]; simp [hi])]
    simp [hi]
  · rw [cell_off hj, h.2.1 j]
    simp [hj]
theorem Blk.drew {w : World} {S : Nat} {c : Array Value} (h : Blk w S c) : Blk w.drew S c := h
theorem Blk.drewN {w : World} {S : Nat} {c : Array Value} (h : Blk w S c) (n : Nat) : Blk (w.drewN n) S c := h

/-- What a statement's call comes to: true, and what was there stays. -/
def TrueBelow (w : World) (e : Ending) (w' : World) : Prop := e = .returned (.bool true) ∧ Below w.heap.size w w'
theorem tb {w w' : World} {v : Value} (h : v = .bool true) (hb : Below w.heap.size w w') : TrueBelow w (.returned v) w' := ⟨by rw [h], hb⟩
end Go.Proofs.Ytlfljlhppigejab
namespace Go.Proofs.Ytlfljlhppigejab
open Go.RowKit

/-- A world in which all old blocks of v are as they were. -/
structure Cw (v : World) where
  w : World
  below : Below v.heap.size v w
theorem Cw.ne (v : World) : Nonempty (Cw v) := ⟨⟨v, Below.refl _ _⟩⟩
theorem Cw.cell {v : World} (x : Cw v) (b o : Nat) (h : b < v.heap.size) : x.w.cell? ⟨b, o, none⟩ = v.cell? ⟨b, o, none⟩ := x.below.cell (p := ⟨b, o, none⟩) h
theorem Cw.frozen {v : World} (x : Cw v) (b o : Nat) (h : b < v.heap.size) : x.w.frozen? ⟨b, o, none⟩ = v.frozen? ⟨b, o, none⟩ := x.below.frozen (p := ⟨b, o, none⟩) h
theorem Cw.le {v : World} (x : Cw v) : v.heap.size ≤ x.w.heap.size := x.below.size
/-- A call that makes new blocks alone. -/
theorem Calls.cw {P : Program} {f : FuncId} {args : Array Value} {v : World} {x : Cw v} {r : Value}
    (h : Calls P f args x.w fun e w' => e = .returned r ∧ Below x.w.heap.size x.w w') : Calls P f args x.w fun e w' => e = .returned r ∧ ∃ y : Cw v, w' = y.w :=
  h.mono fun _ w' ⟨he, hb⟩ => ⟨he, ⟨w', x.below.trans (hb.mono x.le)⟩, rfl⟩
section
variable {P : Program}
/-- A region all of whose operations read, or call what makes new blocks alone. -/
theorem region_cw {id : Nat} {Q : Exit → Act → World → Prop} {a : Act} {w : World} {l : List Oper} (hm : P.follows .mixedOrders = true) (hB : Region.lexB .any l.toArray = true)
    (h : wpQuiet P l.toArray (fun w' => ∃ x : Cw w, w' = x.w) (fun a' => ∀ w', Below w.heap.size w w' → Q .normal a' w') l a) : (Code.region id l.toArray true).wp P Q a w := by
  refine wp_region_quiet (C := fun w' => ∃ x : Cw w, w' = x.w) hm hB ⟨⟨_, (Below.refl _ _).drew⟩, rfl⟩ ?_
  have : (fun a' => ∀ w', (∃ x : Cw w, w' = x.w) → Q .normal a' w') = (fun a' => ∀ w', Below w.heap.size w w' → Q .normal a' w') := by
    funext a'
    apply propext
    exact ⟨fun h w' hb => h w' ⟨⟨w', hb⟩, rfl⟩, fun h w' ⟨x, hx⟩ => by rw [hx]; exact h _ x.below⟩
  rw [this]
  simpa using h

/-! ### A head that reads and calls, then a forced tail -/
variable {ops : Array Oper} {C : World → Prop}
def wpHead (P : Program) (ops : Array Oper) (C : World → Prop) (n : Nat) (L : Array Bool → Act → Prop) : Nat → Array Bool → Act → Prop
  | 0, d, a => L d a
  | f + 1, d, a => Region.ready .any ops d ≠ [] ∧ ∀ i ∈ Region.ready .any ops d, i < n ∧ qOp P ops C i (wpHead P ops C n L f (d.setIfInBounds i true)) a

theorem any_of_head {n g : Nat} {L : Array Bool → Act → Prop} {Q : Exit → Act → World → Prop} (hL : ∀ d a w, C w → L d a → wpAny P .any ops Q g d a w) (f : Nat) :
    ∀ (d : Array Bool) (a : Act) (w : World), C w → wpHead P ops C n L f d a → wpAny P .any ops Q (f + g) d a w := by
  induction f with
  | zero => intro d a w hw h; rw [Nat.zero_add]; exact hL _ _ _ hw h
  | succ f ih =>
    intro d a w hw h
    rw [Nat.add_right_comm]
    exact ⟨fun e => absurd e h.1, fun i hi => wpOp_of_qOp hw (fun a' w' hw' h' => ih _ a' w' hw' h') (h.2 i hi).2⟩

theorem head_first {n i : Nat} {oi : Oper} {v : Value} {L : Array Bool → Act → Prop} (hi : ops[i]? = some oi) (hsel : Region.noSelect ops = true) (hs : Region.sinkB .any ops n = true) (hc : Region.chainB .any ops n = true)
    (hn : n < ops.size) (hin : i < n) (hdone : ∀ d a, L d a → ∀ j ∈ Region.ready .any ops d, n ≤ j) (f : Nat) :
    ∀ (d : Array Bool) (a : Act), HeadInv .any ops n d → (∀ j oj, ops[j]? = some oj → j ≠ i → d.getD j true = false → (∀ e ∈ oj.after, Region.binds .any e = true → e.on ≠ i) → oi.apart ops oj = true) →
      i ∈ Region.ready .any ops d → YieldsIn P ops C oi v a → wpHead P ops C n L f (d.setIfInBounds i true) (a.put oi.dst v) → wpHead P ops C n L (f + 1) d a := by
  have hsl := Region.noSelect_spec hsel
  induction f with
  | zero =>
    intro d a inv _ hr hy H
    refine ⟨fun h => List.ne_nil_of_mem hr h, fun j hj => ?_⟩
    have hjn : j < n := Nat.lt_of_not_le fun h => tail_waits hs hc hn inv _ i rfl hin (mem_ready.1 hr).1 j h hj
    refine ⟨hjn, ?_⟩
    by_cases hji : j = i
    · cases hji; exact hy.qOp hi H
    · exact absurd (hdone _ _ H j (ready_mono hj hji)) (Nat.not_le_of_lt hjn)
  | succ f ih =>
    intro d a inv hfree hr hy H
    refine ⟨fun h => List.ne_nil_of_mem hr h, fun j hj => ?_⟩
    have hjn : j < n := Nat.lt_of_not_le fun h => tail_waits hs hc hn inv _ i rfl hin (mem_ready.1 hr).1 j h hj
    refine ⟨hjn, ?_⟩
    by_cases hji : j = i
    · cases hji; exact hy.qOp hi H
    · obtain ⟨hjun, oj, hoj, hall⟩ := mem_ready.1 hj
      have hnot : ∀ e ∈ oj.after, Region.binds .any e = true → e.on ≠ i := by
        intro e he hb heq
        have h1 := hall e he hb
        rw [heq, getD_both (mem_ready.1 hr).1] at h1
        cases h1
      have h2 := qOp_put hoj (hfree j oj hoj hji hjun hnot) (fun cs b => hsl i oi cs b hi) (fun cs b => hsl j oj cs b hoj) hy (H.2 j (ready_mono hj hji)).2
      refine qOp_mono (fun a' h3 => ih (d.setIfInBounds j true) a' (inv.set hj hjn) ?_ (ready_mono hr (Ne.symm hji)) h3.1 ?_) h2
      · intro k ok hk hki hun hno
        refine hfree k ok hk hki ?_ hno
        by_cases hjk : j = k
        · cases hjk; exact hjun
        · rwa [getD_set_ne true hjk] at hun
      · rw [Array.setIfInBounds_comm _ _ hji]
        exact h3.2

theorem head_lex {n g : Nat} {Lq : Act → Prop} (hsel : Region.noSelect ops = true) (hs : Region.sinkB .any ops n = true) (hc : Region.chainB .any ops n = true) (hn : n < ops.size) (l : List Oper) :
    ∀ (k : Nat) (d : Array Bool) (a : Act), (∀ j, j < l.length → l[j]? = ops[k + j]?) → k + l.length = n → HeadInv .any ops n d → Region.lexHead .any ops g l.length k d = true → wpQuiet P ops C Lq l a →
    wpHead P ops C n (fun d' a' => Region.seqB .any ops g n d' = true ∧ Lq a') l.length d a := by
  induction l with
  | nil =>
    intro k d a _ hk _ hB h
    have hkn : k = n := by simpa using hk
    cases hkn
    exact ⟨by simpa [Region.lexHead] using hB, h⟩
  | cons o l ih =>
    intro k d a hl hk inv hB h
    have h0 : ops[k]? = some o := by simpa using (hl 0 (by simp)).symm
    simp only [List.length_cons, Region.lexHead, Bool.and_eq_true] at hB
    have hkn : k < n := by simp only [List.length_cons] at hk; omega
    have hr' : k ∈ Region.ready .any ops d := by simpa using hB.1.1
    have hst : qOp P ops C k (wpQuiet P ops C Lq l) a := by unfold qOp; simp only [h0]; exact h
    obtain ⟨v, hy, hK⟩ := yieldsIn_of_qOp h0 hst
    refine head_first h0 hsel hs hc hn hkn (fun d' a' hL => seqB_ready hL.1) l.length d a inv (Region.free_spec h0 hB.1.2) hr' hy ?_
    refine ih (k + 1) _ _ (fun j hj => ?_) (by simp only [List.length_cons] at hk; omega) (inv.set hr' hkn) hB.2 hK
    have := hl (j + 1) (by simp; omega)
    simpa [Nat.add_assoc, Nat.add_comm 1 j] using this

/-- The first n operations read, or call what makes new blocks alone; the others come in the text's order. -/
theorem region_cw_tail {id : Nat} {Q : Exit → Act → World → Prop} {a : Act} {w : World} {l : List Oper} (n : Nat) (hm : P.follows .mixedOrders = true) (hB : Region.lexTailB .any l.toArray n = true)
    (h : wpQuiet P l.toArray (fun w' => ∃ x : Cw w, w' = x.w) (fun a' => ∀ w', Below w.heap.size w w' → wpList P l.toArray Q (l.drop n) a' w') (l.take n) a) : (Code.region id l.toArray true).wp P Q a w := by
  simp only [Region.lexTailB, Bool.and_eq_true, decide_eq_true_eq] at hB
  obtain ⟨⟨⟨⟨hsel, hn⟩, hs⟩, hc⟩, hlex⟩ := hB
  have hn' : n < l.length := by simpa using hn
  have htl : (l.take n).length = n := by simp; omega
  have hdl : (l.drop n).length = l.toArray.size - n := by simp
  have inv0 : HeadInv .any l.toArray n (Array.replicate l.toArray.size false) :=
    ⟨by simp, fun j oj _ hl => (by rw [getD_replicate_false] at hl; cases hl), fun t _ ht => getD_in (by simpa using ht) (getD_replicate_false _ _)⟩
  have H := head_lex (g := l.toArray.size - n) (C := fun w' => ∃ x : Cw w, w' = x.w) hsel hs hc hn (l.take n) 0 _ a (fun j hj => by
    have hj' : j < n := by rw [htl] at hj; exact hj
    simp [hj']) (by simpa using htl) inv0 (by rw [htl]; exact hlex) h
  refine wp_region_any hm ?_
  have := any_of_head (C := fun w' => ∃ x : Cw w, w' = x.w) (Q := Q) (g := l.toArray.size - n) (fun d a' w' hw hL => by
    obtain ⟨x, rfl⟩ := hw
    have := wpAny_of_seq (md := .any) (Q' := Q) (l.drop n) n d a' x.w (fun j => by simp [List.getElem?_drop]) (by rw [hdl]; exact hL.1) (hL.2 _ x.below)
    rwa [hdl] at this) _ _ _ { w with drawn := w.drawn + 1 } ⟨⟨_, (Below.refl _ _).drew⟩, rfl⟩ H
  rw [htl, show n + (l.toArray.size - n) = l.toArray.size by omega] at this
  exact this
end
end Go.Proofs.Ytlfljlhppigejab
namespace Go.Proofs.Ytlfljlhppigejab
open Go.RowKit

/-- A class of worlds: what was there when the region began stays; new blocks may come at any time. -/
structure Cls (v : World) where
  C : World → Prop
  sub : ∀ w, C w → Below v.heap.size v w
  cl : ∀ w w', C w → Below w.heap.size w w' → C w'
def Cls.all (v : World) : Cls v := ⟨fun w => Below v.heap.size v w, fun _ h => h, fun _ _ h k => h.trans (k.mono h.size)⟩
/-- .. and a new block p holds these cells. -/
def Cls.blk (v : World) (p : Nat) (c : Array Value) : Cls v :=
  ⟨fun w => Below v.heap.size v w ∧ v.heap.size ≤ p ∧ Blk w p c, fun _ h => h.1, fun _ _ h k => ⟨h.1.trans (k.mono h.1.size), h.2.1, h.2.2.call k⟩⟩

section
variable {P : Program} {ops : Array Oper} {v0 : World} {Q : Exit → Act → World → Prop}
def qUp (P : Program) (w : World) (v : Value) : Result Next → Prop
  | .ok (.value u) w' => w' = w ∧ u = v
  | .ok .skip w' => w' = w ∧ v = undef
  | .ok (.enter f args) w' => w' = w ∧ Calls P f args w fun e w'' => e = .returned v ∧ Below w.heap.size w w''
  | _ => False
def qAt (P : Program) (v0 : World) (o : Oper) (a : Act) (v : Value) : Prop := ∀ x : Cw v0, qUp P x.w v ((execOp a.eval o).run P x.w)
def qOne (P : Program) (v0 : World) (o : Oper) (a : Act) (K : Act → Prop) : Prop := ∃ v, qAt P v0 o a v ∧ K (a.put o.dst v)
def qOpB (P : Program) (ops : Array Oper) (v0 : World) (i : Nat) (K : Act → Prop) (a : Act) : Prop :=
  match ops[i]? with
  | none => K a
  | some o => if Region.wanted o (yielded ops a.tmps) then qOne P v0 o a K else K (a.put o.dst undef)
def YB (P : Program) (ops : Array Oper) (v0 : World) (o : Oper) (v : Value) (a : Act) : Prop :=
  (Region.wanted o (yielded ops a.tmps) = true ∧ qAt P v0 o a v) ∨ (Region.wanted o (yielded ops a.tmps) = false ∧ v = undef)
theorem YB.op {i : Nat} {o : Oper} {v : Value} {a : Act} (hi : ops[i]? = some o) (hy : YB P ops v0 o v a) {K : Act → Prop} (h : K (a.put o.dst v)) : qOpB P ops v0 i K a := by
  unfold qOpB
  rw [hi]
  dsimp only
  rcases hy with ⟨h1, h2⟩ | ⟨h1, rfl⟩
  · rw [if_pos h1]; exact ⟨v, h2, h⟩
  · rw [if_neg (by rw [h1]; exact Bool.false_ne_true)]; exact h
theorem YB.same {o : Oper} {v : Value} {a a' : Act} (hy : YB P ops v0 o v a) (he : execOp a'.eval o = execOp a.eval o) (hw : Region.wanted o (yielded ops a'.tmps) = Region.wanted o (yielded ops a.tmps)) : YB P ops v0 o v a' := by
  unfold YB qAt at *
  rw [he, hw]
  exact hy

/-- An operation that writes: into which class, with which value. -/
def effAt (P : Program) (ops : Array Oper) {v0 : World} (o : Oper) (a : Act) (C : Cls v0) (K : Act → Cls v0 → Prop) : Prop :=
  Region.wanted o (yielded ops a.tmps) = true ∧ ∃ (ι : Type) (val : ι → Value) (D : ι → Cls v0),
    (∀ w, C.C w → ∃ i w', ((execOp a.eval o).run P w = .ok (.value (val i)) w' ∨ (execOp a.eval o).run P w = .ok .skip w' ∧ val i = undef) ∧ (D i).C w') ∧ ∀ i, K (a.put o.dst (val i)) (D i)
theorem effAt_mono {o : Oper} {a : Act} {C : Cls v0} {K K' : Act → Cls v0 → Prop} (h : ∀ a C, K a C → K' a C) (hh : effAt P ops o a C K) : effAt P ops o a C K' := by
  obtain ⟨h1, ι, val, D, h2, h3⟩ := hh
  exact ⟨h1, ι, val, D, h2, fun i => h _ _ (h3 i)⟩

def wpE (P : Program) (ops : Array Oper) (Q : Exit → Act → World → Prop) {v0 : World} : Nat → Array Bool → Act → Cls v0 → Prop
  | 0, d, a, C => Region.ready .any ops d = [] ∧ ∀ w, C.C w → Q .normal a w
  | f + 1, d, a, C => (Region.ready .any ops d = [] → ∀ w, C.C w → Q .normal a w) ∧
    ∀ i ∈ Region.ready .any ops d, qOpB P ops v0 i (fun a' => wpE P ops Q f (d.setIfInBounds i true) a' C) a ∨
      ∃ o, ops[i]? = some o ∧ effAt P ops o a C (fun a' C' => wpE P ops Q f (d.setIfInBounds i true) a' C')

theorem any_of_E (f : Nat) : ∀ (d : Array Bool) (a : Act) (C : Cls v0) (w : World), C.C w → wpE P ops Q f d a C → wpAny P .any ops Q f d a w := by
  induction f with
  | zero => intro d a C w hw h; exact ⟨h.1, h.2 w hw⟩
  | succ f ih =>
    intro d a C w hw h
    refine ⟨fun e => h.1 e w hw, fun i hi => ?_⟩
    rcases h.2 i hi with h1 | ⟨o, h1, h2, ι, val, D, h3, h4⟩
    · unfold qOpB at h1
      unfold wpOp
      split
      · rename_i h0; rw [h0] at h1; exact ih _ _ _ _ hw h1
      · rename_i o h0
        rw [h0] at h1
        dsimp only at h1
        split
        · rename_i hq
          rw [if_pos hq] at h1
          obtain ⟨v, h2, h3⟩ := h1
          left
          have h4 := h2 ⟨w, C.sub w hw⟩
          dsimp only at h4
          unfold Oper.wp
          generalize (execOp a.eval o).run P w = r at *
          cases r with
          | ok x w' =>
            cases x <;> simp only [qUp] at h4 <;> simp only [Oper.upon]
            case value u => obtain ⟨e1, e2⟩ := h4; rw [e1, e2]; exact ih _ _ _ _ hw h3
            case skip => obtain ⟨e1, e2⟩ := h4; rw [e1, ← e2]; exact ih _ _ _ _ hw h3
            case enter g args =>
              obtain ⟨e1, hc⟩ := h4
              rw [e1]
              exact hc.mono fun e w'' ⟨he, hb⟩ => by subst he; exact ih _ _ _ _ (C.cl w w'' hw hb) h3
          | halt x w' => simp only [qUp] at h4
        · rename_i hq
          rw [if_neg hq] at h1
          exact ih _ _ _ _ hw h1
    · unfold wpOp
      rw [h1]
      dsimp only
      rw [if_pos h2]
      left
      obtain ⟨j, w', h5, h6⟩ := h3 w hw
      unfold Oper.wp
      rcases h5 with h5 | ⟨h5, h7⟩
      · rw [h5]; exact ih _ _ _ _ h6 (h4 j)
      · rw [h5]
        simp only [Oper.upon]
        rw [← h7]
        exact ih _ _ _ _ h6 (h4 j)

theorem E_first {i : Nat} {oi : Oper} {v : Value} (hi : ops[i]? = some oi) (hsel : Region.noSelect ops = true) (f : Nat) :
    ∀ (d : Array Bool) (a : Act) (C : Cls v0), (∀ j oj, ops[j]? = some oj → j ≠ i → d.getD j true = false → (∀ e ∈ oj.after, Region.binds .any e = true → e.on ≠ i) → oi.apart ops oj = true) →
      i ∈ Region.ready .any ops d → YB P ops v0 oi v a → wpE P ops Q f (d.setIfInBounds i true) (a.put oi.dst v) C → wpE P ops Q (f + 1) d a C := by
  have hsl := Region.noSelect_spec hsel
  induction f with
  | zero =>
    intro d a C _ hr hy H
    refine ⟨fun h => absurd h (List.ne_nil_of_mem hr), fun j hj => ?_⟩
    by_cases hji : j = i
    · cases hji; exact Or.inl (hy.op hi H)
    · have := ready_mono hj hji
      rw [H.1] at this
      cases this
  | succ f ih =>
    intro d a C hfree hr hy H
    refine ⟨fun h => absurd h (List.ne_nil_of_mem hr), fun j hj => ?_⟩
    by_cases hji : j = i
    · cases hji; exact Or.inl (hy.op hi H)
    · obtain ⟨hjun, oj, hoj, hall⟩ := mem_ready.1 hj
      have hnot : ∀ e ∈ oj.after, Region.binds .any e = true → e.on ≠ i := by
        intro e he hb heq
        have h1 := hall e he hb
        rw [heq, getD_both (mem_ready.1 hr).1] at h1
        cases h1
      obtain ⟨p1, p2, p3⟩ := Oper.apart_spec (hfree j oj hoj hji hjun hnot)
      have hfree' : ∀ k ok, ops[k]? = some ok → k ≠ i → (d.setIfInBounds j true).getD k true = false → (∀ e ∈ ok.after, Region.binds .any e = true → e.on ≠ i) → oi.apart ops ok = true := by
        intro k ok hk hki hun hno
        refine hfree k ok hk hki ?_ hno
        by_cases hjk : j = k
        · cases hjk; exact hjun
        · rwa [getD_set_ne true hjk] at hun
      have keep : ∀ u, YB P ops v0 oi v (a.put oj.dst u) := fun u => hy.same (execOp_put oi (fun cs b => hsl i oi cs b hi) a oj.dst u p3) (wanted_put oi a oj.dst u p3)
      have go : ∀ u (C' : Cls v0), wpE P ops Q f ((d.setIfInBounds i true).setIfInBounds j true) ((a.put oi.dst v).put oj.dst u) C' → wpE P ops Q (f + 1) (d.setIfInBounds j true) (a.put oj.dst u) C' := by
        intro u C' hu
        refine ih _ _ _ hfree' (ready_mono hr (Ne.symm hji)) (keep u) ?_
        rw [Array.setIfInBounds_comm _ _ hji, ← Act.put_comm a v u p2]
        exact hu
      rcases H.2 j (ready_mono hj hji) with h1 | ⟨o, ho, h2, ι, val, D, h3, h4⟩
      · left
        unfold qOpB at h1 ⊢
        rw [hoj] at h1 ⊢
        dsimp only at h1 ⊢
        rw [wanted_put oj a oi.dst v p1] at h1
        split
        · rename_i hq
          rw [if_pos hq] at h1
          obtain ⟨u, hu, hn⟩ := h1
          refine ⟨u, ?_, go u C hn⟩
          unfold qAt at hu ⊢
          rwa [execOp_put oj (fun cs b => hsl j oj cs b hoj) a oi.dst v p1] at hu
        · rename_i hq
          rw [if_neg hq] at h1
          exact go undef C h1
      · right
        obtain rfl : o = oj := Option.some.inj (ho.symm.trans hoj)
        refine ⟨o, hoj, by rw [← wanted_put o a oi.dst v p1]; exact h2, ι, val, D, ?_, fun k => go _ _ (h4 k)⟩
        rwa [execOp_put o (fun cs b => hsl j o cs b hoj) a oi.dst v p1] at h3

/-- The operations that write, one behind the other. -/
def tailE (P : Program) (ops : Array Oper) (Q : Exit → Act → World → Prop) {v0 : World} : List Oper → Act → Cls v0 → Prop
  | [], a, C => ∀ w, C.C w → Q .normal a w
  | o :: t, a, C => effAt P ops o a C (fun a' C' => tailE P ops Q t a' C')
theorem E_tail (l : List Oper) : ∀ (k : Nat) (d : Array Bool) (a : Act) (C : Cls v0), (∀ j, l[j]? = ops[k + j]?) → Region.seqB .any ops l.length k d = true → tailE P ops Q l a C → wpE P ops Q l.length d a C := by
  induction l with
  | nil => intro k d a C _ hB h; exact ⟨by simpa [Region.seqB] using hB, h⟩
  | cons o l ih =>
    intro k d a C hl hB h
    have h0 : ops[k]? = some o := by simpa using (hl 0).symm
    simp only [List.length_cons, Region.seqB, Bool.and_eq_true, decide_eq_true_eq] at hB
    refine ⟨fun h1 => (by rw [hB.1] at h1; cases h1), fun i hi => ?_⟩
    rw [hB.1] at hi
    obtain rfl : i = k := by simpa using hi
    exact Or.inr ⟨o, h0, effAt_mono (fun a' C' h' => ih (i + 1) _ a' C' (fun j => by have := hl (j + 1); simpa [Nat.add_assoc, Nat.add_comm 1 j] using this) hB.2 h') h⟩

/-- The operations that read and call, in the order of the text. -/
def wpQB (P : Program) (ops : Array Oper) (v0 : World) (K : Act → Prop) : List Oper → Act → Prop
  | [], a => K a
  | o :: rest, a => if Region.wanted o (yielded ops a.tmps) then qOne P v0 o a (wpQB P ops v0 K rest) else wpQB P ops v0 K rest (a.put o.dst undef)
theorem wpQB_nil {K : Act → Prop} {a : Act} (h : K a) : wpQB P ops v0 K [] a := h
theorem wpQB_step {L : Act → Prop} {a : Act} {o : Oper} {rest : List Oper} (h : ∀ K : Act → Prop, (∀ a, wpQB P ops v0 L rest a → K a) → if Region.wanted o (yielded ops a.tmps) then qOne P v0 o a K else K (a.put o.dst undef)) : wpQB P ops v0 L (o :: rest) a :=
  h _ (fun _ h => h)
theorem E_lex {g n : Nat} {C : Cls v0} (hsel : Region.noSelect ops = true) (l t : List Oper) (ht : t.length = g) (htl : ∀ j, t[j]? = ops[n + j]?) :
    ∀ (k : Nat) (d : Array Bool) (a : Act), (∀ j, j < l.length → l[j]? = ops[k + j]?) → k + l.length = n → Region.lexHead .any ops g l.length k d = true → wpQB P ops v0 (fun a' => tailE P ops Q t a' C) l a →
      wpE P ops Q (l.length + g) d a C := by
  induction l with
  | nil =>
    intro k d a _ hk hB h
    have hkn : k = n := by simpa using hk
    cases hkn
    rw [List.length_nil, Nat.zero_add, ← ht]
    exact E_tail t _ d a C htl (by rw [ht]; simpa [Region.lexHead] using hB) h
  | cons o l ih =>
    intro k d a hl hk hB h
    have h0 : ops[k]? = some o := by simpa using (hl 0 (by simp)).symm
    simp only [List.length_cons, Region.lexHead, Bool.and_eq_true] at hB
    have hr' : k ∈ Region.ready .any ops d := by simpa using hB.1.1
    rw [List.length_cons, Nat.add_right_comm]
    have hrec : ∀ v, wpQB P ops v0 (fun a' => tailE P ops Q t a' C) l (a.put o.dst v) → wpE P ops Q (l.length + g) (d.setIfInBounds k true) (a.put o.dst v) C := fun v hv =>
      ih (k + 1) _ _ (fun j hj => by have := hl (j + 1) (by simp; omega); simpa [Nat.add_assoc, Nat.add_comm 1 j] using this) (by simp only [List.length_cons] at hk; omega) hB.2 hv
    unfold wpQB at h
    by_cases hw : Region.wanted o (yielded ops a.tmps) = true
    · rw [if_pos hw] at h
      obtain ⟨v, h1, h2⟩ := h
      exact E_first h0 hsel (l.length + g) d a C (Region.free_spec h0 hB.1.2) hr' (Or.inl ⟨hw, h1⟩) (hrec v h2)
    · rw [if_neg hw] at h
      exact E_first h0 hsel (l.length + g) d a C (Region.free_spec h0 hB.1.2) hr' (Or.inr ⟨by simpa using hw, rfl⟩) (hrec undef h)
/-- **The region**: n operations that read and call, then those that write. -/
theorem region_loose {id : Nat} {a : Act} {w : World} {l : List Oper} (n : Nat) (hm : P.follows .mixedOrders = true) (hB : (Region.noSelect l.toArray && (decide (n ≤ l.length) && Region.lexHead .any l.toArray (l.length - n) n 0 (Array.replicate l.length false))) = true)
    (h : wpQB P l.toArray w (fun a' => tailE P l.toArray Q (l.drop n) a' (Cls.all w)) (l.take n) a) : (Code.region id l.toArray true).wp P Q a w := by
  simp only [Bool.and_eq_true, decide_eq_true_eq] at hB
  obtain ⟨hsel, hn, hlex⟩ := hB
  have htl : (l.take n).length = n := by simp; omega
  have := E_lex (g := l.length - n) (n := n) hsel (l.take n) (l.drop n) (by simp) (fun j => by simp [List.getElem?_drop]) 0 (Array.replicate l.length false) a (fun j hj => by
    have hj' : j < n := by rw [htl] at hj; exact hj
    simp [hj']) (by simpa using htl) (by rw [htl]; exact hlex) h
  rw [htl, show n + (l.length - n) = l.length by omega] at this
  refine wp_region_any hm ?_
  simpa using any_of_E l.length _ a _ { w with drawn := w.drawn + 1 } (show Below w.heap.size w _ from (Below.refl _ _).drew) this

/-- On from any world of which so much is known. -/
theorem gen_world {C : Code} {a : Act} {w : World} (R : World → Prop) (hR : R w) (h : ∀ W, R W → C.wp P Q a W) : C.wp P Q a w := h w hR
/-! ### What writes -/
theorem tail_nil {a : Act} {C : Cls v0} (h : ∀ w, C.C w → Q .normal a w) : tailE P ops Q [] a C := h
/-- A new variable. -/
theorem tail_alloc {o : Oper} {t : List Oper} {a : Act} {T : TypeId} {z : Array Value} (hw : Region.wanted o (yielded ops a.tmps) = true) (hrun : ∀ w, (execOp a.eval o).run P w = .ok (.value (.pointer (some ⟨w.heap.size, 0, none⟩))) (w.alloc (.cells z T)))
    (h : ∀ p, tailE P ops Q t (a.put o.dst (.pointer (some ⟨p, 0, none⟩))) (Cls.blk v0 p z)) : tailE P ops Q (o :: t) a (Cls.all v0) := by
  refine ⟨hw, Nat, fun p => .pointer (some ⟨p, 0, none⟩), fun p => Cls.blk v0 p z, fun w hC => ?_, h⟩
  exact ⟨w.heap.size, _, Or.inl (hrun w), Below.alloc hC hC.size _, hC.size, Blk.new w z T⟩
/-- It is written whole. -/
theorem tail_store {o : Oper} {t : List Oper} {a : Act} {p : Nat} {z c : Array Value} (hw : Region.wanted o (yielded ops a.tmps) = true) (hd : o.dst = none)
    (hrun : ∀ w, Blk w p z → ∃ w', (execOp a.eval o).run P w = .ok .skip w' ∧ Blk w' p c ∧ ∀ B, B ≤ p → Below B w w') (h : tailE P ops Q t a (Cls.blk v0 p c)) : tailE P ops Q (o :: t) a (Cls.blk v0 p z) := by
  refine ⟨hw, Unit, fun _ => undef, fun _ => Cls.blk v0 p c, fun w hC => ?_, fun _ => ?_⟩
  · obtain ⟨w', h1, h2, h3⟩ := hrun w hC.2.2
    exact ⟨(), w', Or.inr ⟨h1, rfl⟩, hC.1.trans (h3 _ hC.2.1), hC.2.1, h2⟩
  · rw [show a.put o.dst undef = a from by rw [hd]; rfl]
    exact h
theorem store_blk {ty : TypeId} {w : World} {p : Nat} {z c : Array Value} (hk : Blk w p z) (hsz : z.size = c.size) (hi : (P.info? ty).map (·.size) = some c.size) (h1 : c.all (·.oneCell') = true) :
    ∃ w', (Instr.storeAt ty (.pointer (some ⟨p, 0, none⟩)) (.agg c)).run P w = .ok () w' ∧ Blk w' p c ∧ ∀ B, B ≤ p → Below B w w' := by
  have ht : w.there p 0 c.size := fun j hj => ⟨by rw [Nat.zero_add, hk.cell j, Array.getElem?_eq_getElem (by omega)]; rfl, by rw [Nat.zero_add]; exact hk.free j⟩
  have hbelow : ∀ (l : List Value) (o B : Nat) (a v : World), B ≤ p → Below B a v → Below B a (v.setCells p o l) := by
    intro l
    induction l with
    | nil => intro o B a v _ h; exact h
    | cons x l ih => intro o B a v hB h; exact ih (o + 1) B a _ hB (h.setCell hB x)
  have hfro : ∀ (l : List Value) (o : Nat) (v : World) (b : Addr), (v.setCells p o l).frozen? b = v.frozen? b := by
    intro l
    induction l with
    | nil => intro o v b; rfl
    | cons x l ih => intro o v b; exact (ih (o + 1) _ b).trans free_set
  have hb := hbelow c.toList 0 0 w w (Nat.zero_le _) (Below.refl _ _)
  refine ⟨_, run_storeAt_mid w p 0 ty c ht hi h1, ⟨Nat.lt_of_lt_of_le hk.lt hb.size, fun i => ?_, fun i => (hfro _ _ _ _).trans (hk.free i)⟩, fun B hB => hbelow _ _ _ _ _ hB (Below.refl _ _)⟩
  by_cases hic : i < c.size
  · have := World.rangeAt_setCells_same w p 0 c.toList (by simpa using ht) i c[i] (by simp [hic])
    rw [Nat.zero_add] at this
    rw [this, Array.getElem?_eq_getElem hic]
  · rw [World.cell?_setCells_out p c.toList 0 w ⟨p, i, none⟩ (fun _ _ => Or.inr (by simp; omega)), hk.cell i, Array.getElem?_eq_none (by omega), Array.getElem?_eq_none (by omega)]
theorem tail_store_at {o : Oper} {t : List Oper} {a : Act} {p : Nat} {z c : Array Value} (ty : TypeId) (x y : Operand) (ho : o.op = .store ty x y) (hd : o.dst = none) (hw : Region.wanted o (yielded ops a.tmps) = true)
    (hx : a.eval x = .pointer (some ⟨p, 0, none⟩)) (hy : a.eval y = .agg c) (hsz : z.size = c.size) (hi : (P.info? ty).map (·.size) = some c.size) (h1 : c.all (·.oneCell') = true) (h : tailE P ops Q t a (Cls.blk v0 p c)) : tailE P ops Q (o :: t) a (Cls.blk v0 p z) := by
  refine tail_store hw hd (fun w hk => ?_) h
  obtain ⟨w', h2, h3, h4⟩ := store_blk hk hsz hi h1
  refine ⟨w', ?_, h3, h4⟩
  unfold execOp
  simp only [ho, hx, hy, Sem.run_bind, h2, Result.andThen_ok]
  rfl
/-- A new variable, and what it begins with. -/
theorem tail_var {o o' : Oper} {t : List Oper} {a : Act} {T : TypeId} {d r : Tmp} {c : Array Value} (z : Array Value) (hod : o.dst = some d) (ho' : o'.op = .store T (.tmp d) (.tmp r)) (hod' : o'.dst = none)
    (hw : Region.wanted o (yielded ops a.tmps) = true) (hw' : ∀ v, Region.wanted o' (yielded ops (a.put (some d) v).tmps) = true) (hrun : ∀ w, (execOp a.eval o).run P w = .ok (.value (.pointer (some ⟨w.heap.size, 0, none⟩))) (w.alloc (.cells z T)))
    (hr : ∀ v, (a.put (some d) v).eval (.tmp r) = .agg c) (hdl : d < a.tmps.size) (hsz : z.size = c.size) (hi : (P.info? T).map (·.size) = some c.size) (h1 : c.all (·.oneCell') = true)
    (h : ∀ p, tailE P ops Q t (a.put (some d) (.pointer (some ⟨p, 0, none⟩))) (Cls.blk v0 p c)) : tailE P ops Q (o :: o' :: t) a (Cls.all v0) := by
  refine tail_alloc hw hrun (fun p => ?_)
  rw [hod]
  exact tail_store_at T (.tmp d) (.tmp r) ho' hod' (hw' _) (by simp [Act.eval, Act.put, hdl]) (hr _) hsz hi h1 (h p)
/-- What a call hands back that has a row in a variable of its own, and a value beside it. -/
theorem ret_pair {fn : Func} {s u : Tmp} {ty : TypeId} (h : fn.results = #[.cell s ty, .tmp u]) {tmps : Array Value} {W : World} {p : Nat} {c : Array Value} {d : TypeDesc} {v : Value} (hs : tmps.getD s undef = .pointer (some ⟨p, 0, none⟩)) (hv : tmps.getD u undef = v)
    (hk : Blk W p c) (hu : P.underlying ty = some d) (hd : d.isRow = true) (hi : (P.info? ty).map (·.size) = some c.size) : (results fn tmps).run P W = .ok (.tuple #[.agg c, v]) W := by
  have hr : W.rangeAt p 0 c.toList := fun j x hx => by
    rw [Nat.zero_add, hk.cell j]
    simpa using hx
  rw [results_cell_tmp h, hs, hv]
  have h1 : (asAddr (.pointer (some ⟨p, 0, none⟩))).run P W = .ok ⟨p, 0, none⟩ W := rfl
  rw [h1, Result.andThen_ok, run_loadVar_mid W p 0 ty c.toList d hr hu hd (by simpa using hi)]
  rfl
/-- A value that is known. -/
theorem tail_value {o : Oper} {t : List Oper} {a : Act} {C : Cls v0} (v : Value) (hw : Region.wanted o (yielded ops a.tmps) = true) (hrun : ∀ w, (execOp a.eval o).run P w = .ok (.value v) w) (h : tailE P ops Q t (a.put o.dst v) C) : tailE P ops Q (o :: t) a C :=
  ⟨hw, Unit, fun _ => v, fun _ => C, fun w hC => ⟨(), w, Or.inl (hrun w), hC⟩, fun _ => h⟩
end
end Go.Proofs.Ytlfljlhppigejab
