/-
  Regions that draw their order and make a variable beside a call: what reads and calls is walked once, in the order of the text; then come the operations that write, one behind the other, though some of them may have come earlier.
-/
import Derived.Test.YtlfljlhppigejabRegion
import Derived.Deep.MidRow
import Derived.Laws.ResultCell
namespace Go.Proofs.Ytlfljlhppigejab
open Go.RowKit

/-- A class of worlds: what was there when the region began stays; new blocks may come at any time. -/
structure Cls (v : World) where
  C : World → Prop
  sub : ∀ w, C w → Below v.heap.size v w
  cl : ∀ w w', C w → Below w.heap.size w w' → C w'
def Cls.all (v : World) : Cls v := ⟨fun w => Below v.heap.size v w, fun _ h => h, fun _ _ h k => h.trans (k.mono h.size)⟩
/-- .. and a new block p holds these cells. -/
def Cls.blk (v : World) (p : Nat) (c : Array Value) : Cls v :=
  ⟨fun w => Below v.heap.size v w ∧ v.heap.size ≤ p ∧ Blk w p c, fun _ h => h.1, fun _ _ h k => ⟨h.1.trans (k.mono h.1.size), h.2.1, h.2.2.call k⟩⟩

section
variable {P : Program} {ops : Array Oper} {v0 : World} {Q : Exit → Act → World → Prop}
def qUp (P : Program) (w : World) (v : Value) : Result Next → Prop
  | .ok (.value u) w' => w' = w ∧ u = v
  | .ok .skip w' => w' = w ∧ v = undef
  | .ok (.enter f args) w' => w' = w ∧ Calls P f args w fun e w'' => e = .returned v ∧ Below w.heap.size w w''
  | _ => False
def qAt (P : Program) (v0 : World) (o : Oper) (a : Act) (v : Value) : Prop := ∀ x : Cw v0, qUp P x.w v ((execOp a.eval o).run P x.w)
def qOne (P : Program) (v0 : World) (o : Oper) (a : Act) (K : Act → Prop) : Prop := ∃ v, qAt P v0 o a v ∧ K (a.put o.dst v)
def qOpB (P : Program) (ops : Array Oper) (v0 : World) (i : Nat) (K : Act → Prop) (a : Act) : Prop :=
  match ops[i]? with
  | none => K a
  | some o => if Region.wanted o (yielded ops a.tmps) then qOne P v0 o a K else K (a.put o.dst undef)
theorem qOpB_mono {i : Nat} {a : Act} {K K' : Act → Prop} (h : ∀ a, K a → K' a) (hh : qOpB P ops v0 i K a) : qOpB P ops v0 i K' a := by
  unfold qOpB at *
  split
  · rename_i h0; rw [h0] at hh; exact h _ hh
  · rename_i o h0
    rw [h0] at hh
    dsimp only at hh
    split
    · rename_i hw
      rw [if_pos hw] at hh
      obtain ⟨v, h1, h2⟩ := hh
      exact ⟨v, h1, h _ h2⟩
    · rename_i hw
      rw [if_neg hw] at hh
      exact h _ hh
def YB (P : Program) (ops : Array Oper) (v0 : World) (o : Oper) (v : Value) (a : Act) : Prop :=
  (Region.wanted o (yielded ops a.tmps) = true ∧ qAt P v0 o a v) ∨ (Region.wanted o (yielded ops a.tmps) = false ∧ v = undef)
theorem YB.op {i : Nat} {o : Oper} {v : Value} {a : Act} (hi : ops[i]? = some o) (hy : YB P ops v0 o v a) {K : Act → Prop} (h : K (a.put o.dst v)) : qOpB P ops v0 i K a := by
  unfold qOpB
  rw [hi]
  dsimp only
  rcases hy with ⟨h1, h2⟩ | ⟨h1, rfl⟩
  · rw [if_pos h1]; exact ⟨v, h2, h⟩
  · rw [if_neg (by rw [h1]; exact Bool.false_ne_true)]; exact h
theorem YB.same {o : Oper} {v : Value} {a a' : Act} (hy : YB P ops v0 o v a) (he : execOp a'.eval o = execOp a.eval o) (hw : Region.wanted o (yielded ops a'.tmps) = Region.wanted o (yielded ops a.tmps)) : YB P ops v0 o v a' := by
  unfold YB qAt at *
  rw [he, hw]
  exact hy

/-- An operation that writes: into which class, with which value. -/
def effAt (P : Program) (ops : Array Oper) {v0 : World} (o : Oper) (a : Act) (C : Cls v0) (K : Act → Cls v0 → Prop) : Prop :=
  Region.wanted o (yielded ops a.tmps) = true ∧ ∃ (ι : Type) (val : ι → Value) (D : ι → Cls v0),
    (∀ w, C.C w → ∃ i w', ((execOp a.eval o).run P w = .ok (.value (val i)) w' ∨ (execOp a.eval o).run P w = .ok .skip w' ∧ val i = undef) ∧ (D i).C w') ∧ ∀ i, K (a.put o.dst (val i)) (D i)
theorem effAt_mono {o : Oper} {a : Act} {C : Cls v0} {K K' : Act → Cls v0 → Prop} (h : ∀ a C, K a C → K' a C) (hh : effAt P ops o a C K) : effAt P ops o a C K' := by
  obtain ⟨h1, ι, val, D, h2, h3⟩ := hh
  exact ⟨h1, ι, val, D, h2, fun i => h _ _ (h3 i)⟩

def wpE (P : Program) (ops : Array Oper) (Q : Exit → Act → World → Prop) {v0 : World} : Nat → Array Bool → Act → Cls v0 → Prop
  | 0, d, a, C => Region.ready .any ops d = [] ∧ ∀ w, C.C w → Q .normal a w
  | f + 1, d, a, C => (Region.ready .any ops d = [] → ∀ w, C.C w → Q .normal a w) ∧
    ∀ i ∈ Region.ready .any ops d, qOpB P ops v0 i (fun a' => wpE P ops Q f (d.setIfInBounds i true) a' C) a ∨
      ∃ o, ops[i]? = some o ∧ effAt P ops o a C (fun a' C' => wpE P ops Q f (d.setIfInBounds i true) a' C')

theorem any_of_E (f : Nat) : ∀ (d : Array Bool) (a : Act) (C : Cls v0) (w : World), C.C w → wpE P ops Q f d a C → wpAny P .any ops Q f d a w := by
  induction f with
  | zero => intro d a C w hw h; exact ⟨h.1, h.2 w hw⟩
  | succ f ih =>
    intro d a C w hw h
    refine ⟨fun e => h.1 e w hw, fun i hi => ?_⟩
    rcases h.2 i hi with h1 | ⟨o, h1, h2, ι, val, D, h3, h4⟩
    · unfold qOpB at h1
      unfold wpOp
      split
      · rename_i h0; rw [h0] at h1; exact ih _ _ _ _ hw h1
      · rename_i o h0
        rw [h0] at h1
        dsimp only at h1
        split
        · rename_i hq
          rw [if_pos hq] at h1
          obtain ⟨v, h2, h3⟩ := h1
          left
          have h4 := h2 ⟨w, C.sub w hw⟩
          dsimp only at h4
          unfold Oper.wp
          generalize (execOp a.eval o).run P w = r at *
          cases r with
          | ok x w' =>
            cases x <;> simp only [qUp] at h4 <;> simp only [Oper.upon]
            case value u => obtain ⟨e1, e2⟩ := h4; rw [e1, e2]; exact ih _ _ _ _ hw h3
            case skip => obtain ⟨e1, e2⟩ := h4; rw [e1, ← e2]; exact ih _ _ _ _ hw h3
            case enter g args =>
              obtain ⟨e1, hc⟩ := h4
              rw [e1]
              exact hc.mono fun e w'' ⟨he, hb⟩ => by subst he; exact ih _ _ _ _ (C.cl w w'' hw hb) h3
          | halt x w' => simp only [qUp] at h4
        · rename_i hq
          rw [if_neg hq] at h1
          exact ih _ _ _ _ hw h1
    · unfold wpOp
      rw [h1]
      dsimp only
      rw [if_pos h2]
      left
      obtain ⟨j, w', h5, h6⟩ := h3 w hw
      unfold Oper.wp
      rcases h5 with h5 | ⟨h5, h7⟩
      · rw [h5]; exact ih _ _ _ _ h6 (h4 j)
      · rw [h5]
        simp only [Oper.upon]
        rw [← h7]
        exact ih _ _ _ _ h6 (h4 j)

theorem E_first {i : Nat} {oi : Oper} {v : Value} (hi : ops[i]? = some oi) (hsel : Region.noSelect ops = true) (f : Nat) :
    ∀ (d : Array Bool) (a : Act) (C : Cls v0), (∀ j oj, ops[j]? = some oj → j ≠ i → d.getD j true = false → (∀ e ∈ oj.after, Region.binds .any e = true → e.on ≠ i) → oi.apart ops oj = true) →
      i ∈ Region.ready .any ops d → YB P ops v0 oi v a → wpE P ops Q f (d.setIfInBounds i true) (a.put oi.dst v) C → wpE P ops Q (f + 1) d a C := by
  have hsl := Region.noSelect_spec hsel
  induction f with
  | zero =>
    intro d a C _ hr hy H
    refine ⟨fun h => absurd h (List.ne_nil_of_mem hr), fun j hj => ?_⟩
    by_cases hji : j = i
    · cases hji; exact Or.inl (hy.op hi H)
    · have := ready_mono hj hji
      rw [H.1] at this
      cases this
  | succ f ih =>
    intro d a C hfree hr hy H
    refine ⟨fun h => absurd h (List.ne_nil_of_mem hr), fun j hj => ?_⟩
    by_cases hji : j = i
    · cases hji; exact Or.inl (hy.op hi H)
    · obtain ⟨hjun, oj, hoj, hall⟩ := mem_ready.1 hj
      have hnot : ∀ e ∈ oj.after, Region.binds .any e = true → e.on ≠ i := by
        intro e he hb heq
        have h1 := hall e he hb
        rw [heq, getD_both (mem_ready.1 hr).1] at h1
        cases h1
      obtain ⟨p1, p2, p3⟩ := Oper.apart_spec (hfree j oj hoj hji hjun hnot)
      have hfree' : ∀ k ok, ops[k]? = some ok → k ≠ i → (d.setIfInBounds j true).getD k true = false → (∀ e ∈ ok.after, Region.binds .any e = true → e.on ≠ i) → oi.apart ops ok = true := by
        intro k ok hk hki hun hno
        refine hfree k ok hk hki ?_ hno
        by_cases hjk : j = k
        · cases hjk; exact hjun
        · rwa [getD_set_ne true hjk] at hun
      have keep : ∀ u, YB P ops v0 oi v (a.put oj.dst u) := fun u => hy.same (execOp_put oi (fun cs b => hsl i oi cs b hi) a oj.dst u p3) (wanted_put oi a oj.dst u p3)
      have go : ∀ u (C' : Cls v0), wpE P ops Q f ((d.setIfInBounds i true).setIfInBounds j true) ((a.put oi.dst v).put oj.dst u) C' → wpE P ops Q (f + 1) (d.setIfInBounds j true) (a.put oj.dst u) C' := by
        intro u C' hu
        refine ih _ _ _ hfree' (ready_mono hr (Ne.symm hji)) (keep u) ?_
        rw [Array.setIfInBounds_comm _ _ hji, ← Act.put_comm a v u p2]
        exact hu
      rcases H.2 j (ready_mono hj hji) with h1 | ⟨o, ho, h2, ι, val, D, h3, h4⟩
      · left
        unfold qOpB at h1 ⊢
        rw [hoj] at h1 ⊢
        dsimp only at h1 ⊢
        rw [wanted_put oj a oi.dst v p1] at h1
        split
        · rename_i hq
          rw [if_pos hq] at h1
          obtain ⟨u, hu, hn⟩ := h1
          refine ⟨u, ?_, go u C hn⟩
          unfold qAt at hu ⊢
          rwa [execOp_put oj (fun cs b => hsl j oj cs b hoj) a oi.dst v p1] at hu
        · rename_i hq
          rw [if_neg hq] at h1
          exact go undef C h1
      · right
        obtain rfl : o = oj := Option.some.inj (ho.symm.trans hoj)
        refine ⟨o, hoj, by rw [← wanted_put o a oi.dst v p1]; exact h2, ι, val, D, ?_, fun k => go _ _ (h4 k)⟩
        rwa [execOp_put o (fun cs b => hsl j o cs b hoj) a oi.dst v p1] at h3

/-- The operations that write, one behind the other. -/
def tailE (P : Program) (ops : Array Oper) (Q : Exit → Act → World → Prop) {v0 : World} : List Oper → Act → Cls v0 → Prop
  | [], a, C => ∀ w, C.C w → Q .normal a w
  | o :: t, a, C => effAt P ops o a C (fun a' C' => tailE P ops Q t a' C')
theorem E_tail (l : List Oper) : ∀ (k : Nat) (d : Array Bool) (a : Act) (C : Cls v0), (∀ j, l[j]? = ops[k + j]?) → Region.seqB .any ops l.length k d = true → tailE P ops Q l a C → wpE P ops Q l.length d a C := by
  induction l with
  | nil => intro k d a C _ hB h; exact ⟨by simpa [Region.seqB] using hB, h⟩
  | cons o l ih =>
    intro k d a C hl hB h
    have h0 : ops[k]? = some o := by simpa using (hl 0).symm
    simp only [List.length_cons, Region.seqB, Bool.and_eq_true, decide_eq_true_eq] at hB
    refine ⟨fun h1 => (by rw [hB.1] at h1; cases h1), fun i hi => ?_⟩
    rw [hB.1] at hi
    obtain rfl : i = k := by simpa using hi
    exact Or.inr ⟨o, h0, effAt_mono (fun a' C' h' => ih (i + 1) _ a' C' (fun j => by have := hl (j + 1); simpa [Nat.add_assoc, Nat.add_comm 1 j] using this) hB.2 h') h⟩

/-- The operations that read and call, in the order of the text. -/
def wpQB (P : Program) (ops : Array Oper) (v0 : World) (K : Act → Prop) : List Oper → Act → Prop
  | [], a => K a
  | o :: rest, a => if Region.wanted o (yielded ops a.tmps) then qOne P v0 o a (wpQB P ops v0 K rest) else wpQB P ops v0 K rest (a.put o.dst undef)
theorem wpQB_nil {K : Act → Prop} {a : Act} (h : K a) : wpQB P ops v0 K [] a := h
theorem wpQB_step {L : Act → Prop} {a : Act} {o : Oper} {rest : List Oper} (h : ∀ K : Act → Prop, (∀ a, wpQB P ops v0 L rest a → K a) → if Region.wanted o (yielded ops a.tmps) then qOne P v0 o a K else K (a.put o.dst undef)) : wpQB P ops v0 L (o :: rest) a :=
  h _ (fun _ h => h)
theorem E_lex {g n : Nat} {C : Cls v0} (hsel : Region.noSelect ops = true) (l t : List Oper) (ht : t.length = g) (htl : ∀ j, t[j]? = ops[n + j]?) :
    ∀ (k : Nat) (d : Array Bool) (a : Act), (∀ j, j < l.length → l[j]? = ops[k + j]?) → k + l.length = n → Region.lexHead .any ops g l.length k d = true → wpQB P ops v0 (fun a' => tailE P ops Q t a' C) l a →
      wpE P ops Q (l.length + g) d a C := by
  induction l with
  | nil =>
    intro k d a _ hk hB h
    have hkn : k = n := by simpa using hk
    cases hkn
    rw [List.length_nil, Nat.zero_add, ← ht]
    exact E_tail t _ d a C htl (by rw [ht]; simpa [Region.lexHead] using hB) h
  | cons o l ih =>
    intro k d a hl hk hB h
    have h0 : ops[k]? = some o := by simpa using (hl 0 (by simp)).symm
    simp only [List.length_cons, Region.lexHead, Bool.and_eq_true] at hB
    have hr' : k ∈ Region.ready .any ops d := by simpa using hB.1.1
    rw [List.length_cons, Nat.add_right_comm]
    have hrec : ∀ v, wpQB P ops v0 (fun a' => tailE P ops Q t a' C) l (a.put o.dst v) → wpE P ops Q (l.length + g) (d.setIfInBounds k true) (a.put o.dst v) C := fun v hv =>
      ih (k + 1) _ _ (fun j hj => by have := hl (j + 1) (by simp; omega); simpa [Nat.add_assoc, Nat.add_comm 1 j] using this) (by simp only [List.length_cons] at hk; omega) hB.2 hv
    unfold wpQB at h
    by_cases hw : Region.wanted o (yielded ops a.tmps) = true
    · rw [if_pos hw] at h
      obtain ⟨v, h1, h2⟩ := h
      exact E_first h0 hsel (l.length + g) d a C (Region.free_spec h0 hB.1.2) hr' (Or.inl ⟨hw, h1⟩) (hrec v h2)
    · rw [if_neg hw] at h
      exact E_first h0 hsel (l.length + g) d a C (Region.free_spec h0 hB.1.2) hr' (Or.inr ⟨by simpa using hw, rfl⟩) (hrec undef h)
/-- **The region**: n operations that read and call, then those that write. -/
theorem region_loose {id : Nat} {a : Act} {w : World} {l : List Oper} (n : Nat) (hm : P.follows .mixedOrders = true) (hB : (Region.noSelect l.toArray && (decide (n ≤ l.length) && Region.lexHead .any l.toArray (l.length - n) n 0 (Array.replicate l.length false))) = true)
    (h : wpQB P l.toArray w (fun a' => tailE P l.toArray Q (l.drop n) a' (Cls.all w)) (l.take n) a) : (Code.region id l.toArray true).wp P Q a w := by
  simp only [Bool.and_eq_true, decide_eq_true_eq] at hB
  obtain ⟨hsel, hn, hlex⟩ := hB
  have htl : (l.take n).length = n := by simp; omega
  have := E_lex (g := l.length - n) (n := n) hsel (l.take n) (l.drop n) (by simp) (fun j => by simp [List.getElem?_drop]) 0 (Array.replicate l.length false) a (fun j hj => by
    have hj' : j < n := by rw [htl] at hj; exact hj
    simp [hj']) (by simpa using htl) (by rw [htl]; exact hlex) h
  rw [htl, show n + (l.length - n) = l.length by omega] at this
  refine wp_region_any hm ?_
  simpa using any_of_E l.length _ a _ { w with drawn := w.drawn + 1 } (show Below w.heap.size w _ from (Below.refl _ _).drew) this

/-- On from any world of which so much is known. -/
theorem gen_world {C : Code} {a : Act} {w : World} (R : World → Prop) (hR : R w) (h : ∀ W, R W → C.wp P Q a W) : C.wp P Q a w := h w hR
/-! ### What writes -/
theorem tail_nil {a : Act} {C : Cls v0} (h : ∀ w, C.C w → Q .normal a w) : tailE P ops Q [] a C := h
/-- A new variable. -/
theorem tail_alloc {o : Oper} {t : List Oper} {a : Act} {T : TypeId} {z : Array Value} (hw : Region.wanted o (yielded ops a.tmps) = true) (hrun : ∀ w, (execOp a.eval o).run P w = .ok (.value (.pointer (some ⟨w.heap.size, 0, none⟩))) (w.alloc (.cells z T)))
    (h : ∀ p, tailE P ops Q t (a.put o.dst (.pointer (some ⟨p, 0, none⟩))) (Cls.blk v0 p z)) : tailE P ops Q (o :: t) a (Cls.all v0) := by
  refine ⟨hw, Nat, fun p => .pointer (some ⟨p, 0, none⟩), fun p => Cls.blk v0 p z, fun w hC => ?_, h⟩
  exact ⟨w.heap.size, _, Or.inl (hrun w), Below.alloc hC hC.size _, hC.size, Blk.new w z T⟩
/-- It is written whole. -/
theorem tail_store {o : Oper} {t : List Oper} {a : Act} {p : Nat} {z c : Array Value} (hw : Region.wanted o (yielded ops a.tmps) = true) (hd : o.dst = none)
    (hrun : ∀ w, Blk w p z → ∃ w', (execOp a.eval o).run P w = .ok .skip w' ∧ Blk w' p c ∧ ∀ B, B ≤ p → Below B w w') (h : tailE P ops Q t a (Cls.blk v0 p c)) : tailE P ops Q (o :: t) a (Cls.blk v0 p z) := by
  refine ⟨hw, Unit, fun _ => undef, fun _ => Cls.blk v0 p c, fun w hC => ?_, fun _ => ?_⟩
  · obtain ⟨w', h1, h2, h3⟩ := hrun w hC.2.2
    exact ⟨(), w', Or.inr ⟨h1, rfl⟩, hC.1.trans (h3 _ hC.2.1), hC.2.1, h2⟩
  · rw [show a.put o.dst undef = a from by rw [hd]; rfl]
    exact h
theorem store_blk {ty : TypeId} {w : World} {p : Nat} {z c : Array Value} (hk : Blk w p z) (hsz : z.size = c.size) (hi : (P.info? ty).map (·.size) = some c.size) (h1 : c.all (·.oneCell') = true) :
    ∃ w', (Instr.storeAt ty (.pointer (some ⟨p, 0, none⟩)) (.agg c)).run P w = .ok () w' ∧ Blk w' p c ∧ ∀ B, B ≤ p → Below B w w' := by
  have ht : w.there p 0 c.size := fun j hj => ⟨by rw [Nat.zero_add, hk.cell j, Array.getElem?_eq_getElem (by omega)]; rfl, by rw [Nat.zero_add]; exact hk.free j⟩
  have hbelow : ∀ (l : List Value) (o B : Nat) (a v : World), B ≤ p → Below B a v → Below B a (v.setCells p o l) := by
    intro l
    induction l with
    | nil => intro o B a v _ h; exact h
    | cons x l ih => intro o B a v hB h; exact ih (o + 1) B a _ hB (h.setCell hB x)
  have hfro : ∀ (l : List Value) (o : Nat) (v : World) (b : Addr), (v.setCells p o l).frozen? b = v.frozen? b := by
    intro l
    induction l with
    | nil => intro o v b; rfl
    | cons x l ih => intro o v b; exact (ih (o + 1) _ b).trans free_set
  have hb := hbelow c.toList 0 0 w w (Nat.zero_le _) (Below.refl _ _)
  refine ⟨_, run_storeAt_mid w p 0 ty c ht hi h1, ⟨Nat.lt_of_lt_of_le hk.lt hb.size, fun i => ?_, fun i => (hfro _ _ _ _).trans (hk.free i)⟩, fun B hB => hbelow _ _ _ _ _ hB (Below.refl _ _)⟩
  by_cases hic : i < c.size
  · have := World.rangeAt_setCells_same w p 0 c.toList (by simpa using ht) i c[i] (by simp [hic])
    rw [Nat.zero_add] at this
    rw [this, Array.getElem?_eq_getElem hic]
  · rw [World.cell?_setCells_out p c.toList 0 w ⟨p, i, none⟩ (fun _ _ => Or.inr (by simp; omega)), hk.cell i, Array.getElem?_eq_none (by omega), Array.getElem?_eq_none (by omega)]
theorem tail_store_at {o : Oper} {t : List Oper} {a : Act} {p : Nat} {z c : Array Value} (ty : TypeId) (x y : Operand) (ho : o.op = .store ty x y) (hd : o.dst = none) (hw : Region.wanted o (yielded ops a.tmps) = true)
    (hx : a.eval x = .pointer (some ⟨p, 0, none⟩)) (hy : a.eval y = .agg c) (hsz : z.size = c.size) (hi : (P.info? ty).map (·.size) = some c.size) (h1 : c.all (·.oneCell') = true) (h : tailE P ops Q t a (Cls.blk v0 p c)) : tailE P ops Q (o :: t) a (Cls.blk v0 p z) := by
  refine tail_store hw hd (fun w hk => ?_) h
  obtain ⟨w', h2, h3, h4⟩ := store_blk hk hsz hi h1
  refine ⟨w', ?_, h3, h4⟩
  unfold execOp
  simp only [ho, hx, hy, Sem.run_bind, h2, Result.andThen_ok]
  rfl
/-- A new variable, and what it begins with. -/
theorem tail_var {o o' : Oper} {t : List Oper} {a : Act} {T : TypeId} {d r : Tmp} {c : Array Value} (z : Array Value) (hod : o.dst = some d) (ho' : o'.op = .store T (.tmp d) (.tmp r)) (hod' : o'.dst = none)
    (hw : Region.wanted o (yielded ops a.tmps) = true) (hw' : ∀ v, Region.wanted o' (yielded ops (a.put (some d) v).tmps) = true) (hrun : ∀ w, (execOp a.eval o).run P w = .ok (.value (.pointer (some ⟨w.heap.size, 0, none⟩))) (w.alloc (.cells z T)))
    (hr : ∀ v, (a.put (some d) v).eval (.tmp r) = .agg c) (hdl : d < a.tmps.size) (hsz : z.size = c.size) (hi : (P.info? T).map (·.size) = some c.size) (h1 : c.all (·.oneCell') = true)
    (h : ∀ p, tailE P ops Q t (a.put (some d) (.pointer (some ⟨p, 0, none⟩))) (Cls.blk v0 p c)) : tailE P ops Q (o :: o' :: t) a (Cls.all v0) := by
  refine tail_alloc hw hrun (fun p => ?_)
  rw [hod]
  exact tail_store_at T (.tmp d) (.tmp r) ho' hod' (hw' _) (by simp [Act.eval, Act.put, hdl]) (hr _) hsz hi h1 (h p)
/-- What a call hands back that has a row in a variable of its own, and a value beside it. -/
theorem ret_pair {fn : Func} {s u : Tmp} {ty : TypeId} (h : fn.results = #[.cell s ty, .tmp u]) {tmps : Array Value} {W : World} {p : Nat} {c : Array Value} {d : TypeDesc} {v : Value} (hs : tmps.getD s undef = .pointer (some ⟨p, 0, none⟩)) (hv : tmps.getD u undef = v)
    (hk : Blk W p c) (hu : P.underlying ty = some d) (hd : d.isRow = true) (hi : (P.info? ty).map (·.size) = some c.size) : (results fn tmps).run P W = .ok (.tuple #[.agg c, v]) W := by
  have hr : W.rangeAt p 0 c.toList := fun j x hx => by
    rw [Nat.zero_add, hk.cell j]
    simpa using hx
  rw [results_cell_tmp h, hs, hv]
  have h1 : (asAddr (.pointer (some ⟨p, 0, none⟩))).run P W = .ok ⟨p, 0, none⟩ W := rfl
  rw [h1, Result.andThen_ok, run_loadVar_mid W p 0 ty c.toList d hr hu hd (by simpa using hi)]
  rfl
/-- A value that is known. -/
theorem tail_value {o : Oper} {t : List Oper} {a : Act} {C : Cls v0} (v : Value) (hw : Region.wanted o (yielded ops a.tmps) = true) (hrun : ∀ w, (execOp a.eval o).run P w = .ok (.value v) w) (h : tailE P ops Q t (a.put o.dst v) C) : tailE P ops Q (o :: t) a C :=
  ⟨hw, Unit, fun _ => v, fun _ => C, fun w hC => ⟨(), w, Or.inl (hrun w), hC⟩, fun _ => h⟩
end
end Go.Proofs.Ytlfljlhppigejab
