/-
  Regions in which but some known blocks turn: classes of worlds, and the operations that write.
-/
import Derived.Test.YtlfljlhppigejabMix
import Derived.Test.YtlfljlhppigejabRowOps
import Derived.Deep.AppendLies
namespace Go.Proofs.Ytlfljlhppigejab
open Go.RowKit

/-- A world in which of what was in v but blocks in X have turned. -/
structure Kw (X : Nat → Prop) (v : World) where
  w : World
  kp : Kp X v w
theorem Kw.ne (X : Nat → Prop) (v : World) : Nonempty (Kw X v) := ⟨⟨v, Kp.refl _ _⟩⟩
theorem Kw.cell {X : Nat → Prop} {v : World} (x : Kw X v) (b o : Nat) (h : b < v.heap.size) (hx : ¬ X b) : x.w.cell? ⟨b, o, none⟩ = v.cell? ⟨b, o, none⟩ := World.cell?_of_block (w := v) (x.kp.block b h hx)
theorem Kp.cell {X : Nat → Prop} {v w : World} (k : Kp X v w) (b o : Nat) (h : b < v.heap.size) (hx : ¬ X b) : w.cell? ⟨b, o, none⟩ = v.cell? ⟨b, o, none⟩ := World.cell?_of_block (w := v) (k.block b h hx)
theorem Kp.frozen {X : Nat → Prop} {v w : World} (k : Kp X v w) (b o : Nat) (h : b < v.heap.size) (hx : ¬ X b) : w.frozen? ⟨b, o, none⟩ = v.frozen? ⟨b, o, none⟩ := World.frozen?_of_block (w := v) (k.block b h hx)
theorem Kp.then_ {X : Nat → Prop} {v w w' : World} (k : Kp X v w) (h : Below w.heap.size w w') : Kp X v w' := k.trans (kp_of h X) (fun _ _ x => x)
theorem Kp.andset {X : Nat → Prop} {w w' : World} (k : Kp X w w') (a : Addr) (v : Value) (h : X a.block) : Kp X w (w'.setCell a v) := k.trans (Kp.setCell w' a v) (fun b _ hb => by rw [hb]; exact h)
def InK (X : Nat → Prop) (v : World) : World → Prop := fun w => ∃ x : Kw X v, w = x.w
def kcl (X : Nat → Prop) (v : World) (R : World → Prop) (hcl : ∀ w w', R w → Below w.heap.size w w' → R w') : Cli (InK X v) :=
  ⟨fun w => Kp X v w ∧ R w, fun w h => ⟨⟨w, h.1⟩, rfl⟩, fun w w' h hb => ⟨h.1.then_ hb, hcl w w' h.2 hb⟩⟩
def kall (X : Nat → Prop) (v : World) : Cli (InK X v) := kcl X v (fun _ => True) (fun _ _ _ _ => trivial)
theorem kall_start (X : Nat → Prop) (v : World) : (kall X v).C v.drew := ⟨Kp.drew X v, trivial⟩

section
variable {P : Program} {ops : Array Oper} {X : Nat → Prop} {v : World}
def qOneK (P : Program) (X : Nat → Prop) (v : World) (o : Oper) (a : Act) (K : Act → Prop) : Prop := ∃ u, (∀ x : Kw X v, qUp P x.w u ((execOp a.eval o).run P x.w)) ∧ K (a.put o.dst u)
theorem mix_readK {L : Act → Cli (InK X v) → Prop} {a : Act} {C : Cli (InK X v)} {o : Oper} {r : List (Bool × Oper)} (h : ∀ K : Act → Prop, (∀ a, wpMix P ops L r a C → K a) → if Region.wanted o (yielded ops a.tmps) then qOneK P X v o a K else K (a.put o.dst undef)) :
    wpMix P ops L ((false, o) :: r) a C := by
  refine mix_read (fun K hK => ?_)
  have := h K hK
  split
  · rename_i hw
    rw [if_pos hw] at this
    obtain ⟨u, h1, h2⟩ := this
    exact ⟨u, fun w ⟨x, hx⟩ => by rw [hx]; exact h1 x, h2⟩
  · rename_i hw
    rw [if_neg hw] at this
    exact this
/-- A new block. -/
theorem mix_new {L : Act → Cli (InK X v) → Prop} {a : Act} {R : World → Prop} {hcl : ∀ w w', R w → Below w.heap.size w w' → R w'} {o : Oper} {r : List (Bool × Oper)} (val : Nat → Value) (z : Array Value) (T : TypeId) (hw : Region.wanted o (yielded ops a.tmps) = true)
    (hrun : ∀ w, (execOp a.eval o).run P w = .ok (.value (val w.heap.size)) (w.alloc (.cells z T))) (hk : ∀ p, wpMix P ops L r (a.put o.dst (val p)) (kcl X v (fun w => R w ∧ v.heap.size ≤ p ∧ (Blk w p z ∧ ∃ o, w.heap[p]? = some (.cells z T o))) (fun w w' h hb => ⟨hcl w w' h.1 hb, h.2.1, h.2.2.1.call hb, by rw [hb.block p h.2.2.1.lt]; exact h.2.2.2⟩))) :
    wpMix P ops L ((true, o) :: r) a (kcl X v R hcl) := by
  refine mix_write val _ hw (fun w h => ⟨w.heap.size, _, Or.inl (hrun w), ?_⟩) hk
  have hb : Below w.heap.size w (w.alloc (.cells z T)) := (Below.refl _ _).alloc (Nat.le_refl _) _
  exact ⟨h.1.then_ hb, hcl _ _ h.2 hb, h.1.size, Blk.new w z T, _, heap_alloc_new w _⟩
/-- append, onto a row that is owned; the block of the new cells is p. -/
theorem mix_append {L : Act → Cli (InK X v) → Prop} {a : Act} {R : World → Prop} {hcl : ∀ w w', R w → Below w.heap.size w w' → R w'} {o : Oper} {r : List (Bool × Oper)} (p : Nat) (z : Array Value) (T : TypeId) (s y : Operand) (t : TypeId)
    (ho : o.op = .call { callee := .builtin .append, args := #[s, y], argTypes := #[t, t] }) (hg : o.guard = none) (base : Nat) (e : TypeId) (i : TypeInfo) (zv : Value) (size bytes : Nat) (ht : P.underlying t = some (.slice e)) (hi : P.info? e = some i) (hz : i.zero = some zv)
    (hsize : i.size = size) (hby : i.bytes = bytes) (hzs : zv.cells.size = size) (hsz : 0 < size) (u : Value) (n : Nat) (xs : List Value) (hs : a.eval s = u) (hx : a.eval y = .slice (some ⟨p, 0, none⟩) 1 1) (hown : v.ownsRow base e size u n xs)
    (hzl : z.size = size) (h1 : ∀ q ∈ z.toList, q.oneCell' = true) (h63 : n + 1 ≤ maxLen) (hbytes : (n + 1) * bytes ≤ 140737488355328) (hbase : base ≤ v.heap.size) (hX : ∀ k, X k ↔ u.ownBlock = some k)
    (hR : ∀ w, R w → v.heap.size ≤ p ∧ ∃ o, w.heap[p]? = some (.cells z T o))
    (hfirst : ∀ w, Kp X v w → R w → w.ownsRow base e size u n xs)
    (hk : ∀ g cap, wpMix P ops L r (a.put o.dst (.slice (some ⟨g, 0, none⟩) (n + 1) cap)) (kcl X v (fun w => w.ownsRow base e size (.slice (some ⟨g, 0, none⟩) (n + 1) cap) (n + 1) (xs ++ z.toList) ∧ (u.ownBlock = some g ∨ v.heap.size ≤ g))
      (fun w w' h hb => ⟨own_kp h.1 (kp_of hb (fun _ => False)) (fun _ _ x => x), h.2⟩))) :
    wpMix P ops L ((true, o) :: r) a (kcl X v R hcl) := by
  refine mix_write (ι := Nat × Nat) (fun q => .slice (some ⟨q.1, 0, none⟩) (n + 1) q.2) _ (by simp [Region.wanted, hg]) (fun w h => ?_) (fun q => hk q.1 q.2)
  obtain ⟨hp, fr, hpb⟩ := hR w h.2
  have hownw := hfirst w h.1 h.2
  obtain ⟨g, cap, w', hr, h2, h3, h4, h5⟩ := run_append_lies (P := P) w t o.type base e i zv size bytes ht hi hz hsize hby hzs hsz u n xs hownw ⟨p, 0, none⟩ 1 1 z.toList (by simp [hzl]) (World.news_of_block hpb) h1 (by omega) h63 hbytes (Nat.le_trans hbase h.1.size) w.heap.size rfl
  refine ⟨(g, cap), w', Or.inl ?_, ?_, h2, ?_⟩
  · unfold execOp
    simp only [ho, resolve, invoke, builtin, Sem.run_bind, Sem.run_pure, Result.andThen_ok, List.map_toArray, List.map_cons, List.map_nil, hs, hx, hr]
  · exact h.1.trans (Kp.grown h3) (fun k _ hk => (hX k).2 hk.symm)
  · rcases h4 with h4 | h4
    · exact Or.inl h4
    · exact Or.inr (by rw [h4]; exact h.1.size)
/-- copy, at the list. -/
theorem list_copy {Q : Exit → Act → World → Prop} {rest : List Oper} {op : Oper} {a : Act} {w : World} (s y : Operand) (dT sT elem : TypeId) (ho : op.op = .call { callee := .builtin .copy, args := #[s, y], argTypes := #[dT, sT] }) (hgd : op.guard = none)
    (b o dLen dCap : Nat) (ad : Addr) (sLen sCap size n : Nat) (cs : List Value) (hs : a.eval s = .slice (some ⟨b, o, none⟩) dLen dCap) (hx : a.eval y = .slice (some ad) sLen sCap)
    (hu : P.underlying dT = some (.slice elem)) (hsz : (P.info? elem).map (·.size) = some size) (hn : n = Nat.min sLen dLen) (hl : cs.length = n * size)
    (hsrc : ∀ j v, cs[j]? = some v → w.cell? (ad.add j) = some v) (hc : ∀ j, j < cs.length → (w.cell? ⟨b, o + j, none⟩).isSome = true) (hf : ∀ j, j < cs.length → w.frozen? ⟨b, o + j, none⟩ = false) (h1 : ∀ v ∈ cs, v.oneCell' = true)
    (R : World → Prop) (hR : R (w.setCells b o cs)) (h : ∀ W, R W → wpList P ops Q rest (a.put op.dst (goInt n)) W) : wpList P ops Q (op :: rest) a w :=
  wpList_plain hgd fun _ hK => by
    unfold Oper.wp execOp
    simp only [ho, resolve, invoke, builtin, Sem.run_bind, Sem.run_pure, Result.andThen_ok, List.map_toArray, List.map_cons, List.map_nil, hs, hx, run_copy_row w dT sT op.type elem b o dLen dCap ad sLen sCap size n cs hu hsz hn hl hsrc hc hf h1]
    exact hK _ _ (h _ hR)
/-- copy, into what may begin at the very end of its block. -/
theorem list_copy2 {Q : Exit → Act → World → Prop} {rest : List Oper} {op : Oper} {a : Act} {w : World} (s y : Operand) (dT sT elem : TypeId) (ho : op.op = .call { callee := .builtin .copy, args := #[s, y], argTypes := #[dT, sT] }) (hgd : op.guard = none)
    (b o dLen dCap : Nat) (ad : Addr) (sLen sCap size n : Nat) (cs : List Value) (c : Prop) [Decidable c] (hs : a.eval s = .slice (if c then some ⟨b, 0, none⟩ else some ⟨b, o, none⟩) dLen dCap) (hx : a.eval y = .slice (some ad) sLen sCap) (hc0 : c → n = 0)
    (hu : P.underlying dT = some (.slice elem)) (hsz : (P.info? elem).map (·.size) = some size) (hn : n = Nat.min sLen dLen) (hl : cs.length = n * size)
    (hsrc : ∀ j v, cs[j]? = some v → w.cell? (ad.add j) = some v) (hc : ∀ j, j < cs.length → (w.cell? ⟨b, o + j, none⟩).isSome = true) (hf : ∀ j, j < cs.length → w.frozen? ⟨b, o + j, none⟩ = false) (h1 : ∀ v ∈ cs, v.oneCell' = true)
    (R : World → Prop) (hR : R (w.setCells b o cs)) (h : ∀ W, R W → wpList P ops Q rest (a.put op.dst (goInt n)) W) : wpList P ops Q (op :: rest) a w := by
  by_cases hcc : c
  · rw [if_pos hcc] at hs
    have h0 := hc0 hcc
    have hnil : cs = [] := List.eq_nil_of_length_eq_zero (by rw [hl, h0, Nat.zero_mul])
    subst hnil
    exact list_copy s y dT sT elem ho hgd b 0 dLen dCap ad sLen sCap size n [] hs hx hu hsz hn hl hsrc (fun j hj => by simp at hj) (fun j hj => by simp at hj) h1 R hR h
  · rw [if_neg hcc] at hs
    exact list_copy s y dT sT elem ho hgd b o dLen dCap ad sLen sCap size n cs hs hx hu hsz hn hl hsrc hc hf h1 R hR h
end
end Go.Proofs.Ytlfljlhppigejab
