/-
  Maps that a call makes, as functions from keys to values. No program in sight.
-/
import Derived.Test.YtlfljlhppigejabWords
import Derived.Maps.Own
import Derived.Maps.OwnSet
import Derived.Maps.Range
namespace Go.Proofs.Ytlfljlhppigejab
open Go.RowKit

/-- An element as it stands. -/
def RV (v : Value) : Option (DataW Value × List MemPlace) := some (.held v, [])

/-- The keys of a map: a type of indexes, how they stand as values, which are right. -/
structure KeyKind (P : Program) (k : TypeId) (ι : Type) (emb : ι → Value) (ok : ι → Prop) : Prop where
  keyed : Maps.Keyed P k
  lit : ∀ i, ok i → ∃ kl, keyOf P k (emb i) = some kl
  inj : ∀ i j, emb i = emb j → i = j

/-- Block b is a map that holds f (at right keys), sz of them. -/
def MapOf (P : Program) (k : TypeId) {ι : Type} (emb : ι → Value) (ok : ι → Prop) (w : World) (b n sz : Nat) (f : ι → Option Value) : Prop :=
  ∃ D, w.ownsMap P k RV b n D ∧ Maps.size D = sz ∧ ∀ i kl, ok i → keyOf P k (emb i) = some kl → Maps.has D kl = (f i).isSome ∧ ∀ z, D.atKey kl (.held z) = .held ((f i).getD z)

section
variable {P : Program} {k t e : TypeId} {ι : Type} {emb : ι → Value} {ok : ι → Prop} {w : World} {b n sz : Nat} {f : ι → Option Value}

theorem MapOf.new (w : World) : MapOf P k emb ok (w.alloc (.map #[] 0)) w.heap.size 0 0 (fun _ => none) :=
  ⟨_, World.ownsMap_made w P k RV, rfl, fun _ _ _ _ => ⟨rfl, fun _ => rfl⟩⟩
theorem MapOf.blk (h : MapOf P k emb ok w b n sz f) {w' : World} (hb : w'.heap[b]? = w.heap[b]?) : MapOf P k emb ok w' b n sz f := by
  obtain ⟨D, ⟨es, clock, h1, h2⟩, h3⟩ := h
  exact ⟨D, ⟨es, clock, hb.trans h1, h2⟩, h3⟩
theorem MapOf.lt (h : MapOf P k emb ok w b n sz f) : b < w.heap.size := by obtain ⟨D, h1, _⟩ := h; exact h1.lt
theorem MapOf.alloc (h : MapOf P k emb ok w b n sz f) (o : Obj) : MapOf P k emb ok (w.alloc o) b n sz f := by
  refine h.blk ?_
  have := h.lt
  show (w.heap.push o)[b]? = _
  rw [Array.getElem?_push, if_neg (by omega)]
theorem MapOf.drew (h : MapOf P k emb ok w b n sz f) : MapOf P k emb ok w.drew b n sz f := h
theorem MapOf.drewN (h : MapOf P k emb ok w b n sz f) (m : Nat) : MapOf P k emb ok (w.drewN m) b n sz f := h
theorem MapOf.call (h : MapOf P k emb ok w b n sz f) {w' : World} (hb : Below w.heap.size w w') : MapOf P k emb ok w' b n sz f := h.blk (hb.block b h.lt)
theorem MapOf.set (h : MapOf P k emb ok w b n sz f) {a : Addr} (ha : b ≠ a.block) (v : Value) : MapOf P k emb ok (w.setCell a v) b n sz f := h.blk (Below.heap_setCell w a v b ha)
theorem MapOf.other {b' : Nat} {w' : World} (h : MapOf P k emb ok w b n sz f) (hg : w.mapTurned w' b') (hne : b ≠ b') : MapOf P k emb ok w' b n sz f := by
  obtain ⟨es, clock, es', clock', h1, rfl⟩ := hg
  exact h.blk (ChangeMaps.heap_setBlock_other h1 _ hne)

/-- m[i]. -/
theorem MapOf.get (h : MapOf P k emb ok w b n sz f) (K : KeyKind P k ι emb ok) (ht : P.underlying t = some (.map k e)) {z : Value} (hz : (zeroValue e).run P w = .ok z w) (i : ι) (hi : ok i) :
    (Instr.lookup t (.map (some b)) (emb i) false).run P w = .ok ((f i).getD z) w := by
  obtain ⟨D, h1, _, h3⟩ := h
  obtain ⟨kl, hk⟩ := K.lit i hi
  obtain ⟨v, ps, hrun, hv⟩ := h1.lookup K.keyed ht hz (zd := .held z) (zp := []) rfl hk
  rw [(h3 i kl hi hk).2 z] at hv
  simp only [RV, Option.some.injEq, Prod.mk.injEq, DataW.held.injEq] at hv
  rw [hrun, hv.1]
/-- m[i], with whether it is there. -/
theorem MapOf.getok (h : MapOf P k emb ok w b n sz f) (K : KeyKind P k ι emb ok) (ht : P.underlying t = some (.map k e)) {z : Value} (hz : (zeroValue e).run P w = .ok z w) (i : ι) (hi : ok i) :
    (Instr.lookup t (.map (some b)) (emb i) true).run P w = .ok (.tuple #[(f i).getD z, .bool (f i).isSome]) w := by
  obtain ⟨D, h1, _, h3⟩ := h
  obtain ⟨kl, hk⟩ := K.lit i hi
  obtain ⟨v, ps, hrun, hv⟩ := h1.look_ok K.keyed ht hz (zd := .held z) (zp := []) rfl hk
  rw [(h3 i kl hi hk).2 z] at hv
  simp only [RV, Option.some.injEq, Prod.mk.injEq, DataW.held.injEq] at hv
  rw [hrun, hv.1, (h3 i kl hi hk).1]
/-- m[i] = v. -/
theorem MapOf.put [DecidableEq ι] (h : MapOf P k emb ok w b n sz f) (K : KeyKind P k ι emb ok) (ht : P.underlying t = some (.map k e)) (hn : n < maxLen) (i : ι) (hi : ok i) (v : Value) :
    ∃ w', (Instr.mapUpdate t (.map (some b)) (emb i) v).run P w = .ok () w' ∧ MapOf P k emb ok w' b (n + 1) (if (f i).isSome then sz else sz + 1) (fun j => if j = i then some v else f j) ∧ w.mapTurned w' b := by
  obtain ⟨D, h1, h2, h3⟩ := h
  obtain ⟨kl, hk⟩ := K.lit i hi
  obtain ⟨w', hrun, hown, hturn⟩ := h1.store K.keyed ht hn hk (val := v) (d := .held v) (ps := []) rfl
  refine ⟨w', hrun, ⟨_, hown, ?_, ?_⟩, hturn⟩
  · rw [Maps.size_put (h1.tidy K.keyed), (h3 i kl hi hk).1, h2]
  · intro j kj hj hkj
    by_cases hji : j = i
    · subst hji
      obtain rfl : kj = kl := Option.some.inj (hkj.symm.trans hk)
      dsimp only
      rw [if_pos rfl]
      exact ⟨Maps.has_put_same h1.isMap (K.keyed.key hk) _, fun z => Maps.atKey_put_same h1.isMap (K.keyed.key hk) _ _⟩
    · dsimp only
      rw [if_neg hji]
      have hne : kj ≠ kl := fun e => hji (K.inj _ _ (K.keyed.inj (e ▸ hkj) hk))
      rw [Maps.has_put_other hne, (h3 j kj hj hkj).1]
      refine ⟨rfl, fun z => ?_⟩
      rw [Maps.atKey_put_other hne]
      exact (h3 j kj hj hkj).2 z
/-- delete(m, i). -/
theorem MapOf.del [DecidableEq ι] (h : MapOf P k emb ok w b n sz f) (K : KeyKind P k ι emb ok) (ht : P.underlying t = some (.map k e)) (i : ι) (hi : ok i) (ty : TypeId) :
    ∃ w', (Builtin.delete_ #[t, k] ty #[.map (some b), emb i]).run P w = .ok (.tuple #[]) w' ∧ MapOf P k emb ok w' b n (if (f i).isSome then sz - 1 else sz) (fun j => if j = i then none else f j) ∧ w.mapTurned w' b := by
  obtain ⟨D, h1, h2, h3⟩ := h
  obtain ⟨kl, hk⟩ := K.lit i hi
  obtain ⟨w', hrun, hown, hturn⟩ := h1.drop K.keyed ht hk ty
  refine ⟨w', hrun, ⟨_, hown, ?_, ?_⟩, hturn⟩
  · have := Maps.size_del (k := kl) (h1.tidy K.keyed)
    rw [(h3 i kl hi hk).1, h2] at this
    split <;> simp_all
    omega
  · intro j kj hj hkj
    by_cases hji : j = i
    · subst hji
      obtain rfl : kj = kl := Option.some.inj (hkj.symm.trans hk)
      dsimp only
      rw [if_pos rfl]
      exact ⟨Maps.has_del_same, fun z => Maps.atKey_del_same _⟩
    · dsimp only
      rw [if_neg hji]
      have hne : kj ≠ kl := fun e => hji (K.inj _ _ (K.keyed.inj (e ▸ hkj) hk))
      rw [Maps.has_del_other hne, (h3 j kj hj hkj).1]
      refine ⟨rfl, fun z => ?_⟩
      rw [Maps.atKey_del_other hne]
      exact (h3 j kj hj hkj).2 z
/-- len(m). -/
theorem MapOf.len (h : MapOf P k emb ok w b n sz f) (ht : P.underlying t = some (.map k e)) (ty : TypeId) : (Builtin.len_ #[t] ty #[.map (some b)]).run P w = .ok (.int .i64 sz) w := by
  obtain ⟨D, h1, h2, _⟩ := h
  rw [h1.len ht ty, h2]
end

/-- What stays where a map's block alone has turned. -/
theorem Below.turned {B b : Nat} {a w w' : World} (h : Below B a w) (hg : w.mapTurned w' b) (hb : B ≤ b) : Below B a w' := by
  obtain ⟨es, clock, es', clock', h1, rfl⟩ := hg
  exact h.trans ⟨rfl, rfl, rfl, by simp [ChangeMaps.setBlock], fun i hi => ChangeMaps.heap_setBlock_other h1 _ (by omega)⟩
theorem Blk.turned {b S : Nat} {w w' : World} {c : Array Value} (h : Blk w S c) (hg : w.mapTurned w' b) (hb : S ≠ b) : Blk w' S c := by
  obtain ⟨es, clock, es', clock', h1, rfl⟩ := hg
  have hblk : (ChangeMaps.setBlock w b (.map es' clock')).heap[S]? = w.heap[S]? := ChangeMaps.heap_setBlock_other h1 _ hb
  exact ⟨by have := h.1; simpa [ChangeMaps.setBlock] using this, fun i => (World.cell?_of_block (w := w) hblk).trans (h.2.1 i), fun i => (World.frozen?_of_block (w := w) hblk).trans (h.2.2 i)⟩

/-- Keys that are integers of 64 bits. -/
theorem intKeys {P : Program} {k : TypeId} (hk : P.underlying k = some (.int .i64)) : KeyKind P k Int (Value.int .i64) (fun a => (Lit.int .i64 a).wf = true) :=
  ⟨Maps.int_keyed hk, fun a ha => ⟨_, Maps.keyOf_int_mk hk ha⟩, fun a b h => by cases h; rfl⟩
end Go.Proofs.Ytlfljlhppigejab
