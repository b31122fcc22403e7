/-
  The walks of sort.Search at the program's two closures. Maps that a call makes, as functions from keys to values. No program in sight. Small words for the walks of both games. m[k] op= v, at a map that is known as a function. Keys that are pairs of integers. Strings of bytes, and errors by their numbers.
-/
import Derived.Test.YtlfljlhppigejaaProg
import Derived.Test.YtlfljlhppigejaaPackBase
import Derived.Outline
import Derived.Maps.Own
import Derived.Maps.OwnSet
import Derived.Maps.Range
import Derived.WideKeyEntry
import Derived.Test.YtlfljlhppigejaaChecked
import Derived.DeepKeys4
import Derived.Lib.IndexBytes
namespace Go.Proofs.Ytlfljlhppigejaa
open Go.RowKit

end Go.Proofs.Ytlfljlhppigejaa
namespace Go.Proofs.Ytlfljlhppigejaa
open Go.RowKit

/-- An element as it stands. -/
def RV (v : Value) : Option (DataW Value × List MemPlace) := some (.held v, [])

/-- The keys of a map: a type of indexes, how they stand as values, which are right. -/
structure KeyKind (P : Program) (k : TypeId) (ι : Type) (emb : ι → Value) (ok : ι → Prop) : Prop where
  keyed : Maps.Keyed P k
  lit : ∀ i, ok i → ∃ kl, keyOf P k (emb i) = some kl
  inj : ∀ i j, emb i = emb j → i = j

/-- Block b is a map that holds f (at right keys), sz of them. -/
def MapOf (P : Program) (k : TypeId) {ι : Type} (emb : ι → Value) (ok : ι → Prop) (w : World) (b n sz : Nat) (f : ι → Option Value) : Prop :=
  ∃ D, w.ownsMap P k RV b n D ∧ Maps.size D = sz ∧ ∀ i kl, ok i → keyOf P k (emb i) = some kl → Maps.has D kl = (f i).isSome ∧ ∀ z, D.atKey kl (.held z) = .held ((f i).getD z)

section
variable {P : Program} {k t e : TypeId} {ι : Type} {emb : ι → Value} {ok : ι → Prop} {w : World} {b n sz : Nat} {f : ι → Option Value}

theorem MapOf.new (w : World) : MapOf P k emb ok (w.alloc (.map #[] 0)) w.heap.size 0 0 (fun _ => none) :=
  ⟨_, World.ownsMap_made w P k RV, rfl, fun _ _ _ _ => ⟨rfl, fun _ => rfl⟩⟩
theorem MapOf.blk (h : MapOf P k emb ok w b n sz f) {w' : World} (hb : w'.heap[b]? = w.heap[b]?) : MapOf P k emb ok w' b n sz f := by
  obtain ⟨D, ⟨es, clock, h1, h2⟩, h3⟩ := h
  exact ⟨D, ⟨es, clock, hb.trans h1, h2⟩, h3⟩
theorem MapOf.lt (h : MapOf P k emb ok w b n sz f) : b < w.heap.size := by obtain ⟨D, h1, _⟩ := h; exact h1.lt
theorem MapOf.alloc (h : MapOf P k emb ok w b n sz f) (o : Obj) : MapOf P k emb ok (w.alloc o) b n sz f := by
  refine h.blk ?_
  have := h.lt
  show (w.heap.push o)[b]? = _
  rw [Array.getElem?_push, if_neg (by omega)]
theorem MapOf.drew (h : MapOf P k emb ok w b n sz f) : MapOf P k emb ok w.drew b n sz f := h
theorem MapOf.call (h : MapOf P k emb ok w b n sz f) {w' : World} (hb : Below w.heap.size w w') : MapOf P k emb ok w' b n sz f := h.blk (hb.block b h.lt)
theorem MapOf.set (h : MapOf P k emb ok w b n sz f) {a : Addr} (ha : b ≠ a.block) (v : Value) : MapOf P k emb ok (w.setCell a v) b n sz f := h.blk (Below.heap_setCell w a v b ha)
theorem MapOf.other {b' : Nat} {w' : World} (h : MapOf P k emb ok w b n sz f) (hg : w.mapTurned w' b') (hne : b ≠ b') : MapOf P k emb ok w' b n sz f := by
  obtain ⟨es, clock, es', clock', h1, rfl⟩ := hg
  exact h.blk (ChangeMaps.heap_setBlock_other h1 _ hne)

/-- m[i]. -/
theorem MapOf.get (h : MapOf P k emb ok w b n sz f) (K : KeyKind P k ι emb ok) (ht : P.underlying t = some (.map k e)) {z : Value} (hz : (zeroValue e).run P w = .ok z w) (i : ι) (hi : ok i) :
    (Instr.lookup t (.map (some b)) (emb i) false).run P w = .ok ((f i).getD z) w := by
  obtain ⟨D, h1, _, h3⟩ := h
  obtain ⟨kl, hk⟩ := K.lit i hi
  obtain ⟨v, ps, hrun, hv⟩ := h1.lookup K.keyed ht hz (zd := .held z) (zp := []) rfl hk
  rw [(h3 i kl hi hk).2 z] at hv
  simp only [RV, Option.some.injEq, Prod.mk.injEq, DataW.held.injEq] at hv
  rw [hrun, hv.1]
/-- m[i] = v. -/
theorem MapOf.put [DecidableEq ι] (h : MapOf P k emb ok w b n sz f) (K : KeyKind P k ι emb ok) (ht : P.underlying t = some (.map k e)) (hn : n < maxLen) (i : ι) (hi : ok i) (v : Value) :
    ∃ w', (Instr.mapUpdate t (.map (some b)) (emb i) v).run P w = .ok () w' ∧ MapOf P k emb ok w' b (n + 1) (if (f i).isSome then sz else sz + 1) (fun j => if j = i then some v else f j) ∧ w.mapTurned w' b := by
  obtain ⟨D, h1, h2, h3⟩ := h
  obtain ⟨kl, hk⟩ := K.lit i hi
  obtain ⟨w', hrun, hown, hturn⟩ := h1.store K.keyed ht hn hk (val := v) (d := .held v) (ps := []) rfl
  refine ⟨w', hrun, ⟨_, hown, ?_, ?_⟩, hturn⟩
  · rw [Maps.size_put (h1.tidy K.keyed), (h3 i kl hi hk).1, h2]
  · intro j kj hj hkj
    by_cases hji : j = i
    · subst hji
      obtain rfl : kj = kl := Option.some.inj (hkj.symm.trans hk)
      dsimp only
      rw [if_pos rfl]
      exact ⟨Maps.has_put_same h1.isMap (K.keyed.key hk) _, fun z => Maps.atKey_put_same h1.isMap (K.keyed.key hk) _ _⟩
    · dsimp only
      rw [if_neg hji]
      have hne : kj ≠ kl := fun e => hji (K.inj _ _ (K.keyed.inj (e ▸ hkj) hk))
      rw [Maps.has_put_other hne, (h3 j kj hj hkj).1]
      refine ⟨rfl, fun z => ?_⟩
      rw [Maps.atKey_put_other hne]
      exact (h3 j kj hj hkj).2 z
/-- len(m). -/
theorem MapOf.len (h : MapOf P k emb ok w b n sz f) (ht : P.underlying t = some (.map k e)) (ty : TypeId) : (Builtin.len_ #[t] ty #[.map (some b)]).run P w = .ok (.int .i64 sz) w := by
  obtain ⟨D, h1, h2, _⟩ := h
  rw [h1.len ht ty, h2]
end

/-- What stays where a map's block alone has turned. -/
theorem Below.turned {B b : Nat} {a w w' : World} (h : Below B a w) (hg : w.mapTurned w' b) (hb : B ≤ b) : Below B a w' := by
  obtain ⟨es, clock, es', clock', h1, rfl⟩ := hg
  exact h.trans ⟨rfl, rfl, rfl, by simp [ChangeMaps.setBlock], fun i hi => ChangeMaps.heap_setBlock_other h1 _ (by omega)⟩
theorem Blk.turned {b S : Nat} {w w' : World} {c : Array Value} (h : Blk w S c) (hg : w.mapTurned w' b) (hb : S ≠ b) : Blk w' S c := by
  obtain ⟨es, clock, es', clock', h1, rfl⟩ := hg
  have hblk : (ChangeMaps.setBlock w b (.map es' clock')).heap[S]? = w.heap[S]? := ChangeMaps.heap_setBlock_other h1 _ hb
  exact ⟨by have := h.1; simpa [ChangeMaps.setBlock] using this, fun i => (World.cell?_of_block (w := w) hblk).trans (h.2.1 i), fun i => (World.frozen?_of_block (w := w) hblk).trans (h.2.2 i)⟩

/-- Keys that are integers of 64 bits. -/
theorem intKeys {P : Program} {k : TypeId} (hk : P.underlying k = some (.int .i64)) : KeyKind P k Int (Value.int .i64) (fun a => (Lit.int .i64 a).wf = true) :=
  ⟨Maps.int_keyed hk, fun a ha => ⟨_, Maps.keyOf_int_mk hk ha⟩, fun a b h => by cases h; rfl⟩
end Go.Proofs.Ytlfljlhppigejaa
namespace Go.Proofs.Ytlfljlhppigejaa
open Go.RowKit
theorem wf_int {a : Int} (h : -9223372036854775808 ≤ a ∧ a < 9223372036854775808) : (Lit.int .i64 a).wf = true := by
  simp [Lit.wf, IntKind.min, IntKind.max, IntKind.signed, IntKind.bits]
  omega
theorem MapOf.fn {P : Program} {k : TypeId} {ι : Type} {emb : ι → Value} {ok : ι → Prop} {w : World} {b n sz sz' : Nat} {f f' : ι → Option Value} (h : MapOf P k emb ok w b n sz f) (hf : ∀ i, f i = f' i) (hs : sz = sz') : MapOf P k emb ok w b n sz' f' := by
  obtain rfl : f = f' := funext hf
  subst hs
  exact h
end Go.Proofs.Ytlfljlhppigejaa
namespace Go.Proofs.Ytlfljlhppigejaa
open Go.RowKit Go.WideElems Go.ChangeShapes Go.WideShapes Go.ChangeMaps
section
variable {P : Program} {k t e : TypeId} {w : World} {b : Nat} {es : Array MapEntry} {clock : Nat} {H : Type} {R : Value → Option (DataW H × List MemPlace)}
/-- The entry is there, or it is made; then it is written: as if it had been written at once. -/
theorem entry_parts (K : Maps.Keyed P k) (ht : P.underlying t = some (.map k e)) {z : Value} (hz : ∀ u : World, (zeroValue e).run P u = .ok z u) (hb : w.heap[b]? = some (.map es clock)) (F : Fit P k R es clock) {key : Value} {kl : Lit} (hkey : keyOf P k key = some kl) :
    ∃ (v0 : Value) (st : Nat) (es1 : Array MapEntry) (clock1 : Nat), (Instr.mapEntry t (.map (some b)) key).run P w = .ok (.tuple #[v0, goInt st]) (setBlock w b (.map es1 clock1)) ∧
      ((es1 = es ∧ clock1 = clock) ∨ ((Instr.mapUpdate t (.map (some b)) key z).run P w = .ok () (setBlock w b (.map es1 clock1)) ∧ (Instr.lookup t (.map (some b)) key false).run P w = .ok z w)) ∧
      ∀ (w2 : World) (val : Value), w2.heap[b]? = some (.map es1 clock1) → ∃ es' clock', (Instr.entryStore t (.map (some b)) (goInt st) val).run P w2 = .ok () (setBlock w2 b (.map es' clock')) ∧
        (Instr.mapUpdate t (.map (some b)) key val).run P w = .ok () (setBlock w b (.map es' clock')) := by
  obtain ⟨s1, s2, _⟩ := F.stamped
  have hkeys : ∀ x ∈ es.toList, ∃ l, keyOf P k x.key = some l := F.keys
  rcases K.find w hkey es.toList hkeys with ⟨h1, h2⟩ | ⟨j, e0, h1, h2, h3⟩
  · refine ⟨z, clock, es.push ⟨key, z, clock⟩, clock + 1, ?_, Or.inr ⟨?_, ?_⟩, fun w2 val hw2 => ⟨es.push ⟨key, val, clock⟩, clock + 1, ?_, ?_⟩⟩
    · simp [Instr.mapEntry, run_underlying ht, MapKept.run_getObj_map hb, K.check w false hkey, h1, hz, MapKept.run_setObj_map _ hb, Result.andThen, setBlock]
    · simp [Instr.mapUpdate, run_underlying ht, MapKept.run_getObj_map hb, K.check w false hkey, h1, MapKept.run_setObj_map _ hb, Result.andThen, setBlock]
    · simp [Instr.lookup, run_underlying ht, MapKept.run_getObj_map hb, K.check w es.isEmpty hkey, h1, hz, Result.andThen]
    · have hidx : (es.push ⟨key, z, clock⟩).findIdx? (fun e => ((e.born : Nat) : Int) == ((clock : Nat) : Int)) = some es.size := by
        rw [findIdx_arr]
        have := findIdx_born (l := (es.push ⟨key, z, clock⟩).toList) (j := es.size) (e0 := ⟨key, z, clock⟩) (by
          simp only [Array.toList_push, List.map_append, List.map_cons, List.map_nil]
          refine List.nodup_append.2 ⟨s2, by simp, fun a ha c hc e1 => ?_⟩
          simp only [List.mem_singleton] at hc
          obtain ⟨x, hx, rfl⟩ := List.mem_map.1 ha
          have := s1 x hx
          omega) (by simp)
        exact this
      have hmod : (es.push ⟨key, z, clock⟩).modify es.size (fun e => { e with val := val }) = es.push ⟨key, val, clock⟩ := by
        apply Array.ext'
        rw [Array.toList_modify, Array.toList_push, Array.toList_push, ← Array.length_toList, modify_last]
      simp [Instr.entryStore, MapKept.run_getObj_map hw2, asInt, asIntOf, goInt, hidx, hmod, MapKept.run_setObj_map _ hw2, Result.andThen, setBlock]
    · simp [Instr.mapUpdate, run_underlying ht, MapKept.run_getObj_map hb, K.check w false hkey, h1, MapKept.run_setObj_map _ hb, Result.andThen, setBlock]
  · have hj : es[j]? = some e0 := by simpa using h2
    have hsame : es.modify j (fun e => { e with key := key }) = es := by
      apply Array.ext'
      rw [Array.toList_modify, modify_eq_set _ _ _ _ h2]
      have : ({ e0 with key := key } : MapEntry) = e0 := by rw [← h3]
      rw [this]
      exact set_self _ _ _ h2
    refine ⟨e0.val, e0.born, es, clock, ?_, Or.inl ⟨rfl, rfl⟩, fun w2 val hw2 => ⟨es.modify j (fun e' => { e' with key := key, val := val }), clock, ?_, ?_⟩⟩
    · simp [Instr.mapEntry, run_underlying ht, MapKept.run_getObj_map hb, K.check w false hkey, h1, hj, h3, K.stays w hkey, hsame, MapKept.run_setObj_map _ hb, Result.andThen, setBlock]
    · have hidx : es.findIdx? (fun e => ((e.born : Nat) : Int) == ((e0.born : Nat) : Int)) = some j := by
        rw [findIdx_arr]
        exact findIdx_born s2 h2
      have hmod : es.modify j (fun e => { e with val := val }) = es.modify j (fun e' => { e' with key := key, val := val }) := by
        apply Array.ext'
        rw [Array.toList_modify, Array.toList_modify, modify_eq_set _ _ _ _ h2, modify_eq_set _ _ _ _ h2, ← h3]
      simp [Instr.entryStore, MapKept.run_getObj_map hw2, asInt, asIntOf, goInt, hidx, hmod, MapKept.run_setObj_map _ hw2, Result.andThen, setBlock]
    · simp [Instr.mapUpdate, run_underlying ht, MapKept.run_getObj_map hb, K.check w false hkey, h1, hj, h3, K.stays w hkey, MapKept.run_setObj_map _ hb, Result.andThen, setBlock]
end

variable {P : Program} {k t e : TypeId} {ι : Type} {emb : ι → Value} {ok : ι → Prop} {w : World} {b n sz : Nat} {f : ι → Option Value}
/-- m[i] op= v: the entry; what a lookup says behind it; the store. -/
theorem MapOf.entry [DecidableEq ι] (h : MapOf P k emb ok w b n sz f) (K : KeyKind P k ι emb ok) (ht : P.underlying t = some (.map k e)) {z : Value} (hz : ∀ u : World, (zeroValue e).run P u = .ok z u) (hn : n < maxLen) (i : ι) (hi : ok i) (val : Value) :
    ∃ (v0 : Value) (st : Nat) (w1 w2 : World), (Instr.mapEntry t (.map (some b)) (emb i)).run P w = .ok (.tuple #[v0, goInt st]) w1 ∧ w.mapTurned w1 b ∧ (Instr.lookup t (.map (some b)) (emb i) false).run P w1 = .ok ((f i).getD z) w1 ∧
      (Instr.entryStore t (.map (some b)) (goInt st) val).run P w1 = .ok () w2 ∧ MapOf P k emb ok w2 b (n + 1) (if (f i).isSome then sz else sz + 1) (fun j => if j = i then some val else f j) ∧ w.mapTurned w2 b := by
  obtain ⟨D, ⟨es, clock, hb, F, hsz, hD⟩, h2, h3⟩ := id h
  obtain ⟨kl, hk⟩ := K.lit i hi
  obtain ⟨v0, st, es1, clock1, r1, hcase, hst⟩ := entry_parts K.keyed ht hz hb F hk
  have hw1 : (setBlock w b (.map es1 clock1)).heap[b]? = some (.map es1 clock1) := by
    have := h.lt
    simp [setBlock, this]
  obtain ⟨es', clock', r2, r3⟩ := hst (setBlock w b (.map es1 clock1)) val hw1
  obtain ⟨w', r4, m4, t4⟩ := h.put K ht hn i hi val
  have hw' : w' = setBlock w b (.map es' clock') := by
    rw [r4] at r3
    cases r3
    rfl
  have hss : setBlock (setBlock w b (.map es1 clock1)) b (.map es' clock') = setBlock w b (.map es' clock') := by
    unfold setBlock
    simp
  refine ⟨v0, st, _, _, r1, ⟨es, clock, es1, clock1, hb, rfl⟩, ?_, r2, ?_, ?_⟩
  · rcases hcase with ⟨rfl, rfl⟩ | ⟨r5, r7⟩
    · have m1 : MapOf P k emb ok (setBlock w b (.map es1 clock1)) b n sz f := h.blk (by rw [hw1, hb])
      exact m1.get K ht (hz _) i hi
    · obtain ⟨w5, r6, m6, -⟩ := h.put K ht hn i hi z
      have hw5 : w5 = setBlock w b (.map es1 clock1) := by
        rw [r6] at r5
        cases r5
        rfl
      rw [hw5] at m6
      have := m6.get K ht (hz _) i hi
      rw [if_pos rfl] at this
      rw [this]
      have h8 := h.get K ht (hz _) i hi
      rw [h8] at r7
      have h9 : (f i).getD z = z := by
        injection r7
      rw [h9]
      rfl
  · rw [hss, ← hw']; exact m4
  · rw [hss, ← hw']; exact t4
end Go.Proofs.Ytlfljlhppigejaa
namespace Go.Proofs.Ytlfljlhppigejaa
open Go.RowKit

def pairV (p : Int × Int) : Value := .agg #[.int .i64 p.1, .int .i64 p.2]
end Go.Proofs.Ytlfljlhppigejaa
namespace Go.Proofs.Ytlfljlhppigejaa
open Go.RowKit

/-- A text of bytes. -/
def bstr (l : List UInt8) : ByteArray := ⟨l.toArray⟩
/-- An error, by its number (0: none). -/
def errV (f : Nat) : Value := if f = 0 then .nilIface else .iface 148 (.int .i64 f)
theorem errV_zero : errV 0 = .nilIface := rfl
theorem errV_pos (f : Nat) (h : f ≠ 0) : errV f = .iface 148 (.int .i64 f) := by unfold errV; rw [if_neg h]
end Go.Proofs.Ytlfljlhppigejaa
