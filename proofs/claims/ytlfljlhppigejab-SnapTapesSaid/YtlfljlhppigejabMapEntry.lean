/-
  m[k] op= v, at a map that is known as a function.
-/
import Derived.Test.YtlfljlhppigejabHandy
import Derived.WideKeyEntry
namespace Go.Proofs.Ytlfljlhppigejab
open Go.RowKit Go.WideElems Go.ChangeShapes Go.WideShapes Go.ChangeMaps
section
variable {P : Program} {k t e : TypeId} {w : World} {b : Nat} {es : Array MapEntry} {clock : Nat} {H : Type} {R : Value → Option (DataW H × List MemPlace)}
/-- The entry is there, or it is made; then it is written: as if it had been written at once. -/
theorem entry_parts (K : Maps.Keyed P k) (ht : P.underlying t = some (.map k e)) {z : Value} (hz : ∀ u : World, (zeroValue e).run P u = .ok z u) (hb : w.heap[b]? = some (.map es clock)) (F : Fit P k R es clock) {key : Value} {kl : Lit} (hkey : keyOf P k key = some kl) :
    ∃ (v0 : Value) (st : Nat) (es1 : Array MapEntry) (clock1 : Nat), (Instr.mapEntry t (.map (some b)) key).run P w = .ok (.tuple #[v0, goInt st]) (setBlock w b (.map es1 clock1)) ∧
      ((es1 = es ∧ clock1 = clock) ∨ ((Instr.mapUpdate t (.map (some b)) key z).run P w = .ok () (setBlock w b (.map es1 clock1)) ∧ (Instr.lookup t (.map (some b)) key false).run P w = .ok z w)) ∧
      ∀ (w2 : World) (val : Value), w2.heap[b]? = some (.map es1 clock1) → ∃ es' clock', (Instr.entryStore t (.map (some b)) (goInt st) val).run P w2 = .ok () (setBlock w2 b (.map es' clock')) ∧
        (Instr.mapUpdate t (.map (some b)) key val).run P w = .ok () (setBlock w b (.map es' clock')) := by
  obtain ⟨s1, s2, _⟩ := F.stamped
  have hkeys : ∀ x ∈ es.toList, ∃ l, keyOf P k x.key = some l := F.keys
  rcases K.find w hkey es.toList hkeys with ⟨h1, h2⟩ | ⟨j, e0, h1, h2, h3⟩
  · refine ⟨z, clock, es.push ⟨key, z, clock⟩, clock + 1, ?_, Or.inr ⟨?_, ?_⟩, fun w2 val hw2 => ⟨es.push ⟨key, val, clock⟩, clock + 1, ?_, ?_⟩⟩
    · simp [Instr.mapEntry, run_underlying ht, MapKept.run_getObj_map hb, K.check w false hkey, h1, hz, MapKept.run_setObj_map _ hb, Result.andThen, setBlock]
    · simp [Instr.mapUpdate, run_underlying ht, MapKept.run_getObj_map hb, K.check w false hkey, h1, MapKept.run_setObj_map _ hb, Result.andThen, setBlock]
    · simp [Instr.lookup, run_underlying ht, MapKept.run_getObj_map hb, K.check w es.isEmpty hkey, h1, hz, Result.andThen]
    · have hidx : (es.push ⟨key, z, clock⟩).findIdx? (fun e => ((e.born : Nat) : Int) == ((clock : Nat) : Int)) = some es.size := by
        rw [findIdx_arr]
        have := findIdx_born (l := (es.push ⟨key, z, clock⟩).toList) (j := es.size) (e0 := ⟨key, z, clock⟩) (by
          simp only [Array.toList_push, List.map_append, List.map_cons, List.map_nil]
          refine List.nodup_append.2 ⟨s2, by simp, fun a ha c hc e1 => ?_⟩
          simp only [List.mem_singleton] at hc
          obtain ⟨x, hx, rfl⟩ := List.mem_map.1 ha
          have := s1 x hx
          omega) (by simp)
        exact this
      have hmod : (es.push ⟨key, z, clock⟩).modify es.size (fun e => { e with val := val }) = es.push ⟨key, val, clock⟩ := by
        apply Array.ext'
        rw [Array.toList_modify, Array.toList_push, Array.toList_push, ← Array.length_toList, modify_last]
      simp [Instr.entryStore, MapKept.run_getObj_map hw2, asInt, asIntOf, goInt, hidx, hmod, MapKept.run_setObj_map _ hw2, Result.andThen, setBlock]
    · simp [Instr.mapUpdate, run_underlying ht, MapKept.run_getObj_map hb, K.check w false hkey, h1, MapKept.run_setObj_map _ hb, Result.andThen, setBlock]
  · have hj : es[j]? = some e0 := by simpa using h2
    have hsame : es.modify j (fun e => { e with key := key }) = es := by
      apply Array.ext'
      rw [Array.toList_modify, modify_eq_set _ _ _ _ h2]
      have : ({ e0 with key := key } : MapEntry) = e0 := by rw [← h3]
      rw [this]
      exact set_self _ _ _ h2
    refine ⟨e0.val, e0.born, es, clock, ?_, Or.inl ⟨rfl, rfl⟩, fun w2 val hw2 => ⟨es.modify j (fun e' => { e' with key := key, val := val }), clock, ?_, ?_⟩⟩
    · simp [Instr.mapEntry, run_underlying ht, MapKept.run_getObj_map hb, K.check w false hkey, h1, hj, h3, K.stays w hkey, hsame, MapKept.run_setObj_map _ hb, Result.andThen, setBlock]
    · have hidx : es.findIdx? (fun e => ((e.born : Nat) : Int) == ((e0.born : Nat) : Int)) = some j := by
        rw [findIdx_arr]
        exact findIdx_born s2 h2
      have hmod : es.modify j (fun e => { e with val := val }) = es.modify j (fun e' => { e' with key := key, val := val }) := by
        apply Array.ext'
        rw [Array.toList_modify, Array.toList_modify, modify_eq_set _ _ _ _ h2, modify_eq_set _ _ _ _ h2, ← h3]
      simp [Instr.entryStore, MapKept.run_getObj_map hw2, asInt, asIntOf, goInt, hidx, hmod, MapKept.run_setObj_map _ hw2, Result.andThen, setBlock]
    · simp [Instr.mapUpdate, run_underlying ht, MapKept.run_getObj_map hb, K.check w false hkey, h1, hj, h3, K.stays w hkey, MapKept.run_setObj_map _ hb, Result.andThen, setBlock]
end

variable {P : Program} {k t e : TypeId} {ι : Type} {emb : ι → Value} {ok : ι → Prop} {w : World} {b n sz : Nat} {f : ι → Option Value}
/-- m[i] op= v: the entry; what a lookup says behind it; the store. -/
theorem MapOf.entry [DecidableEq ι] (h : MapOf P k emb ok w b n sz f) (K : KeyKind P k ι emb ok) (ht : P.underlying t = some (.map k e)) {z : Value} (hz : ∀ u : World, (zeroValue e).run P u = .ok z u) (hn : n < maxLen) (i : ι) (hi : ok i) (val : Value) :
    ∃ (v0 : Value) (st : Nat) (w1 w2 : World), (Instr.mapEntry t (.map (some b)) (emb i)).run P w = .ok (.tuple #[v0, goInt st]) w1 ∧ w.mapTurned w1 b ∧ (Instr.lookup t (.map (some b)) (emb i) false).run P w1 = .ok ((f i).getD z) w1 ∧
      (Instr.entryStore t (.map (some b)) (goInt st) val).run P w1 = .ok () w2 ∧ MapOf P k emb ok w2 b (n + 1) (if (f i).isSome then sz else sz + 1) (fun j => if j = i then some val else f j) ∧ w.mapTurned w2 b := by
  obtain ⟨D, ⟨es, clock, hb, F, hsz, hD⟩, h2, h3⟩ := id h
  obtain ⟨kl, hk⟩ := K.lit i hi
  obtain ⟨v0, st, es1, clock1, r1, hcase, hst⟩ := entry_parts K.keyed ht hz hb F hk
  have hw1 : (setBlock w b (.map es1 clock1)).heap[b]? = some (.map es1 clock1) := by
    have := h.lt
    simp [setBlock, this]
  obtain ⟨es', clock', r2, r3⟩ := hst (setBlock w b (.map es1 clock1)) val hw1
  obtain ⟨w', r4, m4, t4⟩ := h.put K ht hn i hi val
  have hw' : w' = setBlock w b (.map es' clock') := by
    rw [r4] at r3
    cases r3
    rfl
  have hss : setBlock (setBlock w b (.map es1 clock1)) b (.map es' clock') = setBlock w b (.map es' clock') := by
    unfold setBlock
    simp
  refine ⟨v0, st, _, _, r1, ⟨es, clock, es1, clock1, hb, rfl⟩, ?_, r2, ?_, ?_⟩
  · rcases hcase with ⟨rfl, rfl⟩ | ⟨r5, r7⟩
    · have m1 : MapOf P k emb ok (setBlock w b (.map es1 clock1)) b n sz f := h.blk (by rw [hw1, hb])
      exact m1.get K ht (hz _) i hi
    · obtain ⟨w5, r6, m6, -⟩ := h.put K ht hn i hi z
      have hw5 : w5 = setBlock w b (.map es1 clock1) := by
        rw [r6] at r5
        cases r5
        rfl
      rw [hw5] at m6
      have := m6.get K ht (hz _) i hi
      rw [if_pos rfl] at this
      rw [this]
      have h8 := h.get K ht (hz _) i hi
      rw [h8] at r7
      have h9 : (f i).getD z = z := by
        injection r7
      rw [h9]
      rfl
  · rw [hss, ← hw']; exact m4
  · rw [hss, ← hw']; exact t4
end Go.Proofs.Ytlfljlhppigejab
