/-
  The walks of sort.Search at the program's two closures. Maps that a call makes, as functions from keys to values. No program in sight. Small words for the walks of both games. m[k] op= v, at a map that is known as a function. Keys that are pairs of integers. Strings of bytes, and errors by their numbers.
-/
import Derived.Test.YtlfljlhppigejabProg
import Derived.Test.YtlfljlhppigejabPackBase
import Derived.Outline
import Derived.Maps.Own
import Derived.Maps.OwnSet
import Derived.Maps.Range
import Derived.WideKeyEntry
import Derived.Test.YtlfljlhppigejabChecked
import Derived.DeepKeys4
import Derived.Lib.IndexBytes
namespace Go.Proofs.Ytlfljlhppigejab
open Go.RowKit

/-- What the search hands back: the first place of which it is so, where it goes over but once. -/
def SearchEnd (n : Nat) (d : Nat → Bool) (Inv : World → Prop) (e : Ending) (w' : World) : Prop :=
  ∃ i : Nat, e = .returned (.int .i64 i) ∧ i ≤ n ∧ (i < n → d i = true) ∧ (0 < i → d (i - 1) = false) ∧ Inv w'

set_option maxHeartbeats 800000 in
set_option maxRecDepth 100000 in
theorem search_at (p0 p1 : Value) (n : Nat) (hn : n ≤ 1000000) (d : Nat → Bool) (Inv : World → Prop)
    (hcl : Hid (∀ (i : Nat) (W : World), i < n → Inv W → Calls Try.prog 125 #[.int .i64 i, p0, p1] W fun e W' => e = .returned (.bool (d i)) ∧ Inv W'))
    (w : World) (h0 : Hid (Inv w)) :
    Calls Try.prog 124 #[.int .i64 n, .func (.func 125) #[] #[p0, p1]] w (SearchEnd n d Inv) := by
  go_enter Try.func124, Try.ntmps124
  go_wp2_with fail
  go_loopw [5, 6] (fun a b wr => ∃ i j : Nat, a = .int .i64 i ∧ b = .int .i64 j ∧ i ≤ j ∧ j ≤ n ∧ ((j < n → d j = true) ∧ (0 < i → d (i - 1) = false) ∧ Inv wr)) (fun a b _ => (intOf b - intOf a).toNat)
  case atStart => exact ⟨0, n, rfl, rfl, by omega, by omega, fun h => absurd h (by omega), fun h => absurd h (by omega), h0.out⟩
  case round =>
    obtain ⟨i, j, rfl, rfl, hij, hjn, hX⟩ := hrel
    have HX := Lib.hid hX
    clear hX h0
    by_cases hlt : i < j
    · have hm : (i + j) / 2 < n := by omega
      go_wp2_with fail
      rw [show (((i : Int) + (j : Int)) / 2) = (((i + j) / 2 : Nat) : Int) from by omega]
      refine (hcl.out ((i + j) / 2) _ hm HX.out.2.2).mono ?_
      rintro e w2 ⟨rfl, h2⟩
      have H2 := Lib.hid h2
      clear h2
      by_cases hd : d ((i + j) / 2) = true
      · rw [hd]
        have HD := Lib.hid hd
        clear hd
        go_wp2_with fail
        go_roundw
        case rel => exact ⟨i, (i + j) / 2, rfl, rfl, by omega, by omega, fun _ => HD.out, HX.out.2.1, H2.out⟩
        case measure => simp [intOf]; omega
      · rw [Bool.eq_false_iff.2 hd]
        have HD := Lib.hid hd
        clear hd
        go_wp2_with fail
        go_roundw
        case rel => exact ⟨(i + j) / 2 + 1, j, by go_num, rfl, by omega, by omega, HX.out.1, fun _ => Bool.eq_false_iff.2 HD.out, H2.out⟩
        case measure => simp [intOf]; omega
    · obtain rfl : i = j := by omega
      go_wp2_with fail
      go_ret
      exact ⟨i, rfl, hjn, HX.out.1, HX.out.2.1, HX.out.2.2⟩

end Go.Proofs.Ytlfljlhppigejab
namespace Go.Proofs.Ytlfljlhppigejab
open Go.RowKit

/-- An element as it stands. -/
def RV (v : Value) : Option (DataW Value × List MemPlace) := some (.held v, [])

/-- The keys of a map: a type of indexes, how they stand as values, which are right. -/
structure KeyKind (P : Program) (k : TypeId) (ι : Type) (emb : ι → Value) (ok : ι → Prop) : Prop where
  keyed : Maps.Keyed P k
  lit : ∀ i, ok i → ∃ kl, keyOf P k (emb i) = some kl
  inj : ∀ i j, emb i = emb j → i = j

/-- Block b is a map that holds f (at right keys), sz of them. -/
def MapOf (P : Program) (k : TypeId) {ι : Type} (emb : ι → Value) (ok : ι → Prop) (w : World) (b n sz : Nat) (f : ι → Option Value) : Prop :=
  ∃ D, w.ownsMap P k RV b n D ∧ Maps.size D = sz ∧ ∀ i kl, ok i → keyOf P k (emb i) = some kl → Maps.has D kl = (f i).isSome ∧ ∀ z, D.atKey kl (.held z) = .held ((f i).getD z)

section
variable {P : Program} {k t e : TypeId} {ι : Type} {emb : ι → Value} {ok : ι → Prop} {w : World} {b n sz : Nat} {f : ι → Option Value}

theorem MapOf.new (w : World) : MapOf P k emb ok (w.alloc (.map #[] 0)) w.heap.size 0 0 (fun _ => none) :=
  ⟨_, World.ownsMap_made w P k RV, rfl, fun _ _ _ _ => ⟨rfl, fun _ => rfl⟩⟩
theorem MapOf.blk (h : MapOf P k emb ok w b n sz f) {w' : World} (hb : w'.heap[b]? = w.heap[b]?) : MapOf P k emb ok w' b n sz f := by
  obtain ⟨D, ⟨es, clock, h1, h2⟩, h3⟩ := h
  exact ⟨D, ⟨es, clock, hb.trans h1, h2⟩, h3⟩
theorem MapOf.lt (h : MapOf P k emb ok w b n sz f) : b < w.heap.size := by obtain ⟨D, h1, _⟩ := h; exact h1.lt
theorem MapOf.alloc (h : MapOf P k emb ok w b n sz f) (o : Obj) : MapOf P k emb ok (w.alloc o) b n sz f := by
  refine h.blk ?_
  have := h.lt
  show (w.heap.push o)[b]? = _
  rw [Array.getElem?_push, if_neg (by omega)]
theorem MapOf.drew (h : MapOf P k emb ok w b n sz f) : MapOf P k emb ok w.drew b n sz f := h
theorem MapOf.drewN (h : MapOf P k emb ok w b n sz f) (m : Nat) : MapOf P k emb ok (w.drewN m) b n sz f := h
theorem MapOf.call (h : MapOf P k emb ok w b n sz f) {w' : World} (hb : Below w.heap.size w w') : MapOf P k emb ok w' b n sz f := h.blk (hb.block b h.lt)
theorem MapOf.set (h : MapOf P k emb ok w b n sz f) {a : Addr} (ha : b ≠ a.block) (v : Value) : MapOf P k emb ok (w.setCell a v) b n sz f := h.blk (Below.heap_setCell w a v b ha)
theorem MapOf.other {b' : Nat} {w' : World} (h : MapOf P k emb ok w b n sz f) (hg : w.mapTurned w' b') (hne : b ≠ b') : MapOf P k emb ok w' b n sz f := by
  obtain ⟨es, clock, es', clock', h1, rfl⟩ := hg
  exact h.blk (ChangeMaps.heap_setBlock_other h1 _ hne)

/-- m[i]. -/
theorem MapOf.get (h : MapOf P k emb ok w b n sz f) (K : KeyKind P k ι emb ok) (ht : P.underlying t = some (.map k e)) {z : Value} (hz : (zeroValue e).run P w = .ok z w) (i : ι) (hi : ok i) :
    (Instr.lookup t (.map (some b)) (emb i) false).run P w = .ok ((f i).getD z) w := by
  obtain ⟨D, h1, _, h3⟩ := h
  obtain ⟨kl, hk⟩ := K.lit i hi
  obtain ⟨v, ps, hrun, hv⟩ := h1.lookup K.keyed ht hz (zd := .held z) (zp := []) rfl hk
  rw [(h3 i kl hi hk).2 z] at hv
  simp only [RV, Option.some.injEq, Prod.mk.injEq, DataW.held.injEq] at hv
  rw [hrun, hv.1]
/-- m[i] = v. -/
theorem MapOf.put [DecidableEq ι] (h : MapOf P k emb ok w b n sz f) (K : KeyKind P k ι emb ok) (ht : P.underlying t = some (.map k e)) (hn : n < maxLen) (i : ι) (hi : ok i) (v : Value) :
    ∃ w', (Instr.mapUpdate t (.map (some b)) (emb i) v).run P w = .ok () w' ∧ MapOf P k emb ok w' b (n + 1) (if (f i).isSome then sz else sz + 1) (fun j => if j = i then some v else f j) ∧ w.mapTurned w' b := by
  obtain ⟨D, h1, h2, h3⟩ := h
  obtain ⟨kl, hk⟩ := K.lit i hi
  obtain ⟨w', hrun, hown, hturn⟩ := h1.store K.keyed ht hn hk (val := v) (d := .held v) (ps := []) rfl
  refine ⟨w', hrun, ⟨_, hown, ?_, ?_⟩, hturn⟩
  · rw [Maps.size_put (h1.tidy K.keyed), (h3 i kl hi hk).1, h2]
  · intro j kj hj hkj
    by_cases hji : j = i
    · subst hji
      obtain rfl : kj = kl := Option.some.inj (hkj.symm.trans hk)
      dsimp only
      rw [if_pos rfl]
      exact ⟨Maps.has_put_same h1.isMap (K.keyed.key hk) _, fun z => Maps.atKey_put_same h1.isMap (K.keyed.key hk) _ _⟩
    · dsimp only
      rw [if_neg hji]
      have hne : kj ≠ kl := fun e => hji (K.inj _ _ (K.keyed.inj (e ▸ hkj) hk))
      rw [Maps.has_put_other hne, (h3 j kj hj hkj).1]
      refine ⟨rfl, fun z => ?_⟩
      rw [Maps.atKey_put_other hne]
      exact (h3 j kj hj hkj).2 z
/-- len(m). -/
theorem MapOf.len (h : MapOf P k emb ok w b n sz f) (ht : P.underlying t = some (.map k e)) (ty : TypeId) : (Builtin.len_ #[t] ty #[.map (some b)]).run P w = .ok (.int .i64 sz) w := by
  obtain ⟨D, h1, h2, _⟩ := h
  rw [h1.len ht ty, h2]
end

/-- What stays where a map's block alone has turned. -/
theorem Below.turned {B b : Nat} {a w w' : World} (h : Below B a w) (hg : w.mapTurned w' b) (hb : B ≤ b) : Below B a w' := by
  obtain ⟨es, clock, es', clock', h1, rfl⟩ := hg
  exact h.trans ⟨rfl, rfl, rfl, by simp [ChangeMaps.setBlock], fun i hi => ChangeMaps.heap_setBlock_other h1 _ (by omega)⟩
theorem Blk.turned {b S : Nat} {w w' : World} {c : Array Value} (h : Blk w S c) (hg : w.mapTurned w' b) (hb : S ≠ b) : Blk w' S c := by
  obtain ⟨es, clock, es', clock', h1, rfl⟩ := hg
  have hblk : (ChangeMaps.setBlock w b (.map es' clock')).heap[S]? = w.heap[S]? := ChangeMaps.heap_setBlock_other h1 _ hb
  exact ⟨by have := h.1; simpa [ChangeMaps.setBlock] using this, fun i => (World.cell?_of_block (w := w) hblk).trans (h.2.1 i), fun i => (World.frozen?_of_block (w := w) hblk).trans (h.2.2 i)⟩

/-- Keys that are integers of 64 bits. -/
theorem intKeys {P : Program} {k : TypeId} (hk : P.underlying k = some (.int .i64)) : KeyKind P k Int (Value.int .i64) (fun a => (Lit.int .i64 a).wf = true) :=
  ⟨Maps.int_keyed hk, fun a ha => ⟨_, Maps.keyOf_int_mk hk ha⟩, fun a b h => by cases h; rfl⟩
end Go.Proofs.Ytlfljlhppigejab
namespace Go.Proofs.Ytlfljlhppigejab
open Go.RowKit
theorem wf_int {a : Int} (h : -9223372036854775808 ≤ a ∧ a < 9223372036854775808) : (Lit.int .i64 a).wf = true := by
  simp [Lit.wf, IntKind.min, IntKind.max, IntKind.signed, IntKind.bits]
  omega
theorem MapOf.fn {P : Program} {k : TypeId} {ι : Type} {emb : ι → Value} {ok : ι → Prop} {w : World} {b n sz sz' : Nat} {f f' : ι → Option Value} (h : MapOf P k emb ok w b n sz f) (hf : ∀ i, f i = f' i) (hs : sz = sz') : MapOf P k emb ok w b n sz' f' := by
  obtain rfl : f = f' := funext hf
  subst hs
  exact h
end Go.Proofs.Ytlfljlhppigejab
namespace Go.Proofs.Ytlfljlhppigejab
open Go.RowKit Go.WideElems Go.ChangeShapes Go.WideShapes Go.ChangeMaps
section
variable {P : Program} {k t e : TypeId} {w : World} {b : Nat} {es : Array MapEntry} {clock : Nat} {H : Type} {R : Value → Option (DataW H × List MemPlace)}
end

variable {P : Program} {k t e : TypeId} {ι : Type} {emb : ι → Value} {ok : ι → Prop} {w : World} {b n sz : Nat} {f : ι → Option Value}
end Go.Proofs.Ytlfljlhppigejab
namespace Go.Proofs.Ytlfljlhppigejab
open Go.RowKit

theorem keyLits_pair {P : Program} {t e : TypeId} (ht : P.underlying t = some (.array 2 e)) (he : P.underlying e = some (.int .i64)) (hc : P.cellsOf t = 2) (hce : P.cellsOf e = 1)
    {a b : Int} (ha : (Lit.int .i64 a).wf = true) (hb : (Lit.int .i64 b).wf = true) (d : Nat) : P.keyLits (d + 1 + 1) t [.int .i64 a, .int .i64 b] = some [.int .i64 a, .int .i64 b] := by
  simp [Program.keyLits, ht, he, hc, hce, ha, hb, List.range, List.range.loop]

def pairV (p : Int × Int) : Value := .agg #[.int .i64 p.1, .int .i64 p.2]
def pairOk (p : Int × Int) : Prop := (Lit.int .i64 p.1).wf = true ∧ (Lit.int .i64 p.2).wf = true

theorem pairKeys_of {P : Program} {t e : TypeId} (hl : laidOutB P = true) (hrow : t < P.types.size) (hk2 : P.keyTypeAt 2 t = true) (hkt : P.keyType t = true) (ht : P.underlying t = some (.array 2 e)) (he : P.underlying e = some (.int .i64)) (hc : P.cellsOf t = 2) (hce : P.cellsOf e = 1) :
    KeyKind P t (Int × Int) pairV pairOk := by
  refine ⟨Maps.Keyed.of_law (deep_law_laid hl (m := 2) (by omega) hrow hk2 (by rw [ht])), ?_, ?_⟩
  · rintro ⟨a, b⟩ ⟨ha, hb⟩
    obtain ⟨n, hn⟩ : ∃ n, P.types.size + 1 = n + 1 + 1 := ⟨P.types.size - 1, by have h0 : 0 < P.types.size := Nat.lt_of_le_of_lt (Nat.zero_le _) hrow; omega⟩
    have hf : (pairV (a, b)).formed P t = true := by simp [pairV, Value.formed, ht, hc]
    refine ⟨.string (keyBytes [.int .i64 a, .int .i64 b]), ?_⟩
    unfold keyOf
    rw [ht]
    dsimp only
    rw [hkt, hf, hn]
    have := keyLits_pair ht he hc hce ha hb n
    simp only [pairV, Value.cells, Bool.and_self, if_true, this, Option.map_some]
  · rintro ⟨a, b⟩ ⟨c, d⟩ h
    simp only [pairV, Value.agg.injEq, Array.mk.injEq, List.cons.injEq, Value.int.injEq, true_and, and_true] at h
    obtain ⟨rfl, rfl⟩ := h
    rfl
theorem pairKeys : KeyKind Try.prog 22 (Int × Int) pairV pairOk :=
  pairKeys_of (e := 3) (by kernel_rfl) (of_decide_eq_true (by kernel_rfl)) (by kernel_rfl) (by kernel_rfl) (by kernel_rfl) (by kernel_rfl) (by kernel_rfl) (by kernel_rfl)
end Go.Proofs.Ytlfljlhppigejab
namespace Go.Proofs.Ytlfljlhppigejab
open Go.RowKit

/-- A text of bytes. -/
def bstr (l : List UInt8) : ByteArray := ⟨l.toArray⟩
/-- An error, by its number (0: none). -/
def errV (f : Nat) : Value := if f = 0 then .nilIface else .iface 112 (.int .i64 f)
theorem errV_zero : errV 0 = .nilIface := rfl
theorem errV_pos (f : Nat) (h : f ≠ 0) : errV f = .iface 112 (.int .i64 f) := by unfold errV; rw [if_neg h]
end Go.Proofs.Ytlfljlhppigejab
