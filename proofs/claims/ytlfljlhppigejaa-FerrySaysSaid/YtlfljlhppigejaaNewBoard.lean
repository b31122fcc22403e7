/-
  The newer game's board in memory, and the walks of index and place.
-/
import Derived.Test.YtlfljlhppigejaaPackSmall
import Derived.Test.YtlfljlhppigejaaElderMove
import Derived.Test.YtlfljlhppigejaaNewFuncs
import Derived.Test.YtlfljlhppigejaaPackMix
import Derived.Lib.SliceRun
namespace Go.Proofs.Ytlfljlhppigejaa
open Go.RowKit Go.ChangeMaps

section
variable {P : Program} {k t e : TypeId} {ι : Type} {emb : ι → Value} {ok : ι → Prop} {w : World} {b n sz : Nat} {f : ι → Option Value}
/-- clear(m). -/
theorem MapOf.clear (h : MapOf P k emb ok w b n sz f) (ht : P.underlying t = some (.map k e)) (ty : TypeId) :
    ∃ w', (Builtin.clear_ #[t] ty #[.map (some b)]).run P w = .ok (.tuple #[]) w' ∧ MapOf P k emb ok w' b 0 0 (fun _ => none) ∧ w.mapTurned w' b := by
  obtain ⟨D, ⟨es, clock, hb, F, hsz, hD⟩, h2, h3⟩ := id h
  have hw : (setBlock w b (.map #[] clock)).heap[b]? = some (.map #[] clock) := by
    have := h.lt
    simp [setBlock, this]
  refine ⟨setBlock w b (.map #[] clock), ?_, ⟨.map [], ⟨#[], clock, hw, ⟨by simp, MapKept.stamped_empty clock, by simp⟩, Nat.le_refl _, rfl⟩, rfl, fun _ _ _ _ => ⟨rfl, fun _ => rfl⟩⟩, ⟨es, clock, #[], clock, hb, rfl⟩⟩
  simp [Builtin.clear_, run_underlying ht, MapKept.run_getObj_map hb, MapKept.run_setObj_map _ hb, Result.andThen, setBlock]
end

/-- The cells of a board: a state's five, the map of units, 144 places, the first fresh number. -/
def boardV (tick g0 g1 next : Int) (uv : Value) (M : Nat) (grid : Nat → Int) (fresh : Int) : Nat → Value
  | 0 => .int .i64 tick
  | 1 => .int .i64 g0
  | 2 => .int .i64 g1
  | 3 => .int .i64 next
  | 4 => uv
  | 5 => .map (some M)
  | n + 6 => if n < 144 then .int .i64 (grid n) else .int .i64 fresh
/-- Block S is a board. -/
def Bd (w : World) (S : Nat) (f : Nat → Value) : Prop := S < w.heap.size ∧ (∀ i, i < 151 → w.cell? ⟨S, i, none⟩ = some (f i)) ∧ ∀ i, w.frozen? ⟨S, i, none⟩ = false
theorem Bd.lt {w : World} {S : Nat} {f : Nat → Value} (h : Bd w S f) : S < w.heap.size := h.1
theorem Bd.kp {X : Nat → Prop} {w w' : World} {S : Nat} {f : Nat → Value} (h : Bd w S f) (k : Kp X w w') (hx : ¬ X S) : Bd w' S f := by
  have hb := k.block S h.1 hx
  exact ⟨Nat.lt_of_lt_of_le h.1 k.size, fun i hi => (World.cell?_of_block (w := w) hb).trans (h.2.1 i hi), fun i => (World.frozen?_of_block (w := w) hb).trans (h.2.2 i)⟩
theorem Bd.call {w w' : World} {S : Nat} {f : Nat → Value} (h : Bd w S f) (k : Below w.heap.size w w') : Bd w' S f := h.kp (kp_of k (fun _ => False)) (fun x => x)
theorem Bd.fn {w : World} {S : Nat} {f f' : Nat → Value} (h : Bd w S f) (hf : ∀ i, i < 151 → f i = f' i) : Bd w S f' := ⟨h.1, fun i hi => by rw [← hf i hi]; exact h.2.1 i hi, h.2.2⟩
theorem Bd.store {w : World} {S i : Nat} {f : Nat → Value} (h : Bd w S f) (v : Value) (hi : i < 151) : Bd (w.setCell ⟨S, i, none⟩ v) S (fun j => if j = i then v else f j) := by
  refine ⟨by simpa using h.1, fun j hj => ?_, fun j => free_set.trans (h.2.2 j)⟩
  by_cases e : i = j
  · subst e
    show _ = some (if i = i then v else f i)
    rw [if_pos rfl]
    exact cell_same (h.2.1 i hi)
  · show _ = some (if j = i then v else f j)
    rw [cell_off e, if_neg (fun h => e h.symm)]
    exact h.2.1 j hj
/-- A row of cells in a board is written. -/
theorem Bd.cells {w : World} {S o : Nat} {f : Nat → Value} (h : Bd w S f) (l : List Value) (ho : o + l.length ≤ 151) : Bd (w.setCells S o l) S (fun j => if o ≤ j ∧ j < o + l.length then l.getD (j - o) undef else f j) := by
  induction l generalizing w o f with
  | nil => exact h.fn (fun i hi => by rw [if_neg]; intro h2; simp at h2; omega)
  | cons x l ih =>
    have hl : o + (l.length + 1) ≤ 151 := by simpa using ho
    have h1 := ih (h.store x (i := o) (by omega)) (o := o + 1) (by omega)
    refine Bd.fn (w := (w.setCell ⟨S, o, none⟩ x).setCells S (o + 1) l) h1 (fun i hi => ?_)
    rw [List.length_cons]
    by_cases h2 : o + 1 ≤ i ∧ i < o + 1 + l.length
    · rw [if_pos h2, if_pos (by omega)]
      obtain ⟨d, rfl⟩ : ∃ d, i = o + 1 + d := ⟨i - (o + 1), by omega⟩
      rw [show o + 1 + d - (o + 1) = d by omega, show o + 1 + d - o = d + 1 by omega]
      rfl
    · rw [if_neg h2]
      by_cases h3 : i = o
      · subst h3
        rw [if_pos rfl, if_pos (by omega)]
        simp
      · rw [if_neg h3, if_neg (by omega)]

/-- A pointer to the i-th of a row of units. -/
def uPtr (a : Option Addr) (i : Nat) : Value := .pointer (a.map fun x => ⟨x.block, x.off + i * 11, none⟩)
def whoV (a : Option Addr) (us : List U) (id : Int) : Option Value := (whoIx us id).map (uPtr a)
def cellsAllN (us : List U) : List Value := us.flatMap cellsN
theorem cellsN_length (u : U) : (cellsN u).length = 11 := rfl
theorem cellsAllN_length (us : List U) : (cellsAllN us).length = us.length * 11 := by
  induction us with
  | nil => rfl
  | cons u us ih => unfold cellsAllN at *; rw [List.flatMap_cons, List.length_append, ih, cellsN_length, List.length_cons]; omega
theorem cellsAllN_get (us : List U) : ∀ (i j : Nat), i < us.length → j < 11 → (cellsAllN us)[i * 11 + j]? = (cellsN (us.getD i zeroU))[j]? := by
  unfold cellsAllN
  induction us with
  | nil => intro i j h; simp at h
  | cons u us ih =>
    intro i j hi hj
    rw [List.flatMap_cons]
    cases i with
    | zero =>
      rw [Nat.zero_mul, Nat.zero_add, List.getElem?_append_left (by rw [cellsN_length]; exact hj)]
      rfl
    | succ i =>
      rw [List.getElem?_append_right (by rw [cellsN_length]; omega), cellsN_length, show (i + 1) * 11 + j - 11 = i * 11 + j by omega, ih i j (by simpa using hi) hj]
      rfl
theorem cellsAllN_one (us : List U) : ∀ v ∈ cellsAllN us, v.oneCell' = true := by
  intro v hv
  unfold cellsAllN at hv
  obtain ⟨u, -, hu⟩ := List.mem_flatMap.1 hv
  simp [cellsN, cellsE] at hu
  rcases hu with rfl | rfl | rfl | rfl | rfl | rfl | rfl | rfl | rfl | rfl | rfl <;> rfl
theorem URow.of_ownN {B : Nat} {w : World} {v : Value} {us : List U} (h : w.ownsRow B 130 11 v us.length (cellsAllN us)) : ∃ a c, v = .slice a us.length c ∧ us.length ≤ maxLen ∧ URow true w.heap.size w a us ∧ ∀ b o, a = some ⟨b, o, none⟩ → v.ownBlock = some b := by
  rcases h.2 with ⟨h1, h2⟩ | ⟨g, cap, cur, h1, -, -, h4, h5, -⟩
  · exact ⟨none, 0, by rw [h1, h2], by rw [h2]; simp [maxLen], fun i hi => by omega, fun b o e => by cases e⟩
  · subst h1
    refine ⟨_, cap, rfl, by omega, ?_, ?_⟩
    · intro i hi
      refine ⟨g, 0, rfl, (World.ownsRow.lt h g rfl).2, fun j hj => ?_⟩
      have hj' : j < 11 := hj
      have := World.ownsRow.cellAt h (i * 11 + j) (by omega)
      rw [cellsAllN_get us i j hi hj'] at this
      rw [show 0 + i * szOf true + j = i * 11 + j from by show 0 + i * 11 + j = _; omega]
      exact this
    · intro b o e
      cases e
      rfl
theorem infoUnit : (Try.prog.info? 130).map (fun i => (i.zero, i.size, i.bytes)) = some (some (.agg #[.int .i64 0, .int .i64 0, .int .i64 0, .int .i64 0, .int .i64 0, .int .i64 0, .int .i64 0, .int .i64 0, .int .i64 0, .int .i64 0, .int .i64 0]), 11, 88) := by kernel_rfl

end Go.Proofs.Ytlfljlhppigejaa
