/-
  What a row of units in memory becomes: copy within a row, one written anew; and as lists.
-/
import Derived.Test.YtlfljlhppigejabElderGame
import Derived.Laws.IdiomCopy
import Derived.Deep.MidRow
namespace Go.Proofs.Ytlfljlhppigejab
open Go.RowKit

/-- copy, of elements of any size. -/
theorem run_copy_row {P : Program} (w : World) (dT sT ty elem : TypeId) (b o dLen dCap : Nat) (a : Addr) (sLen sCap size n : Nat) (cs : List Value)
    (hu : P.underlying dT = some (.slice elem)) (hs : (P.info? elem).map (·.size) = some size) (hn : n = Nat.min sLen dLen) (hl : cs.length = n * size)
    (hsrc : ∀ j v, cs[j]? = some v → w.cell? (a.add j) = some v) (hc : ∀ j, j < cs.length → (w.cell? ⟨b, o + j, none⟩).isSome = true) (hf : ∀ j, j < cs.length → w.frozen? ⟨b, o + j, none⟩ = false) (h1 : ∀ v ∈ cs, v.oneCell' = true) :
    (Builtin.copy_ #[dT, sT] ty #[.slice (some ⟨b, o, none⟩) dLen dCap, .slice (some a) sLen sCap]).run P w = .ok (goInt n) (w.setCells b o cs) := by
  have hl' := run_loadCells_list (P := P) w a cs hsrc
  have hst := run_storeCells_cells (P := P) b o cs 0 w (by simpa using hc) (by simpa using hf) h1
  cases hq : P.info? elem with
  | none => simp [hq] at hs
  | some i =>
    have hi : i.size = size := by simpa [hq] using hs
    rw [hl] at hl'
    simp [Builtin.copy_, run_underlying hu, Builtin.lenOf, Builtin.firstCells, sizeOf, typeInfo, hq, hi, ← hn, hl', hst]

/-- What stands in an owned row of which all cells are known, in the middle of it written anew. -/
theorem own_setCells {w : World} {base : Nat} {e : TypeId} {size g n cap : Nat} {xs : List Value} (h : w.ownsRow base e size (.slice (some ⟨g, 0, none⟩) n cap) n xs) (cs : List Value) : ∀ (o : Nat), o + cs.length ≤ n * size →
    (w.setCells g o cs).ownsRow base e size (.slice (some ⟨g, 0, none⟩) n cap) n (xs.take o ++ cs ++ xs.drop (o + cs.length)) ∧ w.grownBy (w.setCells g o cs) (some g) := by
  induction cs generalizing w xs with
  | nil =>
    intro o ho
    have hx : xs.take o ++ [] ++ xs.drop (o + 0) = xs := by simp
    simp only [List.length_nil] at hx ⊢
    rw [hx]
    exact ⟨h, ⟨rfl, rfl, rfl, Nat.le_refl _, fun _ _ _ => rfl⟩⟩
  | cons v cs ih =>
    intro o ho
    rw [List.length_cons] at ho
    obtain ⟨h1, h2⟩ := h.stored o v
    obtain ⟨h3, h4⟩ := ih h1 (o + 1) (by omega)
    have hlen : xs.length = n * size := h.1
    have hx : (xs.set o v).take (o + 1) ++ cs ++ (xs.set o v).drop (o + 1 + cs.length) = xs.take o ++ (v :: cs) ++ xs.drop (o + (cs.length + 1)) := by
      rw [List.take_succ_eq_append_getElem (by simp; omega), List.drop_set_of_lt (by omega)]
      simp only [List.getElem_set_self, List.take_set_of_le (Nat.le_refl o)]
      rw [show o + 1 + cs.length = o + (cs.length + 1) by omega]
      simp
    rw [hx] at h3
    refine ⟨h3, ⟨h4.os.trans h2.os, h4.tape.trans h2.tape, h4.output.trans h2.output, Nat.le_trans h2.size h4.size, fun k hk hne => ?_⟩⟩
    exact (h4.block k (Nat.lt_of_lt_of_le hk h2.size) hne).trans (h2.block k hk hne)

theorem cellsAll_append (a b : List U) : cellsAll (a ++ b) = cellsAll a ++ cellsAll b := by simp [cellsAll]
theorem cellsAll_take (us : List U) (i : Nat) : (cellsAll us).take (i * 10) = cellsAll (us.take i) := by
  by_cases hi : i ≤ us.length
  · conv => lhs; rw [← List.take_append_drop i us, cellsAll_append]
    rw [List.take_append_of_le_length (by rw [cellsAll_length, List.length_take]; omega), List.take_of_length_le (by rw [cellsAll_length, List.length_take]; omega)]
  · rw [List.take_of_length_le (by rw [cellsAll_length]; omega), List.take_of_length_le (by omega)]
theorem cellsAll_drop (us : List U) (i : Nat) : (cellsAll us).drop (i * 10) = cellsAll (us.drop i) := by
  by_cases hi : i ≤ us.length
  · conv => lhs; rw [← List.take_append_drop i us, cellsAll_append]
    rw [List.drop_append_of_le_length (by rw [cellsAll_length, List.length_take]; omega), List.drop_eq_nil_of_le (by rw [cellsAll_length, List.length_take]; omega)]
    rfl
  · rw [List.drop_eq_nil_of_le (by rw [cellsAll_length]; omega), List.drop_eq_nil_of_le (by omega)]
    rfl
/-- A row with a gap behind it, moved up by one from i on, and the gap at i filled. -/
theorem row_insert (us : List U) (z : List Value) (hz : z.length = 10) (u : U) (i : Nat) (hi : i ≤ us.length) :
    let moved := (cellsAll us ++ z).take ((i + 1) * 10) ++ cellsAll (us.drop i) ++ (cellsAll us ++ z).drop ((i + 1) * 10 + (cellsAll (us.drop i)).length)
    moved.take (i * 10) ++ cellsE u ++ moved.drop (i * 10 + 10) = cellsAll (us.take i ++ u :: us.drop i) := by
  intro moved
  have hl : (cellsAll us).length = us.length * 10 := cellsAll_length us
  have hd : (cellsAll (us.drop i)).length = (us.length - i) * 10 := by rw [cellsAll_length, List.length_drop]
  have h1 : moved.take (i * 10) = cellsAll (us.take i) := by
    show ((cellsAll us ++ z).take ((i + 1) * 10) ++ cellsAll (us.drop i) ++ _).take (i * 10) = _
    rw [List.append_assoc, List.take_append_of_le_length (by rw [List.length_take, List.length_append]; omega), List.take_take, Nat.min_eq_left (by omega), List.take_append_of_le_length (by omega), cellsAll_take]
  have h2 : moved.drop (i * 10 + 10) = cellsAll (us.drop i) := by
    show ((cellsAll us ++ z).take ((i + 1) * 10) ++ cellsAll (us.drop i) ++ (cellsAll us ++ z).drop ((i + 1) * 10 + (cellsAll (us.drop i)).length)).drop (i * 10 + 10) = _
    have hn0 : (cellsAll us ++ z).drop ((i + 1) * 10 + (cellsAll (us.drop i)).length) = [] := List.drop_eq_nil_of_le (by rw [List.length_append]; omega)
    rw [hn0, List.append_nil, List.drop_append_of_le_length (by rw [List.length_take, List.length_append]; omega), List.drop_eq_nil_of_le (by rw [List.length_take]; omega), List.nil_append]
  rw [h1, h2, cellsAll_append]
  show cellsAll (us.take i) ++ cellsE u ++ cellsAll (us.drop i) = cellsAll (us.take i) ++ (cellsE u ++ cellsAll (us.drop i))
  rw [List.append_assoc]
/-- Where the search has found, one is put in. -/
theorem ins_at {us : List U} (hs : byId us) {u : U} (hn : ∀ v ∈ us, v.id ≠ u.id) {i : Nat} (hi : i ≤ us.length) (h1 : i < us.length → u.id ≤ (us.getD i zeroU).id) (h2 : 0 < i → (us.getD (i - 1) zeroU).id < u.id) : insU us u = us.take i ++ u :: us.drop i := by
  have hss := byId_iff.1 hs
  have hlow : ∀ v ∈ us.take i, decide (v.id ≤ u.id) = true := by
    intro v hv
    obtain ⟨j, hj, rfl⟩ := List.mem_iff_getElem.1 hv
    rw [List.length_take] at hj
    rw [List.getElem_take, ← getD_lt (by omega)]
    have h3 := h2 (by omega)
    by_cases e : j = i - 1
    · rw [e]; rw [decide_eq_true_eq]; omega
    · have := hss j (i - 1) (by omega) (by omega)
      rw [decide_eq_true_eq]; omega
  have hhigh : ∀ v ∈ us.drop i, decide (v.id ≤ u.id) = false := by
    intro v hv
    obtain ⟨j, hj, rfl⟩ := List.mem_iff_getElem.1 hv
    rw [List.length_drop] at hj
    rw [List.getElem_drop]
    have hm := hn us[i + j] (List.getElem_mem (by omega))
    have h3 := h1 (by omega)
    have h4 : u.id ≤ us[i + j].id := by
      rw [← getD_lt (by omega)]
      by_cases e : j = 0
      · subst e; exact h3
      · have := hss i (i + j) (by omega) (by omega); omega
    rw [decide_eq_false_iff_not]; omega
  have hsplit : us = us.take i ++ us.drop i := (List.take_append_drop i us).symm
  have ht : us.takeWhile (fun v => decide (v.id ≤ u.id)) = us.take i := by
    conv => lhs; rw [hsplit]
    rw [List.takeWhile_append_of_pos hlow]
    have : (us.drop i).takeWhile (fun v => decide (v.id ≤ u.id)) = [] := by
      cases hd : us.drop i with
      | nil => rfl
      | cons v l => rw [List.takeWhile_cons, if_neg]; rw [hhigh v (by rw [hd]; simp)]; simp
    rw [this, List.append_nil]
  have hd : us.dropWhile (fun v => decide (v.id ≤ u.id)) = us.drop i := by
    conv => lhs; rw [hsplit]
    rw [List.dropWhile_append_of_pos hlow]
    cases hd : us.drop i with
    | nil => rfl
    | cons v l => rw [List.dropWhile_cons, if_neg]; rw [hhigh v (by rw [hd]; simp)]; simp
  unfold insU
  rw [ht, hd]
/-- Gold is paid. -/
theorem GE.pay {w : World} {B S : Nat} {g : G} {born : List Int} {fv ev bv : Value} (h : GE w B S g born fv ev bv) {o : Int} (ho : o = 0 ∨ o = 1) (c : Int) : GE (w.setCell ⟨S, 1 + o.toNat, none⟩ (.int .i64 (goldOf g o - c))) B S (pay g o c) born fv ev bv := by
  rcases ho with rfl | rfl
  · exact h.setG0 _
  · exact h.setG1 _
/-- The row of units has been written anew, perhaps elsewhere, and the game's own block tells where. -/
theorem GE.growU {w w8 : World} {B S : Nat} {g : G} {born : List Int} {fv ev bv : Value} (h : GE w B S g born fv ev bv) {gg cap : Nat} {us : List U} (k : Kp (fun b => ev.ownBlock = some b) w w8)
    (own : w8.ownsRow B 83 10 (.slice (some ⟨gg, 0, none⟩) us.length cap) us.length (cellsAll us)) (hg : ev.ownBlock = some gg ∨ w.heap.size ≤ gg) :
    GE (w8.setCell ⟨S, 5, none⟩ (.slice (some ⟨gg, 0, none⟩) us.length cap)) B S { g with us := us } born fv (.slice (some ⟨gg, 0, none⟩) us.length cap) bv := by
  have hk := Kp.setCell w8 ⟨S, 5, none⟩ (.slice (some ⟨gg, 0, none⟩) us.length cap)
  have hS : ev.ownBlock ≠ some S := fun e => h.se S e rfl
  have hgS : gg ≠ S := by rcases hg with e | e; exact h.se gg e; have := h.blk.lt; omega
  have hgf : ∀ b, fv.ownBlock = some b → b ≠ gg := by
    intro b hb e
    subst e
    rcases hg with e | e
    · exact h.fe b hb e
    · have := (World.ownsRow.lt h.fr b hb).2; omega
  have hgb : ∀ b, bv.ownBlock = some b → b ≠ gg := by
    intro b hb e
    subst e
    rcases hg with e | e
    · exact h.eb b e hb
    · have := (World.ownsRow.lt h.bo b hb).2; omega
  refine ⟨?_, h.base, ?_, ?_, ?_, h.sf, ?_, h.sb, ?_, h.fb, ?_⟩
  · have := (h.blk.kp k hS).store (.slice (some ⟨gg, 0, none⟩) us.length cap) (i := 5) (by simp)
    simpa using this
  · exact own_kp (own_kp h.fr k (fun b hb => h.fe b hb)) hk (fun b hb => h.sf b hb)
  · exact own_kp own hk (fun b hb => by cases hb; exact hgS)
  · exact own_kp (own_kp h.bo k (fun b hb e => h.eb b e hb)) hk (fun b hb => h.sb b hb)
  · intro b hb; cases hb; exact hgS
  · intro b hb e; exact hgf b hb (Option.some.inj (show some gg = some b from e)).symm
  · intro b hb e; cases hb; exact hgb gg e rfl
theorem GE.growB {w w8 : World} {B S : Nat} {g : G} {born : List Int} {fv ev bv : Value} (h : GE w B S g born fv ev bv) {gg cap : Nat} {l : List Int} (k : Kp (fun b => bv.ownBlock = some b) w w8)
    (own : w8.ownsRow B 3 1 (.slice (some ⟨gg, 0, none⟩) l.length cap) l.length (intCells l)) (hg : bv.ownBlock = some gg ∨ w.heap.size ≤ gg) :
    GE (w8.setCell ⟨S, 6, none⟩ (.slice (some ⟨gg, 0, none⟩) l.length cap)) B S g l fv ev (.slice (some ⟨gg, 0, none⟩) l.length cap) := by
  have hk := Kp.setCell w8 ⟨S, 6, none⟩ (.slice (some ⟨gg, 0, none⟩) l.length cap)
  have hS : bv.ownBlock ≠ some S := fun e => h.sb S e rfl
  have hgS : gg ≠ S := by rcases hg with e | e; exact h.sb gg e; have := h.blk.lt; omega
  have hgf : ∀ b, fv.ownBlock = some b → b ≠ gg := by
    intro b hb e
    subst e
    rcases hg with e | e
    · exact h.fb b hb e
    · have := (World.ownsRow.lt h.fr b hb).2; omega
  have hgb : ∀ b, ev.ownBlock = some b → b ≠ gg := by
    intro b hb e
    subst e
    rcases hg with e | e
    · exact h.eb b hb e
    · have := (World.ownsRow.lt h.us b hb).2; omega
  refine ⟨?_, h.base, ?_, ?_, ?_, h.sf, h.se, ?_, h.fe, ?_, ?_⟩
  · have := (h.blk.kp k hS).store (.slice (some ⟨gg, 0, none⟩) l.length cap) (i := 6) (by simp)
    simpa using this
  · exact own_kp (own_kp h.fr k (fun b hb => h.fb b hb)) hk (fun b hb => h.sf b hb)
  · exact own_kp (own_kp h.us k (fun b hb => h.eb b hb)) hk (fun b hb => h.se b hb)
  · exact own_kp own hk (fun b hb => by cases hb; exact hgS)
  · intro b hb; cases hb; exact hgS
  · intro b hb e; exact hgf b hb (Option.some.inj (show some gg = some b from e)).symm
  · intro b hb e; exact hgb b hb (Option.some.inj (show some gg = some b from e)).symm
theorem GE.growF {w w8 : World} {B S : Nat} {g : G} {born : List Int} {fv ev bv : Value} (h : GE w B S g born fv ev bv) {gg cap : Nat} {l : List Int} (k : Kp (fun b => fv.ownBlock = some b) w w8)
    (own : w8.ownsRow B 3 1 (.slice (some ⟨gg, 0, none⟩) l.length cap) l.length (intCells l)) (hg : fv.ownBlock = some gg ∨ w.heap.size ≤ gg) :
    GE (w8.setCell ⟨S, 4, none⟩ (.slice (some ⟨gg, 0, none⟩) l.length cap)) B S { g with free := l } born (.slice (some ⟨gg, 0, none⟩) l.length cap) ev bv := by
  have hk := Kp.setCell w8 ⟨S, 4, none⟩ (.slice (some ⟨gg, 0, none⟩) l.length cap)
  have hS : fv.ownBlock ≠ some S := fun e => h.sf S e rfl
  have hgS : gg ≠ S := by rcases hg with e | e; exact h.sf gg e; have := h.blk.lt; omega
  have hgf : ∀ b, bv.ownBlock = some b → b ≠ gg := by
    intro b hb e
    subst e
    rcases hg with e | e
    · exact h.fb b e hb
    · have := (World.ownsRow.lt h.bo b hb).2; omega
  have hgb : ∀ b, ev.ownBlock = some b → b ≠ gg := by
    intro b hb e
    subst e
    rcases hg with e | e
    · exact h.fe b e hb
    · have := (World.ownsRow.lt h.us b hb).2; omega
  refine ⟨?_, h.base, ?_, ?_, ?_, ?_, h.se, h.sb, ?_, ?_, h.eb⟩
  · have := (h.blk.kp k hS).store (.slice (some ⟨gg, 0, none⟩) l.length cap) (i := 4) (by simp)
    simpa using this
  · exact own_kp own hk (fun b hb => by cases hb; exact hgS)
  · exact own_kp (own_kp h.us k (fun b hb e => h.fe b e hb)) hk (fun b hb => h.se b hb)
  · exact own_kp (own_kp h.bo k (fun b hb e => h.fb b e hb)) hk (fun b hb => h.sb b hb)
  · intro b hb; cases hb; exact hgS
  · intro b hb e; cases hb; exact hgb gg e rfl
  · intro b hb e; cases hb; exact hgf gg e rfl
/-- The units' row is turned where it lies. -/
theorem GE.turnU {w w8 : World} {B S : Nat} {g : G} {born : List Int} {fv ev bv : Value} (h : GE w B S g born fv ev bv) {us : List U} (k : Kp (fun b => ev.ownBlock = some b) w w8)
    (own : w8.ownsRow B 83 10 ev us.length (cellsAll us)) : GE w8 B S { g with us := us } born fv ev bv := by
  have hS : ev.ownBlock ≠ some S := fun e => h.se S e rfl
  exact ⟨h.blk.kp k hS, h.base, own_kp h.fr k (fun b hb => h.fe b hb), own, own_kp h.bo k (fun b hb e => h.eb b e hb), h.sf, h.se, h.sb, h.fe, h.fb, h.eb⟩
/-- Some units of the row written anew. -/
theorem own_part {w : World} {B g cap : Nat} {us : List U} (h : w.ownsRow B 83 10 (.slice (some ⟨g, 0, none⟩) us.length cap) us.length (cellsAll us)) (i : Nat) (vs : List U) (hi : i + vs.length ≤ us.length) :
    (w.setCells g (i * 10) (cellsAll vs)).ownsRow B 83 10 (.slice (some ⟨g, 0, none⟩) us.length cap) us.length (cellsAll (us.take i ++ vs ++ us.drop (i + vs.length))) ∧ Kp (fun b => b = g) w (w.setCells g (i * 10) (cellsAll vs)) := by
  obtain ⟨h1, h2⟩ := own_setCells h (cellsAll vs) (i * 10) (by rw [cellsAll_length]; omega)
  refine ⟨?_, (Kp.grown h2).imp (fun k _ hk => (Option.some.inj hk))⟩
  rw [cellsAll_length, cellsAll_take, show i * 10 + vs.length * 10 = (i + vs.length) * 10 by omega, cellsAll_drop, ← cellsAll_append, ← cellsAll_append] at h1
  exact h1
theorem own_cap {w : World} {B e s n cap : Nat} {a : Addr} {xs : List Value} (h : w.ownsRow B e s (.slice (some a) n cap) n xs) : n ≤ cap ∧ cap ≤ maxLen := by
  rcases h.2 with ⟨h1, h2⟩ | ⟨g, c, cur, h1, -, -, h4, h5, -⟩
  · cases h1
  · cases h1; exact ⟨h4, h5⟩
theorem own_there {w : World} {B g cap : Nat} {us : List U} (h : w.ownsRow B 83 10 (.slice (some ⟨g, 0, none⟩) us.length cap) us.length (cellsAll us)) {i : Nat} (hi : i < us.length) : w.there g (i * 10) 10 := by
  intro j hj
  have hl : (cellsAll us).length = us.length * 10 := cellsAll_length us
  have hc := World.ownsRow.cellAt h (i * 10 + j) (by omega)
  refine ⟨by rw [hc, List.getElem?_eq_getElem (by omega)]; rfl, World.ownsRow.frozenAt h _⟩
theorem cellsAll_one (us : List U) : ∀ v ∈ cellsAll us, v.oneCell' = true := by
  intro v hv
  obtain ⟨u, -, hu⟩ := List.mem_flatMap.1 hv
  simp only [cellsE, List.mem_cons, List.not_mem_nil, or_false] at hu
  rcases hu with h | h | h | h | h | h | h | h | h | h <;> rw [h] <;> rfl
theorem addr_add (b o j : Nat) : (⟨b, o, none⟩ : Addr).add j = ⟨b, o + j, none⟩ := by
  unfold Addr.add; split <;> simp_all
end Go.Proofs.Ytlfljlhppigejab
