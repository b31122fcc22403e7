/-
  The end of a tick, unit by unit: what the loops of move, work and bury hold. No program in sight.
-/
import Derived.Test.YtlfljlhppigejabTrackPure
namespace Go.Proofs.Ytlfljlhppigejab

/-- Where one that was there wants to go. -/
def goer (n : Bool) (old : List Int) (us : List U) (u : U) : Option (Int × Int) := if old.contains u.id = true then wishF n us u else none
/-- How many of the first k want there. -/
def wantC (n : Bool) (old : List Int) (us : List U) (k : Nat) (p : Int × Int) : Nat := (us.take k).countP fun v => goer n old us v == some p
/-- Where one of the first k wants to go. -/
def toF (n : Bool) (old : List Int) (us : List U) (k : Nat) (id : Int) : Option (Int × Int) := (findU (us.take k) id).bind (goer n old us)

theorem goer_beq (n : Bool) (old : List Int) (us : List U) (v : U) (p : Int × Int) : (goer n old us v == some p) = (old.contains v.id && wishF n us v == some p) := by
  unfold goer
  cases h : old.contains v.id <;> simp
theorem wantC_all (n : Bool) (old : List Int) (us : List U) (p : Int × Int) : wantC n old us us.length p = wishers n old us p := by
  unfold wantC wishers
  rw [List.take_length]
  congr 1
  funext v
  exact goer_beq n old us v p
theorem wantC_zero (n : Bool) (old : List Int) (us : List U) (p : Int × Int) : wantC n old us 0 p = 0 := by simp [wantC]
theorem wantC_next {n : Bool} {old : List Int} {us : List U} {k : Nat} (hk : k < us.length) {u : U} (hu : us.getD k zeroU = u) (p : Int × Int) : wantC n old us (k + 1) p = wantC n old us k p + if goer n old us u = some p then 1 else 0 := by
  unfold wantC
  rw [take_at hk, hu, List.countP_append, List.countP_singleton]
  by_cases h : goer n old us u = some p <;> simp [h]
theorem wantC_le (n : Bool) (old : List Int) (us : List U) (k : Nat) (p : Int × Int) : wantC n old us k p ≤ us.length := by
  unfold wantC
  exact Nat.le_trans List.countP_le_length (by rw [List.length_take]; omega)
theorem toF_zero (n : Bool) (old : List Int) (us : List U) (id : Int) : toF n old us 0 id = none := by simp [toF, findU]
theorem find_take {us : List U} (hs : byId us) {k : Nat} (hk : k < us.length) {u : U} (hu : us.getD k zeroU = u) (id : Int) : findU (us.take (k + 1)) id = if u.id = id then some u else findU (us.take k) id := by
  rw [take_at hk, hu]
  unfold findU
  rw [List.find?_append]
  by_cases h : u.id = id
  · rw [if_pos h]
    have : (us.take k).find? (fun v => v.id == id) = none := by
      rw [List.find?_eq_none]
      intro v hv
      obtain ⟨j, hj, rfl⟩ := List.mem_iff_getElem.1 hv
      rw [List.length_take] at hj
      have := byId_iff.1 hs j k (by omega) hk
      rw [hu, getD_lt (by omega)] at this
      rw [List.getElem_take]
      simp
      omega
    rw [this]
    simp [h]
  · rw [if_neg h]
    simp [h]
theorem toF_next {n : Bool} {old : List Int} {us : List U} (hs : byId us) {k : Nat} (hk : k < us.length) {u : U} (hu : us.getD k zeroU = u) (id : Int) : toF n old us (k + 1) id = if u.id = id then goer n old us u else toF n old us k id := by
  unfold toF
  rw [find_take hs hk hu]
  split <;> rfl
theorem toF_fresh {n : Bool} {old : List Int} {us : List U} (hs : byId us) {k : Nat} (hk : k < us.length) {u : U} (hu : us.getD k zeroU = u) : toF n old us k u.id = none := by
  unfold toF
  have : findU (us.take k) u.id = none := by
    rw [find_none_iff]
    intro v hv
    obtain ⟨j, hj, rfl⟩ := List.mem_iff_getElem.1 hv
    rw [List.length_take] at hj
    have := byId_iff.1 hs j k (by omega) hk
    rw [hu, getD_lt (by omega)] at this
    rw [List.getElem_take]
    omega
  rw [this]
  rfl
theorem goer_none {n : Bool} {old : List Int} {us : List U} {u : U} (h : wishF n us u = none ∨ old.contains u.id = false) : goer n old us u = none := by
  unfold goer
  rcases h with h | h
  · split
    · exact h
    · rfl
  · rw [h]; rfl
theorem goer_some {n : Bool} {old : List Int} {us : List U} {u : U} {p : Int × Int} (h : wishF n us u = some p) (ho : old.contains u.id = true) : goer n old us u = some p := by
  unfold goer
  rw [if_pos ho, h]
theorem toF_all {n : Bool} {old : List Int} {us : List U} (hs : byId us) {u : U} (hu : u ∈ us) : toF n old us us.length u.id = goer n old us u := by
  unfold toF
  rw [List.take_length, find_mem hs hu]
  rfl
/-- What the second loop makes of one. -/
theorem move_go {n : Bool} {old : List Int} {us : List U} {u : U} {p : Int × Int} (hg : goer n old us u = some p) : moveF n old us u = if wishers n old us p = 1 ∧ standsAt us p.1 p.2 = false then { u with x := p.1, y := p.2 } else u := by
  unfold goer at hg
  by_cases ho : old.contains u.id = true
  · rw [if_pos ho] at hg
    unfold moveF
    rw [hg]
    dsimp only
    by_cases h : wishers n old us p = 1 ∧ standsAt us p.1 p.2 = false
    · rw [if_pos h, if_pos ⟨ho, h.2, h.1⟩]
    · rw [if_neg h, if_neg (fun h' => h ⟨h'.2.2, h'.2.1⟩)]
  · rw [if_neg ho] at hg; cases hg
theorem move_stay {n : Bool} {old : List Int} {us : List U} {u : U} (hg : goer n old us u = none) : moveF n old us u = u := by
  unfold goer at hg
  unfold moveF
  by_cases ho : old.contains u.id = true
  · rw [if_pos ho] at hg
    rw [hg]
  · cases hw : wishF n us u with
    | none => rfl
    | some p =>
      dsimp only
      rw [if_neg (fun h => ho h.1)]

/-! ### A row of which the first k are done -/
def doneU (f : U → U) (us : List U) (k : Nat) : List U := (us.take k).map f ++ us.drop k
theorem done_zero (f : U → U) (us : List U) : doneU f us 0 = us := by simp [doneU]
theorem done_all (f : U → U) (us : List U) : doneU f us us.length = us.map f := by simp [doneU]
theorem done_length (f : U → U) (us : List U) (k : Nat) : (doneU f us k).length = us.length := by simp [doneU]; omega
theorem done_at {f : U → U} {us : List U} {k : Nat} (hk : k < us.length) : (doneU f us k).getD k zeroU = us.getD k zeroU := by
  unfold doneU
  rw [List.getD_eq_getElem?_getD, List.getD_eq_getElem?_getD, List.getElem?_append_right (by rw [List.length_map, List.length_take]; omega)]
  rw [List.length_map, List.length_take, Nat.min_eq_left (by omega), Nat.sub_self, List.getElem?_drop, Nat.add_zero]
theorem done_next {f : U → U} {us : List U} {k : Nat} (hk : k < us.length) : doneU f us (k + 1) = (doneU f us k).set k (f (us.getD k zeroU)) := by
  unfold doneU
  rw [take_at hk, List.map_append]
  rw [List.set_append_right _ _ (by rw [List.length_map, List.length_take]; omega)]
  rw [List.length_map, List.length_take, Nat.min_eq_left (by omega), Nat.sub_self]
  rw [List.drop_eq_getElem_cons hk, List.set_cons_zero, List.append_assoc]
  rfl
theorem done_id {f : U → U} {us : List U} (hf : ∀ u ∈ us, (f u).id = u.id) (k : Nat) : idsOf (doneU f us k) = idsOf us := by
  unfold idsOf doneU
  rw [List.map_append, List.map_map]
  conv => rhs; rw [← List.take_append_drop k us, List.map_append]
  congr 1
  apply List.map_congr_left
  intro u hu
  exact hf u (List.mem_of_mem_take hu)
theorem ix_ids {us vs : List U} (h : idsOf us = idsOf vs) (id : Int) : ixOf us id = ixOf vs id := by
  have hw : ∀ l : List U, whoIx l id = (idsOf l).findIdx? (fun i => i == id) := by
    intro l
    unfold whoIx idsOf
    rw [List.findIdx?_map]
    rfl
  unfold ixOf
  rw [hw us, hw vs, h]

/-! ### Losses and gold -/
theorem loss_snoc (n : Bool) (old : List Int) (us : List U) (id : Int) (l : List U) (u : U) : lossF n old us id (l ++ [u]) = lossF n old us id l + if strikes n old us u = true ∧ u.target = id then blow n u else 0 := by
  induction l with
  | nil => simp [lossF]
  | cons v l ih =>
    rw [List.cons_append, lossF, lossF, ih]
    omega
theorem gain_snoc (n : Bool) (old : List Int) (us : List U) (o : Int) (l : List U) (u : U) : ∀ g, gainF n old us o (l ++ [u]) g = if strikes n old us u = true ∧ u.does ≠ 2 ∧ u.owner = o then min (richOf n) (gainF n old us o l g + (ruleOf n u.kind).load) else gainF n old us o l g := by
  induction l with
  | nil => intro g; simp [gainF]
  | cons v l ih => intro g; rw [List.cons_append, gainF, gainF, ih]
/-- Has one of the first k struck it? -/
def struck (n : Bool) (old : List Int) (us : List U) (k : Nat) (id : Int) : Bool := (us.take k).any fun u => strikes n old us u && u.target == id
def lossK (n : Bool) (old : List Int) (us : List U) (k : Nat) (id : Int) : Int := lossF n old us id (us.take k)
def gainK (n : Bool) (old : List Int) (us : List U) (k : Nat) (o g : Int) : Int := gainF n old us o (us.take k) g
theorem struck_zero (n : Bool) (old : List Int) (us : List U) (id : Int) : struck n old us 0 id = false := by simp [struck]
theorem struck_next {n : Bool} {old : List Int} {us : List U} {k : Nat} (hk : k < us.length) {u : U} (hu : us.getD k zeroU = u) (id : Int) : struck n old us (k + 1) id = (struck n old us k id || (strikes n old us u && u.target == id)) := by
  unfold struck
  rw [take_at hk, hu]
  simp
theorem lossK_next {n : Bool} {old : List Int} {us : List U} {k : Nat} (hk : k < us.length) {u : U} (hu : us.getD k zeroU = u) (id : Int) : lossK n old us (k + 1) id = lossK n old us k id + if strikes n old us u = true ∧ u.target = id then blow n u else 0 := by
  unfold lossK
  rw [take_at hk, hu, loss_snoc]
theorem gainK_next {n : Bool} {old : List Int} {us : List U} {k : Nat} (hk : k < us.length) {u : U} (hu : us.getD k zeroU = u) (o g : Int) : gainK n old us (k + 1) o g = if strikes n old us u = true ∧ u.does ≠ 2 ∧ u.owner = o then min (richOf n) (gainK n old us k o g + (ruleOf n u.kind).load) else gainK n old us k o g := by
  unfold gainK
  rw [take_at hk, hu, gain_snoc]
theorem loss_none {n : Bool} {old : List Int} {us : List U} {id : Int} (l : List U) (h : l.any (fun u => strikes n old us u && u.target == id) = false) : lossF n old us id l = 0 := by
  induction l with
  | nil => rfl
  | cons v l ih =>
    rw [List.any_cons, Bool.or_eq_false_iff] at h
    rw [lossF, ih h.2, if_neg]
    · rfl
    · rintro ⟨h1, h2⟩
      rw [h1] at h
      simp [h2] at h
theorem lossK_none {n : Bool} {old : List Int} {us : List U} {k : Nat} {id : Int} (h : struck n old us k id = false) : lossK n old us k id = 0 := loss_none _ h
theorem blow_le (n : Bool) (u : U) : blow n u ≤ 100 := by
  have := ruleOf_bd n u.kind
  unfold blow
  split <;> omega
theorem loss_le (n : Bool) (old : List Int) (us : List U) (id : Int) (l : List U) : lossF n old us id l ≤ 100 * l.length := by
  induction l with
  | nil => simp [lossF]
  | cons u l ih =>
    rw [lossF, List.length_cons]
    have := blow_le n u
    split <;> omega
theorem lossK_range (n : Bool) (old : List Int) (us : List U) (k : Nat) (id : Int) : 0 ≤ lossK n old us k id ∧ lossK n old us k id ≤ 100 * us.length := by
  refine ⟨loss_nonneg _ _ _ _ _, Int.le_trans (loss_le _ _ _ _ _) ?_⟩
  rw [List.length_take]
  omega
theorem lossK_all (n : Bool) (old : List Int) (us : List U) (id : Int) : lossK n old us us.length id = lossF n old us id us := by unfold lossK; rw [List.take_length]
theorem gainK_all (n : Bool) (old : List Int) (us : List U) (o g : Int) : gainK n old us us.length o g = gainF n old us o us g := by unfold gainK; rw [List.take_length]
theorem gainK_range (n : Bool) (old : List Int) (us : List U) (k : Nat) (o g : Int) (h1 : 0 ≤ g) (h2 : g ≤ richOf n) : 0 ≤ gainK n old us k o g ∧ gainK n old us k o g ≤ richOf n := gain_range _ _ _ _ _ _ h1 h2

/-! ### Who is left -/
theorem left_next {us : List U} {k : Nat} (hk : k < us.length) {u : U} (hu : us.getD k zeroU = u) : leftF (us.take (k + 1)) = if 0 < u.hp then leftF (us.take k) ++ [u] else leftF (us.take k) := by
  unfold leftF
  rw [take_at hk, hu, List.filter_append]
  by_cases h : 0 < u.hp <;> simp [h]
theorem gone_next {us : List U} {k : Nat} (hk : k < us.length) {u : U} (hu : us.getD k zeroU = u) : goneF (us.take (k + 1)) = if 0 < u.hp then goneF (us.take k) else goneF (us.take k) ++ [u.id] := by
  unfold goneF
  rw [take_at hk, hu, List.filter_append, List.map_append]
  by_cases h : 0 < u.hp
  · have h' : ¬ u.hp ≤ 0 := by omega
    simp [h, h']
  · have h' : u.hp ≤ 0 := by omega
    simp [h, h']
end Go.Proofs.Ytlfljlhppigejab
