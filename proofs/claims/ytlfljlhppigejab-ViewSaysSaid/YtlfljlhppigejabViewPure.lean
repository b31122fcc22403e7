/-
  What a view of a right state is: by rows, in each from left to right. No program in sight.
-/
import Derived.Test.YtlfljlhppigejabViewAll
import Derived.Test.YtlfljlhppigejabPackPure
namespace Go.Proofs.Ytlfljlhppigejab

/-- One of a view, as the document tells it. -/
def seenR (us : List U) (u : U) : Sn :=
  if 0 < u.target ∧ 0 ≤ ixOf us u.target then ⟨u.x, u.y, u.owner, u.kind, u.hp, u.does, u.gx, u.gy, (us.getD (ixOf us u.target).toNat zeroU).x, (us.getD (ixOf us u.target).toNat zeroU).y⟩
  else ⟨u.x, u.y, u.owner, u.kind, u.hp, u.does, u.gx, u.gy, -1, -1⟩
def atSpot (x y : Nat) (u : U) : Bool := decide (u.x = (x : Int) ∧ u.y = (y : Int))
/-- Who stands at a place, of the first k. -/
def spotL (us : List U) (x y k : Nat) : List Sn := ((us.take k).filter (atSpot x y)).map (seenR us)
/-- A row's first places. -/
def rowL (us : List U) (y x : Nat) : List Sn := (List.range x).flatMap fun i => spotL us i y us.length
/-- The first rows. -/
def rowsL (us : List U) (y : Nat) : List Sn := (List.range y).flatMap fun j => rowL us j 12
def viewL (us : List U) : List Sn := rowsL us 12

theorem spotL_zero (us : List U) (x y : Nat) : spotL us x y 0 = [] := by simp [spotL]
theorem spotL_next {us : List U} {x y k : Nat} (hk : k < us.length) {u : U} (hu : us.getD k zeroU = u) : spotL us x y (k + 1) = if u.x = (x : Int) ∧ u.y = (y : Int) then spotL us x y k ++ [seenR us u] else spotL us x y k := by
  unfold spotL
  rw [take_at hk, hu, List.filter_append, List.map_append]
  by_cases h : u.x = (x : Int) ∧ u.y = (y : Int)
  · rw [if_pos h]
    have : atSpot x y u = true := decide_eq_true h
    simp [List.filter, this]
  · rw [if_neg h]
    have : atSpot x y u = false := decide_eq_false h
    simp [List.filter, this]
theorem rowL_zero (us : List U) (y : Nat) : rowL us y 0 = [] := by simp [rowL]
theorem rowL_next (us : List U) (y x : Nat) : rowL us y (x + 1) = rowL us y x ++ spotL us x y us.length := by
  unfold rowL
  rw [List.range_succ, List.flatMap_append]
  simp
theorem rowsL_zero (us : List U) : rowsL us 0 = [] := by simp [rowsL]
theorem rowsL_next (us : List U) (y : Nat) : rowsL us (y + 1) = rowsL us y ++ rowL us y 12 := by
  unfold rowsL
  rw [List.range_succ, List.flatMap_append]
  simp

theorem seenR_spot (us : List U) (u : U) : (seenR us u).x = u.x ∧ (seenR us u).y = u.y := by
  unfold seenR
  split <;> exact ⟨rfl, rfl⟩
theorem mem_spotL {us : List U} {x y : Nat} {s : Sn} (h : s ∈ spotL us x y us.length) : s.x = (x : Int) ∧ s.y = (y : Int) := by
  unfold spotL at h
  obtain ⟨u, hu, rfl⟩ := List.mem_map.1 h
  have h1 := (List.mem_filter.1 hu).2
  have h2 := of_decide_eq_true h1
  have h3 := seenR_spot us u
  omega
theorem mem_rowL {us : List U} {x y : Nat} {s : Sn} (h : s ∈ rowL us y x) : 0 ≤ s.x ∧ s.x < (x : Int) ∧ s.y = (y : Int) := by
  unfold rowL at h
  obtain ⟨i, hi, hs⟩ := List.mem_flatMap.1 h
  have h1 := List.mem_range.1 hi
  have h2 := mem_spotL hs
  omega
theorem mem_rowsL {us : List U} {y : Nat} {s : Sn} (h : s ∈ rowsL us y) : 0 ≤ s.y ∧ s.y < (y : Int) := by
  unfold rowsL at h
  obtain ⟨i, hi, hs⟩ := List.mem_flatMap.1 h
  have h1 := List.mem_range.1 hi
  have h2 := mem_rowL hs
  omega
/-- At most one stands at a place. -/
theorem spotL_pairwise {us : List U} (hp : apartU us) (x y : Nat) : (spotL us x y us.length).Pairwise (fun a b => ltSn b a = false) := by
  unfold spotL
  rw [List.take_length]
  unfold apartU at hp
  rw [List.nodup_iff_pairwise_ne, List.pairwise_map] at hp
  rw [List.pairwise_map]
  refine List.Pairwise.imp_of_mem ?_ (hp.filter (atSpot x y))
  intro a b ha hb hne
  exfalso
  apply hne
  have h1 := of_decide_eq_true (List.mem_filter.1 ha).2
  have h2 := of_decide_eq_true (List.mem_filter.1 hb).2
  unfold spot
  rw [h1.1, h1.2, h2.1, h2.2]
theorem rowL_pairwise {us : List U} (hp : apartU us) (y x : Nat) : (rowL us y x).Pairwise (fun a b => ltSn b a = false) := by
  induction x with
  | zero => rw [rowL_zero]; exact List.Pairwise.nil
  | succ x ih =>
    rw [rowL_next, List.pairwise_append]
    refine ⟨ih, spotL_pairwise hp x y, fun a ha b hb => ?_⟩
    have h1 := mem_rowL ha
    have h2 := mem_spotL hb
    rw [ltSn_not]
    omega
theorem rowsL_pairwise {us : List U} (hp : apartU us) (y : Nat) : (rowsL us y).Pairwise (fun a b => ltSn b a = false) := by
  induction y with
  | zero => rw [rowsL_zero]; exact List.Pairwise.nil
  | succ y ih =>
    rw [rowsL_next, List.pairwise_append]
    refine ⟨ih, rowL_pairwise hp y 12, fun a ha b hb => ?_⟩
    have h1 := mem_rowsL ha
    have h2 := mem_rowL hb
    rw [ltSn_not]
    omega

/-- How often one stands in the view. -/
theorem count_spotL (us vs : List U) (x y : Nat) (s : Sn) : ((vs.filter (atSpot x y)).map (seenR us)).count s = if s.x = (x : Int) ∧ s.y = (y : Int) then (vs.map (seenR us)).count s else 0 := by
  induction vs with
  | nil => simp
  | cons v vs ih =>
    have hv := seenR_spot us v
    rw [List.map_cons, List.count_cons]
    by_cases h : atSpot x y v = true
    · rw [List.filter_cons_of_pos h, List.map_cons, List.count_cons, ih]
      have h1 := of_decide_eq_true h
      by_cases e : seenR us v = s
      · have : s.x = (x : Int) ∧ s.y = (y : Int) := by rw [← e]; omega
        simp [e, this]
      · have : (seenR us v == s) = false := by simpa using e
        rw [this]
        simp
    · rw [List.filter_cons_of_neg h, ih]
      have h1 : ¬ (v.x = (x : Int) ∧ v.y = (y : Int)) := fun hh => h (decide_eq_true hh)
      by_cases e : seenR us v = s
      · have : ¬ (s.x = (x : Int) ∧ s.y = (y : Int)) := by rw [← e]; omega
        simp [this]
      · have : (seenR us v == s) = false := by simpa using e
        rw [this]
        simp
theorem count_rowL (us : List U) (y x : Nat) (s : Sn) : (rowL us y x).count s = if s.y = (y : Int) ∧ 0 ≤ s.x ∧ s.x < (x : Int) then (us.map (seenR us)).count s else 0 := by
  induction x with
  | zero => rw [rowL_zero, if_neg (by omega)]; rfl
  | succ x ih =>
    rw [rowL_next, List.count_append, ih]
    have h := count_spotL us us x y s
    unfold spotL
    rw [List.take_length, h]
    by_cases h1 : s.y = (y : Int) ∧ 0 ≤ s.x ∧ s.x < (x : Int)
    · rw [if_pos h1, if_neg (by omega), if_pos (by omega)]; rfl
    · rw [if_neg h1]
      by_cases h2 : s.x = (x : Int) ∧ s.y = (y : Int)
      · rw [if_pos h2, if_pos (by omega)]; omega
      · rw [if_neg h2, if_neg (by omega)]
theorem count_rowsL (us : List U) (y : Nat) (s : Sn) : (rowsL us y).count s = if 0 ≤ s.y ∧ s.y < (y : Int) ∧ 0 ≤ s.x ∧ s.x < 12 then (us.map (seenR us)).count s else 0 := by
  induction y with
  | zero => rw [rowsL_zero, if_neg (by omega)]; rfl
  | succ y ih =>
    rw [rowsL_next, List.count_append, ih, count_rowL]
    by_cases h1 : 0 ≤ s.y ∧ s.y < (y : Int) ∧ 0 ≤ s.x ∧ s.x < 12
    · rw [if_pos h1, if_neg (by omega), if_pos (by omega)]; rfl
    · rw [if_neg h1]
      by_cases h2 : s.y = (y : Int) ∧ 0 ≤ s.x ∧ s.x < ((12 : Nat) : Int)
      · rw [if_pos h2, if_pos (by omega)]; omega
      · rw [if_neg h2, if_neg (by omega)]
theorem viewL_perm {us : List U} (hon : ∀ u ∈ us, onB u.x u.y = true) : (viewL us).Perm (us.map (seenR us)) := by
  rw [List.perm_iff_count]
  intro s
  unfold viewL
  rw [count_rowsL]
  split
  · rfl
  · next h =>
    symm
    rw [List.count_eq_zero]
    intro hs
    obtain ⟨u, hu, rfl⟩ := List.mem_map.1 hs
    have h1 := (onB_iff _ _).1 (hon u hu)
    have h2 := seenR_spot us u
    omega
/-- What the program tells of one is what the document tells. -/
theorem places_find (us : List U) (hs : byId us) : ∀ k, k ≤ us.length → ∀ id, placesF (us.take k) id = match findU (us.take k) id with | some u => some (u.x, u.y) | none => if id = 0 then some (-1, -1) else none := by
  intro k
  induction k with
  | zero => intro _ id; simp [placesF, findU]
  | succ k ih =>
    intro hk id
    rw [places_succ us k (by omega) _ rfl, find_take hs (by omega) rfl, ih (by omega)]
    by_cases e : id = (us.getD k zeroU).id
    · rw [if_pos e, if_pos e.symm]
    · rw [if_neg e, if_neg (show ¬ (us.getD k zeroU).id = id from fun h => e h.symm)]
theorem seen_same {g : G} (hg : Right g) {u : U} (hu : u ∈ g.us) : seenF g.us u = seenR g.us u := by
  have hp := places_find g.us hg.sorted g.us.length (Nat.le_refl _) u.target
  rw [List.take_length] at hp
  unfold seenF seenR
  rw [hp]
  rcases (aims_iff _ _ _).1 (hg.aims u hu) with h | ⟨t, h2, -⟩
  · rw [if_neg (show ¬ (0 < u.target ∧ 0 ≤ ixOf g.us u.target) by omega)]
    have hn : findU g.us u.target = none := by
      rw [find_none_iff]
      intro v hv
      have := (hg.ok hv).id1
      omega
    rw [hn, h]
    rfl
  · rw [h2]
    have hm := find_some h2
    have hid := (hg.ok hm.1).id1
    rcases ix_find g.us u.target with ⟨-, h4⟩ | ⟨k, v, h3, h4, h5, h6, -⟩
    · rw [h4] at h2; cases h2
    · rw [h6] at h2
      cases h2
      rw [h3, if_pos (show 0 < u.target ∧ 0 ≤ ((k : Nat) : Int) by omega)]
      simp only [Int.toNat_natCast, h5]
      rfl
theorem seen_map {g : G} (hg : Right g) : g.us.map (seenF g.us) = g.us.map (seenR g.us) := List.map_congr_left (fun _ hu => seen_same hg hu)
/-- **What is sorted is the document's view.** -/
theorem view_eq {g : G} (hg : Right g) {ys : List Sn} (hp : ys.Perm (g.us.map (seenF g.us))) (hs : ys.Pairwise (fun a b => ltSn b a = false)) : ys = viewL g.us := by
  rw [seen_map hg] at hp
  have hv := viewL_perm (us := g.us) (fun u hu => (hg.ok hu).on)
  refine List.Perm.eq_of_pairwise (le := fun a b => ltSn b a = false) ?_ hs (rowsL_pairwise hg.apart 12) (hp.trans hv.symm)
  intro a b ha hb h1 h2
  have ha' := hp.mem_iff.1 ha
  have hb' := hv.mem_iff.1 hb
  obtain ⟨u, hu, rfl⟩ := List.mem_map.1 ha'
  obtain ⟨v, hv, rfl⟩ := List.mem_map.1 hb'
  rw [ltSn_not] at h1 h2
  have e1 := seenR_spot g.us u
  have e2 := seenR_spot g.us v
  have hx : u.x = v.x := by omega
  have hy : u.y = v.y := by omega
  have hap := hg.apart
  unfold apartU at hap
  rw [List.nodup_iff_pairwise_ne, List.pairwise_map] at hap
  have : u = v := by
    apply Decidable.byContradiction
    intro hne
    obtain ⟨i, hi, rfl⟩ := List.mem_iff_getElem.1 hu
    obtain ⟨j, hj, rfl⟩ := List.mem_iff_getElem.1 hv
    rw [List.pairwise_iff_getElem] at hap
    rcases Nat.lt_trichotomy i j with h | h | h
    · exact hap i j hi hj h (by unfold spot; rw [hx, hy])
    · subst h; exact hne rfl
    · exact hap j i hj hi h (by unfold spot; rw [hx, hy])
  rw [this]
end Go.Proofs.Ytlfljlhppigejab
