/-
  What a state that is right is like, limb by limb; who has an ID. No program in sight.
-/
import Derived.Test.YtlfljlhppigejabStepPure
import Derived.Test.YtlfljlhppigejabFreePure
namespace Go.Proofs.Ytlfljlhppigejab

/-- Who has an ID. -/
def findU (us : List U) (id : Int) : Option U := us.find? fun u => u.id == id
def byId (us : List U) : Prop := us.Pairwise fun a b => a.id < b.id
theorem byId_iff {us : List U} : byId us ↔ sortedU us := by
  unfold byId sortedU
  rw [List.pairwise_iff_getElem]
  constructor
  · intro h i j hij hj
    rw [getD_lt hj, getD_lt (by omega)]
    exact h i j (by omega) hj hij
  · intro h i j hi hj hij
    have := h i j hij hj
    rwa [getD_lt hj, getD_lt hi] at this
theorem find_none_iff {us : List U} {id : Int} : findU us id = none ↔ ∀ u ∈ us, u.id ≠ id := by
  unfold findU
  rw [List.find?_eq_none]
  simp
theorem find_some {us : List U} {id : Int} {u : U} (h : findU us id = some u) : u ∈ us ∧ u.id = id := by
  unfold findU at h
  exact ⟨List.mem_of_find?_eq_some h, by simpa using List.find?_some h⟩
theorem byId_inj {us : List U} (hs : byId us) {u v : U} (hu : u ∈ us) (hv : v ∈ us) (h : u.id = v.id) : u = v := by
  obtain ⟨i, hi, rfl⟩ := List.mem_iff_getElem.1 hu
  obtain ⟨j, hj, rfl⟩ := List.mem_iff_getElem.1 hv
  unfold byId at hs
  rw [List.pairwise_iff_getElem] at hs
  rcases Nat.lt_trichotomy i j with e | e | e
  · have := hs i j hi hj e; omega
  · cases e; rfl
  · have := hs j i hj hi e; omega
theorem find_mem {us : List U} (hs : byId us) {u : U} (hu : u ∈ us) : findU us u.id = some u := by
  cases h : findU us u.id with
  | none => exact absurd rfl (find_none_iff.1 h u hu)
  | some v =>
    obtain ⟨h1, h2⟩ := find_some h
    rw [byId_inj hs h1 hu h2]
/-- The index, and who stands there. -/
theorem ix_find (us : List U) (id : Int) : (ixOf us id < 0 ∧ findU us id = none) ∨ (∃ (k : Nat) (u : U), ixOf us id = k ∧ k < us.length ∧ us.getD k zeroU = u ∧ findU us id = some u ∧ us[k]? = some u) := by
  unfold ixOf whoIx findU
  cases h : us.findIdx? (fun u => u.id == id) with
  | none =>
    left
    refine ⟨by simp, ?_⟩
    rw [List.findIdx?_eq_none_iff] at h
    rw [List.find?_eq_none]
    intro u hu
    simp [h u hu]
  | some k =>
    right
    obtain ⟨h1, h2, h3⟩ := List.findIdx?_eq_some_iff_getElem.1 h
    refine ⟨k, us[k], rfl, h1, getD_lt h1, ?_, List.getElem?_eq_getElem h1⟩
    rw [List.find?_eq_some_iff_getElem]
    exact ⟨h2, k, h1, rfl, fun j hj => by simpa using h3 j hj⟩
theorem find_map {us : List U} {f : U → U} (hf : ∀ u ∈ us, (f u).id = u.id) (id : Int) : findU (us.map f) id = (findU us id).map f := by
  unfold findU
  induction us with
  | nil => rfl
  | cons u us ih =>
    have h1 := hf u (by simp)
    have h2 := ih (fun v hv => hf v (by simp [hv]))
    simp only [List.map_cons, List.find?_cons, h1]
    cases hh : (u.id == id)
    · simpa using h2
    · rfl
theorem byId_map {us : List U} {f : U → U} (hf : ∀ u ∈ us, (f u).id = u.id) (hs : byId us) : byId (us.map f) := by
  unfold byId at *
  rw [List.pairwise_map]
  exact hs.imp_of_mem fun {a b} ha hb h => by rw [hf a ha, hf b hb]; exact h
theorem byId_filter {us : List U} (p : U → Bool) (hs : byId us) : byId (us.filter p) := by
  unfold byId at *
  exact hs.filter p
theorem find_filter {us : List U} (hs : byId us) (p : U → Bool) (id : Int) : findU (us.filter p) id = (findU us id).filter p := by
  cases h : findU us id with
  | none =>
    rw [find_none_iff] at h
    simp only [Option.filter_none]
    rw [find_none_iff]
    intro u hu
    exact h u (List.mem_filter.1 hu).1
  | some u =>
    obtain ⟨h1, rfl⟩ := find_some h
    cases hp : p u with
    | true =>
      simp only [Option.filter_some, hp, if_true]
      exact find_mem (byId_filter p hs) (List.mem_filter.2 ⟨h1, hp⟩)
    | false =>
      simp only [Option.filter_some, hp]
      simp only [Bool.false_eq_true, if_false]
      rw [find_none_iff]
      intro v hv e
      obtain ⟨h3, h4⟩ := List.mem_filter.1 hv
      rw [byId_inj hs h3 h1 e, hp] at h4
      cases h4
/-- One is set anew, by its ID. -/
def setId (us : List U) (id : Int) (f : U → U) : List U := us.map fun v => if v.id = id then f v else v
theorem set_eq {us : List U} (hs : byId us) {i : Nat} {u : U} (h : us[i]? = some u) (v : U) : us.set i v = setId us u.id (fun _ => v) := by
  obtain ⟨hi, he⟩ := List.getElem?_eq_some_iff.1 h
  unfold setId
  apply List.ext_getElem
  · simp
  · intro j h1 h2
    simp only [List.length_set] at h1
    rw [List.getElem_map, List.getElem_set]
    by_cases hij : i = j
    · subst hij
      rw [if_pos rfl, if_pos (by rw [he])]
    · rw [if_neg hij, if_neg]
      intro e
      unfold byId at hs
      rw [List.pairwise_iff_getElem] at hs
      have e' : us[j].id = us[i].id := by rw [he]; exact e
      rcases Nat.lt_or_gt_of_ne hij with c | c
      · have := hs i j hi h1 c; omega
      · have := hs j i h1 hi c; omega

/-- Where one stands. -/
def spot (u : U) : Int × Int := (u.x, u.y)
def apartU (us : List U) : Prop := (us.map spot).Nodup
theorem stands_iff (us : List U) (x y : Int) : standsAt us x y = true ↔ (x, y) ∈ us.map spot := by
  unfold standsAt spot
  simp [List.any_eq_true, List.mem_map]

theorem aims_iff (n : Bool) (us : List U) (u : U) : aimsOk n us u = true ↔ u.target = 0 ∨ ∃ t, findU us u.target = some t ∧ mayDo n u t = u.does := by
  unfold aimsOk
  rw [decide_eq_true_eq]
  rcases ix_find us u.target with ⟨h1, h2⟩ | ⟨k, t, h1, h2, h3, h4, -⟩
  · rw [h2]
    constructor
    · rintro (h | h)
      · exact Or.inl h
      · omega
    · rintro (h | ⟨t, h, -⟩)
      · exact Or.inl h
      · cases h
  · rw [h1, h4]
    simp only [Int.toNat_natCast, h3, Option.some.injEq, exists_eq_left']
    constructor
    · rintro (h | h)
      · exact Or.inl h
      · exact Or.inr h.2
    · rintro (h | h)
      · exact Or.inl h
      · exact Or.inr ⟨by omega, h⟩

/-- A state that is right. -/
structure Right (g : G) : Prop where
  head : ¬ headBad g
  few : g.us.length ≤ 20
  one : ∀ u ∈ g.us, oneFault g.new g.tick u = 0
  below : ∀ u ∈ g.us, u.id < g.next
  sorted : byId g.us
  apart : apartU g.us
  aims : ∀ u ∈ g.us, aimsOk g.new g.us u = true
  free : g.new = false → freeOk g.next g.free g.us = true
  unfree : g.free.length ≤ 200

theorem each_iff (n : Bool) (tick next : Int) (l : List U) : ∀ (before : List U), byId before → apartU before →
    (eachFault n tick next before l = 0 ↔ (∀ u ∈ l, oneFault n tick u = 0 ∧ u.id < next) ∧ byId (before ++ l) ∧ apartU (before ++ l)) := by
  induction l with
  | nil => intro before h1 h2; simp [eachFault, h1, h2]
  | cons u l ih =>
    intro before h1 h2
    unfold eachFault
    by_cases hf : oneFault n tick u ≠ 0
    · rw [if_pos hf]
      constructor
      · intro h; exact absurd h hf
      · intro h; exact absurd (h.1 u (by simp)).1 hf
    · rw [if_neg hf]
      by_cases hm : next ≤ u.id ∨ (∃ p, before.getLast? = some p ∧ u.id ≤ p.id) ∨ standsAt before u.x u.y = true
      · rw [if_pos hm]
        constructor
        · intro h; cases h
        · rintro ⟨a1, a2, a3⟩
          exfalso
          rcases hm with hm | ⟨p, hp, hle⟩ | hst
          · have := (a1 u (by simp)).2; omega
          · have hpm : p ∈ before := List.mem_of_getLast? hp
            unfold byId at a2
            rw [List.pairwise_append] at a2
            have := a2.2.2 p hpm u (by simp)
            omega
          · rw [stands_iff] at hst
            unfold apartU at a3
            rw [List.map_append, List.nodup_append] at a3
            exact a3.2.2 _ hst (u.x, u.y) (by simp [spot]) rfl
      · rw [if_neg hm]
        have hb : byId (before ++ [u]) := by
          unfold byId
          rw [List.pairwise_append]
          refine ⟨h1, by simp, ?_⟩
          intro a ha b hb
          obtain rfl : b = u := by simpa using hb
          cases hl : before.getLast? with
          | none => rw [List.getLast?_eq_none_iff] at hl; subst hl; cases ha
          | some p =>
            have hlt : p.id < b.id := by
              apply Int.not_le.1
              intro hx
              exact hm (Or.inr (Or.inl ⟨p, hl, hx⟩))
            obtain ⟨ini, rfl⟩ := List.getLast?_eq_some_iff.1 hl
            rcases List.mem_append.1 ha with e | e
            · unfold byId at h1
              rw [List.pairwise_append] at h1
              have := h1.2.2 a e p (by simp)
              omega
            · obtain rfl : a = p := by simpa using e
              exact hlt
        have ha : apartU (before ++ [u]) := by
          unfold apartU
          rw [List.map_append, List.nodup_append]
          refine ⟨h2, by simp, ?_⟩
          intro a ha b hb e
          subst e
          obtain rfl : a = spot u := by simpa using hb
          exact hm (Or.inr (Or.inr ((stands_iff _ _ _).2 ha)))
        rw [ih (before ++ [u]) hb ha, List.append_assoc, List.singleton_append]
        constructor
        · rintro ⟨a1, a2, a3⟩
          refine ⟨?_, a2, a3⟩
          intro v hv
          rcases List.mem_cons.1 hv with rfl | e
          · refine ⟨by omega, ?_⟩
            apply Int.not_le.1
            exact fun hx => hm (Or.inl hx)
          · exact a1 v e
        · rintro ⟨a1, a2, a3⟩
          exact ⟨fun v hv => a1 v (by simp [hv]), a2, a3⟩

theorem right_iff (g : G) : faultOf g = 0 ↔ Right g := by
  by_cases hh : headBad g
  · rw [fault_head hh]
    constructor
    · intro h; cases h
    · intro h; exact absurd hh h.head
  · by_cases hm : 20 < g.us.length ∨ 200 < g.free.length
    · rw [fault_many hh hm]
      constructor
      · intro h; cases h
      · intro h; have := h.few; have := h.unfree; omega
    · rw [fault_rest hh hm]
      have he := each_iff g.new g.tick g.next g.us [] (by simp [byId]) (by simp [apartU])
      simp only [List.nil_append] at he
      by_cases h1 : eachFault g.new g.tick g.next [] g.us ≠ 0
      · rw [if_pos h1]
        constructor
        · intro h; exact absurd h h1
        · intro h; exact absurd (he.2 ⟨fun u hu => ⟨h.one u hu, h.below u hu⟩, h.sorted, h.apart⟩) h1
      · rw [if_neg h1]
        obtain ⟨b1, b2, b3⟩ := he.1 (by omega)
        by_cases h2 : g.us.all (aimsOk g.new g.us) = false
        · rw [if_pos h2]
          constructor
          · intro h; cases h
          · intro h
            have : g.us.all (aimsOk g.new g.us) = true := List.all_eq_true.2 h.aims
            rw [this] at h2
            cases h2
        · rw [if_neg h2]
          have h2' : ∀ u ∈ g.us, aimsOk g.new g.us u = true := List.all_eq_true.1 (by simpa using h2)
          by_cases h3 : g.new = false ∧ freeOk g.next g.free g.us = false
          · rw [if_pos h3]
            constructor
            · intro h; cases h
            · intro h
              have := h.free h3.1
              rw [h3.2] at this
              cases this
          · rw [if_neg h3]
            refine ⟨fun _ => ⟨hh, by omega, fun u hu => (b1 u hu).1, fun u hu => (b1 u hu).2, b2, b3, h2', ?_, by omega⟩, fun _ => rfl⟩
            intro hn
            cases h4 : freeOk g.next g.free g.us
            · exact absurd ⟨hn, h4⟩ h3
            · rfl
end Go.Proofs.Ytlfljlhppigejab
