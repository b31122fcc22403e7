/-
  Plain laws on which IDs are free. No program in sight.
-/
import Derived.Test.YtlfljlhppigejabCheckPure
namespace Go.Proofs.Ytlfljlhppigejab

/-- How often the numbers 1 to N come, all told. -/
def tally (L : List Int) : Nat → Nat
  | 0 => 0
  | N + 1 => tally L N + L.count ((N : Int) + 1)
theorem tally_nil (N : Nat) : tally [] N = 0 := by
  induction N with
  | zero => rfl
  | succ N ih => simp [tally, ih]
theorem tally_cons (x : Int) (L : List Int) (N : Nat) : tally (x :: L) N = tally L N + if 1 ≤ x ∧ x ≤ N then 1 else 0 := by
  induction N with
  | zero => simp only [tally]; rw [if_neg (by omega)]
  | succ N ih =>
    simp only [tally, ih, List.count_cons]
    by_cases h : x = (N : Int) + 1
    · rw [if_neg (by omega), if_pos (by simp [h]), if_pos (by omega)]; omega
    · by_cases h2 : 1 ≤ x ∧ x ≤ N
      · rw [if_pos h2, if_neg (by simp [h]), if_pos (by omega)]; omega
      · rw [if_neg h2, if_neg (by simp [h]), if_neg (by omega)]; omega
theorem tally_le (L : List Int) (N : Nat) : tally L N ≤ L.length := by
  induction L with
  | nil => simp [tally_nil]
  | cons x L ih => rw [tally_cons, List.length_cons]; split <;> omega
theorem tally_in (L : List Int) (N : Nat) (h : ∀ x ∈ L, 1 ≤ x ∧ x ≤ N) : tally L N = L.length := by
  induction L with
  | nil => simp [tally_nil]
  | cons x L ih => rw [tally_cons, if_pos (h x (by simp)), ih (fun y hy => h y (by simp [hy])), List.length_cons]
theorem tally_out (L : List Int) (N : Nat) (x : Int) (hx : x ∈ L) (h : ¬ (1 ≤ x ∧ x ≤ N)) : tally L N < L.length := by
  induction L with
  | nil => cases hx
  | cons y L ih =>
    rw [tally_cons, List.length_cons]
    rcases List.mem_cons.1 hx with e | e
    · subst e; rw [if_neg h]; have := tally_le L N; omega
    · have := ih e; split <;> omega
theorem tally_ones (L : List Int) (N : Nat) (h : ∀ i, i < N → L.count ((i : Int) + 1) = 1) : tally L N = N := by
  induction N with
  | zero => rfl
  | succ N ih => simp only [tally]; rw [ih (fun i hi => h i (by omega)), h N (by omega)]
theorem tally_most (L : List Int) (N : Nat) (h : ∀ i, i < N → L.count ((i : Int) + 1) ≤ 1) : tally L N ≤ N := by
  induction N with
  | zero => simp [tally]
  | succ N ih => simp only [tally]; have := ih (fun i hi => h i (by omega)); have := h N (by omega); omega
theorem tally_full (L : List Int) (N : Nat) (h : ∀ i, i < N → L.count ((i : Int) + 1) ≤ 1) (ht : tally L N = N) : ∀ i, i < N → L.count ((i : Int) + 1) = 1 := by
  induction N with
  | zero => intro i hi; omega
  | succ N ih =>
    simp only [tally] at ht
    have h1 := tally_most L N (fun i hi => h i (by omega))
    have h2 := h N (by omega)
    intro i hi
    by_cases e : i = N
    · subst e; omega
    · exact ih (fun i hi => h i (by omega)) (by omega) i (by omega)

def idsOf (us : List U) : List Int := us.map U.id
theorem ids_nodup {us : List U} (h : sortedU us) : (idsOf us).Nodup := by
  unfold idsOf
  rw [List.nodup_iff_pairwise_ne, List.pairwise_iff_getElem]
  intro i j hi hj hij
  simp only [List.length_map] at hi hj
  have := h i j hij hj
  rw [getD_lt hi, getD_lt hj] at this
  simp only [List.getElem_map]
  omega
theorem hasId_iff (us : List U) (id : Int) : hasId us id = true ↔ id ∈ idsOf us := by
  unfold hasId idsOf
  simp [List.any_eq_true, List.mem_map]
theorem count_ids {us : List U} (h : sortedU us) (id : Int) : (idsOf us).count id = if hasId us id then 1 else 0 := by
  rw [(ids_nodup h).count]
  simp only [← hasId_iff]
theorem freeOk_iff {next : Int} {free : List Int} {us : List U} (hs : sortedU us) (hn : 1 ≤ next) :
    freeOk next free us = true ↔ (∀ i, i < (next - 1).toNat → (idsOf us ++ free).count ((i : Int) + 1) = 1) ∧ (idsOf us ++ free).length = (next - 1).toNat := by
  unfold freeOk
  simp only [Bool.and_eq_true, List.all_eq_true, List.mem_range, decide_eq_true_eq, List.count_append, List.length_append]
  constructor
  · rintro ⟨h1, h2⟩
    refine ⟨fun i hi => ?_, ?_⟩
    · have h3 := h1 i hi
      rw [count_ids hs]
      unfold hasId
      omega
    · simp only [idsOf, List.length_map]; omega
  · rintro ⟨h1, h2⟩
    refine ⟨fun i hi => ?_, ?_⟩
    · have h3 := h1 i hi
      rw [count_ids hs] at h3
      unfold hasId at h3
      omega
    · simp only [idsOf, List.length_map] at h2; omega

/-- k of the free ones on: each is a number below next that nobody has, none comes twice. -/
def freeUpTo (next : Int) (free : List Int) (us : List U) (k : Nat) : Prop := (∀ x ∈ free.take k, 1 ≤ x ∧ x < next) ∧ (idsOf us ++ free.take k).Nodup
theorem freeUpTo_zero (next : Int) (free : List Int) {us : List U} (hs : sortedU us) : freeUpTo next free us 0 :=
  ⟨by simp, by simpa using ids_nodup hs⟩
theorem takeI_at {l : List Int} {k : Nat} (hk : k < l.length) : l.take (k + 1) = l.take k ++ [l.getD k 0] := by
  rw [List.take_succ_eq_append_getElem hk]; simp [List.getD, hk]
def takenId (free : List Int) (us : List U) (k : Nat) (id : Int) : Bool := hasId us id || (free.take k).contains id
theorem taken_iff (free : List Int) (us : List U) (k : Nat) (id : Int) : takenId free us k id = true ↔ id ∈ idsOf us ++ free.take k := by
  unfold takenId
  rw [Bool.or_eq_true, hasId_iff, List.mem_append]
  simp
theorem taken_next {free : List Int} {us : List U} {k : Nat} (hk : k < free.length) {x : Int} (hx : free.getD k 0 = x) (id : Int) : takenId free us (k + 1) id = (takenId free us k id || id == x) := by
  unfold takenId
  rw [takeI_at hk, hx, Bool.or_assoc]
  congr 1
  rw [Bool.eq_iff_iff]
  simp
theorem freeUpTo_next {next : Int} {free : List Int} {us : List U} {k : Nat} (h : freeUpTo next free us k) (hk : k < free.length) {x : Int} (hx : free.getD k 0 = x) (h1 : 1 ≤ x) (h2 : x < next) (h3 : takenId free us k x = false) : freeUpTo next free us (k + 1) := by
  refine ⟨?_, ?_⟩
  · rw [takeI_at hk, hx]
    intro y hy
    rcases List.mem_append.1 hy with e | e
    · exact h.1 y e
    · obtain rfl : y = x := by simpa using e
      exact ⟨h1, h2⟩
  · rw [takeI_at hk, hx, ← List.append_assoc, List.nodup_append]
    refine ⟨h.2, by simp, ?_⟩
    intro a ha b hb
    obtain rfl : b = x := by simpa using hb
    intro e
    subst e
    have := (taken_iff free us k a).2 ha
    rw [h3] at this
    cases this
theorem free_bad_range {next : Int} {free : List Int} {us : List U} (hs : sortedU us) (hn : 1 ≤ next) {k : Nat} (hk : k < free.length) {x : Int} (hx : free.getD k 0 = x) (hb : x < 1 ∨ next ≤ x) : freeOk next free us = false := by
  rw [Bool.eq_false_iff]
  intro h
  obtain ⟨h1, h2⟩ := (freeOk_iff hs hn).1 h
  have hmem : x ∈ idsOf us ++ free := by
    rw [List.mem_append]
    right
    rw [← hx]
    simp [List.getD, hk]
  have := tally_out _ (next - 1).toNat x hmem (by omega)
  rw [tally_ones _ _ h1] at this
  omega
theorem free_bad_twice {next : Int} {free : List Int} {us : List U} (hs : sortedU us) (hn : 1 ≤ next) {k : Nat} (hk : k < free.length) {x : Int} (hx : free.getD k 0 = x) (ha : 1 ≤ x) (hb : x < next) (ht : takenId free us k x = true) : freeOk next free us = false := by
  rw [Bool.eq_false_iff]
  intro h
  obtain ⟨h1, h2⟩ := (freeOk_iff hs hn).1 h
  have h3 := h1 (x - 1).toNat (by omega)
  rw [show (((x - 1).toNat : Nat) : Int) + 1 = x from by omega] at h3
  have h4 : (idsOf us ++ free) = (idsOf us ++ free.take k) ++ (x :: free.drop (k + 1)) := by
    rw [List.append_assoc]
    congr 1
    have : free.drop k = x :: free.drop (k + 1) := by
      rw [List.drop_eq_getElem_cons hk, ← hx]; simp [List.getD, hk]
    rw [← this, List.take_append_drop]
  rw [h4, List.count_append, List.count_cons] at h3
  have h5 := List.count_pos_iff.2 ((taken_iff free us k x).1 ht)
  simp only [beq_self_eq_true, if_true] at h3
  omega
theorem free_bad_len {next : Int} {free : List Int} {us : List U} (hs : sortedU us) (hn : 1 ≤ next) (hl : ((us.length + free.length : Nat) : Int) ≠ next - 1) : freeOk next free us = false := by
  rw [Bool.eq_false_iff]
  intro h
  obtain ⟨-, h2⟩ := (freeOk_iff hs hn).1 h
  simp only [idsOf, List.length_append, List.length_map] at h2
  omega
theorem free_good {next : Int} {free : List Int} {us : List U} (hs : sortedU us) (hr : ∀ j, j < us.length → 1 ≤ (us.getD j zeroU).id ∧ (us.getD j zeroU).id < next) (hn : 1 ≤ next) (h : freeUpTo next free us free.length)
    (hl : ((us.length + free.length : Nat) : Int) = next - 1) : freeOk next free us = true := by
  rw [freeOk_iff hs hn]
  have hlen : (idsOf us ++ free).length = (next - 1).toNat := by
    simp only [idsOf, List.length_append, List.length_map]; omega
  refine ⟨?_, hlen⟩
  obtain ⟨h1, h2⟩ := h
  rw [List.take_length] at h1 h2
  apply tally_full
  · intro i _
    rw [h2.count]
    split <;> omega
  · rw [tally_in, hlen]
    intro x hx
    rcases List.mem_append.1 hx with e | e
    · unfold idsOf at e
      obtain ⟨u, hu, rfl⟩ := List.mem_map.1 e
      obtain ⟨j, hj, rfl⟩ := List.mem_iff_getElem.1 hu
      have := hr j hj
      rw [getD_lt hj] at this
      omega
    · have := h1 x e
      omega
end Go.Proofs.Ytlfljlhppigejab
