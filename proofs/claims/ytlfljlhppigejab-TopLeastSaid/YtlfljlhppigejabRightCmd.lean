/-
  A state that is right stays so, whatever is commanded or ordered. No program in sight.
-/
import Derived.Test.YtlfljlhppigejabRightPure
namespace Go.Proofs.Ytlfljlhppigejab

structure OneOk (n : Bool) (tick : Int) (u : U) : Prop where
  rule : isRule n u.kind = true
  id1 : 1 ≤ u.id
  idT : u.id ≤ topOf n
  on : onB u.x u.y = true
  hp1 : 1 ≤ u.hp
  hpT : u.hp ≤ if u.kind = 4 then 100 else (ruleOf n u.kind).hp
  does0 : 0 ≤ u.does
  does3 : u.does ≤ 3
  tgt0 : 0 ≤ u.target
  tgtT : u.target ≤ topOf n
  since : n = true → 0 ≤ u.since ∧ u.since ≤ tick
  own0 : 0 ≤ u.owner
  own2 : u.owner ≤ 2
  mine : u.owner = 2 ↔ u.kind = 4
  going : u.does = 1 → onB u.gx u.gy = true ∧ (ruleOf n u.kind).speed ≠ 0
  still : u.does ≠ 1 → u.gx = 0 ∧ u.gy = 0
  aim : 1 < u.does ↔ 0 < u.target
theorem one_iff (n : Bool) (tick : Int) (u : U) : oneFault n tick u = 0 ↔ OneOk n tick u := by
  constructor
  · intro h
    unfold oneFault at h
    by_cases h1 : isRule n u.kind = false ∨ u.id < 1 ∨ topOf n < u.id ∨ onB u.x u.y = false ∨ u.hp < 1 ∨ (if u.kind = 4 then 100 else (ruleOf n u.kind).hp) < u.hp ∨ u.does < 0 ∨ 3 < u.does ∨ u.target < 0 ∨ topOf n < u.target ∨ (n = true ∧ (u.since < 0 ∨ tick < u.since))
    · rw [if_pos h1] at h; cases h
    · rw [if_neg h1] at h
      by_cases h2 : u.owner < 0 ∨ 2 < u.owner ∨ ¬ (u.owner = 2 ↔ u.kind = 4)
      · rw [if_pos h2] at h; cases h
      · rw [if_neg h2] at h
        by_cases h3 : (u.does = 1 ∧ (onB u.gx u.gy = false ∨ (ruleOf n u.kind).speed = 0)) ∨ (¬ u.does = 1 ∧ (u.gx ≠ 0 ∨ u.gy ≠ 0)) ∨ ¬ (1 < u.does ↔ 0 < u.target)
        · rw [if_pos h3] at h; cases h
        · simp only [not_or] at h1 h2 h3
          obtain ⟨a1, a2, a3, a4, a5, a6, a7, a8, a9, a10, a11⟩ := h1
          obtain ⟨b1, b2, b3⟩ := h2
          obtain ⟨c1, c2, c3⟩ := h3
          refine ⟨by simpa using a1, by omega, by omega, by simpa using a4, by omega, by omega, by omega, by omega, by omega, by omega, ?_, by omega, by omega, Decidable.not_not.1 b3, ?_, ?_, Decidable.not_not.1 c3⟩
          · intro hn
            have : ¬ (u.since < 0 ∨ tick < u.since) := fun x => a11 ⟨hn, x⟩
            omega
          · intro hd
            have : ¬ (onB u.gx u.gy = false ∨ (ruleOf n u.kind).speed = 0) := fun x => c1 ⟨hd, x⟩
            simp only [not_or, Bool.not_eq_false] at this
            exact this
          · intro hd
            have : ¬ (u.gx ≠ 0 ∨ u.gy ≠ 0) := fun x => c2 ⟨hd, x⟩
            omega
  · intro h
    unfold oneFault
    rw [if_neg, if_neg, if_neg]
    · rintro (⟨h1, h2 | h2⟩ | ⟨h1, h2⟩ | h1)
      · have := (h.going h1).1; rw [h2] at this; cases this
      · exact (h.going h1).2 h2
      · have := h.still h1; omega
      · exact h1 h.aim
    · rintro (h1 | h1 | h1)
      · have := h.own0; omega
      · have := h.own2; omega
      · exact h1 h.mine
    · have := h.id1; have := h.idT; have := h.hp1; have := h.hpT; have := h.does0; have := h.does3; have := h.tgt0; have := h.tgtT
      rintro (h1 | h1 | h1 | h1 | h1 | h1 | h1 | h1 | h1 | h1 | ⟨h1, h2⟩)
      · have := h.rule; rw [h1] at this; cases this
      · omega
      · omega
      · have := h.on; rw [h1] at this; cases this
      all_goals first | omega | (have := h.since h1; omega)

theorem ids_map {us : List U} {f : U → U} (hf : ∀ u ∈ us, (f u).id = u.id) : idsOf (us.map f) = idsOf us := by
  unfold idsOf
  rw [List.map_map]
  exact List.map_congr_left fun u hu => hf u hu
theorem freeOk_ids {next : Int} {free : List Int} {us vs : List U} (h : idsOf us = idsOf vs) : freeOk next free us = freeOk next free vs := by
  have hl : us.length = vs.length := by simpa [idsOf] using congrArg List.length h
  have ha : ∀ id, (us.any fun u => u.id == id) = (vs.any fun u => u.id == id) := by
    intro id
    have h1 := hasId_iff us id
    have h2 := hasId_iff vs id
    rw [h] at h1
    unfold hasId at h1 h2
    rw [Bool.eq_iff_iff, h1, h2]
  unfold freeOk
  rw [hl]
  simp only [ha]

theorem mayDo_congr {n : Bool} {u v t s : U} (h1 : u.kind = v.kind) (h2 : u.owner = v.owner) (h3 : t.kind = s.kind) (h4 : t.owner = s.owner) : mayDo n u t = mayDo n v s := by
  unfold mayDo; rw [h1, h2, h3, h4]
theorem may_range (n : Bool) (u t : U) : mayDo n u t = 0 ∨ mayDo n u t = 2 ∨ mayDo n u t = 3 := by
  unfold mayDo
  split
  · omega
  · split <;> omega

theorem Right.map {g : G} (hg : Right g) {f : U → U} (hid : ∀ u ∈ g.us, (f u).id = u.id ∧ (f u).kind = u.kind ∧ (f u).owner = u.owner ∧ spot (f u) = spot u)
    (h1 : ∀ u ∈ g.us, oneFault g.new g.tick (f u) = 0) (ha : ∀ u ∈ g.us, (f u).target = 0 ∨ ∃ t, findU g.us (f u).target = some t ∧ mayDo g.new u t = (f u).does) : Right { g with us := g.us.map f } := by
  have hi : ∀ u ∈ g.us, (f u).id = u.id := fun u hu => (hid u hu).1
  refine ⟨hg.head, by simpa using hg.few, ?_, ?_, byId_map hi hg.sorted, ?_, ?_, ?_, hg.unfree⟩
  · intro u hu
    obtain ⟨v, hv, rfl⟩ := List.mem_map.1 hu
    exact h1 v hv
  · intro u hu
    obtain ⟨v, hv, rfl⟩ := List.mem_map.1 hu
    show (f v).id < _
    rw [hi v hv]
    exact hg.below v hv
  · show apartU (g.us.map f)
    unfold apartU
    rw [List.map_map, List.map_congr_left (g := spot)]
    · exact hg.apart
    · intro u hu
      exact (hid u hu).2.2.2
  · intro u hu
    obtain ⟨v, hv, rfl⟩ := List.mem_map.1 hu
    show aimsOk g.new (g.us.map f) (f v) = true
    rw [aims_iff]
    rcases ha v hv with h | ⟨t, h2, h3⟩
    · exact Or.inl h
    · right
      refine ⟨f t, by rw [find_map hi, h2]; rfl, ?_⟩
      have ht := hid t (find_some h2).1
      have hv' := hid v hv
      rw [← h3]
      exact mayDo_congr hv'.2.1 hv'.2.2.1 ht.2.1 ht.2.2.1
  · intro hn
    show freeOk g.next g.free (g.us.map f) = true
    rw [freeOk_ids (ids_map hi)]
    exact hg.free hn

theorem Right.ok {g : G} (hg : Right g) {u : U} (hu : u ∈ g.us) : OneOk g.new g.tick u := (one_iff _ _ _).1 (hg.one u hu)
theorem tell_ok {n : Bool} {tick : Int} {u : U} (h : OneOk n tick u) {d x y t : Int} (h0 : 0 ≤ d) (h3 : d ≤ 3) (t0 : 0 ≤ t) (tT : t ≤ topOf n) (hg : d = 1 → onB x y = true ∧ (ruleOf n u.kind).speed ≠ 0) (hs : d ≠ 1 → x = 0 ∧ y = 0) (ha : 1 < d ↔ 0 < t) :
    OneOk n tick (tellU u d x y t) :=
  ⟨h.rule, h.id1, h.idT, h.on, h.hp1, h.hpT, h0, h3, t0, tT, h.since, h.own0, h.own2, h.mine, hg, hs, ha⟩
/-- One is told something else. -/
theorem Right.tell {g : G} (hg : Right g) {i : Nat} {u : U} (hi : g.us[i]? = some u) {d x y t : Int} (h0 : 0 ≤ d) (h3 : d ≤ 3) (t0 : 0 ≤ t) (tT : t ≤ topOf g.new) (hgo : d = 1 → onB x y = true ∧ (ruleOf g.new u.kind).speed ≠ 0) (hs : d ≠ 1 → x = 0 ∧ y = 0) (ha : 1 < d ↔ 0 < t)
    (haim : t = 0 ∨ ∃ v, findU g.us t = some v ∧ mayDo g.new u v = d) : Right { g with us := g.us.set i (tellU u d x y t) } := by
  have hu : u ∈ g.us := List.mem_of_getElem? hi
  rw [set_eq hg.sorted hi]
  refine hg.map (f := fun v => if v.id = u.id then tellU u d x y t else v) ?_ ?_ ?_
  · intro v hv
    by_cases e : v.id = u.id
    · rw [if_pos e, byId_inj hg.sorted hv hu e]
      exact ⟨rfl, rfl, rfl, rfl⟩
    · rw [if_neg e]
      exact ⟨rfl, rfl, rfl, rfl⟩
  · intro v hv
    by_cases e : v.id = u.id
    · rw [if_pos e, one_iff]
      exact tell_ok (hg.ok hu) h0 h3 t0 tT hgo hs ha
    · rw [if_neg e]
      exact hg.one v hv
  · intro v hv
    by_cases e : v.id = u.id
    · rw [if_pos e, byId_inj hg.sorted hv hu e]
      exact haim
    · rw [if_neg e]
      exact (aims_iff _ _ _).1 (hg.aims v hv)
theorem Right.same {g : G} (hg : Right g) : Right { g with us := g.us } := hg
theorem right_goes {g : G} (hg : Right g) {i : Nat} {u : U} (hi : g.us[i]? = some u) (x y : Int) : Right { g with us := goesF g.new g.us i x y } := by
  have hd : g.us.getD i zeroU = u := by simp [List.getD, hi]
  unfold goesF
  rw [hd]
  split
  · rename_i h
    refine hg.tell hi (by omega) (by omega) (by omega) ?_ ?_ ?_ (by omega) (Or.inl rfl)
    · unfold topOf; split <;> omega
    · intro _; exact ⟨h.1, by omega⟩
    · intro h'; exact absurd rfl h'
  · exact hg
theorem right_aims {g : G} (hg : Right g) {i : Nat} {u : U} (hi : g.us[i]? = some u) (t d : Int) : Right { g with us := aimsF g.new g.us i t d } := by
  have hd : g.us.getD i zeroU = u := by simp [List.getD, hi]
  unfold aimsF
  rw [hd]
  rcases ix_find g.us t with ⟨h1, h2⟩ | ⟨k, v, h1, h2, h3, h4, h5⟩
  · rw [if_neg (by omega)]
    exact hg
  · rw [h1]
    simp only [Int.toNat_natCast, h3]
    split
    · rename_i h
      obtain ⟨hv, hvi⟩ := find_some h4
      have hvo := hg.ok hv
      have := hvo.id1
      have := hvo.idT
      have hr := may_range g.new u v
      refine hg.tell hi (by omega) (by omega) (by omega) (by omega) ?_ ?_ ?_ (Or.inr ⟨v, h4, h.2.2⟩)
      · intro h'; omega
      · intro _; exact ⟨rfl, rfl⟩
      · constructor <;> intro _ <;> omega
    · exact hg
theorem right_stop {g : G} (hg : Right g) {i : Nat} {u : U} (hi : g.us[i]? = some u) : Right { g with us := g.us.set i (tellU u 0 0 0 0) } := by
  refine hg.tell hi (by omega) (by omega) (by omega) ?_ (fun h => by cases h) (fun _ => ⟨rfl, rfl⟩) (by omega) (Or.inl rfl)
  unfold topOf; split <;> omega

/-! ### One more -/
theorem takew_all {us : List U} {p : U → Bool} {v : U} (h : v ∈ us.takeWhile p) : p v = true := by
  induction us with
  | nil => cases h
  | cons w us ih =>
    rw [List.takeWhile_cons] at h
    split at h
    · rcases List.mem_cons.1 h with rfl | e
      · assumption
      · exact ih e
    · cases h
theorem ins_split {us : List U} {u : U} (hs : byId us) (hn : ∀ v ∈ us, v.id ≠ u.id) : ∃ a b, us = a ++ b ∧ insU us u = a ++ u :: b ∧ (∀ v ∈ a, v.id < u.id) ∧ ∀ v ∈ b, u.id < v.id := by
  refine ⟨us.takeWhile (fun v => decide (v.id ≤ u.id)), us.dropWhile (fun v => decide (v.id ≤ u.id)), List.takeWhile_append_dropWhile.symm, rfl, ?_, ?_⟩
  · intro v hv
    have h1 := takew_all hv
    have h2 := hn v (List.IsPrefix.mem hv (List.takeWhile_prefix _))
    simp at h1
    omega
  · intro v hv
    induction us with
    | nil => cases hv
    | cons w us ih =>
      rw [List.dropWhile_cons] at hv
      split at hv
      · exact ih (List.Pairwise.of_cons hs) (fun v hv => hn v (by simp [hv])) hv
      · rename_i h
        simp at h
        rcases List.mem_cons.1 hv with rfl | e
        · exact h
        · have := List.rel_of_pairwise_cons hs e
          omega
theorem mem_ins {us : List U} {u : U} (hs : byId us) (hn : ∀ v ∈ us, v.id ≠ u.id) (v : U) : v ∈ insU us u ↔ v = u ∨ v ∈ us := by
  obtain ⟨a, b, h1, h2, -, -⟩ := ins_split hs hn
  rw [h2, h1]
  simp only [List.mem_append, List.mem_cons]
  constructor
  · rintro (h | h | h)
    · exact Or.inr (Or.inl h)
    · exact Or.inl h
    · exact Or.inr (Or.inr h)
  · rintro (h | h | h)
    · exact Or.inr (Or.inl h)
    · exact Or.inl h
    · exact Or.inr (Or.inr h)
theorem byId_ins {us : List U} {u : U} (hs : byId us) (hn : ∀ v ∈ us, v.id ≠ u.id) : byId (insU us u) := by
  obtain ⟨a, b, h1, h2, h3, h4⟩ := ins_split hs hn
  rw [h2]
  rw [h1] at hs
  unfold byId at *
  rw [List.pairwise_append] at hs ⊢
  obtain ⟨p1, p2, p3⟩ := hs
  refine ⟨p1, List.pairwise_cons.2 ⟨h4, p2⟩, ?_⟩
  intro x hx y hy
  rcases List.mem_cons.1 hy with rfl | e
  · exact h3 x hx
  · exact p3 x hx y e
theorem perm_ins {us : List U} {u : U} : (insU us u).Perm (u :: us) := by
  unfold insU
  refine List.perm_middle.trans ?_
  rw [List.takeWhile_append_dropWhile]
theorem ids_ins {us : List U} {u : U} : (idsOf (insU us u)).Perm (u.id :: idsOf us) := by
  unfold idsOf
  exact perm_ins.map _
theorem length_ins {us : List U} {u : U} : (insU us u).length = us.length + 1 := by
  rw [perm_ins.length_eq]; rfl

theorem newId_fresh {g : G} (hg : Right g) (hc : g.free ≠ [] ∨ g.next ≤ topOf g.new) (hnf : g.new = true → g.free = []) : 1 ≤ newId g ∧ newId g ≤ topOf g.new ∧ (∀ v ∈ g.us, v.id ≠ newId g) ∧ newId g < (if g.free = [] then g.next + 1 else g.next) := by
  have hh := hg.head
  unfold headBad at hh
  unfold newId
  cases hl : g.free.getLast? with
  | none =>
    rw [List.getLast?_eq_none_iff] at hl
    rw [if_pos hl]
    dsimp only
    refine ⟨by omega, ?_, ?_, by omega⟩
    · rcases hc with h | h
      · exact absurd hl h
      · exact h
    · intro v hv
      have := hg.below v hv
      omega
  | some x =>
    have hne : g.free ≠ [] := by intro e; rw [e] at hl; cases hl
    rw [if_neg hne]
    dsimp only
    have hx : x ∈ g.free := List.mem_of_getLast? hl
    have hold : g.new = false := by
      cases hn : g.new
      · rfl
      · exact absurd (hnf hn) hne
    have hf := (freeOk_iff (byId_iff.1 hg.sorted) (by omega)).1 (hg.free hold)
    have hb : 1 ≤ x ∧ x < g.next := by
      apply Decidable.not_not.1
      intro hb
      have := tally_out _ (g.next - 1).toNat x (List.mem_append.2 (Or.inr hx) : x ∈ idsOf g.us ++ g.free) (by omega)
      rw [tally_ones _ _ hf.1, hf.2] at this
      omega
    refine ⟨hb.1, by omega, ?_, hb.2⟩
    intro v hv e
    have h1 := hf.1 (x - 1).toNat (by omega)
    rw [show (((x - 1).toNat : Nat) : Int) + 1 = x from by omega, List.count_append] at h1
    have h2 := List.count_pos_iff.2 hx
    have h3 : 0 < (idsOf g.us).count x := List.count_pos_iff.2 (by rw [← e]; exact List.mem_map.2 ⟨v, hv, rfl⟩)
    omega

theorem free_built {g : G} (hg : Right g) (hold : g.new = false) {u : U} (hu : u.id = newId g) (hnew : ∀ v ∈ g.us, v.id ≠ u.id) :
    freeOk (if g.free = [] then g.next + 1 else g.next) g.free.dropLast (insU g.us u) = true := by
  have hh := hg.head
  unfold headBad at hh
  have hf := (freeOk_iff (byId_iff.1 hg.sorted) (by omega)).1 (hg.free hold)
  have hs2 := byId_ins hg.sorted hnew
  have hperm : (idsOf (insU g.us u) ++ g.free.dropLast).Perm (u.id :: (idsOf g.us ++ g.free.dropLast)) := by
    have := (ids_ins (us := g.us) (u := u)).append_right g.free.dropLast
    simpa using this
  by_cases he : g.free = []
  · rw [if_pos he, freeOk_iff (byId_iff.1 hs2) (by omega)]
    have hid : u.id = g.next := by rw [hu]; unfold newId; rw [he]; rfl
    rw [he] at hf hperm ⊢
    simp only [List.dropLast_nil, List.append_nil] at hf hperm ⊢
    constructor
    · intro i hi
      rw [hperm.count_eq, List.count_cons]
      by_cases hlast : i < (g.next - 1).toNat
      · rw [hf.1 i hlast, if_neg]
        simp; omega
      · have hi' : (i : Int) + 1 = g.next := by omega
        rw [hi', hid]
        simp only [beq_self_eq_true, if_true]
        have : (idsOf g.us).count g.next = 0 := by
          rw [List.count_eq_zero]
          intro hm
          obtain ⟨v, hv, e⟩ := List.mem_map.1 hm
          exact hnew v hv (by rw [hid]; exact e)
        omega
    · rw [hperm.length_eq, List.length_cons, hf.2]
      omega
  · rw [if_neg he, freeOk_iff (byId_iff.1 hs2) (by omega)]
    have hid : u.id = g.free.getLast he := by rw [hu]; unfold newId; rw [List.getLast?_eq_some_getLast he]
    have hsplit : g.free.dropLast ++ [g.free.getLast he] = g.free := List.dropLast_concat_getLast he
    have hp2 : (u.id :: (idsOf g.us ++ g.free.dropLast)).Perm (idsOf g.us ++ g.free) := by
      rw [hid]
      conv => rhs; rw [← hsplit, ← List.append_assoc]
      exact (List.perm_append_comm (l₁ := [g.free.getLast he]))
    have hp3 := hperm.trans hp2
    refine ⟨fun i hi => ?_, ?_⟩
    · rw [hp3.count_eq]; exact hf.1 i hi
    · rw [hp3.length_eq]; exact hf.2

theorem right_builds {g : G} (hg : Right g) {i : Nat} {u : U} (hi : g.us[i]? = some u) {kind x y : Int} (hc : canBuild g i kind x y) (hnf : g.new = true → g.free = []) : Right (built g i kind x y) := by
  have hd : g.us.getD i zeroU = u := by simp [List.getD, hi]
  obtain ⟨c1, c2, c3, c4, c5, c6, c7, c8, c9⟩ := hc
  rw [hd] at c3 c6 c7
  obtain ⟨f1, f2, f3, f4⟩ := newId_fresh hg c9 hnf
  have hu := hg.ok (List.mem_of_getElem? hi)
  have hh := hg.head
  unfold headBad at hh
  have hbu : (builtU g i kind x y).id = newId g := rfl
  have hnew : ∀ v ∈ g.us, v.id ≠ (builtU g i kind x y).id := f3
  have hmine := hu.mine
  have ho0 := hu.own0
  have ho2 := hu.own2
  have hrb := ruleOf_bd g.new kind
  have hhp := ruleOf_hp g.new kind c1 c2
  have hpay : (pay g u.owner (ruleOf g.new kind).cost).new = g.new ∧ (pay g u.owner (ruleOf g.new kind).cost).tick = g.tick ∧ 0 ≤ (pay g u.owner (ruleOf g.new kind).cost).g0 ∧ (pay g u.owner (ruleOf g.new kind).cost).g0 ≤ richOf g.new ∧ 0 ≤ (pay g u.owner (ruleOf g.new kind).cost).g1 ∧ (pay g u.owner (ruleOf g.new kind).cost).g1 ≤ richOf g.new := by
    unfold goldOf at c7
    unfold pay
    by_cases h0 : u.owner = 0
    · rw [if_pos h0] at c7 ⊢; dsimp only; exact ⟨rfl, rfl, by omega, by omega, by omega, by omega⟩
    · rw [if_neg h0] at c7 ⊢; dsimp only; exact ⟨rfl, rfl, by omega, by omega, by omega, by omega⟩
  obtain ⟨p1, p2, p3, p4, p5, p6⟩ := hpay
  have hok : OneOk g.new g.tick (builtU g i kind x y) := by
    unfold builtU
    rw [hd]
    refine ⟨c1, f1, f2, c4, by show 1 ≤ (ruleOf g.new kind).hp; omega, ?_, by show (0 : Int) ≤ 0; omega, by show (0 : Int) ≤ 3; omega, by show (0 : Int) ≤ 0; omega, ?_, ?_, ho0, ho2, ?_, ?_, ?_, by show (1 : Int) < 0 ↔ (0 : Int) < 0; omega⟩
    · show (ruleOf g.new kind).hp ≤ if kind = 4 then 100 else (ruleOf g.new kind).hp
      rw [if_neg c2]; omega
    · show (0 : Int) ≤ topOf g.new
      unfold topOf; split <;> omega
    · intro hn
      show 0 ≤ (if g.new = true then g.tick else 0) ∧ (if g.new = true then g.tick else 0) ≤ g.tick
      rw [if_pos hn]; omega
    · show u.owner = 2 ↔ kind = 4
      constructor
      · intro h; have := hmine.1 h; omega
      · intro h; exact absurd h c2
    · intro h; cases h
    · intro _; exact ⟨rfl, rfl⟩
  have hsize : (insU g.us (builtU g i kind x y)).length ≤ 20 := by rw [length_ins]; have := hg.few; omega
  unfold built
  rw [hd]
  refine ⟨?_, hsize, ?_, ?_, byId_ins hg.sorted hnew, ?_, ?_, ?_, ?_⟩
  · unfold headBad
    show ¬ ((pay g u.owner (ruleOf g.new kind).cost).tick < 0 ∨ 60 < (pay g u.owner (ruleOf g.new kind).cost).tick ∨ (if g.free = [] then g.next + 1 else g.next) < 1 ∨ topOf (pay g u.owner (ruleOf g.new kind).cost).new + 1 < (if g.free = [] then g.next + 1 else g.next) ∨ (pay g u.owner (ruleOf g.new kind).cost).g0 < 0 ∨ richOf (pay g u.owner (ruleOf g.new kind).cost).new < (pay g u.owner (ruleOf g.new kind).cost).g0 ∨ (pay g u.owner (ruleOf g.new kind).cost).g1 < 0 ∨ richOf (pay g u.owner (ruleOf g.new kind).cost).new < (pay g u.owner (ruleOf g.new kind).cost).g1)
    rw [p1, p2]
    by_cases he : g.free = []
    · rw [if_pos he]
      have : g.next ≤ topOf g.new := c9.resolve_left (fun h => h he)
      omega
    · rw [if_neg he]; omega
  · intro v hv
    show oneFault (pay g u.owner (ruleOf g.new kind).cost).new (pay g u.owner (ruleOf g.new kind).cost).tick v = 0
    rw [p1, p2]
    rcases (mem_ins hg.sorted hnew v).1 hv with rfl | h
    · exact (one_iff _ _ _).2 hok
    · exact hg.one v h
  · intro v hv
    show v.id < (if g.free = [] then g.next + 1 else g.next)
    rcases (mem_ins hg.sorted hnew v).1 hv with rfl | h
    · exact f4
    · have := hg.below v h
      split <;> omega
  · show apartU (insU g.us (builtU g i kind x y))
    unfold apartU
    rw [(perm_ins.map spot).nodup_iff, List.map_cons, List.nodup_cons]
    refine ⟨?_, hg.apart⟩
    intro h
    have := (stands_iff g.us x y).2 h
    rw [c5] at this
    cases this
  · intro v hv
    show aimsOk (pay g u.owner (ruleOf g.new kind).cost).new (insU g.us (builtU g i kind x y)) v = true
    rw [p1, aims_iff]
    rcases (mem_ins hg.sorted hnew v).1 hv with rfl | h
    · exact Or.inl rfl
    · rcases (aims_iff _ _ _).1 (hg.aims v h) with h' | ⟨t, h2, h3⟩
      · exact Or.inl h'
      · right
        obtain ⟨q1, q2⟩ := find_some h2
        refine ⟨t, ?_, h3⟩
        rw [← q2]
        exact find_mem (byId_ins hg.sorted hnew) ((mem_ins hg.sorted hnew t).2 (Or.inr q1))
  · intro hn
    have hold : g.new = false := by rw [← p1]; exact hn
    exact free_built hg hold hbu hnew
  · show g.free.dropLast.length ≤ 200
    rw [List.length_dropLast]
    have := hg.unfree
    omega
theorem built_new (g : G) (i : Nat) (kind x y : Int) : (built g i kind x y).new = g.new ∧ (built g i kind x y).tick = g.tick := by
  unfold built pay
  split <;> exact ⟨rfl, rfl⟩
theorem built_free (g : G) (i : Nat) (kind x y : Int) (h : g.free = []) : (built g i kind x y).free = [] := by
  unfold built
  show g.free.dropLast = []
  rw [h]; rfl

/-- A game that goes on: right; of the newer one nothing is free. -/
structure Going (g0 : G) (s : GB) : Prop where
  right : Right s.1
  new : s.1.new = g0.new
  tick : s.1.tick = g0.tick
  nofree : s.1.new = true → s.1.free = []
theorem Going.us {g0 : G} {s : GB} (h : Going g0 s) {us : List U} (hr : Right { s.1 with us := us }) : Going g0 (withUs s us) := ⟨hr, h.new, h.tick, h.nofree⟩
theorem Going.builds {g0 : G} {s : GB} (h : Going g0 s) {i : Nat} {u : U} (hi : s.1.us[i]? = some u) (kind x y : Int) : Going g0 (buildsF s i kind x y) := by
  unfold buildsF
  split
  · rename_i hc
    obtain ⟨b1, b2⟩ := built_new s.1 i kind x y
    refine ⟨right_builds h.right hi hc h.nofree, b1.trans h.new, b2.trans h.tick, ?_⟩
    intro hn
    exact built_free _ _ _ _ _ (h.nofree (by rw [← b1]; exact hn))
  · exact h
theorem at_ix {us : List U} {id : Int} (h : ¬ ixOf us id < 0) : ∃ u, us[(ixOf us id).toNat]? = some u ∧ us.getD (ixOf us id).toNat zeroU = u ∧ u.id = id := by
  rcases ix_find us id with ⟨h1, -⟩ | ⟨k, u, h1, h2, h3, h4, h5⟩
  · exact absurd h1 h
  · rw [h1]
    exact ⟨u, by simpa using h5, by simpa using h3, (find_some h4).2⟩
theorem Going.cmd {g0 : G} {s : GB} (h : Going g0 s) (c : Cm) : Going g0 (cmdF s c) := by
  unfold cmdF
  by_cases h0 : ixOf s.1.us c.id < 0 ∨ (s.1.us.getD (ixOf s.1.us c.id).toNat zeroU).owner ≠ c.player
  · rw [if_pos h0]; exact h
  rw [if_neg h0]
  obtain ⟨u, hu, hd, -⟩ := at_ix (us := s.1.us) (id := c.id) (fun x => h0 (Or.inl x))
  split
  · exact h.us (right_goes h.right hu _ _)
  split
  · exact h.us (right_aims h.right hu _ _)
  split
  · exact h.us (right_aims h.right hu _ _)
  split
  · exact h.builds hu _ _ _
  split
  · rw [hd]; exact h.us (right_stop h.right hu)
  · exact h
theorem Going.ord {g0 : G} {s : GB} (h : Going g0 s) (c : Cm) : Going g0 (ordF s c) := by
  unfold ordF
  by_cases h0 : ixOf s.1.us c.id < 0 ∨ (s.1.us.getD (ixOf s.1.us c.id).toNat zeroU).owner ≠ c.player
  · rw [if_pos h0]; exact h
  rw [if_neg h0]
  obtain ⟨u, hu, hd, -⟩ := at_ix (us := s.1.us) (id := c.id) (fun x => h0 (Or.inl x))
  split
  · exact h.us (right_goes h.right hu _ _)
  split
  · split
    · exact h
    · exact h.us (right_aims h.right hu _ _)
  split
  · exact h.builds hu _ _ _
  split
  · rw [hd]; exact h.us (right_stop h.right hu)
  · exact h
theorem Going.cmds {g0 : G} (l : List Cm) : ∀ {s : GB}, Going g0 s → Going g0 (l.foldl cmdF s) := by
  induction l with
  | nil => intro s h; exact h
  | cons c l ih => intro s h; exact ih (h.cmd c)
theorem Going.ords {g0 : G} (l : List Cm) : ∀ {s : GB}, Going g0 s → Going g0 (l.foldl ordF s) := by
  induction l with
  | nil => intro s h; exact h
  | cons c l ih => intro s h; exact ih (h.ord c)
end Go.Proofs.Ytlfljlhppigejab
