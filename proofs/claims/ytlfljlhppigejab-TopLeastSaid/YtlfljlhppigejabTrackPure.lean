/-
  Who was there and who came, through a tick's commands and its end. No program in sight.
-/
import Derived.Test.YtlfljlhppigejabRightEnd
namespace Go.Proofs.Ytlfljlhppigejab

/-- One as it was, but for what it does. -/
structure Kept (u v : U) : Prop where
  same : SameU u v
  at_ : spot v = spot u
  hp : v.hp = u.hp
theorem Kept.refl (u : U) : Kept u u := ⟨SameU.rfl' u, rfl, rfl⟩
theorem Kept.trans {u v w : U} (h : Kept u v) (k : Kept v w) : Kept u w :=
  ⟨⟨k.same.id.trans h.same.id, k.same.owner.trans h.same.owner, k.same.kind.trans h.same.kind, k.same.since.trans h.same.since⟩, k.at_.trans h.at_, k.hp.trans h.hp⟩

/-- s goes on from g. -/
structure Track (g : G) (s : GB) : Prop where
  going : Going g s
  kept : ∀ u ∈ g.us, ∃ v ∈ s.1.us, Kept u v
  here : ∀ v ∈ s.1.us, (v.id ∈ s.2 ∧ v.since = (if g.new then g.tick else 0) ∧ (g.new = true → g.next ≤ v.id) ∧ v.kind ≠ 4) ∨ ∃ u ∈ g.us, Kept u v
  fresh : ∀ i ∈ s.2, ∀ u ∈ g.us, u.id ≠ i
  many : s.1.us.length = g.us.length + s.2.length
  next : g.next ≤ s.1.next ∧ s.1.next ≤ g.next + s.2.length
  gold : s.1.g0 ≤ g.g0 ∧ s.1.g1 ≤ g.g1
theorem Track.start {g : G} (hg : Right g) (hf : g.new = true → g.free = []) : Track g (g, []) :=
  ⟨⟨hg, rfl, rfl, hf⟩, fun u hu => ⟨u, hu, Kept.refl u⟩, fun v hv => Or.inr ⟨v, hv, Kept.refl v⟩, fun i hi => (by cases hi), (by simp), (by simp), (by simp)⟩
theorem Track.set {g : G} {s : GB} (h : Track g s) {i : Nat} {u : U} (hi : s.1.us[i]? = some u) {d x y t : Int} (hr : Right { s.1 with us := s.1.us.set i (tellU u d x y t) }) : Track g (withUs s (s.1.us.set i (tellU u d x y t))) := by
  have hs := h.going.right.sorted
  have hu : u ∈ s.1.us := List.mem_of_getElem? hi
  have hk : Kept u (tellU u d x y t) := ⟨⟨rfl, rfl, rfl, rfl⟩, rfl, rfl⟩
  have hset := set_eq hs hi (tellU u d x y t)
  refine ⟨h.going.us hr, ?_, ?_, h.fresh, ?_, h.next, h.gold⟩
  · intro w hw
    obtain ⟨v, hv, k⟩ := h.kept w hw
    show ∃ z ∈ s.1.us.set i (tellU u d x y t), Kept w z
    rw [hset]
    by_cases e : v.id = u.id
    · have : v = u := byId_inj hs hv hu e
      subst this
      exact ⟨_, List.mem_map.2 ⟨v, hv, if_pos rfl⟩, k.trans hk⟩
    · exact ⟨v, List.mem_map.2 ⟨v, hv, if_neg e⟩, k⟩
  · intro z hz
    have hz' : z ∈ s.1.us.set i (tellU u d x y t) := hz
    rw [hset] at hz'
    obtain ⟨v, hv, rfl⟩ := List.mem_map.1 hz'
    by_cases e : v.id = u.id
    · have : v = u := byId_inj hs hv hu e
      subst this
      rw [if_pos rfl]
      rcases h.here v hv with h1 | ⟨w, hw, k⟩
      · exact Or.inl h1
      · exact Or.inr ⟨w, hw, k.trans hk⟩
    · rw [if_neg e]
      exact h.here v hv
  · show (s.1.us.set i (tellU u d x y t)).length = _
    rw [List.length_set]
    exact h.many
theorem Track.same {g : G} {s : GB} (h : Track g s) : Track g (withUs s s.1.us) := h
theorem Track.goes {g : G} {s : GB} (h : Track g s) {i : Nat} {u : U} (hi : s.1.us[i]? = some u) (x y : Int) : Track g (withUs s (goesF s.1.new s.1.us i x y)) := by
  have hd : s.1.us.getD i zeroU = u := by simp [List.getD, hi]
  have hr := right_goes h.going.right hi x y
  unfold goesF at hr ⊢
  rw [hd] at hr ⊢
  by_cases hc : onB x y = true ∧ 0 < (ruleOf s.1.new u.kind).speed
  · rw [if_pos hc] at hr ⊢; exact h.set hi hr
  · rw [if_neg hc]; exact h
theorem Track.aims {g : G} {s : GB} (h : Track g s) {i : Nat} {u : U} (hi : s.1.us[i]? = some u) (t d : Int) : Track g (withUs s (aimsF s.1.new s.1.us i t d)) := by
  have hd : s.1.us.getD i zeroU = u := by simp [List.getD, hi]
  have hr := right_aims h.going.right hi t d
  unfold aimsF at hr ⊢
  rw [hd] at hr ⊢
  by_cases hc : 0 ≤ ixOf s.1.us t ∧ 0 < d ∧ mayDo s.1.new u (s.1.us.getD (ixOf s.1.us t).toNat zeroU) = d
  · rw [if_pos hc] at hr ⊢; exact h.set hi hr
  · rw [if_neg hc]; exact h
theorem Track.builds {g : G} {s : GB} (h : Track g s) {i : Nat} {u : U} (hi : s.1.us[i]? = some u) (kind x y : Int) : Track g (buildsF s i kind x y) := by
  have hgo := h.going.builds hi kind x y
  unfold buildsF at hgo ⊢
  by_cases hc : canBuild s.1 i kind x y
  · rw [if_pos hc] at hgo ⊢
    have hd : s.1.us.getD i zeroU = u := by simp [List.getD, hi]
    obtain ⟨c1, c2, c3, c4, c5, c6, c7, c8, c9⟩ := hc
    obtain ⟨f1, f2, f3, f4⟩ := newId_fresh h.going.right c9 h.going.nofree
    have hnew : ∀ v ∈ s.1.us, v.id ≠ (builtU s.1 i kind x y).id := f3
    have hs := h.going.right.sorted
    have hrb := ruleOf_bd s.1.new kind
    refine ⟨hgo, ?_, ?_, ?_, ?_, ?_, ?_⟩
    · intro w hw
      obtain ⟨v, hv, k⟩ := h.kept w hw
      exact ⟨v, (mem_ins hs hnew v).2 (Or.inr hv), k⟩
    · intro v hv
      rcases (mem_ins hs hnew v).1 hv with rfl | hv
      · left
        refine ⟨by simp [builtU], ?_, ?_, c2⟩
        · show (if s.1.new then s.1.tick else 0) = _
          rw [h.going.new, h.going.tick]
        · intro hn
          show g.next ≤ newId s.1
          have hfr := h.going.nofree (by rw [h.going.new]; exact hn)
          unfold newId
          rw [hfr]
          exact h.next.1
      · rcases h.here v hv with ⟨h1, h2⟩ | h1
        · exact Or.inl ⟨List.mem_append.2 (Or.inl h1), h2⟩
        · exact Or.inr h1
    · intro j hj w hw
      rcases List.mem_append.1 hj with e | e
      · exact h.fresh j e w hw
      · obtain rfl : j = newId s.1 := by simpa using e
        obtain ⟨v, hv, k⟩ := h.kept w hw
        rw [← k.same.id]
        exact f3 v hv
    · show (insU s.1.us (builtU s.1 i kind x y)).length = _
      rw [length_ins, h.many]
      simp; omega
    · show g.next ≤ (if s.1.free = [] then s.1.next + 1 else s.1.next) ∧ (if s.1.free = [] then s.1.next + 1 else s.1.next) ≤ g.next + ((s.2 ++ [newId s.1]).length : Nat)
      have := h.next
      rw [List.length_append, List.length_singleton]
      split <;> omega
    · have hgold := h.gold
      show (pay s.1 (s.1.us.getD i zeroU).owner (ruleOf s.1.new kind).cost).g0 ≤ _ ∧ (pay s.1 (s.1.us.getD i zeroU).owner (ruleOf s.1.new kind).cost).g1 ≤ _
      unfold pay
      split
      · dsimp only; omega
      · dsimp only; omega
  · rw [if_neg hc]; exact h
theorem Track.cmd {g : G} {s : GB} (h : Track g s) (c : Cm) : Track g (cmdF s c) := by
  unfold cmdF
  by_cases h0 : ixOf s.1.us c.id < 0 ∨ (s.1.us.getD (ixOf s.1.us c.id).toNat zeroU).owner ≠ c.player
  · rw [if_pos h0]; exact h
  rw [if_neg h0]
  obtain ⟨u, hu, hd, -⟩ := at_ix (us := s.1.us) (id := c.id) (fun x => h0 (Or.inl x))
  split
  · exact h.goes hu _ _
  split
  · exact h.aims hu _ _
  split
  · exact h.aims hu _ _
  split
  · exact h.builds hu _ _ _
  split
  · rw [hd]; exact h.set hu (right_stop h.going.right hu)
  · exact h
theorem Track.ord {g : G} {s : GB} (h : Track g s) (c : Cm) : Track g (ordF s c) := by
  unfold ordF
  by_cases h0 : ixOf s.1.us c.id < 0 ∨ (s.1.us.getD (ixOf s.1.us c.id).toNat zeroU).owner ≠ c.player
  · rw [if_pos h0]; exact h
  rw [if_neg h0]
  obtain ⟨u, hu, hd, -⟩ := at_ix (us := s.1.us) (id := c.id) (fun x => h0 (Or.inl x))
  split
  · exact h.goes hu _ _
  split
  · split
    · exact h
    · exact h.aims hu _ _
  split
  · exact h.builds hu _ _ _
  split
  · rw [hd]; exact h.set hu (right_stop h.going.right hu)
  · exact h
theorem Track.cmds {g : G} (l : List Cm) : ∀ {s : GB}, Track g s → Track g (l.foldl cmdF s) := by
  induction l with
  | nil => intro s h; exact h
  | cons c l ih => intro s h; exact ih (h.cmd c)
theorem Track.ords {g : G} (l : List Cm) : ∀ {s : GB}, Track g s → Track g (l.foldl ordF s) := by
  induction l with
  | nil => intro s h; exact h
  | cons c l ih => intro s h; exact ih (h.ord c)
theorem ords_born (l : List Cm) : ∀ (s : GB), (l.foldl ordF s).2.length ≤ s.2.length + l.length := by
  induction l with
  | nil => intro s; simp
  | cons c l ih =>
    intro s
    have h1 := ih (ordF s c)
    have h2 : (ordF s c).2.length ≤ s.2.length + 1 := by
      unfold ordF withUs buildsF
      repeat' split
      all_goals simp
    simp only [List.foldl_cons, List.length_cons] at h1 ⊢
    omega

/-- One behind the end of a tick. -/
structure Ended (n : Bool) (old : List Int) (us : List U) (u v : U) : Prop where
  same : SameU u v
  hp : v.hp ≤ u.hp
  at_ : spot v = spot u ∨ ∃ p, movesTo n old us u p ∧ spot v = p
theorem end_mem {g : G} {old : List Int} {e : U} (he : e ∈ (endF g old).us) : ∃ u ∈ g.us, Ended g.new old g.us u e := by
  unfold endF at he
  dsimp only at he
  obtain ⟨w, hw, rfl⟩ := List.mem_map.1 he
  have hw2 := (List.mem_filter.1 hw).1
  obtain ⟨z, hz, rfl⟩ := List.mem_map.1 hw2
  obtain ⟨u, hu, rfl⟩ := List.mem_map.1 hz
  have hm := moved g.new old g.us u
  have hl := loss_nonneg g.new old (movesF g.new old g.us) (arriveF old (moveF g.new old g.us u)).id (movesF g.new old g.us)
  refine ⟨u, hu, ?_⟩
  rcases idle_cases (leftF (hurtF g.new old (movesF g.new old g.us))) { arriveF old (moveF g.new old g.us u) with hp := (arriveF old (moveF g.new old g.us u)).hp - lossF g.new old (movesF g.new old g.us) (arriveF old (moveF g.new old g.us u)).id (movesF g.new old g.us) } with ⟨h, -⟩ | ⟨-, -, h⟩
  all_goals
    rw [h]
    refine ⟨⟨hm.same.id, hm.same.owner, hm.same.kind, hm.same.since⟩, ?_, hm.at_⟩
    have := hm.hp
    first
      | (show (arriveF old (moveF g.new old g.us u)).hp - lossF g.new old (movesF g.new old g.us) (arriveF old (moveF g.new old g.us u)).id (movesF g.new old g.us) ≤ u.hp; omega)
theorem near1_far (x tx : Int) : farI x (near1 x tx) ≤ 1 := by
  unfold farI near1
  repeat' split
  all_goals omega
theorem far_le_one {x y tx ty : Int} (h1 : farI x tx ≤ 1) (h2 : farI y ty ≤ 1) : far x y tx ty ≤ 1 := by
  unfold far; split <;> assumption
theorem far_self (x y : Int) : far x y x y = 0 := (far_zero _ _ _ _).2 ⟨rfl, rfl⟩
theorem wish_near {n : Bool} {us : List U} {u : U} {p : Int × Int} (h : wishF n us u = some p) : far u.x u.y p.1 p.2 ≤ 1 := by
  unfold wishF at h
  split at h
  · cases h
  split at h
  · cases h
  cases h
  exact far_le_one (near1_far _ _) (near1_far _ _)
theorem ended_far {n : Bool} {old : List Int} {us : List U} {u v : U} (h : Ended n old us u v) : far u.x u.y v.x v.y ≤ 1 := by
  rcases h.at_ with e | ⟨p, hp, e⟩
  · have : (v.x, v.y) = (u.x, u.y) := e
    simp only [Prod.mk.injEq] at this
    rw [this.1, this.2, far_self]; omega
  · have := wish_near hp.1
    rw [← e] at this
    exact this
theorem ended_new {n : Bool} {old : List Int} {us : List U} {u v : U} (h : Ended n old us u v) (hn : old.contains u.id = false) : spot v = spot u := by
  rcases h.at_ with e | ⟨p, hp, -⟩
  · exact e
  · have := hp.2.1; rw [hn] at this; cases this

theorem end_length (g : G) (old : List Int) : (endF g old).us.length ≤ g.us.length := by
  unfold endF leftF
  dsimp only
  rw [List.length_map]
  refine Nat.le_trans (List.length_filter_le _ _) ?_
  unfold hurtF movesF
  simp

/-- What TopElder says. -/
structure ElderLaw (g x : G) (born : List Int) : Prop where
  right : faultOf x = 0
  tick : x.tick = g.tick + 1
  many : x.us.length ≤ g.us.length + born.length
  old : ∀ e ∈ x.us, ∀ o ∈ g.us, o.id = e.id → e.id ∉ born ∧ o.kind = e.kind ∧ o.owner = e.owner ∧ e.hp ≤ o.hp ∧ far o.x o.y e.x e.y ≤ 1
  here : ∀ e ∈ x.us, e.id ∈ born ∨ ∃ o ∈ g.us, o.id = e.id
theorem elder_law {g : G} (hn : g.new = false) {l : List Cm} (h : stepFault g l = 0) : ElderLaw g (stepE g l).1 (stepE g l).2 := by
  unfold stepFault at h
  by_cases hf : faultOf g ≠ 0
  · rw [if_pos hf] at h; exact absurd h hf
  rw [if_neg hf] at h
  have hg : Right g := (right_iff g).1 (by omega)
  have hh := hg.head
  unfold headBad at hh
  have ht : g.tick < 60 := by
    have : ¬ (8 < l.length ∨ g.tick = 60) := fun x => by rw [if_pos x] at h; cases h
    omega
  have T : Track g (l.foldl cmdF (g, [])) := (Track.start hg (fun h => by rw [hn] at h; cases h)).cmds l
  unfold stepE
  generalize l.foldl cmdF (g, []) = s at T
  have htk : s.1.tick = g.tick := T.going.tick
  refine ⟨(right_iff _).2 (right_end T.going.right _ (by omega)), by show s.1.tick + 1 = _; omega, ?_, ?_, ?_⟩
  · have := end_length s.1 (idList g.us)
    have := T.many
    dsimp only
    omega
  · intro e he o ho hid
    obtain ⟨v, hv, k⟩ := end_mem he
    obtain ⟨w, hw, kw⟩ := T.kept o ho
    have hvw : v = w := byId_inj T.going.right.sorted hv hw (by rw [← k.same.id, kw.same.id, hid])
    subst hvw
    refine ⟨fun hb => T.fresh _ hb o ho hid, by rw [k.same.kind, kw.same.kind], by rw [k.same.owner, kw.same.owner], ?_, ?_⟩
    · have := k.hp; have := kw.hp; omega
    · have h1 := ended_far k
      have h2 : (v.x, v.y) = (o.x, o.y) := kw.at_
      simp only [Prod.mk.injEq] at h2
      rw [h2.1, h2.2] at h1
      exact h1
  · intro e he
    obtain ⟨v, hv, k⟩ := end_mem he
    rcases T.here v hv with ⟨h1, -⟩ | ⟨u, hu, ku⟩
    · left; show e.id ∈ s.2; rw [k.same.id]; exact h1
    · right; exact ⟨u, hu, by rw [k.same.id, ku.same.id]⟩

/-- What TopNewer says. -/
structure NewerLaw (g x : G) (n : Nat) : Prop where
  right : faultOf x = 0
  tick : x.tick = g.tick + 1
  next : g.next ≤ x.next ∧ x.next ≤ g.next + n
  here : ∀ u ∈ x.us, (∃ o ∈ g.us, o.id = u.id ∧ o.kind = u.kind ∧ o.owner = u.owner ∧ o.since = u.since ∧ far o.x o.y u.x u.y ≤ 1) ∨ (g.next ≤ u.id ∧ u.since = g.tick)
  poor : (∀ u ∈ g.us, u.kind ≠ 4) → x.g0 + x.g1 ≤ g.g0 + g.g1
theorem gain_none (n : Bool) (old : List Int) (us : List U) (o : Int) (l : List U) : ∀ (g : Int), (∀ u ∈ l, u.does ≠ 3) → (∀ u ∈ l, strikes n old us u = true → u.does = 2 ∨ u.does = 3) → gainF n old us o l g = g := by
  induction l with
  | nil => intro g _ _; rfl
  | cons u l ih =>
    intro g h1 h2
    unfold gainF
    rw [if_neg, ih g (fun v hv => h1 v (by simp [hv])) (fun v hv => h2 v (by simp [hv]))]
    rintro ⟨a, b, -⟩
    have := h1 u (by simp)
    have := h2 u (by simp) a
    omega
theorem strike_does {n : Bool} {old : List Int} {us : List U} {u : U} (h : strikes n old us u = true) : u.does = 2 ∨ u.does = 3 := by
  unfold strikes nearF at h
  simp only [Bool.and_eq_true, decide_eq_true_eq] at h
  omega
theorem may_mine {n : Bool} {u t : U} (h : mayDo n u t = 3) : t.kind = 4 := by
  unfold mayDo at h
  split at h
  · rename_i hc; exact hc.1
  · split at h <;> omega
theorem newer_law {g : G} (hn : g.new = true) (hfree : g.free = []) {l : List Cm} (h : stepFault g l = 0) : NewerLaw g (stepN g l) l.length := by
  unfold stepFault at h
  by_cases hf : faultOf g ≠ 0
  · rw [if_pos hf] at h; exact absurd h hf
  rw [if_neg hf] at h
  have hg : Right g := (right_iff g).1 (by omega)
  have hh := hg.head
  unfold headBad at hh
  have ht : g.tick < 60 := by
    have : ¬ (8 < l.length ∨ g.tick = 60) := fun x => by rw [if_pos x] at h; cases h
    omega
  have T : Track g (l.foldl ordF (g, [])) := (Track.start hg (fun _ => hfree)).ords l
  have hb := ords_born l (g, [])
  unfold stepN
  generalize l.foldl ordF (g, []) = s at T hb
  have htk : s.1.tick = g.tick := T.going.tick
  refine ⟨(right_iff _).2 (right_end T.going.right _ (by omega)), by show s.1.tick + 1 = _; omega, ?_, ?_, ?_⟩
  · have := T.next
    simp only [List.length_nil, Nat.zero_add] at hb
    show g.next ≤ s.1.next ∧ s.1.next ≤ g.next + l.length
    omega
  · intro e he
    obtain ⟨v, hv, k⟩ := end_mem he
    rcases T.here v hv with ⟨h1, h2, h3, -⟩ | ⟨u, hu, ku⟩
    · right
      refine ⟨by rw [k.same.id]; exact h3 hn, ?_⟩
      rw [k.same.since, h2, if_pos hn]
    · left
      refine ⟨u, hu, by rw [k.same.id, ku.same.id], by rw [k.same.kind, ku.same.kind], by rw [k.same.owner, ku.same.owner], by rw [k.same.since, ku.same.since], ?_⟩
      have h1 := ended_far k
      have h2 : (v.x, v.y) = (u.x, u.y) := ku.at_
      simp only [Prod.mk.injEq] at h2
      rw [h2.1, h2.2] at h1
      exact h1
  · intro hm
    have hs : ∀ v ∈ s.1.us, v.kind ≠ 4 := by
      intro v hv
      rcases T.here v hv with ⟨-, -, -, h4⟩ | ⟨u, hu, ku⟩
      · exact h4
      · rw [ku.same.kind]; exact hm u hu
    have hR := right_moves T.going.right (idList g.us)
    have hno : ∀ v ∈ movesF s.1.new (idList g.us) s.1.us, v.does ≠ 3 := by
      intro v hv hd
      have ho := hR.ok hv
      have ht : 0 < v.target := ho.aim.1 (by omega)
      rcases (aims_iff _ _ _).1 (hR.aims v hv) with h' | ⟨t, h2, h3⟩
      · omega
      · have h4 := may_mine (h3.trans hd)
        obtain ⟨h5, -⟩ := find_some h2
        obtain ⟨z, hz, rfl⟩ := List.mem_map.1 h5
        rw [(moved s.1.new (idList g.us) s.1.us z).same.kind] at h4
        exact hs z hz h4
    have hg0 := gain_none s.1.new (idList g.us) (movesF s.1.new (idList g.us) s.1.us) 0 _ s.1.g0 hno (fun u _ => strike_does)
    have hg1 := gain_none s.1.new (idList g.us) (movesF s.1.new (idList g.us) s.1.us) 1 _ s.1.g1 hno (fun u _ => strike_does)
    have := T.gold
    show gainF _ _ _ _ _ _ + gainF _ _ _ _ _ _ ≤ _
    rw [hg0, hg1]
    omega
end Go.Proofs.Ytlfljlhppigejab
