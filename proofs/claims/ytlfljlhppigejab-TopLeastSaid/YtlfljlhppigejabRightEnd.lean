/-
  A state that is right is right behind a tick. No program in sight.
-/
import Derived.Test.YtlfljlhppigejabRightCmd
namespace Go.Proofs.Ytlfljlhppigejab

/-- What stays of one while all move, strike and are idle. -/
structure SameU (u v : U) : Prop where
  id : v.id = u.id
  owner : v.owner = u.owner
  kind : v.kind = u.kind
  since : v.since = u.since
theorem SameU.rfl' (u : U) : SameU u u := ⟨rfl, rfl, rfl, rfl⟩

theorem wish_on {g : G} (hg : Right g) {u : U} (hu : u ∈ g.us) {p : Int × Int} (hw : wishF g.new g.us u = some p) : onB p.1 p.2 = true := by
  have ho := hg.ok hu
  unfold wishF at hw
  split at hw
  · cases hw
  rename_i h1
  split at hw
  · cases hw
  cases hw
  have hgoal : onB (goalF g.us u).1 (goalF g.us u).2 = true := by
    unfold goalF
    split
    · rename_i hd
      exact (ho.going hd).1
    · rename_i hd
      have h0 := ho.does0
      have ht : 0 < u.target := ho.aim.1 (by omega)
      rcases (aims_iff _ _ _).1 (hg.aims u hu) with h | ⟨t, h2, -⟩
      · omega
      · rcases ix_find g.us u.target with ⟨-, h4⟩ | ⟨k, v, h3, h4, h5, h6, -⟩
        · rw [h4] at h2; cases h2
        · rw [h3]
          simp only [Int.toNat_natCast, h5]
          exact (hg.ok (find_some h6).1).on
  have hon := ho.on
  rw [onB_iff] at *
  have := near1_on u.x (goalF g.us u).1 (by omega) (by omega)
  have := near1_on u.y (goalF g.us u).2 (by omega) (by omega)
  show 0 ≤ near1 u.x (goalF g.us u).1 ∧ near1 u.x (goalF g.us u).1 < 12 ∧ 0 ≤ near1 u.y (goalF g.us u).2 ∧ near1 u.y (goalF g.us u).2 < 12
  omega

/-- It moves to p. -/
def movesTo (n : Bool) (old : List Int) (us : List U) (u : U) (p : Int × Int) : Prop := wishF n us u = some p ∧ old.contains u.id = true ∧ standsAt us p.1 p.2 = false ∧ wishers n old us p = 1
theorem move_cases (n : Bool) (old : List Int) (us : List U) (u : U) : moveF n old us u = u ∨ ∃ p, movesTo n old us u p ∧ moveF n old us u = { u with x := p.1, y := p.2 } := by
  unfold moveF movesTo
  cases hw : wishF n us u with
  | none => exact Or.inl rfl
  | some p =>
    dsimp only
    by_cases h : old.contains u.id = true ∧ standsAt us p.1 p.2 = false ∧ wishers n old us p = 1
    · rw [if_pos h]
      exact Or.inr ⟨p, ⟨rfl, h⟩, rfl⟩
    · rw [if_neg h]
      exact Or.inl rfl
theorem count_two {α : Type} {l : List α} {p : α → Bool} {i j : Nat} (hi : i < l.length) (hj : j < l.length) (hij : i < j) (h1 : p l[i] = true) (h2 : p l[j] = true) : 2 ≤ l.countP p := by
  have hs : l = l.take j ++ l.drop j := (List.take_append_drop j l).symm
  rw [hs, List.countP_append]
  have ha : 0 < (l.take j).countP p := List.countP_pos_iff.2 ⟨l[i], by rw [List.mem_take_iff_getElem]; exact ⟨i, by omega, rfl⟩, h1⟩
  have hb : 0 < (l.drop j).countP p := List.countP_pos_iff.2 ⟨l[j], by rw [List.drop_eq_getElem_cons hj]; exact List.mem_cons_self, h2⟩
  omega
theorem moves_apart (n : Bool) (old : List Int) (us : List U) (hp : apartU us) : apartU (us.map (moveF n old us)) := by
  unfold apartU at *
  rw [List.map_map, List.nodup_iff_pairwise_ne, List.pairwise_map, List.pairwise_iff_getElem]
  rw [List.nodup_iff_pairwise_ne, List.pairwise_map, List.pairwise_iff_getElem] at hp
  intro i j hi hj hij e
  have h0 := hp i j hi hj hij
  simp only [Function.comp] at e
  have hst : ∀ (k : Nat) (hk : k < us.length) (p : Int × Int), standsAt us p.1 p.2 = false → spot us[k] ≠ p := by
    intro k hk p hs he
    have : standsAt us p.1 p.2 = true := (stands_iff _ _ _).2 (by
      rw [show ((p.1, p.2) : Int × Int) = p from rfl, ← he]
      exact List.mem_map.2 ⟨us[k], List.getElem_mem hk, rfl⟩)
    rw [hs] at this
    cases this
  rcases move_cases n old us us[i] with h1 | ⟨p, h1, h2⟩ <;> rcases move_cases n old us us[j] with h3 | ⟨q, h3, h4⟩
  · rw [h1, h3] at e; exact h0 e
  · rw [h1, h4] at e
    exact hst i hi q h3.2.2.1 e
  · rw [h2, h3] at e
    exact hst j hj p h1.2.2.1 e.symm
  · rw [h2, h4] at e
    have hpq : p = q := e
    subst hpq
    have := count_two (p := fun v => old.contains v.id && wishF n us v == some p) hi hj hij (by simp [h1.1]; simpa using h1.2.1) (by simp [h3.1]; simpa using h3.2.1)
    have h5 := h1.2.2.2
    unfold wishers at h5
    omega
theorem arrive_spot (old : List Int) (u : U) : spot (arriveF old u) = spot u := by
  unfold arriveF
  split <;> rfl
theorem arrive_cases (old : List Int) (u : U) : arriveF old u = u ∨ (u.does = 1 ∧ arriveF old u = tellU u 0 0 0 0) := by
  unfold arriveF
  split
  · rename_i h
    exact Or.inr ⟨h.2.1, rfl⟩
  · exact Or.inl rfl
/-- How one is behind the moves. -/
structure Moved (n : Bool) (old : List Int) (us : List U) (u v : U) : Prop where
  same : SameU u v
  hp : v.hp = u.hp
  job : (v.does = u.does ∧ v.gx = u.gx ∧ v.gy = u.gy ∧ v.target = u.target) ∨ (u.does = 1 ∧ v.does = 0 ∧ v.gx = 0 ∧ v.gy = 0 ∧ v.target = 0)
  at_ : spot v = spot u ∨ ∃ p, movesTo n old us u p ∧ spot v = p
theorem moved (n : Bool) (old : List Int) (us : List U) (u : U) : Moved n old us u (arriveF old (moveF n old us u)) := by
  rcases move_cases n old us u with h1 | ⟨p, h1, h2⟩
  · rw [h1]
    rcases arrive_cases old u with h3 | ⟨h3, h4⟩
    · rw [h3]; exact ⟨SameU.rfl' u, rfl, Or.inl ⟨rfl, rfl, rfl, rfl⟩, Or.inl rfl⟩
    · rw [h4]; exact ⟨⟨rfl, rfl, rfl, rfl⟩, rfl, Or.inr ⟨h3, rfl, rfl, rfl, rfl⟩, Or.inl rfl⟩
  · rw [h2]
    rcases arrive_cases old { u with x := p.1, y := p.2 } with h3 | ⟨h3, h4⟩
    · rw [h3]; exact ⟨⟨rfl, rfl, rfl, rfl⟩, rfl, Or.inl ⟨rfl, rfl, rfl, rfl⟩, Or.inr ⟨p, h1, rfl⟩⟩
    · rw [h4]; exact ⟨⟨rfl, rfl, rfl, rfl⟩, rfl, Or.inr ⟨h3, rfl, rfl, rfl, rfl⟩, Or.inr ⟨p, h1, rfl⟩⟩
theorem moves_places (n : Bool) (old : List Int) (us : List U) (hp : apartU us) : apartU (movesF n old us) := by
  have h := moves_apart n old us hp
  unfold apartU movesF at *
  rw [List.map_map] at h ⊢
  rw [List.map_congr_left (g := spot ∘ moveF n old us)]
  · exact h
  · intro u _
    exact arrive_spot old _

theorem right_moves {g : G} (hg : Right g) (old : List Int) : Right { g with us := movesF g.new old g.us } := by
  have hm : ∀ u, Moved g.new old g.us u (arriveF old (moveF g.new old g.us u)) := fun u => moved g.new old g.us u
  have hi : ∀ u ∈ g.us, (arriveF old (moveF g.new old g.us u)).id = u.id := fun u _ => (hm u).same.id
  refine ⟨hg.head, by show (movesF g.new old g.us).length ≤ 20; unfold movesF; simpa using hg.few, ?_, ?_, byId_map hi hg.sorted, moves_places _ _ _ hg.apart, ?_, ?_, hg.unfree⟩
  · intro v hv
    obtain ⟨u, hu, rfl⟩ := List.mem_map.1 hv
    have ho := hg.ok hu
    have h := hm u
    generalize arriveF old (moveF g.new old g.us u) = v at h
    rw [one_iff]
    obtain ⟨⟨s1, s2, s3, s4⟩, s5, s6, s7⟩ := h
    have hon : onB v.x v.y = true := by
      rcases s7 with e | ⟨p, hp, e⟩
      · have : (v.x, v.y) = (u.x, u.y) := e
        simp only [Prod.mk.injEq] at this
        rw [this.1, this.2]; exact ho.on
      · have : (v.x, v.y) = (p.1, p.2) := e
        simp only [Prod.mk.injEq] at this
        rw [this.1, this.2]; exact wish_on hg hu hp.1
    have hx := ho.aim
    refine ⟨by rw [s3]; exact ho.rule, by rw [s1]; exact ho.id1, by rw [s1]; exact ho.idT, hon, by rw [s5]; exact ho.hp1, by rw [s5, s3]; exact ho.hpT, ?_, ?_, ?_, ?_, by rw [s4]; exact ho.since, by rw [s2]; exact ho.own0, by rw [s2]; exact ho.own2, by rw [s2, s3]; exact ho.mine, ?_, ?_, ?_⟩
    · rcases s6 with h | h
      · rw [h.1]; exact ho.does0
      · omega
    · rcases s6 with h | h
      · rw [h.1]; exact ho.does3
      · omega
    · rcases s6 with h | h
      · rw [h.2.2.2]; exact ho.tgt0
      · omega
    · rcases s6 with h | h
      · rw [h.2.2.2]; exact ho.tgtT
      · have h1 := ho.tgtT; have h2 := ho.tgt0; show v.target ≤ topOf g.new; omega
    · intro hd
      rcases s6 with h | h
      · rw [s3, h.2.1, h.2.2.1]; exact ho.going (by omega)
      · omega
    · intro hd
      rcases s6 with h | h
      · have := ho.still (by omega); omega
      · omega
    · rcases s6 with h | h
      · rw [h.1, h.2.2.2]; exact ho.aim
      · omega
  · intro v hv
    obtain ⟨u, hu, rfl⟩ := List.mem_map.1 hv
    show (arriveF old (moveF g.new old g.us u)).id < _
    rw [hi u hu]; exact hg.below u hu
  · intro v hv
    obtain ⟨u, hu, rfl⟩ := List.mem_map.1 hv
    show aimsOk g.new (movesF g.new old g.us) _ = true
    rw [aims_iff]
    have ho := hg.ok hu
    rcases (hm u).job with h | h
    · rw [h.1, h.2.2.2]
      rcases (aims_iff _ _ _).1 (hg.aims u hu) with h' | ⟨t, h2, h3⟩
      · exact Or.inl h'
      · right
        unfold movesF
        refine ⟨_, by rw [find_map hi, h2]; rfl, ?_⟩
        rw [← h3]
        exact mayDo_congr (hm u).same.kind (hm u).same.owner (hm t).same.kind (hm t).same.owner
    · exact Or.inl h.2.2.2.2
  · intro hn
    show freeOk g.next g.free (movesF g.new old g.us) = true
    unfold movesF
    rw [freeOk_ids (ids_map hi)]
    exact hg.free hn

theorem blow_nonneg (n : Bool) (u : U) : 0 ≤ blow n u := by
  have := ruleOf_bd n u.kind
  unfold blow
  split <;> omega
theorem loss_nonneg (n : Bool) (old : List Int) (us : List U) (id : Int) (l : List U) : 0 ≤ lossF n old us id l := by
  induction l with
  | nil => exact Int.le_refl _
  | cons u l ih =>
    unfold lossF
    have := blow_nonneg n u
    split <;> omega
theorem gain_range (n : Bool) (old : List Int) (us : List U) (o : Int) (l : List U) : ∀ (g : Int), 0 ≤ g → g ≤ richOf n → 0 ≤ gainF n old us o l g ∧ gainF n old us o l g ≤ richOf n := by
  induction l with
  | nil => intro g h1 h2; exact ⟨h1, h2⟩
  | cons u l ih =>
    intro g h1 h2
    unfold gainF
    have := ruleOf_bd n u.kind
    split
    · exact ih _ (by omega) (by omega)
    · exact ih g h1 h2
theorem gain_le (n : Bool) (old : List Int) (us : List U) (o : Int) (l : List U) : ∀ (g : Int), g ≤ richOf n → g ≤ gainF n old us o l g := by
  induction l with
  | nil => intro g _; exact Int.le_refl _
  | cons u l ih =>
    intro g h2
    unfold gainF
    have := ruleOf_bd n u.kind
    split
    · exact Int.le_trans (by omega) (ih _ (by omega))
    · exact ih g h2

theorem idle_cases (us : List U) (u : U) : (idleF us u = u ∧ (u.target ≤ 0 ∨ ∃ t, findU us u.target = some t)) ∨ (0 < u.target ∧ findU us u.target = none ∧ idleF us u = tellU u 0 0 0 0) := by
  unfold idleF
  rcases ix_find us u.target with ⟨h1, h2⟩ | ⟨k, t, h1, h2, h3, h4, -⟩
  · by_cases h : 0 < u.target
    · rw [if_pos ⟨h, h1⟩]; exact Or.inr ⟨h, h2, rfl⟩
    · rw [if_neg (fun x => h x.1)]; exact Or.inl ⟨rfl, Or.inl (by omega)⟩
  · rw [if_neg (by omega)]
    exact Or.inl ⟨rfl, Or.inr ⟨t, h4⟩⟩
theorem gone_perm (us : List U) : (idsOf (leftF us) ++ goneF us).Perm (idsOf us) := by
  unfold idsOf leftF goneF
  rw [← List.map_append]
  apply List.Perm.map
  have : (fun u : U => decide (u.hp ≤ 0)) = fun u => !decide (0 < u.hp) := by
    funext u
    rw [Bool.eq_iff_iff]
    simp
  rw [this]
  exact List.filter_append_perm (fun u => decide (0 < u.hp)) us

theorem right_end {g : G} (hg : Right g) (old : List Int) (ht : g.tick < 60) : Right (endF g old) := by
  obtain ⟨us1, e1⟩ : ∃ us1, movesF g.new old g.us = us1 := ⟨_, rfl⟩
  have h1 : Right { g with us := us1 } := by rw [← e1]; exact right_moves hg old
  obtain ⟨us2, e2⟩ : ∃ us2, hurtF g.new old us1 = us2 := ⟨_, rfl⟩
  have hid2 : ∀ u ∈ us1, ({ u with hp := u.hp - lossF g.new old us1 u.id us1 } : U).id = u.id := fun u _ => rfl
  have hs2 : byId us2 := by rw [← e2]; exact byId_map hid2 h1.sorted
  have hmem2 : ∀ v ∈ us2, ∃ u ∈ us1, v = { u with hp := u.hp - lossF g.new old us1 u.id us1 } := by
    intro v hv
    rw [← e2] at hv
    obtain ⟨u, hu, rfl⟩ := List.mem_map.1 hv
    exact ⟨u, hu, rfl⟩
  have hidsof : idsOf us2 = idsOf g.us := by
    rw [← e2]
    unfold hurtF
    rw [ids_map hid2, ← e1]
    unfold movesF
    rw [ids_map (fun u _ => (moved g.new old g.us u).same.id)]
  obtain ⟨us3, e3⟩ : ∃ us3, leftF us2 = us3 := ⟨_, rfl⟩
  have hs3 : byId us3 := by rw [← e3]; exact byId_filter _ hs2
  have hmem3 : ∀ v ∈ us3, v ∈ us2 ∧ 0 < v.hp := by
    intro v hv
    rw [← e3] at hv
    have := List.mem_filter.1 hv
    simpa using this
  have hid4 : ∀ u ∈ us3, (idleF us3 u).id = u.id ∧ (idleF us3 u).kind = u.kind ∧ (idleF us3 u).owner = u.owner := by
    intro u _
    rcases idle_cases us3 u with ⟨h, -⟩ | ⟨-, -, h⟩ <;> rw [h] <;> exact ⟨rfl, rfl, rfl⟩
  have hend : endF g old = { g with tick := g.tick + 1, g0 := gainF g.new old us1 0 us1 g.g0, g1 := gainF g.new old us1 1 us1 g.g1, free := if g.new then g.free else g.free ++ goneF us2, us := us3.map (idleF us3) } := by
    unfold endF
    rw [e1, e2, e3]
  have hh := hg.head
  unfold headBad at hh
  have hsub : us3.Sublist us2 := by rw [← e3]; exact List.filter_sublist
  have hlen2 : us2.length = g.us.length := by
    have := congrArg List.length hidsof
    simpa [idsOf] using this
  have hle : us3.length ≤ us2.length := hsub.length_le
  rw [hend]
  refine ⟨?_, ?_, ?_, ?_, byId_map (fun u hu => (hid4 u hu).1) hs3, ?_, ?_, ?_, ?_⟩
  · unfold headBad
    dsimp only
    have := gain_range g.new old us1 0 us1 g.g0 (by omega) (by omega)
    have := gain_range g.new old us1 1 us1 g.g1 (by omega) (by omega)
    omega
  · show (us3.map (idleF us3)).length ≤ 20
    rw [List.length_map]
    have := hg.few
    omega
  · intro v hv
    obtain ⟨w, hw, rfl⟩ := List.mem_map.1 hv
    obtain ⟨h2, h3⟩ := hmem3 w hw
    obtain ⟨u, hu, rfl⟩ := hmem2 w h2
    have ho := h1.ok hu
    dsimp only at ho h3
    show oneFault g.new (g.tick + 1) _ = 0
    rw [one_iff]
    have hl := loss_nonneg g.new old us1 u.id us1
    have hok : OneOk g.new (g.tick + 1) { u with hp := u.hp - lossF g.new old us1 u.id us1 } := by
      refine ⟨ho.rule, ho.id1, ho.idT, ho.on, by show 1 ≤ u.hp - lossF g.new old us1 u.id us1; omega, ?_, ho.does0, ho.does3, ho.tgt0, ho.tgtT, ?_, ho.own0, ho.own2, ho.mine, ho.going, ho.still, ho.aim⟩
      · show u.hp - lossF g.new old us1 u.id us1 ≤ if u.kind = 4 then 100 else (ruleOf g.new u.kind).hp
        have := ho.hpT
        omega
      · intro hn
        have : 0 ≤ u.since ∧ u.since ≤ g.tick := ho.since hn
        show 0 ≤ u.since ∧ u.since ≤ g.tick + 1
        omega
    rcases idle_cases us3 { u with hp := u.hp - lossF g.new old us1 u.id us1 } with ⟨h, -⟩ | ⟨-, -, h⟩
    · rw [h]; exact hok
    · rw [h]
      refine tell_ok hok (by omega) (by omega) (by omega) ?_ (fun h => by cases h) (fun _ => ⟨rfl, rfl⟩) (by omega)
      unfold topOf; split <;> omega
  · intro v hv
    obtain ⟨w, hw, rfl⟩ := List.mem_map.1 hv
    rw [(hid4 w hw).1]
    obtain ⟨u, hu, rfl⟩ := hmem2 w (hmem3 w hw).1
    exact h1.below u hu
  · have hp1 : apartU us1 := h1.apart
    show apartU (us3.map (idleF us3))
    unfold apartU at *
    rw [List.map_map, List.map_congr_left (g := spot)]
    · have hsp : us2.map spot = us1.map spot := by
        rw [← e2]
        unfold hurtF
        rw [List.map_map]
        rfl
      rw [← hsp] at hp1
      exact List.Nodup.sublist (hsub.map spot) hp1
    · intro u _
      show spot (idleF us3 u) = spot u
      rcases idle_cases us3 u with ⟨h, -⟩ | ⟨-, -, h⟩ <;> rw [h] <;> rfl
  · intro v hv
    obtain ⟨w, hw, rfl⟩ := List.mem_map.1 hv
    show aimsOk g.new (us3.map (idleF us3)) (idleF us3 w) = true
    rw [aims_iff]
    rcases idle_cases us3 w with ⟨h, hq⟩ | ⟨-, -, h⟩
    · rw [h]
      obtain ⟨u, hu, rfl⟩ := hmem2 w (hmem3 w hw).1
      rcases (aims_iff _ _ _).1 (h1.aims u hu) with h' | ⟨t, h2, h3⟩
      · exact Or.inl h'
      · rcases hq with hq | ⟨s, hq⟩
        · have := (h1.ok hu).tgt0
          dsimp only at hq
          left
          show u.target = 0
          omega
        · right
          refine ⟨idleF us3 s, by rw [find_map (fun x hx => (hid4 x hx).1), hq]; rfl, ?_⟩
          obtain ⟨k1, k2⟩ := find_some hq
          obtain ⟨t', ht', e⟩ := hmem2 s (hmem3 s k1).1
          have htt : t' = t := by
            obtain ⟨m1, m2⟩ := find_some h2
            refine byId_inj h1.sorted ht' m1 ?_
            rw [m2, ← k2, e]
          subst htt
          show mayDo g.new _ _ = u.does
          rw [← h3]
          refine mayDo_congr rfl rfl ?_ ?_
          · rw [(hid4 s k1).2.1, e]
          · rw [(hid4 s k1).2.2, e]
    · rw [h]; exact Or.inl rfl
  · intro hn
    have hn' : g.new = false := hn
    show freeOk g.next (if g.new then g.free else g.free ++ goneF us2) (us3.map (idleF us3)) = true
    rw [hn', if_neg (by simp), freeOk_ids (ids_map (fun u hu => (hid4 u hu).1)), freeOk_iff (byId_iff.1 hs3) (by omega)]
    have hf := (freeOk_iff (byId_iff.1 hg.sorted) (by omega)).1 (hg.free hn')
    have hperm : (idsOf us3 ++ (g.free ++ goneF us2)).Perm (idsOf g.us ++ g.free) := by
      have h5 := gone_perm us2
      rw [e3, hidsof] at h5
      refine List.Perm.trans ?_ (h5.append_right g.free)
      rw [List.append_assoc]
      exact List.Perm.append_left _ List.perm_append_comm
    exact ⟨fun i hi => by rw [hperm.count_eq]; exact hf.1 i hi, by rw [hperm.length_eq]; exact hf.2⟩
  · show (if g.new then g.free else g.free ++ goneF us2).length ≤ 200
    by_cases hn : g.new = true
    · rw [if_pos hn]; exact hg.unfree
    · have hn' : g.new = false := by simpa using hn
      rw [if_neg hn]
      have hf := (freeOk_iff (byId_iff.1 hg.sorted) (by omega)).1 (hg.free hn')
      have h5 := (gone_perm us2).length_eq
      rw [hidsof] at h5
      have h6 := hf.2
      have h7 : topOf g.new = 200 := by unfold topOf; rw [hn']; rfl
      simp only [List.length_append] at h5 h6 ⊢
      omega
end Go.Proofs.Ytlfljlhppigejab
