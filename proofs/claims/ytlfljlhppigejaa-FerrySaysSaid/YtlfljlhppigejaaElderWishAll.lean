/-
  elder.wish, near: as the plain functions say, at a state that is right.
-/
import Derived.Test.YtlfljlhppigejaaElderOwn
import Derived.Test.YtlfljlhppigejaaPackMaps
namespace Go.Proofs.Ytlfljlhppigejaa
open Go.RowKit

theorem near_eq {us : List U} {tick : Int} {u : U} (ho : OneOk false tick u) (ht : 0 < u.target) : nearE us u = nearF false us u := by
  have h1 := ho.aim
  unfold nearE nearF
  by_cases h3 : u.does = 3
  · rw [if_pos h3, decide_eq_decide]
    have : ¬ u.does = 2 := by omega
    simp [h3]
  · rw [if_neg h3, decide_eq_decide]
    have h2 : u.does = 2 := by have := ho.does3; omega
    simp [h2]
theorem goal_eq {us : List U} {tick : Int} {u : U} (ho : OneOk false tick u) (hd : u.does ≠ 0) : goalE us u = goalF us u := by
  have h1 := ho.aim
  unfold goalE goalF
  by_cases h : u.does = 1
  · rw [if_neg (by omega), if_pos h]
  · rw [if_pos (by have := ho.does0; omega), if_neg h]
theorem wish_eq {us : List U} {tick : Int} {u : U} (ho : OneOk false tick u) : wishE us u = wishF false us u := by
  have h1 := ho.aim
  unfold wishE wishF
  by_cases h0 : u.does = 0
  · rw [if_pos (Or.inr (Or.inl h0)), if_pos (Or.inl h0)]
  · by_cases hs : (ruleOf false u.kind).speed = 0
    · rw [if_pos (Or.inl hs), if_pos (Or.inr (Or.inl hs))]
    · by_cases ht : 0 < u.target
      · rw [near_eq ho ht]
        by_cases hn : nearF false us u = true
        · rw [if_pos (Or.inr (Or.inr ⟨ht, hn⟩)), if_pos (Or.inr (Or.inr ⟨by omega, hn⟩))]
        · have hA : ¬ ((ruleOf false u.kind).speed = 0 ∨ u.does = 0 ∨ (0 < u.target ∧ nearF false us u = true)) := by rintro (h | h | h); exact hs h; exact h0 h; exact hn h.2
          have hB : ¬ (u.does = 0 ∨ (ruleOf false u.kind).speed = 0 ∨ (1 < u.does ∧ nearF false us u = true)) := by rintro (h | h | h); exact h0 h; exact hs h; exact hn h.2
          rw [if_neg hA, if_neg hB, goal_eq ho h0]
      · have hA : ¬ ((ruleOf false u.kind).speed = 0 ∨ u.does = 0 ∨ (0 < u.target ∧ nearE us u = true)) := by rintro (h | h | h); exact hs h; exact h0 h; exact ht h.1
        have hB : ¬ (u.does = 0 ∨ (ruleOf false u.kind).speed = 0 ∨ (1 < u.does ∧ nearF false us u = true)) := by rintro (h | h | h); exact h0 h; exact hs h; have := h.1; omega
        rw [if_neg hA, if_neg hB, goal_eq ho h0]
theorem small_on {x y : Int} (h : onB x y = true) : small x ∧ small y := by
  have := (onB_iff _ _).1 h
  unfold small
  omega
theorem small_goal {tick : Int} {u : U} (ho : OneOk false tick u) : small u.gx ∧ small u.gy := by
  by_cases h : u.does = 1
  · exact small_on (ho.going h).1
  · have := ho.still h
    unfold small
    omega
theorem target_at {g : G} (hg : Right g) {u : U} (hu : u ∈ g.us) (ht : 0 < u.target) : ∃ (k : Nat) (v : U), ixOf g.us u.target = k ∧ g.us.getD k zeroU = v ∧ v ∈ g.us ∧ k < g.us.length := by
  have ha := hg.aims u hu
  rw [aims_iff] at ha
  rcases ha with h | ⟨t, h1, h2⟩
  · omega
  · rcases ix_find g.us u.target with ⟨h3, h4⟩ | ⟨k, v, h3, h4, h5, h6, h7⟩
    · rw [h4] at h1; cases h1
    · exact ⟨k, v, h3, h5, List.mem_of_getElem? h7, h4⟩

theorem wish_any {g : G} (hg : Right g) (hold : g.new = false) (S : Nat) (a : Option Addr) (c : Nat) (u : U) (hu : u ∈ g.us) (w : World) (hS : S < w.heap.size) (h5 : w.cell? ⟨S, 5, none⟩ = some (.slice a g.us.length c)) (hr : URow false w.heap.size w a g.us) :
    Calls Try.prog 163 #[.pointer (some ⟨S, 0, none⟩), .agg #[.int .i64 u.id, .int .i64 u.owner, .int .i64 u.kind, .int .i64 u.x, .int .i64 u.y, .int .i64 u.hp, .int .i64 u.does, .int .i64 u.gx, .int .i64 u.gy, .int .i64 u.target]] w
      fun e w' => Below w.heap.size w w' ∧ ((wishF false g.us u = none ∧ ∃ p q, e = .returned (.tuple #[.agg #[.int .i64 p, .int .i64 q], .bool false])) ∨ ∃ p q, wishF false g.us u = some (p, q) ∧ e = .returned (.tuple #[.agg #[.int .i64 p, .int .i64 q], .bool true])) := by
  have ho := hg.ok hu
  rw [hold] at ho
  have hfew := hg.few
  rw [← wish_eq ho]
  by_cases ht : 0 < u.target
  · obtain ⟨k, v, h1, h2, h3, h4⟩ := target_at hg hu ht
    have hov := hg.ok h3
    exact wish_aim S a g.us.length c g.us u ht rfl (by omega) (byId_iff.1 hg.sorted) k h1 v h2 (small_on ho.on).1 (small_on ho.on).2 (small_on hov.on).1 (small_on hov.on).2 w hS h5 hr
  · exact wish_go S u (by have := ho.tgt0; omega) g.us (small_on ho.on).1 (small_on ho.on).2 (small_goal ho).1 (small_goal ho).2 w
theorem near_all {g : G} (hg : Right g) (hold : g.new = false) (S : Nat) (a : Option Addr) (c : Nat) (u : U) (hu : u ∈ g.us) (ht : 0 < u.target) (w : World) (hS : S < w.heap.size) (h5 : w.cell? ⟨S, 5, none⟩ = some (.slice a g.us.length c)) (hr : URow false w.heap.size w a g.us) :
    Calls Try.prog 165 #[.pointer (some ⟨S, 0, none⟩), .agg #[.int .i64 u.id, .int .i64 u.owner, .int .i64 u.kind, .int .i64 u.x, .int .i64 u.y, .int .i64 u.hp, .int .i64 u.does, .int .i64 u.gx, .int .i64 u.gy, .int .i64 u.target]] w
      fun e w' => e = .returned (.bool (nearF false g.us u)) ∧ Below w.heap.size w w' := by
  have ho := hg.ok hu
  rw [hold] at ho
  have hfew := hg.few
  rw [← near_eq ho ht]
  obtain ⟨k, v, h1, h2, h3, h4⟩ := target_at hg hu ht
  have hov := hg.ok h3
  exact near_any S a g.us.length c g.us u rfl (by omega) (byId_iff.1 hg.sorted) k h1 v h2 (small_on ho.on).1 (small_on ho.on).2 (small_on hov.on).1 (small_on hov.on).2 w hS h5 hr
end Go.Proofs.Ytlfljlhppigejaa
