/-
  What is played from a state, tick by tick. No program in sight.
-/
import Derived.Test.YtlfljlhppigejabTrackPure
namespace Go.Proofs.Ytlfljlhppigejab

theorem free_range {x : G} (hx : Right x) (hold : x.new = false) : ∀ n ∈ x.free, Fits64 n := by
  intro n hn
  have hh := hx.head
  unfold headBad at hh
  rw [hold] at hh
  have ht : topOf false = 200 := rfl
  have hf := (freeOk_iff (byId_iff.1 hx.sorted) (by omega)).1 (hx.free hold)
  have hb : 1 ≤ n ∧ n < x.next := by
    apply Decidable.not_not.1
    intro hb
    have := tally_out _ (x.next - 1).toNat n (List.mem_append.2 (Or.inr hn) : n ∈ idsOf x.us ++ x.free) (by omega)
    rw [tally_ones _ _ hf.1, hf.2] at this
    omega
  exact ⟨by omega, by omega⟩

/-- A tick of what is played: the error's number, the state. -/
def playStep (s : Nat × G) (l : List Cm) : Nat × G := if s.1 ≠ 0 then s else (stepFault s.2 l, if stepFault s.2 l = 0 then (stepE s.2 l).1 else s.2)
def playF (g : G) (ls : List (List Cm)) : Nat × G := ls.foldl playStep (faultOf g, g)

theorem play_stuck {s : Nat × G} (h : s.1 ≠ 0) (ls : List (List Cm)) : ls.foldl playStep s = s := by
  induction ls with
  | nil => rfl
  | cons l ls ih =>
    have : playStep s l = s := by unfold playStep; rw [if_pos h]
    rw [List.foldl_cons, this, ih]
def PlayOk (s : Nat × G) : Prop := s.2.new = false ∧ (s.1 = 0 → Right s.2)
theorem step_new {g : G} (hn : g.new = false) (l : List Cm) (h : stepFault g l = 0) : (stepE g l).1.new = false := by
  have hg : Right g := (right_iff g).1 (by unfold stepFault at h; by_cases h1 : faultOf g ≠ 0; rw [if_pos h1] at h; exact absurd h h1; omega)
  have T := (Track.start hg (fun h => by rw [hn] at h; cases h)).cmds l
  exact T.going.new.trans hn
theorem play_ok {s : Nat × G} (h : PlayOk s) (l : List Cm) : PlayOk (playStep s l) := by
  unfold playStep
  by_cases h1 : s.1 ≠ 0
  · rw [if_pos h1]; exact h
  rw [if_neg h1]
  by_cases h2 : stepFault s.2 l = 0
  · refine ⟨?_, fun _ => ?_⟩
    · show (if stepFault s.2 l = 0 then (stepE s.2 l).1 else s.2).new = false
      rw [if_pos h2]; exact step_new h.1 l h2
    · show Right (if stepFault s.2 l = 0 then (stepE s.2 l).1 else s.2)
      rw [if_pos h2]
      exact (right_iff _).1 (elder_law h.1 h2).right
  · refine ⟨?_, fun h3 => absurd h3 h2⟩
    show (if stepFault s.2 l = 0 then (stepE s.2 l).1 else s.2).new = false
    rw [if_neg h2]; exact h.1
theorem plays_ok (ls : List (List Cm)) : ∀ {s : Nat × G}, PlayOk s → PlayOk (ls.foldl playStep s) := by
  induction ls with
  | nil => intro s h; exact h
  | cons l ls ih => intro s h; exact ih (play_ok h l)
theorem play_begins {g : G} (hn : g.new = false) : PlayOk (faultOf g, g) := ⟨hn, fun h => (right_iff g).1 h⟩
theorem playF_ok {g : G} (hn : g.new = false) (ls : List (List Cm)) : PlayOk (playF g ls) := plays_ok ls (play_begins hn)
theorem playF_succ (g : G) (ls : List (List Cm)) (k : Nat) (h : k < ls.length) : playF g (ls.take (k + 1)) = playStep (playF g (ls.take k)) (ls.getD k []) := by
  unfold playF
  rw [List.take_succ_eq_append_getElem h, List.foldl_append]
  simp [List.getD, h]
theorem playF_stuck {g : G} {ts : List (List Cm)} {k n : Nat} (hk : k ≤ n) (h : (playF g (ts.take k)).1 ≠ 0) : playF g (ts.take n) = playF g (ts.take k) := by
  have e : ts.take n = ts.take k ++ (ts.take n).drop k := by
    have := (List.take_append_drop k (ts.take n)).symm
    rwa [List.take_take, Nat.min_eq_left hk] at this
  rw [e]
  unfold playF at h ⊢
  rw [List.foldl_append]
  exact play_stuck h _
/-- Whose start has too much is no right one. -/
theorem fault_small {g : G} (h : faultOf g = 0) : g.us.length ≤ 20 ∧ g.free.length ≤ 200 := ⟨((right_iff g).1 h).few, ((right_iff g).1 h).unfree⟩
end Go.Proofs.Ytlfljlhppigejab
