/-
  The walk of elder.command.
-/
import Derived.Test.YtlfljlhppigejabElderBuild
import Derived.Test.YtlfljlhppigejabPackPure
namespace Go.Proofs.Ytlfljlhppigejab
open Go.RowKit
attribute [local go_sem] qOne qAt qUp qOneK

theorem cellsAll_set {us : List U} {k j : Nat} (hk : k < us.length) (hj : j < 10) {v : Value} {u' : U} (hu : cellsE u' = (cellsE (us.getD k zeroU)).set j v) : (cellsAll us).set (k * 10 + j) v = cellsAll (us.set k u') := by
  have hs : us = us.take k ++ us.getD k zeroU :: us.drop (k + 1) := by
    rw [getD_lt hk]
    rw [List.getElem_cons_drop hk, List.take_append_drop]
  have hl : (cellsAll (us.take k)).length = k * 10 := by rw [cellsAll_length, List.length_take]; omega
  have h1 : us.set k u' = us.take k ++ u' :: us.drop (k + 1) := by rw [List.set_eq_take_append_cons_drop, if_pos hk]
  rw [h1]
  have hc : ∀ u : U, cellsAll (us.take k ++ u :: us.drop (k + 1)) = cellsAll (us.take k) ++ (cellsE u ++ cellsAll (us.drop (k + 1))) := by
    intro u
    rw [cellsAll_append]
    rfl
  conv => lhs; rw [hs]
  rw [hc, hc, List.set_append_right _ _ (by omega), hl, show k * 10 + j - k * 10 = j by omega, List.set_append_left _ _ (by rw [cellsE_length]; exact hj), hu]
/-- One cell of a unit is written. -/
theorem GE.poke {w : World} {B S : Nat} {g : G} {born : List Int} {fv bv : Value} {gg n cap : Nat} (h : GE w B S g born fv (.slice (some ⟨gg, 0, none⟩) n cap) bv) {us : List U} (hus : g.us = us) {k j : Nat} (hk : k < us.length) (hj : j < 10) {v : Value} {u' : U} (hu : cellsE u' = (cellsE (us.getD k zeroU)).set j v) :
    GE (w.setCell ⟨gg, k * 10 + j, none⟩ v) B S { g with us := us.set k u' } born fv (.slice (some ⟨gg, 0, none⟩) n cap) bv := by
  subst hus
  have hn : n = g.us.length := by
    rcases h.us.2 with ⟨h1, -⟩ | ⟨g2, c2, cur, h1, -⟩
    · cases h1
    · cases h1; rfl
  subst hn
  obtain ⟨h1, h2⟩ := World.ownsRow.stored h.us (k * 10 + j) v
  rw [cellsAll_set hk hj hu] at h1
  exact h.turnU (us := g.us.set k u') ((Kp.grown h2).imp (fun b _ hb => hb.symm)) (by rw [List.length_set]; exact h1)
/-- One is told something. -/
theorem GE.tell {w : World} {B S : Nat} {g : G} {born : List Int} {fv bv : Value} {gg n cap : Nat} (h : GE w B S g born fv (.slice (some ⟨gg, 0, none⟩) n cap) bv) {k : Nat} {u : U} (hi : g.us[k]? = some u) (d : Int) :
    GE ((((w.setCell ⟨gg, k * 10 + 6, none⟩ (.int .i64 d)).setCell ⟨gg, k * 10 + 7, none⟩ (.int .i64 0)).setCell ⟨gg, k * 10 + 8, none⟩ (.int .i64 0)).setCell ⟨gg, k * 10 + 9, none⟩ (.int .i64 0)) B S { g with us := g.us.set k (tellU u d 0 0 0) } born fv (.slice (some ⟨gg, 0, none⟩) n cap) bv := by
  obtain ⟨hk, he⟩ := List.getElem?_eq_some_iff.1 hi
  have hd : g.us.getD k zeroU = u := by rw [getD_lt hk, he]
  have g1 := h.poke rfl hk (j := 6) (by decide) (v := .int .i64 d) (u' := { u with does := d }) (by rw [hd]; rfl)
  have s1 : ∀ x : U, (g.us.set k x).getD k zeroU = x := fun x => by rw [getD_lt (by simpa using hk)]; simp
  have g2 := g1.poke rfl (k := k) (by simpa using hk) (j := 7) (by decide) (v := .int .i64 0) (u' := { u with does := d, gx := 0 }) (by rw [s1]; rfl)
  rw [List.set_set] at g2
  have g3 := g2.poke rfl (k := k) (by simpa using hk) (j := 8) (by decide) (v := .int .i64 0) (u' := { u with does := d, gx := 0, gy := 0 }) (by rw [s1]; rfl)
  rw [List.set_set] at g3
  have g4 := g3.poke rfl (k := k) (by simpa using hk) (j := 9) (by decide) (v := .int .i64 0) (u' := { u with does := d, gx := 0, gy := 0, target := 0 }) (by rw [s1]; rfl)
  rw [List.set_set] at g4
  exact g4
end Go.Proofs.Ytlfljlhppigejab
