/-
  Plain laws on the last parts of a state's check. No program in sight.
-/
import Derived.Test.YtlfljlhppigejaaPackPure
namespace Go.Proofs.Ytlfljlhppigejaa

theorem fault_aims {g : G} (h : ¬ headBad g) (hm : ¬ (20 < g.us.length ∨ 200 < g.free.length)) (he : eachFault g.new g.tick g.next [] g.us = 0) {j : Nat} (hj : j < g.us.length) (ha : aimsOk g.new g.us (g.us.getD j zeroU) = false) : faultOf g = 3 := by
  rw [fault_rest h hm, if_neg (by omega), if_pos]
  rw [List.all_eq_false]
  rw [getD_lt hj] at ha
  exact ⟨g.us[j], List.getElem_mem hj, by rw [ha]; simp⟩
theorem all_aims {n : Bool} {us : List U} (ha : ∀ j, j < us.length → aimsOk n us (us.getD j zeroU) = true) : us.all (aimsOk n us) = true := by
  rw [List.all_eq_true]
  intro u hu
  obtain ⟨j, hj, rfl⟩ := List.mem_iff_getElem.1 hu
  have := ha j hj
  rwa [getD_lt hj] at this
theorem fault_none {g : G} (h : ¬ headBad g) (hm : ¬ (20 < g.us.length ∨ 200 < g.free.length)) (he : eachFault g.new g.tick g.next [] g.us = 0) (ha : ∀ j, j < g.us.length → aimsOk g.new g.us (g.us.getD j zeroU) = true) (hf : g.new = false → freeOk g.next g.free g.us = true) : faultOf g = 0 := by
  rw [fault_rest h hm, if_neg (by omega), if_neg (by rw [all_aims ha]; simp), if_neg]
  rintro ⟨h1, h2⟩
  rw [hf h1] at h2
  cases h2
theorem stands_next {us : List U} {k : Nat} (hk : k < us.length) {u : U} (hu : us.getD k zeroU = u) (x y : Int) : standsAt (us.take (k + 1)) x y = (standsAt (us.take k) x y || (u.x == x && u.y == y)) := by
  rw [take_at hk, hu, stands_snoc]
end Go.Proofs.Ytlfljlhppigejaa
