/-
  The newer game's board in memory: a state's units, who is who, who stands where.
-/
import Derived.Test.YtlfljlhppigejaaNewCheck
import Derived.Test.YtlfljlhppigejaaRange
import Derived.Test.YtlfljlhppigejaaElderCmd
namespace Go.Proofs.Ytlfljlhppigejaa
open Go.RowKit

theorem cellsAllN_append (a b : List U) : cellsAllN (a ++ b) = cellsAllN a ++ cellsAllN b := by simp [cellsAllN]
theorem cellsAllN_set {us : List U} {k j : Nat} (hk : k < us.length) (hj : j < 11) {v : Value} {u' : U} (hu : cellsN u' = (cellsN (us.getD k zeroU)).set j v) : (cellsAllN us).set (k * 11 + j) v = cellsAllN (us.set k u') := by
  have hs : us = us.take k ++ us.getD k zeroU :: us.drop (k + 1) := by
    rw [getD_lt hk]
    rw [List.getElem_cons_drop hk, List.take_append_drop]
  have hl : (cellsAllN (us.take k)).length = k * 11 := by rw [cellsAllN_length, List.length_take]; omega
  have h1 : us.set k u' = us.take k ++ u' :: us.drop (k + 1) := by rw [List.set_eq_take_append_cons_drop, if_pos hk]
  rw [h1]
  have hc : ∀ u : U, cellsAllN (us.take k ++ u :: us.drop (k + 1)) = cellsAllN (us.take k) ++ (cellsN u ++ cellsAllN (us.drop (k + 1))) := by
    intro u
    rw [cellsAllN_append]
    rfl
  conv => lhs; rw [hs]
  rw [hc, hc, List.set_append_right _ _ (by omega), hl, show k * 11 + j - k * 11 = j by omega, List.set_append_left _ _ (by rw [cellsN_length]; exact hj), hu]
theorem who_ids {us vs : List U} (h : idsOf us = idsOf vs) (id : Int) : whoIx us id = whoIx vs id := by
  have e : ∀ l : List U, whoIx l id = (idsOf l).findIdx? (fun i => i == id) := fun l => by
    unfold whoIx idsOf
    rw [List.findIdx?_map]
    rfl
  rw [e, e, h]
theorem ids_set {us : List U} {k : Nat} (hk : k < us.length) {u' : U} (h : u'.id = (us.getD k zeroU).id) : idsOf (us.set k u') = idsOf us := by
  unfold idsOf
  rw [List.map_set]
  refine List.ext_getElem (by simp) (fun i h1 h2 => ?_)
  rw [List.getElem_set]
  split
  · next e => subst e; rw [h, getD_lt hk]; simp
  · rfl

/-- Block S is the board of a game, M its map of units; the units lie at ua. -/
structure BG (w : World) (B S M : Nat) (g : G) (ua : Option Addr) (cu : Nat) (grid : Nat → Int) (fresh : Int) : Prop where
  bd : Bd w S (boardV g.tick g.g0 g.g1 g.next (.slice ua g.us.length cu) M grid fresh)
  own : w.ownsRow B 130 11 (.slice ua g.us.length cu) g.us.length (cellsAllN g.us)
  mp : ∃ n s, n ≤ 100 ∧ IM w M n s (whoV ua g.us)
  bS : B ≤ S
  bM : B ≤ M
  SM : S ≠ M
  uS : (Value.slice ua g.us.length cu).ownBlock ≠ some S
  uM : (Value.slice ua g.us.length cu).ownBlock ≠ some M
theorem BG.kp {X : Nat → Prop} {w w' : World} {B S M : Nat} {g : G} {ua : Option Addr} {cu : Nat} {grid : Nat → Int} {fresh : Int} (h : BG w B S M g ua cu grid fresh) (k : Kp X w w') (hS : ¬ X S) (hM : ¬ X M) (hu : ∀ b, (Value.slice ua g.us.length cu).ownBlock = some b → ¬ X b) : BG w' B S M g ua cu grid fresh := by
  obtain ⟨n, s, hn, hm⟩ := h.mp
  exact ⟨h.bd.kp k hS, own_kp h.own k hu, ⟨n, s, hn, hm.kp k hM⟩, h.bS, h.bM, h.SM, h.uS, h.uM⟩
theorem BG.call {w w' : World} {B S M : Nat} {g : G} {ua : Option Addr} {cu : Nat} {grid : Nat → Int} {fresh : Int} (h : BG w B S M g ua cu grid fresh) (k : Below w.heap.size w w') : BG w' B S M g ua cu grid fresh :=
  h.kp (kp_of k (fun _ => False)) (fun x => x) (fun x => x) (fun _ _ x => x)
/-- One cell of a unit is written (not its ID's). -/
theorem BG.poke {w : World} {B S M : Nat} {g : G} {gg cu : Nat} {grid : Nat → Int} {fresh : Int} (h : BG w B S M g (some ⟨gg, 0, none⟩) cu grid fresh) {k j : Nat} (hk : k < g.us.length) (hj : j < 11) {v : Value} {u' : U} (hu : cellsN u' = (cellsN (g.us.getD k zeroU)).set j v) (hid : u'.id = (g.us.getD k zeroU).id) :
    BG (w.setCell ⟨gg, k * 11 + j, none⟩ v) B S M { g with us := g.us.set k u' } (some ⟨gg, 0, none⟩) cu grid fresh := by
  obtain ⟨h1, h2⟩ := World.ownsRow.stored h.own (k * 11 + j) v
  rw [cellsAllN_set hk hj hu] at h1
  have kp : Kp (fun b => b = gg) w (w.setCell ⟨gg, k * 11 + j, none⟩ v) := Kp.setCell w ⟨gg, k * 11 + j, none⟩ v
  have hS : gg ≠ S := fun e => h.uS (by rw [← e]; rfl)
  have hM : gg ≠ M := fun e => h.uM (by rw [← e]; rfl)
  have hl : (g.us.set k u').length = g.us.length := List.length_set
  obtain ⟨n, s, hn, hm⟩ := h.mp
  refine ⟨?_, ?_, ⟨n, s, hn, ?_⟩, h.bS, h.bM, h.SM, ?_, ?_⟩
  · show Bd _ S (boardV g.tick g.g0 g.g1 g.next (.slice (some ⟨gg, 0, none⟩) (g.us.set k u').length cu) M grid fresh)
    rw [hl]
    exact h.bd.kp kp (fun e => hS e.symm)
  · show World.ownsRow _ B 130 11 (.slice (some ⟨gg, 0, none⟩) (g.us.set k u').length cu) (g.us.set k u').length (cellsAllN (g.us.set k u'))
    rw [hl]
    exact h1
  · have e : whoV (some ⟨gg, 0, none⟩) (g.us.set k u') = whoV (some ⟨gg, 0, none⟩) g.us := by
      funext id
      unfold whoV
      rw [who_ids (ids_set hk hid)]
    show IM _ M n s (whoV (some ⟨gg, 0, none⟩) (g.us.set k u'))
    rw [e]
    exact hm.kp kp (fun e => hM e.symm)
  · exact h.uS
  · exact h.uM
/-- One is told something. -/
theorem BG.tell {w : World} {B S M : Nat} {g : G} {gg cu : Nat} {grid : Nat → Int} {fresh : Int} (h : BG w B S M g (some ⟨gg, 0, none⟩) cu grid fresh) {k : Nat} {u : U} (hi : g.us[k]? = some u) (d x y t : Int) :
    BG ((((w.setCell ⟨gg, k * 11 + 6, none⟩ (.int .i64 d)).setCell ⟨gg, k * 11 + 7, none⟩ (.int .i64 x)).setCell ⟨gg, k * 11 + 8, none⟩ (.int .i64 y)).setCell ⟨gg, k * 11 + 9, none⟩ (.int .i64 t)) B S M { g with us := g.us.set k (tellU u d x y t) } (some ⟨gg, 0, none⟩) cu grid fresh := by
  obtain ⟨hk, he⟩ := List.getElem?_eq_some_iff.1 hi
  have hd : g.us.getD k zeroU = u := by rw [getD_lt hk, he]
  have s1 : ∀ v : U, (g.us.set k v).getD k zeroU = v := fun v => by rw [getD_lt (by simpa using hk)]; simp
  have g1 := h.poke hk (j := 6) (by decide) (v := .int .i64 d) (u' := { u with does := d }) (by rw [hd]; rfl) (by rw [hd])
  have g2 := g1.poke (k := k) (by simpa using hk) (j := 7) (by decide) (v := .int .i64 x) (u' := { u with does := d, gx := x }) (by rw [s1]; rfl) (by rw [s1])
  dsimp only at g2
  rw [List.set_set] at g2
  have g3 := g2.poke (k := k) (by simpa using hk) (j := 8) (by decide) (v := .int .i64 y) (u' := { u with does := d, gx := x, gy := y }) (by dsimp only; rw [s1]; rfl) (by dsimp only; rw [s1])
  dsimp only at g3
  rw [List.set_set] at g3
  have g4 := g3.poke (k := k) (by simpa using hk) (j := 9) (by decide) (v := .int .i64 t) (u' := { u with does := d, gx := x, gy := y, target := t }) (by dsimp only; rw [s1]; rfl) (by dsimp only; rw [s1])
  dsimp only at g4
  rw [List.set_set] at g4
  exact g4
end Go.Proofs.Ytlfljlhppigejaa
