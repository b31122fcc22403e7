/-
  A board's own cells written: gold, the next number.
-/
import Derived.Test.YtlfljlhppigejaaNewGame
namespace Go.Proofs.Ytlfljlhppigejaa
open Go.RowKit

theorem BG.cell {w : World} {B S M : Nat} {g g' : G} {ua : Option Addr} {cu : Nat} {grid : Nat → Int} {fresh : Int} (h : BG w B S M g ua cu grid fresh) (i : Nat) (v : Value) (hi : i < 151) (hus : g'.us = g.us)
    (hv : ∀ j, j < 151 → (if j = i then v else boardV g.tick g.g0 g.g1 g.next (.slice ua g.us.length cu) M grid fresh j) = boardV g'.tick g'.g0 g'.g1 g'.next (.slice ua g.us.length cu) M grid fresh j) : BG (w.setCell ⟨S, i, none⟩ v) B S M g' ua cu grid fresh := by
  have kp : Kp (fun b => b = S) w (w.setCell ⟨S, i, none⟩ v) := Kp.setCell w ⟨S, i, none⟩ v
  obtain ⟨n, s, hn, hm⟩ := h.mp
  have b1 := (h.bd.store v hi).fn hv
  rw [← hus] at b1
  refine ⟨b1, ?_, ⟨n, s, hn, ?_⟩, h.bS, h.bM, h.SM, ?_, ?_⟩
  · rw [hus]
    exact own_kp h.own kp (fun b hb e => h.uS (by rw [hb, e]))
  · rw [hus]
    exact hm.kp kp (fun e => h.SM e.symm)
  · rw [hus]; exact h.uS
  · rw [hus]; exact h.uM
theorem BG.pay {w : World} {B S M : Nat} {g : G} {ua : Option Addr} {cu : Nat} {grid : Nat → Int} {fresh : Int} (h : BG w B S M g ua cu grid fresh) {o : Int} (ho : o = 0 ∨ o = 1) (c : Int) :
    BG (w.setCell ⟨S, 1 + o.toNat, none⟩ (.int .i64 (goldOf g o - c))) B S M (pay g o c) ua cu grid fresh := by
  rcases ho with rfl | rfl
  · refine h.cell 1 _ (by omega) rfl (fun j _ => ?_)
    match j with
    | 0 => rfl
    | 1 => rfl
    | 2 => rfl
    | 3 => rfl
    | 4 => rfl
    | 5 => rfl
    | n + 6 => rfl
  · refine h.cell 2 _ (by omega) rfl (fun j _ => ?_)
    match j with
    | 0 => rfl
    | 1 => rfl
    | 2 => rfl
    | 3 => rfl
    | 4 => rfl
    | 5 => rfl
    | n + 6 => rfl
theorem BG.setNext {w : World} {B S M : Nat} {g : G} {ua : Option Addr} {cu : Nat} {grid : Nat → Int} {fresh : Int} (h : BG w B S M g ua cu grid fresh) (n : Int) :
    BG (w.setCell ⟨S, 3, none⟩ (.int .i64 n)) B S M { g with next := n } ua cu grid fresh := by
  refine h.cell 3 _ (by omega) rfl (fun j _ => ?_)
  match j with
  | 0 => rfl
  | 1 => rfl
  | 2 => rfl
  | 3 => rfl
  | 4 => rfl
  | 5 => rfl
  | n + 6 => rfl
end Go.Proofs.Ytlfljlhppigejaa
