/-
  A region that writes a block whole.
-/
import Derived.Test.YtlfljlhppigejabMixK
namespace Go.Proofs.Ytlfljlhppigejab
open Go.RowKit
section
variable {P : Program} {ops : Array Oper} {X : Nat → Prop} {v : World}
theorem kp_setCells (p : Nat) (l : List Value) : ∀ (o : Nat) (w : World), Kp (fun b => b = p) w (w.setCells p o l) := by
  induction l with
  | nil => intro o w; exact Kp.refl _ _
  | cons v l ih => intro o w; exact (Kp.setCell w ⟨p, o, none⟩ v).trans (ih (o + 1) _) (fun _ _ h => h)
/-- A block that turns is written whole. -/
theorem mix_store {L : Act → Cli (InK X v) → Prop} {a : Act} {o : Oper} {r : List (Bool × Oper)} (p : Nat) {z : Array Value} (c : Array Value) (ty : TypeId) (x y : Operand) (ho : o.op = .store ty x y) (hg : o.guard = none) (hd : o.dst = none)
    (hx : a.eval x = .pointer (some ⟨p, 0, none⟩)) (hy : a.eval y = .agg c) (hsz : z.size = c.size) (hi : (P.info? ty).map (·.size) = some c.size) (h1 : c.all (·.oneCell') = true) (hX : X p)
    (hk : wpMix P ops L r a (kcl X v (fun w => Blk w p c) (fun _ _ h hb => h.call hb))) : wpMix P ops L ((true, o) :: r) a (kcl X v (fun w => Blk w p z) (fun _ _ h hb => h.call hb)) := by
  refine mix_write (ι := Unit) (fun _ => undef) (fun _ => kcl X v (fun w => Blk w p c) (fun _ _ h hb => h.call hb)) (by simp [Region.wanted, hg]) (fun w h => ?_) (fun _ => ?_)
  · have ht : w.there p 0 c.size := fun j hj => ⟨by rw [Nat.zero_add, h.2.cell j, Array.getElem?_eq_getElem (by omega)]; rfl, by rw [Nat.zero_add]; exact h.2.free j⟩
    obtain ⟨w', h2, h3, -⟩ := store_blk (P := P) (ty := ty) h.2 hsz hi h1
    have hw' : w' = w.setCells p 0 c.toList := by
      rw [run_storeAt_mid w p 0 ty c ht hi h1] at h2
      cases h2
      rfl
    refine ⟨(), w', Or.inr ⟨?_, rfl⟩, h.1.trans (by rw [hw']; exact kp_setCells p _ 0 w) (fun b _ hb => by rw [hb]; exact hX), h3⟩
    unfold execOp
    simp only [ho, hx, hy, Sem.run_bind, h2, Result.andThen_ok]
    rfl
  · rw [show a.put o.dst undef = a from by rw [hd]; rfl]
    exact hk
end
end Go.Proofs.Ytlfljlhppigejab
