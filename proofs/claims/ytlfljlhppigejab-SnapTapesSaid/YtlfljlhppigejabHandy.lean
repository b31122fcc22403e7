/-
  Small words for the walks of both games.
-/
import Derived.Test.YtlfljlhppigejabMaps
namespace Go.Proofs.Ytlfljlhppigejab
open Go.RowKit
theorem wf_int {a : Int} (h : -9223372036854775808 ≤ a ∧ a < 9223372036854775808) : (Lit.int .i64 a).wf = true := by
  simp [Lit.wf, IntKind.min, IntKind.max, IntKind.signed, IntKind.bits]
  omega
theorem MapOf.fn {P : Program} {k : TypeId} {ι : Type} {emb : ι → Value} {ok : ι → Prop} {w : World} {b n sz sz' : Nat} {f f' : ι → Option Value} (h : MapOf P k emb ok w b n sz f) (hf : ∀ i, f i = f' i) (hs : sz = sz') : MapOf P k emb ok w b n sz' f' := by
  obtain rfl : f = f' := funext hf
  subst hs
  exact h
end Go.Proofs.Ytlfljlhppigejab
