/-
  The walk of elder.move.
-/
import Derived.Test.YtlfljlhppigejabElderOwn
import Derived.Test.YtlfljlhppigejabPackMaps
namespace Go.Proofs.Ytlfljlhppigejab
open Go.RowKit
attribute [local go_sem] qOne qAt qUp qOneK

abbrev IM := MapOf Try.prog 3 (Value.int .i64) (fun a => (Lit.int .i64 a).wf = true)
end Go.Proofs.Ytlfljlhppigejab
