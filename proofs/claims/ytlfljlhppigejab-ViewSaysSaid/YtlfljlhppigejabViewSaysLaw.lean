/-
  The law ViewSays: any states, any views. (Printed by gen_viewlaw.py.)
-/
import Derived.Test.YtlfljlhppigejabViewLawA
import Derived.Test.YtlfljlhppigejabViewLawB
namespace Go.Proofs.Ytlfljlhppigejab
open Go.RowKit

theorem views_law (g h : G) (fa ua va aa ba : Option Addr) (cf cu cv ca cb : Nat) (ta a0 a1 tb b0 b1 : Int) (xs ys : List Sn) (hgn : g.new = false) (hhn : h.new = true) (hhf : h.free = []) (hgl : g.us.length ≤ 9223372036854775807) (hgf : g.free.length ≤ 9223372036854775807) (hgfit : ∀ n ∈ g.free, Fits64 n)
    (w : World) (hrf : Row w.heap.size w fa g.free.length (fun k => .int .i64 (g.free.getD k 0))) (hru : URow false w.heap.size w ua g.us) (hrv : URow true w.heap.size w va h.us) (hra : SRow w.heap.size w aa xs) (hrb : SRow w.heap.size w ba ys) :
    Calls Try.prog 4 #[.agg #[.int .i64 g.tick, .int .i64 g.g0, .int .i64 g.g1, .int .i64 g.next, .slice fa g.free.length cf, .slice ua g.us.length cu], .agg #[.int .i64 h.tick, .int .i64 h.g0, .int .i64 h.g1, .int .i64 h.next, .slice va h.us.length cv], .agg #[.int .i64 ta, .int .i64 a0, .int .i64 a1, .slice aa xs.length ca], .agg #[.int .i64 tb, .int .i64 b0, .int .i64 b1, .slice ba ys.length cb]] w (TrueBelow w) := by
  by_cases hE0 : faultOf g = 0
  · by_cases hN0 : faultOf h = 0
    · exact views_gg g h fa ua va aa ba cf cu cv ca cb ta a0 a1 tb b0 b1 xs ys hgn hhn hhf hgl hgf hgfit hE0 hN0 w hrf hru hrv hra hrb
    · exact views_gb g h fa ua va aa ba cf cu cv ca cb ta a0 a1 tb b0 b1 xs ys hgn hhn hhf hgl hgf hgfit hE0 hN0 w hrf hru hrv hra hrb
  · by_cases hN0 : faultOf h = 0
    · exact views_bg g h fa ua va aa ba cf cu cv ca cb ta a0 a1 tb b0 b1 xs ys hgn hhn hhf hgl hgf hgfit hE0 hN0 w hrf hru hrv hra hrb
    · exact views_bb g h fa ua va aa ba cf cu cv ca cb ta a0 a1 tb b0 b1 xs ys hgn hhn hhf hgl hgf hgfit hE0 hN0 w hrf hru hrv hra hrb
end Go.Proofs.Ytlfljlhppigejab
