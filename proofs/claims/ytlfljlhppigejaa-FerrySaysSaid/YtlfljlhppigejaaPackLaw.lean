/-
  The closed fact of the law ElderSays: a worker goes; what is not played (out of bounds). A step and a play of the elder game, by the program and by the document, in one form. Parts of the law ElderSays: its memory; commands of one's own, with one more behind them.
-/
import Derived.Test.YtlfljlhppigejaaRefPlayE
import Derived.Test.YtlfljlhppigejaaPackWire
import Derived.Test.YtlfljlhppigejaaOwnAll
import Derived.Test.YtlfljlhppigejaaRefSame
import Derived.Test.YtlfljlhppigejaaElderCheck
namespace Go.Proofs.Ytlfljlhppigejaa
open Go.RowKit
attribute [local go_sem] qOne qAt qUp qOneK

def cP : List Cm := [⟨0, 1, 1, 0, 5, 3, 0⟩]
def uQ : U := ⟨1, 0, 1, 4, 3, 5, 1, 5, 3, 0, 0⟩
def gQ : G := ⟨false, 1, 0, 0, 2, [], [uQ]⟩
set_option maxHeartbeats 1600000 in
set_option maxRecDepth 100000 in
theorem play_bad (g : G) (fa ua ta : Option Addr) (cf cu ct : Nat) (ts : List (List Cm)) (hct : ts.length ≤ 100000) (n : Int) (hn : n < 0 ∨ (ts.length : Int) < n) (w : World) :
    Calls Try.prog 62 #[.agg #[.int .i64 g.tick, .int .i64 g.g0, .int .i64 g.g1, .int .i64 g.next, .slice fa g.free.length cf, .slice ua g.us.length cu, .slice ta ts.length ct], .int .i64 n] w fun e w' => e = .returned (.tuple #[.agg #[.int .i64 0, .int .i64 0, .int .i64 0, .int .i64 0, .slice none 0 0, .slice none 0 0], errV 1]) ∧ Below w.heap.size w w' := by
  obtain ⟨W, hW⟩ : ∃ W, (w.alloc (.cells #[.int .i64 g.tick, .int .i64 g.g0, .int .i64 g.g1, .int .i64 g.next, .slice fa g.free.length cf, .slice ua g.us.length cu, .slice ta ts.length ct] 94)).alloc (.cells #[.int .i64 0, .int .i64 0, .int .i64 0, .int .i64 0, .slice none 0 0, .slice none 0 0] 90) = W := ⟨_, rfl⟩
  have hbW : Below w.heap.size w W := by rw [← hW]; exact ((Below.refl _ _).alloc (Nat.le_refl _) _).alloc (by simp) _
  have kS : Blk W w.heap.size #[.int .i64 g.tick, .int .i64 g.g0, .int .i64 g.g1, .int .i64 g.next, .slice fa g.free.length cf, .slice ua g.us.length cu, .slice ta ts.length ct] := by rw [← hW]; exact (Blk.new w _ _).alloc _
  have kR : Blk W (w.heap.size + 1) #[.int .i64 0, .int .i64 0, .int .i64 0, .int .i64 0, .slice none 0 0, .slice none 0 0] := by
    rw [← hW]
    have := Blk.new (w.alloc (.cells #[.int .i64 g.tick, .int .i64 g.g0, .int .i64 g.g1, .int .i64 g.next, .slice fa g.free.length cf, .slice ua g.us.length cu, .slice ta ts.length ct] 94)) #[.int .i64 0, .int .i64 0, .int .i64 0, .int .i64 0, .slice none 0 0, .slice none 0 0] 90
    rw [World.size_alloc] at this
    exact this
  obtain ⟨lS0, cS0, -⟩ := id kS
  have HBW := Lib.hid hbW
  have KR := Lib.hid kR
  obtain ⟨lR2, -, fR2⟩ := id kR
  obtain ⟨z0, z1, z2, z3, z4, z5⟩ : W.cell? ⟨w.heap.size + 1, 0, none⟩ = some (.int .i64 0) ∧ W.cell? ⟨w.heap.size + 1, 1, none⟩ = some (.int .i64 0) ∧ W.cell? ⟨w.heap.size + 1, 2, none⟩ = some (.int .i64 0) ∧ W.cell? ⟨w.heap.size + 1, 3, none⟩ = some (.int .i64 0) ∧ W.cell? ⟨w.heap.size + 1, 4, none⟩ = some (.slice none 0 0) ∧ W.cell? ⟨w.heap.size + 1, 5, none⟩ = some (.slice none 0 0) := ⟨kR.cell 0, kR.cell 1, kR.cell 2, kR.cell 3, kR.cell 4, kR.cell 5⟩
  clear hbW kS kR
  go_enter Try.func62, Try.ntmps62
  go_upto_region 1 with fail
  try rw [hW]
  clear hW
  by_cases h0 : n < 0
  · have d0 : decide (n < 0) = true := decide_eq_true h0
    clear h0 hn
    go_wp2_with fail
    refine bodyPost_ret (v := .tuple #[.agg #[.int .i64 0, .int .i64 0, .int .i64 0, .int .i64 0, .slice none 0 0, .slice none 0 0], .iface 148 (.int .i64 1)]) (ret_pair Try.results62 rfl rfl (KR.out.store6 rfl (.int .i64 0) (.int .i64 0) (.int .i64 0) (.int .i64 0) (.slice none 0 0) (.slice none 0 0)) Try.underlying90 rfl infoElder) rfl ?_
    exact ⟨rfl, Below.six HBW.out (by omega) _ _ _ _ _ _⟩
  · have d0 : decide (n < 0) = false := decide_eq_false h0
    have d1 : decide ((ts.length : Int) < n) = true := decide_eq_true (by omega)
    clear h0 hn
    go_wp2_with fail
    refine bodyPost_ret (v := .tuple #[.agg #[.int .i64 0, .int .i64 0, .int .i64 0, .int .i64 0, .slice none 0 0, .slice none 0 0], .iface 148 (.int .i64 1)]) (ret_pair Try.results62 rfl rfl (KR.out.store6 rfl (.int .i64 0) (.int .i64 0) (.int .i64 0) (.int .i64 0) (.slice none 0 0) (.slice none 0 0)) Try.underlying90 rfl infoElder) rfl ?_
    exact ⟨rfl, Below.six HBW.out (by omega) _ _ _ _ _ _⟩

set_option maxHeartbeats 1600000 in
set_option maxRecDepth 100000 in
theorem refplay_bad (g : G) (fa ua ta : Option Addr) (cf cu ct : Nat) (ts : List (List Cm)) (hct : ts.length ≤ 100000) (n : Int) (hn : n < 0 ∨ (ts.length : Int) < n) (w : World) :
    Calls Try.prog 63 #[.agg #[.int .i64 g.tick, .int .i64 g.g0, .int .i64 g.g1, .int .i64 g.next, .slice fa g.free.length cf, .slice ua g.us.length cu, .slice ta ts.length ct], .int .i64 n] w fun e w' => e = .returned (.tuple #[.agg #[.int .i64 0, .int .i64 0, .int .i64 0, .int .i64 0, .slice none 0 0, .slice none 0 0], .int .i64 1]) ∧ Below w.heap.size w w' := by
  obtain ⟨W, hW⟩ : ∃ W, (w.alloc (.cells #[.int .i64 g.tick, .int .i64 g.g0, .int .i64 g.g1, .int .i64 g.next, .slice fa g.free.length cf, .slice ua g.us.length cu, .slice ta ts.length ct] 94)).alloc (.cells #[.int .i64 0, .int .i64 0, .int .i64 0, .int .i64 0, .slice none 0 0, .slice none 0 0] 90) = W := ⟨_, rfl⟩
  have hbW : Below w.heap.size w W := by rw [← hW]; exact ((Below.refl _ _).alloc (Nat.le_refl _) _).alloc (by simp) _
  have kS : Blk W w.heap.size #[.int .i64 g.tick, .int .i64 g.g0, .int .i64 g.g1, .int .i64 g.next, .slice fa g.free.length cf, .slice ua g.us.length cu, .slice ta ts.length ct] := by rw [← hW]; exact (Blk.new w _ _).alloc _
  have kR : Blk W (w.heap.size + 1) #[.int .i64 0, .int .i64 0, .int .i64 0, .int .i64 0, .slice none 0 0, .slice none 0 0] := by
    rw [← hW]
    have := Blk.new (w.alloc (.cells #[.int .i64 g.tick, .int .i64 g.g0, .int .i64 g.g1, .int .i64 g.next, .slice fa g.free.length cf, .slice ua g.us.length cu, .slice ta ts.length ct] 94)) #[.int .i64 0, .int .i64 0, .int .i64 0, .int .i64 0, .slice none 0 0, .slice none 0 0] 90
    rw [World.size_alloc] at this
    exact this
  obtain ⟨lS0, cS0, -⟩ := id kS
  have HBW := Lib.hid hbW
  have KR := Lib.hid kR
  obtain ⟨lR2, -, fR2⟩ := id kR
  obtain ⟨z0, z1, z2, z3, z4, z5⟩ : W.cell? ⟨w.heap.size + 1, 0, none⟩ = some (.int .i64 0) ∧ W.cell? ⟨w.heap.size + 1, 1, none⟩ = some (.int .i64 0) ∧ W.cell? ⟨w.heap.size + 1, 2, none⟩ = some (.int .i64 0) ∧ W.cell? ⟨w.heap.size + 1, 3, none⟩ = some (.int .i64 0) ∧ W.cell? ⟨w.heap.size + 1, 4, none⟩ = some (.slice none 0 0) ∧ W.cell? ⟨w.heap.size + 1, 5, none⟩ = some (.slice none 0 0) := ⟨kR.cell 0, kR.cell 1, kR.cell 2, kR.cell 3, kR.cell 4, kR.cell 5⟩
  clear hbW kS kR
  go_enter Try.func63, Try.ntmps63
  go_upto_region 1 with fail
  try rw [hW]
  clear hW
  by_cases h0 : n < 0
  · have d0 : decide (n < 0) = true := decide_eq_true h0
    clear h0 hn
    go_wp2_with fail
    refine bodyPost_ret (v := .tuple #[.agg #[.int .i64 0, .int .i64 0, .int .i64 0, .int .i64 0, .slice none 0 0, .slice none 0 0], .int .i64 1]) (ret_pair Try.results63 rfl rfl (KR.out.store6 rfl (.int .i64 0) (.int .i64 0) (.int .i64 0) (.int .i64 0) (.slice none 0 0) (.slice none 0 0)) Try.underlying90 rfl infoElder) rfl ?_
    exact ⟨rfl, Below.six HBW.out (by omega) _ _ _ _ _ _⟩
  · have d0 : decide (n < 0) = false := decide_eq_false h0
    have d1 : decide ((ts.length : Int) < n) = true := decide_eq_true (by omega)
    clear h0 hn
    go_wp2_with fail
    refine bodyPost_ret (v := .tuple #[.agg #[.int .i64 0, .int .i64 0, .int .i64 0, .int .i64 0, .slice none 0 0, .slice none 0 0], .int .i64 1]) (ret_pair Try.results63 rfl rfl (KR.out.store6 rfl (.int .i64 0) (.int .i64 0) (.int .i64 0) (.int .i64 0) (.slice none 0 0) (.slice none 0 0)) Try.underlying90 rfl infoElder) rfl ?_
    exact ⟨rfl, Below.six HBW.out (by omega) _ _ _ _ _ _⟩
end Go.Proofs.Ytlfljlhppigejaa
namespace Go.Proofs.Ytlfljlhppigejaa
open Go.RowKit

/-- What is played, for any number of ticks: the error's number, the state (zero, if it is not played). -/
def playN (g : G) (ts : List (List Cm)) (n : Int) : Nat × G := if n < 0 ∨ (ts.length : Int) < n then (1, zeroG false) else ((playF g (ts.take n.toNat)).1, if (playF g (ts.take n.toNat)).1 = 0 then (playF g (ts.take n.toNat)).2 else zeroG false)
def PlayAll (err : Value) (x : G) (w : World) (e : Ending) (w' : World) : Prop :=
  ∃ fx fc ux uc, e = .returned (.tuple #[.agg #[.int .i64 x.tick, .int .i64 x.g0, .int .i64 x.g1, .int .i64 x.next, .slice fx x.free.length fc, .slice ux x.us.length uc], err]) ∧ Row w'.heap.size w' fx x.free.length (fun k => .int .i64 (x.free.getD k 0)) ∧ URow false w'.heap.size w' ux x.us ∧ Below w.heap.size w w'
theorem playall_prog (g : G) (fa ua ta : Option Addr) (cf cu ct : Nat) (hnew : g.new = false) (hcf : g.free.length ≤ 100000) (hcu : g.us.length ≤ 100000) (ts : List (List Cm)) (hct : ts.length ≤ 100000) (hcap : ts.length ≤ ct) (n : Int) (w : World)
    (hf : Row w.heap.size w fa g.free.length (fun k => .int .i64 (g.free.getD k 0))) (hu : URow false w.heap.size w ua g.us) (ht : TRow w.heap.size w ta ts) (hfit : ∀ n ∈ g.free, Fits64 n) :
    Calls Try.prog 62 #[.agg #[.int .i64 g.tick, .int .i64 g.g0, .int .i64 g.g1, .int .i64 g.next, .slice fa g.free.length cf, .slice ua g.us.length cu, .slice ta ts.length ct], .int .i64 n] w (PlayAll (errV (playN g ts n).1) (playN g ts n).2 w) := by
  by_cases hn : n < 0 ∨ (ts.length : Int) < n
  · refine (play_bad g fa ua ta cf cu ct ts hct n hn w).mono ?_
    rintro e w' ⟨rfl, hb⟩
    unfold playN
    rw [if_pos hn]
    exact ⟨none, 0, none, 0, rfl, fun k hk => absurd hk (Nat.not_lt_zero k), fun k hk => absurd hk (Nat.not_lt_zero k), hb⟩
  · obtain ⟨m, rfl⟩ := Int.eq_ofNat_of_zero_le (show 0 ≤ n by omega)
    refine (play_any g fa ua ta cf cu ct hnew hcf hcu ts (by unfold maxLen; omega) hcap m (by omega) w hf hu ht hfit).mono ?_
    rintro e w' ⟨hb, ⟨hne, rfl⟩ | ⟨hz, fv, ev, rfl, o1, o2⟩⟩
    · unfold playN
      rw [if_neg hn, Int.toNat_natCast, if_neg hne]
      exact ⟨none, 0, none, 0, rfl, fun k hk => absurd hk (Nat.not_lt_zero k), fun k hk => absurd hk (Nat.not_lt_zero k), hb⟩
    · unfold playN
      rw [if_neg hn, Int.toNat_natCast, if_pos hz, hz]
      obtain ⟨a, c, rfl, r1⟩ := ints_at rfl o1
      obtain ⟨a2, c2, rfl, -, r2, -⟩ := URow.of_own o2
      exact ⟨a, c, a2, c2, rfl, r1, r2, hb⟩
theorem playall_ref (g : G) (fa ua ta : Option Addr) (cf cu ct : Nat) (hsl : sinceless g) (hcf : g.free.length ≤ 100000) (hcu : g.us.length ≤ 100000) (ts : List (List Cm)) (hct : ts.length ≤ 100000) (hcap : ts.length ≤ ct) (hll : ∀ l ∈ ts, l.length ≤ 100000) (n : Int) (w : World)
    (hf : Row w.heap.size w fa g.free.length (fun k => .int .i64 (g.free.getD k 0))) (hu : URow false w.heap.size w ua g.us) (ht : TRow w.heap.size w ta ts) :
    Calls Try.prog 63 #[.agg #[.int .i64 g.tick, .int .i64 g.g0, .int .i64 g.g1, .int .i64 g.next, .slice fa g.free.length cf, .slice ua g.us.length cu, .slice ta ts.length ct], .int .i64 n] w (PlayAll (.int .i64 ((playN g ts n).1 : Nat)) (playN g ts n).2 w) := by
  by_cases hn : n < 0 ∨ (ts.length : Int) < n
  · refine (refplay_bad g fa ua ta cf cu ct ts hct n hn w).mono ?_
    rintro e w' ⟨rfl, hb⟩
    unfold playN
    rw [if_pos hn]
    exact ⟨none, 0, none, 0, rfl, fun k hk => absurd hk (Nat.not_lt_zero k), fun k hk => absurd hk (Nat.not_lt_zero k), hb⟩
  · obtain ⟨m, rfl⟩ := Int.eq_ofNat_of_zero_le (show 0 ≤ n by omega)
    refine (refplaye_any g fa ua ta cf cu ct hsl hcf hcu ts hct hcap hll m (by omega) w hf hu ht).mono ?_
    rintro e w' ⟨hb, ⟨hne, rfl⟩ | ⟨hz, fa', ua', cf', cu', rfl, r1, r2⟩⟩
    · unfold playN
      rw [if_neg hn, Int.toNat_natCast, if_neg hne]
      exact ⟨none, 0, none, 0, rfl, fun k hk => absurd hk (Nat.not_lt_zero k), fun k hk => absurd hk (Nat.not_lt_zero k), hb⟩
    · unfold playN
      rw [if_neg hn, Int.toNat_natCast, if_pos hz, hz]
      exact ⟨fa', cf', ua', cu', rfl, r1, r2, hb⟩
end Go.Proofs.Ytlfljlhppigejaa
namespace Go.Proofs.Ytlfljlhppigejaa
open Go.RowKit

/-- A state lies in p. -/
structure SV (x : World) (p : Nat) (g : G) (fa ua : Option Addr) (cf cu : Nat) : Prop where
  blk : Blk x p #[.int .i64 g.tick, .int .i64 g.g0, .int .i64 g.g1, .int .i64 g.next, .slice fa g.free.length cf, .slice ua g.us.length cu]
  rf : Row x.heap.size x fa g.free.length (fun k => .int .i64 (g.free.getD k 0))
  ru : URow false x.heap.size x ua g.us
theorem SV.call {x y : World} {p : Nat} {g : G} {fa ua : Option Addr} {cf cu : Nat} (H : SV x p g fa ua cf cu) (hb : Below x.heap.size x y) : SV y p g fa ua cf cu :=
  ⟨H.blk.call hb, (H.rf.below hb).mono hb.size, (H.ru.below hb).mono hb.size⟩
theorem SV.new {x : World} {g : G} {fa ua : Option Addr} {cf cu : Nat} (rf : Row x.heap.size x fa g.free.length (fun k => .int .i64 (g.free.getD k 0))) (ru : URow false x.heap.size x ua g.us) (T : TypeId) : SV (x.alloc (.cells #[.int .i64 g.tick, .int .i64 g.g0, .int .i64 g.g1, .int .i64 g.next, .slice fa g.free.length cf, .slice ua g.us.length cu] T)) x.heap.size g fa ua cf cu :=
  have hb : Below x.heap.size x (x.alloc (.cells #[.int .i64 g.tick, .int .i64 g.g0, .int .i64 g.g1, .int .i64 g.next, .slice fa g.free.length cf, .slice ua g.us.length cu] T)) := (Below.refl _ _).alloc (Nat.le_refl _) _
  ⟨Blk.new _ _ _, (rf.below hb).mono hb.size, (ru.below hb).mono hb.size⟩
/-- The law's own memory: what was handed in. -/
structure HoldE (w x : World) (g : G) (fa ua : Option Addr) (cf cu : Nat) (cs : List Cm) (la : Option Addr) (t : G) (fb ub tb : Option Addr) (cg cv ct : Nat) (ts : List (List Cm)) : Prop where
  bel : Below w.heap.size w x
  sv : SV x w.heap.size g fa ua cf cu
  kT : Blk x (w.heap.size + 1) #[.int .i64 t.tick, .int .i64 t.g0, .int .i64 t.g1, .int .i64 t.next, .slice fb t.free.length cg, .slice ub t.us.length cv, .slice tb ts.length ct]
  rc : CRow x.heap.size x la cs
  rf : Row x.heap.size x fb t.free.length (fun k => .int .i64 (t.free.getD k 0))
  ru : URow false x.heap.size x ub t.us
  rt : TRow x.heap.size x tb ts
theorem HoldE.call {w x y : World} {g : G} {fa ua : Option Addr} {cf cu : Nat} {cs : List Cm} {la : Option Addr} {t : G} {fb ub tb : Option Addr} {cg cv ct : Nat} {ts : List (List Cm)} (H : HoldE w x g fa ua cf cu cs la t fb ub tb cg cv ct ts) (hb : Below x.heap.size x y) : HoldE w y g fa ua cf cu cs la t fb ub tb cg cv ct ts :=
  ⟨H.bel.trans (hb.mono H.bel.size), H.sv.call hb, H.kT.call hb, (H.rc.below hb).mono hb.size, (H.rf.below hb).mono hb.size, (H.ru.below hb).mono hb.size, (H.rt.below hb).mono hb.size⟩
def cellsCs (cs : List Cm) : List Value := cs.flatMap cellsC
theorem cellsCs_length (cs : List Cm) : (cellsCs cs).length = cs.length * 7 := by
  induction cs with
  | nil => rfl
  | cons c cs ih => simp only [cellsCs, List.flatMap_cons, List.length_append, List.length_cons] at *; rw [ih]; show 7 + _ = _; omega
theorem cellsCs_get (cs : List Cm) : ∀ i j, i < cs.length → j < 7 → (cellsCs cs)[i * 7 + j]? = (cellsC (cs.getD i zeroC))[j]? := by
  induction cs with
  | nil => intro i j hi; cases hi
  | cons c cs ih =>
    intro i j hi hj
    cases i with
    | zero =>
      show (cellsC c ++ cellsCs cs)[0 * 7 + j]? = (cellsC c)[j]?
      rw [Nat.zero_mul, Nat.zero_add, List.getElem?_append_left (by show j < 7; exact hj)]
    | succ i =>
      show (cellsC c ++ cellsCs cs)[(i + 1) * 7 + j]? = _
      rw [List.getElem?_append_right (by show 7 ≤ _; omega), show (i + 1) * 7 + j - (cellsC c).length = i * 7 + j by show (i + 1) * 7 + j - 7 = _; omega, ih i j (by simpa using hi) hj]
      rfl
theorem CRow.of_own {B : Nat} {w : World} {g cap n : Nat} {cs : List Cm} {more : List Value} (h : w.ownsRow B 99 7 (.slice (some ⟨g, 0, none⟩) n cap) n (cellsCs cs ++ more)) (hn : cs.length < n) : CRow w.heap.size w (some ⟨g, 0, none⟩) cs ∧ n ≤ cap := by
  rcases h.2 with ⟨h1, -⟩ | ⟨g', cap', cur, h1, -, h3, h4, h5, h6, h7⟩
  · cases h1
  · cases h1
    refine ⟨fun i hi => ⟨g, 0, rfl, ?_, fun j hj => ?_⟩, h4⟩
    · exact (Array.getElem?_eq_some_iff.1 h3).1
    · have e1 : w.cell? ⟨g, 0 + i * 7 + j, none⟩ = cur[i * 7 + j]? := by
        rw [Nat.zero_add]
        simp [World.cell?, h3]
      rw [e1, ← cellsCs_get cs i j hi hj]
      have e2 : (cellsCs cs)[i * 7 + j]? = (cur.toList.take (n * 7))[i * 7 + j]? := by
        rw [h7, List.getElem?_append_left (by rw [cellsCs_length]; omega)]
      rw [e2, List.getElem?_take_of_lt (by omega)]
      simp
end Go.Proofs.Ytlfljlhppigejaa
