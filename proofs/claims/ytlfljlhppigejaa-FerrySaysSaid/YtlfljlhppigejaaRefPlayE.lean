/-
  The walk of the document's PlayElder. (Printed by gen_refplaye.py.)
-/
import Derived.Test.YtlfljlhppigejaaRefStepE
import Derived.Test.YtlfljlhppigejaaPackPure
import Derived.Test.YtlfljlhppigejaaPlayAll
import Derived.Test.YtlfljlhppigejaaPackMix
namespace Go.Proofs.Ytlfljlhppigejaa
open Go.RowKit
attribute [local go_sem] qOne qAt qUp qOneK

/-- What comes back of a step: a state's cells, a value beside. -/
abbrev Six := {q : Array Value × Value // q.1.size = 6 ∧ q.1.all (·.oneCell') = true}
/-- A state behind a step, by its cells. -/
def SixAt (v : World) (F : Nat) (g : G) (c : Array Value) (w : World) : Prop :=
  F = 0 → ∃ a n a' n', c = #[.int .i64 g.tick, .int .i64 g.g0, .int .i64 g.g1, .int .i64 g.next, .slice a g.free.length n, .slice a' g.us.length n'] ∧
    w.ownsRow v.heap.size 3 1 (.slice a g.free.length n) g.free.length (intCells g.free) ∧ w.ownsRow v.heap.size 179 10 (.slice a' g.us.length n') g.us.length (cellsAll g.us)
theorem SixAt.call {v : World} {F : Nat} {g : G} {c : Array Value} {w w' : World} (h : SixAt v F g c w) (hb : Below w.heap.size w w') : SixAt v F g c w' := fun e =>
  let ⟨a, n, a', n', h1, h2, h3⟩ := h e
  ⟨a, n, a', n', h1, own_kp h2 (kp_of hb (fun _ => False)) (fun _ _ x => x), own_kp h3 (kp_of hb (fun _ => False)) (fun _ _ x => x)⟩
/-- .. that is not in p. -/
def SixOff (v : World) (F : Nat) (g : G) (c : Array Value) (p : Nat) (w : World) : Prop :=
  F = 0 → ∃ a n a' n', c = #[.int .i64 g.tick, .int .i64 g.g0, .int .i64 g.g1, .int .i64 g.next, .slice a g.free.length n, .slice a' g.us.length n'] ∧
    w.ownsRow v.heap.size 3 1 (.slice a g.free.length n) g.free.length (intCells g.free) ∧ w.ownsRow v.heap.size 179 10 (.slice a' g.us.length n') g.us.length (cellsAll g.us) ∧
    (∀ b, (Value.slice a g.free.length n).ownBlock = some b → b ≠ p) ∧ ∀ b, (Value.slice a' g.us.length n').ownBlock = some b → b ≠ p
theorem SixOff.kp {v : World} {F : Nat} {g : G} {c : Array Value} {p : Nat} {w w' : World} (h : SixOff v F g c p w) (hk : Kp (fun b => b = p) w w') : SixOff v F g c p w' := fun e =>
  let ⟨a, n, a', n', h1, h2, h3, h4, h5⟩ := h e
  ⟨a, n, a', n', h1, own_kp h2 hk (fun b hb => h4 b hb), own_kp h3 hk (fun b hb => h5 b hb), h4, h5⟩
theorem SixOff.call {v : World} {F : Nat} {g : G} {c : Array Value} {p : Nat} {w w' : World} (h : SixOff v F g c p w) (hb : Below w.heap.size w w') : SixOff v F g c p w' := h.kp (kp_of hb _)
/-- The two worlds, all old blocks as they were. -/
theorem kw_below {v w : World} (h : Kp (fun b => v.heap.size ≤ b) v w) (_ : Nat) : Below v.heap.size v w := h.below (fun _ x => x) (Nat.le_refl _)
/-- Rows that lie elsewhere than in Q. -/
def OffRow (Q : Nat → Prop) (w : World) (a : Option Addr) (n : Nat) (f : Nat → Value) : Prop := ∀ k, k < n → ∃ b o, a = some ⟨b, o, none⟩ ∧ b < w.heap.size ∧ ¬ Q b ∧ w.cell? ⟨b, o + k, none⟩ = some (f k)
def OffURow (Q : Nat → Prop) (w : World) (a : Option Addr) (us : List U) : Prop := ∀ i, i < us.length → ∃ b o, a = some ⟨b, o, none⟩ ∧ b < w.heap.size ∧ ¬ Q b ∧ ∀ j, j < szOf false → w.cell? ⟨b, o + i * szOf false + j, none⟩ = (cellsOf false (us.getD i zeroU))[j]?
theorem OffRow.row {Q : Nat → Prop} {w : World} {a : Option Addr} {n : Nat} {f : Nat → Value} (h : OffRow Q w a n f) : Row w.heap.size w a n f := fun k hk => let ⟨b, o, h1, h2, _, h4⟩ := h k hk; ⟨b, o, h1, h2, h4⟩
theorem OffURow.row {Q : Nat → Prop} {w : World} {a : Option Addr} {us : List U} (h : OffURow Q w a us) : URow false w.heap.size w a us := fun k hk => let ⟨b, o, h1, h2, _, h4⟩ := h k hk; ⟨b, o, h1, h2, h4⟩
theorem OffRow.kp {Q : Nat → Prop} {w w' : World} {a : Option Addr} {n : Nat} {f : Nat → Value} (h : OffRow Q w a n f) (k : Kp Q w w') : OffRow Q w' a n f := fun i hi => let ⟨b, o, h1, h2, h3, h4⟩ := h i hi; ⟨b, o, h1, Nat.lt_of_lt_of_le h2 k.size, h3, (k.cell b _ h2 h3).trans h4⟩
theorem OffURow.kp {Q : Nat → Prop} {w w' : World} {a : Option Addr} {us : List U} (h : OffURow Q w a us) (k : Kp Q w w') : OffURow Q w' a us := fun i hi => let ⟨b, o, h1, h2, h3, h4⟩ := h i hi; ⟨b, o, h1, Nat.lt_of_lt_of_le h2 k.size, h3, fun j hj => (k.cell b _ h2 h3).trans (h4 j hj)⟩
theorem Row.off {Q : Nat → Prop} {B : Nat} {w : World} {a : Option Addr} {n : Nat} {f : Nat → Value} (h : Row B w a n f) (hB : B ≤ w.heap.size) (hQ : ∀ b, b < B → ¬ Q b) : OffRow Q w a n f := fun k hk => let ⟨b, o, h1, h2, h4⟩ := h k hk; ⟨b, o, h1, by omega, hQ b h2, h4⟩
theorem URow.off {Q : Nat → Prop} {B : Nat} {w : World} {a : Option Addr} {us : List U} (h : URow false B w a us) (hB : B ≤ w.heap.size) (hQ : ∀ b, b < B → ¬ Q b) : OffURow Q w a us := fun k hk => let ⟨b, o, h1, h2, h4⟩ := h k hk; ⟨b, o, h1, by omega, hQ b h2, h4⟩
theorem off_ints {Q : Nat → Prop} {B n : Nat} {w : World} {a : Option Addr} {c : Nat} {l : List Int} (h : w.ownsRow B 3 1 (.slice a n c) n (intCells l)) (hl : l.length = n) (hQ : ∀ b, B ≤ b → ¬ Q b) : OffRow Q w a n (fun k => .int .i64 (l.getD k 0)) := fun k hk => by
  obtain ⟨b, o, h1, h2, h3⟩ := ints_in hl h k hk
  exact ⟨b, o, h1, h2, hQ b (World.ownsRow.lt h b (by rw [h1]; rfl)).1, h3⟩
theorem off_ents {Q : Nat → Prop} {B : Nat} {w : World} {a : Option Addr} {c : Nat} {us : List U} (h : w.ownsRow B 179 10 (.slice a us.length c) us.length (cellsAll us)) (hQ : ∀ b, B ≤ b → ¬ Q b) : OffURow Q w a us := fun k hk => by
  obtain ⟨a', c', e, -, hr, -⟩ := URow.of_own h
  cases e
  obtain ⟨b, o, h1, h2, h3⟩ := hr k hk
  exact ⟨b, o, h1, h2, hQ b (World.ownsRow.lt h b (by rw [h1]; rfl)).1, h3⟩
/-- What is played is handed back. -/
def RPlayEnd (s : Nat × G) (w : World) (e : Ending) (w' : World) : Prop :=
  Below w.heap.size w w' ∧ ((s.1 ≠ 0 ∧ e = .returned (.tuple #[.agg #[.int .i64 0, .int .i64 0, .int .i64 0, .int .i64 0, .slice none 0 0, .slice none 0 0], .int .i64 (s.1 : Nat)])) ∨
    (s.1 = 0 ∧ ∃ fa ua cf cu, e = .returned (.tuple #[.agg #[.int .i64 s.2.tick, .int .i64 s.2.g0, .int .i64 s.2.g1, .int .i64 s.2.next, .slice fa s.2.free.length cf, .slice ua s.2.us.length cu], .int .i64 0]) ∧
      Row w'.heap.size w' fa s.2.free.length (fun k => .int .i64 (s.2.free.getD k 0)) ∧ URow false w'.heap.size w' ua s.2.us))

set_option maxHeartbeats 25600000 in
set_option maxRecDepth 100000 in
theorem refplaye_any (g : G) (fa ua ta : Option Addr) (cf cu ct : Nat) (hsl : sinceless g) (hlf : g.free.length ≤ 100000) (hlu : g.us.length ≤ 100000) (ts : List (List Cm)) (hct : ts.length ≤ 100000) (hcap : ts.length ≤ ct) (hll : ∀ l ∈ ts, l.length ≤ 100000) (n : Nat) (hn : n ≤ ts.length) (w : World)
    (hf : Row w.heap.size w fa g.free.length (fun k => .int .i64 (g.free.getD k 0))) (hu : URow false w.heap.size w ua g.us) (ht : TRow w.heap.size w ta ts) :
    Calls Try.prog 63 #[.agg #[.int .i64 g.tick, .int .i64 g.g0, .int .i64 g.g1, .int .i64 g.next, .slice fa g.free.length cf, .slice ua g.us.length cu, .slice ta ts.length ct], .int .i64 n] w (RPlayEnd (playF g (ts.take n)) w) := by
  obtain ⟨W, hW⟩ : ∃ W, (w.alloc (.cells #[.int .i64 g.tick, .int .i64 g.g0, .int .i64 g.g1, .int .i64 g.next, .slice fa g.free.length cf, .slice ua g.us.length cu, .slice ta ts.length ct] 94)).alloc (.cells #[.int .i64 0, .int .i64 0, .int .i64 0, .int .i64 0, .slice none 0 0, .slice none 0 0] 90) = W := ⟨_, rfl⟩
  have hbW : Below w.heap.size w W := by rw [← hW]; exact ((Below.refl _ _).alloc (Nat.le_refl _) _).alloc (by simp) _
  have kS : Blk W w.heap.size #[.int .i64 g.tick, .int .i64 g.g0, .int .i64 g.g1, .int .i64 g.next, .slice fa g.free.length cf, .slice ua g.us.length cu, .slice ta ts.length ct] := by rw [← hW]; exact (Blk.new w _ _).alloc _
  have kR : Blk W (w.heap.size + 1) #[.int .i64 0, .int .i64 0, .int .i64 0, .int .i64 0, .slice none 0 0, .slice none 0 0] := by
    rw [← hW]
    have := Blk.new (w.alloc (.cells #[.int .i64 g.tick, .int .i64 g.g0, .int .i64 g.g1, .int .i64 g.next, .slice fa g.free.length cf, .slice ua g.us.length cu, .slice ta ts.length ct] 94)) #[.int .i64 0, .int .i64 0, .int .i64 0, .int .i64 0, .slice none 0 0, .slice none 0 0] 90
    rw [World.size_alloc] at this
    exact this
  have hsW := hbW.size
  have hrf := (hf.below hbW).mono hsW
  have hru := (hu.below hbW).mono hsW
  have hOF := ofelder_any g fa ua cf cu hlf hlu W hrf hru
  rw [back_self hsl] at hOF
  have HOF := Lib.hid hOF
  have HSLG := Lib.hid hsl
  have HRF0 := Lib.hid hf
  have HRU0 := Lib.hid hu
  have HT := Lib.hid ((ht.below hbW).mono hsW)
  have HBW := Lib.hid hbW
  have KS := Lib.hid kS
  have KR := Lib.hid kR
  have HLL := Lib.hid hll
  obtain ⟨lS0, cS0, -⟩ := id kS
  have d0 : decide ((n : Int) < 0) = false := decide_eq_false (by omega)
  have d1 : decide ((ts.length : Int) < (n : Int)) = false := decide_eq_false (by omega)
  have hn0 : (0 : Int) ≤ (n : Int) := by omega
  have hKW := kR.lt
  clear hf hu ht hbW kS kR hrf hru hOF hsl hll
  go_enter Try.func63, Try.ntmps63
  go_upto_region 1 with fail
  try rw [hW]
  clear hW
  go_wp2_with fail
  refine HOF.out.mono ?_
  rintro e w1 ⟨S, fv, uv, rfl, gr, hb1⟩
  have hFA := Lib.hid (fault_game gr hlf hlu)
  have HB1 := Lib.hid (HBW.out.trans (hb1.mono hsW))
  have KR1 := Lib.hid (KR.out.call hb1)
  have KS1 := Lib.hid (KS.out.call hb1)
  have hs1 := HB1.out.size
  have HW1 := Lib.hid hb1
  clear gr hb1 cS0 lS0
  go_wp2_with fail
  refine hFA.out.mono ?_
  rintro e w2 ⟨rfl, hb2⟩
  have HB2 := Lib.hid (HB1.out.trans (hb2.mono hs1))
  have KRES := Lib.hid (KR1.out.call hb2)
  have KS2 := Lib.hid (KS1.out.call hb2)
  obtain ⟨lR2, -, fR2⟩ := id KRES.out
  obtain ⟨lS2, cS2, -⟩ := id KS2.out
  have hs2 := HB2.out.size
  have HW2 := Lib.hid (HW1.out.trans (hb2.mono HW1.out.size))
  obtain ⟨z0, z1, z2, z3, z4, z5⟩ : w2.cell? ⟨w.heap.size + 1, 0, none⟩ = some (.int .i64 0) ∧ w2.cell? ⟨w.heap.size + 1, 1, none⟩ = some (.int .i64 0) ∧ w2.cell? ⟨w.heap.size + 1, 2, none⟩ = some (.int .i64 0) ∧ w2.cell? ⟨w.heap.size + 1, 3, none⟩ = some (.int .i64 0) ∧ w2.cell? ⟨w.heap.size + 1, 4, none⟩ = some (.slice none 0 0) ∧ w2.cell? ⟨w.heap.size + 1, 5, none⟩ = some (.slice none 0 0) := ⟨KRES.out.cell 0, KRES.out.cell 1, KRES.out.cell 2, KRES.out.cell 3, KRES.out.cell 4, KRES.out.cell 5⟩
  have hplay0 : playF g [] = (faultOf g, g) := rfl
  clear hb2
  by_cases hfault : faultOf g = 0
  case neg =>
    obtain ⟨FF, hFF⟩ : ∃ x, faultOf g = x := ⟨_, rfl⟩
    rw [hFF] at hfault ⊢
    have HFF := Lib.hid hFF
    have dz : decide ((0 : Int) < (FF : Int)) = true := decide_eq_true (by omega)
    have dz' : decide (0 < FF) = true := decide_eq_true (by omega)
    have HST : Hid (playF g (ts.take n) = (FF, g)) := Lib.hid (by
      show _ = _
      have h1 := playF_stuck (g := g) (ts := ts) (k := 0) (n := n) (Nat.zero_le _) (by show faultOf g ≠ 0; rw [hFF]; exact hfault)
      rw [h1]
      show (faultOf g, g) = _
      rw [hFF])
    have HNF := Lib.hid hfault
    clear hfault hFF hplay0
    go_wp2_with fail
    refine bodyPost_ret (v := .tuple #[.agg #[.int .i64 0, .int .i64 0, .int .i64 0, .int .i64 0, .slice none 0 0, .slice none 0 0], .int .i64 ((FF : Nat))]) (ret_pair Try.results63 rfl rfl (KRES.out.store6 rfl (.int .i64 0) (.int .i64 0) (.int .i64 0) (.int .i64 0) (.slice none 0 0) (.slice none 0 0)) Try.underlying90 rfl infoElder) rfl ?_
    rw [HST.out]
    exact ⟨Below.six HB2.out (by omega) _ _ _ _ _ _, Or.inl ⟨HNF.out, rfl⟩⟩
  have HFZ := Lib.hid hfault
  rw [hfault]
  clear hfault hplay0
  go_upto_region 7 with fail
  refine gen_world (fun Z => Below w2.heap.size w2 Z ∧ Blk Z w2.heap.size #[.int .i64 g.tick, .int .i64 g.g0, .int .i64 g.g1, .int .i64 g.next, .slice fa g.free.length cf, .slice ua g.us.length cu]) ⟨(Below.refl _ _).alloc (Nat.le_refl _) _, Blk.new w2 _ _⟩ ?_
  rintro V ⟨hbV, kV⟩
  obtain ⟨P7, hP7⟩ : ∃ x, w2.heap.size = x := ⟨_, rfl⟩
  rw [hP7] at kV
  try rw [hP7]
  have HBV := Lib.hid (HB2.out.trans (hbV.mono hs2))
  have HWV := Lib.hid (HW2.out.trans (hbV.mono HW2.out.size))
  have KRV := Lib.hid (KRES.out.call hbV)
  have KSV := Lib.hid (KS2.out.call hbV)
  have KV := Lib.hid kV
  have hP7g : w.heap.size + 1 < P7 := by omega
  have hP7l := kV.lt
  have hWP7 : W.heap.size ≤ P7 := by have := HW2.out.size; omega
  clear hbV kV z0 z1 z2 z3 z4 z5 fR2 lR2 cS2 lS2
  go_wp2_with fail
  go_loopw [8, 9, 10, 11] (fun kv _ _ _ wr => ∃ k : Nat, kv = .int .i64 k ∧ k ≤ n ∧ ((playF g (ts.take k)).1 = 0 ∧ (∃ fa1 cf1 ua1 cu1, Blk wr P7 #[.int .i64 (playF g (ts.take k)).2.tick, .int .i64 (playF g (ts.take k)).2.g0, .int .i64 (playF g (ts.take k)).2.g1, .int .i64 (playF g (ts.take k)).2.next, .slice fa1 (playF g (ts.take k)).2.free.length cf1, .slice ua1 (playF g (ts.take k)).2.us.length cu1] ∧
    OffRow (fun c => c = P7 ∨ c = w.heap.size + 1) wr fa1 (playF g (ts.take k)).2.free.length (fun k_1 => .int .i64 ((playF g (ts.take k)).2.free.getD k_1 0)) ∧ OffURow (fun c => c = P7 ∨ c = w.heap.size + 1) wr ua1 (playF g (ts.take k)).2.us) ∧ Kp (fun c => c = P7) V wr)) (fun kv _ _ _ _ => (n - intOf kv).toNat)
  case atStart =>
    refine ⟨0, rfl, by omega, ?_, ⟨fa, cf, ua, cu, ?_, ?_, ?_⟩, Kp.refl _ _⟩
    · exact HFZ.out
    · exact KV.out
    · exact (HRF0.out.below HBV.out).off HBV.out.size (by omega)
    · exact (HRU0.out.below HBV.out).off HBV.out.size (by omega)
  case round =>
    obtain ⟨k, rfl, hk, hz, ⟨fa1, cf1, ua1, cu1, kb, rf, ru⟩, kr⟩ := hrel
    have hki : (0 : Int) ≤ (k : Int) := by omega
    have hszr := kr.size
    obtain ⟨ps, hps⟩ : ∃ x, playF g (ts.take k) = x := ⟨_, rfl⟩
    rw [hps] at hz kb rf ru
    obtain ⟨s, hs⟩ : ∃ x, ps.2 = x := ⟨_, rfl⟩
    rw [hs] at kb rf ru
    have hok : PlayOk ps := by rw [← hps]; exact playF_ok HSLG.out.1 _
    have hsls : sinceless s := by rw [← hs, ← hps]; exact sinceless_play HSLG.out _
    have hright : Right s := by rw [← hs]; exact hok.2 hz
    have hWr : Below w.heap.size w wr := HBV.out.trans (kr.below (fun c hc => by have h2 : c = P7 := hc; omega) HBV.out.size)
    have HPS := Lib.hid (⟨hps, hs, hz⟩ : playF g (ts.take k) = ps ∧ ps.2 = s ∧ ps.1 = 0)
    have HSS := Lib.hid hsls
    have HRS := Lib.hid hright
    have HKB := Lib.hid kb
    have HRF := Lib.hid rf
    have HRU := Lib.hid ru
    have HKR := Lib.hid kr
    have HWR := Lib.hid hWr
    have kS := KSV.out.kp kr (by omega)
    obtain ⟨lSr, cSr, -⟩ := id kS
    obtain ⟨l7r, c7r, f7r⟩ := id kb
    have hfew := hright.few
    have hunf := hright.unfree
    clear hz kb rf ru kr hps hs hok hsls hright hWr kS
    by_cases hlt : k < n
    · have hkl : (k : Int) < (n : Int) := by omega
      obtain ⟨l, hl⟩ : ∃ l, ts.getD k [] = l := ⟨_, rfl⟩
      obtain ⟨bt, ot, la, cl, rfl, hbt, hct2, hcr, hcl⟩ := (HT.out.below (HWV.out.trans ((HKR.out.below (B := W.heap.size) (fun c hc => by have h2 : c = P7 := hc; omega) HWV.out.size)))).get k (by omega) l hl
      have hlm : l.length ≤ 100000 := by
        refine HLL.out l ?_
        rw [← hl]
        have hkt : k < ts.length := by omega
        simp [List.getD, hkt]
      have hbtr : bt < wr.heap.size := by have := HWV.out.size; omega
      have hktn : (k : Int) < (ts.length : Int) := by omega
      have HL := Lib.hid hl
      have HCR := Lib.hid (hcr.mono (B' := wr.heap.size) (by have := HWV.out.size; omega))
      have hnx : playF g (ts.take (k + 1)) = (stepFault s l, if stepFault s l = 0 then (stepE s l).1 else s) := by
        rw [playF_succ g ts k (by omega), HPS.out.1, hl]
        unfold playStep
        rw [if_neg (by rw [HPS.out.2.2]; simp), HPS.out.2.1]
      have HNX := Lib.hid hnx
      obtain ⟨F, hF⟩ : ∃ x, stepFault s l = x := ⟨_, rfl⟩
      have HF := Lib.hid hF
      have HSL := Lib.hid (back_self HSS.out)
      clear hcr hl hnx hF
      go_upto_region 10 with fail
      go_cut [9, 10, 11] (fun a b c wx => ∃ (p : Nat) (q : Six), a = .pointer (some ⟨p, 0, none⟩) ∧ b = q.1.2 ∧ c = .int .i64 (F : Nat) ∧ (wr.heap.size ≤ p ∧ Blk wx p q.1.1 ∧ SixOff wr F (stepE s l).1 q.1.1 p wx ∧ Below wr.heap.size wr wx))
      case first =>
        haveI := Kw.ne (fun b => wr.heap.size ≤ b) wr
        have kx1 : ∀ (x : Kw (fun b => wr.heap.size ≤ b) wr) (o : Nat), x.w.cell? ⟨P7, o, none⟩ = wr.cell? ⟨P7, o, none⟩ := fun x o => x.cell _ _ l7r (by omega)
        have kx2 : ∀ (x : Kw (fun b => wr.heap.size ≤ b) wr) (o : Nat), x.w.cell? ⟨w.heap.size, o, none⟩ = wr.cell? ⟨w.heap.size, o, none⟩ := fun x o => x.cell _ _ lSr (by omega)
        have kx3 : ∀ (x : Kw (fun b => wr.heap.size ≤ b) wr) (o : Nat), x.w.cell? ⟨bt, o, none⟩ = wr.cell? ⟨bt, o, none⟩ := fun x o => x.cell _ _ hbtr (by omega)
        have CALL : Hid (∀ x, Kp (fun b => wr.heap.size ≤ b) wr x → Calls Try.prog 57 #[.agg #[.int .i64 s.tick, .int .i64 s.g0, .int .i64 s.g1, .int .i64 s.next, .slice fa1 s.free.length cf1, .slice ua1 s.us.length cu1], .slice la l.length cl] x fun e w' => ∃ q : Six, e = .returned (.tuple #[.agg q.1.1, q.1.2, .int .i64 (F : Nat)]) ∧ Below x.heap.size x w' ∧ (F = 0 → ∃ a n a' n', q.1.1 = #[.int .i64 (stepE s l).1.tick, .int .i64 (stepE s l).1.g0, .int .i64 (stepE s l).1.g1, .int .i64 (stepE s l).1.next, .slice a (stepE s l).1.free.length n, .slice a' (stepE s l).1.us.length n'] ∧
            w'.ownsRow x.heap.size 3 1 (.slice a (stepE s l).1.free.length n) (stepE s l).1.free.length (intCells (stepE s l).1.free) ∧ w'.ownsRow x.heap.size 179 10 (.slice a' (stepE s l).1.us.length n') (stepE s l).1.us.length (cellsAll (stepE s l).1.us))) := Lib.hid (fun x hx => by
          have hb := kw_below hx 0
          refine (refstepe_any s fa1 ua1 la cf1 cu1 cl (by omega) (by omega) l hlm x ((HRF.out.row.below hb).mono hb.size) ((HRU.out.row.below hb).mono hb.size) ((HCR.out.below hb).mono hb.size)).mono ?_
          rintro e x' hend
          rw [HSL.out] at hend
          obtain ⟨hb, hcase⟩ := hend
          rcases hcase with ⟨hne, rfl⟩ | ⟨hz, fv5, ev5, bv5, rfl, o1, o2, o3⟩
          · refine ⟨⟨(#[.int .i64 0, .int .i64 0, .int .i64 0, .int .i64 0, .slice none 0 0, .slice none 0 0], .slice none 0 0), by exact ⟨rfl, by simp [Value.oneCell']⟩⟩, by rw [HF.out], hb, fun e => ?_⟩
            rw [HF.out] at hne
            exact absurd e hne
          · obtain ⟨a5, c5, rfl⟩ := own_slice o1
            obtain ⟨a6, c6, rfl⟩ := own_slice o2
            refine ⟨⟨(#[.int .i64 (stepE s l).1.tick, .int .i64 (stepE s l).1.g0, .int .i64 (stepE s l).1.g1, .int .i64 (stepE s l).1.next, .slice a5 (stepE s l).1.free.length c5, .slice a6 (stepE s l).1.us.length c6], bv5), by exact ⟨rfl, by simp [Value.oneCell']⟩⟩, by rw [← HF.out, hz]; rfl, hb, fun _ => ⟨a5, c5, a6, c6, rfl, o1, o2⟩⟩)
        refine region_plan 14 (.read 0 (.read 1 (.read 2 (.read 3 (.read 4 (.read 5 (.fork 6 (.read 7 (.read 8 (.read 9 (.read 10 (.write 11 (.write 12 (.read 13 .done))))))) 11 (.write 6 (.read 7 (.read 8 (.read 9 (.read 10 (.write 12 (.read 13 .done)))))))))))))) (kall (fun b => wr.heap.size ≤ b) wr) (kall_start _ _) (by kernel_rfl) (by kernel_rfl) ?_
        iterate 6 (refine plan_read rfl ?_; refine mix_readK (fun K hK => ?_); go_simp; refine hK _ (mix_nil ?_); clear hK K)
        refine plan_fork ?_ ?_
        · refine plan_write rfl (mix_call (ι := Six) (fun q => .tuple #[.agg q.1.1, q.1.2, .int .i64 (F : Nat)]) (fun q => kcl (fun b => wr.heap.size ≤ b) wr (fun x => SixAt wr F (stepE s l).1 q.1.1 x) (fun _ _ h hb => h.call hb)) 57 #[.agg #[.int .i64 s.tick, .int .i64 s.g0, .int .i64 s.g1, .int .i64 s.next, .slice fa1 s.free.length cf1, .slice ua1 s.us.length cu1], .slice la l.length cl] rfl (fun x => by simp [go_sem]) (fun x hx => ?_) (fun q => mix_nil ?_))
          · refine (CALL.out x hx.1).mono ?_
            rintro e x' ⟨q, rfl, hb, hq⟩
            exact ⟨q, rfl, hx.1.then_ hb, fun e => let ⟨a, n, a', n', h1, h2, h3⟩ := hq e; ⟨a, n, a', n', h1, own_base h2 hx.1.size, own_base h3 hx.1.size⟩⟩
          try dsimp only
          iterate 4 (refine plan_read rfl ?_; refine mix_readK (fun K hK => ?_); go_simp; refine hK _ (mix_nil ?_); clear hK K)
          refine plan_write rfl ?_
          refine mix_write (ι := {p : Nat // wr.heap.size ≤ p}) (fun p => .pointer (some ⟨p.1, 0, none⟩)) (fun p => kcl (fun b => wr.heap.size ≤ b) wr (fun x => Blk x p.1 #[.int .i64 0, .int .i64 0, .int .i64 0, .int .i64 0, .slice none 0 0, .slice none 0 0] ∧ SixOff wr F (stepE s l).1 q.1.1 p.1 x) (fun _ _ h hb => ⟨h.1.call hb, h.2.call hb⟩)) rfl (fun x h => ⟨⟨x.heap.size, h.1.size⟩, _, Or.inl (by simp [go_sem]; rfl), ?_⟩) (fun p => mix_nil ?_)
          · have hb : Below x.heap.size x (x.alloc (.cells #[.int .i64 0, .int .i64 0, .int .i64 0, .int .i64 0, .slice none 0 0, .slice none 0 0] 90)) := (Below.refl _ _).alloc (Nat.le_refl _) _
            refine ⟨h.1.then_ hb, Blk.new x _ _, fun e => ?_⟩
            obtain ⟨a, n, a', n', h1, h2, h3⟩ := h.2 e
            exact ⟨a, n, a', n', h1, own_kp h2 (kp_of hb (fun _ => False)) (fun _ _ y => y), own_kp h3 (kp_of hb (fun _ => False)) (fun _ _ y => y), fun b hb2 => by have := (World.ownsRow.lt h2 b hb2).2; show b ≠ x.heap.size; omega, fun b hb2 => by have := (World.ownsRow.lt h3 b hb2).2; show b ≠ x.heap.size; omega⟩
          refine plan_write rfl ?_
          try dsimp only
          refine mix_store2 (X := fun b => wr.heap.size ≤ b) (v := wr) p.1 (z := #[.int .i64 0, .int .i64 0, .int .i64 0, .int .i64 0, .slice none 0 0, .slice none 0 0]) q.1.1 90 (.tmp 9) (.tmp 45) (by rfl) (by rfl) (by rfl) (by rfl) (by rfl) (by rw [q.2.1]; rfl) (by rw [q.2.1]; exact infoElder) q.2.2 p.2 (fun x => SixOff wr F (stepE s l).1 q.1.1 p.1 x) (fun _ _ h hk => h.kp hk) (fun _ _ h hb => ⟨h.1.call hb, h.2.call hb⟩) (mix_nil ?_)
          refine plan_read rfl ?_; refine mix_readK (fun K hK => ?_); go_simp; refine hK _ (mix_nil ?_); clear hK K
          refine plan_done ?_
          rintro w5 ⟨k5, b5, h5⟩
          go_simp
          go_wp2_with fail
          go_meet
          exact ⟨p.1, q, rfl, rfl, rfl, p.2, b5, h5, kw_below k5 0⟩
        · refine plan_write rfl ?_
          refine mix_write (ι := {p : Nat // wr.heap.size ≤ p}) (fun p => .pointer (some ⟨p.1, 0, none⟩)) (fun p => kcl (fun b => wr.heap.size ≤ b) wr (fun x => Blk x p.1 #[.int .i64 0, .int .i64 0, .int .i64 0, .int .i64 0, .slice none 0 0, .slice none 0 0]) (fun _ _ h hb => h.call hb)) rfl (fun x h => ⟨⟨x.heap.size, h.1.size⟩, _, Or.inl (by simp [go_sem]; rfl), ?_⟩) (fun p => mix_nil ?_)
          · exact ⟨h.1.then_ ((Below.refl _ _).alloc (Nat.le_refl _) _), Blk.new x _ _⟩
          refine plan_write rfl (mix_call (ι := Six) (fun q => .tuple #[.agg q.1.1, q.1.2, .int .i64 (F : Nat)]) (fun q => kcl (fun b => wr.heap.size ≤ b) wr (fun x => Blk x p.1 #[.int .i64 0, .int .i64 0, .int .i64 0, .int .i64 0, .slice none 0 0, .slice none 0 0] ∧ SixOff wr F (stepE s l).1 q.1.1 p.1 x) (fun _ _ h hb => ⟨h.1.call hb, h.2.call hb⟩)) 57 #[.agg #[.int .i64 s.tick, .int .i64 s.g0, .int .i64 s.g1, .int .i64 s.next, .slice fa1 s.free.length cf1, .slice ua1 s.us.length cu1], .slice la l.length cl] rfl (fun x => by simp [go_sem]) (fun x hx => ?_) (fun q => mix_nil ?_))
          · refine (CALL.out x hx.1).mono ?_
            rintro e x' ⟨q, rfl, hb, hq⟩
            have hpl := hx.2.lt
            exact ⟨q, rfl, hx.1.then_ hb, hx.2.call hb, fun e => let ⟨a, n, a', n', h1, h2, h3⟩ := hq e; ⟨a, n, a', n', h1, own_base h2 hx.1.size, own_base h3 hx.1.size, fun b hb2 => by have := (World.ownsRow.lt h2 b hb2).1; omega, fun b hb2 => by have := (World.ownsRow.lt h3 b hb2).1; omega⟩⟩
          try dsimp only
          iterate 4 (refine plan_read rfl ?_; refine mix_readK (fun K hK => ?_); go_simp; refine hK _ (mix_nil ?_); clear hK K)
          refine plan_write rfl ?_
          try dsimp only
          refine mix_store2 (X := fun b => wr.heap.size ≤ b) (v := wr) p.1 (z := #[.int .i64 0, .int .i64 0, .int .i64 0, .int .i64 0, .slice none 0 0, .slice none 0 0]) q.1.1 90 (.tmp 9) (.tmp 45) (by rfl) (by rfl) (by rfl) (by rfl) (by rfl) (by rw [q.2.1]; rfl) (by rw [q.2.1]; exact infoElder) q.2.2 p.2 (fun x => SixOff wr F (stepE s l).1 q.1.1 p.1 x) (fun _ _ h hk => h.kp hk) (fun _ _ h hb => ⟨h.1.call hb, h.2.call hb⟩) (mix_nil ?_)
          refine plan_read rfl ?_; refine mix_readK (fun K hK => ?_); go_simp; refine hK _ (mix_nil ?_); clear hK K
          refine plan_done ?_
          rintro w5 ⟨k5, b5, h5⟩
          go_simp
          go_wp2_with fail
          go_meet
          exact ⟨p.1, q, rfl, rfl, rfl, p.2, b5, h5, kw_below k5 0⟩
      case rest =>
      obtain ⟨p, q, rfl, hb9, rfl, hp, kp, hoff, hbc⟩ := hcut
      rw [hb9]
      have hpl := kp.lt
      have HOFF := Lib.hid hoff
      have HKP := Lib.hid kp
      have HBC := Lib.hid hbc
      have KRC := Lib.hid ((KRV.out.kp HKR.out (by omega)).call hbc)
      have hKB := HKB.out.call hbc
      obtain ⟨lPc, cPc, fPc⟩ := id hKB
      have HKBC := Lib.hid hKB
      have hsc := hbc.size
      have hWc : Below w.heap.size w wc := HWR.out.trans (hbc.mono (by have := HWR.out.size; omega))
      have HWC := Lib.hid hWc
      clear kp hoff hbc hb9 hKB hWc
      by_cases hf0 : F = 0
      case neg =>
        have dz : decide ((0 : Int) < (F : Int)) = true := decide_eq_true (by omega)
        have dz' : decide (0 < F) = true := decide_eq_true (by omega)
        have HST : Hid (playF g (ts.take n) = (F, s)) := Lib.hid (by
          show _ = _
          have h1 : playF g (ts.take (k + 1)) = (F, s) := by rw [HNX.out, HF.out, if_neg hf0]
          rw [playF_stuck (g := g) (ts := ts) (k := k + 1) (n := n) (by omega) (by rw [h1]; exact hf0), h1])
        have HF0 := Lib.hid hf0
        obtain ⟨z0, z1, z2, z3, z4, z5⟩ : wc.cell? ⟨w.heap.size + 1, 0, none⟩ = some (.int .i64 0) ∧ wc.cell? ⟨w.heap.size + 1, 1, none⟩ = some (.int .i64 0) ∧ wc.cell? ⟨w.heap.size + 1, 2, none⟩ = some (.int .i64 0) ∧ wc.cell? ⟨w.heap.size + 1, 3, none⟩ = some (.int .i64 0) ∧ wc.cell? ⟨w.heap.size + 1, 4, none⟩ = some (.slice none 0 0) ∧ wc.cell? ⟨w.heap.size + 1, 5, none⟩ = some (.slice none 0 0) := ⟨KRC.out.cell 0, KRC.out.cell 1, KRC.out.cell 2, KRC.out.cell 3, KRC.out.cell 4, KRC.out.cell 5⟩
        obtain ⟨lRc, -, fRc⟩ := id KRC.out
        clear hf0
        go_wp2_with fail
        refine bodyPost_ret (v := .tuple #[.agg #[.int .i64 0, .int .i64 0, .int .i64 0, .int .i64 0, .slice none 0 0, .slice none 0 0], .int .i64 (F : Nat)]) (ret_pair Try.results63 rfl rfl (KRC.out.store6 rfl (.int .i64 0) (.int .i64 0) (.int .i64 0) (.int .i64 0) (.slice none 0 0) (.slice none 0 0)) Try.underlying90 rfl infoElder) rfl ?_
        rw [HST.out]
        exact ⟨Below.six HWC.out (by omega) _ _ _ _ _ _, Or.inl ⟨HF0.out, rfl⟩⟩
      have dz : decide ((0 : Int) < (F : Int)) = false := decide_eq_false (by omega)
      have dz' : decide (0 < F) = false := decide_eq_false (by omega)
      obtain ⟨a5, c5, a6, c6, hq, o1, o2, n1, n2⟩ := HOFF.out hf0
      rw [hq] at HKP
      obtain ⟨lpc, cpc, -⟩ := id HKP.out
      have O1 := Lib.hid o1
      have O2 := Lib.hid o2
      have HF0 := Lib.hid hf0
      have cp0 := c7r
      clear hq o1 o2 n1 n2 hf0 c7r f7r l7r cSr lSr
      go_wp2_with fail
      go_roundw
      case rel =>
        have hnx : playF g (ts.take (k + 1)) = (0, (stepE s l).1) := by rw [HNX.out, HF.out, HF0.out, if_pos rfl]
        refine ⟨k + 1, by go_num, by omega, by rw [hnx], ?_, ?_⟩
        · rw [hnx]
          try dsimp only
          have kq : Kp (fun c => c = P7) wc _ := Kp.six (Kp.refl (fun b => b = P7) wc) (.int .i64 (stepE s l).1.tick) (.int .i64 (stepE s l).1.g0) (.int .i64 (stepE s l).1.g1) (.int .i64 (stepE s l).1.next) (.slice a5 (stepE s l).1.free.length c5) (.slice a6 (stepE s l).1.us.length c6)
          refine ⟨a5, c5, a6, c6, HKBC.out.store6 rfl _ _ _ _ _ _, (off_ints O1.out rfl (by have := HKB.out.lt; omega)).kp (kq.imp (fun _ _ h => Or.inl h)), (off_ents O2.out (by have := HKB.out.lt; omega)).kp (kq.imp (fun _ _ h => Or.inl h))⟩
        · exact Kp.six (HKR.out.then_ HBC.out) _ _ _ _ _ _
      case measure => simp [intOf]; omega
    · obtain rfl : k = n := by omega
      have kRr := KRV.out.kp HKR.out (by omega)
      obtain ⟨z0, z1, z2, z3, z4, z5⟩ : wr.cell? ⟨w.heap.size + 1, 0, none⟩ = some (.int .i64 0) ∧ wr.cell? ⟨w.heap.size + 1, 1, none⟩ = some (.int .i64 0) ∧ wr.cell? ⟨w.heap.size + 1, 2, none⟩ = some (.int .i64 0) ∧ wr.cell? ⟨w.heap.size + 1, 3, none⟩ = some (.int .i64 0) ∧ wr.cell? ⟨w.heap.size + 1, 4, none⟩ = some (.slice none 0 0) ∧ wr.cell? ⟨w.heap.size + 1, 5, none⟩ = some (.slice none 0 0) := ⟨kRr.cell 0, kRr.cell 1, kRr.cell 2, kRr.cell 3, kRr.cell 4, kRr.cell 5⟩
      obtain ⟨lRc, -, fRc⟩ := id kRr
      have KRR := Lib.hid kRr
      clear kRr f7r cSr lSr
      go_wp2_with fail
      refine bodyPost_ret (v := .tuple #[.agg #[.int .i64 s.tick, .int .i64 s.g0, .int .i64 s.g1, .int .i64 s.next, .slice fa1 s.free.length cf1, .slice ua1 s.us.length cu1], .int .i64 0]) (ret_pair Try.results63 rfl rfl (KRR.out.store6 rfl (.int .i64 s.tick) (.int .i64 s.g0) (.int .i64 s.g1) (.int .i64 s.next) (.slice fa1 s.free.length cf1) (.slice ua1 s.us.length cu1)) Try.underlying90 rfl infoElder) rfl ?_
      have hps := HPS.out
      have hpf : (playF g (ts.take k)).2 = s := by rw [hps.1, hps.2.1]
      refine ⟨Below.six HWR.out (by omega) _ _ _ _ _ _, Or.inr ⟨by rw [hps.1]; exact hps.2.2, fa1, ua1, cf1, cu1, by rw [hpf], ?_, ?_⟩⟩
      · rw [hpf]
        exact (HRF.out.kp ((Kp.six (Kp.refl (fun b => b = w.heap.size + 1) wr) _ _ _ _ _ _).imp (fun _ _ h => Or.inr h))).row
      · rw [hpf]
        exact (HRU.out.kp ((Kp.six (Kp.refl (fun b => b = w.heap.size + 1) wr) _ _ _ _ _ _).imp (fun _ _ h => Or.inr h))).row
end Go.Proofs.Ytlfljlhppigejaa
