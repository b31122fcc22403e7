/-
  The walk of the document's PlayNewer. (Printed by gen_refplayn.py.) The closed fact of the law NewerSays: a fighter strikes; what is not played (out of bounds); a step and a play in one form.
-/
import Derived.Test.YtlfljlhppigejaaRefStepN
import Derived.Test.YtlfljlhppigejaaPackPure
import Derived.Test.YtlfljlhppigejaaReelAll
import Derived.Test.YtlfljlhppigejaaPackMix
import Derived.Test.YtlfljlhppigejaaPlayNAll
import Derived.Test.YtlfljlhppigejaaPackWire
namespace Go.Proofs.Ytlfljlhppigejaa
open Go.RowKit
attribute [local go_sem] qOne qAt qUp qOneK

theorem blk_setCellsP {w : World} {p : Nat} {z c : Array Value} (hk : Blk w p z) (hsz : z.size = c.size) : Blk (w.setCells p 0 c.toList) p c := by
  have ht : w.there p 0 c.size := fun j hj => ⟨by rw [Nat.zero_add, hk.cell j, Array.getElem?_eq_getElem (by omega)]; rfl, by rw [Nat.zero_add]; exact hk.free j⟩
  have hfro : ∀ (l : List Value) (o : Nat) (v : World) (b : Addr), (v.setCells p o l).frozen? b = v.frozen? b := by
    intro l
    induction l with
    | nil => intro o v b; rfl
    | cons x l ih => intro o v b; exact (ih (o + 1) _ b).trans free_set
  refine ⟨Nat.lt_of_lt_of_le hk.lt (kp_setCells p _ 0 w).size, fun i => ?_, fun i => (hfro _ _ _ _).trans (hk.free i)⟩
  by_cases hic : i < c.size
  · have := World.rangeAt_setCells_same w p 0 c.toList (by simpa using ht) i c[i] (by simp [hic])
    rw [Nat.zero_add] at this
    rw [this, Array.getElem?_eq_getElem hic]
  · rw [World.cell?_setCells_out p c.toList 0 w ⟨p, i, none⟩ (fun _ _ => Or.inr (by simp; omega)), hk.cell i, Array.getElem?_eq_none (by omega), Array.getElem?_eq_none (by omega)]
section
variable {P : Program} {ops : Array Oper} {X : Nat → Prop} {v : World}
/-- A block that turns is written whole, while something else is kept. -/
theorem mix_store2N {L : Act → Cli (InK X v) → Prop} {a : Act} {o : Oper} {r : List (Bool × Oper)} (p : Nat) {z : Array Value} (c : Array Value) (ty : TypeId) (x y : Operand) (ho : o.op = .store ty x y) (hg : o.guard = none) (hd : o.dst = none)
    (hx : a.eval x = .pointer (some ⟨p, 0, none⟩)) (hy : a.eval y = .agg c) (hsz : z.size = c.size) (hi : (P.info? ty).map (·.size) = some c.size) (h1 : c.all (·.oneCell') = true) (hX : X p) (R2 : World → Prop) (h2 : ∀ w w', R2 w → Kp (fun b => b = p) w w' → R2 w')
    {hcl : ∀ w w', (Blk w p z ∧ R2 w) → Below w.heap.size w w' → (Blk w' p z ∧ R2 w')} (hcl' : ∀ w w', (Blk w p c ∧ R2 w) → Below w.heap.size w w' → (Blk w' p c ∧ R2 w'))
    (hk : wpMix P ops L r a (kcl X v (fun w => Blk w p c ∧ R2 w) hcl')) : wpMix P ops L ((true, o) :: r) a (kcl X v (fun w => Blk w p z ∧ R2 w) hcl) := by
  refine mix_write (ι := Unit) (fun _ => undef) (fun _ => kcl X v (fun w => Blk w p c ∧ R2 w) hcl') (by simp [Region.wanted, hg]) (fun w h => ?_) (fun _ => ?_)
  · have ht : w.there p 0 c.size := fun j hj => ⟨by rw [Nat.zero_add, h.2.1.cell j, Array.getElem?_eq_getElem (by omega)]; rfl, by rw [Nat.zero_add]; exact h.2.1.free j⟩
    refine ⟨(), w.setCells p 0 c.toList, Or.inr ⟨?_, rfl⟩, h.1.trans (kp_setCells p _ 0 w) (fun b _ hb => by rw [hb]; exact hX), blk_setCellsP h.2.1 hsz, h2 _ _ h.2.2 (kp_setCells p _ 0 w)⟩
    unfold execOp
    simp only [ho, hx, hy, Sem.run_bind, run_storeAt_mid w p 0 ty c ht hi h1, Result.andThen_ok]
    rfl
  · rw [show a.put o.dst undef = a from by rw [hd]; rfl]
    exact hk
end
/-- What comes back of a step: a state's cells. -/
abbrev FiveV := {q : Array Value // q.size = 5 ∧ q.all (·.oneCell') = true}
/-- A state behind a step, by its cells. -/
def FiveAt (v : World) (F : Nat) (g : G) (c : Array Value) (w : World) : Prop :=
  F = 0 → ∃ a' n', c = #[.int .i64 g.tick, .int .i64 g.g0, .int .i64 g.g1, .int .i64 g.next, .slice a' g.us.length n'] ∧ w.ownsRow v.heap.size 130 11 (.slice a' g.us.length n') g.us.length (cellsAllN g.us)
theorem FiveAt.call {v : World} {F : Nat} {g : G} {c : Array Value} {w w' : World} (h : FiveAt v F g c w) (hb : Below w.heap.size w w') : FiveAt v F g c w' := fun e =>
  let ⟨a', n', h1, h3⟩ := h e
  ⟨a', n', h1, own_kp h3 (kp_of hb (fun _ => False)) (fun _ _ x => x)⟩
/-- .. that is not in p. -/
def FiveOff (v : World) (F : Nat) (g : G) (c : Array Value) (p : Nat) (w : World) : Prop :=
  F = 0 → ∃ a' n', c = #[.int .i64 g.tick, .int .i64 g.g0, .int .i64 g.g1, .int .i64 g.next, .slice a' g.us.length n'] ∧ w.ownsRow v.heap.size 130 11 (.slice a' g.us.length n') g.us.length (cellsAllN g.us) ∧ ∀ b, (Value.slice a' g.us.length n').ownBlock = some b → b ≠ p
theorem FiveOff.kp {v : World} {F : Nat} {g : G} {c : Array Value} {p : Nat} {w w' : World} (h : FiveOff v F g c p w) (hk : Kp (fun b => b = p) w w') : FiveOff v F g c p w' := fun e =>
  let ⟨a', n', h1, h3, h5⟩ := h e
  ⟨a', n', h1, own_kp h3 hk (fun b hb => h5 b hb), h5⟩
theorem FiveOff.call {v : World} {F : Nat} {g : G} {c : Array Value} {p : Nat} {w w' : World} (h : FiveOff v F g c p w) (hb : Below w.heap.size w w') : FiveOff v F g c p w' := h.kp (kp_of hb _)
theorem kp_five {X : Nat → Prop} {w w' : World} {p : Nat} (h : Kp X w w') (hp : X p) (v0 v1 v2 v3 v4 : Value) : Kp X w (((((w'.setCell ⟨p, 0, none⟩ v0).setCell ⟨p, 1, none⟩ v1).setCell ⟨p, 2, none⟩ v2).setCell ⟨p, 3, none⟩ v3).setCell ⟨p, 4, none⟩ v4) :=
  ((((h.andset ⟨p, 0, none⟩ v0 hp).andset ⟨p, 1, none⟩ v1 hp).andset ⟨p, 2, none⟩ v2 hp).andset ⟨p, 3, none⟩ v3 hp).andset ⟨p, 4, none⟩ v4 hp
/-- The two worlds, all old blocks as they were. -/
theorem kw_belowN {v w : World} (h : Kp (fun b => v.heap.size ≤ b) v w) (_ : Nat) : Below v.heap.size v w := h.below (fun _ x => x) (Nat.le_refl _)
/-- Rows that lie elsewhere than in Q. -/
def OffURowN (Q : Nat → Prop) (w : World) (a : Option Addr) (us : List U) : Prop := ∀ i, i < us.length → ∃ b o, a = some ⟨b, o, none⟩ ∧ b < w.heap.size ∧ ¬ Q b ∧ ∀ j, j < szOf true → w.cell? ⟨b, o + i * szOf true + j, none⟩ = (cellsOf true (us.getD i zeroU))[j]?
theorem OffURowN.row {Q : Nat → Prop} {w : World} {a : Option Addr} {us : List U} (h : OffURowN Q w a us) : URow true w.heap.size w a us := fun k hk => let ⟨b, o, h1, h2, _, h4⟩ := h k hk; ⟨b, o, h1, h2, h4⟩
theorem OffURowN.kp {Q : Nat → Prop} {w w' : World} {a : Option Addr} {us : List U} (h : OffURowN Q w a us) (k : Kp Q w w') : OffURowN Q w' a us := fun i hi => let ⟨b, o, h1, h2, h3, h4⟩ := h i hi; ⟨b, o, h1, Nat.lt_of_lt_of_le h2 k.size, h3, fun j hj => (k.cell b _ h2 h3).trans (h4 j hj)⟩
theorem URow.offN {Q : Nat → Prop} {B : Nat} {w : World} {a : Option Addr} {us : List U} (h : URow true B w a us) (hB : B ≤ w.heap.size) (hQ : ∀ b, b < B → ¬ Q b) : OffURowN Q w a us := fun k hk => let ⟨b, o, h1, h2, h4⟩ := h k hk; ⟨b, o, h1, by omega, hQ b h2, h4⟩
theorem off_units {Q : Nat → Prop} {B : Nat} {w : World} {a : Option Addr} {c : Nat} {us : List U} (h : w.ownsRow B 130 11 (.slice a us.length c) us.length (cellsAllN us)) (hQ : ∀ b, B ≤ b → ¬ Q b) : OffURowN Q w a us := fun k hk => by
  obtain ⟨a', c', e, -, hr, -⟩ := URow.of_ownN h
  cases e
  obtain ⟨b, o, h1, h2, h3⟩ := hr k hk
  exact ⟨b, o, h1, h2, hQ b (World.ownsRow.lt h b (by rw [h1]; rfl)).1, h3⟩
/-- What is played is handed back. -/
def RNPlayEnd (s : Nat × G) (w : World) (e : Ending) (w' : World) : Prop :=
  Below w.heap.size w w' ∧ ((s.1 ≠ 0 ∧ e = .returned (.tuple #[.agg #[.int .i64 0, .int .i64 0, .int .i64 0, .int .i64 0, .slice none 0 0], .int .i64 (s.1 : Nat)])) ∨
    (s.1 = 0 ∧ ∃ ua cu, e = .returned (.tuple #[.agg #[.int .i64 s.2.tick, .int .i64 s.2.g0, .int .i64 s.2.g1, .int .i64 s.2.next, .slice ua s.2.us.length cu], .int .i64 0]) ∧
      URow true w'.heap.size w' ua s.2.us))

set_option maxHeartbeats 25600000 in
set_option maxRecDepth 100000 in
theorem refplayn_any (g : G) (ua ta : Option Addr) (cu ct : Nat) (hgn : g.new = true) (hgf : g.free = []) (hlu : g.us.length ≤ 100000) (ts : List (List Cm)) (hct : ts.length ≤ 100000) (_hcap : ts.length ≤ ct) (hll : ∀ l ∈ ts, l.length ≤ 100000) (hkt : ∀ l ∈ ts, ∀ c ∈ l, c.kind = c.target) (n : Nat) (hn : n ≤ ts.length) (w : World)
    (hu : URow true w.heap.size w ua g.us) (ht : PRow w.heap.size w ta ts) :
    Calls Try.prog 51 #[.agg #[.int .i64 g.tick, .int .i64 g.g0, .int .i64 g.g1, .int .i64 g.next, .slice ua g.us.length cu, .slice ta ts.length ct], .int .i64 n] w (RNPlayEnd (playFN g (ts.take n)) w) := by
  obtain ⟨W, hW⟩ : ∃ W, (w.alloc (.cells #[.int .i64 g.tick, .int .i64 g.g0, .int .i64 g.g1, .int .i64 g.next, .slice ua g.us.length cu, .slice ta ts.length ct] 69)).alloc (.cells #[.int .i64 0, .int .i64 0, .int .i64 0, .int .i64 0, .slice none 0 0] 65) = W := ⟨_, rfl⟩
  have hbW : Below w.heap.size w W := by rw [← hW]; exact ((Below.refl _ _).alloc (Nat.le_refl _) _).alloc (by simp) _
  have kS : Blk W w.heap.size #[.int .i64 g.tick, .int .i64 g.g0, .int .i64 g.g1, .int .i64 g.next, .slice ua g.us.length cu, .slice ta ts.length ct] := by rw [← hW]; exact (Blk.new w _ _).alloc _
  have kR : Blk W (w.heap.size + 1) #[.int .i64 0, .int .i64 0, .int .i64 0, .int .i64 0, .slice none 0 0] := by
    rw [← hW]
    have := Blk.new (w.alloc (.cells #[.int .i64 g.tick, .int .i64 g.g0, .int .i64 g.g1, .int .i64 g.next, .slice ua g.us.length cu, .slice ta ts.length ct] 69)) #[.int .i64 0, .int .i64 0, .int .i64 0, .int .i64 0, .slice none 0 0] 65
    rw [World.size_alloc] at this
    exact this
  have hsW := hbW.size
  have hru := (hu.below hbW).mono hsW
  have hOF := ofnewer_any g ua cu hlu W hru
  rw [back_true hgn hgf] at hOF
  have HOF := Lib.hid hOF
  have HGN := Lib.hid hgn
  have HGF := Lib.hid hgf
  have HKT := Lib.hid hkt
  have HRU0 := Lib.hid hu
  have HT := Lib.hid ((ht.below hbW).mono hsW)
  have HBW := Lib.hid hbW
  have KS := Lib.hid kS
  have KR := Lib.hid kR
  have HLL := Lib.hid hll
  obtain ⟨lS0, cS0, -⟩ := id kS
  have d0 : decide ((n : Int) < 0) = false := decide_eq_false (by omega)
  have d1 : decide ((ts.length : Int) < (n : Int)) = false := decide_eq_false (by omega)
  have hn0 : (0 : Int) ≤ (n : Int) := by omega
  have hKW := kR.lt
  clear hu ht hbW kS kR hru hOF hgn hgf hll hkt
  go_enter Try.func51, Try.ntmps51
  go_upto_region 1 with fail
  try rw [hW]
  clear hW
  go_wp2_with fail
  refine HOF.out.mono ?_
  rintro e w1 ⟨S, fv, uv, rfl, gr, hb1⟩
  have hFA := Lib.hid (fault_game gr (by rw [HGF.out]; exact Nat.zero_le _) hlu)
  have HB1 := Lib.hid (HBW.out.trans (hb1.mono hsW))
  have KR1 := Lib.hid (KR.out.call hb1)
  have KS1 := Lib.hid (KS.out.call hb1)
  have hs1 := HB1.out.size
  have HW1 := Lib.hid hb1
  clear gr hb1 cS0 lS0
  go_wp2_with fail
  refine hFA.out.mono ?_
  rintro e w2 ⟨rfl, hb2⟩
  have HB2 := Lib.hid (HB1.out.trans (hb2.mono hs1))
  have KRES := Lib.hid (KR1.out.call hb2)
  have KS2 := Lib.hid (KS1.out.call hb2)
  obtain ⟨lR2, -, fR2⟩ := id KRES.out
  obtain ⟨lS2, cS2, -⟩ := id KS2.out
  have hs2 := HB2.out.size
  have HW2 := Lib.hid (HW1.out.trans (hb2.mono HW1.out.size))
  obtain ⟨z0, z1, z2, z3, z4⟩ : w2.cell? ⟨w.heap.size + 1, 0, none⟩ = some (.int .i64 0) ∧ w2.cell? ⟨w.heap.size + 1, 1, none⟩ = some (.int .i64 0) ∧ w2.cell? ⟨w.heap.size + 1, 2, none⟩ = some (.int .i64 0) ∧ w2.cell? ⟨w.heap.size + 1, 3, none⟩ = some (.int .i64 0) ∧ w2.cell? ⟨w.heap.size + 1, 4, none⟩ = some (.slice none 0 0) := ⟨KRES.out.cell 0, KRES.out.cell 1, KRES.out.cell 2, KRES.out.cell 3, KRES.out.cell 4⟩
  have hplay0 : playFN g [] = (faultOf g, g) := rfl
  clear hb2
  by_cases hfault : faultOf g = 0
  case neg =>
    obtain ⟨FF, hFF⟩ : ∃ x, faultOf g = x := ⟨_, rfl⟩
    rw [hFF] at hfault ⊢
    have HFF := Lib.hid hFF
    have dz : decide ((0 : Int) < (FF : Int)) = true := decide_eq_true (by omega)
    have dz' : decide (0 < FF) = true := decide_eq_true (by omega)
    have HST : Hid (playFN g (ts.take n) = (FF, g)) := Lib.hid (by
      show _ = _
      have h1 := playFN_stuck (g := g) (ts := ts) (k := 0) (n := n) (Nat.zero_le _) (by show faultOf g ≠ 0; rw [hFF]; exact hfault)
      rw [h1]
      show (faultOf g, g) = _
      rw [hFF])
    have HNF := Lib.hid hfault
    clear hfault hFF hplay0
    go_wp2_with fail
    refine bodyPost_ret (v := .tuple #[.agg #[.int .i64 0, .int .i64 0, .int .i64 0, .int .i64 0, .slice none 0 0], .int .i64 ((FF : Nat))]) (ret_cell2n Try.results51 rfl rfl (KRES.out.store5n rfl (.int .i64 0) (.int .i64 0) (.int .i64 0) (.int .i64 0) (.slice none 0 0)) Try.underlying65 rfl infoNewerN) rfl ?_
    rw [HST.out]
    exact ⟨belowFive HB2.out (by omega) _ _ _ _ _, Or.inl ⟨HNF.out, rfl⟩⟩
  have HFZ := Lib.hid hfault
  rw [hfault]
  clear hfault hplay0
  go_upto_region 7 with fail
  refine gen_world (fun Z => Below w2.heap.size w2 Z ∧ Blk Z w2.heap.size #[.int .i64 g.tick, .int .i64 g.g0, .int .i64 g.g1, .int .i64 g.next, .slice ua g.us.length cu]) ⟨(Below.refl _ _).alloc (Nat.le_refl _) _, Blk.new w2 _ _⟩ ?_
  rintro V ⟨hbV, kV⟩
  obtain ⟨P7, hP7⟩ : ∃ x, w2.heap.size = x := ⟨_, rfl⟩
  rw [hP7] at kV
  try rw [hP7]
  have HBV := Lib.hid (HB2.out.trans (hbV.mono hs2))
  have HWV := Lib.hid (HW2.out.trans (hbV.mono HW2.out.size))
  have KRV := Lib.hid (KRES.out.call hbV)
  have KSV := Lib.hid (KS2.out.call hbV)
  have KV := Lib.hid kV
  have hP7g : w.heap.size + 1 < P7 := by omega
  have hP7l := kV.lt
  have hWP7 : W.heap.size ≤ P7 := by have := HW2.out.size; omega
  clear hbV kV z0 z1 z2 z3 z4 fR2 lR2 cS2 lS2
  go_wp2_with fail
  go_loopw [8, 9, 10] (fun kv _ _ wr => ∃ k : Nat, kv = .int .i64 k ∧ k ≤ n ∧ ((playFN g (ts.take k)).1 = 0 ∧ (∃ ua1 cu1, Blk wr P7 #[.int .i64 (playFN g (ts.take k)).2.tick, .int .i64 (playFN g (ts.take k)).2.g0, .int .i64 (playFN g (ts.take k)).2.g1, .int .i64 (playFN g (ts.take k)).2.next, .slice ua1 (playFN g (ts.take k)).2.us.length cu1] ∧
    OffURowN (fun c => c = P7 ∨ c = w.heap.size + 1) wr ua1 (playFN g (ts.take k)).2.us) ∧ Kp (fun c => c = P7) V wr)) (fun kv _ _ _ => (n - intOf kv).toNat)
  case atStart =>
    refine ⟨0, rfl, by omega, ?_, ⟨ua, cu, ?_, ?_⟩, Kp.refl _ _⟩
    · exact HFZ.out
    · exact KV.out
    · exact (HRU0.out.below HBV.out).offN HBV.out.size (by omega)
  case round =>
    obtain ⟨k, rfl, hk, hz, ⟨ua1, cu1, kb, ru⟩, kr⟩ := hrel
    have hki : (0 : Int) ≤ (k : Int) := by omega
    have hszr := kr.size
    obtain ⟨ps, hps⟩ : ∃ x, playFN g (ts.take k) = x := ⟨_, rfl⟩
    rw [hps] at hz kb ru
    obtain ⟨s, hs⟩ : ∃ x, ps.2 = x := ⟨_, rfl⟩
    rw [hs] at kb ru
    have hok : PlayOkN ps := by rw [← hps]; exact playFN_ok HGN.out HGF.out _
    have hsn : s.new = true ∧ s.free = [] := by rw [← hs]; exact ⟨hok.1, hok.2.1⟩
    have hright : Right s := by rw [← hs]; exact hok.2.2 hz
    have hWr : Below w.heap.size w wr := HBV.out.trans (kr.below (fun c hc => by have h2 : c = P7 := hc; omega) HBV.out.size)
    have HPS := Lib.hid (⟨hps, hs, hz⟩ : playFN g (ts.take k) = ps ∧ ps.2 = s ∧ ps.1 = 0)
    have HSS := Lib.hid hsn
    have HRS := Lib.hid hright
    have HKB := Lib.hid kb
    have HRU := Lib.hid ru
    have HKR := Lib.hid kr
    have HWR := Lib.hid hWr
    have kS := KSV.out.kp kr (by omega)
    obtain ⟨lSr, cSr, -⟩ := id kS
    obtain ⟨l7r, c7r, f7r⟩ := id kb
    have hfew := hright.few
    clear hz kb ru kr hps hs hok hsn hright hWr kS
    by_cases hlt : k < n
    · have hkl : (k : Int) < (n : Int) := by omega
      obtain ⟨l, hl⟩ : ∃ l, ts.getD k [] = l := ⟨_, rfl⟩
      obtain ⟨bt, ot, la, cl, rfl, hbt, hct2, hcr, hcl⟩ := (HT.out.below (HWV.out.trans ((HKR.out.below (B := W.heap.size) (fun c hc => by have h2 : c = P7 := hc; omega) HWV.out.size)))).get k (by omega) l hl
      have hlm : l.length ≤ 100000 := by
        refine HLL.out l ?_
        rw [← hl]
        have hkt : k < ts.length := by omega
        simp [List.getD, hkt]
      have hbtr : bt < wr.heap.size := by have := HWV.out.size; omega
      have hktn : (k : Int) < (ts.length : Int) := by omega
      have HL := Lib.hid hl
      have HCR := Lib.hid (hcr.mono (B' := wr.heap.size) (by have := HWV.out.size; omega))
      have hnx : playFN g (ts.take (k + 1)) = (stepFault s l, if stepFault s l = 0 then (stepN s l) else s) := by
        rw [playFN_succ g ts k (by omega), HPS.out.1, hl]
        unfold playStepN
        rw [if_neg (by rw [HPS.out.2.2]; simp), HPS.out.2.1]
      have HNX := Lib.hid hnx
      obtain ⟨F, hF⟩ : ∃ x, stepFault s l = x := ⟨_, rfl⟩
      have HF := Lib.hid hF
      have HKL : Hid (∀ c ∈ l, c.kind = c.target) := Lib.hid (by
        have hkt : k < ts.length := by omega
        refine HKT.out l ?_
        rw [← HL.out]
        simp [List.getD, hkt])
      clear hcr hl hnx hF
      go_upto_region 10 with fail
      go_cut [9, 10] (fun a c wx => ∃ (p : Nat) (q : FiveV), a = .pointer (some ⟨p, 0, none⟩) ∧ c = .int .i64 (F : Nat) ∧ (wr.heap.size ≤ p ∧ Blk wx p q.1 ∧ FiveOff wr F (stepN s l) q.1 p wx ∧ Below wr.heap.size wr wx))
      case first =>
        haveI := Kw.ne (fun b => wr.heap.size ≤ b) wr
        have kx1 : ∀ (x : Kw (fun b => wr.heap.size ≤ b) wr) (o : Nat), x.w.cell? ⟨P7, o, none⟩ = wr.cell? ⟨P7, o, none⟩ := fun x o => x.cell _ _ l7r (by omega)
        have kx2 : ∀ (x : Kw (fun b => wr.heap.size ≤ b) wr) (o : Nat), x.w.cell? ⟨w.heap.size, o, none⟩ = wr.cell? ⟨w.heap.size, o, none⟩ := fun x o => x.cell _ _ lSr (by omega)
        have kx3 : ∀ (x : Kw (fun b => wr.heap.size ≤ b) wr) (o : Nat), x.w.cell? ⟨bt, o, none⟩ = wr.cell? ⟨bt, o, none⟩ := fun x o => x.cell _ _ hbtr (by omega)
        have CALL : Hid (∀ x, Kp (fun b => wr.heap.size ≤ b) wr x → Calls Try.prog 45 #[.agg #[.int .i64 s.tick, .int .i64 s.g0, .int .i64 s.g1, .int .i64 s.next, .slice ua1 s.us.length cu1], .slice la l.length cl] x fun e w' => ∃ q : FiveV, e = .returned (.tuple #[.agg q.1, .int .i64 (F : Nat)]) ∧ Below x.heap.size x w' ∧ (F = 0 → ∃ a' n', q.1 = #[.int .i64 (stepN s l).tick, .int .i64 (stepN s l).g0, .int .i64 (stepN s l).g1, .int .i64 (stepN s l).next, .slice a' (stepN s l).us.length n'] ∧
            w'.ownsRow x.heap.size 130 11 (.slice a' (stepN s l).us.length n') (stepN s l).us.length (cellsAllN (stepN s l).us))) := Lib.hid (fun x hx => by
          have hb := kw_belowN hx 0
          refine (refstepn_any s ua1 la cu1 cl HSS.out.1 HSS.out.2 (by omega) l hlm HKL.out x ((HRU.out.row.below hb).mono hb.size) ((HCR.out.below hb).mono hb.size)).mono ?_
          rintro e x' hend
          obtain ⟨hb, hcase⟩ := hend
          rcases hcase with ⟨hne, rfl⟩ | ⟨hz, a6, c6, rfl, o2⟩
          · refine ⟨⟨#[.int .i64 0, .int .i64 0, .int .i64 0, .int .i64 0, .slice none 0 0], by exact ⟨rfl, by simp [Value.oneCell']⟩⟩, by rw [HF.out], hb, fun e => ?_⟩
            rw [HF.out] at hne
            exact absurd e hne
          · refine ⟨⟨#[.int .i64 (stepN s l).tick, .int .i64 (stepN s l).g0, .int .i64 (stepN s l).g1, .int .i64 (stepN s l).next, .slice a6 (stepN s l).us.length c6], by exact ⟨rfl, by simp [Value.oneCell']⟩⟩, by rw [← HF.out, hz]; rfl, hb, fun _ => ⟨a6, c6, rfl, o2⟩⟩)
        refine region_plan 12 (.read 0 (.read 1 (.read 2 (.read 3 (.read 4 (.read 5 (.fork 6 (.read 7 (.read 8 (.read 9 (.write 10 (.write 11 .done))))) 10 (.write 6 (.read 7 (.read 8 (.read 9 (.write 11 .done)))))))))))) (kall (fun b => wr.heap.size ≤ b) wr) (kall_start _ _) (by kernel_rfl) (by kernel_rfl) ?_
        iterate 6 (refine plan_read rfl ?_; refine mix_readK (fun K hK => ?_); go_simp; refine hK _ (mix_nil ?_); clear hK K)
        refine plan_fork ?_ ?_
        · refine plan_write rfl (mix_call (ι := FiveV) (fun q => .tuple #[.agg q.1, .int .i64 (F : Nat)]) (fun q => kcl (fun b => wr.heap.size ≤ b) wr (fun x => FiveAt wr F (stepN s l) q.1 x) (fun _ _ h hb => h.call hb)) 45 #[.agg #[.int .i64 s.tick, .int .i64 s.g0, .int .i64 s.g1, .int .i64 s.next, .slice ua1 s.us.length cu1], .slice la l.length cl] rfl (fun x => by simp [go_sem]) (fun x hx => ?_) (fun q => mix_nil ?_))
          · refine (CALL.out x hx.1).mono ?_
            rintro e x' ⟨q, rfl, hb, hq⟩
            exact ⟨q, rfl, hx.1.then_ hb, fun e => let ⟨a', n', h1, h3⟩ := hq e; ⟨a', n', h1, own_base h3 hx.1.size⟩⟩
          try dsimp only
          iterate 3 (refine plan_read rfl ?_; refine mix_readK (fun K hK => ?_); go_simp; refine hK _ (mix_nil ?_); clear hK K)
          refine plan_write rfl ?_
          refine mix_write (ι := {p : Nat // wr.heap.size ≤ p}) (fun p => .pointer (some ⟨p.1, 0, none⟩)) (fun p => kcl (fun b => wr.heap.size ≤ b) wr (fun x => Blk x p.1 #[.int .i64 0, .int .i64 0, .int .i64 0, .int .i64 0, .slice none 0 0] ∧ FiveOff wr F (stepN s l) q.1 p.1 x) (fun _ _ h hb => ⟨h.1.call hb, h.2.call hb⟩)) rfl (fun x h => ⟨⟨x.heap.size, h.1.size⟩, _, Or.inl (by simp [go_sem]; rfl), ?_⟩) (fun p => mix_nil ?_)
          · have hb : Below x.heap.size x (x.alloc (.cells #[.int .i64 0, .int .i64 0, .int .i64 0, .int .i64 0, .slice none 0 0] 65)) := (Below.refl _ _).alloc (Nat.le_refl _) _
            refine ⟨h.1.then_ hb, Blk.new x _ _, fun e => ?_⟩
            obtain ⟨a', n', h1, h3⟩ := h.2 e
            exact ⟨a', n', h1, own_kp h3 (kp_of hb (fun _ => False)) (fun _ _ y => y), fun b hb2 => by have := (World.ownsRow.lt h3 b hb2).2; show b ≠ x.heap.size; omega⟩
          refine plan_write rfl ?_
          try dsimp only
          refine mix_store2N (X := fun b => wr.heap.size ≤ b) (v := wr) p.1 (z := #[.int .i64 0, .int .i64 0, .int .i64 0, .int .i64 0, .slice none 0 0]) q.1 65 (.tmp 9) (.tmp 44) (by rfl) (by rfl) (by rfl) (by rfl) (by rfl) (by rw [q.2.1]; rfl) (by rw [q.2.1]; exact infoNewerN) q.2.2 p.2 (fun x => FiveOff wr F (stepN s l) q.1 p.1 x) (fun _ _ h hk => h.kp hk) (fun _ _ h hb => ⟨h.1.call hb, h.2.call hb⟩) (mix_nil ?_)
          refine plan_done ?_
          rintro w5 ⟨k5, b5, h5⟩
          go_simp
          go_wp2_with fail
          go_meet
          exact ⟨p.1, q, rfl, rfl, p.2, b5, h5, kw_belowN k5 0⟩
        · refine plan_write rfl ?_
          refine mix_write (ι := {p : Nat // wr.heap.size ≤ p}) (fun p => .pointer (some ⟨p.1, 0, none⟩)) (fun p => kcl (fun b => wr.heap.size ≤ b) wr (fun x => Blk x p.1 #[.int .i64 0, .int .i64 0, .int .i64 0, .int .i64 0, .slice none 0 0]) (fun _ _ h hb => h.call hb)) rfl (fun x h => ⟨⟨x.heap.size, h.1.size⟩, _, Or.inl (by simp [go_sem]; rfl), ?_⟩) (fun p => mix_nil ?_)
          · exact ⟨h.1.then_ ((Below.refl _ _).alloc (Nat.le_refl _) _), Blk.new x _ _⟩
          refine plan_write rfl (mix_call (ι := FiveV) (fun q => .tuple #[.agg q.1, .int .i64 (F : Nat)]) (fun q => kcl (fun b => wr.heap.size ≤ b) wr (fun x => Blk x p.1 #[.int .i64 0, .int .i64 0, .int .i64 0, .int .i64 0, .slice none 0 0] ∧ FiveOff wr F (stepN s l) q.1 p.1 x) (fun _ _ h hb => ⟨h.1.call hb, h.2.call hb⟩)) 45 #[.agg #[.int .i64 s.tick, .int .i64 s.g0, .int .i64 s.g1, .int .i64 s.next, .slice ua1 s.us.length cu1], .slice la l.length cl] rfl (fun x => by simp [go_sem]) (fun x hx => ?_) (fun q => mix_nil ?_))
          · refine (CALL.out x hx.1).mono ?_
            rintro e x' ⟨q, rfl, hb, hq⟩
            have hpl := hx.2.lt
            exact ⟨q, rfl, hx.1.then_ hb, hx.2.call hb, fun e => let ⟨a', n', h1, h3⟩ := hq e; ⟨a', n', h1, own_base h3 hx.1.size, fun b hb2 => by have := (World.ownsRow.lt h3 b hb2).1; omega⟩⟩
          try dsimp only
          iterate 3 (refine plan_read rfl ?_; refine mix_readK (fun K hK => ?_); go_simp; refine hK _ (mix_nil ?_); clear hK K)
          refine plan_write rfl ?_
          try dsimp only
          refine mix_store2N (X := fun b => wr.heap.size ≤ b) (v := wr) p.1 (z := #[.int .i64 0, .int .i64 0, .int .i64 0, .int .i64 0, .slice none 0 0]) q.1 65 (.tmp 9) (.tmp 44) (by rfl) (by rfl) (by rfl) (by rfl) (by rfl) (by rw [q.2.1]; rfl) (by rw [q.2.1]; exact infoNewerN) q.2.2 p.2 (fun x => FiveOff wr F (stepN s l) q.1 p.1 x) (fun _ _ h hk => h.kp hk) (fun _ _ h hb => ⟨h.1.call hb, h.2.call hb⟩) (mix_nil ?_)
          refine plan_done ?_
          rintro w5 ⟨k5, b5, h5⟩
          go_simp
          go_wp2_with fail
          go_meet
          exact ⟨p.1, q, rfl, rfl, p.2, b5, h5, kw_belowN k5 0⟩
      case rest =>
      obtain ⟨p, q, rfl, rfl, hp, kp, hoff, hbc⟩ := hcut
      have hpl := kp.lt
      have HOFF := Lib.hid hoff
      have HKP := Lib.hid kp
      have HBC := Lib.hid hbc
      have KRC := Lib.hid ((KRV.out.kp HKR.out (by omega)).call hbc)
      have hKB := HKB.out.call hbc
      obtain ⟨lPc, cPc, fPc⟩ := id hKB
      have HKBC := Lib.hid hKB
      have hsc := hbc.size
      have hWc : Below w.heap.size w wc := HWR.out.trans (hbc.mono (by have := HWR.out.size; omega))
      have HWC := Lib.hid hWc
      clear kp hoff hbc hKB hWc
      by_cases hf0 : F = 0
      case neg =>
        have dz : decide ((0 : Int) < (F : Int)) = true := decide_eq_true (by omega)
        have dz' : decide (0 < F) = true := decide_eq_true (by omega)
        have HST : Hid (playFN g (ts.take n) = (F, s)) := Lib.hid (by
          show _ = _
          have h1 : playFN g (ts.take (k + 1)) = (F, s) := by rw [HNX.out, HF.out, if_neg hf0]
          rw [playFN_stuck (g := g) (ts := ts) (k := k + 1) (n := n) (by omega) (by rw [h1]; exact hf0), h1])
        have HF0 := Lib.hid hf0
        obtain ⟨z0, z1, z2, z3, z4⟩ : wc.cell? ⟨w.heap.size + 1, 0, none⟩ = some (.int .i64 0) ∧ wc.cell? ⟨w.heap.size + 1, 1, none⟩ = some (.int .i64 0) ∧ wc.cell? ⟨w.heap.size + 1, 2, none⟩ = some (.int .i64 0) ∧ wc.cell? ⟨w.heap.size + 1, 3, none⟩ = some (.int .i64 0) ∧ wc.cell? ⟨w.heap.size + 1, 4, none⟩ = some (.slice none 0 0) := ⟨KRC.out.cell 0, KRC.out.cell 1, KRC.out.cell 2, KRC.out.cell 3, KRC.out.cell 4⟩
        obtain ⟨lRc, -, fRc⟩ := id KRC.out
        clear hf0
        go_wp2_with fail
        refine bodyPost_ret (v := .tuple #[.agg #[.int .i64 0, .int .i64 0, .int .i64 0, .int .i64 0, .slice none 0 0], .int .i64 (F : Nat)]) (ret_cell2n Try.results51 rfl rfl (KRC.out.store5n rfl (.int .i64 0) (.int .i64 0) (.int .i64 0) (.int .i64 0) (.slice none 0 0)) Try.underlying65 rfl infoNewerN) rfl ?_
        rw [HST.out]
        exact ⟨belowFive HWC.out (by omega) _ _ _ _ _, Or.inl ⟨HF0.out, rfl⟩⟩
      have dz : decide ((0 : Int) < (F : Int)) = false := decide_eq_false (by omega)
      have dz' : decide (0 < F) = false := decide_eq_false (by omega)
      obtain ⟨a6, c6, hq, o2, n2⟩ := HOFF.out hf0
      rw [hq] at HKP
      obtain ⟨lpc, cpc, -⟩ := id HKP.out
      have O2 := Lib.hid o2
      have HF0 := Lib.hid hf0
      have cp0 := c7r
      clear hq o2 n2 hf0 c7r f7r l7r cSr lSr
      go_wp2_with fail
      go_roundw
      case rel =>
        have hnx : playFN g (ts.take (k + 1)) = (0, (stepN s l)) := by rw [HNX.out, HF.out, HF0.out, if_pos rfl]
        refine ⟨k + 1, by go_num, by omega, by rw [hnx], ?_, ?_⟩
        · rw [hnx]
          try dsimp only
          have kq : Kp (fun c => c = P7) wc _ := kp_five (Kp.refl (fun b => b = P7) wc) rfl (.int .i64 (stepN s l).tick) (.int .i64 (stepN s l).g0) (.int .i64 (stepN s l).g1) (.int .i64 (stepN s l).next) (.slice a6 (stepN s l).us.length c6)
          refine ⟨a6, c6, HKBC.out.store5n rfl _ _ _ _ _, (off_units O2.out (by have := HKB.out.lt; omega)).kp (kq.imp (fun _ _ h => Or.inl h))⟩
        · exact kp_five (HKR.out.then_ HBC.out) rfl _ _ _ _ _
      case measure => simp [intOf]; omega
    · obtain rfl : k = n := by omega
      have kRr := KRV.out.kp HKR.out (by omega)
      obtain ⟨z0, z1, z2, z3, z4⟩ : wr.cell? ⟨w.heap.size + 1, 0, none⟩ = some (.int .i64 0) ∧ wr.cell? ⟨w.heap.size + 1, 1, none⟩ = some (.int .i64 0) ∧ wr.cell? ⟨w.heap.size + 1, 2, none⟩ = some (.int .i64 0) ∧ wr.cell? ⟨w.heap.size + 1, 3, none⟩ = some (.int .i64 0) ∧ wr.cell? ⟨w.heap.size + 1, 4, none⟩ = some (.slice none 0 0) := ⟨kRr.cell 0, kRr.cell 1, kRr.cell 2, kRr.cell 3, kRr.cell 4⟩
      obtain ⟨lRc, -, fRc⟩ := id kRr
      have KRR := Lib.hid kRr
      clear kRr f7r cSr lSr
      go_wp2_with fail
      refine bodyPost_ret (v := .tuple #[.agg #[.int .i64 s.tick, .int .i64 s.g0, .int .i64 s.g1, .int .i64 s.next, .slice ua1 s.us.length cu1], .int .i64 0]) (ret_cell2n Try.results51 rfl rfl (KRR.out.store5n rfl (.int .i64 s.tick) (.int .i64 s.g0) (.int .i64 s.g1) (.int .i64 s.next) (.slice ua1 s.us.length cu1)) Try.underlying65 rfl infoNewerN) rfl ?_
      have hps := HPS.out
      have hpf : (playFN g (ts.take k)).2 = s := by rw [hps.1, hps.2.1]
      refine ⟨belowFive HWR.out (by omega) _ _ _ _ _, Or.inr ⟨by rw [hps.1]; exact hps.2.2, ua1, cu1, by rw [hpf], ?_⟩⟩
      · rw [hpf]
        exact (HRU.out.kp ((kp_five (Kp.refl (fun b => b = w.heap.size + 1) wr) rfl _ _ _ _ _).imp (fun _ _ h => Or.inr h))).row
end Go.Proofs.Ytlfljlhppigejaa
namespace Go.Proofs.Ytlfljlhppigejaa
open Go.RowKit
attribute [local go_sem] qOne qAt qUp qOneK

def uT1 : U := ⟨1, 0, 2, 3, 3, 8, 0, 0, 0, 0, 0⟩
def uT2 : U := ⟨2, 1, 1, 5, 3, 5, 0, 0, 0, 0, 0⟩
def uS1 : U := ⟨1, 0, 2, 3, 3, 8, 2, 0, 0, 2, 0⟩
def uS2 : U := ⟨2, 1, 1, 5, 3, 3, 0, 0, 0, 0, 0⟩
def gT : G := ⟨true, 0, 0, 0, 3, [], [uT1, uT2]⟩
def gS : G := ⟨true, 1, 0, 0, 3, [], [uS1, uS2]⟩
def cTC : Cm := ⟨0, 2, 1, 2, 0, 0, 2⟩
def cT : List Cm := [cTC]
theorem stepT0 : stepFault gT cT = 0 := by kernel_rfl
theorem stepT1 : stepN gT cT = gS := by kernel_rfl

set_option maxHeartbeats 3200000 in
set_option maxRecDepth 100000 in
theorem too_any (w : World) : Calls Try.prog 41 #[] w (TrueBelow w) := by
  go_enter Try.func41, Try.ntmps41
  go_upto_region 2 with fail
  refine gen_world (fun V => Below w.heap.size w V ∧ Blk V w.heap.size (cellsAllN gT.us).toArray ∧ Blk V (w.heap.size + 1) #[.int .i64 0, .int .i64 0, .int .i64 0, .int .i64 3, .slice (some ⟨w.heap.size, 0, none⟩) 2 2]) ⟨((Below.refl _ _).alloc (Nat.le_refl _) _).alloc (by simp) _, (Blk.new w (cellsAllN gT.us).toArray _).alloc _, ?_⟩ ?_
  · have := Blk.new (w.alloc (.cells (cellsAllN gT.us).toArray 130)) #[.int .i64 0, .int .i64 0, .int .i64 0, .int .i64 3, .slice (some ⟨w.heap.size, 0, none⟩) 2 2] 65
    rw [World.size_alloc] at this
    exact this
  rintro V ⟨hb, k0, k1⟩
  obtain ⟨l1, c1, -⟩ := id k1
  have hbC : Below V.heap.size V (V.alloc (.cells (cellsO cTC).toArray 73)) := (Below.refl _ _).alloc (Nat.le_refl _) _
  have kC : Blk (V.alloc (.cells (cellsO cTC).toArray 73)) V.heap.size (cellsO cTC).toArray := Blk.new V _ _
  have hrU : URow true (V.alloc (.cells (cellsO cTC).toArray 73)).heap.size (V.alloc (.cells (cellsO cTC).toArray 73)) (some ⟨w.heap.size, 0, none⟩) gT.us := fun i hi => by
    have hi0 : i = 0 ∨ i = 1 := by have : i < 2 := hi; omega
    refine ⟨w.heap.size, 0, rfl, by have := k0.lt; simp; omega, fun j hj => ?_⟩
    have hj' : j < 11 := hj
    have := (k0.call hbC).cell (0 + i * szOf true + j)
    rw [this]
    rw [show 0 + i * szOf true + j = i * 11 + j by show 0 + i * 11 + j = _; omega]
    have h4 := cellsAllN_get gT.us i j (by show i < 2; omega) hj'
    rw [show (cellsAllN gT.us).toArray[i * 11 + j]? = (cellsAllN gT.us)[i * 11 + j]? from by simp, h4]
    rfl
  have hrC : ORow (V.alloc (.cells (cellsO cTC).toArray 73)).heap.size (V.alloc (.cells (cellsO cTC).toArray 73)) (some ⟨V.heap.size, 0, none⟩) cT := fun i hi => by
    have hi0 : i = 0 := by have : i < 1 := hi; omega
    subst hi0
    refine ⟨V.heap.size, 0, rfl, by simp, fun j hj => ?_⟩
    rw [kC.cell, show 0 + 0 * 6 + j = j by omega]
    show (cellsO cTC).toArray[j]? = (cellsO cTC)[j]?
    simp
  have HST := nstep_any gT (some ⟨w.heap.size, 0, none⟩) (some ⟨V.heap.size, 0, none⟩) 2 1 rfl rfl (by show (2 : Nat) ≤ _; omega) cT (by show (1 : Nat) ≤ _; omega) (fun c hc => by
    have : c = cTC := by simpa [cT] using hc
    subst this
    exact ⟨rfl, by decide, by decide⟩) _ hrU (fun e => by cases e) (by show (2 : Nat) ≤ 2; omega) hrC
  unfold NStepEnd at HST
  rw [stepT0, stepT1] at HST
  have HST' := Lib.hid HST
  have HB := Lib.hid hb
  have HBC := Lib.hid hbC
  clear k0 hbC kC hrU hrC HST hb
  go_wp2_with fail
  refine HST'.out.mono ?_
  rintro e x ⟨hbx, hcase⟩
  rcases hcase with ⟨h, -⟩ | ⟨-, ub, cb, rfl, o2⟩
  · exact absurd rfl h
  obtain ⟨ea, ec, ev, -, hr, -⟩ := URow.of_ownN o2
  cases ev
  obtain ⟨b, o, rfl, hbB, q0, q1, q2, q3, q4, q5, -⟩ := hr.getN 1 (by show 1 < 2; omega) uS2 rfl
  have HBX := Lib.hid (HB.out.trans ((HBC.out.trans (hbx.mono HBC.out.size)).mono HB.out.size))
  have q5' : x.cell? ⟨b, o + 11 + 5, none⟩ = some (.int .i64 3) := q5
  clear o2 hr q0 q1 q2 q3 q4 q5 hbx c1
  go_wp2_with fail
  refine (same_any 0 0 _).mono ?_
  rintro e y ⟨rfl, rfl⟩
  go_wp2_with fail
  go_ret
  exact ⟨rfl, HBX.out.alloc HBX.out.size _⟩

set_option maxHeartbeats 1600000 in
set_option maxRecDepth 100000 in
theorem refnplay_bad (g : G) (ua ta : Option Addr) (cu ct : Nat) (ts : List (List Cm)) (_hct : ts.length ≤ 100000) (n : Int) (hn : n < 0 ∨ (ts.length : Int) < n) (w : World) :
    Calls Try.prog 51 #[.agg #[.int .i64 g.tick, .int .i64 g.g0, .int .i64 g.g1, .int .i64 g.next, .slice ua g.us.length cu, .slice ta ts.length ct], .int .i64 n] w fun e w' => e = .returned (.tuple #[.agg #[.int .i64 0, .int .i64 0, .int .i64 0, .int .i64 0, .slice none 0 0], .int .i64 1]) ∧ Below w.heap.size w w' := by
  obtain ⟨W, hW⟩ : ∃ W, (w.alloc (.cells #[.int .i64 g.tick, .int .i64 g.g0, .int .i64 g.g1, .int .i64 g.next, .slice ua g.us.length cu, .slice ta ts.length ct] 69)).alloc (.cells #[.int .i64 0, .int .i64 0, .int .i64 0, .int .i64 0, .slice none 0 0] 65) = W := ⟨_, rfl⟩
  have hbW : Below w.heap.size w W := by rw [← hW]; exact ((Below.refl _ _).alloc (Nat.le_refl _) _).alloc (by simp) _
  have kS : Blk W w.heap.size #[.int .i64 g.tick, .int .i64 g.g0, .int .i64 g.g1, .int .i64 g.next, .slice ua g.us.length cu, .slice ta ts.length ct] := by rw [← hW]; exact (Blk.new w _ _).alloc _
  have kR : Blk W (w.heap.size + 1) #[.int .i64 0, .int .i64 0, .int .i64 0, .int .i64 0, .slice none 0 0] := by
    rw [← hW]
    have := Blk.new (w.alloc (.cells #[.int .i64 g.tick, .int .i64 g.g0, .int .i64 g.g1, .int .i64 g.next, .slice ua g.us.length cu, .slice ta ts.length ct] 69)) #[.int .i64 0, .int .i64 0, .int .i64 0, .int .i64 0, .slice none 0 0] 65
    rw [World.size_alloc] at this
    exact this
  obtain ⟨lS0, cS0, -⟩ := id kS
  have HBW := Lib.hid hbW
  have KR := Lib.hid kR
  obtain ⟨lR2, -, fR2⟩ := id kR
  obtain ⟨z0, z1, z2, z3, z4⟩ : W.cell? ⟨w.heap.size + 1, 0, none⟩ = some (.int .i64 0) ∧ W.cell? ⟨w.heap.size + 1, 1, none⟩ = some (.int .i64 0) ∧ W.cell? ⟨w.heap.size + 1, 2, none⟩ = some (.int .i64 0) ∧ W.cell? ⟨w.heap.size + 1, 3, none⟩ = some (.int .i64 0) ∧ W.cell? ⟨w.heap.size + 1, 4, none⟩ = some (.slice none 0 0) := ⟨kR.cell 0, kR.cell 1, kR.cell 2, kR.cell 3, kR.cell 4⟩
  clear hbW kS kR
  go_enter Try.func51, Try.ntmps51
  go_upto_region 1 with fail
  try rw [hW]
  clear hW
  by_cases h0 : n < 0
  · have d0 : decide (n < 0) = true := decide_eq_true h0
    clear h0 hn
    go_wp2_with fail
    refine bodyPost_ret (v := .tuple #[.agg #[.int .i64 0, .int .i64 0, .int .i64 0, .int .i64 0, .slice none 0 0], .int .i64 1]) (ret_cell2n Try.results51 rfl rfl (KR.out.store5n rfl (.int .i64 0) (.int .i64 0) (.int .i64 0) (.int .i64 0) (.slice none 0 0)) Try.underlying65 rfl infoNewerN) rfl ?_
    exact ⟨rfl, belowFiveN HBW.out (by omega) _ _ _ _ _⟩
  · have d0 : decide (n < 0) = false := decide_eq_false h0
    have d1 : decide ((ts.length : Int) < n) = true := decide_eq_true (by omega)
    clear h0 hn
    go_wp2_with fail
    refine bodyPost_ret (v := .tuple #[.agg #[.int .i64 0, .int .i64 0, .int .i64 0, .int .i64 0, .slice none 0 0], .int .i64 1]) (ret_cell2n Try.results51 rfl rfl (KR.out.store5n rfl (.int .i64 0) (.int .i64 0) (.int .i64 0) (.int .i64 0) (.slice none 0 0)) Try.underlying65 rfl infoNewerN) rfl ?_
    exact ⟨rfl, belowFiveN HBW.out (by omega) _ _ _ _ _⟩
end Go.Proofs.Ytlfljlhppigejaa
