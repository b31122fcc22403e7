/-
  A step and a play of the newer game, by the program and by the document, in one form. Parts of the law NewerSays: its memory; orders of one's own, with one more behind them.
-/
import Derived.Test.YtlfljlhppigejaaPackLaw
import Derived.Test.YtlfljlhppigejaaOwnAll
import Derived.Test.YtlfljlhppigejaaRefSame
import Derived.Test.YtlfljlhppigejaaNewCheck
import Derived.Test.YtlfljlhppigejaaLightReel
namespace Go.Proofs.Ytlfljlhppigejaa
open Go.RowKit

/-- The state behind a step: zero, if it is not played. -/
def stepXN (g : G) (cs : List Cm) : G := if stepFault g cs = 0 then stepN g cs else ⟨true, 0, 0, 0, 0, [], []⟩
def NewerAll (err : Value) (x : G) (w : World) (e : Ending) (w' : World) : Prop :=
  ∃ ux uc, e = .returned (.tuple #[.agg #[.int .i64 x.tick, .int .i64 x.g0, .int .i64 x.g1, .int .i64 x.next, .slice ux x.us.length uc], err]) ∧ URow true w'.heap.size w' ux x.us ∧ Below w.heap.size w w'
theorem stepallN_prog {g : G} {cs : List Cm} {w w' : World} {e : Ending} (h : NStepEnd g cs w e w') : NewerAll (errV (stepFault g cs)) (stepXN g cs) w e w' := by
  obtain ⟨hb, ⟨hne, rfl⟩ | ⟨hz, ub, cb, rfl, o2⟩⟩ := h
  · unfold stepXN
    rw [if_neg hne]
    exact ⟨none, 0, rfl, fun k hk => absurd hk (Nat.not_lt_zero k), hb⟩
  · unfold stepXN
    rw [if_pos hz, hz]
    obtain ⟨a2, c2, e, -, r2, -⟩ := URow.of_ownN o2
    cases e
    exact ⟨ub, cb, rfl, r2, hb⟩
theorem stepallN_ref {g : G} {cs : List Cm} {w w' : World} {e : Ending} (h : RNStepEnd g cs w e w') : NewerAll (.int .i64 (stepFault g cs : Nat)) (stepXN g cs) w e w' := by
  obtain ⟨hb, ⟨hne, rfl⟩ | ⟨hz, ub, cb, rfl, o2⟩⟩ := h
  · unfold stepXN
    rw [if_neg hne]
    exact ⟨none, 0, rfl, fun k hk => absurd hk (Nat.not_lt_zero k), hb⟩
  · unfold stepXN
    rw [if_pos hz, hz]
    obtain ⟨a2, c2, e, -, r2, -⟩ := URow.of_ownN o2
    cases e
    exact ⟨ub, cb, rfl, r2, hb⟩
theorem stepXN_few {g : G} (hn : g.new = true) (hf : g.free = []) (cs : List Cm) : (stepXN g cs).us.length ≤ 20 := by
  unfold stepXN
  by_cases h : stepFault g cs = 0
  · rw [if_pos h]
    exact ((right_iff _).1 (newer_law hn hf h).right).few
  · rw [if_neg h]
    show (0 : Nat) ≤ 20
    omega
theorem playallN_prog (g : G) (ua ta : Option Addr) (cu ct : Nat) (hnew : g.new = true) (hfree : g.free = []) (hcu : g.us.length ≤ 100000) (hnil : ua = none → g.us.length = 0 ∧ cu = 0) (hcapu : g.us.length ≤ cu) (ts : List (List Cm)) (hct : ts.length ≤ 100000) (hcap : ts.length ≤ ct)
    (hkt : ∀ l ∈ ts, ∀ c ∈ l, c.kind = c.target ∧ (Lit.int .i64 c.id).wf = true ∧ (Lit.int .i64 c.target).wf = true) (n : Int) (w : World) (hu : URow true w.heap.size w ua g.us) (ht : PRow w.heap.size w ta ts) :
    Calls Try.prog 50 #[.agg #[.int .i64 g.tick, .int .i64 g.g0, .int .i64 g.g1, .int .i64 g.next, .slice ua g.us.length cu, .slice ta ts.length ct], .int .i64 n] w (NewerAll (errV (playNN g ts n).1) (playNN g ts n).2 w) := by
  by_cases hn : n < 0 ∨ (ts.length : Int) < n
  · refine (nplay_bad g ua ta cu ct ts hct n hn w).mono ?_
    rintro e w' ⟨rfl, hb⟩
    unfold playNN
    rw [if_pos hn]
    exact ⟨none, 0, rfl, fun k hk => absurd hk (Nat.not_lt_zero k), hb⟩
  · obtain ⟨m, rfl⟩ := Int.eq_ofNat_of_zero_le (show 0 ≤ n by omega)
    refine (nplay_any g ua ta cu ct hnew hfree (by omega) hnil hcapu ts hct hcap hkt m (by omega) w hu ht).mono ?_
    rintro e w' ⟨hb, ⟨hne, rfl⟩ | ⟨hz, ub, cb, rfl, o2⟩⟩
    · unfold playNN
      rw [if_neg hn, Int.toNat_natCast, if_neg hne]
      exact ⟨none, 0, rfl, fun k hk => absurd hk (Nat.not_lt_zero k), hb⟩
    · unfold playNN
      rw [if_neg hn, Int.toNat_natCast, if_pos hz, hz]
      obtain ⟨a2, c2, e, -, r2, -⟩ := URow.of_ownN o2
      cases e
      exact ⟨ub, cb, rfl, r2, hb⟩
theorem playallN_ref (g : G) (ua ta : Option Addr) (cu ct : Nat) (hgn : g.new = true) (hgf : g.free = []) (hcu : g.us.length ≤ 100000) (ts : List (List Cm)) (hct : ts.length ≤ 100000) (hcap : ts.length ≤ ct) (hll : ∀ l ∈ ts, l.length ≤ 100000) (hkt : ∀ l ∈ ts, ∀ c ∈ l, c.kind = c.target) (n : Int) (w : World)
    (hu : URow true w.heap.size w ua g.us) (ht : PRow w.heap.size w ta ts) :
    Calls Try.prog 51 #[.agg #[.int .i64 g.tick, .int .i64 g.g0, .int .i64 g.g1, .int .i64 g.next, .slice ua g.us.length cu, .slice ta ts.length ct], .int .i64 n] w (NewerAll (.int .i64 ((playNN g ts n).1 : Nat)) (playNN g ts n).2 w) := by
  by_cases hn : n < 0 ∨ (ts.length : Int) < n
  · refine (refnplay_bad g ua ta cu ct ts hct n hn w).mono ?_
    rintro e w' ⟨rfl, hb⟩
    unfold playNN
    rw [if_pos hn]
    exact ⟨none, 0, rfl, fun k hk => absurd hk (Nat.not_lt_zero k), hb⟩
  · obtain ⟨m, rfl⟩ := Int.eq_ofNat_of_zero_le (show 0 ≤ n by omega)
    refine (refplayn_any g ua ta cu ct hgn hgf hcu ts hct hcap hll hkt m (by omega) w hu ht).mono ?_
    rintro e w' ⟨hb, ⟨hne, rfl⟩ | ⟨hz, ua', cu', rfl, r2⟩⟩
    · unfold playNN
      rw [if_neg hn, Int.toNat_natCast, if_neg hne]
      exact ⟨none, 0, rfl, fun k hk => absurd hk (Nat.not_lt_zero k), hb⟩
    · unfold playNN
      rw [if_neg hn, Int.toNat_natCast, if_pos hz, hz]
      exact ⟨ua', cu', rfl, r2, hb⟩
end Go.Proofs.Ytlfljlhppigejaa
namespace Go.Proofs.Ytlfljlhppigejaa
open Go.RowKit

/-- A state lies in p. -/
structure SVN (x : World) (p : Nat) (g : G) (ua : Option Addr) (cu : Nat) : Prop where
  blk : Blk x p #[.int .i64 g.tick, .int .i64 g.g0, .int .i64 g.g1, .int .i64 g.next, .slice ua g.us.length cu]
  ru : URow true x.heap.size x ua g.us
theorem SVN.call {x y : World} {p : Nat} {g : G} {ua : Option Addr} {cu : Nat} (H : SVN x p g ua cu) (hb : Below x.heap.size x y) : SVN y p g ua cu :=
  ⟨H.blk.call hb, (H.ru.below hb).mono hb.size⟩
theorem SVN.new {x : World} {g : G} {ua : Option Addr} {cu : Nat} (ru : URow true x.heap.size x ua g.us) (T : TypeId) : SVN (x.alloc (.cells #[.int .i64 g.tick, .int .i64 g.g0, .int .i64 g.g1, .int .i64 g.next, .slice ua g.us.length cu] T)) x.heap.size g ua cu :=
  have hb : Below x.heap.size x (x.alloc (.cells #[.int .i64 g.tick, .int .i64 g.g0, .int .i64 g.g1, .int .i64 g.next, .slice ua g.us.length cu] T)) := (Below.refl _ _).alloc (Nat.le_refl _) _
  ⟨Blk.new _ _ _, (ru.below hb).mono hb.size⟩
/-- The law's own memory: what was handed in. -/
structure HoldR (w x : World) (g : G) (ua : Option Addr) (cu : Nat) (cs : List Cm) (la : Option Addr) (t : G) (ub tb : Option Addr) (cv ct : Nat) (ts : List (List Cm)) : Prop where
  bel : Below w.heap.size w x
  sv : SVN x w.heap.size g ua cu
  kT : Blk x (w.heap.size + 1) #[.int .i64 t.tick, .int .i64 t.g0, .int .i64 t.g1, .int .i64 t.next, .slice ub t.us.length cv, .slice tb ts.length ct]
  rc : ORow x.heap.size x la cs
  ru : URow true x.heap.size x ub t.us
  rt : PRow x.heap.size x tb ts
theorem HoldR.call {w x y : World} {g : G} {ua : Option Addr} {cu : Nat} {cs : List Cm} {la : Option Addr} {t : G} {ub tb : Option Addr} {cv ct : Nat} {ts : List (List Cm)} (H : HoldR w x g ua cu cs la t ub tb cv ct ts) (hb : Below x.heap.size x y) : HoldR w y g ua cu cs la t ub tb cv ct ts :=
  ⟨H.bel.trans (hb.mono H.bel.size), H.sv.call hb, H.kT.call hb, (H.rc.below hb).mono hb.size, (H.ru.below hb).mono hb.size, (H.rt.below hb).mono hb.size⟩
theorem infoOrd6 : (Try.prog.info? 73).map (fun i => (i.zero, i.size, i.bytes)) = some (some (.agg #[.int .i64 0, .int .i64 0, .int .i64 0, .int .i64 0, .int .i64 0, .int .i64 0]), 6, 48) := by kernel_rfl
def cellsOs (cs : List Cm) : List Value := cs.flatMap cellsO
theorem cellsOs_length (cs : List Cm) : (cellsOs cs).length = cs.length * 6 := by
  induction cs with
  | nil => rfl
  | cons c cs ih => simp only [cellsOs, List.flatMap_cons, List.length_append, List.length_cons] at *; rw [ih]; show 6 + _ = _; omega
theorem cellsOs_get (cs : List Cm) : ∀ i j, i < cs.length → j < 6 → (cellsOs cs)[i * 6 + j]? = (cellsO (cs.getD i zeroC))[j]? := by
  induction cs with
  | nil => intro i j hi; cases hi
  | cons c cs ih =>
    intro i j hi hj
    cases i with
    | zero =>
      show (cellsO c ++ cellsOs cs)[0 * 6 + j]? = (cellsO c)[j]?
      rw [Nat.zero_mul, Nat.zero_add, List.getElem?_append_left (by show j < 6; exact hj)]
    | succ i =>
      show (cellsO c ++ cellsOs cs)[(i + 1) * 6 + j]? = _
      rw [List.getElem?_append_right (by show 6 ≤ _; omega), show (i + 1) * 6 + j - (cellsO c).length = i * 6 + j by show (i + 1) * 6 + j - 6 = _; omega, ih i j (by simpa using hi) hj]
      rfl
theorem cellsOs_one (cs : List Cm) : ∀ u ∈ cellsOs cs, u.oneCell' = true := by
  intro u hu
  obtain ⟨c, -, h⟩ := List.mem_flatMap.1 hu
  simp only [cellsO, List.mem_cons, List.not_mem_nil, or_false] at h
  rcases h with rfl | rfl | rfl | rfl | rfl | rfl <;> rfl
theorem ORow.of_own {B : Nat} {w : World} {g cap n : Nat} {cs : List Cm} {more : List Value} (h : w.ownsRow B 73 6 (.slice (some ⟨g, 0, none⟩) n cap) n (cellsOs cs ++ more)) (hn : cs.length < n) : ORow w.heap.size w (some ⟨g, 0, none⟩) cs ∧ n ≤ cap := by
  rcases h.2 with ⟨h1, -⟩ | ⟨g', cap', cur, h1, -, h3, h4, h5, h6, h7⟩
  · cases h1
  · cases h1
    refine ⟨fun i hi => ⟨g, 0, rfl, ?_, fun j hj => ?_⟩, h4⟩
    · exact (Array.getElem?_eq_some_iff.1 h3).1
    · have e1 : w.cell? ⟨g, 0 + i * 6 + j, none⟩ = cur[i * 6 + j]? := by
        rw [Nat.zero_add]
        simp [World.cell?, h3]
      rw [e1, ← cellsOs_get cs i j hi hj]
      have e2 : (cellsOs cs)[i * 6 + j]? = (cur.toList.take (n * 6))[i * 6 + j]? := by
        rw [h7, List.getElem?_append_left (by rw [cellsOs_length]; omega)]
      rw [e2, List.getElem?_take_of_lt (by omega)]
      simp
/-- append(append(nil, l...), an order), by both runs. -/
theorem ords_grown (w : World) (la : Option Addr) (cl : Nat) (cs : List Cm) (hl : cs.length ≤ 12) (hc : ORow w.heap.size w la cs) : ∃ va vc w1 g cap w3,
    (Builtin.append_ #[66, 66] 66 #[.slice none 0 0, .slice la cs.length cl]).run Try.prog w = .ok (.slice va cs.length vc) w1 ∧
    (Builtin.append_ #[66, 66] 66 #[.slice va cs.length vc, .slice (some ⟨w1.heap.size, 0, none⟩) 1 1]).run Try.prog (w1.alloc (.cells #[.int .i64 0, .int .i64 77, .int .i64 0, .int .i64 0, .int .i64 0, .int .i64 0] 73)) = .ok (.slice (some ⟨g, 0, none⟩) (cs.length + 1) cap) w3 ∧
    Below w.heap.size w w3 ∧ ORow w3.heap.size w3 (some ⟨g, 0, none⟩) cs ∧ cs.length + 1 ≤ cap := by
  obtain ⟨i1, hj0, hj1, hj2, hj3⟩ := info_parts infoOrd6
  obtain ⟨vv, w1, r1, o1, b1, -⟩ := run_copy_of w 66 66 73 i1 _ 6 48 Try.underlying66 hj0 hj1 hj2 hj3 rfl (by omega) la cs.length cl (cellsOs cs) (cellsOs_length cs) (fun h0 => by
    obtain ⟨b, o, ha, -, -⟩ := hc 0 h0
    refine ⟨b, o, ha, fun j hj => ?_⟩
    obtain ⟨b', o', ha', -, hd⟩ := hc (j / 6) (by omega)
    rw [ha] at ha'
    cases ha'
    have h3 := hd (j % 6) (by omega)
    have h4 := cellsOs_get cs (j / 6) (j % 6) (by omega) (by omega)
    rw [show j / 6 * 6 + j % 6 = j from by omega] at h4
    rw [h4, show o + j = o + j / 6 * 6 + j % 6 from by omega]
    exact h3) (cellsOs_one cs) (by unfold maxLen; omega) (by omega)
  obtain ⟨va, vc, rfl⟩ := own_slice o1
  have hb1 : Below w1.heap.size w1 (w1.alloc (.cells #[.int .i64 0, .int .i64 77, .int .i64 0, .int .i64 0, .int .i64 0, .int .i64 0] 73)) := (Below.refl _ _).alloc (Nat.le_refl _) _
  obtain ⟨g, cap, w3, r2, o2, k3, -, -⟩ := run_append_lies (P := Try.prog) (w1.alloc (.cells #[.int .i64 0, .int .i64 77, .int .i64 0, .int .i64 0, .int .i64 0, .int .i64 0] 73)) 66 66 w.heap.size 73 i1 _ 6 48 Try.underlying66 hj0 hj1 hj2 hj3 rfl (by omega)
    (.slice va cs.length vc) cs.length (cellsOs cs) (own_kp o1 (kp_of hb1 (fun _ => False)) (fun _ _ x => x)) ⟨w1.heap.size, 0, none⟩ 1 1 (cellsO ⟨0, 77, 0, 0, 0, 0, 0⟩) rfl (World.news_of_block (heap_alloc_new w1 _)) (by intro u hu; exact cellsOs_one [⟨0, 77, 0, 0, 0, 0, 0⟩] u (by simpa [cellsOs] using hu)) (by omega) (by unfold maxLen; omega) (by omega) (by have := b1.size; simp; omega) _ rfl
  have hcr := ORow.of_own o2 (by omega)
  have hb3 : Below w.heap.size w w3 := by
    have k : Kp (fun b => w.heap.size ≤ b) (w1.alloc (.cells #[.int .i64 0, .int .i64 77, .int .i64 0, .int .i64 0, .int .i64 0, .int .i64 0] 73)) w3 := (Kp.grown k3).imp (fun b _ hb => (World.ownsRow.lt o1 b hb.symm).1)
    exact (b1.alloc b1.size _).trans (k.below (fun _ h => h) (by have := b1.size; simp; omega))
  exact ⟨va, vc, w1, g, cap, w3, r1, r2, hb3, hcr.1, hcr.2⟩
end Go.Proofs.Ytlfljlhppigejaa
