/-
  What is read of bytes, the program's and the document's in one form. Plain law for chapter 6: numbers that were written are read as they were. No program in sight. The walk of saves: a closed fact: a state is read. Two texts in a row of two; what was there stays. The walks of the document's Same: two states that are equal. The walk of the document's SameTape: equal ones. The walk of the document's SameReel: equal ones. The walk of SnapReads: chapter 6: any bytes, and any body in a right frame. A byte out of a word of the model.
-/
import Derived.Test.YtlfljlhppigejaaPackRTop
import Derived.Test.YtlfljlhppigejaaPackTop
import Derived.Test.YtlfljlhppigejaaPackPure
import Derived.Test.YtlfljlhppigejaaWords
import Derived.Test.YtlfljlhppigejaaRegion
import Derived.Test.YtlfljlhppigejaaNewFuncs
import Derived.Test.YtlfljlhppigejaaCmdRow
import Derived.BigQuiet
import Derived.Deep.QuietTactic
import Derived.ChangeKeysEq
import Derived.Laws.StructEq
import Derived.Test.YtlfljlhppigejaaTapeAll
import Derived.Test.YtlfljlhppigejaaReelAll
import Derived.WalkKit
namespace Go.Proofs.Ytlfljlhppigejaa
open Go.RowKit

theorem startI_few (n : Bool) (st : St) : (startI n st).1.free.length ≤ 200 ∧ (startI n st).1.us.length ≤ 20 := by
  cases n
  · exact elderI_len st
  · refine ⟨?_, newerI_len st⟩
    show (newerI st).1.free.length ≤ 200
    rw [newerI_free]
    simp
theorem tapeI_few (n : Bool) (st : St) : (tapeI n st).1.free.length ≤ 200 ∧ (tapeI n st).1.us.length ≤ 20 ∧ (tapeI n st).2.1.length ≤ 60 ∧ ∀ x ∈ (tapeI n st).2.1, x.length ≤ 8 := by
  unfold tapeI
  dsimp only
  refine ⟨(startI_few n st).1, (startI_few n st).2, ?_, ticksI_few n _ _⟩
  rw [ticksI_length]
  have := manyI_range (startI n st).2 60 (by omega)
  omega
def gotE (l : List UInt8) : G := if stateF false l = 0 then (elderI (openL 69 l)).1 else zeroG false
theorem gotE_len (l : List UInt8) : (gotE l).free.length ≤ 200 ∧ (gotE l).us.length ≤ 20 := by
  unfold gotE
  split
  · exact elderI_len _
  · simp [zeroG]
theorem elderof_one (s : ByteArray) (hs : s.size ≤ 900000) (l : List UInt8) (hl : s.data.toList = l) (w : World) : Calls Try.prog 66 #[.string s] w fun e w' => ∃ fa cf ua cu, e = .returned (.tuple #[.agg #[.int .i64 (gotE l).tick, .int .i64 (gotE l).g0, .int .i64 (gotE l).g1, .int .i64 (gotE l).next, .slice fa (gotE l).free.length cf, .slice ua (gotE l).us.length cu], errV (stateF false l)]) ∧ Row w'.heap.size w' fa (gotE l).free.length (fun k => .int .i64 ((gotE l).free.getD k 0)) ∧ URow false w'.heap.size w' ua (gotE l).us ∧ Below w.heap.size w w' := by
  subst hl
  refine (elderof_any s hs w).mono ?_
  rintro e w' ⟨h1, h2, h3⟩
  by_cases h0 : stateF false s.data.toList = 0
  · have hg : gotE s.data.toList = _ := if_pos h0
    rw [hg, h0]
    obtain ⟨fa, cf, ua, cu, rfl, r1, r2⟩ := h2 h0
    exact ⟨fa, cf, ua, cu, rfl, r1, r2, h3⟩
  · have hg : gotE s.data.toList = _ := if_neg h0
    rw [hg]
    exact ⟨none, 0, none, 0, h1 h0, fun k hk => (by simp [zeroG] at hk), fun k hk => (by simp [zeroG] at hk), h3⟩
theorem elderread_one (s : ByteArray) (hs : s.size ≤ 900000) (l : List UInt8) (hl : s.data.toList = l) (w : World) : Calls Try.prog 78 #[.string s] w fun e w' => ∃ fa cf ua cu, e = .returned (.tuple #[.agg #[.int .i64 (gotE l).tick, .int .i64 (gotE l).g0, .int .i64 (gotE l).g1, .int .i64 (gotE l).next, .slice fa (gotE l).free.length cf, .slice ua (gotE l).us.length cu], .int .i64 (stateF false l : Nat)]) ∧ Row w'.heap.size w' fa (gotE l).free.length (fun k => .int .i64 ((gotE l).free.getD k 0)) ∧ URow false w'.heap.size w' ua (gotE l).us ∧ Below w.heap.size w w' := by
  subst hl
  refine (elderread_any s hs w).mono ?_
  rintro e w' ⟨h1, h2, h3⟩
  by_cases h0 : stateF false s.data.toList = 0
  · have hg : gotE s.data.toList = _ := if_pos h0
    rw [hg, h0]
    obtain ⟨fa, cf, ua, cu, rfl, r1, r2⟩ := h2 h0
    exact ⟨fa, cf, ua, cu, rfl, r1, r2, h3⟩
  · have hg : gotE s.data.toList = _ := if_neg h0
    rw [hg]
    exact ⟨none, 0, none, 0, h1 h0, fun k hk => (by simp [zeroG] at hk), fun k hk => (by simp [zeroG] at hk), h3⟩
def gotN (l : List UInt8) : G := if stateF true l = 0 then (newerI (openL 78 l)).1 else zeroG true
theorem gotN_len (l : List UInt8) : (gotN l).free.length ≤ 200 ∧ (gotN l).us.length ≤ 20 := by
  unfold gotN
  split
  · exact ⟨by rw [newerI_free]; simp, newerI_len _⟩
  · simp [zeroG]
theorem newerof_one (s : ByteArray) (hs : s.size ≤ 900000) (l : List UInt8) (hl : s.data.toList = l) (w : World) : Calls Try.prog 69 #[.string s] w fun e w' => ∃ ua cu, e = .returned (.tuple #[.agg #[.int .i64 (gotN l).tick, .int .i64 (gotN l).g0, .int .i64 (gotN l).g1, .int .i64 (gotN l).next, .slice ua (gotN l).us.length cu], errV (stateF true l)]) ∧ URow true w'.heap.size w' ua (gotN l).us ∧ Below w.heap.size w w' := by
  subst hl
  refine (newerof_any s hs w).mono ?_
  rintro e w' ⟨h1, h2, h3⟩
  by_cases h0 : stateF true s.data.toList = 0
  · have hg : gotN s.data.toList = _ := if_pos h0
    rw [hg, h0]
    obtain ⟨ua, cu, rfl, r2, -, -⟩ := h2 h0
    exact ⟨ua, cu, rfl, r2, h3⟩
  · have hg : gotN s.data.toList = _ := if_neg h0
    rw [hg]
    exact ⟨none, 0, h1 h0, fun k hk => (by simp [zeroG] at hk), h3⟩
theorem newerread_one (s : ByteArray) (hs : s.size ≤ 900000) (l : List UInt8) (hl : s.data.toList = l) (w : World) : Calls Try.prog 79 #[.string s] w fun e w' => ∃ ua cu, e = .returned (.tuple #[.agg #[.int .i64 (gotN l).tick, .int .i64 (gotN l).g0, .int .i64 (gotN l).g1, .int .i64 (gotN l).next, .slice ua (gotN l).us.length cu], .int .i64 (stateF true l : Nat)]) ∧ URow true w'.heap.size w' ua (gotN l).us ∧ Below w.heap.size w w' := by
  subst hl
  refine (newerread_any s hs w).mono ?_
  rintro e w' ⟨h1, h2, h3⟩
  by_cases h0 : stateF true s.data.toList = 0
  · have hg : gotN s.data.toList = _ := if_pos h0
    rw [hg, h0]
    obtain ⟨ua, cu, rfl, r2⟩ := h2 h0
    exact ⟨ua, cu, rfl, r2, h3⟩
  · have hg : gotN s.data.toList = _ := if_neg h0
    rw [hg]
    exact ⟨none, 0, h1 h0, fun k hk => (by simp [zeroG] at hk), h3⟩
def gotT (l : List UInt8) : G × List (List Cm) := if tapeF false l = 0 then ((tapeI false (openL 84 l)).1, (tapeI false (openL 84 l)).2.1) else (zeroG false, [])
theorem gotT_len (l : List UInt8) : (gotT l).1.free.length ≤ 200 ∧ (gotT l).1.us.length ≤ 20 ∧ (gotT l).2.length ≤ 60 ∧ ∀ x ∈ (gotT l).2, x.length ≤ 8 := by
  have h := tapeI_few false (openL 84 l)
  obtain ⟨P, hP⟩ : ∃ P, tapeI false (openL 84 l) = P := ⟨_, rfl⟩
  unfold gotT
  rw [hP] at h ⊢
  split
  · exact h
  · simp [zeroG]
theorem tapeof_one (s : ByteArray) (hs : s.size ≤ 900000) (l : List UInt8) (hl : s.data.toList = l) (w : World) : Calls Try.prog 80 #[.string s] w fun e w' => ∃ fa cf ua cu ta ct, e = .returned (.tuple #[.agg #[.int .i64 (gotT l).1.tick, .int .i64 (gotT l).1.g0, .int .i64 (gotT l).1.g1, .int .i64 (gotT l).1.next, .slice fa (gotT l).1.free.length cf, .slice ua (gotT l).1.us.length cu, .slice ta (gotT l).2.length ct], errV (tapeF false l)]) ∧ Row w'.heap.size w' fa (gotT l).1.free.length (fun k => .int .i64 ((gotT l).1.free.getD k 0)) ∧ URow false w'.heap.size w' ua (gotT l).1.us ∧ TRow w'.heap.size w' ta (gotT l).2 ∧ Below w.heap.size w w' := by
  subst hl
  refine (tapeof_any s hs w).mono ?_
  rintro e w' ⟨h1, h2, h3⟩
  obtain ⟨P, hP⟩ : ∃ P, tapeI false (openL 84 s.data.toList) = P := ⟨_, rfl⟩
  rw [hP] at h2
  by_cases h0 : tapeF false s.data.toList = 0
  · have hg : gotT s.data.toList = (P.1, P.2.1) := by unfold gotT; rw [if_pos h0, hP]
    rw [hg, h0]
    obtain ⟨fa, cf, ua, cu, ta, ct, rfl, r1, r2, r3⟩ := h2 h0
    exact ⟨fa, cf, ua, cu, ta, ct, rfl, r1, r2, r3, h3⟩
  · have hg : gotT s.data.toList = (zeroG false, []) := by unfold gotT; rw [if_neg h0]
    rw [hg]
    exact ⟨none, 0, none, 0, none, 0, h1 h0, fun k hk => (by simp [zeroG] at hk), fun k hk => (by simp [zeroG] at hk), fun k hk => (by simp at hk), h3⟩
theorem taperead_one (s : ByteArray) (hs : s.size ≤ 900000) (l : List UInt8) (hl : s.data.toList = l) (w : World) : Calls Try.prog 81 #[.string s] w fun e w' => ∃ fa cf ua cu ta ct, e = .returned (.tuple #[.agg #[.int .i64 (gotT l).1.tick, .int .i64 (gotT l).1.g0, .int .i64 (gotT l).1.g1, .int .i64 (gotT l).1.next, .slice fa (gotT l).1.free.length cf, .slice ua (gotT l).1.us.length cu, .slice ta (gotT l).2.length ct], .int .i64 (tapeF false l : Nat)]) ∧ Row w'.heap.size w' fa (gotT l).1.free.length (fun k => .int .i64 ((gotT l).1.free.getD k 0)) ∧ URow false w'.heap.size w' ua (gotT l).1.us ∧ TRow w'.heap.size w' ta (gotT l).2 ∧ Below w.heap.size w w' := by
  subst hl
  refine (taperead_any s hs w).mono ?_
  rintro e w' ⟨h1, h2, h3⟩
  obtain ⟨P, hP⟩ : ∃ P, tapeI false (openL 84 s.data.toList) = P := ⟨_, rfl⟩
  rw [hP] at h2
  by_cases h0 : tapeF false s.data.toList = 0
  · have hg : gotT s.data.toList = (P.1, P.2.1) := by unfold gotT; rw [if_pos h0, hP]
    rw [hg, h0]
    obtain ⟨fa, cf, ua, cu, ta, ct, rfl, r1, r2, r3⟩ := h2 h0
    exact ⟨fa, cf, ua, cu, ta, ct, rfl, r1, r2, r3, h3⟩
  · have hg : gotT s.data.toList = (zeroG false, []) := by unfold gotT; rw [if_neg h0]
    rw [hg]
    exact ⟨none, 0, none, 0, none, 0, h1 h0, fun k hk => (by simp [zeroG] at hk), fun k hk => (by simp [zeroG] at hk), fun k hk => (by simp at hk), h3⟩
def gotR (l : List UInt8) : G × List (List Cm) := if tapeF true l = 0 then ((tapeI true (openL 82 l)).1, (tapeI true (openL 82 l)).2.1) else (zeroG true, [])
theorem gotR_len (l : List UInt8) : (gotR l).1.free.length ≤ 200 ∧ (gotR l).1.us.length ≤ 20 ∧ (gotR l).2.length ≤ 60 ∧ ∀ x ∈ (gotR l).2, x.length ≤ 8 := by
  have h := tapeI_few true (openL 82 l)
  obtain ⟨P, hP⟩ : ∃ P, tapeI true (openL 82 l) = P := ⟨_, rfl⟩
  unfold gotR
  rw [hP] at h ⊢
  split
  · exact h
  · simp [zeroG]
theorem reelof_one (s : ByteArray) (hs : s.size ≤ 900000) (l : List UInt8) (hl : s.data.toList = l) (w : World) : Calls Try.prog 82 #[.string s] w fun e w' => ∃ ua cu ta ct, e = .returned (.tuple #[.agg #[.int .i64 (gotR l).1.tick, .int .i64 (gotR l).1.g0, .int .i64 (gotR l).1.g1, .int .i64 (gotR l).1.next, .slice ua (gotR l).1.us.length cu, .slice ta (gotR l).2.length ct], errV (tapeF true l)]) ∧ URow true w'.heap.size w' ua (gotR l).1.us ∧ PRow w'.heap.size w' ta (gotR l).2 ∧ Below w.heap.size w w' := by
  subst hl
  refine (reelof_any s hs w).mono ?_
  rintro e w' ⟨h1, h2, h3⟩
  obtain ⟨P, hP⟩ : ∃ P, tapeI true (openL 82 s.data.toList) = P := ⟨_, rfl⟩
  rw [hP] at h2
  by_cases h0 : tapeF true s.data.toList = 0
  · have hg : gotR s.data.toList = (P.1, P.2.1) := by unfold gotR; rw [if_pos h0, hP]
    rw [hg, h0]
    obtain ⟨ua, cu, ta, ct, rfl, r2, -, -, r3⟩ := h2 h0
    exact ⟨ua, cu, ta, ct, rfl, r2, r3, h3⟩
  · have hg : gotR s.data.toList = (zeroG true, []) := by unfold gotR; rw [if_neg h0]
    rw [hg]
    exact ⟨none, 0, none, 0, h1 h0, fun k hk => (by simp [zeroG] at hk), fun k hk => (by simp at hk), h3⟩
theorem reelread_one (s : ByteArray) (hs : s.size ≤ 900000) (l : List UInt8) (hl : s.data.toList = l) (w : World) : Calls Try.prog 83 #[.string s] w fun e w' => ∃ ua cu ta ct, e = .returned (.tuple #[.agg #[.int .i64 (gotR l).1.tick, .int .i64 (gotR l).1.g0, .int .i64 (gotR l).1.g1, .int .i64 (gotR l).1.next, .slice ua (gotR l).1.us.length cu, .slice ta (gotR l).2.length ct], .int .i64 (tapeF true l : Nat)]) ∧ URow true w'.heap.size w' ua (gotR l).1.us ∧ PRow w'.heap.size w' ta (gotR l).2 ∧ Below w.heap.size w w' := by
  subst hl
  refine (reelread_any s hs w).mono ?_
  rintro e w' ⟨h1, h2, h3⟩
  obtain ⟨P, hP⟩ : ∃ P, tapeI true (openL 82 s.data.toList) = P := ⟨_, rfl⟩
  rw [hP] at h2
  by_cases h0 : tapeF true s.data.toList = 0
  · have hg : gotR s.data.toList = (P.1, P.2.1) := by unfold gotR; rw [if_pos h0, hP]
    rw [hg, h0]
    obtain ⟨ua, cu, ta, ct, rfl, r2, r3⟩ := h2 h0
    exact ⟨ua, cu, ta, ct, rfl, r2, r3, h3⟩
  · have hg : gotR s.data.toList = (zeroG true, []) := by unfold gotR; rw [if_neg h0]
    rw [hg]
    exact ⟨none, 0, none, 0, h1 h0, fun k hk => (by simp [zeroG] at hk), fun k hk => (by simp at hk), h3⟩
end Go.Proofs.Ytlfljlhppigejaa
namespace Go.Proofs.Ytlfljlhppigejaa

/-- No number is below 0, all fit. -/
def Nn (n : Int) : Prop := 0 ≤ n ∧ n < 9223372036854775808
theorem numI_wr (n : Int) (h : Nn n) (rest : List UInt8) : numI (numB n ++ rest, 0) = (n, (rest, 0)) := by
  obtain ⟨m, rfl⟩ := Int.eq_ofNat_of_zero_le h.1
  have e : numB (m : Int) = numL m := by
    unfold numB
    rw [if_neg (by omega), Int.toNat_natCast]
  have h2 := takeL_num m rest (by have := h.2; omega)
  unfold numI
  rw [e]
  dsimp only
  rw [if_neg (by simp), h2, if_neg (by simp)]
theorem outL_cons (n : Int) (l : List Int) : outL (n :: l) = numB n ++ outL l := by simp [outL]
theorem numsI_wr (ns : List Int) (h : ∀ n ∈ ns, Nn n) (rest : List UInt8) : ∀ k, k ≤ ns.length → numsI (outL ns ++ rest, 0) k = (ns.take k, (outL (ns.drop k) ++ rest, 0)) := by
  intro k
  induction k with
  | zero => intro _; simp [numsI]
  | succ k ih =>
    intro hk
    unfold numsI
    rw [ih (by omega)]
    dsimp only
    rw [List.drop_eq_getElem_cons (by omega), outL_cons, List.append_assoc, numI_wr _ (h _ (List.getElem_mem _)), List.take_succ_eq_append_getElem (by omega)]
theorem numsI_wr' (ns : List Int) (k : Nat) (hk : ns.length = k) (h : ∀ n ∈ ns, Nn n) (rest : List UInt8) : numsI (outL ns ++ rest, 0) k = (ns, (rest, 0)) := by
  have := numsI_wr ns h rest ns.length (Nat.le_refl _)
  rw [List.take_length, List.drop_length] at this
  rw [← hk, this]
  rfl
theorem manyI_wr (n : Nat) (most : Int) (h : (n : Int) ≤ most) (hn : (n : Int) < 9223372036854775808) (rest : List UInt8) : manyI (outL [(n : Int)] ++ rest, 0) most = ((n : Int), (rest, 0)) := by
  have e : outL [(n : Int)] ++ rest = numB (n : Int) ++ rest := by simp [outL]
  unfold manyI
  rw [e, numI_wr _ ⟨by omega, hn⟩]
  dsimp only
  rw [if_neg (by simp), if_neg (by omega)]
theorem unitsI_wr (K : Nat) (mk : List Int → U) (fl : U → List Int) (hK : ∀ u, (fl u).length = K) (us : List U) (h : ∀ u ∈ us, ∀ n ∈ fl u, Nn n) (rest : List UInt8) : ∀ k, k ≤ us.length →
    unitsI K mk (outL (us.flatMap fl) ++ rest, 0) k = ((us.take k).map (fun u => mk (fl u)), (outL ((us.drop k).flatMap fl) ++ rest, 0)) := by
  intro k
  induction k with
  | zero => intro _; simp [unitsI]
  | succ k ih =>
    intro hk
    unfold unitsI
    rw [ih (by omega)]
    dsimp only
    rw [List.drop_eq_getElem_cons (by omega), List.flatMap_cons, outL_append, List.append_assoc, numsI_wr' _ K (hK _) (h _ (List.getElem_mem _)), List.take_succ_eq_append_getElem (by omega), List.map_append]
    rfl
theorem unitsI_wr' (K : Nat) (mk : List Int → U) (fl : U → List Int) (hK : ∀ u, (fl u).length = K) (us : List U) (h : ∀ u ∈ us, ∀ n ∈ fl u, Nn n) (rest : List UInt8) :
    unitsI K mk (outL (us.flatMap fl) ++ rest, 0) us.length = (us.map (fun u => mk (fl u)), (rest, 0)) := by
  have := unitsI_wr K mk fl hK us h rest us.length (Nat.le_refl _)
  rw [List.take_length, List.drop_length] at this
  rw [this]
  rfl
theorem nn_elder {g : G} (h : ∀ n ∈ elderN g, Nn n) : (∀ n ∈ [g.tick, g.g0, g.g1, g.next], Nn n) ∧ (∀ n ∈ g.free, Nn n) ∧ ∀ u ∈ g.us, ∀ n ∈ fieldsE u, Nn n := by
  unfold elderN at h
  refine ⟨fun n hn => h n ?_, fun n hn => h n ?_, fun u hu n hn => h n ?_⟩
  · simp at hn ⊢
    rcases hn with h | h | h | h <;> simp [h]
  · simp [hn]
  · simp only [List.mem_append, List.mem_flatMap]
    exact Or.inr ⟨u, hu, hn⟩
theorem elderI_wr (g : G) (h : ∀ n ∈ elderN g, Nn n) (hf : g.free.length ≤ 200) (hu : g.us.length ≤ 20) (rest : List UInt8) : elderI (outL (elderN g) ++ rest, 0) = (backG false g, (rest, 0)) := by
  obtain ⟨h1, h2, h3⟩ := nn_elder h
  have e : outL (elderN g) ++ rest = outL [g.tick, g.g0, g.g1, g.next] ++ (outL [(g.free.length : Int)] ++ (outL g.free ++ (outL [(g.us.length : Int)] ++ (outL (g.us.flatMap fieldsE) ++ rest)))) := by
    have e0 : elderN g = [g.tick, g.g0, g.g1, g.next] ++ [(g.free.length : Int)] ++ g.free ++ [(g.us.length : Int)] ++ g.us.flatMap fieldsE := rfl
    rw [e0]
    simp only [outL_append, List.append_assoc]
  unfold elderI
  dsimp only
  rw [e, numsI_wr' _ 4 rfl h1]
  dsimp only
  rw [manyI_wr _ 200 (by omega) (by omega)]
  dsimp only
  rw [Int.toNat_natCast, numsI_wr' _ _ rfl h2]
  dsimp only
  rw [manyI_wr _ 20 (by omega) (by omega)]
  dsimp only
  rw [Int.toNat_natCast, unitsI_wr' 10 mkE fieldsE (fun _ => rfl) g.us h3]
  rfl
theorem nn_newer {g : G} (h : ∀ n ∈ newerN g, Nn n) : (∀ n ∈ [g.tick, g.g0, g.g1, g.next], Nn n) ∧ ∀ u ∈ g.us, ∀ n ∈ fieldsN u, Nn n := by
  unfold newerN at h
  refine ⟨fun n hn => h n ?_, fun u hu n hn => h n ?_⟩
  · simp at hn ⊢
    rcases hn with h | h | h | h <;> simp [h]
  · simp only [List.mem_append, List.mem_flatMap]
    exact Or.inr ⟨u, hu, hn⟩
theorem newerI_wr (g : G) (h : ∀ n ∈ newerN g, Nn n) (hu : g.us.length ≤ 20) (rest : List UInt8) : newerI (outL (newerN g) ++ rest, 0) = (backG true g, (rest, 0)) := by
  obtain ⟨h1, h3⟩ := nn_newer h
  have e : outL (newerN g) ++ rest = outL [g.tick, g.g0, g.g1, g.next] ++ (outL [(g.us.length : Int)] ++ (outL (g.us.flatMap fieldsN) ++ rest)) := by
    have e0 : newerN g = [g.tick, g.g0, g.g1, g.next] ++ [(g.us.length : Int)] ++ g.us.flatMap fieldsN := rfl
    rw [e0]
    simp only [outL_append, List.append_assoc]
  unfold newerI
  dsimp only
  rw [e, numsI_wr' _ 4 rfl h1]
  dsimp only
  rw [manyI_wr _ 20 (by omega) (by omega)]
  dsimp only
  rw [Int.toNat_natCast, unitsI_wr' 11 mkN fieldsN (fun _ => rfl) g.us h3]
  rfl
theorem startI_wr (n : Bool) (g : G) (h : ∀ x ∈ startN n g, Nn x) (hf : n = false → g.free.length ≤ 200) (hu : g.us.length ≤ 20) (rest : List UInt8) : startI n (outL (startN n g) ++ rest, 0) = (backG n g, (rest, 0)) := by
  cases n
  · exact elderI_wr g h (hf rfl) hu rest
  · exact newerI_wr g h hu rest
def backC (n : Bool) (c : Cm) : Cm := if n then { c with target := 0 } else c
theorem mk_back (n : Bool) (c : Cm) : mkC (fieldsC n c) = backC n c := by cases n <;> rfl
theorem fieldsC_length (n : Bool) (c : Cm) : (fieldsC n c).length = cmK n := by cases n <;> rfl
theorem cmsI_wr (n : Bool) (l : List Cm) (h : ∀ c ∈ l, ∀ x ∈ fieldsC n c, Nn x) (rest : List UInt8) : ∀ k, k ≤ l.length →
    cmsI n (outL (l.flatMap (fieldsC n)) ++ rest, 0) k = ((l.take k).map (backC n), (outL ((l.drop k).flatMap (fieldsC n)) ++ rest, 0)) := by
  intro k
  induction k with
  | zero => intro _; simp [cmsI]
  | succ k ih =>
    intro hk
    unfold cmsI
    rw [ih (by omega)]
    dsimp only
    rw [List.drop_eq_getElem_cons (by omega), List.flatMap_cons, outL_append, List.append_assoc, numsI_wr' _ (cmK n) (fieldsC_length n _) (h _ (List.getElem_mem _)), List.take_succ_eq_append_getElem (by omega), List.map_append, mk_back]
    rfl
theorem tickI_wr (n : Bool) (l : List Cm) (h : ∀ c ∈ l, ∀ x ∈ fieldsC n c, Nn x) (h8 : l.length ≤ 8) (rest : List UInt8) : tickI n (outL (tickN n l) ++ rest, 0) = (l.map (backC n), (rest, 0)) := by
  have e : outL (tickN n l) ++ rest = outL [(l.length : Int)] ++ (outL (l.flatMap (fieldsC n)) ++ rest) := by
    have e0 : tickN n l = [(l.length : Int)] ++ l.flatMap (fieldsC n) := rfl
    rw [e0, outL_append, List.append_assoc]
  unfold tickI
  rw [e, manyI_wr _ 8 (by omega) (by omega)]
  dsimp only
  rw [Int.toNat_natCast, cmsI_wr n l h rest l.length (Nat.le_refl _), List.take_length, List.drop_length]
  rfl
theorem ticksI_wr (n : Bool) (ts : List (List Cm)) (h : ∀ l ∈ ts, ∀ c ∈ l, ∀ x ∈ fieldsC n c, Nn x) (h8 : ∀ l ∈ ts, l.length ≤ 8) (rest : List UInt8) : ∀ k, k ≤ ts.length →
    ticksI n (outL (ts.flatMap (tickN n)) ++ rest, 0) k = ((ts.take k).map (List.map (backC n)), (outL ((ts.drop k).flatMap (tickN n)) ++ rest, 0)) := by
  intro k
  induction k with
  | zero => intro _; simp [ticksI]
  | succ k ih =>
    intro hk
    unfold ticksI
    rw [ih (by omega)]
    dsimp only
    rw [List.drop_eq_getElem_cons (by omega), List.flatMap_cons, outL_append, List.append_assoc, tickI_wr n _ (h _ (List.getElem_mem _)) (h8 _ (List.getElem_mem _)), List.take_succ_eq_append_getElem (by omega), List.map_append]
    rfl
theorem tapeI_wr (n : Bool) (g : G) (ts : List (List Cm)) (h : ∀ x ∈ startN n g, Nn x) (hf : n = false → g.free.length ≤ 200) (hu : g.us.length ≤ 20) (ht : ts.length ≤ 60) (hc : ∀ l ∈ ts, ∀ c ∈ l, ∀ x ∈ fieldsC n c, Nn x) (h8 : ∀ l ∈ ts, l.length ≤ 8) :
    tapeI n (outL (tapeN n g ts), 0) = (backG n g, ts.map (List.map (backC n)), ([], 0)) := by
  have e : outL (tapeN n g ts) = outL (startN n g) ++ (outL [(ts.length : Int)] ++ (outL (ts.flatMap (tickN n)) ++ [])) := by
    unfold tapeN
    simp only [outL_append, List.append_assoc, List.append_nil]
  unfold tapeI
  rw [e, startI_wr n g h hf hu]
  dsimp only
  rw [manyI_wr _ 60 (by omega) (by omega)]
  dsimp only
  rw [Int.toNat_natCast, ticksI_wr n ts hc h8 [] ts.length (Nat.le_refl _), List.take_length, List.drop_length]
  rfl

/-! ### A state that is right: none of its numbers is below 0 -/
theorem onB_range {x y : Int} (h : onB x y = true) : 0 ≤ x ∧ x < 12 ∧ 0 ≤ y ∧ y < 12 := by
  unfold onB at h
  simp at h
  omega
theorem right_units {g : G} (hg : Right g) {u : U} (hu : u ∈ g.us) : (∀ n ∈ fieldsE u, Nn n) ∧ (g.new = true → Nn u.since) := by
  have h := hg.ok hu
  have ht : topOf g.new ≤ 2000 := by cases g.new <;> decide
  have hh := hg.head
  have h1 := onB_range h.on
  have hgo : 0 ≤ u.gx ∧ u.gx < 12 ∧ 0 ≤ u.gy ∧ u.gy < 12 := by
    by_cases e : u.does = 1
    · exact onB_range (h.going e).1
    · have := h.still e; omega
  have hk : Nn u.kind := by
    have := h.rule
    unfold isRule at this
    refine ⟨?_, ?_⟩
    · by_cases e : u.kind < 0
      · exfalso
        revert this
        cases g.new <;> simp <;> omega
      · omega
    · by_cases e : u.kind < 9223372036854775808
      · exact e
      · exfalso
        revert this
        cases g.new <;> simp <;> omega
  have hp : u.hp ≤ 100 := by
    have := h.hpT
    split at this
    · exact this
    · unfold ruleOf at this
      revert this
      cases g.new <;> (repeat' split) <;> simp <;> intro h <;> omega
  have := h.id1; have := h.idT; have := h.hp1; have := h.does0; have := h.does3; have := h.tgt0; have := h.tgtT; have := h.own0; have := h.own2
  refine ⟨fun n hn => ?_, fun hn => ?_⟩
  · simp [fieldsE] at hn
    rcases hn with rfl | rfl | rfl | rfl | rfl | rfl | rfl | rfl | rfl | rfl
    · exact ⟨by omega, by omega⟩
    · exact ⟨by omega, by omega⟩
    · exact hk
    all_goals exact ⟨by omega, by omega⟩
  · have h2 := h.since hn
    unfold headBad at hh
    exact ⟨by omega, by omega⟩
theorem free_nn {g : G} (hg : Right g) (hn : g.new = false) {x : Int} (hx : x ∈ g.free) : Nn x := by
  have hh := hg.head
  have h1 := hg.free hn
  have h2 := hg.unfree
  have h3 := hg.few
  unfold freeOk at h1
  rw [Bool.and_eq_true, decide_eq_true_eq, List.all_eq_true] at h1
  obtain ⟨h4, h5⟩ := h1
  have hN : 0 ≤ g.next - 1 := by unfold headBad at hh; omega
  -- all numbers 1 to next - 1 are met once, and there are just so many: none is left over
  have h6 : ∀ i, i < (g.next - 1).toNat → (g.free ++ idsOf g.us).count ((i : Int) + 1) = 1 := by
    intro i hi
    have h7 := h4 i (List.mem_range.2 hi)
    rw [decide_eq_true_eq] at h7
    rw [List.count_append, ← h7]
    congr 1
    have hin : (idsOf g.us).count ((i : Int) + 1) ≤ 1 := by
      refine List.nodup_iff_count.1 ?_ _
      exact ids_nodup (byId_iff.1 hg.sorted)
    by_cases ha : g.us.any (fun u => u.id == (i : Int) + 1) = true
    · rw [if_pos ha]
      obtain ⟨u, hu, he⟩ := List.any_eq_true.1 ha
      have : 0 < (idsOf g.us).count ((i : Int) + 1) := List.count_pos_iff.2 (List.mem_map.2 ⟨u, hu, by simpa using he⟩)
      omega
    · rw [if_neg ha]
      refine List.count_eq_zero.2 (fun hm => ha ?_)
      obtain ⟨u, hu, he⟩ := List.mem_map.1 hm
      exact List.any_eq_true.2 ⟨u, hu, by simpa using he⟩
  have h7 := tally_ones (g.free ++ idsOf g.us) (g.next - 1).toNat h6
  have h8 : (g.free ++ idsOf g.us).length = (g.next - 1).toNat := by
    have : (idsOf g.us).length = g.us.length := by simp [idsOf]
    rw [List.length_append, this]
    omega
  by_cases hr : 1 ≤ x ∧ x ≤ ((g.next - 1).toNat : Int)
  · unfold headBad at hh
    exact ⟨by omega, by
      have : topOf g.new ≤ 2000 := by cases g.new <;> decide
      omega⟩
  · exfalso
    have := tally_out (g.free ++ idsOf g.us) (g.next - 1).toNat x (List.mem_append_left _ hx) hr
    omega
theorem right_numbers (n : Bool) {g : G} (hg : Right g) (hn : g.new = n) : ∀ x ∈ startN n g, Nn x := by
  have hh := hg.head
  have h2 := hg.unfree
  have h3 := hg.few
  have ht : topOf g.new ≤ 2000 := by cases g.new <;> decide
  have hr : richOf g.new ≤ 1000 := by cases g.new <;> decide
  have q : Nn g.tick ∧ Nn g.g0 ∧ Nn g.g1 ∧ Nn g.next ∧ Nn (g.free.length : Int) ∧ Nn (g.us.length : Int) := by
    unfold headBad at hh
    refine ⟨⟨?_, ?_⟩, ⟨?_, ?_⟩, ⟨?_, ?_⟩, ⟨?_, ?_⟩, ⟨?_, ?_⟩, ⟨?_, ?_⟩⟩ <;> omega
  obtain ⟨q1, q2, q3, q4, q5, q6⟩ := q
  cases n
  · show ∀ x ∈ elderN g, Nn x
    unfold elderN
    intro x hx
    simp only [List.mem_append, List.mem_flatMap, List.mem_cons, List.not_mem_nil, or_false] at hx
    rcases hx with ((((h | h | h | h | h) | h) | h) | ⟨u, hu, h⟩)
    · rw [h]; exact q1
    · rw [h]; exact q2
    · rw [h]; exact q3
    · rw [h]; exact q4
    · rw [h]; exact q5
    · exact free_nn hg hn h
    · rw [h]; exact q6
    · exact (right_units hg hu).1 x h
  · show ∀ x ∈ newerN g, Nn x
    unfold newerN
    intro x hx
    simp only [List.mem_append, List.mem_flatMap, List.mem_cons, List.not_mem_nil, or_false] at hx
    rcases hx with ((h | h | h | h | h) | ⟨u, hu, h⟩)
    · rw [h]; exact q1
    · rw [h]; exact q2
    · rw [h]; exact q3
    · rw [h]; exact q4
    · rw [h]; exact q6
    · have e : fieldsN u = fieldsE u ++ [u.since] := rfl
      rw [e, List.mem_append, List.mem_singleton] at h
      rcases h with h | h
      · exact (right_units hg hu).1 x h
      · rw [h]; exact (right_units hg hu).2 hn
end Go.Proofs.Ytlfljlhppigejaa
namespace Go.Proofs.Ytlfljlhppigejaa
open Go.RowKit

def savedG : G := ⟨false, 0, 0, 0, 1, [], []⟩
theorem saved_numbers : elderN savedG = [0, 0, 0, 1, 0, 0] := rfl
theorem saved_fault : faultOf savedG = 0 := by decide +kernel
theorem saved_bytes : bytesOf false savedG = (frameL 69 (outL [0, 0, 0, 1, 0, 0]), 0) := by
  unfold bytesOf
  rw [if_neg (by rw [saved_fault]; simp), ← saved_numbers]
  rfl
theorem saved_open : elderI (openL 69 (frameL 69 (outL [0, 0, 0, 1, 0, 0]))) = (savedG, ([], 0)) := by
  rw [openL_frame, ← saved_numbers]
  have h := elderI_wr savedG (by
    rw [saved_numbers]
    intro n hn
    simp at hn
    exact ⟨by omega, by omega⟩) (by decide) (by decide) []
  rw [List.append_nil] at h
  rw [h]
  rfl
theorem saved_ok : stateF false (frameL 69 (outL [0, 0, 0, 1, 0, 0])) = 0 := by
  have e : startI false (openL (kindB false) (frameL 69 (outL [0, 0, 0, 1, 0, 0]))) = (savedG, ([], 0)) := saved_open
  unfold stateF
  rw [e]
  dsimp only
  rw [saved_fault]
  rfl
theorem saved_got : gotE (frameL 69 (outL [0, 0, 0, 1, 0, 0])) = savedG := by
  unfold gotE
  rw [if_pos saved_ok, saved_open]
theorem saved_long : 8 < (frameL 69 (outL [0, 0, 0, 1, 0, 0])).length := by
  rw [frameL_length]
  have h : outL [0, 0, 0, 1, 0, 0] ≠ [] := outL_ne 0 _ (by omega)
  have := List.length_pos_iff.2 h
  omega
theorem fits1 : Fits64 1 := ⟨by omega, by omega⟩

set_option maxHeartbeats 3200000 in
set_option maxRecDepth 100000 in
theorem saves_any (w : World) : Calls Try.prog 64 #[] w (TrueBelow w) := by
  obtain ⟨L, hL⟩ : ∃ x, frameL 69 (outL [0, 0, 0, 1, 0, 0]) = x := ⟨_, rfl⟩
  have hlong := saved_long
  have hgot := saved_got
  have hok := saved_ok
  have hby := saved_bytes
  rw [hL] at hlong hgot hok hby
  have hl300 : L.length ≤ 1000 := by
    rw [← hL, frameL_length]
    have := outL_length [0, 0, 0, 1, 0, 0]
    simp at this
    omega
  have HE := Lib.hid (fun w => elderof_one (bstr L) (by rw [bstr_size]; omega) L (bstr_list L) w)
  have HBY := Lib.hid hby
  have hds : decide ((8 : Int) < ((bstr L).size : Int)) = true := decide_eq_true (by rw [bstr_size]; omega)
  obtain ⟨ONE, hONE⟩ : ∃ x, bstr L = x := ⟨_, rfl⟩
  rw [hONE] at HE hds
  rw [hok, hgot] at HE
  have HONE := Lib.hid hONE
  clear hL hlong hgot hok hby hl300 hONE
  go_enter Try.func64, Try.ntmps64
  go_wp2_with fail
  refine (elderbytes_any savedG none none 0 0 rfl (by decide) (by decide) _ (fun k hk => (by simp [savedG] at hk)) (fun k hk => (by simp [savedG] at hk)) ⟨fits0, fits0, fits0, fits1, fun n hn => (by simp [savedG] at hn), fun u hu => (by simp [savedG] at hu)⟩).mono ?_
  rintro e w1 ⟨rfl, b1⟩
  rw [HBY.out, errV_zero]
  dsimp only
  rw [HONE.out]
  have HB1 := Lib.hid b1
  clear b1
  go_wp2_with fail
  refine (HE.out _).mono ?_
  rintro e w2 ⟨fa, cf, ua, cu, rfl, -, -, b2⟩
  rw [errV_zero]
  have HB2 := Lib.hid (HB1.out.trans (b2.mono HB1.out.size))
  have hs2 := HB2.out.size
  clear b2
  dsimp only [savedG]
  go_wp2_with fail
  refine (same_nil 0 _).mono ?_
  rintro e w3 ⟨rfl, rfl⟩
  go_wp2_with fail
  refine (same_nil 0 _).mono ?_
  rintro e w3 ⟨rfl, rfl⟩
  go_wp2_with fail
  go_ret
  exact tb rfl (HB2.out.alloc hs2 _)
end Go.Proofs.Ytlfljlhppigejaa
namespace Go.Proofs.Ytlfljlhppigejaa
open Go.RowKit

/-- Two texts in a row of two; what was there stays. -/
def Two (w : World) (S : Nat) (L0 L1 : ByteArray) (x : World) : Prop :=
  S < x.heap.size ∧ x.cell? ⟨S, 0, none⟩ = some (.string L0) ∧ x.cell? ⟨S, 1, none⟩ = some (.string L1) ∧ Below w.heap.size w x
theorem rk_call {w x y : World} {S : Nat} {L0 L1 : ByteArray} (hb : Below x.heap.size x y) (h : Two w S L0 L1 x) : Two w S L0 L1 y :=
  ⟨Nat.lt_of_lt_of_le h.1 hb.size, (hb.cell (p := ⟨S, 0, none⟩) h.1).trans h.2.1, (hb.cell (p := ⟨S, 1, none⟩) h.1).trans h.2.2.1, h.2.2.2.trans (hb.mono h.2.2.2.size)⟩
theorem Two.alloc {w x : World} {S : Nat} {L0 L1 : ByteArray} (h : Two w S L0 L1 x) (o : Obj) : Two w S L0 L1 (x.alloc o) := rk_call ((Below.refl _ _).alloc (Nat.le_refl _) _) h
theorem Two.drew {w x : World} {S : Nat} {L0 L1 : ByteArray} (h : Two w S L0 L1 x) : Two w S L0 L1 x.drew := rk_call (Below.refl _ _).drew h
theorem Two.drewN {w x : World} {S : Nat} {L0 L1 : ByteArray} (h : Two w S L0 L1 x) (n : Nat) : Two w S L0 L1 (x.drewN n) := rk_call (below_drewN (Below.refl _ _) n) h
theorem Two.at {w x : World} {S : Nat} {L0 L1 : ByteArray} (h : Two w S L0 L1 x) (k : Nat) (hk : k < 2) (LI : ByteArray) (hl : (if k = 0 then L0 else L1) = LI) : S < x.heap.size ∧ x.cell? ⟨S, k, none⟩ = some (.string LI) := by
  refine ⟨h.1, ?_⟩
  have hk2 : k = 0 ∨ k = 1 := by omega
  rcases hk2 with rfl | rfl
  · rw [← hl]; exact h.2.1
  · rw [← hl]; exact h.2.2.1
end Go.Proofs.Ytlfljlhppigejaa
namespace Go.Proofs.Ytlfljlhppigejaa
open Go.RowKit

theorem eq_int (x : Int) (w : World) : (Op.equalIn 9999 3 (.int .i64 x) (.int .i64 x)).run Try.prog w = .ok true w := by
  rw [show (9999 : Nat) = 9998 + 1 from rfl, run_equalIn_int w 9998 _ .i64 .i64 x x (by kernel_rfl)]
  simp
theorem eq_pair (a b : Int) (w : World) : (Op.equalIn 10000 62 (.agg #[.int .i64 a, .int .i64 b]) (.agg #[.int .i64 a, .int .i64 b])).run Try.prog w = .ok true w := by
  have hi : ∃ i, Try.prog.info? 3 = some i := ⟨(Try.prog.info? 3).get (by kernel_rfl), by kernel_rfl⟩
  obtain ⟨i, hi⟩ := hi
  have hc : Try.prog.cellsOf 3 = 1 := by kernel_rfl
  rw [show (10000 : Nat) = 9999 + 1 from rfl, run_equalIn_array w 9999 _ _ (n := 2) (e := 3) (by kernel_rfl) hi, hc]
  simp only [show List.range 2 = [0, 1] from rfl, Op.eqItems]
  have hp0 : (part 3 #[.int .i64 a, .int .i64 b] (0 * 1)).run Try.prog w = .ok (.int .i64 a) w := by kernel_rfl
  have hp1 : (part 3 #[.int .i64 a, .int .i64 b] (1 * 1)).run Try.prog w = .ok (.int .i64 b) w := by kernel_rfl
  simp [hp0, hp1, eq_int, Result.andThen]
theorem eqFields_same (w : World) (xs : Array Value) (fs : List Field) (h : ∀ f ∈ fs, f.name ≠ "_" ∧ f.type = 3 ∧ ∃ x, (part 3 xs f.offset).run Try.prog w = .ok (.int .i64 x) w) : (Op.eqFields 9999 xs xs fs).run Try.prog w = .ok true w := by
  induction fs with
  | nil => simp [Op.eqFields]
  | cons f fs ih =>
    obtain ⟨h1, h2, x, h3⟩ := h f (by simp)
    have := ih (fun g hg => h g (by simp [hg]))
    simp only [Op.eqFields, h1, ne_eq, not_false_eq_true, if_true, Sem.run_bind, h2, h3, Result.andThen_ok, eq_int, Bool.not_true, Bool.false_eq_true, if_false]
    exact this
theorem eq_unit (u : U) (w : World) : (Op.equalIn 10000 130 (.agg (cellsN u).toArray) (.agg (cellsN u).toArray)).run Try.prog w = .ok true w := by
  rw [show (10000 : Nat) = 9999 + 1 from rfl, run_equalIn_struct w 9999 _ _ _ (by kernel_rfl) (by kernel_rfl)]
  have hf : ∀ f ∈ (Try.prog.fieldsOf 130).toList, f.name ≠ "_" ∧ f.type = 3 ∧ f.offset < 11 := of_decide_eq_true (by kernel_rfl)
  refine eqFields_same w _ _ (fun f hf' => ?_)
  obtain ⟨h1, h2, h3⟩ := hf f hf'
  refine ⟨h1, h2, ?_⟩
  have : f.offset = 0 ∨ f.offset = 1 ∨ f.offset = 2 ∨ f.offset = 3 ∨ f.offset = 4 ∨ f.offset = 5 ∨ f.offset = 6 ∨ f.offset = 7 ∨ f.offset = 8 ∨ f.offset = 9 ∨ f.offset = 10 := by omega
  rcases this with h | h | h | h | h | h | h | h | h | h | h <;> rw [h]
  · exact ⟨u.id, by kernel_rfl⟩
  · exact ⟨u.owner, by kernel_rfl⟩
  · exact ⟨u.kind, by kernel_rfl⟩
  · exact ⟨u.x, by kernel_rfl⟩
  · exact ⟨u.y, by kernel_rfl⟩
  · exact ⟨u.hp, by kernel_rfl⟩
  · exact ⟨u.does, by kernel_rfl⟩
  · exact ⟨u.gx, by kernel_rfl⟩
  · exact ⟨u.gy, by kernel_rfl⟩
  · exact ⟨u.target, by kernel_rfl⟩
  · exact ⟨u.since, by kernel_rfl⟩
theorem eq_ent (u : U) (w : World) : (Op.equalIn 10000 179 (.agg (cellsE u).toArray) (.agg (cellsE u).toArray)).run Try.prog w = .ok true w := by
  rw [show (10000 : Nat) = 9999 + 1 from rfl, run_equalIn_struct w 9999 _ _ _ (by kernel_rfl) (by kernel_rfl)]
  have hf : ∀ f ∈ (Try.prog.fieldsOf 179).toList, f.name ≠ "_" ∧ f.type = 3 ∧ f.offset < 10 := of_decide_eq_true (by kernel_rfl)
  refine eqFields_same w _ _ (fun f hf' => ?_)
  obtain ⟨h1, h2, h3⟩ := hf f hf'
  refine ⟨h1, h2, ?_⟩
  have : f.offset = 0 ∨ f.offset = 1 ∨ f.offset = 2 ∨ f.offset = 3 ∨ f.offset = 4 ∨ f.offset = 5 ∨ f.offset = 6 ∨ f.offset = 7 ∨ f.offset = 8 ∨ f.offset = 9 := by omega
  rcases this with h | h | h | h | h | h | h | h | h | h <;> rw [h]
  · exact ⟨u.id, by kernel_rfl⟩
  · exact ⟨u.owner, by kernel_rfl⟩
  · exact ⟨u.kind, by kernel_rfl⟩
  · exact ⟨u.x, by kernel_rfl⟩
  · exact ⟨u.y, by kernel_rfl⟩
  · exact ⟨u.hp, by kernel_rfl⟩
  · exact ⟨u.does, by kernel_rfl⟩
  · exact ⟨u.gx, by kernel_rfl⟩
  · exact ⟨u.gy, by kernel_rfl⟩
  · exact ⟨u.target, by kernel_rfl⟩
set_option maxHeartbeats 1600000 in
set_option maxRecDepth 100000 in
theorem samenums_any (l : List Int) (a b : Option Addr) (ca cb : Nat) (hl : l.length ≤ 100000) (w : World) (ha : Row w.heap.size w a l.length (fun k => .int .i64 (l.getD k 0))) (hb : Row w.heap.size w b l.length (fun k => .int .i64 (l.getD k 0))) :
    Calls Try.prog 61 #[.slice a l.length ca, .slice b l.length cb] w fun e w' => e = .returned (.bool true) ∧ Below w.heap.size w w' := by
  have HA := Lib.hid ha
  have HB := Lib.hid hb
  have hn0 : (0 : Int) ≤ (l.length : Int) := by omega
  clear ha hb
  go_enter Try.func61, Try.ntmps61
  go_wp2_with fail
  go_loopw [5] (fun i wr => ∃ k : Nat, i = .int .i64 k ∧ k ≤ l.length ∧ Below w.heap.size w wr) (fun i _ => (l.length - intOf i).toNat)
  case atStart => exact ⟨0, rfl, by omega, Below.refl _ _⟩
  case round =>
    obtain ⟨k, rfl, hk, hX⟩ := hrel
    have HX := Lib.hid hX
    by_cases hlt : k < l.length
    · obtain ⟨b1, o1, rfl, hb1, x1⟩ := (HA.out.below hX) k hlt
      obtain ⟨b2, o2, rfl, hb2, x2⟩ := (HB.out.below hX) k hlt
      dsimp only at x1 x2
      obtain ⟨x, hx⟩ : ∃ x, l.getD k 0 = x := ⟨_, rfl⟩
      rw [hx] at x1 x2
      have hki : (0 : Int) ≤ (k : Int) := by omega
      have hkl : (k : Int) < (l.length : Int) := by omega
      have hsz := hX.size
      have l1 : b1 < wr.heap.size := by omega
      have l2 : b2 < wr.heap.size := by omega
      have d : (x != x) = false := by simp
      clear hx hX
      go_wp2_with fail
      go_quiet (fail)
      go_wp2_with fail
      go_roundw
      case rel => exact ⟨k + 1, by go_num, by omega, below_drewN HX.out _⟩
      case measure => simp [intOf]; omega
    · obtain rfl : k = l.length := by omega
      go_wp2_with fail
      go_ret
      exact ⟨rfl, HX.out⟩

set_option maxHeartbeats 3200000 in
set_option maxRecDepth 100000 in
theorem samenewer_any (t g0 g1 nx : Int) (us : List U) (a b : Option Addr) (ca cb : Nat) (hl : us.length ≤ 100000) (w : World) (ha : URow true w.heap.size w a us) (hb : URow true w.heap.size w b us) :
    Calls Try.prog 49 #[.agg #[.int .i64 t, .int .i64 g0, .int .i64 g1, .int .i64 nx, .slice a us.length ca], .agg #[.int .i64 t, .int .i64 g0, .int .i64 g1, .int .i64 nx, .slice b us.length cb]] w fun e w' => e = .returned (.bool true) ∧ Below w.heap.size w w' := by
  obtain ⟨W, hW⟩ : ∃ W, (w.alloc (.cells #[.int .i64 t, .int .i64 g0, .int .i64 g1, .int .i64 nx, .slice a us.length ca] 65)).alloc (.cells #[.int .i64 t, .int .i64 g0, .int .i64 g1, .int .i64 nx, .slice b us.length cb] 65) = W := ⟨_, rfl⟩
  have hbW : Below w.heap.size w W := by rw [← hW]; exact ((Below.refl _ _).alloc (Nat.le_refl _) _).alloc (by simp) _
  have k1 : Blk W w.heap.size #[.int .i64 t, .int .i64 g0, .int .i64 g1, .int .i64 nx, .slice a us.length ca] := by rw [← hW]; exact (Blk.new w _ _).alloc _
  have k2 : Blk W (w.heap.size + 1) #[.int .i64 t, .int .i64 g0, .int .i64 g1, .int .i64 nx, .slice b us.length cb] := by
    rw [← hW]
    have := Blk.new (w.alloc (.cells #[.int .i64 t, .int .i64 g0, .int .i64 g1, .int .i64 nx, .slice a us.length ca] 65)) #[.int .i64 t, .int .i64 g0, .int .i64 g1, .int .i64 nx, .slice b us.length cb] 65
    simpa using this
  obtain ⟨l1, c1, -⟩ := id k1
  obtain ⟨l2, c2, -⟩ := id k2
  have hsW := hbW.size
  have HA := Lib.hid (ha.below hbW)
  have HB := Lib.hid (hb.below hbW)
  have K1 := Lib.hid k1
  have K2 := Lib.hid k2
  have HBW := Lib.hid hbW
  have hn0 : (0 : Int) ≤ (us.length : Int) := by omega
  have heq := eq_pair g0 g1
  clear ha hb hbW k1 k2
  go_enter Try.func49, Try.ntmps49
  go_upto_region 1 with fail
  try rw [hW]
  clear hW
  go_wp2_with fail
  have HB1 : Hid (Below W.heap.size W W) := Lib.hid (Below.refl _ _)
  go_loopw [5] (fun i wr => ∃ k : Nat, i = .int .i64 k ∧ k ≤ us.length ∧ Below W.heap.size W wr) (fun i _ => (us.length - intOf i).toNat)
  case atStart => exact ⟨0, rfl, by omega, HB1.out⟩
  case round =>
    obtain ⟨k, rfl, hk, hX⟩ := hrel
    have HX := Lib.hid hX
    have hsz := hX.size
    obtain ⟨l5, c5, -⟩ := id (K1.out.call hX)
    obtain ⟨l6, c6, -⟩ := id (K2.out.call hX)
    by_cases hlt : k < us.length
    · obtain ⟨u, hu⟩ : ∃ u, us.getD k zeroU = u := ⟨_, rfl⟩
      obtain ⟨b1, o1, rfl, hb1, q0, q1, q2, q3, q4, q5, q6, q7, q8, q9, q10⟩ := (HA.out.below (hX.mono hsW)).getN k hlt u hu
      obtain ⟨b2, o2, rfl, hb2, p0, p1, p2, p3, p4, p5, p6, p7, p8, p9, p10⟩ := (HB.out.below (hX.mono hsW)).getN k hlt u hu
      have hki : (0 : Int) ≤ (k : Int) := by omega
      have hkl : (k : Int) < (us.length : Int) := by omega
      have l7 : b1 < wr.heap.size := by omega
      have l8 : b2 < wr.heap.size := by omega
      have heu : ∀ W : World, (Op.equalIn 10000 130 (.agg #[.int .i64 u.id, .int .i64 u.owner, .int .i64 u.kind, .int .i64 u.x, .int .i64 u.y, .int .i64 u.hp, .int .i64 u.does, .int .i64 u.gx, .int .i64 u.gy, .int .i64 u.target, .int .i64 u.since]) (.agg #[.int .i64 u.id, .int .i64 u.owner, .int .i64 u.kind, .int .i64 u.x, .int .i64 u.y, .int .i64 u.hp, .int .i64 u.does, .int .i64 u.gx, .int .i64 u.gy, .int .i64 u.target, .int .i64 u.since])).run Try.prog W = .ok true W := eq_unit u
      clear hu hX
      go_wp2_with fail
      go_quiet (fail)
      go_wp2_with fail
      go_roundw
      case rel => exact ⟨k + 1, by go_num, by omega, below_drewN HX.out _⟩
      case measure => simp [intOf]; omega
    · obtain rfl : k = us.length := by omega
      have HBE : Hid (Below w.heap.size w wr) := Lib.hid (HBW.out.trans (hX.mono hsW))
      clear hX
      go_wp2_with fail
      go_ret
      exact ⟨rfl, HBE.out⟩

set_option maxHeartbeats 3200000 in
set_option maxRecDepth 100000 in
theorem sameelder_any (t g0 g1 nx : Int) (us : List U) (a b : Option Addr) (ca cb : Nat) (hl : us.length ≤ 100000) (fr : List Int) (fa fb : Option Addr) (cfa cfb : Nat) (hfl : fr.length ≤ 100000) (w : World) (ha : URow false w.heap.size w a us) (hb : URow false w.heap.size w b us) (hfa : Row w.heap.size w fa fr.length (fun k => .int .i64 (fr.getD k 0))) (hfb : Row w.heap.size w fb fr.length (fun k => .int .i64 (fr.getD k 0))) :
    Calls Try.prog 60 #[.agg #[.int .i64 t, .int .i64 g0, .int .i64 g1, .int .i64 nx, .slice fa fr.length cfa, .slice a us.length ca], .agg #[.int .i64 t, .int .i64 g0, .int .i64 g1, .int .i64 nx, .slice fb fr.length cfb, .slice b us.length cb]] w fun e w' => e = .returned (.bool true) ∧ Below w.heap.size w w' := by
  obtain ⟨W, hW⟩ : ∃ W, (w.alloc (.cells #[.int .i64 t, .int .i64 g0, .int .i64 g1, .int .i64 nx, .slice fa fr.length cfa, .slice a us.length ca] 90)).alloc (.cells #[.int .i64 t, .int .i64 g0, .int .i64 g1, .int .i64 nx, .slice fb fr.length cfb, .slice b us.length cb] 90) = W := ⟨_, rfl⟩
  have hbW : Below w.heap.size w W := by rw [← hW]; exact ((Below.refl _ _).alloc (Nat.le_refl _) _).alloc (by simp) _
  have k1 : Blk W w.heap.size #[.int .i64 t, .int .i64 g0, .int .i64 g1, .int .i64 nx, .slice fa fr.length cfa, .slice a us.length ca] := by rw [← hW]; exact (Blk.new w _ _).alloc _
  have k2 : Blk W (w.heap.size + 1) #[.int .i64 t, .int .i64 g0, .int .i64 g1, .int .i64 nx, .slice fb fr.length cfb, .slice b us.length cb] := by
    rw [← hW]
    have := Blk.new (w.alloc (.cells #[.int .i64 t, .int .i64 g0, .int .i64 g1, .int .i64 nx, .slice fa fr.length cfa, .slice a us.length ca] 90)) #[.int .i64 t, .int .i64 g0, .int .i64 g1, .int .i64 nx, .slice fb fr.length cfb, .slice b us.length cb] 90
    simpa using this
  obtain ⟨l1, c1, -⟩ := id k1
  obtain ⟨l2, c2, -⟩ := id k2
  have hsW := hbW.size
  have HA := Lib.hid (ha.below hbW)
  have HB := Lib.hid (hb.below hbW)
  have HFA := Lib.hid ((hfa.below hbW).mono hsW)
  have HFB := Lib.hid ((hfb.below hbW).mono hsW)
  clear hfa hfb
  have K1 := Lib.hid k1
  have K2 := Lib.hid k2
  have HBW := Lib.hid hbW
  have hn0 : (0 : Int) ≤ (us.length : Int) := by omega
  have heq := eq_pair g0 g1
  clear ha hb hbW k1 k2
  go_enter Try.func60, Try.ntmps60
  go_upto_region 1 with fail
  try rw [hW]
  clear hW
  go_wp2_with fail
  refine (samenums_any fr fa fb cfa cfb hfl W HFA.out HFB.out).mono ?_
  rintro e w1 ⟨rfl, b1⟩
  have HB1 := Lib.hid b1
  obtain ⟨l3, c3, -⟩ := id (K1.out.call b1)
  obtain ⟨l4, c4, -⟩ := id (K2.out.call b1)
  clear b1
  go_wp2_with fail
  go_loopw [5] (fun i wr => ∃ k : Nat, i = .int .i64 k ∧ k ≤ us.length ∧ Below W.heap.size W wr) (fun i _ => (us.length - intOf i).toNat)
  case atStart => exact ⟨0, rfl, by omega, HB1.out⟩
  case round =>
    obtain ⟨k, rfl, hk, hX⟩ := hrel
    have HX := Lib.hid hX
    have hsz := hX.size
    obtain ⟨l5, c5, -⟩ := id (K1.out.call hX)
    obtain ⟨l6, c6, -⟩ := id (K2.out.call hX)
    by_cases hlt : k < us.length
    · obtain ⟨u, hu⟩ : ∃ u, us.getD k zeroU = u := ⟨_, rfl⟩
      obtain ⟨b1, o1, rfl, hb1, q0, q1, q2, q3, q4, q5, q6, q7, q8, q9⟩ := (HA.out.below (hX.mono hsW)).getE k hlt u hu
      obtain ⟨b2, o2, rfl, hb2, p0, p1, p2, p3, p4, p5, p6, p7, p8, p9⟩ := (HB.out.below (hX.mono hsW)).getE k hlt u hu
      have hki : (0 : Int) ≤ (k : Int) := by omega
      have hkl : (k : Int) < (us.length : Int) := by omega
      have l7 : b1 < wr.heap.size := by omega
      have l8 : b2 < wr.heap.size := by omega
      have heu : ∀ W : World, (Op.equalIn 10000 179 (.agg #[.int .i64 u.id, .int .i64 u.owner, .int .i64 u.kind, .int .i64 u.x, .int .i64 u.y, .int .i64 u.hp, .int .i64 u.does, .int .i64 u.gx, .int .i64 u.gy, .int .i64 u.target]) (.agg #[.int .i64 u.id, .int .i64 u.owner, .int .i64 u.kind, .int .i64 u.x, .int .i64 u.y, .int .i64 u.hp, .int .i64 u.does, .int .i64 u.gx, .int .i64 u.gy, .int .i64 u.target])).run Try.prog W = .ok true W := eq_ent u
      clear hu hX
      go_wp2_with fail
      go_quiet (fail)
      go_wp2_with fail
      go_roundw
      case rel => exact ⟨k + 1, by go_num, by omega, below_drewN HX.out _⟩
      case measure => simp [intOf]; omega
    · obtain rfl : k = us.length := by omega
      have HBE : Hid (Below w.heap.size w wr) := Lib.hid (HBW.out.trans (hX.mono hsW))
      clear hX
      go_wp2_with fail
      go_ret
      exact ⟨rfl, HBE.out⟩
end Go.Proofs.Ytlfljlhppigejaa
namespace Go.Proofs.Ytlfljlhppigejaa
open Go.RowKit

theorem eq_cmd (c : Cm) (w : World) : (Op.equalIn 10000 99 (.agg (cellsC c).toArray) (.agg (cellsC c).toArray)).run Try.prog w = .ok true w := by
  rw [show (10000 : Nat) = 9999 + 1 from rfl, run_equalIn_struct w 9999 _ _ _ (by kernel_rfl) (by kernel_rfl)]
  have hf : ∀ f ∈ (Try.prog.fieldsOf 99).toList, f.name ≠ "_" ∧ f.type = 3 ∧ f.offset < 7 := of_decide_eq_true (by kernel_rfl)
  refine eqFields_same w _ _ (fun f hf' => ?_)
  obtain ⟨h1, h2, h3⟩ := hf f hf'
  refine ⟨h1, h2, ?_⟩
  have : f.offset = 0 ∨ f.offset = 1 ∨ f.offset = 2 ∨ f.offset = 3 ∨ f.offset = 4 ∨ f.offset = 5 ∨ f.offset = 6 := by omega
  rcases this with h | h | h | h | h | h | h <;> rw [h]
  · exact ⟨c.player, by kernel_rfl⟩
  · exact ⟨c.op, by kernel_rfl⟩
  · exact ⟨c.id, by kernel_rfl⟩
  · exact ⟨c.kind, by kernel_rfl⟩
  · exact ⟨c.x, by kernel_rfl⟩
  · exact ⟨c.y, by kernel_rfl⟩
  · exact ⟨c.target, by kernel_rfl⟩

set_option maxHeartbeats 6400000 in
set_option maxRecDepth 100000 in
theorem sametape_any (t g0 g1 nx : Int) (us : List U) (ua ub : Option Addr) (cua cub : Nat) (hl : us.length ≤ 100000) (fr : List Int) (fa fb : Option Addr) (cfa cfb : Nat) (hfl : fr.length ≤ 100000) (ts : List (List Cm)) (ta tb : Option Addr) (cta ctb : Nat) (hts : ts.length ≤ 100000) (hcs : ∀ l ∈ ts, l.length ≤ 100000) (w : World) (hua : URow false w.heap.size w ua us) (hub : URow false w.heap.size w ub us) (hfa : Row w.heap.size w fa fr.length (fun k => .int .i64 (fr.getD k 0))) (hfb : Row w.heap.size w fb fr.length (fun k => .int .i64 (fr.getD k 0)))
    (hta : TRow w.heap.size w ta ts) (htb : TRow w.heap.size w tb ts) :
    Calls Try.prog 84 #[.agg #[.int .i64 t, .int .i64 g0, .int .i64 g1, .int .i64 nx, .slice fa fr.length cfa, .slice ua us.length cua, .slice ta ts.length cta], .agg #[.int .i64 t, .int .i64 g0, .int .i64 g1, .int .i64 nx, .slice fb fr.length cfb, .slice ub us.length cub, .slice tb ts.length ctb]] w fun e w' => e = .returned (.bool true) ∧ Below w.heap.size w w' := by
  obtain ⟨W, hW⟩ : ∃ W, (w.alloc (.cells #[.int .i64 t, .int .i64 g0, .int .i64 g1, .int .i64 nx, .slice fa fr.length cfa, .slice ua us.length cua, .slice ta ts.length cta] 94)).alloc (.cells #[.int .i64 t, .int .i64 g0, .int .i64 g1, .int .i64 nx, .slice fb fr.length cfb, .slice ub us.length cub, .slice tb ts.length ctb] 94) = W := ⟨_, rfl⟩
  have hbW : Below w.heap.size w W := by rw [← hW]; exact ((Below.refl _ _).alloc (Nat.le_refl _) _).alloc (by simp) _
  have k1 : Blk W w.heap.size #[.int .i64 t, .int .i64 g0, .int .i64 g1, .int .i64 nx, .slice fa fr.length cfa, .slice ua us.length cua, .slice ta ts.length cta] := by rw [← hW]; exact (Blk.new w _ _).alloc _
  have k2 : Blk W (w.heap.size + 1) #[.int .i64 t, .int .i64 g0, .int .i64 g1, .int .i64 nx, .slice fb fr.length cfb, .slice ub us.length cub, .slice tb ts.length ctb] := by
    rw [← hW]
    have := Blk.new (w.alloc (.cells #[.int .i64 t, .int .i64 g0, .int .i64 g1, .int .i64 nx, .slice fa fr.length cfa, .slice ua us.length cua, .slice ta ts.length cta] 94)) #[.int .i64 t, .int .i64 g0, .int .i64 g1, .int .i64 nx, .slice fb fr.length cfb, .slice ub us.length cub, .slice tb ts.length ctb] 94
    simpa using this
  obtain ⟨l1, c1, -⟩ := id k1
  obtain ⟨l2, c2, -⟩ := id k2
  have hsW := hbW.size
  have HA := Lib.hid ((hua.below hbW).mono hsW)
  have HB := Lib.hid ((hub.below hbW).mono hsW)
  have HTA := Lib.hid ((hta.below hbW).mono hsW)
  have HTB := Lib.hid ((htb.below hbW).mono hsW)
  have HFA := Lib.hid ((hfa.below hbW).mono hsW)
  have HFB := Lib.hid ((hfb.below hbW).mono hsW)
  clear hfa hfb
  have K1 := Lib.hid k1
  have K2 := Lib.hid k2
  have HBW := Lib.hid hbW
  have HCS := Lib.hid hcs
  have hn0 : (0 : Int) ≤ (ts.length : Int) := by omega
  clear hua hub hta htb hbW k1 k2 hcs
  go_enter Try.func84, Try.ntmps84
  go_upto_region 1 with fail
  try rw [hW]
  clear hW
  go_wp2_with fail
  go_loopw [5, 6] (fun i _ wr => ∃ k : Nat, i = .int .i64 k ∧ k ≤ ts.length ∧ Below W.heap.size W wr) (fun i _ _ => (ts.length - intOf i).toNat)
  case atStart => exact ⟨0, rfl, by omega, Below.refl _ _⟩
  case round =>
    obtain ⟨k, rfl, hk, hX⟩ := hrel
    have HX := Lib.hid hX
    have hsz := hX.size
    obtain ⟨l5, c5, -⟩ := id (K1.out.call hX)
    obtain ⟨l6, c6, -⟩ := id (K2.out.call hX)
    clear c1 c2
    by_cases hlt : k < ts.length
    · obtain ⟨l, hl'⟩ : ∃ l, ts.getD k [] = l := ⟨_, rfl⟩
      obtain ⟨b1, o1, la1, cl1, rfl, hb1, t1, r1, -⟩ := (HTA.out.below hX).get k hlt l hl'
      obtain ⟨b2, o2, la2, cl2, rfl, hb2, t2, r2, -⟩ := (HTB.out.below hX).get k hlt l hl'
      have hll : l.length ≤ 100000 := HCS.out l (by rw [← hl']; simp [List.getD, hlt])
      have hki : (0 : Int) ≤ (k : Int) := by omega
      have hkl : (k : Int) < (ts.length : Int) := by omega
      have l7 : b1 < wr.heap.size := by omega
      have l8 : b2 < wr.heap.size := by omega
      have hl0 : (0 : Int) ≤ (l.length : Int) := by omega
      have R1 := Lib.hid (r1.mono hsz)
      have R2 := Lib.hid (r2.mono hsz)
      have dl : ((l.length : Int) != (l.length : Int)) = false := by simp
      obtain ⟨wo, rfl⟩ : ∃ x, x = wr := ⟨_, rfl⟩
      clear hl' hX r1 r2
      go_wp2_with fail
      go_quiet (fail)
      go_wp2_with fail
      have hbd := below_drewN (Below.refl wo.heap.size wo) 1
      go_loopw [6] (fun i wx => ∃ j : Nat, i = .int .i64 j ∧ j ≤ l.length ∧ Below wo.heap.size wo wx) (fun i _ => (l.length - intOf i).toNat)
      case atStart => exact ⟨0, rfl, by omega, by first | exact below_drewN (Below.refl _ _) _ | exact (Below.refl _ _).drew⟩
      case round =>
        obtain ⟨j, rfl, hj, hY⟩ := hrel
        have HY := Lib.hid hY
        have hszy := hY.size
        have hXY := HX.out.trans (hY.mono hsz)
        obtain ⟨l9, c9, -⟩ := id (K1.out.call hXY)
        obtain ⟨l10, c10, -⟩ := id (K2.out.call hXY)
        have t1y := (hY.cell (p := ⟨b1, o1 + k, none⟩) l7).trans t1
        have t2y := (hY.cell (p := ⟨b2, o2 + k, none⟩) l8).trans t2
        have l7' : b1 < wr.heap.size := by omega
        have l8' : b2 < wr.heap.size := by omega
        clear hXY
        by_cases hjl : j < l.length
        · obtain ⟨c, hc⟩ : ∃ c, l.getD j zeroC = c := ⟨_, rfl⟩
          obtain ⟨b3, o3, rfl, hb3, q0, q1, q2, q3, q4, q5, q6⟩ := (R1.out.below hY).get j hjl c hc
          obtain ⟨b4, o4, rfl, hb4, p0, p1, p2, p3, p4, p5, p6⟩ := (R2.out.below hY).get j hjl c hc
          have hji : (0 : Int) ≤ (j : Int) := by omega
          have hjk : (j : Int) < (l.length : Int) := by omega
          have l11 : b3 < wr.heap.size := by omega
          have l12 : b4 < wr.heap.size := by omega
          have heu : ∀ W : World, (Op.equalIn 10000 99 (.agg #[.int .i64 c.player, .int .i64 c.op, .int .i64 c.id, .int .i64 c.kind, .int .i64 c.x, .int .i64 c.y, .int .i64 c.target]) (.agg #[.int .i64 c.player, .int .i64 c.op, .int .i64 c.id, .int .i64 c.kind, .int .i64 c.x, .int .i64 c.y, .int .i64 c.target])).run Try.prog W = .ok true W := eq_cmd c
          clear hc hY
          go_wp2_with fail
          go_quiet (fail)
          go_wp2_with fail
          go_roundw
          case rel => exact ⟨j + 1, by go_num, by omega, below_drewN HY.out _⟩
          case measure => simp [intOf]; omega
        · obtain rfl : j = l.length := by omega
          clear hY
          go_wp2_with fail
          go_roundw
          case rel => exact ⟨k + 1, by go_num, by omega, HX.out.trans (HY.out.mono hsz)⟩
          case measure => simp [intOf]; omega
    · obtain rfl : k = ts.length := by omega
      have HBE : Hid (Below w.heap.size w wr) := Lib.hid (HBW.out.trans (hX.mono hsW))
      clear hX
      go_wp2_with fail
      refine (sameelder_any t g0 g1 nx us ua ub cua cub hl fr fa fb cfa cfb hfl _ ((HA.out.below HX.out).mono hsz) ((HB.out.below HX.out).mono hsz) ((HFA.out.below HX.out).mono hsz) ((HFB.out.below HX.out).mono hsz)).mono ?_
      rintro e w9 ⟨rfl, b9⟩
      have B9 := Lib.hid b9
      clear b9
      go_wp2_with fail
      go_ret
      exact ⟨rfl, HBE.out.trans (B9.out.mono HBE.out.size)⟩
end Go.Proofs.Ytlfljlhppigejaa
namespace Go.Proofs.Ytlfljlhppigejaa
open Go.RowKit

theorem eq_order (c : Cm) (w : World) : (Op.equalIn 10000 73 (.agg (cellsO c).toArray) (.agg (cellsO c).toArray)).run Try.prog w = .ok true w := by
  rw [show (10000 : Nat) = 9999 + 1 from rfl, run_equalIn_struct w 9999 _ _ _ (by kernel_rfl) (by kernel_rfl)]
  have hf : ∀ f ∈ (Try.prog.fieldsOf 73).toList, f.name ≠ "_" ∧ f.type = 3 ∧ f.offset < 6 := of_decide_eq_true (by kernel_rfl)
  refine eqFields_same w _ _ (fun f hf' => ?_)
  obtain ⟨h1, h2, h3⟩ := hf f hf'
  refine ⟨h1, h2, ?_⟩
  have : f.offset = 0 ∨ f.offset = 1 ∨ f.offset = 2 ∨ f.offset = 3 ∨ f.offset = 4 ∨ f.offset = 5 := by omega
  rcases this with h | h | h | h | h | h <;> rw [h]
  · exact ⟨c.player, by kernel_rfl⟩
  · exact ⟨c.op, by kernel_rfl⟩
  · exact ⟨c.id, by kernel_rfl⟩
  · exact ⟨c.kind, by kernel_rfl⟩
  · exact ⟨c.x, by kernel_rfl⟩
  · exact ⟨c.y, by kernel_rfl⟩

set_option maxHeartbeats 6400000 in
set_option maxRecDepth 100000 in
theorem samereel_any (t g0 g1 nx : Int) (us : List U) (ua ub : Option Addr) (cua cub : Nat) (hl : us.length ≤ 100000) (ts : List (List Cm)) (ta tb : Option Addr) (cta ctb : Nat) (hts : ts.length ≤ 100000) (hcs : ∀ l ∈ ts, l.length ≤ 100000) (w : World) (hua : URow true w.heap.size w ua us) (hub : URow true w.heap.size w ub us)
    (hta : PRow w.heap.size w ta ts) (htb : PRow w.heap.size w tb ts) :
    Calls Try.prog 76 #[.agg #[.int .i64 t, .int .i64 g0, .int .i64 g1, .int .i64 nx, .slice ua us.length cua, .slice ta ts.length cta], .agg #[.int .i64 t, .int .i64 g0, .int .i64 g1, .int .i64 nx, .slice ub us.length cub, .slice tb ts.length ctb]] w fun e w' => e = .returned (.bool true) ∧ Below w.heap.size w w' := by
  obtain ⟨W, hW⟩ : ∃ W, (w.alloc (.cells #[.int .i64 t, .int .i64 g0, .int .i64 g1, .int .i64 nx, .slice ua us.length cua, .slice ta ts.length cta] 69)).alloc (.cells #[.int .i64 t, .int .i64 g0, .int .i64 g1, .int .i64 nx, .slice ub us.length cub, .slice tb ts.length ctb] 69) = W := ⟨_, rfl⟩
  have hbW : Below w.heap.size w W := by rw [← hW]; exact ((Below.refl _ _).alloc (Nat.le_refl _) _).alloc (by simp) _
  have k1 : Blk W w.heap.size #[.int .i64 t, .int .i64 g0, .int .i64 g1, .int .i64 nx, .slice ua us.length cua, .slice ta ts.length cta] := by rw [← hW]; exact (Blk.new w _ _).alloc _
  have k2 : Blk W (w.heap.size + 1) #[.int .i64 t, .int .i64 g0, .int .i64 g1, .int .i64 nx, .slice ub us.length cub, .slice tb ts.length ctb] := by
    rw [← hW]
    have := Blk.new (w.alloc (.cells #[.int .i64 t, .int .i64 g0, .int .i64 g1, .int .i64 nx, .slice ua us.length cua, .slice ta ts.length cta] 69)) #[.int .i64 t, .int .i64 g0, .int .i64 g1, .int .i64 nx, .slice ub us.length cub, .slice tb ts.length ctb] 69
    simpa using this
  obtain ⟨l1, c1, -⟩ := id k1
  obtain ⟨l2, c2, -⟩ := id k2
  have hsW := hbW.size
  have HA := Lib.hid ((hua.below hbW).mono hsW)
  have HB := Lib.hid ((hub.below hbW).mono hsW)
  have HTA := Lib.hid ((hta.below hbW).mono hsW)
  have HTB := Lib.hid ((htb.below hbW).mono hsW)
  have K1 := Lib.hid k1
  have K2 := Lib.hid k2
  have HBW := Lib.hid hbW
  have HCS := Lib.hid hcs
  have hn0 : (0 : Int) ≤ (ts.length : Int) := by omega
  clear hua hub hta htb hbW k1 k2 hcs
  go_enter Try.func76, Try.ntmps76
  go_upto_region 1 with fail
  try rw [hW]
  clear hW
  go_wp2_with fail
  go_loopw [5, 6] (fun i _ wr => ∃ k : Nat, i = .int .i64 k ∧ k ≤ ts.length ∧ Below W.heap.size W wr) (fun i _ _ => (ts.length - intOf i).toNat)
  case atStart => exact ⟨0, rfl, by omega, Below.refl _ _⟩
  case round =>
    obtain ⟨k, rfl, hk, hX⟩ := hrel
    have HX := Lib.hid hX
    have hsz := hX.size
    obtain ⟨l5, c5, -⟩ := id (K1.out.call hX)
    obtain ⟨l6, c6, -⟩ := id (K2.out.call hX)
    clear c1 c2
    by_cases hlt : k < ts.length
    · obtain ⟨l, hl'⟩ : ∃ l, ts.getD k [] = l := ⟨_, rfl⟩
      obtain ⟨b1, o1, la1, cl1, rfl, hb1, t1, r1, -⟩ := (HTA.out.below hX).get k hlt l hl'
      obtain ⟨b2, o2, la2, cl2, rfl, hb2, t2, r2, -⟩ := (HTB.out.below hX).get k hlt l hl'
      have hll : l.length ≤ 100000 := HCS.out l (by rw [← hl']; simp [List.getD, hlt])
      have hki : (0 : Int) ≤ (k : Int) := by omega
      have hkl : (k : Int) < (ts.length : Int) := by omega
      have l7 : b1 < wr.heap.size := by omega
      have l8 : b2 < wr.heap.size := by omega
      have hl0 : (0 : Int) ≤ (l.length : Int) := by omega
      have R1 := Lib.hid (r1.mono hsz)
      have R2 := Lib.hid (r2.mono hsz)
      have dl : ((l.length : Int) != (l.length : Int)) = false := by simp
      obtain ⟨wo, rfl⟩ : ∃ x, x = wr := ⟨_, rfl⟩
      clear hl' hX r1 r2
      go_wp2_with fail
      go_quiet (fail)
      go_wp2_with fail
      have hbd := below_drewN (Below.refl wo.heap.size wo) 1
      go_loopw [6] (fun i wx => ∃ j : Nat, i = .int .i64 j ∧ j ≤ l.length ∧ Below wo.heap.size wo wx) (fun i _ => (l.length - intOf i).toNat)
      case atStart => exact ⟨0, rfl, by omega, by first | exact below_drewN (Below.refl _ _) _ | exact (Below.refl _ _).drew⟩
      case round =>
        obtain ⟨j, rfl, hj, hY⟩ := hrel
        have HY := Lib.hid hY
        have hszy := hY.size
        have hXY := HX.out.trans (hY.mono hsz)
        obtain ⟨l9, c9, -⟩ := id (K1.out.call hXY)
        obtain ⟨l10, c10, -⟩ := id (K2.out.call hXY)
        have t1y := (hY.cell (p := ⟨b1, o1 + k, none⟩) l7).trans t1
        have t2y := (hY.cell (p := ⟨b2, o2 + k, none⟩) l8).trans t2
        have l7' : b1 < wr.heap.size := by omega
        have l8' : b2 < wr.heap.size := by omega
        clear hXY
        by_cases hjl : j < l.length
        · obtain ⟨c, hc⟩ : ∃ c, l.getD j zeroC = c := ⟨_, rfl⟩
          obtain ⟨b3, o3, rfl, hb3, q0, q1, q2, q3, q4, q5⟩ := (R1.out.below hY).get j hjl c hc
          obtain ⟨b4, o4, rfl, hb4, p0, p1, p2, p3, p4, p5⟩ := (R2.out.below hY).get j hjl c hc
          have hji : (0 : Int) ≤ (j : Int) := by omega
          have hjk : (j : Int) < (l.length : Int) := by omega
          have l11 : b3 < wr.heap.size := by omega
          have l12 : b4 < wr.heap.size := by omega
          have heu : ∀ W : World, (Op.equalIn 10000 73 (.agg #[.int .i64 c.player, .int .i64 c.op, .int .i64 c.id, .int .i64 c.kind, .int .i64 c.x, .int .i64 c.y]) (.agg #[.int .i64 c.player, .int .i64 c.op, .int .i64 c.id, .int .i64 c.kind, .int .i64 c.x, .int .i64 c.y])).run Try.prog W = .ok true W := eq_order c
          clear hc hY
          go_wp2_with fail
          go_quiet (fail)
          go_wp2_with fail
          go_roundw
          case rel => exact ⟨j + 1, by go_num, by omega, below_drewN HY.out _⟩
          case measure => simp [intOf]; omega
        · obtain rfl : j = l.length := by omega
          clear hY
          go_wp2_with fail
          go_roundw
          case rel => exact ⟨k + 1, by go_num, by omega, HX.out.trans (HY.out.mono hsz)⟩
          case measure => simp [intOf]; omega
    · obtain rfl : k = ts.length := by omega
      have HBE : Hid (Below w.heap.size w wr) := Lib.hid (HBW.out.trans (hX.mono hsW))
      clear hX
      go_wp2_with fail
      refine (samenewer_any t g0 g1 nx us ua ub cua cub hl _ ((HA.out.below HX.out).mono hsz) ((HB.out.below HX.out).mono hsz)).mono ?_
      rintro e w9 ⟨rfl, b9⟩
      have B9 := Lib.hid b9
      clear b9
      go_wp2_with fail
      go_ret
      exact ⟨rfl, HBE.out.trans (B9.out.mono HBE.out.size)⟩
end Go.Proofs.Ytlfljlhppigejaa
namespace Go.Proofs.Ytlfljlhppigejaa
open Go.RowKit

set_option maxHeartbeats 12800000 in
set_option maxRecDepth 100000 in
theorem snapreads_law (b body : ByteArray) (hb : b.size ≤ maxLen) (hbd : body.size ≤ maxLen) (kd : UInt8) (w : World) :
    Calls Try.prog 13 #[.string b, .string body, .int .u8 (kd.toNat : Int)] w (TrueBelow w) := by
  unfold maxLen at hb hbd
  go_enter Try.func13, Try.ntmps13
  go_wp2_with fail
  refine (saves_any _).mono ?_
  rintro e w1 ⟨rfl, b1⟩
  have HB1 := Lib.hid b1
  clear b1
  by_cases h3 : 3000 < b.size
  · have d1 : decide ((3000 : Int) < (b.size : Int)) = true := decide_eq_true (by omega)
    clear h3
    go_wp2_with fail
    go_ret
    exact tb rfl HB1.out
  have d1 : decide ((3000 : Int) < (b.size : Int)) = false := decide_eq_false (by omega)
  by_cases h4 : 3000 < body.size
  · have d2 : decide ((3000 : Int) < (body.size : Int)) = true := decide_eq_true (by omega)
    clear h4
    go_wp2_with fail
    go_ret
    exact tb rfl HB1.out
  have d2 : decide ((3000 : Int) < (body.size : Int)) = false := decide_eq_false (by omega)
  go_wp2_with fail
  refine (framed_any kd body (by omega) _).mono ?_
  rintro e w2 ⟨rfl, b2⟩
  obtain ⟨L1, hL1⟩ : ∃ x, bstr (frameL kd body.data.toList) = x := ⟨_, rfl⟩
  have hl1 : L1.size ≤ 900000 := by
    rw [← hL1, bstr_size, frameL_length]
    have : body.data.toList.length = body.size := by simp
    omega
  rw [hL1]
  have HB2 : Hid (Below w.heap.size w w2) := Lib.hid (HB1.out.trans (b2.mono HB1.out.size))
  have hs2 := HB2.out.size
  clear b2 hL1 d1 d2
  go_wp2_with fail
  obtain ⟨V, hV⟩ : ∃ V, w2.alloc (.cells #[.string b, .string L1] 9) = V := ⟨_, rfl⟩
  have two : Two w w2.heap.size b L1 V := by
    have hk := Blk.new w2 #[.string b, .string L1] 9
    rw [hV] at hk
    exact ⟨hk.1, hk.2.1 0, hk.2.1 1, by rw [← hV]; exact HB2.out.alloc hs2 _⟩
  rw [hV]
  have TWO := Lib.hid two
  clear two hV
  go_loopw [9] (fun i wr => ∃ k : Nat, i = .int .i64 k ∧ k ≤ 2 ∧ Two w w2.heap.size b L1 wr) (fun i _ => (2 - intOf i).toNat)
  case atStart => exact ⟨0, rfl, by omega, TWO.out⟩
  case round =>
    obtain ⟨k, rfl, hk, two⟩ := hrel
    have RK0 := Lib.hid two
    clear two
    by_cases hlt : k < 2
    · have hki : (0 : Int) ≤ (k : Int) := by omega
      have hkl : (k : Int) < 2 := by omega
      obtain ⟨LI, hLI'⟩ : ∃ x, (if k = 0 then b else L1) = x := ⟨_, rfl⟩
      have HLI := Lib.hid hLI'
      have hLI : LI.size ≤ 900000 := by
        rw [← hLI']
        split
        · omega
        · exact hl1
      obtain ⟨lS0, cS0⟩ := RK0.out.at k hlt LI HLI.out
      obtain ⟨LL, hLL⟩ : ∃ x, LI.data.toList = x := ⟨_, rfl⟩
      have HLL := Lib.hid hLL
      obtain ⟨gE, hgE⟩ : ∃ x, gotE LL = x := ⟨_, rfl⟩
      obtain ⟨gN, hgN⟩ : ∃ x, gotN LL = x := ⟨_, rfl⟩
      obtain ⟨gT, hgT⟩ : ∃ x, gotT LL = x := ⟨_, rfl⟩
      obtain ⟨gR, hgR⟩ : ∃ x, gotR LL = x := ⟨_, rfl⟩
      have lE := gotE_len LL
      have lN := gotN_len LL
      have lT := gotT_len LL
      have lR := gotR_len LL
      rw [hgE] at lE
      rw [hgN] at lN
      rw [hgT] at lT
      rw [hgR] at lR
      obtain ⟨fE, hfE⟩ : ∃ x, stateF false LL = x := ⟨_, rfl⟩
      obtain ⟨fN, hfN⟩ : ∃ x, stateF true LL = x := ⟨_, rfl⟩
      obtain ⟨fT, hfT⟩ : ∃ x, tapeF false LL = x := ⟨_, rfl⟩
      obtain ⟨fR, hfR⟩ : ∃ x, tapeF true LL = x := ⟨_, rfl⟩
      have HE1 := Lib.hid (fun w => elderof_one LI hLI LL hLL w)
      have HE2 := Lib.hid (fun w => elderread_one LI hLI LL hLL w)
      have HN1 := Lib.hid (fun w => newerof_one LI hLI LL hLL w)
      have HN2 := Lib.hid (fun w => newerread_one LI hLI LL hLL w)
      have HT1 := Lib.hid (fun w => tapeof_one LI hLI LL hLL w)
      have HT2 := Lib.hid (fun w => taperead_one LI hLI LL hLL w)
      have HR1 := Lib.hid (fun w => reelof_one LI hLI LL hLL w)
      have HR2 := Lib.hid (fun w => reelread_one LI hLI LL hLL w)
      rw [hgE, hfE] at HE1 HE2
      rw [hgN, hfN] at HN1 HN2
      rw [hgT, hfT] at HT1 HT2
      rw [hgR, hfR] at HR1 HR2
      clear hLI' hLL hgE hgN hgT hgR hfE hfN hfT hfR
      go_wp2_with fail
      refine (HE1.out _).mono ?_
      rintro e x1 ⟨fa, cf, ua, cu, rfl, r0, r1, bx⟩
      have RK1 := Lib.hid (rk_call (w := w) (S := w2.heap.size) (L0 := b) (L1 := L1) bx (by repeat (first | exact RK0.out | refine Two.drewN ?_ _ | refine Two.drew ?_ | refine Two.alloc ?_ _)))
      have A1 := Lib.hid (AtE.new (x := x1) gE fa cf ua cu r0 r1)
      obtain ⟨lS1, cS1⟩ := RK1.out.at k hlt LI HLI.out
      have hsx1 := bx.size
      clear bx r0 r1 lS0 cS0
      go_wp2_with fail
      refine (HE2.out _).mono ?_
      rintro e x2 ⟨fa, cf, ua, cu, rfl, r0, r1, bx⟩
      have RK2 := Lib.hid (rk_call (w := w) (S := w2.heap.size) (L0 := b) (L1 := L1) bx (by repeat (first | exact RK1.out | refine Two.drewN ?_ _ | refine Two.drew ?_ | refine Two.alloc ?_ _)))
      have A1' := Lib.hid (A1.out.call bx)
      have A2 := Lib.hid (AtE.new (x := x2) gE fa cf ua cu r0 r1)
      obtain ⟨lS2, cS2⟩ := RK2.out.at k hlt LI HLI.out
      have hsx2 := bx.size
      clear bx r0 r1 lS1 cS1
      have A1'n := Lib.hid (A1'.out.call (y := x2.alloc (.cells #[.int .i64 gE.tick, .int .i64 gE.g0, .int .i64 gE.g1, .int .i64 gE.next, .slice fa gE.free.length cf, .slice ua gE.us.length cu] 90)) ((Below.refl _ _).alloc (Nat.le_refl _) _))
      go_wp2_with fail
      refine (HN1.out _).mono ?_
      rintro e x3 ⟨ua, cu, rfl, r0, bx⟩
      have RK3 := Lib.hid (rk_call (w := w) (S := w2.heap.size) (L0 := b) (L1 := L1) bx (by repeat (first | exact RK2.out | refine Two.drewN ?_ _ | refine Two.drew ?_ | refine Two.alloc ?_ _)))
      have A1'n' := Lib.hid (A1'n.out.call bx)
      have A2' := Lib.hid (A2.out.call bx)
      have A3 := Lib.hid (AtN.new (x := x3) gN ua cu r0)
      obtain ⟨lS3, cS3⟩ := RK3.out.at k hlt LI HLI.out
      have hsx3 := bx.size
      clear bx r0 lS2 cS2
      have A1'n'n := Lib.hid (A1'n'.out.call (y := x3.alloc (.cells #[.int .i64 gN.tick, .int .i64 gN.g0, .int .i64 gN.g1, .int .i64 gN.next, .slice ua gN.us.length cu] 65)) ((Below.refl _ _).alloc (Nat.le_refl _) _))
      have A2'n := Lib.hid (A2'.out.call (y := x3.alloc (.cells #[.int .i64 gN.tick, .int .i64 gN.g0, .int .i64 gN.g1, .int .i64 gN.next, .slice ua gN.us.length cu] 65)) ((Below.refl _ _).alloc (Nat.le_refl _) _))
      go_wp2_with fail
      refine (HN2.out _).mono ?_
      rintro e x4 ⟨ua, cu, rfl, r0, bx⟩
      have RK4 := Lib.hid (rk_call (w := w) (S := w2.heap.size) (L0 := b) (L1 := L1) bx (by repeat (first | exact RK3.out | refine Two.drewN ?_ _ | refine Two.drew ?_ | refine Two.alloc ?_ _)))
      have A1'n'n' := Lib.hid (A1'n'n.out.call bx)
      have A2'n' := Lib.hid (A2'n.out.call bx)
      have A3' := Lib.hid (A3.out.call bx)
      have A4 := Lib.hid (AtN.new (x := x4) gN ua cu r0)
      obtain ⟨lS4, cS4⟩ := RK4.out.at k hlt LI HLI.out
      have hsx4 := bx.size
      clear bx r0 lS3 cS3
      have A1'n'n'n := Lib.hid (A1'n'n'.out.call (y := x4.alloc (.cells #[.int .i64 gN.tick, .int .i64 gN.g0, .int .i64 gN.g1, .int .i64 gN.next, .slice ua gN.us.length cu] 65)) ((Below.refl _ _).alloc (Nat.le_refl _) _))
      have A2'n'n := Lib.hid (A2'n'.out.call (y := x4.alloc (.cells #[.int .i64 gN.tick, .int .i64 gN.g0, .int .i64 gN.g1, .int .i64 gN.next, .slice ua gN.us.length cu] 65)) ((Below.refl _ _).alloc (Nat.le_refl _) _))
      have A3'n := Lib.hid (A3'.out.call (y := x4.alloc (.cells #[.int .i64 gN.tick, .int .i64 gN.g0, .int .i64 gN.g1, .int .i64 gN.next, .slice ua gN.us.length cu] 65)) ((Below.refl _ _).alloc (Nat.le_refl _) _))
      obtain ⟨fa0, cf0, ua0, cu0, kk0, r0_0, r1_0⟩ := A1'n'n'n.out
      obtain ⟨lk0, ck0, -⟩ := id kk0
      have Hr0_0 := Lib.hid r0_0
      have Hr1_0 := Lib.hid r1_0
      have KK0 := Lib.hid kk0
      clear kk0 r0_0 r1_0
      obtain ⟨fa1, cf1, ua1, cu1, kk1, r0_1, r1_1⟩ := A2'n'n.out
      obtain ⟨lk1, ck1, -⟩ := id kk1
      have Hr0_1 := Lib.hid r0_1
      have Hr1_1 := Lib.hid r1_1
      have KK1 := Lib.hid kk1
      clear kk1 r0_1 r1_1
      obtain ⟨ua2, cu2, kk2, r0_2⟩ := A3'n.out
      obtain ⟨lk2, ck2, -⟩ := id kk2
      have Hr0_2 := Lib.hid r0_2
      have KK2 := Lib.hid kk2
      clear kk2 r0_2
      obtain ⟨ua3, cu3, kk3, r0_3⟩ := A4.out
      obtain ⟨lk3, ck3, -⟩ := id kk3
      have Hr0_3 := Lib.hid r0_3
      have KK3 := Lib.hid kk3
      clear kk3 r0_3
      have dfa : (fE == fE) = true := by simp
      have dfb : (fN == fN) = true := by simp
      go_wp2_with fail
      refine (same_any fE fE _).mono ?_
      rintro e y ⟨rfl, rfl⟩
      rw [dfa]
      go_wp2_with fail
      refine (sameelder_any gE.tick gE.g0 gE.g1 gE.next gE.us ua0 ua1 cu0 cu1 (by omega) gE.free fa0 fa1 cf0 cf1 (by omega) _ Hr1_0.out Hr1_1.out Hr0_0.out Hr0_1.out).mono ?_
      rintro e y1 ⟨rfl, by1⟩
      have RKa := Lib.hid (rk_call (w := w) (S := w2.heap.size) (L0 := b) (L1 := L1) by1 (by repeat (first | exact RK4.out | refine Two.drewN ?_ _ | refine Two.drew ?_ | refine Two.alloc ?_ _)))
      have Hn2 := Lib.hid ((Hr0_2.out.below by1).mono by1.size)
      have Hn3 := Lib.hid ((Hr0_3.out.below by1).mono by1.size)
      clear ck0 ck1 ck2 ck3 lk0 lk1 lk2 lk3
      obtain ⟨lk2, ck2, -⟩ := id (KK2.out.call by1)
      obtain ⟨lk3, ck3, -⟩ := id (KK3.out.call by1)
      clear by1
      go_wp2_with fail
      refine (same_any fN fN _).mono ?_
      rintro e y ⟨rfl, rfl⟩
      rw [dfb]
      go_wp2_with fail
      refine (samenewer_any gN.tick gN.g0 gN.g1 gN.next gN.us ua2 ua3 cu2 cu3 (by omega) _ Hn2.out Hn3.out).mono ?_
      rintro e y2 ⟨rfl, by2⟩
      have RKb := Lib.hid (rk_call (w := w) (S := w2.heap.size) (L0 := b) (L1 := L1) by2 RKa.out)
      obtain ⟨lSb, cSb⟩ := RKb.out.at k hlt LI HLI.out
      clear by2 ck2 ck3 lk2 lk3 KK0 KK1 KK2 KK3 Hr0_0 Hr1_0 Hr0_1 Hr1_1 Hr0_2 Hr0_3 Hn2 Hn3 lS4 cS4
      have RK104 := RKb
      have lS104 := lSb
      have cS104 := cSb
      clear lSb cSb
      go_wp2_with fail
      refine (HT1.out _).mono ?_
      rintro e x105 ⟨fa, cf, ua, cu, ta, ct, rfl, r0, r1, r2, bx⟩
      have RK105 := Lib.hid (rk_call (w := w) (S := w2.heap.size) (L0 := b) (L1 := L1) bx (by repeat (first | exact RK104.out | refine Two.drewN ?_ _ | refine Two.drew ?_ | refine Two.alloc ?_ _)))
      have A105 := Lib.hid (AtT.new (x := x105) gT.1 gT.2 fa cf ua cu ta ct r0 r1 r2)
      obtain ⟨lS105, cS105⟩ := RK105.out.at k hlt LI HLI.out
      have hsx105 := bx.size
      clear bx r0 r1 r2 lS104 cS104
      go_wp2_with fail
      refine (HT2.out _).mono ?_
      rintro e x106 ⟨fa, cf, ua, cu, ta, ct, rfl, r0, r1, r2, bx⟩
      have RK106 := Lib.hid (rk_call (w := w) (S := w2.heap.size) (L0 := b) (L1 := L1) bx (by repeat (first | exact RK105.out | refine Two.drewN ?_ _ | refine Two.drew ?_ | refine Two.alloc ?_ _)))
      have A105' := Lib.hid (A105.out.call bx)
      have A106 := Lib.hid (AtT.new (x := x106) gT.1 gT.2 fa cf ua cu ta ct r0 r1 r2)
      obtain ⟨lS106, cS106⟩ := RK106.out.at k hlt LI HLI.out
      have hsx106 := bx.size
      clear bx r0 r1 r2 lS105 cS105
      have A105'n := Lib.hid (A105'.out.call (y := x106.alloc (.cells #[.int .i64 gT.1.tick, .int .i64 gT.1.g0, .int .i64 gT.1.g1, .int .i64 gT.1.next, .slice fa gT.1.free.length cf, .slice ua gT.1.us.length cu, .slice ta gT.2.length ct] 94)) ((Below.refl _ _).alloc (Nat.le_refl _) _))
      go_wp2_with fail
      refine (HR1.out _).mono ?_
      rintro e x107 ⟨ua, cu, ta, ct, rfl, r0, r1, bx⟩
      have RK107 := Lib.hid (rk_call (w := w) (S := w2.heap.size) (L0 := b) (L1 := L1) bx (by repeat (first | exact RK106.out | refine Two.drewN ?_ _ | refine Two.drew ?_ | refine Two.alloc ?_ _)))
      have A105'n' := Lib.hid (A105'n.out.call bx)
      have A106' := Lib.hid (A106.out.call bx)
      have A107 := Lib.hid (AtR.new (x := x107) gR.1 gR.2 ua cu ta ct r0 r1)
      obtain ⟨lS107, cS107⟩ := RK107.out.at k hlt LI HLI.out
      have hsx107 := bx.size
      clear bx r0 r1 lS106 cS106
      have A105'n'n := Lib.hid (A105'n'.out.call (y := x107.alloc (.cells #[.int .i64 gR.1.tick, .int .i64 gR.1.g0, .int .i64 gR.1.g1, .int .i64 gR.1.next, .slice ua gR.1.us.length cu, .slice ta gR.2.length ct] 69)) ((Below.refl _ _).alloc (Nat.le_refl _) _))
      have A106'n := Lib.hid (A106'.out.call (y := x107.alloc (.cells #[.int .i64 gR.1.tick, .int .i64 gR.1.g0, .int .i64 gR.1.g1, .int .i64 gR.1.next, .slice ua gR.1.us.length cu, .slice ta gR.2.length ct] 69)) ((Below.refl _ _).alloc (Nat.le_refl _) _))
      go_wp2_with fail
      refine (HR2.out _).mono ?_
      rintro e x108 ⟨ua, cu, ta, ct, rfl, r0, r1, bx⟩
      have RK108 := Lib.hid (rk_call (w := w) (S := w2.heap.size) (L0 := b) (L1 := L1) bx (by repeat (first | exact RK107.out | refine Two.drewN ?_ _ | refine Two.drew ?_ | refine Two.alloc ?_ _)))
      have A105'n'n' := Lib.hid (A105'n'n.out.call bx)
      have A106'n' := Lib.hid (A106'n.out.call bx)
      have A107' := Lib.hid (A107.out.call bx)
      have A108 := Lib.hid (AtR.new (x := x108) gR.1 gR.2 ua cu ta ct r0 r1)
      obtain ⟨lS108, cS108⟩ := RK108.out.at k hlt LI HLI.out
      have hsx108 := bx.size
      clear bx r0 r1 lS107 cS107
      have A105'n'n'n := Lib.hid (A105'n'n'.out.call (y := x108.alloc (.cells #[.int .i64 gR.1.tick, .int .i64 gR.1.g0, .int .i64 gR.1.g1, .int .i64 gR.1.next, .slice ua gR.1.us.length cu, .slice ta gR.2.length ct] 69)) ((Below.refl _ _).alloc (Nat.le_refl _) _))
      have A106'n'n := Lib.hid (A106'n'.out.call (y := x108.alloc (.cells #[.int .i64 gR.1.tick, .int .i64 gR.1.g0, .int .i64 gR.1.g1, .int .i64 gR.1.next, .slice ua gR.1.us.length cu, .slice ta gR.2.length ct] 69)) ((Below.refl _ _).alloc (Nat.le_refl _) _))
      have A107'n := Lib.hid (A107'.out.call (y := x108.alloc (.cells #[.int .i64 gR.1.tick, .int .i64 gR.1.g0, .int .i64 gR.1.g1, .int .i64 gR.1.next, .slice ua gR.1.us.length cu, .slice ta gR.2.length ct] 69)) ((Below.refl _ _).alloc (Nat.le_refl _) _))
      obtain ⟨fa0, cf0, ua0, cu0, ta0, ct0, kk0, r0_0, r1_0, r2_0⟩ := A105'n'n'n.out
      obtain ⟨lk0, ck0, -⟩ := id kk0
      have Hr0_0 := Lib.hid r0_0
      have Hr1_0 := Lib.hid r1_0
      have Hr2_0 := Lib.hid r2_0
      have KK0 := Lib.hid kk0
      clear kk0 r0_0 r1_0 r2_0
      obtain ⟨fa1, cf1, ua1, cu1, ta1, ct1, kk1, r0_1, r1_1, r2_1⟩ := A106'n'n.out
      obtain ⟨lk1, ck1, -⟩ := id kk1
      have Hr0_1 := Lib.hid r0_1
      have Hr1_1 := Lib.hid r1_1
      have Hr2_1 := Lib.hid r2_1
      have KK1 := Lib.hid kk1
      clear kk1 r0_1 r1_1 r2_1
      obtain ⟨ua2, cu2, ta2, ct2, kk2, r0_2, r1_2⟩ := A107'n.out
      obtain ⟨lk2, ck2, -⟩ := id kk2
      have Hr0_2 := Lib.hid r0_2
      have Hr1_2 := Lib.hid r1_2
      have KK2 := Lib.hid kk2
      clear kk2 r0_2 r1_2
      obtain ⟨ua3, cu3, ta3, ct3, kk3, r0_3, r1_3⟩ := A108.out
      obtain ⟨lk3, ck3, -⟩ := id kk3
      have Hr0_3 := Lib.hid r0_3
      have Hr1_3 := Lib.hid r1_3
      have KK3 := Lib.hid kk3
      clear kk3 r0_3 r1_3
      have dfa : (fT == fT) = true := by simp
      have dfb : (fR == fR) = true := by simp
      go_wp2_with fail
      refine (same_any fT fT _).mono ?_
      rintro e y ⟨rfl, rfl⟩
      rw [dfa]
      go_wp2_with fail
      refine (sametape_any gT.1.tick gT.1.g0 gT.1.g1 gT.1.next gT.1.us ua0 ua1 cu0 cu1 (by omega) gT.1.free fa0 fa1 cf0 cf1 (by omega) gT.2 ta0 ta1 ct0 ct1 (by omega) (fun l hl => by have := lT.2.2.2 l hl; omega) _ Hr1_0.out Hr1_1.out Hr0_0.out Hr0_1.out Hr2_0.out Hr2_1.out).mono ?_
      rintro e y1 ⟨rfl, by1⟩
      have RKc := Lib.hid (rk_call (w := w) (S := w2.heap.size) (L0 := b) (L1 := L1) by1 (by repeat (first | exact RK108.out | refine Two.drewN ?_ _ | refine Two.drew ?_ | refine Two.alloc ?_ _)))
      have Hn2 := Lib.hid ((Hr0_2.out.below by1).mono by1.size)
      have Hn3 := Lib.hid ((Hr0_3.out.below by1).mono by1.size)
      have Hm2 := Lib.hid ((Hr1_2.out.below by1).mono by1.size)
      have Hm3 := Lib.hid ((Hr1_3.out.below by1).mono by1.size)
      clear ck0 ck1 ck2 ck3 lk0 lk1 lk2 lk3
      obtain ⟨lk2, ck2, -⟩ := id (KK2.out.call by1)
      obtain ⟨lk3, ck3, -⟩ := id (KK3.out.call by1)
      clear by1
      go_wp2_with fail
      refine (same_any fR fR _).mono ?_
      rintro e y ⟨rfl, rfl⟩
      rw [dfb]
      go_wp2_with fail
      refine (samereel_any gR.1.tick gR.1.g0 gR.1.g1 gR.1.next gR.1.us ua2 ua3 cu2 cu3 (by omega) gR.2 ta2 ta3 ct2 ct3 (by omega) (fun l hl => by have := lR.2.2.2 l hl; omega) _ Hn2.out Hn3.out Hm2.out Hm3.out).mono ?_
      rintro e y2 ⟨rfl, by2⟩
      have RKd := Lib.hid (rk_call (w := w) (S := w2.heap.size) (L0 := b) (L1 := L1) by2 RKc.out)
      clear by2 ck2 ck3
      go_wp2_with fail
      go_roundw
      case rel => exact ⟨k + 1, by go_num, by omega, RKd.out⟩
      case measure => simp [intOf]; omega
    · have hk2 : k = 2 := by omega
      have d3 : decide ((k : Int) < 2) = false := decide_eq_false (by omega)
      have HBR := Lib.hid RK0.out.2.2.2
      clear hk2
      go_wp2_with fail
      go_ret
      exact tb rfl HBR.out
end Go.Proofs.Ytlfljlhppigejaa
namespace Go.Proofs.Ytlfljlhppigejaa
theorem byte_of (a : Int) (h : (Lit.int .u8 a).wf = true) : ∃ k : UInt8, (k.toNat : Int) = a := by
  simp [Lit.wf, IntKind.min, IntKind.max, IntKind.signed, IntKind.bits] at h
  have e : (UInt8.ofNat a.toNat).toNat = a.toNat := by
    simp
    omega
  exact ⟨UInt8.ofNat a.toNat, by rw [e]; omega⟩
end Go.Proofs.Ytlfljlhppigejaa
