/-
  Plain law for chapter 6: numbers that were written are read as they were. No program in sight. The walks of the document's Same: two states that are equal. Regions in which two operations that write may come in either order: a plan that forks. The walks of the document's nums, ElderText, NewerText: a state's numbers as bytes. The walks of the document's TapeText and ReelText: a tape's numbers as bytes. The walk of the document's SameTape: equal ones. The walk of the document's SameReel: equal ones.
-/
import Derived.Test.YtlfljlhppigejabPackTop
import Derived.Test.YtlfljlhppigejabPackPure
import Derived.Test.YtlfljlhppigejabNewFuncs
import Derived.Test.YtlfljlhppigejabCmdRow
import Derived.BigQuiet
import Derived.Deep.QuietTactic
import Derived.ChangeKeysEq
import Derived.Laws.StructEq
import Derived.Test.YtlfljlhppigejabPackMix
import Derived.Test.YtlfljlhppigejabWireRefA
import Derived.RegionTactic
import Derived.Deep.RegionWith
import Derived.BigRegion
import Derived.Test.YtlfljlhppigejabReelAll
import Derived.Test.YtlfljlhppigejabTapeAll
namespace Go.Proofs.Ytlfljlhppigejab

/-- No number is below 0, all fit. -/
def Nn (n : Int) : Prop := 0 ≤ n ∧ n < 9223372036854775808
theorem numI_wr (n : Int) (h : Nn n) (rest : List UInt8) : numI (numB n ++ rest, 0) = (n, (rest, 0)) := by
  obtain ⟨m, rfl⟩ := Int.eq_ofNat_of_zero_le h.1
  have e : numB (m : Int) = numL m := by
    unfold numB
    rw [if_neg (by omega), Int.toNat_natCast]
  have h2 := takeL_num m rest (by have := h.2; omega)
  unfold numI
  rw [e]
  dsimp only
  rw [if_neg (by simp), h2, if_neg (by simp)]
theorem outL_cons (n : Int) (l : List Int) : outL (n :: l) = numB n ++ outL l := by simp [outL]
theorem numsI_wr (ns : List Int) (h : ∀ n ∈ ns, Nn n) (rest : List UInt8) : ∀ k, k ≤ ns.length → numsI (outL ns ++ rest, 0) k = (ns.take k, (outL (ns.drop k) ++ rest, 0)) := by
  intro k
  induction k with
  | zero => intro _; simp [numsI]
  | succ k ih =>
    intro hk
    unfold numsI
    rw [ih (by omega)]
    dsimp only
    rw [List.drop_eq_getElem_cons (by omega), outL_cons, List.append_assoc, numI_wr _ (h _ (List.getElem_mem _)), List.take_succ_eq_append_getElem (by omega)]
theorem numsI_wr' (ns : List Int) (k : Nat) (hk : ns.length = k) (h : ∀ n ∈ ns, Nn n) (rest : List UInt8) : numsI (outL ns ++ rest, 0) k = (ns, (rest, 0)) := by
  have := numsI_wr ns h rest ns.length (Nat.le_refl _)
  rw [List.take_length, List.drop_length] at this
  rw [← hk, this]
  rfl
theorem manyI_wr (n : Nat) (most : Int) (h : (n : Int) ≤ most) (hn : (n : Int) < 9223372036854775808) (rest : List UInt8) : manyI (outL [(n : Int)] ++ rest, 0) most = ((n : Int), (rest, 0)) := by
  have e : outL [(n : Int)] ++ rest = numB (n : Int) ++ rest := by simp [outL]
  unfold manyI
  rw [e, numI_wr _ ⟨by omega, hn⟩]
  dsimp only
  rw [if_neg (by simp), if_neg (by omega)]
theorem unitsI_wr (K : Nat) (mk : List Int → U) (fl : U → List Int) (hK : ∀ u, (fl u).length = K) (us : List U) (h : ∀ u ∈ us, ∀ n ∈ fl u, Nn n) (rest : List UInt8) : ∀ k, k ≤ us.length →
    unitsI K mk (outL (us.flatMap fl) ++ rest, 0) k = ((us.take k).map (fun u => mk (fl u)), (outL ((us.drop k).flatMap fl) ++ rest, 0)) := by
  intro k
  induction k with
  | zero => intro _; simp [unitsI]
  | succ k ih =>
    intro hk
    unfold unitsI
    rw [ih (by omega)]
    dsimp only
    rw [List.drop_eq_getElem_cons (by omega), List.flatMap_cons, outL_append, List.append_assoc, numsI_wr' _ K (hK _) (h _ (List.getElem_mem _)), List.take_succ_eq_append_getElem (by omega), List.map_append]
    rfl
theorem unitsI_wr' (K : Nat) (mk : List Int → U) (fl : U → List Int) (hK : ∀ u, (fl u).length = K) (us : List U) (h : ∀ u ∈ us, ∀ n ∈ fl u, Nn n) (rest : List UInt8) :
    unitsI K mk (outL (us.flatMap fl) ++ rest, 0) us.length = (us.map (fun u => mk (fl u)), (rest, 0)) := by
  have := unitsI_wr K mk fl hK us h rest us.length (Nat.le_refl _)
  rw [List.take_length, List.drop_length] at this
  rw [this]
  rfl
theorem nn_elder {g : G} (h : ∀ n ∈ elderN g, Nn n) : (∀ n ∈ [g.tick, g.g0, g.g1, g.next], Nn n) ∧ (∀ n ∈ g.free, Nn n) ∧ ∀ u ∈ g.us, ∀ n ∈ fieldsE u, Nn n := by
  unfold elderN at h
  refine ⟨fun n hn => h n ?_, fun n hn => h n ?_, fun u hu n hn => h n ?_⟩
  · simp at hn ⊢
    rcases hn with h | h | h | h <;> simp [h]
  · simp [hn]
  · simp only [List.mem_append, List.mem_flatMap]
    exact Or.inr ⟨u, hu, hn⟩
theorem elderI_wr (g : G) (h : ∀ n ∈ elderN g, Nn n) (hf : g.free.length ≤ 200) (hu : g.us.length ≤ 20) (rest : List UInt8) : elderI (outL (elderN g) ++ rest, 0) = (backG false g, (rest, 0)) := by
  obtain ⟨h1, h2, h3⟩ := nn_elder h
  have e : outL (elderN g) ++ rest = outL [g.tick, g.g0, g.g1, g.next] ++ (outL [(g.free.length : Int)] ++ (outL g.free ++ (outL [(g.us.length : Int)] ++ (outL (g.us.flatMap fieldsE) ++ rest)))) := by
    have e0 : elderN g = [g.tick, g.g0, g.g1, g.next] ++ [(g.free.length : Int)] ++ g.free ++ [(g.us.length : Int)] ++ g.us.flatMap fieldsE := rfl
    rw [e0]
    simp only [outL_append, List.append_assoc]
  unfold elderI
  dsimp only
  rw [e, numsI_wr' _ 4 rfl h1]
  dsimp only
  rw [manyI_wr _ 200 (by omega) (by omega)]
  dsimp only
  rw [Int.toNat_natCast, numsI_wr' _ _ rfl h2]
  dsimp only
  rw [manyI_wr _ 20 (by omega) (by omega)]
  dsimp only
  rw [Int.toNat_natCast, unitsI_wr' 10 mkE fieldsE (fun _ => rfl) g.us h3]
  rfl
theorem nn_newer {g : G} (h : ∀ n ∈ newerN g, Nn n) : (∀ n ∈ [g.tick, g.g0, g.g1, g.next], Nn n) ∧ ∀ u ∈ g.us, ∀ n ∈ fieldsN u, Nn n := by
  unfold newerN at h
  refine ⟨fun n hn => h n ?_, fun u hu n hn => h n ?_⟩
  · simp at hn ⊢
    rcases hn with h | h | h | h <;> simp [h]
  · simp only [List.mem_append, List.mem_flatMap]
    exact Or.inr ⟨u, hu, hn⟩
theorem newerI_wr (g : G) (h : ∀ n ∈ newerN g, Nn n) (hu : g.us.length ≤ 20) (rest : List UInt8) : newerI (outL (newerN g) ++ rest, 0) = (backG true g, (rest, 0)) := by
  obtain ⟨h1, h3⟩ := nn_newer h
  have e : outL (newerN g) ++ rest = outL [g.tick, g.g0, g.g1, g.next] ++ (outL [(g.us.length : Int)] ++ (outL (g.us.flatMap fieldsN) ++ rest)) := by
    have e0 : newerN g = [g.tick, g.g0, g.g1, g.next] ++ [(g.us.length : Int)] ++ g.us.flatMap fieldsN := rfl
    rw [e0]
    simp only [outL_append, List.append_assoc]
  unfold newerI
  dsimp only
  rw [e, numsI_wr' _ 4 rfl h1]
  dsimp only
  rw [manyI_wr _ 20 (by omega) (by omega)]
  dsimp only
  rw [Int.toNat_natCast, unitsI_wr' 11 mkN fieldsN (fun _ => rfl) g.us h3]
  rfl
theorem startI_wr (n : Bool) (g : G) (h : ∀ x ∈ startN n g, Nn x) (hf : n = false → g.free.length ≤ 200) (hu : g.us.length ≤ 20) (rest : List UInt8) : startI n (outL (startN n g) ++ rest, 0) = (backG n g, (rest, 0)) := by
  cases n
  · exact elderI_wr g h (hf rfl) hu rest
  · exact newerI_wr g h hu rest
def backC (n : Bool) (c : Cm) : Cm := if n then { c with target := 0 } else c
theorem mk_back (n : Bool) (c : Cm) : mkC (fieldsC n c) = backC n c := by cases n <;> rfl
theorem fieldsC_length (n : Bool) (c : Cm) : (fieldsC n c).length = cmK n := by cases n <;> rfl
theorem cmsI_wr (n : Bool) (l : List Cm) (h : ∀ c ∈ l, ∀ x ∈ fieldsC n c, Nn x) (rest : List UInt8) : ∀ k, k ≤ l.length →
    cmsI n (outL (l.flatMap (fieldsC n)) ++ rest, 0) k = ((l.take k).map (backC n), (outL ((l.drop k).flatMap (fieldsC n)) ++ rest, 0)) := by
  intro k
  induction k with
  | zero => intro _; simp [cmsI]
  | succ k ih =>
    intro hk
    unfold cmsI
    rw [ih (by omega)]
    dsimp only
    rw [List.drop_eq_getElem_cons (by omega), List.flatMap_cons, outL_append, List.append_assoc, numsI_wr' _ (cmK n) (fieldsC_length n _) (h _ (List.getElem_mem _)), List.take_succ_eq_append_getElem (by omega), List.map_append, mk_back]
    rfl
theorem tickI_wr (n : Bool) (l : List Cm) (h : ∀ c ∈ l, ∀ x ∈ fieldsC n c, Nn x) (h8 : l.length ≤ 8) (rest : List UInt8) : tickI n (outL (tickN n l) ++ rest, 0) = (l.map (backC n), (rest, 0)) := by
  have e : outL (tickN n l) ++ rest = outL [(l.length : Int)] ++ (outL (l.flatMap (fieldsC n)) ++ rest) := by
    have e0 : tickN n l = [(l.length : Int)] ++ l.flatMap (fieldsC n) := rfl
    rw [e0, outL_append, List.append_assoc]
  unfold tickI
  rw [e, manyI_wr _ 8 (by omega) (by omega)]
  dsimp only
  rw [Int.toNat_natCast, cmsI_wr n l h rest l.length (Nat.le_refl _), List.take_length, List.drop_length]
  rfl
theorem ticksI_wr (n : Bool) (ts : List (List Cm)) (h : ∀ l ∈ ts, ∀ c ∈ l, ∀ x ∈ fieldsC n c, Nn x) (h8 : ∀ l ∈ ts, l.length ≤ 8) (rest : List UInt8) : ∀ k, k ≤ ts.length →
    ticksI n (outL (ts.flatMap (tickN n)) ++ rest, 0) k = ((ts.take k).map (List.map (backC n)), (outL ((ts.drop k).flatMap (tickN n)) ++ rest, 0)) := by
  intro k
  induction k with
  | zero => intro _; simp [ticksI]
  | succ k ih =>
    intro hk
    unfold ticksI
    rw [ih (by omega)]
    dsimp only
    rw [List.drop_eq_getElem_cons (by omega), List.flatMap_cons, outL_append, List.append_assoc, tickI_wr n _ (h _ (List.getElem_mem _)) (h8 _ (List.getElem_mem _)), List.take_succ_eq_append_getElem (by omega), List.map_append]
    rfl
theorem tapeI_wr (n : Bool) (g : G) (ts : List (List Cm)) (h : ∀ x ∈ startN n g, Nn x) (hf : n = false → g.free.length ≤ 200) (hu : g.us.length ≤ 20) (ht : ts.length ≤ 60) (hc : ∀ l ∈ ts, ∀ c ∈ l, ∀ x ∈ fieldsC n c, Nn x) (h8 : ∀ l ∈ ts, l.length ≤ 8) :
    tapeI n (outL (tapeN n g ts), 0) = (backG n g, ts.map (List.map (backC n)), ([], 0)) := by
  have e : outL (tapeN n g ts) = outL (startN n g) ++ (outL [(ts.length : Int)] ++ (outL (ts.flatMap (tickN n)) ++ [])) := by
    unfold tapeN
    simp only [outL_append, List.append_assoc, List.append_nil]
  unfold tapeI
  rw [e, startI_wr n g h hf hu]
  dsimp only
  rw [manyI_wr _ 60 (by omega) (by omega)]
  dsimp only
  rw [Int.toNat_natCast, ticksI_wr n ts hc h8 [] ts.length (Nat.le_refl _), List.take_length, List.drop_length]
  rfl

/-! ### A state that is right: none of its numbers is below 0 -/
theorem onB_range {x y : Int} (h : onB x y = true) : 0 ≤ x ∧ x < 12 ∧ 0 ≤ y ∧ y < 12 := by
  unfold onB at h
  simp at h
  omega
theorem right_units {g : G} (hg : Right g) {u : U} (hu : u ∈ g.us) : (∀ n ∈ fieldsE u, Nn n) ∧ (g.new = true → Nn u.since) := by
  have h := hg.ok hu
  have ht : topOf g.new ≤ 2000 := by cases g.new <;> decide
  have hh := hg.head
  have h1 := onB_range h.on
  have hgo : 0 ≤ u.gx ∧ u.gx < 12 ∧ 0 ≤ u.gy ∧ u.gy < 12 := by
    by_cases e : u.does = 1
    · exact onB_range (h.going e).1
    · have := h.still e; omega
  have hk : Nn u.kind := by
    have := h.rule
    unfold isRule at this
    refine ⟨?_, ?_⟩
    · by_cases e : u.kind < 0
      · exfalso
        revert this
        cases g.new <;> simp <;> omega
      · omega
    · by_cases e : u.kind < 9223372036854775808
      · exact e
      · exfalso
        revert this
        cases g.new <;> simp <;> omega
  have hp : u.hp ≤ 100 := by
    have := h.hpT
    split at this
    · exact this
    · unfold ruleOf at this
      revert this
      cases g.new <;> (repeat' split) <;> simp <;> intro h <;> omega
  have := h.id1; have := h.idT; have := h.hp1; have := h.does0; have := h.does3; have := h.tgt0; have := h.tgtT; have := h.own0; have := h.own2
  refine ⟨fun n hn => ?_, fun hn => ?_⟩
  · simp [fieldsE] at hn
    rcases hn with rfl | rfl | rfl | rfl | rfl | rfl | rfl | rfl | rfl | rfl
    · exact ⟨by omega, by omega⟩
    · exact ⟨by omega, by omega⟩
    · exact hk
    all_goals exact ⟨by omega, by omega⟩
  · have h2 := h.since hn
    unfold headBad at hh
    exact ⟨by omega, by omega⟩
theorem free_nn {g : G} (hg : Right g) (hn : g.new = false) {x : Int} (hx : x ∈ g.free) : Nn x := by
  have hh := hg.head
  have h1 := hg.free hn
  have h2 := hg.unfree
  have h3 := hg.few
  unfold freeOk at h1
  rw [Bool.and_eq_true, decide_eq_true_eq, List.all_eq_true] at h1
  obtain ⟨h4, h5⟩ := h1
  have hN : 0 ≤ g.next - 1 := by unfold headBad at hh; omega
  -- all numbers 1 to next - 1 are met once, and there are just so many: none is left over
  have h6 : ∀ i, i < (g.next - 1).toNat → (g.free ++ idsOf g.us).count ((i : Int) + 1) = 1 := by
    intro i hi
    have h7 := h4 i (List.mem_range.2 hi)
    rw [decide_eq_true_eq] at h7
    rw [List.count_append, ← h7]
    congr 1
    have hin : (idsOf g.us).count ((i : Int) + 1) ≤ 1 := by
      refine List.nodup_iff_count.1 ?_ _
      exact ids_nodup (byId_iff.1 hg.sorted)
    by_cases ha : g.us.any (fun u => u.id == (i : Int) + 1) = true
    · rw [if_pos ha]
      obtain ⟨u, hu, he⟩ := List.any_eq_true.1 ha
      have : 0 < (idsOf g.us).count ((i : Int) + 1) := List.count_pos_iff.2 (List.mem_map.2 ⟨u, hu, by simpa using he⟩)
      omega
    · rw [if_neg ha]
      refine List.count_eq_zero.2 (fun hm => ha ?_)
      obtain ⟨u, hu, he⟩ := List.mem_map.1 hm
      exact List.any_eq_true.2 ⟨u, hu, by simpa using he⟩
  have h7 := tally_ones (g.free ++ idsOf g.us) (g.next - 1).toNat h6
  have h8 : (g.free ++ idsOf g.us).length = (g.next - 1).toNat := by
    have : (idsOf g.us).length = g.us.length := by simp [idsOf]
    rw [List.length_append, this]
    omega
  by_cases hr : 1 ≤ x ∧ x ≤ ((g.next - 1).toNat : Int)
  · unfold headBad at hh
    exact ⟨by omega, by
      have : topOf g.new ≤ 2000 := by cases g.new <;> decide
      omega⟩
  · exfalso
    have := tally_out (g.free ++ idsOf g.us) (g.next - 1).toNat x (List.mem_append_left _ hx) hr
    omega
theorem right_numbers (n : Bool) {g : G} (hg : Right g) (hn : g.new = n) : ∀ x ∈ startN n g, Nn x := by
  have hh := hg.head
  have h2 := hg.unfree
  have h3 := hg.few
  have ht : topOf g.new ≤ 2000 := by cases g.new <;> decide
  have hr : richOf g.new ≤ 1000 := by cases g.new <;> decide
  have q : Nn g.tick ∧ Nn g.g0 ∧ Nn g.g1 ∧ Nn g.next ∧ Nn (g.free.length : Int) ∧ Nn (g.us.length : Int) := by
    unfold headBad at hh
    refine ⟨⟨?_, ?_⟩, ⟨?_, ?_⟩, ⟨?_, ?_⟩, ⟨?_, ?_⟩, ⟨?_, ?_⟩, ⟨?_, ?_⟩⟩ <;> omega
  obtain ⟨q1, q2, q3, q4, q5, q6⟩ := q
  cases n
  · show ∀ x ∈ elderN g, Nn x
    unfold elderN
    intro x hx
    simp only [List.mem_append, List.mem_flatMap, List.mem_cons, List.not_mem_nil, or_false] at hx
    rcases hx with ((((h | h | h | h | h) | h) | h) | ⟨u, hu, h⟩)
    · rw [h]; exact q1
    · rw [h]; exact q2
    · rw [h]; exact q3
    · rw [h]; exact q4
    · rw [h]; exact q5
    · exact free_nn hg hn h
    · rw [h]; exact q6
    · exact (right_units hg hu).1 x h
  · show ∀ x ∈ newerN g, Nn x
    unfold newerN
    intro x hx
    simp only [List.mem_append, List.mem_flatMap, List.mem_cons, List.not_mem_nil, or_false] at hx
    rcases hx with ((h | h | h | h | h) | ⟨u, hu, h⟩)
    · rw [h]; exact q1
    · rw [h]; exact q2
    · rw [h]; exact q3
    · rw [h]; exact q4
    · rw [h]; exact q6
    · have e : fieldsN u = fieldsE u ++ [u.since] := rfl
      rw [e, List.mem_append, List.mem_singleton] at h
      rcases h with h | h
      · exact (right_units hg hu).1 x h
      · rw [h]; exact (right_units hg hu).2 hn
end Go.Proofs.Ytlfljlhppigejab
namespace Go.Proofs.Ytlfljlhppigejab
open Go.RowKit

theorem eq_int (x : Int) (w : World) : (Op.equalIn 9999 3 (.int .i64 x) (.int .i64 x)).run Try.prog w = .ok true w := by
  rw [show (9999 : Nat) = 9998 + 1 from rfl, run_equalIn_int w 9998 _ .i64 .i64 x x (by kernel_rfl)]
  simp
theorem eq_pair (a b : Int) (w : World) : (Op.equalIn 10000 22 (.agg #[.int .i64 a, .int .i64 b]) (.agg #[.int .i64 a, .int .i64 b])).run Try.prog w = .ok true w := by
  have hi : ∃ i, Try.prog.info? 3 = some i := ⟨(Try.prog.info? 3).get (by kernel_rfl), by kernel_rfl⟩
  obtain ⟨i, hi⟩ := hi
  have hc : Try.prog.cellsOf 3 = 1 := by kernel_rfl
  rw [show (10000 : Nat) = 9999 + 1 from rfl, run_equalIn_array w 9999 _ _ (n := 2) (e := 3) (by kernel_rfl) hi, hc]
  simp only [show List.range 2 = [0, 1] from rfl, Op.eqItems]
  have hp0 : (part 3 #[.int .i64 a, .int .i64 b] (0 * 1)).run Try.prog w = .ok (.int .i64 a) w := by kernel_rfl
  have hp1 : (part 3 #[.int .i64 a, .int .i64 b] (1 * 1)).run Try.prog w = .ok (.int .i64 b) w := by kernel_rfl
  simp [hp0, hp1, eq_int, Result.andThen]
theorem eqFields_same (w : World) (xs : Array Value) (fs : List Field) (h : ∀ f ∈ fs, f.name ≠ "_" ∧ f.type = 3 ∧ ∃ x, (part 3 xs f.offset).run Try.prog w = .ok (.int .i64 x) w) : (Op.eqFields 9999 xs xs fs).run Try.prog w = .ok true w := by
  induction fs with
  | nil => simp [Op.eqFields]
  | cons f fs ih =>
    obtain ⟨h1, h2, x, h3⟩ := h f (by simp)
    have := ih (fun g hg => h g (by simp [hg]))
    simp only [Op.eqFields, h1, ne_eq, not_false_eq_true, if_true, Sem.run_bind, h2, h3, Result.andThen_ok, eq_int, Bool.not_true, Bool.false_eq_true, if_false]
    exact this
theorem eq_unit (u : U) (w : World) : (Op.equalIn 10000 142 (.agg (cellsN u).toArray) (.agg (cellsN u).toArray)).run Try.prog w = .ok true w := by
  rw [show (10000 : Nat) = 9999 + 1 from rfl, run_equalIn_struct w 9999 _ _ _ (by kernel_rfl) (by kernel_rfl)]
  have hf : ∀ f ∈ (Try.prog.fieldsOf 142).toList, f.name ≠ "_" ∧ f.type = 3 ∧ f.offset < 11 := of_decide_eq_true (by kernel_rfl)
  refine eqFields_same w _ _ (fun f hf' => ?_)
  obtain ⟨h1, h2, h3⟩ := hf f hf'
  refine ⟨h1, h2, ?_⟩
  have : f.offset = 0 ∨ f.offset = 1 ∨ f.offset = 2 ∨ f.offset = 3 ∨ f.offset = 4 ∨ f.offset = 5 ∨ f.offset = 6 ∨ f.offset = 7 ∨ f.offset = 8 ∨ f.offset = 9 ∨ f.offset = 10 := by omega
  rcases this with h | h | h | h | h | h | h | h | h | h | h <;> rw [h]
  · exact ⟨u.id, by kernel_rfl⟩
  · exact ⟨u.owner, by kernel_rfl⟩
  · exact ⟨u.kind, by kernel_rfl⟩
  · exact ⟨u.x, by kernel_rfl⟩
  · exact ⟨u.y, by kernel_rfl⟩
  · exact ⟨u.hp, by kernel_rfl⟩
  · exact ⟨u.does, by kernel_rfl⟩
  · exact ⟨u.gx, by kernel_rfl⟩
  · exact ⟨u.gy, by kernel_rfl⟩
  · exact ⟨u.target, by kernel_rfl⟩
  · exact ⟨u.since, by kernel_rfl⟩
theorem eq_ent (u : U) (w : World) : (Op.equalIn 10000 83 (.agg (cellsE u).toArray) (.agg (cellsE u).toArray)).run Try.prog w = .ok true w := by
  rw [show (10000 : Nat) = 9999 + 1 from rfl, run_equalIn_struct w 9999 _ _ _ (by kernel_rfl) (by kernel_rfl)]
  have hf : ∀ f ∈ (Try.prog.fieldsOf 83).toList, f.name ≠ "_" ∧ f.type = 3 ∧ f.offset < 10 := of_decide_eq_true (by kernel_rfl)
  refine eqFields_same w _ _ (fun f hf' => ?_)
  obtain ⟨h1, h2, h3⟩ := hf f hf'
  refine ⟨h1, h2, ?_⟩
  have : f.offset = 0 ∨ f.offset = 1 ∨ f.offset = 2 ∨ f.offset = 3 ∨ f.offset = 4 ∨ f.offset = 5 ∨ f.offset = 6 ∨ f.offset = 7 ∨ f.offset = 8 ∨ f.offset = 9 := by omega
  rcases this with h | h | h | h | h | h | h | h | h | h <;> rw [h]
  · exact ⟨u.id, by kernel_rfl⟩
  · exact ⟨u.owner, by kernel_rfl⟩
  · exact ⟨u.kind, by kernel_rfl⟩
  · exact ⟨u.x, by kernel_rfl⟩
  · exact ⟨u.y, by kernel_rfl⟩
  · exact ⟨u.hp, by kernel_rfl⟩
  · exact ⟨u.does, by kernel_rfl⟩
  · exact ⟨u.gx, by kernel_rfl⟩
  · exact ⟨u.gy, by kernel_rfl⟩
  · exact ⟨u.target, by kernel_rfl⟩
set_option maxHeartbeats 1600000 in
set_option maxRecDepth 100000 in
theorem samenums_any (l : List Int) (a b : Option Addr) (ca cb : Nat) (hl : l.length ≤ 100000) (w : World) (ha : Row w.heap.size w a l.length (fun k => .int .i64 (l.getD k 0))) (hb : Row w.heap.size w b l.length (fun k => .int .i64 (l.getD k 0))) :
    Calls Try.prog 81 #[.slice a l.length ca, .slice b l.length cb] w fun e w' => e = .returned (.bool true) ∧ Below w.heap.size w w' := by
  have HA := Lib.hid ha
  have HB := Lib.hid hb
  have hn0 : (0 : Int) ≤ (l.length : Int) := by omega
  clear ha hb
  go_enter Try.func81, Try.ntmps81
  go_wp2_with fail
  go_loopw [5] (fun i wr => ∃ k : Nat, i = .int .i64 k ∧ k ≤ l.length ∧ Below w.heap.size w wr) (fun i _ => (l.length - intOf i).toNat)
  case atStart => exact ⟨0, rfl, by omega, Below.refl _ _⟩
  case round =>
    obtain ⟨k, rfl, hk, hX⟩ := hrel
    have HX := Lib.hid hX
    by_cases hlt : k < l.length
    · obtain ⟨b1, o1, rfl, hb1, x1⟩ := (HA.out.below hX) k hlt
      obtain ⟨b2, o2, rfl, hb2, x2⟩ := (HB.out.below hX) k hlt
      dsimp only at x1 x2
      obtain ⟨x, hx⟩ : ∃ x, l.getD k 0 = x := ⟨_, rfl⟩
      rw [hx] at x1 x2
      have hki : (0 : Int) ≤ (k : Int) := by omega
      have hkl : (k : Int) < (l.length : Int) := by omega
      have hsz := hX.size
      have l1 : b1 < wr.heap.size := by omega
      have l2 : b2 < wr.heap.size := by omega
      have d : (x != x) = false := by simp
      clear hx hX
      go_wp2_with fail
      go_quiet (fail)
      go_wp2_with fail
      go_roundw
      case rel => exact ⟨k + 1, by go_num, by omega, below_drewN HX.out _⟩
      case measure => simp [intOf]; omega
    · obtain rfl : k = l.length := by omega
      go_wp2_with fail
      go_ret
      exact ⟨rfl, HX.out⟩

set_option maxHeartbeats 3200000 in
set_option maxRecDepth 100000 in
theorem samenewer_any (t g0 g1 nx : Int) (us : List U) (a b : Option Addr) (ca cb : Nat) (hl : us.length ≤ 100000) (w : World) (ha : URow true w.heap.size w a us) (hb : URow true w.heap.size w b us) :
    Calls Try.prog 69 #[.agg #[.int .i64 t, .int .i64 g0, .int .i64 g1, .int .i64 nx, .slice a us.length ca], .agg #[.int .i64 t, .int .i64 g0, .int .i64 g1, .int .i64 nx, .slice b us.length cb]] w fun e w' => e = .returned (.bool true) ∧ Below w.heap.size w w' := by
  obtain ⟨W, hW⟩ : ∃ W, (w.alloc (.cells #[.int .i64 t, .int .i64 g0, .int .i64 g1, .int .i64 nx, .slice a us.length ca] 32)).alloc (.cells #[.int .i64 t, .int .i64 g0, .int .i64 g1, .int .i64 nx, .slice b us.length cb] 32) = W := ⟨_, rfl⟩
  have hbW : Below w.heap.size w W := by rw [← hW]; exact ((Below.refl _ _).alloc (Nat.le_refl _) _).alloc (by simp) _
  have k1 : Blk W w.heap.size #[.int .i64 t, .int .i64 g0, .int .i64 g1, .int .i64 nx, .slice a us.length ca] := by rw [← hW]; exact (Blk.new w _ _).alloc _
  have k2 : Blk W (w.heap.size + 1) #[.int .i64 t, .int .i64 g0, .int .i64 g1, .int .i64 nx, .slice b us.length cb] := by
    rw [← hW]
    have := Blk.new (w.alloc (.cells #[.int .i64 t, .int .i64 g0, .int .i64 g1, .int .i64 nx, .slice a us.length ca] 32)) #[.int .i64 t, .int .i64 g0, .int .i64 g1, .int .i64 nx, .slice b us.length cb] 32
    simpa using this
  obtain ⟨l1, c1, -⟩ := id k1
  obtain ⟨l2, c2, -⟩ := id k2
  have hsW := hbW.size
  have HA := Lib.hid (ha.below hbW)
  have HB := Lib.hid (hb.below hbW)
  have K1 := Lib.hid k1
  have K2 := Lib.hid k2
  have HBW := Lib.hid hbW
  have hn0 : (0 : Int) ≤ (us.length : Int) := by omega
  have heq := eq_pair g0 g1
  clear ha hb hbW k1 k2
  go_enter Try.func69, Try.ntmps69
  go_upto_region 1 with fail
  try rw [hW]
  clear hW
  go_wp2_with fail
  have HB1 : Hid (Below W.heap.size W W) := Lib.hid (Below.refl _ _)
  go_loopw [5] (fun i wr => ∃ k : Nat, i = .int .i64 k ∧ k ≤ us.length ∧ Below W.heap.size W wr) (fun i _ => (us.length - intOf i).toNat)
  case atStart => exact ⟨0, rfl, by omega, HB1.out⟩
  case round =>
    obtain ⟨k, rfl, hk, hX⟩ := hrel
    have HX := Lib.hid hX
    have hsz := hX.size
    obtain ⟨l5, c5, -⟩ := id (K1.out.call hX)
    obtain ⟨l6, c6, -⟩ := id (K2.out.call hX)
    by_cases hlt : k < us.length
    · obtain ⟨u, hu⟩ : ∃ u, us.getD k zeroU = u := ⟨_, rfl⟩
      obtain ⟨b1, o1, rfl, hb1, q0, q1, q2, q3, q4, q5, q6, q7, q8, q9, q10⟩ := (HA.out.below (hX.mono hsW)).getN k hlt u hu
      obtain ⟨b2, o2, rfl, hb2, p0, p1, p2, p3, p4, p5, p6, p7, p8, p9, p10⟩ := (HB.out.below (hX.mono hsW)).getN k hlt u hu
      have hki : (0 : Int) ≤ (k : Int) := by omega
      have hkl : (k : Int) < (us.length : Int) := by omega
      have l7 : b1 < wr.heap.size := by omega
      have l8 : b2 < wr.heap.size := by omega
      have heu : ∀ W : World, (Op.equalIn 10000 142 (.agg #[.int .i64 u.id, .int .i64 u.owner, .int .i64 u.kind, .int .i64 u.x, .int .i64 u.y, .int .i64 u.hp, .int .i64 u.does, .int .i64 u.gx, .int .i64 u.gy, .int .i64 u.target, .int .i64 u.since]) (.agg #[.int .i64 u.id, .int .i64 u.owner, .int .i64 u.kind, .int .i64 u.x, .int .i64 u.y, .int .i64 u.hp, .int .i64 u.does, .int .i64 u.gx, .int .i64 u.gy, .int .i64 u.target, .int .i64 u.since])).run Try.prog W = .ok true W := eq_unit u
      clear hu hX
      go_wp2_with fail
      go_quiet (fail)
      go_wp2_with fail
      go_roundw
      case rel => exact ⟨k + 1, by go_num, by omega, below_drewN HX.out _⟩
      case measure => simp [intOf]; omega
    · obtain rfl : k = us.length := by omega
      have HBE : Hid (Below w.heap.size w wr) := Lib.hid (HBW.out.trans (hX.mono hsW))
      clear hX
      go_wp2_with fail
      go_ret
      exact ⟨rfl, HBE.out⟩

set_option maxHeartbeats 3200000 in
set_option maxRecDepth 100000 in
theorem sameelder_any (t g0 g1 nx : Int) (us : List U) (a b : Option Addr) (ca cb : Nat) (hl : us.length ≤ 100000) (fr : List Int) (fa fb : Option Addr) (cfa cfb : Nat) (hfl : fr.length ≤ 100000) (w : World) (ha : URow false w.heap.size w a us) (hb : URow false w.heap.size w b us) (hfa : Row w.heap.size w fa fr.length (fun k => .int .i64 (fr.getD k 0))) (hfb : Row w.heap.size w fb fr.length (fun k => .int .i64 (fr.getD k 0))) :
    Calls Try.prog 40 #[.agg #[.int .i64 t, .int .i64 g0, .int .i64 g1, .int .i64 nx, .slice fa fr.length cfa, .slice a us.length ca], .agg #[.int .i64 t, .int .i64 g0, .int .i64 g1, .int .i64 nx, .slice fb fr.length cfb, .slice b us.length cb]] w fun e w' => e = .returned (.bool true) ∧ Below w.heap.size w w' := by
  obtain ⟨W, hW⟩ : ∃ W, (w.alloc (.cells #[.int .i64 t, .int .i64 g0, .int .i64 g1, .int .i64 nx, .slice fa fr.length cfa, .slice a us.length ca] 26)).alloc (.cells #[.int .i64 t, .int .i64 g0, .int .i64 g1, .int .i64 nx, .slice fb fr.length cfb, .slice b us.length cb] 26) = W := ⟨_, rfl⟩
  have hbW : Below w.heap.size w W := by rw [← hW]; exact ((Below.refl _ _).alloc (Nat.le_refl _) _).alloc (by simp) _
  have k1 : Blk W w.heap.size #[.int .i64 t, .int .i64 g0, .int .i64 g1, .int .i64 nx, .slice fa fr.length cfa, .slice a us.length ca] := by rw [← hW]; exact (Blk.new w _ _).alloc _
  have k2 : Blk W (w.heap.size + 1) #[.int .i64 t, .int .i64 g0, .int .i64 g1, .int .i64 nx, .slice fb fr.length cfb, .slice b us.length cb] := by
    rw [← hW]
    have := Blk.new (w.alloc (.cells #[.int .i64 t, .int .i64 g0, .int .i64 g1, .int .i64 nx, .slice fa fr.length cfa, .slice a us.length ca] 26)) #[.int .i64 t, .int .i64 g0, .int .i64 g1, .int .i64 nx, .slice fb fr.length cfb, .slice b us.length cb] 26
    simpa using this
  obtain ⟨l1, c1, -⟩ := id k1
  obtain ⟨l2, c2, -⟩ := id k2
  have hsW := hbW.size
  have HA := Lib.hid (ha.below hbW)
  have HB := Lib.hid (hb.below hbW)
  have HFA := Lib.hid ((hfa.below hbW).mono hsW)
  have HFB := Lib.hid ((hfb.below hbW).mono hsW)
  clear hfa hfb
  have K1 := Lib.hid k1
  have K2 := Lib.hid k2
  have HBW := Lib.hid hbW
  have hn0 : (0 : Int) ≤ (us.length : Int) := by omega
  have heq := eq_pair g0 g1
  clear ha hb hbW k1 k2
  go_enter Try.func40, Try.ntmps40
  go_upto_region 1 with fail
  try rw [hW]
  clear hW
  go_wp2_with fail
  refine (samenums_any fr fa fb cfa cfb hfl W HFA.out HFB.out).mono ?_
  rintro e w1 ⟨rfl, b1⟩
  have HB1 := Lib.hid b1
  obtain ⟨l3, c3, -⟩ := id (K1.out.call b1)
  obtain ⟨l4, c4, -⟩ := id (K2.out.call b1)
  clear b1
  go_wp2_with fail
  go_loopw [5] (fun i wr => ∃ k : Nat, i = .int .i64 k ∧ k ≤ us.length ∧ Below W.heap.size W wr) (fun i _ => (us.length - intOf i).toNat)
  case atStart => exact ⟨0, rfl, by omega, HB1.out⟩
  case round =>
    obtain ⟨k, rfl, hk, hX⟩ := hrel
    have HX := Lib.hid hX
    have hsz := hX.size
    obtain ⟨l5, c5, -⟩ := id (K1.out.call hX)
    obtain ⟨l6, c6, -⟩ := id (K2.out.call hX)
    by_cases hlt : k < us.length
    · obtain ⟨u, hu⟩ : ∃ u, us.getD k zeroU = u := ⟨_, rfl⟩
      obtain ⟨b1, o1, rfl, hb1, q0, q1, q2, q3, q4, q5, q6, q7, q8, q9⟩ := (HA.out.below (hX.mono hsW)).getE k hlt u hu
      obtain ⟨b2, o2, rfl, hb2, p0, p1, p2, p3, p4, p5, p6, p7, p8, p9⟩ := (HB.out.below (hX.mono hsW)).getE k hlt u hu
      have hki : (0 : Int) ≤ (k : Int) := by omega
      have hkl : (k : Int) < (us.length : Int) := by omega
      have l7 : b1 < wr.heap.size := by omega
      have l8 : b2 < wr.heap.size := by omega
      have heu : ∀ W : World, (Op.equalIn 10000 83 (.agg #[.int .i64 u.id, .int .i64 u.owner, .int .i64 u.kind, .int .i64 u.x, .int .i64 u.y, .int .i64 u.hp, .int .i64 u.does, .int .i64 u.gx, .int .i64 u.gy, .int .i64 u.target]) (.agg #[.int .i64 u.id, .int .i64 u.owner, .int .i64 u.kind, .int .i64 u.x, .int .i64 u.y, .int .i64 u.hp, .int .i64 u.does, .int .i64 u.gx, .int .i64 u.gy, .int .i64 u.target])).run Try.prog W = .ok true W := eq_ent u
      clear hu hX
      go_wp2_with fail
      go_quiet (fail)
      go_wp2_with fail
      go_roundw
      case rel => exact ⟨k + 1, by go_num, by omega, below_drewN HX.out _⟩
      case measure => simp [intOf]; omega
    · obtain rfl : k = us.length := by omega
      have HBE : Hid (Below w.heap.size w wr) := Lib.hid (HBW.out.trans (hX.mono hsW))
      clear hX
      go_wp2_with fail
      go_ret
      exact ⟨rfl, HBE.out⟩
end Go.Proofs.Ytlfljlhppigejab
namespace Go.Proofs.Ytlfljlhppigejab
open Go.RowKit

inductive Plan where
  | done
  | read (j : Nat) (p : Plan)
  | write (j : Nat) (p : Plan)
  | fork (i : Nat) (p : Plan) (j : Nat) (q : Plan)
def Plan.len : Plan → Nat
  | .done => 0
  | .read _ p => p.len + 1
  | .write _ p => p.len + 1
  | .fork _ p _ _ => p.len + 1
def planB (ops : Array Oper) (n g : Nat) : Plan → Array Bool → Bool
  | .done, d => Region.seqB .any ops g n d
  | .read j p, d => decide (j < n) && (Region.ready .any ops d).contains j && Region.free .any ops d j && planB ops n g p (d.setIfInBounds j true)
  | .write j p, d => decide (j < n) && (Region.ready .any ops d == [j]) && planB ops n g p (d.setIfInBounds j true)
  | .fork i p j q, d => decide (i < n) && decide (j < n) && (Region.ready .any ops d == [i, j]) && decide (p.len = q.len) && planB ops n g p (d.setIfInBounds i true) && planB ops n g q (d.setIfInBounds j true)

section
variable {P : Program} {ops : Array Oper} {I : World → Prop}
/-- One step of the plan. -/
def stepP (P : Program) (ops : Array Oper) {I : World → Prop} (b : Bool) (j : Nat) (L : Act → Cli I → Prop) (a : Act) (C : Cli I) : Prop :=
  match ops[j]? with
  | some o => wpMix P ops L [(b, o)] a C
  | none => False
def wpPlan (P : Program) (ops : Array Oper) {I : World → Prop} (L : Act → Cli I → Prop) : Plan → Act → Cli I → Prop
  | .done, a, C => L a C
  | .read j p, a, C => stepP P ops false j (wpPlan P ops L p) a C
  | .write j p, a, C => stepP P ops true j (wpPlan P ops L p) a C
  | .fork i p j q, a, C => stepP P ops true i (wpPlan P ops L p) a C ∧ stepP P ops true j (wpPlan P ops L q) a C

theorem M_plan {n g : Nat} {L : Act → Cli I → Prop} (hsel : Region.noSelect ops = true) (hs : Region.sinkB .any ops n = true) (hc : Region.chainB .any ops n = true) (hn : n < ops.size) (s : Plan) :
    ∀ (d : Array Bool) (a : Act) (C : Cli I), HeadInv .any ops n d → planB ops n g s d = true → wpPlan P ops L s a C →
      wpM P ops n (fun d' a' C' => Region.seqB .any ops g n d' = true ∧ L a' C') s.len d a C := by
  induction s with
  | done => intro d a C _ hB h; exact ⟨hB, h⟩
  | read j s ih =>
    intro d a C inv hB h
    simp only [planB, Bool.and_eq_true, decide_eq_true_eq] at hB
    obtain ⟨⟨⟨hjn, hr⟩, hf⟩, hB'⟩ := hB
    have hr' : j ∈ Region.ready .any ops d := by simpa using hr
    obtain ⟨o, h0⟩ : ∃ o, ops[j]? = some o := ⟨_, Array.getElem?_eq_getElem (by omega)⟩
    unfold wpPlan stepP at h
    rw [h0] at h
    dsimp only at h
    unfold wpMix at h
    by_cases hw : Region.wanted o (yielded ops a.tmps) = true
    · rw [if_pos hw] at h
      obtain ⟨v, h1, h2⟩ := h
      exact M_first h0 hsel hs hc hn hjn (fun d' a' C' hL => seqB_ready hL.1) s.len d a C inv (Region.free_spec h0 hf) hr' (Or.inl ⟨hw, h1⟩) (ih _ _ _ (inv.set hr' hjn) hB' h2)
    · rw [if_neg hw] at h
      exact M_first h0 hsel hs hc hn hjn (fun d' a' C' hL => seqB_ready hL.1) s.len d a C inv (Region.free_spec h0 hf) hr' (Or.inr ⟨by simpa using hw, rfl⟩) (ih _ _ _ (inv.set hr' hjn) hB' h)
  | write j s ih =>
    intro d a C inv hB h
    simp only [planB, Bool.and_eq_true, decide_eq_true_eq, beq_iff_eq] at hB
    obtain ⟨⟨hjn, hr⟩, hB'⟩ := hB
    obtain ⟨o, h0⟩ : ∃ o, ops[j]? = some o := ⟨_, Array.getElem?_eq_getElem (by omega)⟩
    unfold wpPlan stepP at h
    rw [h0] at h
    dsimp only at h
    unfold wpMix at h
    obtain ⟨hw, ι, val, D, h3, h4⟩ := h
    have hr' : j ∈ Region.ready .any ops d := by rw [hr]; simp
    refine ⟨fun e => (by rw [hr] at e; cases e), fun i hi => ?_⟩
    rw [hr] at hi
    obtain rfl : i = j := by simpa using hi
    exact ⟨hjn, Or.inr ⟨o, h0, hw, ι, val, D, h3, fun k => ih _ _ _ (inv.set hr' hjn) hB' (h4 k)⟩⟩
  | fork i p j q ihp ihq =>
    intro d a C inv hB h
    simp only [planB, Bool.and_eq_true, decide_eq_true_eq, beq_iff_eq] at hB
    obtain ⟨⟨⟨⟨⟨hin, hjn⟩, hr⟩, hlen⟩, hBp⟩, hBq⟩ := hB
    obtain ⟨oi, hi0⟩ : ∃ o, ops[i]? = some o := ⟨_, Array.getElem?_eq_getElem (by omega)⟩
    obtain ⟨oj, hj0⟩ : ∃ o, ops[j]? = some o := ⟨_, Array.getElem?_eq_getElem (by omega)⟩
    unfold wpPlan stepP at h
    rw [hi0, hj0] at h
    dsimp only at h
    obtain ⟨h1, h2⟩ := h
    unfold wpMix at h1 h2
    obtain ⟨hw1, ι1, val1, D1, e1, k1⟩ := h1
    obtain ⟨hw2, ι2, val2, D2, e2, k2⟩ := h2
    have hri : i ∈ Region.ready .any ops d := by rw [hr]; simp
    have hrj : j ∈ Region.ready .any ops d := by rw [hr]; simp
    refine ⟨fun e => (by rw [hr] at e; cases e), fun k hk => ?_⟩
    rw [hr] at hk
    have hk2 : k = i ∨ k = j := by simpa using hk
    by_cases hki : k = i
    · subst hki
      exact ⟨hin, Or.inr ⟨oi, hi0, hw1, ι1, val1, D1, e1, fun x => ihp _ _ _ (inv.set hri hin) hBp (k1 x)⟩⟩
    · obtain rfl : k = j := by rcases hk2 with h | h; exact absurd h hki; exact h
      exact ⟨hjn, Or.inr ⟨oj, hj0, hw2, ι2, val2, D2, e2, fun x => (by
        have := ihq _ _ _ (inv.set hrj hjn) hBq (k2 x)
        rw [hlen]
        exact this)⟩⟩

/-- **The region.** n: where the forced tail begins; s: the plan of what comes ahead of it. -/
theorem region_plan {id : Nat} {Q : Exit → Act → World → Prop} {a : Act} {w : World} {l : List Oper} (n : Nat) (s : Plan) (C0 : Cli I) (h0 : C0.C w.drew) (hm : P.follows .mixedOrders = true)
    (hB : (Region.noSelect l.toArray && decide (n < l.length) && Region.sinkB .any l.toArray n && Region.chainB .any l.toArray n && decide (s.len = n) && planB l.toArray n (l.length - n) s (Array.replicate l.length false)) = true)
    (h : wpPlan P l.toArray (fun a' C' => ∀ w', C'.C w' → wpList P l.toArray Q (l.drop n) a' w') s a C0) : (Code.region id l.toArray true).wp P Q a w := by
  simp only [Bool.and_eq_true, decide_eq_true_eq] at hB
  obtain ⟨⟨⟨⟨⟨hsel, hn⟩, hs⟩, hc⟩, hsl⟩, hmix⟩ := hB
  have hn' : n < l.toArray.size := by simpa using hn
  have inv0 : HeadInv .any l.toArray n (Array.replicate l.length false) :=
    ⟨by simp, fun j oj _ hl => (by rw [getD_replicate_false] at hl; cases hl), fun t _ ht => getD_in (by simpa using ht) (getD_replicate_false _ _)⟩
  have H := M_plan (P := P) (g := l.length - n) hsel hs hc hn' s _ a C0 inv0 hmix h
  refine wp_region_any hm ?_
  have hdl : (l.drop n).length = l.length - n := by simp
  have := any_of_M (Q := Q) (g := l.length - n) (fun d a' C' w' hw hL => by
    have := wpAny_of_seq (md := .any) (Q' := Q) (l.drop n) n d a' w' (fun j => by simp [List.getElem?_drop]) (by rw [hdl]; exact hL.1) (hL.2 _ hw)
    rwa [hdl] at this) _ _ _ _ { w with drawn := w.drawn + 1 } h0 H
  rw [hsl, show n + (l.length - n) = l.length by omega] at this
  simpa using this
end
theorem plan_read {I : World → Prop} {P : Program} {l : List Oper} {L : Act → Cli I → Prop} {a : Act} {C : Cli I} {j : Nat} {p : Plan} {o : Oper} (h0 : l[j]? = some o) (h : wpMix P l.toArray (wpPlan P l.toArray L p) [(false, o)] a C) : wpPlan P l.toArray L (.read j p) a C := by
  unfold wpPlan stepP
  rw [List.getElem?_toArray, h0]
  exact h
theorem plan_done {I : World → Prop} {P : Program} {ops : Array Oper} {L : Act → Cli I → Prop} {a : Act} {C : Cli I} (h : L a C) : wpPlan P ops L .done a C := h
theorem plan_write {I : World → Prop} {P : Program} {l : List Oper} {L : Act → Cli I → Prop} {a : Act} {C : Cli I} {j : Nat} {p : Plan} {o : Oper} (h0 : l[j]? = some o) (h : wpMix P l.toArray (wpPlan P l.toArray L p) [(true, o)] a C) : wpPlan P l.toArray L (.write j p) a C := by
  unfold wpPlan stepP
  rw [List.getElem?_toArray, h0]
  exact h
theorem plan_fork {I : World → Prop} {P : Program} {l : List Oper} {L : Act → Cli I → Prop} {a : Act} {C : Cli I} {i j : Nat} {p q : Plan} (h1 : wpPlan P l.toArray L (.write i p) a C) (h2 : wpPlan P l.toArray L (.write j q) a C) : wpPlan P l.toArray L (.fork i p j q) a C := by
  unfold wpPlan at h1 h2 ⊢
  exact ⟨h1, h2⟩
/-- A new block; what is known then, in a form given. -/
theorem mix_slice {P : Program} {ops : Array Oper} {X : Nat → Prop} {v : World} {L : Act → Cli (InK X v) → Prop} {a : Act} {R : World → Prop} {hcl : ∀ w w', R w → Below w.heap.size w w' → R w'} {o : Oper} {r : List (Bool × Oper)} (val : Nat → Value) (z : Array Value) (T : TypeId) (hw : Region.wanted o (yielded ops a.tmps) = true)
    (hrun : ∀ w, (execOp a.eval o).run P w = .ok (.value (val w.heap.size)) (w.alloc (.cells z T))) (R' : Nat → World → Prop) (hcl' : ∀ p w w', R' p w → Below w.heap.size w w' → R' p w') (hR : ∀ w p, R w → v.heap.size ≤ p → Blk w p z → R' p w)
    (hk : ∀ p, wpMix P ops L r (a.put o.dst (val p)) (kcl X v (R' p) (hcl' p))) :
    wpMix P ops L ((true, o) :: r) a (kcl X v R hcl) := by
  refine mix_write val _ hw (fun w h => ⟨w.heap.size, _, Or.inl (hrun w), ?_⟩) hk
  have hb : Below w.heap.size w (w.alloc (.cells z T)) := (Below.refl _ _).alloc (Nat.le_refl _) _
  exact ⟨h.1.then_ hb, hR _ _ (hcl _ _ h.2 hb) h.1.size (Blk.new w z T)⟩
/-- A block's cells as a row. -/
theorem row_blk {w : World} {p : Nat} {z : Array Value} (h : Blk w p z) (f : Nat → Value) (hf : ∀ k, k < z.size → z[k]? = some (f k)) : Row w.heap.size w (some ⟨p, 0, none⟩) z.size f :=
  fun k hk => ⟨p, 0, rfl, h.lt, by
    rw [← hf k hk, Nat.zero_add]
    exact h.2.1 k⟩
/-- append of one more, onto a row that was made in the region (or may turn). -/
theorem mix_grow {P : Program} {ops : Array Oper} {X : Nat → Prop} {v : World} {L : Act → Cli (InK X v) → Prop} {a : Act} {R : World → Prop} {hcl : ∀ w w', R w → Below w.heap.size w w' → R w'} {o : Oper} {r : List (Bool × Oper)} (p : Nat) (z : Array Value) (s y : Operand) (t : TypeId)
    (ho : o.op = .call { callee := .builtin .append, args := #[s, y], argTypes := #[t, t] }) (hg : o.guard = none) (e : TypeId) (i : TypeInfo) (zv : Value) (size bytes : Nat) (ht : P.underlying t = some (.slice e)) (hi : P.info? e = some i) (hz : i.zero = some zv)
    (hsize : i.size = size) (hby : i.bytes = bytes) (hzs : zv.cells.size = size) (hsz : 0 < size) (u : Value) (n : Nat) (xs : List Value) (hs : a.eval s = u) (hx : a.eval y = .slice (some ⟨p, 0, none⟩) 1 1)
    (hzl : z.size = size) (h1 : ∀ q ∈ z.toList, q.oneCell' = true) (h63 : n + 1 ≤ maxLen) (hbytes : (n + 1) * bytes ≤ 140737488355328)
    (hR : ∀ w, R w → w.ownsRow v.heap.size e size u n xs ∧ Blk w p z)
    (hk : ∀ g cap, n + 1 ≤ cap → wpMix P ops L r (a.put o.dst (.slice (some ⟨g, 0, none⟩) (n + 1) cap)) (kcl X v (fun w => w.ownsRow v.heap.size e size (.slice (some ⟨g, 0, none⟩) (n + 1) cap) (n + 1) (xs ++ z.toList))
      (fun w w' h hb => own_kp h (kp_of hb (fun _ => False)) (fun _ _ x => x)))) :
    wpMix P ops L ((true, o) :: r) a (kcl X v R hcl) := by
  refine mix_write (ι := {q : Nat × Nat // n + 1 ≤ q.2}) (fun q => .slice (some ⟨q.1.1, 0, none⟩) (n + 1) q.1.2) _ (by simp [Region.wanted, hg]) (fun w h => ?_) (fun q => hk q.1.1 q.1.2 q.2)
  obtain ⟨hown, hb⟩ := hR w h.2
  obtain ⟨g, cap, w', hr, h2, h3, h4, h5⟩ := run_append_lies (P := P) w t o.type v.heap.size e i zv size bytes ht hi hz hsize hby hzs hsz u n xs hown ⟨p, 0, none⟩ 1 1 z.toList (by simp [hzl]) (fun j q hj => by
    rw [addr_add, Nat.zero_add, hb.cell]
    simpa using hj) h1 (by omega) h63 hbytes h.1.size w.heap.size rfl
  have hcap : n + 1 ≤ cap := by
    rcases h2.2 with ⟨c1, c2⟩ | ⟨g', cap', cur, c1, -, -, c4, c5, -⟩
    · cases c1
    · cases c1
      exact c4
  refine ⟨⟨(g, cap), hcap⟩, w', Or.inl ?_, ?_, h2⟩
  · unfold execOp
    simp only [ho, resolve, invoke, builtin, Sem.run_bind, Sem.run_pure, Result.andThen_ok, List.map_toArray, List.map_cons, List.map_nil, hs, hx, hr]
  · refine ⟨h3.os.trans h.1.os, h3.tape.trans h.1.tape, h3.output.trans h.1.output, Nat.le_trans h.1.size h3.size, fun k hk hX => ?_⟩
    rw [h3.block k (Nat.lt_of_lt_of_le hk h.1.size) (fun e => by
      have := (World.ownsRow.lt hown k e.symm).1
      omega)]
    exact h.1.block k hk hX
end Go.Proofs.Ytlfljlhppigejab
namespace Go.Proofs.Ytlfljlhppigejab
open Go.RowKit
attribute [local go_sem] qUp qOneK

theorem bstr_append (a b : List UInt8) : bstr a ++ bstr b = bstr (a ++ b) := by
  apply ByteArray.ext
  apply Array.ext'
  have h1 := list_append (bstr a) (bstr b)
  rw [bstr_list, bstr_list] at h1
  rw [h1, bstr_list]

set_option maxHeartbeats 3200000 in
set_option maxRecDepth 100000 in
theorem nums_ref (ls : List Int) (la : Option Addr) (cl : Nat) (hn : ∀ n ∈ ls, Nn n) (hl : ls.length ≤ 50000) (w : World) (hr : Row w.heap.size w la ls.length (fun k => .int .i64 (ls.getD k 0))) :
    Calls Try.prog 63 #[.slice la ls.length cl] w fun e w' => e = .returned (.string (bstr (outL ls))) ∧ Below w.heap.size w w' := by
  have HR := Lib.hid hr
  have HN := Lib.hid hn
  have hl0 : (0 : Int) ≤ (ls.length : Int) := by omega
  clear hr hn
  go_enter Try.func63, Try.ntmps63
  go_wp2_with fail
  go_loopw [3, 4] (fun s i wr => ∃ k : Nat, i = .int .i64 k ∧ k ≤ ls.length ∧ s = .string (bstr (outL (ls.take k))) ∧ Below w.heap.size w wr) (fun _ i _ => (ls.length - intOf i).toNat)
  case atStart => exact ⟨0, rfl, by omega, rfl, Below.refl _ _⟩
  case round =>
    obtain ⟨k, rfl, hk, rfl, hX⟩ := hrel
    have HX := Lib.hid hX
    have hsz := hX.size
    by_cases hlt : k < ls.length
    · obtain ⟨n, hn⟩ : ∃ n, ls.getD k 0 = n := ⟨_, rfl⟩
      obtain ⟨b, o, rfl, hb, x⟩ := (HR.out.below hX) k hlt
      dsimp only at x
      rw [hn] at x
      have hki : (0 : Int) ≤ (k : Int) := by omega
      have hkl : (k : Int) < (ls.length : Int) := by omega
      have hbl : b < wr.heap.size := by omega
      have hnn : Nn n := HN.out n (by rw [← hn]; simp [List.getD, hlt])
      have hnx := takeI_snoc hlt n hn
      obtain ⟨m, rfl⟩ := Int.eq_ofNat_of_zero_le hnn.1
      have hm : m < 9223372036854775808 := by have := hnn.2; omega
      have hnb : numB (m : Int) = numL m := by
        unfold numB
        rw [if_neg (by omega), Int.toNat_natCast]
      have HNX := Lib.hid hnx
      have HNB := Lib.hid hnb
      obtain ⟨A, hA⟩ : ∃ x, bstr (outL (ls.take k)) = x := ⟨_, rfl⟩
      have hAs : A.size ≤ 500000 := by
        rw [← hA, bstr_size]
        have := outL_length (ls.take k)
        rw [List.length_take] at this
        omega
      obtain ⟨E, hE⟩ : ∃ x, bstr (numL m) = x := ⟨_, rfl⟩
      have hEs : E.size ≤ 10 := by
        rw [← hE, bstr_size, ← hnb]
        exact numB_length _
      have HA := Lib.hid hA
      have HE := Lib.hid hE
      have HRF := Lib.hid (fun w => refnum_any m hm w)
      rw [hE] at HRF
      rw [hA]
      clear hX hn hnn hnx hnb hA hE
      go_wp2_with fail
      refine (HRF.out _).mono ?_
      rintro e w1 ⟨rfl, b1⟩
      have B1 := Lib.hid (HX.out.trans (b1.mono hsz))
      clear b1
      go_wp2_with fail
      go_roundw
      case rel =>
        refine ⟨k + 1, by go_num, by omega, ?_, B1.out⟩
        rw [HNX.out, outL_append, ← bstr_append, HA.out]
        have : bstr (outL [(m : Int)]) = E := by
          rw [← HE.out, ← HNB.out]
          simp [outL]
        rw [this]
      case measure => simp [intOf]; omega
    · obtain rfl : k = ls.length := by omega
      rw [List.take_length]
      go_wp2_with fail
      go_ret
      exact ⟨rfl, HX.out⟩

theorem nums_blk (ls : List Int) (p n : Nat) (z : Array Value) (hz : z = (intCells ls).toArray) (hln : ls.length = n) (hn : ∀ n ∈ ls, Nn n) (hl : ls.length ≤ 50000) (w : World) (h : Blk w p z) :
    Calls Try.prog 63 #[.slice (some ⟨p, 0, none⟩) n n] w fun e w' => e = .returned (.string (bstr (outL ls))) ∧ Below w.heap.size w w' := by
  subst hln
  refine nums_ref ls _ _ hn hl w ?_
  have := row_blk h (fun k => .int .i64 (ls.getD k 0)) (fun k hk => by
    subst hz
    simp only [intCells, List.size_toArray, List.length_map] at hk
    simp [intCells, List.getD, hk])
  have hs : z.size = ls.length := by rw [hz]; simp [intCells]
  rw [hs] at this
  exact this

/-- What lies in the two blocks, where they are made. -/
def RR (cA cB : Array Value) (A B : Option Nat) (w : World) : Prop := (∀ p, A = some p → Blk w p cA) ∧ (∀ q, B = some q → Blk w q cB)
theorem RR.cl {cA cB : Array Value} {A B : Option Nat} (w w' : World) (h : RR cA cB A B w) (hb : Below w.heap.size w w') : RR cA cB A B w' :=
  ⟨fun p e => (h.1 p e).call hb, fun q e => (h.2 q e).call hb⟩
theorem RR.none {cA cB : Array Value} {w : World} : RR cA cB none none w := ⟨(fun _ h => by cases h), (fun _ h => by cases h)⟩
theorem RR.left {cA cB : Array Value} {A B : Option Nat} {w : World} {p : Nat} (h : RR cA cB A B w) (hb : Blk w p cA) : RR cA cB (some p) B w := ⟨(fun _ e => by cases e; exact hb), h.2⟩
theorem RR.right {cA cB : Array Value} {A B : Option Nat} {w : World} {q : Nat} (h : RR cA cB A B w) (hb : Blk w q cB) : RR cA cB A (some q) w := ⟨h.1, (fun _ e => by cases e; exact hb)⟩
abbrev RK (v : World) (cA cB : Array Value) (A B : Option Nat) : Cli (InK (fun _ => False) v) := kcl (fun _ => False) v (RR cA cB A B) RR.cl
theorem below_kp {v w : World} (h : Kp (fun _ => False) v w) : Below v.heap.size v w := h.below (fun _ h => h.elim) (Nat.le_refl _)

set_option maxHeartbeats 6400000 in
set_option maxRecDepth 100000 in
theorem eldertext_any (g : G) (fa ua : Option Addr) (cf cu : Nat) (w : World) (hf : Row w.heap.size w fa g.free.length (fun k => .int .i64 (g.free.getD k 0))) (hu : URow false w.heap.size w ua g.us) (hnn : ∀ n ∈ elderN g, Nn n) (h200 : g.free.length ≤ 200) (h20 : g.us.length ≤ 20) :
    Calls Try.prog 62 #[.agg #[.int .i64 g.tick, .int .i64 g.g0, .int .i64 g.g1, .int .i64 g.next, .slice fa g.free.length cf, .slice ua g.us.length cu]] w
      fun e w' => e = .returned (.string (bstr (outL (elderN g)))) ∧ Below w.heap.size w w' := by
  obtain ⟨W, hW⟩ : ∃ W, w.alloc (.cells #[.int .i64 g.tick, .int .i64 g.g0, .int .i64 g.g1, .int .i64 g.next, .slice fa g.free.length cf, .slice ua g.us.length cu] 26) = W := ⟨_, rfl⟩
  have hbW : Below w.heap.size w W := by rw [← hW]; exact (Below.refl _ _).alloc (Nat.le_refl _) _
  have k1 : Blk W w.heap.size #[.int .i64 g.tick, .int .i64 g.g0, .int .i64 g.g1, .int .i64 g.next, .slice fa g.free.length cf, .slice ua g.us.length cu] := by rw [← hW]; exact Blk.new w _ _
  obtain ⟨T1, hT1⟩ : ∃ x, bstr (outL [g.tick, g.g0, g.g1, g.next, (g.free.length : Int)]) = x := ⟨_, rfl⟩
  obtain ⟨T2, hT2⟩ : ∃ x, bstr (outL g.free) = x := ⟨_, rfl⟩
  obtain ⟨T3, hT3⟩ : ∃ x, bstr (outL [(g.us.length : Int)]) = x := ⟨_, rfl⟩
  have z1 : T1.size ≤ 50 := by rw [← hT1, bstr_size]; have := outL_length [g.tick, g.g0, g.g1, g.next, (g.free.length : Int)]; simpa using this
  have z2 : T2.size ≤ 2000 := by rw [← hT2, bstr_size]; have := outL_length g.free; omega
  have z3 : T3.size ≤ 10 := by rw [← hT3, bstr_size]; have := outL_length [(g.us.length : Int)]; simpa using this
  have HT := Lib.hid (⟨hT1, hT2, hT3⟩ : bstr (outL [g.tick, g.g0, g.g1, g.next, (g.free.length : Int)]) = T1 ∧ bstr (outL g.free) = T2 ∧ bstr (outL [(g.us.length : Int)]) = T3)
  obtain ⟨CA, hCA⟩ : ∃ x, (#[.int .i64 g.tick, .int .i64 g.g0, .int .i64 g.g1, .int .i64 g.next, .int .i64 (g.free.length : Int)] : Array Value) = x := ⟨_, rfl⟩
  obtain ⟨CB, hCB⟩ : ∃ x, (#[.int .i64 (g.us.length : Int)] : Array Value) = x := ⟨_, rfl⟩
  have C1 := Lib.hid (fun (x : World) (p : Nat) (h : Blk x p CA) => (nums_blk [g.tick, g.g0, g.g1, g.next, (g.free.length : Int)] p 5 CA hCA.symm rfl (fun n hn => hnn n (by unfold elderN; simp only [List.append_assoc]; exact List.mem_append_left _ hn)) (by simp) x h).mono (fun e x' h => (⟨by rw [h.1, hT1], h.2⟩ : e = .returned (.string T1) ∧ Below x.heap.size x x')))
  have C2 := Lib.hid (fun (x : World) (h : Below w.heap.size w x) => (nums_ref g.free fa cf (fun n hn => hnn n (by unfold elderN; simp [hn])) (by omega) x ((hf.below h).mono h.size)).mono (fun e x' h => (⟨by rw [h.1, hT2], h.2⟩ : e = .returned (.string T2) ∧ Below x.heap.size x x')))
  have C3 := Lib.hid (fun (x : World) (p : Nat) (h : Blk x p CB) => (nums_blk [(g.us.length : Int)] p 1 CB hCB.symm rfl (fun n hn => hnn n (by unfold elderN; simp only [List.mem_singleton] at hn; simp [hn])) (by simp) x h).mono (fun e x' h => (⟨by rw [h.1, hT3], h.2⟩ : e = .returned (.string T3) ∧ Below x.heap.size x x')))
  subst hCA hCB
  have HU := Lib.hid hu
  have HB := Lib.hid hbW
  have K1 := Lib.hid k1
  have HN := Lib.hid hnn
  have hf0 : (0 : Int) ≤ (g.free.length : Int) := by omega
  have hu0 : (0 : Int) ≤ (g.us.length : Int) := by omega
  have hws : w.heap.size < W.heap.size := k1.lt
  clear hbW k1 hT1 hT2 hT3 hf hu hnn
  go_enter Try.func62, Try.ntmps62
  go_upto_region 1 with fail
  try rw [hW]
  clear hW
  go_cut [1, 3] (fun s1 s3 wx => s1 = .pointer (some ⟨w.heap.size, 0, none⟩) ∧ s3 = .string ((T1 ++ T2) ++ T3) ∧ Below W.heap.size W wx)
  case first =>
    haveI := Kw.ne (fun _ => False) W
    have cx : ∀ (x : Kw (fun _ => False) W) (i : Nat), x.w.cell? ⟨w.heap.size, i, none⟩ = (#[.int .i64 g.tick, .int .i64 g.g0, .int .i64 g.g1, .int .i64 g.next, .slice fa g.free.length cf, .slice ua g.us.length cu] : Array Value)[i]? := fun x i => by rw [x.cell _ _ hws (fun h => h), K1.out.cell]
    obtain ⟨CA, hCA⟩ : ∃ x, (#[.int .i64 g.tick, .int .i64 g.g0, .int .i64 g.g1, .int .i64 g.next, .int .i64 (g.free.length : Int)] : Array Value) = x := ⟨_, rfl⟩
    obtain ⟨CB, hCB⟩ : ∃ x, (#[.int .i64 (g.us.length : Int)] : Array Value) = x := ⟨_, rfl⟩
    rw [hCA] at C1
    rw [hCB] at C3
    subst hCA hCB
    refine region_plan 25 (.read 0 (.read 1 (.read 2 (.read 3 (.read 4 (.read 5 (.read 6 (.read 7 (.read 8 (.read 9 (.read 10 (.read 11 (.read 12 (.read 15 (.read 16 (.read 19 (.read 20 (.read 21
      (.fork 13 (.fork 14 (.fork 17 (.read 18 (.write 22 (.write 23 (.read 24 .done)))) 22 (.write 17 (.read 18 (.write 23 (.read 24 .done))))) 22 (.write 14 (.write 17 (.read 18 (.write 23 (.read 24 .done)))))) 22 (.write 13 (.write 14 (.write 17 (.read 18 (.write 23 (.read 24 .done))))))
      )))))))))))))))))))
      (RK W #[.int .i64 g.tick, .int .i64 g.g0, .int .i64 g.g1, .int .i64 g.next, .int .i64 (g.free.length : Int)] #[.int .i64 (g.us.length : Int)] none none) ⟨Kp.drew _ _, RR.none⟩ (by kernel_rfl) (by kernel_rfl) ?_
    iterate 18 (refine plan_read rfl ?_; refine mix_readK (fun K hK => ?_); go_simp; refine hK _ (mix_nil ?_); clear hK K)
    refine plan_fork ?_ ?_
    · refine plan_write rfl (mix_slice (fun q => .slice (some ⟨q, 0, none⟩) 5 5) #[.int .i64 g.tick, .int .i64 g.g0, .int .i64 g.g1, .int .i64 g.next, .int .i64 (g.free.length : Int)] 3 rfl (fun x => by simp [go_sem]) (fun p => RR #[.int .i64 g.tick, .int .i64 g.g0, .int .i64 g.g1, .int .i64 g.next, .int .i64 (g.free.length : Int)] #[.int .i64 (g.us.length : Int)] (some p) none) (fun _ => RR.cl) (fun x p h _ hb => h.left hb) (fun p => mix_nil ?_))
      refine plan_fork ?_ ?_
      · refine plan_write rfl (mix_call (ι := Unit) (fun _ => .string T1) (fun _ => RK W #[.int .i64 g.tick, .int .i64 g.g0, .int .i64 g.g1, .int .i64 g.next, .int .i64 (g.free.length : Int)] #[.int .i64 (g.us.length : Int)] (some p) none) 63 #[.slice (some ⟨p, 0, none⟩) 5 5] rfl (fun x => by simp [go_sem]) (fun x h => (C1.out x p (h.2.1 p rfl)).mono (fun e x' he => ⟨(), he.1, h.1.then_ he.2, h.2.cl _ _ he.2⟩)) (fun _ => mix_nil ?_))
        refine plan_fork ?_ ?_
        · refine plan_write rfl (mix_call (ι := Unit) (fun _ => .string T2) (fun _ => RK W #[.int .i64 g.tick, .int .i64 g.g0, .int .i64 g.g1, .int .i64 g.next, .int .i64 (g.free.length : Int)] #[.int .i64 (g.us.length : Int)] (some p) none) 63 #[.slice fa g.free.length cf] rfl (fun x => by simp [go_sem]) (fun x h => (C2.out x (HB.out.trans ((below_kp h.1).mono HB.out.size))).mono (fun e x' he => ⟨(), he.1, h.1.then_ he.2, h.2.cl _ _ he.2⟩)) (fun _ => mix_nil ?_))
          refine plan_read rfl ?_; refine mix_readK (fun K hK => ?_); go_simp; refine ⟨_, (fun x => by (rw [if_neg (by (try simp only [ByteArray.size_append]); omega)]; exact ⟨rfl, rfl⟩)), hK _ (mix_nil ?_)⟩; clear hK K
          refine plan_write rfl (mix_slice (fun q => .slice (some ⟨q, 0, none⟩) 1 1) #[.int .i64 (g.us.length : Int)] 3 rfl (fun x => by simp [go_sem]) (fun q => RR #[.int .i64 g.tick, .int .i64 g.g0, .int .i64 g.g1, .int .i64 g.next, .int .i64 (g.free.length : Int)] #[.int .i64 (g.us.length : Int)] (some p) (some q)) (fun _ => RR.cl) (fun x q h _ hb => h.right hb) (fun q => mix_nil ?_))
          refine plan_write rfl (mix_call (ι := Unit) (fun _ => .string T3) (fun _ => RK W #[.int .i64 g.tick, .int .i64 g.g0, .int .i64 g.g1, .int .i64 g.next, .int .i64 (g.free.length : Int)] #[.int .i64 (g.us.length : Int)] (some p) (some q)) 63 #[.slice (some ⟨q, 0, none⟩) 1 1] rfl (fun x => by simp [go_sem]) (fun x h => (C3.out x q (h.2.2 q rfl)).mono (fun e x' he => ⟨(), he.1, h.1.then_ he.2, h.2.cl _ _ he.2⟩)) (fun _ => mix_nil ?_))
          refine plan_read rfl ?_; refine mix_readK (fun K hK => ?_); go_simp; refine ⟨_, (fun x => by (rw [if_neg (by (try simp only [ByteArray.size_append]); omega)]; exact ⟨rfl, rfl⟩)), hK _ (mix_nil ?_)⟩; clear hK K
          refine plan_done ?_
          rintro w1 ⟨k1, -⟩
          go_simp
          go_wp2_with fail
          go_meet
          exact ⟨rfl, rfl, below_kp k1⟩
        · refine plan_write rfl (mix_slice (fun q => .slice (some ⟨q, 0, none⟩) 1 1) #[.int .i64 (g.us.length : Int)] 3 rfl (fun x => by simp [go_sem]) (fun q => RR #[.int .i64 g.tick, .int .i64 g.g0, .int .i64 g.g1, .int .i64 g.next, .int .i64 (g.free.length : Int)] #[.int .i64 (g.us.length : Int)] (some p) (some q)) (fun _ => RR.cl) (fun x q h _ hb => h.right hb) (fun q => mix_nil ?_))
          refine plan_write rfl (mix_call (ι := Unit) (fun _ => .string T2) (fun _ => RK W #[.int .i64 g.tick, .int .i64 g.g0, .int .i64 g.g1, .int .i64 g.next, .int .i64 (g.free.length : Int)] #[.int .i64 (g.us.length : Int)] (some p) (some q)) 63 #[.slice fa g.free.length cf] rfl (fun x => by simp [go_sem]) (fun x h => (C2.out x (HB.out.trans ((below_kp h.1).mono HB.out.size))).mono (fun e x' he => ⟨(), he.1, h.1.then_ he.2, h.2.cl _ _ he.2⟩)) (fun _ => mix_nil ?_))
          refine plan_read rfl ?_; refine mix_readK (fun K hK => ?_); go_simp; refine ⟨_, (fun x => by (rw [if_neg (by (try simp only [ByteArray.size_append]); omega)]; exact ⟨rfl, rfl⟩)), hK _ (mix_nil ?_)⟩; clear hK K
          refine plan_write rfl (mix_call (ι := Unit) (fun _ => .string T3) (fun _ => RK W #[.int .i64 g.tick, .int .i64 g.g0, .int .i64 g.g1, .int .i64 g.next, .int .i64 (g.free.length : Int)] #[.int .i64 (g.us.length : Int)] (some p) (some q)) 63 #[.slice (some ⟨q, 0, none⟩) 1 1] rfl (fun x => by simp [go_sem]) (fun x h => (C3.out x q (h.2.2 q rfl)).mono (fun e x' he => ⟨(), he.1, h.1.then_ he.2, h.2.cl _ _ he.2⟩)) (fun _ => mix_nil ?_))
          refine plan_read rfl ?_; refine mix_readK (fun K hK => ?_); go_simp; refine ⟨_, (fun x => by (rw [if_neg (by (try simp only [ByteArray.size_append]); omega)]; exact ⟨rfl, rfl⟩)), hK _ (mix_nil ?_)⟩; clear hK K
          refine plan_done ?_
          rintro w1 ⟨k1, -⟩
          go_simp
          go_wp2_with fail
          go_meet
          exact ⟨rfl, rfl, below_kp k1⟩
      · refine plan_write rfl (mix_slice (fun q => .slice (some ⟨q, 0, none⟩) 1 1) #[.int .i64 (g.us.length : Int)] 3 rfl (fun x => by simp [go_sem]) (fun q => RR #[.int .i64 g.tick, .int .i64 g.g0, .int .i64 g.g1, .int .i64 g.next, .int .i64 (g.free.length : Int)] #[.int .i64 (g.us.length : Int)] (some p) (some q)) (fun _ => RR.cl) (fun x q h _ hb => h.right hb) (fun q => mix_nil ?_))
        refine plan_write rfl (mix_call (ι := Unit) (fun _ => .string T1) (fun _ => RK W #[.int .i64 g.tick, .int .i64 g.g0, .int .i64 g.g1, .int .i64 g.next, .int .i64 (g.free.length : Int)] #[.int .i64 (g.us.length : Int)] (some p) (some q)) 63 #[.slice (some ⟨p, 0, none⟩) 5 5] rfl (fun x => by simp [go_sem]) (fun x h => (C1.out x p (h.2.1 p rfl)).mono (fun e x' he => ⟨(), he.1, h.1.then_ he.2, h.2.cl _ _ he.2⟩)) (fun _ => mix_nil ?_))
        refine plan_write rfl (mix_call (ι := Unit) (fun _ => .string T2) (fun _ => RK W #[.int .i64 g.tick, .int .i64 g.g0, .int .i64 g.g1, .int .i64 g.next, .int .i64 (g.free.length : Int)] #[.int .i64 (g.us.length : Int)] (some p) (some q)) 63 #[.slice fa g.free.length cf] rfl (fun x => by simp [go_sem]) (fun x h => (C2.out x (HB.out.trans ((below_kp h.1).mono HB.out.size))).mono (fun e x' he => ⟨(), he.1, h.1.then_ he.2, h.2.cl _ _ he.2⟩)) (fun _ => mix_nil ?_))
        refine plan_read rfl ?_; refine mix_readK (fun K hK => ?_); go_simp; refine ⟨_, (fun x => by (rw [if_neg (by (try simp only [ByteArray.size_append]); omega)]; exact ⟨rfl, rfl⟩)), hK _ (mix_nil ?_)⟩; clear hK K
        refine plan_write rfl (mix_call (ι := Unit) (fun _ => .string T3) (fun _ => RK W #[.int .i64 g.tick, .int .i64 g.g0, .int .i64 g.g1, .int .i64 g.next, .int .i64 (g.free.length : Int)] #[.int .i64 (g.us.length : Int)] (some p) (some q)) 63 #[.slice (some ⟨q, 0, none⟩) 1 1] rfl (fun x => by simp [go_sem]) (fun x h => (C3.out x q (h.2.2 q rfl)).mono (fun e x' he => ⟨(), he.1, h.1.then_ he.2, h.2.cl _ _ he.2⟩)) (fun _ => mix_nil ?_))
        refine plan_read rfl ?_; refine mix_readK (fun K hK => ?_); go_simp; refine ⟨_, (fun x => by (rw [if_neg (by (try simp only [ByteArray.size_append]); omega)]; exact ⟨rfl, rfl⟩)), hK _ (mix_nil ?_)⟩; clear hK K
        refine plan_done ?_
        rintro w1 ⟨k1, -⟩
        go_simp
        go_wp2_with fail
        go_meet
        exact ⟨rfl, rfl, below_kp k1⟩
    · refine plan_write rfl (mix_slice (fun q => .slice (some ⟨q, 0, none⟩) 1 1) #[.int .i64 (g.us.length : Int)] 3 rfl (fun x => by simp [go_sem]) (fun q => RR #[.int .i64 g.tick, .int .i64 g.g0, .int .i64 g.g1, .int .i64 g.next, .int .i64 (g.free.length : Int)] #[.int .i64 (g.us.length : Int)] none (some q)) (fun _ => RR.cl) (fun x q h _ hb => h.right hb) (fun q => mix_nil ?_))
      refine plan_write rfl (mix_slice (fun q => .slice (some ⟨q, 0, none⟩) 5 5) #[.int .i64 g.tick, .int .i64 g.g0, .int .i64 g.g1, .int .i64 g.next, .int .i64 (g.free.length : Int)] 3 rfl (fun x => by simp [go_sem]) (fun p => RR #[.int .i64 g.tick, .int .i64 g.g0, .int .i64 g.g1, .int .i64 g.next, .int .i64 (g.free.length : Int)] #[.int .i64 (g.us.length : Int)] (some p) (some q)) (fun _ => RR.cl) (fun x p h _ hb => h.left hb) (fun p => mix_nil ?_))
      refine plan_write rfl (mix_call (ι := Unit) (fun _ => .string T1) (fun _ => RK W #[.int .i64 g.tick, .int .i64 g.g0, .int .i64 g.g1, .int .i64 g.next, .int .i64 (g.free.length : Int)] #[.int .i64 (g.us.length : Int)] (some p) (some q)) 63 #[.slice (some ⟨p, 0, none⟩) 5 5] rfl (fun x => by simp [go_sem]) (fun x h => (C1.out x p (h.2.1 p rfl)).mono (fun e x' he => ⟨(), he.1, h.1.then_ he.2, h.2.cl _ _ he.2⟩)) (fun _ => mix_nil ?_))
      refine plan_write rfl (mix_call (ι := Unit) (fun _ => .string T2) (fun _ => RK W #[.int .i64 g.tick, .int .i64 g.g0, .int .i64 g.g1, .int .i64 g.next, .int .i64 (g.free.length : Int)] #[.int .i64 (g.us.length : Int)] (some p) (some q)) 63 #[.slice fa g.free.length cf] rfl (fun x => by simp [go_sem]) (fun x h => (C2.out x (HB.out.trans ((below_kp h.1).mono HB.out.size))).mono (fun e x' he => ⟨(), he.1, h.1.then_ he.2, h.2.cl _ _ he.2⟩)) (fun _ => mix_nil ?_))
      refine plan_read rfl ?_; refine mix_readK (fun K hK => ?_); go_simp; refine ⟨_, (fun x => by (rw [if_neg (by (try simp only [ByteArray.size_append]); omega)]; exact ⟨rfl, rfl⟩)), hK _ (mix_nil ?_)⟩; clear hK K
      refine plan_write rfl (mix_call (ι := Unit) (fun _ => .string T3) (fun _ => RK W #[.int .i64 g.tick, .int .i64 g.g0, .int .i64 g.g1, .int .i64 g.next, .int .i64 (g.free.length : Int)] #[.int .i64 (g.us.length : Int)] (some p) (some q)) 63 #[.slice (some ⟨q, 0, none⟩) 1 1] rfl (fun x => by simp [go_sem]) (fun x h => (C3.out x q (h.2.2 q rfl)).mono (fun e x' he => ⟨(), he.1, h.1.then_ he.2, h.2.cl _ _ he.2⟩)) (fun _ => mix_nil ?_))
      refine plan_read rfl ?_; refine mix_readK (fun K hK => ?_); go_simp; refine ⟨_, (fun x => by (rw [if_neg (by (try simp only [ByteArray.size_append]); omega)]; exact ⟨rfl, rfl⟩)), hK _ (mix_nil ?_)⟩; clear hK K
      refine plan_done ?_
      rintro w1 ⟨k1, -⟩
      go_simp
      go_wp2_with fail
      go_meet
      exact ⟨rfl, rfl, below_kp k1⟩

  obtain ⟨h1, h3, hc⟩ := hcut
  rw [h1, h3]
  have zc := hc.size
  have HC := Lib.hid hc
  have K2 := Lib.hid (K1.out.call hc)
  have HBC := Lib.hid (HB.out.trans (hc.mono HB.out.size))
  clear h1 h3 hc C1 C2 C3
  obtain ⟨PRE, hPRE⟩ : ∃ x, [g.tick, g.g0, g.g1, g.next, (g.free.length : Int)] ++ g.free ++ [(g.us.length : Int)] = x := ⟨_, rfl⟩
  have hT : bstr (outL PRE) = (T1 ++ T2) ++ T3 := by
    rw [← hPRE, outL_append, outL_append, ← bstr_append, ← bstr_append, HT.out.1, HT.out.2.1, HT.out.2.2]
  have hpl : PRE.length ≤ 206 := by rw [← hPRE]; simp; omega
  have HPRE := Lib.hid (show PRE ++ g.us.flatMap fieldsE = elderN g by rw [← hPRE]; rfl)
  rw [← hT]
  clear hPRE hT HT
  have lKS := K2.out.lt
  have cKS := K2.out.cell 5
  go_wp2_with fail
  go_loopw [3, 4] (fun s i wr => ∃ k : Nat, i = .int .i64 k ∧ k ≤ g.us.length ∧ s = .string (bstr (outL (PRE ++ (g.us.take k).flatMap fieldsE))) ∧ Below wc.heap.size wc wr) (fun _ i _ => (g.us.length - intOf i).toNat)
  case atStart => exact ⟨0, rfl, by omega, by simp, Below.refl _ _⟩
  case round =>
    obtain ⟨k, rfl, hk, rfl, hX⟩ := hrel
    have HX := Lib.hid hX
    have hszr := hX.size
    by_cases hlt : k < g.us.length
    · obtain ⟨u, hu⟩ : ∃ u, g.us.getD k zeroU = u := ⟨_, rfl⟩
      have hum : u ∈ g.us := by rw [← hu, getD_lt hlt]; exact List.getElem_mem hlt
      obtain ⟨b, o, hua, hbB, q0, q1, q2, q3, q4, q5, q6, q7, q8, q9⟩ := (HU.out.below (HBC.out.trans (hX.mono HBC.out.size))).getE k hlt u hu
      subst hua
      have hbr : b < wr.heap.size := by omega
      have hki : (0 : Int) ≤ (k : Int) := by omega
      have hkl : (k : Int) < (g.us.length : Int) := by omega
      have hnx : PRE ++ (g.us.take (k + 1)).flatMap fieldsE = PRE ++ (g.us.take k).flatMap fieldsE ++ fieldsE u := by
        rw [take_at hlt, hu, List.flatMap_append]
        simp
      have hfl : ∀ m, ((g.us.take m).flatMap fieldsE).length ≤ 10 * m := fun m => by
        have e : ∀ l : List U, (l.flatMap fieldsE).length = 10 * l.length := fun l => by
          induction l with
          | nil => rfl
          | cons x l ih => rw [List.flatMap_cons, List.length_append, ih]; simp [fieldsE]; omega
        rw [e, List.length_take]
        omega
      obtain ⟨A, hA⟩ : ∃ x, bstr (outL (PRE ++ (g.us.take k).flatMap fieldsE)) = x := ⟨_, rfl⟩
      have zA : A.size ≤ 10000 := by
        rw [← hA, bstr_size]
        have hLl := outL_length (PRE ++ (g.us.take k).flatMap fieldsE)
        rw [List.length_append] at hLl
        have hf2 := hfl k
        omega
      obtain ⟨E, hE⟩ : ∃ x, bstr (outL (fieldsE u)) = x := ⟨_, rfl⟩
      have zE : E.size ≤ 100 := by
        rw [← hE, bstr_size]
        have := outL_length (fieldsE u)
        simpa [fieldsE] using this
      have hun : ∀ n ∈ fieldsE u, Nn n := fun n hn => HN.out n (by rw [← HPRE.out]; exact List.mem_append_right _ (List.mem_flatMap.2 ⟨u, hum, hn⟩))
      have C4 := Lib.hid (fun (x : World) (p : Nat) (h : Blk x p #[.int .i64 u.id, .int .i64 u.owner, .int .i64 u.kind, .int .i64 u.x, .int .i64 u.y, .int .i64 u.hp, .int .i64 u.does, .int .i64 u.gx, .int .i64 u.gy, .int .i64 u.target]) => (nums_blk (fieldsE u) p 10 _ rfl rfl hun (by simp [fieldsE]) x h).mono (fun e x' h => (⟨by rw [h.1, hE], h.2⟩ : e = .returned (.string E) ∧ Below x.heap.size x x')))
      have HNX := Lib.hid hnx
      have HAE := Lib.hid (⟨hA, hE⟩ : bstr (outL (PRE ++ (g.us.take k).flatMap fieldsE)) = A ∧ bstr (outL (fieldsE u)) = E)
      rw [hA]
      obtain ⟨V, hV⟩ : ∃ V, wr.alloc (.cells #[.int .i64 u.id, .int .i64 u.owner, .int .i64 u.kind, .int .i64 u.x, .int .i64 u.y, .int .i64 u.hp, .int .i64 u.does, .int .i64 u.gx, .int .i64 u.gy, .int .i64 u.target] 83) = V := ⟨_, rfl⟩
      have hbV : Below wr.heap.size wr V := by rw [← hV]; exact (Below.refl _ _).alloc (Nat.le_refl _) _
      have kE : Blk V wr.heap.size #[.int .i64 u.id, .int .i64 u.owner, .int .i64 u.kind, .int .i64 u.x, .int .i64 u.y, .int .i64 u.hp, .int .i64 u.does, .int .i64 u.gx, .int .i64 u.gy, .int .i64 u.target] := by rw [← hV]; exact Blk.new wr _ _
      have hbV2 : Below V.heap.size V (V.alloc (.cells #[.int .i64 u.id, .int .i64 u.owner, .int .i64 u.kind, .int .i64 u.x, .int .i64 u.y, .int .i64 u.hp, .int .i64 u.does, .int .i64 u.gx, .int .i64 u.gy, .int .i64 u.target] 3)) := (Below.refl _ _).alloc (Nat.le_refl _) _
      have kV2 : Blk (V.alloc (.cells #[.int .i64 u.id, .int .i64 u.owner, .int .i64 u.kind, .int .i64 u.x, .int .i64 u.y, .int .i64 u.hp, .int .i64 u.does, .int .i64 u.gx, .int .i64 u.gy, .int .i64 u.target] 3)) V.heap.size #[.int .i64 u.id, .int .i64 u.owner, .int .i64 u.kind, .int .i64 u.x, .int .i64 u.y, .int .i64 u.hp, .int .i64 u.does, .int .i64 u.gx, .int .i64 u.gy, .int .i64 u.target] := Blk.new V _ _
      have hsV := hbV.size
      have KS := Lib.hid (K2.out.call hX)
      have lKS := KS.out.lt
      have cKS := KS.out.cell 5
      obtain ⟨lE, cE, -⟩ := id kE
      have HBV := Lib.hid hbV
      have HBV2 := Lib.hid hbV2
      have KV2 := Lib.hid kV2
      clear hu hum hnx hfl hX hun hbV hbV2 kE kV2 hA hE
      go_wp2_with fail
      refine (C4.out _ _ KV2.out).mono ?_
      rintro e w4 ⟨rfl, b4⟩
      have B4 := Lib.hid (HX.out.trans ((HBV.out.trans ((HBV2.out.trans (b4.mono HBV2.out.size)).mono HBV.out.size)).mono HX.out.size))
      clear b4 q0 q1 q2 q3 q4 q5 q6 q7 q8 q9 cE hV
      go_wp2_with fail
      go_roundw
      case rel =>
        refine ⟨k + 1, by go_num, by omega, ?_, B4.out⟩
        rw [HNX.out, outL_append, ← bstr_append, HAE.out.1, HAE.out.2]
      case measure => simp [intOf]; omega
    · obtain rfl : k = g.us.length := by omega
      rw [List.take_length]
      have e : PRE ++ g.us.flatMap fieldsE = elderN g := HPRE.out
      rw [e]
      have KS := Lib.hid (K2.out.call hX)
      have lKS := KS.out.lt
      have cKS := KS.out.cell 5
      clear hX
      go_wp2_with fail
      go_ret
      exact ⟨rfl, HBC.out.trans (HX.out.mono HBC.out.size)⟩

set_option maxHeartbeats 6400000 in
set_option maxRecDepth 100000 in
theorem newertext_any (g : G) (ua : Option Addr) (cu : Nat) (w : World) (hu : URow true w.heap.size w ua g.us) (hnn : ∀ n ∈ newerN g, Nn n) (h20 : g.us.length ≤ 20) :
    Calls Try.prog 68 #[.agg #[.int .i64 g.tick, .int .i64 g.g0, .int .i64 g.g1, .int .i64 g.next, .slice ua g.us.length cu]] w
      fun e w' => e = .returned (.string (bstr (outL (newerN g)))) ∧ Below w.heap.size w w' := by
  obtain ⟨W, hW⟩ : ∃ W, w.alloc (.cells #[.int .i64 g.tick, .int .i64 g.g0, .int .i64 g.g1, .int .i64 g.next, .slice ua g.us.length cu] 32) = W := ⟨_, rfl⟩
  have hbW : Below w.heap.size w W := by rw [← hW]; exact (Below.refl _ _).alloc (Nat.le_refl _) _
  have k1 : Blk W w.heap.size #[.int .i64 g.tick, .int .i64 g.g0, .int .i64 g.g1, .int .i64 g.next, .slice ua g.us.length cu] := by rw [← hW]; exact Blk.new w _ _
  obtain ⟨PRE, hPRE⟩ : ∃ x, [g.tick, g.g0, g.g1, g.next, (g.us.length : Int)] = x := ⟨_, rfl⟩
  obtain ⟨T1, hT1⟩ : ∃ x, bstr (outL PRE) = x := ⟨_, rfl⟩
  have hpl : PRE.length ≤ 5 := by rw [← hPRE]; simp
  have C1 := Lib.hid (fun (x : World) (p : Nat) (h : Blk x p #[.int .i64 g.tick, .int .i64 g.g0, .int .i64 g.g1, .int .i64 g.next, .int .i64 (g.us.length : Int)]) => (nums_blk [g.tick, g.g0, g.g1, g.next, (g.us.length : Int)] p 5 _ rfl rfl (fun n hn => hnn n (by unfold newerN; exact List.mem_append_left _ hn)) (by simp) x h).mono (fun e x' h => (⟨by rw [h.1, hPRE, hT1], h.2⟩ : e = .returned (.string T1) ∧ Below x.heap.size x x')))
  obtain ⟨V1, hV1⟩ : ∃ V, W.alloc (.cells #[.int .i64 g.tick, .int .i64 g.g0, .int .i64 g.g1, .int .i64 g.next, .int .i64 (g.us.length : Int)] 3) = V := ⟨_, rfl⟩
  have hb1 : Below W.heap.size W V1 := by rw [← hV1]; exact (Below.refl _ _).alloc (Nat.le_refl _) _
  have kv1 : Blk V1 W.heap.size #[.int .i64 g.tick, .int .i64 g.g0, .int .i64 g.g1, .int .i64 g.next, .int .i64 (g.us.length : Int)] := by rw [← hV1]; exact Blk.new W _ _
  have KV1 := Lib.hid kv1
  have HU := Lib.hid hu
  have HB := Lib.hid hbW
  have HB1 := Lib.hid hb1
  have K1 := Lib.hid k1
  have HN := Lib.hid hnn
  have HPRE := Lib.hid (show PRE ++ g.us.flatMap fieldsN = newerN g by rw [← hPRE]; rfl)
  have HT1 := Lib.hid hT1
  have hu0 : (0 : Int) ≤ (g.us.length : Int) := by omega
  have hws : w.heap.size < W.heap.size := k1.lt
  have lKS := k1.lt
  have cKS := k1.cell
  have cK0 := cKS 0
  have cK1 := cKS 1
  have cK2 := cKS 2
  have cK3 := cKS 3
  have cK4 := cKS 4
  clear hbW k1 hT1 hPRE hu hnn hb1 kv1 cKS
  go_enter Try.func68, Try.ntmps68
  go_upto_region 1 with fail
  try rw [hW]
  clear hW
  go_wp2_with fail
  try rw [hV1]
  clear hV1
  refine (C1.out _ _ KV1.out).mono ?_
  rintro e wc ⟨rfl, hc⟩
  have HC := Lib.hid (HB1.out.trans (hc.mono HB1.out.size))
  have K2 := Lib.hid (K1.out.call HC.out)
  have zc := HC.out.size
  have HBC := Lib.hid (HB.out.trans (HC.out.mono HB.out.size))
  rw [← HT1.out]
  clear hc C1 HT1 cK0 cK1 cK2 cK3 cK4 lKS
  have lKS := K2.out.lt
  have cKS := K2.out.cell 4
  go_wp2_with fail
  go_loopw [3, 4] (fun s i wr => ∃ k : Nat, i = .int .i64 k ∧ k ≤ g.us.length ∧ s = .string (bstr (outL (PRE ++ (g.us.take k).flatMap fieldsN))) ∧ Below wc.heap.size wc wr) (fun _ i _ => (g.us.length - intOf i).toNat)
  case atStart => exact ⟨0, rfl, by omega, by simp, Below.refl _ _⟩
  case round =>
    obtain ⟨k, rfl, hk, rfl, hX⟩ := hrel
    have HX := Lib.hid hX
    have hszr := hX.size
    by_cases hlt : k < g.us.length
    · obtain ⟨u, hu⟩ : ∃ u, g.us.getD k zeroU = u := ⟨_, rfl⟩
      have hum : u ∈ g.us := by rw [← hu, getD_lt hlt]; exact List.getElem_mem hlt
      obtain ⟨b, o, hua, hbB, q0, q1, q2, q3, q4, q5, q6, q7, q8, q9, q10⟩ := (HU.out.below (HBC.out.trans (hX.mono HBC.out.size))).getN k hlt u hu
      subst hua
      have hbr : b < wr.heap.size := by omega
      have hki : (0 : Int) ≤ (k : Int) := by omega
      have hkl : (k : Int) < (g.us.length : Int) := by omega
      have hnx : PRE ++ (g.us.take (k + 1)).flatMap fieldsN = PRE ++ (g.us.take k).flatMap fieldsN ++ fieldsN u := by
        rw [take_at hlt, hu, List.flatMap_append]
        simp
      have hfl : ∀ m, ((g.us.take m).flatMap fieldsN).length ≤ 11 * m := fun m => by
        have e : ∀ l : List U, (l.flatMap fieldsN).length = 11 * l.length := fun l => by
          induction l with
          | nil => rfl
          | cons x l ih => rw [List.flatMap_cons, List.length_append, ih]; simp [fieldsN]; omega
        rw [e, List.length_take]
        omega
      obtain ⟨A, hA⟩ : ∃ x, bstr (outL (PRE ++ (g.us.take k).flatMap fieldsN)) = x := ⟨_, rfl⟩
      have zA : A.size ≤ 10000 := by
        rw [← hA, bstr_size]
        have hLl := outL_length (PRE ++ (g.us.take k).flatMap fieldsN)
        rw [List.length_append] at hLl
        have hf2 := hfl k
        omega
      obtain ⟨E, hE⟩ : ∃ x, bstr (outL (fieldsN u)) = x := ⟨_, rfl⟩
      have zE : E.size ≤ 110 := by
        rw [← hE, bstr_size]
        have := outL_length (fieldsN u)
        simpa [fieldsN] using this
      have hun : ∀ n ∈ fieldsN u, Nn n := fun n hn => HN.out n (by rw [← HPRE.out]; exact List.mem_append_right _ (List.mem_flatMap.2 ⟨u, hum, hn⟩))
      have C4 := Lib.hid (fun (x : World) (p : Nat) (h : Blk x p #[.int .i64 u.id, .int .i64 u.owner, .int .i64 u.kind, .int .i64 u.x, .int .i64 u.y, .int .i64 u.hp, .int .i64 u.does, .int .i64 u.gx, .int .i64 u.gy, .int .i64 u.target, .int .i64 u.since]) => (nums_blk (fieldsN u) p 11 _ rfl rfl hun (by simp [fieldsN]) x h).mono (fun e x' h => (⟨by rw [h.1, hE], h.2⟩ : e = .returned (.string E) ∧ Below x.heap.size x x')))
      have HNX := Lib.hid hnx
      have HAE := Lib.hid (⟨hA, hE⟩ : bstr (outL (PRE ++ (g.us.take k).flatMap fieldsN)) = A ∧ bstr (outL (fieldsN u)) = E)
      rw [hA]
      obtain ⟨V, hV⟩ : ∃ V, wr.alloc (.cells #[.int .i64 u.id, .int .i64 u.owner, .int .i64 u.kind, .int .i64 u.x, .int .i64 u.y, .int .i64 u.hp, .int .i64 u.does, .int .i64 u.gx, .int .i64 u.gy, .int .i64 u.target, .int .i64 u.since] 142) = V := ⟨_, rfl⟩
      have hbV : Below wr.heap.size wr V := by rw [← hV]; exact (Below.refl _ _).alloc (Nat.le_refl _) _
      have kE : Blk V wr.heap.size #[.int .i64 u.id, .int .i64 u.owner, .int .i64 u.kind, .int .i64 u.x, .int .i64 u.y, .int .i64 u.hp, .int .i64 u.does, .int .i64 u.gx, .int .i64 u.gy, .int .i64 u.target, .int .i64 u.since] := by rw [← hV]; exact Blk.new wr _ _
      have hbV2 : Below V.heap.size V (V.alloc (.cells #[.int .i64 u.id, .int .i64 u.owner, .int .i64 u.kind, .int .i64 u.x, .int .i64 u.y, .int .i64 u.hp, .int .i64 u.does, .int .i64 u.gx, .int .i64 u.gy, .int .i64 u.target, .int .i64 u.since] 3)) := (Below.refl _ _).alloc (Nat.le_refl _) _
      have kV2 : Blk (V.alloc (.cells #[.int .i64 u.id, .int .i64 u.owner, .int .i64 u.kind, .int .i64 u.x, .int .i64 u.y, .int .i64 u.hp, .int .i64 u.does, .int .i64 u.gx, .int .i64 u.gy, .int .i64 u.target, .int .i64 u.since] 3)) V.heap.size #[.int .i64 u.id, .int .i64 u.owner, .int .i64 u.kind, .int .i64 u.x, .int .i64 u.y, .int .i64 u.hp, .int .i64 u.does, .int .i64 u.gx, .int .i64 u.gy, .int .i64 u.target, .int .i64 u.since] := Blk.new V _ _
      have hsV := hbV.size
      have KS := Lib.hid (K2.out.call hX)
      have lKS := KS.out.lt
      have cKS := KS.out.cell 4
      obtain ⟨lE, cE, -⟩ := id kE
      have HBV := Lib.hid hbV
      have HBV2 := Lib.hid hbV2
      have KV2 := Lib.hid kV2
      clear hu hum hnx hfl hX hun hbV hbV2 kE kV2 hA hE
      go_wp2_with fail
      refine (C4.out _ _ KV2.out).mono ?_
      rintro e w4 ⟨rfl, b4⟩
      have B4 := Lib.hid (HX.out.trans ((HBV.out.trans ((HBV2.out.trans (b4.mono HBV2.out.size)).mono HBV.out.size)).mono HX.out.size))
      clear b4 q0 q1 q2 q3 q4 q5 q6 q7 q8 q9 q10 cE hV
      go_wp2_with fail
      go_roundw
      case rel =>
        refine ⟨k + 1, by go_num, by omega, ?_, B4.out⟩
        rw [HNX.out, outL_append, ← bstr_append, HAE.out.1, HAE.out.2]
      case measure => simp [intOf]; omega
    · obtain rfl : k = g.us.length := by omega
      rw [List.take_length]
      have e : PRE ++ g.us.flatMap fieldsN = newerN g := HPRE.out
      rw [e]
      have KS := Lib.hid (K2.out.call hX)
      have lKS := KS.out.lt
      have cKS := KS.out.cell 4
      clear hX
      go_wp2_with fail
      go_ret
      exact ⟨rfl, HBC.out.trans (HX.out.mono HBC.out.size)⟩
end Go.Proofs.Ytlfljlhppigejab
namespace Go.Proofs.Ytlfljlhppigejab
open Go.RowKit
attribute [local go_sem] qUp qOneK

theorem flat_take_le {α : Type} (f : α → List Int) (l : List α) (k : Nat) : ((l.take k).flatMap f).length ≤ (l.flatMap f).length := by
  conv => rhs; rw [← List.take_append_drop k l]
  rw [List.flatMap_append, List.length_append]
  omega

set_option maxHeartbeats 12800000 in
set_option maxRecDepth 100000 in
theorem tapetext_any (g : G) (ts : List (List Cm)) (fa ua ta : Option Addr) (cf cu ct : Nat) (w : World) (hf : Row w.heap.size w fa g.free.length (fun k => .int .i64 (g.free.getD k 0))) (hu : URow false w.heap.size w ua g.us) (ht : TRow w.heap.size w ta ts) (hnn : ∀ n ∈ tapeN false g ts, Nn n) (hbig : (tapeN false g ts).length ≤ 5000) (h200 : g.free.length ≤ 200) (h20 : g.us.length ≤ 20) (h60 : ts.length ≤ 60) :
    Calls Try.prog 17 #[.agg #[.int .i64 g.tick, .int .i64 g.g0, .int .i64 g.g1, .int .i64 g.next, .slice fa g.free.length cf, .slice ua g.us.length cu, .slice ta ts.length ct]] w
      fun e w' => e = .returned (.string (bstr (outL (tapeN false g ts)))) ∧ Below w.heap.size w w' := by
  obtain ⟨W, hW⟩ : ∃ W, w.alloc (.cells #[.int .i64 g.tick, .int .i64 g.g0, .int .i64 g.g1, .int .i64 g.next, .slice fa g.free.length cf, .slice ua g.us.length cu, .slice ta ts.length ct] 29) = W := ⟨_, rfl⟩
  have hbW : Below w.heap.size w W := by rw [← hW]; exact (Below.refl _ _).alloc (Nat.le_refl _) _
  have k1 : Blk W w.heap.size #[.int .i64 g.tick, .int .i64 g.g0, .int .i64 g.g1, .int .i64 g.next, .slice fa g.free.length cf, .slice ua g.us.length cu, .slice ta ts.length ct] := by rw [← hW]; exact Blk.new w _ _
  obtain ⟨T1, hT1⟩ : ∃ x, bstr (outL (elderN g)) = x := ⟨_, rfl⟩
  obtain ⟨T3, hT3⟩ : ∃ x, bstr (outL [(ts.length : Int)]) = x := ⟨_, rfl⟩
  have hbig2 := hbig
  unfold tapeN at hbig2
  rw [List.length_append, List.length_append] at hbig2
  have hst : (startN false g).length = (elderN g).length := rfl
  have hlt1 : [(ts.length : Int)].length = 1 := rfl
  have z1 : T1.size ≤ 50000 := by rw [← hT1, bstr_size]; have := outL_length (elderN g); omega
  have z3 : T3.size ≤ 10 := by rw [← hT3, bstr_size]; have := outL_length [(ts.length : Int)]; simpa using this
  have HT := Lib.hid (⟨hT1, hT3⟩ : bstr (outL (elderN g)) = T1 ∧ bstr (outL [(ts.length : Int)]) = T3)
  have C1 := Lib.hid (fun (x : World) (h : Below w.heap.size w x) => (eldertext_any g fa ua cf cu x ((hf.below h).mono h.size) ((hu.below h).mono h.size) (fun n hn => hnn n (by unfold tapeN; simp only [List.append_assoc]; exact List.mem_append_left _ hn)) h200 h20).mono (fun e x' h => (⟨by rw [h.1, hT1], h.2⟩ : e = .returned (.string T1) ∧ Below x.heap.size x x')))
  have C3 := Lib.hid (fun (x : World) (p : Nat) (h : Blk x p #[.int .i64 (ts.length : Int)]) => (nums_blk [(ts.length : Int)] p 1 _ rfl rfl (fun n hn => hnn n (by unfold tapeN; simp only [List.mem_singleton] at hn; simp [hn])) (by simp) x h).mono (fun e x' h => (⟨by rw [h.1, hT3], h.2⟩ : e = .returned (.string T3) ∧ Below x.heap.size x x')))
  obtain ⟨PRE, hPRE⟩ : ∃ x, elderN g ++ [(ts.length : Int)] = x := ⟨_, rfl⟩
  have hall : tapeN false g ts = PRE ++ ts.flatMap (tickN false) := by rw [← hPRE]; rfl
  have HALL := Lib.hid hall
  have hT : bstr (outL PRE) = T1 ++ T3 := by rw [← hPRE, outL_append, ← bstr_append, hT1, hT3]
  have HPT := Lib.hid hT
  have hbig3 : (PRE ++ ts.flatMap (tickN false)).length ≤ 5000 := by rw [← hall]; exact hbig
  rw [List.length_append] at hbig3
  have HTR := Lib.hid ht
  have HU := Lib.hid hu
  have HB := Lib.hid hbW
  have K1 := Lib.hid k1
  have HN := Lib.hid hnn
  have ht0 : (0 : Int) ≤ (ts.length : Int) := by omega
  have hml : maxLen ≤ 9223372036854775807 := by unfold maxLen; decide
  have hws : w.heap.size < W.heap.size := k1.lt
  clear hbW k1 hT1 hT3 hu ht hnn hall hT hPRE hst hlt1 hbig2 hbig HT hf
  go_enter Try.func17, Try.ntmps17
  go_upto_region 1 with fail
  try rw [hW]
  clear hW
  go_cut [1, 3] (fun s1 s3 wx => s1 = .pointer (some ⟨w.heap.size, 0, none⟩) ∧ s3 = .string (T1 ++ T3) ∧ Below W.heap.size W wx)
  case first =>
    haveI := Kw.ne (fun _ => False) W
    have cx : ∀ (x : Kw (fun _ => False) W) (i : Nat), x.w.cell? ⟨w.heap.size, i, none⟩ = (#[.int .i64 g.tick, .int .i64 g.g0, .int .i64 g.g1, .int .i64 g.next, .slice fa g.free.length cf, .slice ua g.us.length cu, .slice ta ts.length ct] : Array Value)[i]? := fun x i => by rw [x.cell _ _ hws (fun h => h), K1.out.cell]
    refine region_plan 9 (.read 0 (.read 1 (.read 3 (.read 4 (.read 5 (.fork 2 (.write 6 (.write 7 (.read 8 .done))) 6 (.write 2 (.write 7 (.read 8 .done)))))))))
      (RK W #[] #[.int .i64 (ts.length : Int)] none none) ⟨Kp.drew _ _, RR.none⟩ (by kernel_rfl) (by kernel_rfl) ?_
    iterate 5 (refine plan_read rfl ?_; refine mix_readK (fun K hK => ?_); go_simp; refine hK _ (mix_nil ?_); clear hK K)
    refine plan_fork ?_ ?_
    · refine plan_write rfl (mix_call (ι := Unit) (fun _ => .string T1) (fun _ => (RK W #[] #[.int .i64 (ts.length : Int)] none none)) 62 #[.agg #[.int .i64 g.tick, .int .i64 g.g0, .int .i64 g.g1, .int .i64 g.next, .slice fa g.free.length cf, .slice ua g.us.length cu]] rfl (fun x => by simp [go_sem]) (fun x h => (C1.out x (HB.out.trans ((below_kp h.1).mono HB.out.size))).mono (fun e x' he => ⟨(), he.1, h.1.then_ he.2, h.2.cl _ _ he.2⟩)) (fun _ => mix_nil ?_))
      refine plan_write rfl (mix_slice (fun q => .slice (some ⟨q, 0, none⟩) 1 1) #[.int .i64 (ts.length : Int)] 3 rfl (fun x => by simp [go_sem]) (fun q => RR #[] #[.int .i64 (ts.length : Int)] none (some q)) (fun _ => RR.cl) (fun x q h _ hb => h.right hb) (fun q => mix_nil ?_))
      refine plan_write rfl (mix_call (ι := Unit) (fun _ => .string T3) (fun _ => (RK W #[] #[.int .i64 (ts.length : Int)] none (some q))) 63 #[.slice (some ⟨q, 0, none⟩) 1 1] rfl (fun x => by simp [go_sem]) (fun x h => (C3.out x q (h.2.2 q rfl)).mono (fun e x' he => ⟨(), he.1, h.1.then_ he.2, h.2.cl _ _ he.2⟩)) (fun _ => mix_nil ?_))
      refine plan_read rfl ?_; refine mix_readK (fun K hK => ?_); go_simp; refine ⟨_, (fun x => by (rw [if_neg (by (try simp only [ByteArray.size_append]); omega)]; exact ⟨rfl, rfl⟩)), hK _ (mix_nil ?_)⟩; clear hK K
      refine plan_done ?_
      rintro w1 ⟨k1, -⟩
      go_simp
      go_wp2_with fail
      go_meet
      exact ⟨rfl, rfl, below_kp k1⟩
    · refine plan_write rfl (mix_slice (fun q => .slice (some ⟨q, 0, none⟩) 1 1) #[.int .i64 (ts.length : Int)] 3 rfl (fun x => by simp [go_sem]) (fun q => RR #[] #[.int .i64 (ts.length : Int)] none (some q)) (fun _ => RR.cl) (fun x q h _ hb => h.right hb) (fun q => mix_nil ?_))
      refine plan_write rfl (mix_call (ι := Unit) (fun _ => .string T1) (fun _ => (RK W #[] #[.int .i64 (ts.length : Int)] none (some q))) 62 #[.agg #[.int .i64 g.tick, .int .i64 g.g0, .int .i64 g.g1, .int .i64 g.next, .slice fa g.free.length cf, .slice ua g.us.length cu]] rfl (fun x => by simp [go_sem]) (fun x h => (C1.out x (HB.out.trans ((below_kp h.1).mono HB.out.size))).mono (fun e x' he => ⟨(), he.1, h.1.then_ he.2, h.2.cl _ _ he.2⟩)) (fun _ => mix_nil ?_))
      refine plan_write rfl (mix_call (ι := Unit) (fun _ => .string T3) (fun _ => (RK W #[] #[.int .i64 (ts.length : Int)] none (some q))) 63 #[.slice (some ⟨q, 0, none⟩) 1 1] rfl (fun x => by simp [go_sem]) (fun x h => (C3.out x q (h.2.2 q rfl)).mono (fun e x' he => ⟨(), he.1, h.1.then_ he.2, h.2.cl _ _ he.2⟩)) (fun _ => mix_nil ?_))
      refine plan_read rfl ?_; refine mix_readK (fun K hK => ?_); go_simp; refine ⟨_, (fun x => by (rw [if_neg (by (try simp only [ByteArray.size_append]); omega)]; exact ⟨rfl, rfl⟩)), hK _ (mix_nil ?_)⟩; clear hK K
      refine plan_done ?_
      rintro w1 ⟨k1, -⟩
      go_simp
      go_wp2_with fail
      go_meet
      exact ⟨rfl, rfl, below_kp k1⟩

  obtain ⟨h1, h3, hc⟩ := hcut
  rw [h1, h3, ← HPT.out]
  have zc := hc.size
  have K2 := Lib.hid (K1.out.call hc)
  have HBC := Lib.hid (HB.out.trans (hc.mono HB.out.size))
  have HT2 := Lib.hid ((HTR.out.below (HB.out.trans (hc.mono HB.out.size))).mono (Nat.le_trans HB.out.size hc.size))
  clear h1 h3 hc C1 C3 HPT
  have lKS := K2.out.lt
  have cKS := K2.out.cell 6
  go_wp2_with fail
  go_loopw [3, 4, 5, 6] (fun s i _ _ wr => ∃ k : Nat, i = .int .i64 k ∧ k ≤ ts.length ∧ s = .string (bstr (outL (PRE ++ (ts.take k).flatMap (tickN false)))) ∧ Below wc.heap.size wc wr) (fun _ i _ _ _ => (ts.length - intOf i).toNat)
  case atStart => exact ⟨0, rfl, by omega, by simp, Below.refl _ _⟩
  case round =>
    obtain ⟨k, rfl, hk, rfl, hX⟩ := hrel
    have HX := Lib.hid hX
    have hszr := hX.size
    have KS := Lib.hid (K2.out.call hX)
    clear lKS cKS hX
    have lKR := KS.out.lt
    have cKR := KS.out.cell 6
    by_cases hlt : k < ts.length
    · obtain ⟨l, hl⟩ : ∃ l, ts.getD k [] = l := ⟨_, rfl⟩
      obtain ⟨b, o, la, cl, hta, hbB, hc, hcr, hll⟩ := (HT2.out.below HX.out).get k hlt l hl
      subst hta
      have hlm : l ∈ ts := by rw [← hl]; simp [List.getD, hlt]
      have hki : (0 : Int) ≤ (k : Int) := by omega
      have hkl : (k : Int) < (ts.length : Int) := by omega
      have hl0 : (0 : Int) ≤ (l.length : Int) := by omega
      have hbr : b < wr.heap.size := by omega
      have hnx : (ts.take (k + 1)).flatMap (tickN false) = (ts.take k).flatMap (tickN false) ++ ([(l.length : Int)] ++ l.flatMap (fieldsC false)) := by
        rw [takeT_at hlt, hl, List.flatMap_append]
        simp [tickN]
      have hle := flat_take_le (tickN false) ts (k + 1)
      rw [hnx, List.length_append, List.length_append] at hle
      have hone : [(l.length : Int)].length = 1 := rfl
      obtain ⟨A, hA⟩ : ∃ x, bstr (outL (PRE ++ (ts.take k).flatMap (tickN false))) = x := ⟨_, rfl⟩
      have zA : A.size ≤ 50000 := by
        rw [← hA, bstr_size]
        have hLl := outL_length (PRE ++ (ts.take k).flatMap (tickN false))
        rw [List.length_append] at hLl
        omega
      obtain ⟨E, hE⟩ : ∃ x, bstr (outL [(l.length : Int)]) = x := ⟨_, rfl⟩
      have zE : E.size ≤ 10 := by
        rw [← hE, bstr_size]
        have := outL_length [(l.length : Int)]
        simpa using this
      have hmem : ∀ x ∈ tickN false l, Nn x := fun x hx => HN.out x (by rw [HALL.out]; exact List.mem_append_right _ (List.mem_flatMap.2 ⟨l, hlm, hx⟩))
      have C5 := Lib.hid (fun (x : World) (p : Nat) (h : Blk x p #[.int .i64 (l.length : Int)]) => (nums_blk [(l.length : Int)] p 1 _ rfl rfl (fun n hn => hmem n (by simp only [List.mem_singleton] at hn; rw [hn]; unfold tickN; simp)) (by simp) x h).mono (fun e x' h => (⟨by rw [h.1, hE], h.2⟩ : e = .returned (.string E) ∧ Below x.heap.size x x')))
      obtain ⟨Q, hQ⟩ : ∃ x, PRE ++ (ts.take k).flatMap (tickN false) ++ [(l.length : Int)] = x := ⟨_, rfl⟩
      have hAE : bstr (outL Q) = A ++ E := by rw [← hQ, outL_append, ← bstr_append, hA, hE]
      have hQl : Q.length + (l.flatMap (fieldsC false)).length ≤ 5000 := by rw [← hQ, List.length_append, List.length_append]; omega
      have hnx2 : PRE ++ (ts.take (k + 1)).flatMap (tickN false) = Q ++ l.flatMap (fieldsC false) := by rw [hnx, ← hQ]; simp
      have HNX := Lib.hid hnx2
      have HAE := Lib.hid hAE
      have HM := Lib.hid hmem
      have HCR := Lib.hid hcr
      rw [hA]
      obtain ⟨V, hV⟩ : ∃ V, wr.alloc (.cells #[.int .i64 (l.length : Int)] 3) = V := ⟨_, rfl⟩
      have hbV : Below wr.heap.size wr V := by rw [← hV]; exact (Below.refl _ _).alloc (Nat.le_refl _) _
      have kV : Blk V wr.heap.size #[.int .i64 (l.length : Int)] := by rw [← hV]; exact Blk.new wr _ _
      have KV := Lib.hid kV
      have HBV := Lib.hid hbV
      have HCC := Lib.hid hc
      clear hlm hl hnx hnx2 hle hone hA hE hQ hAE hmem hcr hbV kV
      go_wp2_with fail
      try rw [hV]
      clear hV
      refine (C5.out _ _ KV.out).mono ?_
      rintro e w4 ⟨rfl, b4⟩
      have B4 := Lib.hid (HX.out.trans ((HBV.out.trans (b4.mono HBV.out.size)).mono HX.out.size))
      have KS4 := Lib.hid (K2.out.call B4.out)
      have hs4 := B4.out.size
      have hc4 := ((HBV.out.trans (b4.mono HBV.out.size)).cell (p := ⟨b, o + k, none⟩) hbr).trans HCC.out
      have HC4 := Lib.hid hc4
      have HCR4 := Lib.hid (HCR.out.below ((HBV.out.trans (b4.mono HBV.out.size)).mono hszr))
      clear b4 lKR cKR hc
      have lK4 := KS4.out.lt
      have cK4 := KS4.out.cell 6
      have hb4 : b < w4.heap.size := by omega
      go_wp2_with fail
      rw [← HAE.out]
      obtain ⟨wo, rfl⟩ : ∃ x, x = w4 := ⟨_, rfl⟩
      go_loopw [3, 5, 6] (fun s i _ wx => ∃ j : Nat, i = .int .i64 j ∧ j ≤ l.length ∧ s = .string (bstr (outL (Q ++ (l.take j).flatMap (fieldsC false)))) ∧ Below wo.heap.size wo wx) (fun _ i _ _ => (l.length - intOf i).toNat)
      case atStart => exact ⟨0, rfl, by omega, by simp, Below.refl _ _⟩
      case round =>
        obtain ⟨j, rfl, hj, rfl, hY⟩ := hrel
        have HY := Lib.hid hY
        have hszy := hY.size
        have KSy := Lib.hid (KS4.out.call hY)
        have hcy := (hY.cell (p := ⟨b, o + k, none⟩) hb4).trans HC4.out
        clear lK4 cK4 hY
        have lKy := KSy.out.lt
        have cKy := KSy.out.cell 6
        have hby : b < wr.heap.size := by omega
        by_cases hjl : j < l.length
        · obtain ⟨c, hcx⟩ : ∃ c, l.getD j zeroC = c := ⟨_, rfl⟩
          obtain ⟨b2, o2, hla, hbB2, q0, q1, q2, q3, q4, q5, q6⟩ := (HCR4.out.below (HY.out.mono hs4)).get j hjl c hcx
          subst hla
          have hcm : c ∈ l := by rw [← hcx]; simp [List.getD, hjl]
          have hbr2 : b2 < wr.heap.size := by omega
          have hji : (0 : Int) ≤ (j : Int) := by omega
          have hjk : (j : Int) < (l.length : Int) := by omega
          have hnx : Q ++ (l.take (j + 1)).flatMap (fieldsC false) = Q ++ (l.take j).flatMap (fieldsC false) ++ fieldsC false c := by
            rw [takeC_at hjl, hcx, List.flatMap_append]
            simp
          have hle := flat_take_le (fieldsC false) l j
          obtain ⟨A2, hA⟩ : ∃ x, bstr (outL (Q ++ (l.take j).flatMap (fieldsC false))) = x := ⟨_, rfl⟩
          have zA2 : A2.size ≤ 50000 := by
            rw [← hA, bstr_size]
            have hLl := outL_length (Q ++ (l.take j).flatMap (fieldsC false))
            rw [List.length_append] at hLl
            omega
          obtain ⟨E2, hE⟩ : ∃ x, bstr (outL (fieldsC false c)) = x := ⟨_, rfl⟩
          have zE2 : E2.size ≤ 70 := by
            rw [← hE, bstr_size]
            have := outL_length (fieldsC false c)
            simpa [fieldsC] using this
          have hun : ∀ n ∈ fieldsC false c, Nn n := fun n hn => HM.out n (by unfold tickN; exact List.mem_cons_of_mem _ (List.mem_flatMap.2 ⟨c, hcm, hn⟩))
          have C6 := Lib.hid (fun (x : World) (p : Nat) (h : Blk x p #[.int .i64 c.player, .int .i64 c.op, .int .i64 c.id, .int .i64 c.kind, .int .i64 c.x, .int .i64 c.y, .int .i64 c.target]) => (nums_blk (fieldsC false c) p 7 _ rfl rfl hun (by simp [fieldsC]) x h).mono (fun e x' h => (⟨by rw [h.1, hE], h.2⟩ : e = .returned (.string E2) ∧ Below x.heap.size x x')))
          have HNX2 := Lib.hid hnx
          have HAE2 := Lib.hid (⟨hA, hE⟩ : bstr (outL (Q ++ (l.take j).flatMap (fieldsC false))) = A2 ∧ bstr (outL (fieldsC false c)) = E2)
          rw [hA]
          obtain ⟨V, hV⟩ : ∃ V, wr.alloc (.cells #[.int .i64 c.player, .int .i64 c.op, .int .i64 c.id, .int .i64 c.kind, .int .i64 c.x, .int .i64 c.y, .int .i64 c.target] 111) = V := ⟨_, rfl⟩
          have hbV : Below wr.heap.size wr V := by rw [← hV]; exact (Below.refl _ _).alloc (Nat.le_refl _) _
          have kE : Blk V wr.heap.size #[.int .i64 c.player, .int .i64 c.op, .int .i64 c.id, .int .i64 c.kind, .int .i64 c.x, .int .i64 c.y, .int .i64 c.target] := by rw [← hV]; exact Blk.new wr _ _
          have hbV2 : Below V.heap.size V (V.alloc (.cells #[.int .i64 c.player, .int .i64 c.op, .int .i64 c.id, .int .i64 c.kind, .int .i64 c.x, .int .i64 c.y, .int .i64 c.target] 3)) := (Below.refl _ _).alloc (Nat.le_refl _) _
          have kV2 : Blk (V.alloc (.cells #[.int .i64 c.player, .int .i64 c.op, .int .i64 c.id, .int .i64 c.kind, .int .i64 c.x, .int .i64 c.y, .int .i64 c.target] 3)) V.heap.size #[.int .i64 c.player, .int .i64 c.op, .int .i64 c.id, .int .i64 c.kind, .int .i64 c.x, .int .i64 c.y, .int .i64 c.target] := Blk.new V _ _
          have hsV := hbV.size
          obtain ⟨lE, cE, -⟩ := id kE
          have HBV3 := Lib.hid hbV
          have HBV4 := Lib.hid hbV2
          have KV3 := Lib.hid kV2
          clear hcm hcx hnx hle hA hE hun hbV kE hbV2 kV2
          go_wp2_with fail
          refine (C6.out _ _ KV3.out).mono ?_
          rintro e w7 ⟨rfl, b7⟩
          have B7 := Lib.hid (HY.out.trans ((HBV3.out.trans ((HBV4.out.trans (b7.mono HBV4.out.size)).mono HBV3.out.size)).mono HY.out.size))
          clear b7 q0 q1 q2 q3 q4 q5 q6 cE hV
          go_wp2_with fail
          go_roundw
          case rel =>
            refine ⟨j + 1, by go_num, by omega, ?_, B7.out⟩
            rw [HNX2.out, outL_append, ← bstr_append, HAE2.out.1, HAE2.out.2]
          case measure => simp [intOf]; omega
        · obtain rfl : j = l.length := by omega
          rw [List.take_length, ← HNX.out]
          go_wp2_with fail
          go_roundw
          case rel => exact ⟨k + 1, by go_num, by omega, rfl, B4.out.trans (HY.out.mono B4.out.size)⟩
          case measure => simp [intOf]; omega
    · obtain rfl : k = ts.length := by omega
      rw [List.take_length]
      rw [← HALL.out]
      go_wp2_with fail
      go_ret
      exact ⟨rfl, HBC.out.trans (HX.out.mono HBC.out.size)⟩

set_option maxHeartbeats 12800000 in
set_option maxRecDepth 100000 in
theorem reeltext_any (g : G) (ts : List (List Cm)) (ua ta : Option Addr) (cu ct : Nat) (w : World) (hu : URow true w.heap.size w ua g.us) (ht : PRow w.heap.size w ta ts) (hnn : ∀ n ∈ tapeN true g ts, Nn n) (hbig : (tapeN true g ts).length ≤ 5000) (h20 : g.us.length ≤ 20) (h60 : ts.length ≤ 60) :
    Calls Try.prog 23 #[.agg #[.int .i64 g.tick, .int .i64 g.g0, .int .i64 g.g1, .int .i64 g.next, .slice ua g.us.length cu, .slice ta ts.length ct]] w
      fun e w' => e = .returned (.string (bstr (outL (tapeN true g ts)))) ∧ Below w.heap.size w w' := by
  obtain ⟨W, hW⟩ : ∃ W, w.alloc (.cells #[.int .i64 g.tick, .int .i64 g.g0, .int .i64 g.g1, .int .i64 g.next, .slice ua g.us.length cu, .slice ta ts.length ct] 35) = W := ⟨_, rfl⟩
  have hbW : Below w.heap.size w W := by rw [← hW]; exact (Below.refl _ _).alloc (Nat.le_refl _) _
  have k1 : Blk W w.heap.size #[.int .i64 g.tick, .int .i64 g.g0, .int .i64 g.g1, .int .i64 g.next, .slice ua g.us.length cu, .slice ta ts.length ct] := by rw [← hW]; exact Blk.new w _ _
  obtain ⟨T1, hT1⟩ : ∃ x, bstr (outL (newerN g)) = x := ⟨_, rfl⟩
  obtain ⟨T3, hT3⟩ : ∃ x, bstr (outL [(ts.length : Int)]) = x := ⟨_, rfl⟩
  have hbig2 := hbig
  unfold tapeN at hbig2
  rw [List.length_append, List.length_append] at hbig2
  have hst : (startN true g).length = (newerN g).length := rfl
  have hlt1 : [(ts.length : Int)].length = 1 := rfl
  have z1 : T1.size ≤ 50000 := by rw [← hT1, bstr_size]; have := outL_length (newerN g); omega
  have z3 : T3.size ≤ 10 := by rw [← hT3, bstr_size]; have := outL_length [(ts.length : Int)]; simpa using this
  have HT := Lib.hid (⟨hT1, hT3⟩ : bstr (outL (newerN g)) = T1 ∧ bstr (outL [(ts.length : Int)]) = T3)
  have C1 := Lib.hid (fun (x : World) (h : Below w.heap.size w x) => (newertext_any g ua cu x ((hu.below h).mono h.size) (fun n hn => hnn n (by unfold tapeN; simp only [List.append_assoc]; exact List.mem_append_left _ hn)) h20).mono (fun e x' h => (⟨by rw [h.1, hT1], h.2⟩ : e = .returned (.string T1) ∧ Below x.heap.size x x')))
  have C3 := Lib.hid (fun (x : World) (p : Nat) (h : Blk x p #[.int .i64 (ts.length : Int)]) => (nums_blk [(ts.length : Int)] p 1 _ rfl rfl (fun n hn => hnn n (by unfold tapeN; simp only [List.mem_singleton] at hn; simp [hn])) (by simp) x h).mono (fun e x' h => (⟨by rw [h.1, hT3], h.2⟩ : e = .returned (.string T3) ∧ Below x.heap.size x x')))
  obtain ⟨PRE, hPRE⟩ : ∃ x, newerN g ++ [(ts.length : Int)] = x := ⟨_, rfl⟩
  have hall : tapeN true g ts = PRE ++ ts.flatMap (tickN true) := by rw [← hPRE]; rfl
  have HALL := Lib.hid hall
  have hT : bstr (outL PRE) = T1 ++ T3 := by rw [← hPRE, outL_append, ← bstr_append, hT1, hT3]
  have HPT := Lib.hid hT
  have hbig3 : (PRE ++ ts.flatMap (tickN true)).length ≤ 5000 := by rw [← hall]; exact hbig
  rw [List.length_append] at hbig3
  have HTR := Lib.hid ht
  have HU := Lib.hid hu
  have HB := Lib.hid hbW
  have K1 := Lib.hid k1
  have HN := Lib.hid hnn
  have ht0 : (0 : Int) ≤ (ts.length : Int) := by omega
  have hml : maxLen ≤ 9223372036854775807 := by unfold maxLen; decide
  have hws : w.heap.size < W.heap.size := k1.lt
  clear hbW k1 hT1 hT3 hu ht hnn hall hT hPRE hst hlt1 hbig2 hbig HT
  go_enter Try.func23, Try.ntmps23
  go_upto_region 1 with fail
  try rw [hW]
  clear hW
  go_cut [1, 3] (fun s1 s3 wx => s1 = .pointer (some ⟨w.heap.size, 0, none⟩) ∧ s3 = .string (T1 ++ T3) ∧ Below W.heap.size W wx)
  case first =>
    haveI := Kw.ne (fun _ => False) W
    have cx : ∀ (x : Kw (fun _ => False) W) (i : Nat), x.w.cell? ⟨w.heap.size, i, none⟩ = (#[.int .i64 g.tick, .int .i64 g.g0, .int .i64 g.g1, .int .i64 g.next, .slice ua g.us.length cu, .slice ta ts.length ct] : Array Value)[i]? := fun x i => by rw [x.cell _ _ hws (fun h => h), K1.out.cell]
    refine region_plan 9 (.read 0 (.read 1 (.read 3 (.read 4 (.read 5 (.fork 2 (.write 6 (.write 7 (.read 8 .done))) 6 (.write 2 (.write 7 (.read 8 .done)))))))))
      (RK W #[] #[.int .i64 (ts.length : Int)] none none) ⟨Kp.drew _ _, RR.none⟩ (by kernel_rfl) (by kernel_rfl) ?_
    iterate 5 (refine plan_read rfl ?_; refine mix_readK (fun K hK => ?_); go_simp; refine hK _ (mix_nil ?_); clear hK K)
    refine plan_fork ?_ ?_
    · refine plan_write rfl (mix_call (ι := Unit) (fun _ => .string T1) (fun _ => (RK W #[] #[.int .i64 (ts.length : Int)] none none)) 68 #[.agg #[.int .i64 g.tick, .int .i64 g.g0, .int .i64 g.g1, .int .i64 g.next, .slice ua g.us.length cu]] rfl (fun x => by simp [go_sem]) (fun x h => (C1.out x (HB.out.trans ((below_kp h.1).mono HB.out.size))).mono (fun e x' he => ⟨(), he.1, h.1.then_ he.2, h.2.cl _ _ he.2⟩)) (fun _ => mix_nil ?_))
      refine plan_write rfl (mix_slice (fun q => .slice (some ⟨q, 0, none⟩) 1 1) #[.int .i64 (ts.length : Int)] 3 rfl (fun x => by simp [go_sem]) (fun q => RR #[] #[.int .i64 (ts.length : Int)] none (some q)) (fun _ => RR.cl) (fun x q h _ hb => h.right hb) (fun q => mix_nil ?_))
      refine plan_write rfl (mix_call (ι := Unit) (fun _ => .string T3) (fun _ => (RK W #[] #[.int .i64 (ts.length : Int)] none (some q))) 63 #[.slice (some ⟨q, 0, none⟩) 1 1] rfl (fun x => by simp [go_sem]) (fun x h => (C3.out x q (h.2.2 q rfl)).mono (fun e x' he => ⟨(), he.1, h.1.then_ he.2, h.2.cl _ _ he.2⟩)) (fun _ => mix_nil ?_))
      refine plan_read rfl ?_; refine mix_readK (fun K hK => ?_); go_simp; refine ⟨_, (fun x => by (rw [if_neg (by (try simp only [ByteArray.size_append]); omega)]; exact ⟨rfl, rfl⟩)), hK _ (mix_nil ?_)⟩; clear hK K
      refine plan_done ?_
      rintro w1 ⟨k1, -⟩
      go_simp
      go_wp2_with fail
      go_meet
      exact ⟨rfl, rfl, below_kp k1⟩
    · refine plan_write rfl (mix_slice (fun q => .slice (some ⟨q, 0, none⟩) 1 1) #[.int .i64 (ts.length : Int)] 3 rfl (fun x => by simp [go_sem]) (fun q => RR #[] #[.int .i64 (ts.length : Int)] none (some q)) (fun _ => RR.cl) (fun x q h _ hb => h.right hb) (fun q => mix_nil ?_))
      refine plan_write rfl (mix_call (ι := Unit) (fun _ => .string T1) (fun _ => (RK W #[] #[.int .i64 (ts.length : Int)] none (some q))) 68 #[.agg #[.int .i64 g.tick, .int .i64 g.g0, .int .i64 g.g1, .int .i64 g.next, .slice ua g.us.length cu]] rfl (fun x => by simp [go_sem]) (fun x h => (C1.out x (HB.out.trans ((below_kp h.1).mono HB.out.size))).mono (fun e x' he => ⟨(), he.1, h.1.then_ he.2, h.2.cl _ _ he.2⟩)) (fun _ => mix_nil ?_))
      refine plan_write rfl (mix_call (ι := Unit) (fun _ => .string T3) (fun _ => (RK W #[] #[.int .i64 (ts.length : Int)] none (some q))) 63 #[.slice (some ⟨q, 0, none⟩) 1 1] rfl (fun x => by simp [go_sem]) (fun x h => (C3.out x q (h.2.2 q rfl)).mono (fun e x' he => ⟨(), he.1, h.1.then_ he.2, h.2.cl _ _ he.2⟩)) (fun _ => mix_nil ?_))
      refine plan_read rfl ?_; refine mix_readK (fun K hK => ?_); go_simp; refine ⟨_, (fun x => by (rw [if_neg (by (try simp only [ByteArray.size_append]); omega)]; exact ⟨rfl, rfl⟩)), hK _ (mix_nil ?_)⟩; clear hK K
      refine plan_done ?_
      rintro w1 ⟨k1, -⟩
      go_simp
      go_wp2_with fail
      go_meet
      exact ⟨rfl, rfl, below_kp k1⟩

  obtain ⟨h1, h3, hc⟩ := hcut
  rw [h1, h3, ← HPT.out]
  have zc := hc.size
  have K2 := Lib.hid (K1.out.call hc)
  have HBC := Lib.hid (HB.out.trans (hc.mono HB.out.size))
  have HT2 := Lib.hid ((HTR.out.below (HB.out.trans (hc.mono HB.out.size))).mono (Nat.le_trans HB.out.size hc.size))
  clear h1 h3 hc C1 C3 HPT
  have lKS := K2.out.lt
  have cKS := K2.out.cell 5
  go_wp2_with fail
  go_loopw [3, 4, 5, 6] (fun s i _ _ wr => ∃ k : Nat, i = .int .i64 k ∧ k ≤ ts.length ∧ s = .string (bstr (outL (PRE ++ (ts.take k).flatMap (tickN true)))) ∧ Below wc.heap.size wc wr) (fun _ i _ _ _ => (ts.length - intOf i).toNat)
  case atStart => exact ⟨0, rfl, by omega, by simp, Below.refl _ _⟩
  case round =>
    obtain ⟨k, rfl, hk, rfl, hX⟩ := hrel
    have HX := Lib.hid hX
    have hszr := hX.size
    have KS := Lib.hid (K2.out.call hX)
    clear lKS cKS hX
    have lKR := KS.out.lt
    have cKR := KS.out.cell 5
    by_cases hlt : k < ts.length
    · obtain ⟨l, hl⟩ : ∃ l, ts.getD k [] = l := ⟨_, rfl⟩
      obtain ⟨b, o, la, cl, hta, hbB, hc, hcr, hll⟩ := (HT2.out.below HX.out).get k hlt l hl
      subst hta
      have hlm : l ∈ ts := by rw [← hl]; simp [List.getD, hlt]
      have hki : (0 : Int) ≤ (k : Int) := by omega
      have hkl : (k : Int) < (ts.length : Int) := by omega
      have hl0 : (0 : Int) ≤ (l.length : Int) := by omega
      have hbr : b < wr.heap.size := by omega
      have hnx : (ts.take (k + 1)).flatMap (tickN true) = (ts.take k).flatMap (tickN true) ++ ([(l.length : Int)] ++ l.flatMap (fieldsC true)) := by
        rw [takeT_at hlt, hl, List.flatMap_append]
        simp [tickN]
      have hle := flat_take_le (tickN true) ts (k + 1)
      rw [hnx, List.length_append, List.length_append] at hle
      have hone : [(l.length : Int)].length = 1 := rfl
      obtain ⟨A, hA⟩ : ∃ x, bstr (outL (PRE ++ (ts.take k).flatMap (tickN true))) = x := ⟨_, rfl⟩
      have zA : A.size ≤ 50000 := by
        rw [← hA, bstr_size]
        have hLl := outL_length (PRE ++ (ts.take k).flatMap (tickN true))
        rw [List.length_append] at hLl
        omega
      obtain ⟨E, hE⟩ : ∃ x, bstr (outL [(l.length : Int)]) = x := ⟨_, rfl⟩
      have zE : E.size ≤ 10 := by
        rw [← hE, bstr_size]
        have := outL_length [(l.length : Int)]
        simpa using this
      have hmem : ∀ x ∈ tickN true l, Nn x := fun x hx => HN.out x (by rw [HALL.out]; exact List.mem_append_right _ (List.mem_flatMap.2 ⟨l, hlm, hx⟩))
      have C5 := Lib.hid (fun (x : World) (p : Nat) (h : Blk x p #[.int .i64 (l.length : Int)]) => (nums_blk [(l.length : Int)] p 1 _ rfl rfl (fun n hn => hmem n (by simp only [List.mem_singleton] at hn; rw [hn]; unfold tickN; simp)) (by simp) x h).mono (fun e x' h => (⟨by rw [h.1, hE], h.2⟩ : e = .returned (.string E) ∧ Below x.heap.size x x')))
      obtain ⟨Q, hQ⟩ : ∃ x, PRE ++ (ts.take k).flatMap (tickN true) ++ [(l.length : Int)] = x := ⟨_, rfl⟩
      have hAE : bstr (outL Q) = A ++ E := by rw [← hQ, outL_append, ← bstr_append, hA, hE]
      have hQl : Q.length + (l.flatMap (fieldsC true)).length ≤ 5000 := by rw [← hQ, List.length_append, List.length_append]; omega
      have hnx2 : PRE ++ (ts.take (k + 1)).flatMap (tickN true) = Q ++ l.flatMap (fieldsC true) := by rw [hnx, ← hQ]; simp
      have HNX := Lib.hid hnx2
      have HAE := Lib.hid hAE
      have HM := Lib.hid hmem
      have HCR := Lib.hid hcr
      rw [hA]
      obtain ⟨V, hV⟩ : ∃ V, wr.alloc (.cells #[.int .i64 (l.length : Int)] 3) = V := ⟨_, rfl⟩
      have hbV : Below wr.heap.size wr V := by rw [← hV]; exact (Below.refl _ _).alloc (Nat.le_refl _) _
      have kV : Blk V wr.heap.size #[.int .i64 (l.length : Int)] := by rw [← hV]; exact Blk.new wr _ _
      have KV := Lib.hid kV
      have HBV := Lib.hid hbV
      have HCC := Lib.hid hc
      clear hlm hl hnx hnx2 hle hone hA hE hQ hAE hmem hcr hbV kV
      go_wp2_with fail
      try rw [hV]
      clear hV
      refine (C5.out _ _ KV.out).mono ?_
      rintro e w4 ⟨rfl, b4⟩
      have B4 := Lib.hid (HX.out.trans ((HBV.out.trans (b4.mono HBV.out.size)).mono HX.out.size))
      have KS4 := Lib.hid (K2.out.call B4.out)
      have hs4 := B4.out.size
      have hc4 := ((HBV.out.trans (b4.mono HBV.out.size)).cell (p := ⟨b, o + k, none⟩) hbr).trans HCC.out
      have HC4 := Lib.hid hc4
      have HCR4 := Lib.hid (HCR.out.below ((HBV.out.trans (b4.mono HBV.out.size)).mono hszr))
      clear b4 lKR cKR hc
      have lK4 := KS4.out.lt
      have cK4 := KS4.out.cell 5
      have hb4 : b < w4.heap.size := by omega
      go_wp2_with fail
      rw [← HAE.out]
      obtain ⟨wo, rfl⟩ : ∃ x, x = w4 := ⟨_, rfl⟩
      go_loopw [3, 5, 6] (fun s i _ wx => ∃ j : Nat, i = .int .i64 j ∧ j ≤ l.length ∧ s = .string (bstr (outL (Q ++ (l.take j).flatMap (fieldsC true)))) ∧ Below wo.heap.size wo wx) (fun _ i _ _ => (l.length - intOf i).toNat)
      case atStart => exact ⟨0, rfl, by omega, by simp, Below.refl _ _⟩
      case round =>
        obtain ⟨j, rfl, hj, rfl, hY⟩ := hrel
        have HY := Lib.hid hY
        have hszy := hY.size
        have KSy := Lib.hid (KS4.out.call hY)
        have hcy := (hY.cell (p := ⟨b, o + k, none⟩) hb4).trans HC4.out
        clear lK4 cK4 hY
        have lKy := KSy.out.lt
        have cKy := KSy.out.cell 5
        have hby : b < wr.heap.size := by omega
        by_cases hjl : j < l.length
        · obtain ⟨c, hcx⟩ : ∃ c, l.getD j zeroC = c := ⟨_, rfl⟩
          obtain ⟨b2, o2, hla, hbB2, q0, q1, q2, q3, q4, q5⟩ := (HCR4.out.below (HY.out.mono hs4)).get j hjl c hcx
          subst hla
          have hcm : c ∈ l := by rw [← hcx]; simp [List.getD, hjl]
          have hbr2 : b2 < wr.heap.size := by omega
          have hji : (0 : Int) ≤ (j : Int) := by omega
          have hjk : (j : Int) < (l.length : Int) := by omega
          have hnx : Q ++ (l.take (j + 1)).flatMap (fieldsC true) = Q ++ (l.take j).flatMap (fieldsC true) ++ fieldsC true c := by
            rw [takeC_at hjl, hcx, List.flatMap_append]
            simp
          have hle := flat_take_le (fieldsC true) l j
          obtain ⟨A2, hA⟩ : ∃ x, bstr (outL (Q ++ (l.take j).flatMap (fieldsC true))) = x := ⟨_, rfl⟩
          have zA2 : A2.size ≤ 50000 := by
            rw [← hA, bstr_size]
            have hLl := outL_length (Q ++ (l.take j).flatMap (fieldsC true))
            rw [List.length_append] at hLl
            omega
          obtain ⟨E2, hE⟩ : ∃ x, bstr (outL (fieldsC true c)) = x := ⟨_, rfl⟩
          have zE2 : E2.size ≤ 60 := by
            rw [← hE, bstr_size]
            have := outL_length (fieldsC true c)
            simpa [fieldsC] using this
          have hun : ∀ n ∈ fieldsC true c, Nn n := fun n hn => HM.out n (by unfold tickN; exact List.mem_cons_of_mem _ (List.mem_flatMap.2 ⟨c, hcm, hn⟩))
          have C6 := Lib.hid (fun (x : World) (p : Nat) (h : Blk x p #[.int .i64 c.player, .int .i64 c.op, .int .i64 c.id, .int .i64 c.kind, .int .i64 c.x, .int .i64 c.y]) => (nums_blk (fieldsC true c) p 6 _ rfl rfl hun (by simp [fieldsC]) x h).mono (fun e x' h => (⟨by rw [h.1, hE], h.2⟩ : e = .returned (.string E2) ∧ Below x.heap.size x x')))
          have HNX2 := Lib.hid hnx
          have HAE2 := Lib.hid (⟨hA, hE⟩ : bstr (outL (Q ++ (l.take j).flatMap (fieldsC true))) = A2 ∧ bstr (outL (fieldsC true c)) = E2)
          rw [hA]
          obtain ⟨V, hV⟩ : ∃ V, wr.alloc (.cells #[.int .i64 c.player, .int .i64 c.op, .int .i64 c.id, .int .i64 c.kind, .int .i64 c.x, .int .i64 c.y] 129) = V := ⟨_, rfl⟩
          have hbV : Below wr.heap.size wr V := by rw [← hV]; exact (Below.refl _ _).alloc (Nat.le_refl _) _
          have kE : Blk V wr.heap.size #[.int .i64 c.player, .int .i64 c.op, .int .i64 c.id, .int .i64 c.kind, .int .i64 c.x, .int .i64 c.y] := by rw [← hV]; exact Blk.new wr _ _
          have hbV2 : Below V.heap.size V (V.alloc (.cells #[.int .i64 c.player, .int .i64 c.op, .int .i64 c.id, .int .i64 c.kind, .int .i64 c.x, .int .i64 c.y] 3)) := (Below.refl _ _).alloc (Nat.le_refl _) _
          have kV2 : Blk (V.alloc (.cells #[.int .i64 c.player, .int .i64 c.op, .int .i64 c.id, .int .i64 c.kind, .int .i64 c.x, .int .i64 c.y] 3)) V.heap.size #[.int .i64 c.player, .int .i64 c.op, .int .i64 c.id, .int .i64 c.kind, .int .i64 c.x, .int .i64 c.y] := Blk.new V _ _
          have hsV := hbV.size
          obtain ⟨lE, cE, -⟩ := id kE
          have HBV3 := Lib.hid hbV
          have HBV4 := Lib.hid hbV2
          have KV3 := Lib.hid kV2
          clear hcm hcx hnx hle hA hE hun hbV kE hbV2 kV2
          go_wp2_with fail
          refine (C6.out _ _ KV3.out).mono ?_
          rintro e w7 ⟨rfl, b7⟩
          have B7 := Lib.hid (HY.out.trans ((HBV3.out.trans ((HBV4.out.trans (b7.mono HBV4.out.size)).mono HBV3.out.size)).mono HY.out.size))
          clear b7 q0 q1 q2 q3 q4 q5 cE hV
          go_wp2_with fail
          go_roundw
          case rel =>
            refine ⟨j + 1, by go_num, by omega, ?_, B7.out⟩
            rw [HNX2.out, outL_append, ← bstr_append, HAE2.out.1, HAE2.out.2]
          case measure => simp [intOf]; omega
        · obtain rfl : j = l.length := by omega
          rw [List.take_length, ← HNX.out]
          go_wp2_with fail
          go_roundw
          case rel => exact ⟨k + 1, by go_num, by omega, rfl, B4.out.trans (HY.out.mono B4.out.size)⟩
          case measure => simp [intOf]; omega
    · obtain rfl : k = ts.length := by omega
      rw [List.take_length]
      rw [← HALL.out]
      go_wp2_with fail
      go_ret
      exact ⟨rfl, HBC.out.trans (HX.out.mono HBC.out.size)⟩
end Go.Proofs.Ytlfljlhppigejab
namespace Go.Proofs.Ytlfljlhppigejab
open Go.RowKit

theorem eq_cmd (c : Cm) (w : World) : (Op.equalIn 10000 111 (.agg (cellsC c).toArray) (.agg (cellsC c).toArray)).run Try.prog w = .ok true w := by
  rw [show (10000 : Nat) = 9999 + 1 from rfl, run_equalIn_struct w 9999 _ _ _ (by kernel_rfl) (by kernel_rfl)]
  have hf : ∀ f ∈ (Try.prog.fieldsOf 111).toList, f.name ≠ "_" ∧ f.type = 3 ∧ f.offset < 7 := of_decide_eq_true (by kernel_rfl)
  refine eqFields_same w _ _ (fun f hf' => ?_)
  obtain ⟨h1, h2, h3⟩ := hf f hf'
  refine ⟨h1, h2, ?_⟩
  have : f.offset = 0 ∨ f.offset = 1 ∨ f.offset = 2 ∨ f.offset = 3 ∨ f.offset = 4 ∨ f.offset = 5 ∨ f.offset = 6 := by omega
  rcases this with h | h | h | h | h | h | h <;> rw [h]
  · exact ⟨c.player, by kernel_rfl⟩
  · exact ⟨c.op, by kernel_rfl⟩
  · exact ⟨c.id, by kernel_rfl⟩
  · exact ⟨c.kind, by kernel_rfl⟩
  · exact ⟨c.x, by kernel_rfl⟩
  · exact ⟨c.y, by kernel_rfl⟩
  · exact ⟨c.target, by kernel_rfl⟩

set_option maxHeartbeats 6400000 in
set_option maxRecDepth 100000 in
theorem sametape_any (t g0 g1 nx : Int) (us : List U) (ua ub : Option Addr) (cua cub : Nat) (hl : us.length ≤ 100000) (fr : List Int) (fa fb : Option Addr) (cfa cfb : Nat) (hfl : fr.length ≤ 100000) (ts : List (List Cm)) (ta tb : Option Addr) (cta ctb : Nat) (hts : ts.length ≤ 100000) (hcs : ∀ l ∈ ts, l.length ≤ 100000) (w : World) (hua : URow false w.heap.size w ua us) (hub : URow false w.heap.size w ub us) (hfa : Row w.heap.size w fa fr.length (fun k => .int .i64 (fr.getD k 0))) (hfb : Row w.heap.size w fb fr.length (fun k => .int .i64 (fr.getD k 0)))
    (hta : TRow w.heap.size w ta ts) (htb : TRow w.heap.size w tb ts) :
    Calls Try.prog 18 #[.agg #[.int .i64 t, .int .i64 g0, .int .i64 g1, .int .i64 nx, .slice fa fr.length cfa, .slice ua us.length cua, .slice ta ts.length cta], .agg #[.int .i64 t, .int .i64 g0, .int .i64 g1, .int .i64 nx, .slice fb fr.length cfb, .slice ub us.length cub, .slice tb ts.length ctb]] w fun e w' => e = .returned (.bool true) ∧ Below w.heap.size w w' := by
  obtain ⟨W, hW⟩ : ∃ W, (w.alloc (.cells #[.int .i64 t, .int .i64 g0, .int .i64 g1, .int .i64 nx, .slice fa fr.length cfa, .slice ua us.length cua, .slice ta ts.length cta] 29)).alloc (.cells #[.int .i64 t, .int .i64 g0, .int .i64 g1, .int .i64 nx, .slice fb fr.length cfb, .slice ub us.length cub, .slice tb ts.length ctb] 29) = W := ⟨_, rfl⟩
  have hbW : Below w.heap.size w W := by rw [← hW]; exact ((Below.refl _ _).alloc (Nat.le_refl _) _).alloc (by simp) _
  have k1 : Blk W w.heap.size #[.int .i64 t, .int .i64 g0, .int .i64 g1, .int .i64 nx, .slice fa fr.length cfa, .slice ua us.length cua, .slice ta ts.length cta] := by rw [← hW]; exact (Blk.new w _ _).alloc _
  have k2 : Blk W (w.heap.size + 1) #[.int .i64 t, .int .i64 g0, .int .i64 g1, .int .i64 nx, .slice fb fr.length cfb, .slice ub us.length cub, .slice tb ts.length ctb] := by
    rw [← hW]
    have := Blk.new (w.alloc (.cells #[.int .i64 t, .int .i64 g0, .int .i64 g1, .int .i64 nx, .slice fa fr.length cfa, .slice ua us.length cua, .slice ta ts.length cta] 29)) #[.int .i64 t, .int .i64 g0, .int .i64 g1, .int .i64 nx, .slice fb fr.length cfb, .slice ub us.length cub, .slice tb ts.length ctb] 29
    simpa using this
  obtain ⟨l1, c1, -⟩ := id k1
  obtain ⟨l2, c2, -⟩ := id k2
  have hsW := hbW.size
  have HA := Lib.hid ((hua.below hbW).mono hsW)
  have HB := Lib.hid ((hub.below hbW).mono hsW)
  have HTA := Lib.hid ((hta.below hbW).mono hsW)
  have HTB := Lib.hid ((htb.below hbW).mono hsW)
  have HFA := Lib.hid ((hfa.below hbW).mono hsW)
  have HFB := Lib.hid ((hfb.below hbW).mono hsW)
  clear hfa hfb
  have K1 := Lib.hid k1
  have K2 := Lib.hid k2
  have HBW := Lib.hid hbW
  have HCS := Lib.hid hcs
  have hn0 : (0 : Int) ≤ (ts.length : Int) := by omega
  clear hua hub hta htb hbW k1 k2 hcs
  go_enter Try.func18, Try.ntmps18
  go_upto_region 1 with fail
  try rw [hW]
  clear hW
  go_wp2_with fail
  go_loopw [5, 6] (fun i _ wr => ∃ k : Nat, i = .int .i64 k ∧ k ≤ ts.length ∧ Below W.heap.size W wr) (fun i _ _ => (ts.length - intOf i).toNat)
  case atStart => exact ⟨0, rfl, by omega, Below.refl _ _⟩
  case round =>
    obtain ⟨k, rfl, hk, hX⟩ := hrel
    have HX := Lib.hid hX
    have hsz := hX.size
    obtain ⟨l5, c5, -⟩ := id (K1.out.call hX)
    obtain ⟨l6, c6, -⟩ := id (K2.out.call hX)
    clear c1 c2
    by_cases hlt : k < ts.length
    · obtain ⟨l, hl'⟩ : ∃ l, ts.getD k [] = l := ⟨_, rfl⟩
      obtain ⟨b1, o1, la1, cl1, rfl, hb1, t1, r1, -⟩ := (HTA.out.below hX).get k hlt l hl'
      obtain ⟨b2, o2, la2, cl2, rfl, hb2, t2, r2, -⟩ := (HTB.out.below hX).get k hlt l hl'
      have hll : l.length ≤ 100000 := HCS.out l (by rw [← hl']; simp [List.getD, hlt])
      have hki : (0 : Int) ≤ (k : Int) := by omega
      have hkl : (k : Int) < (ts.length : Int) := by omega
      have l7 : b1 < wr.heap.size := by omega
      have l8 : b2 < wr.heap.size := by omega
      have hl0 : (0 : Int) ≤ (l.length : Int) := by omega
      have R1 := Lib.hid (r1.mono hsz)
      have R2 := Lib.hid (r2.mono hsz)
      have dl : ((l.length : Int) != (l.length : Int)) = false := by simp
      obtain ⟨wo, rfl⟩ : ∃ x, x = wr := ⟨_, rfl⟩
      clear hl' hX r1 r2
      go_wp2_with fail
      go_quiet (fail)
      go_wp2_with fail
      have hbd := below_drewN (Below.refl wo.heap.size wo) 1
      go_loopw [6] (fun i wx => ∃ j : Nat, i = .int .i64 j ∧ j ≤ l.length ∧ Below wo.heap.size wo wx) (fun i _ => (l.length - intOf i).toNat)
      case atStart => exact ⟨0, rfl, by omega, by first | exact below_drewN (Below.refl _ _) _ | exact (Below.refl _ _).drew⟩
      case round =>
        obtain ⟨j, rfl, hj, hY⟩ := hrel
        have HY := Lib.hid hY
        have hszy := hY.size
        have hXY := HX.out.trans (hY.mono hsz)
        obtain ⟨l9, c9, -⟩ := id (K1.out.call hXY)
        obtain ⟨l10, c10, -⟩ := id (K2.out.call hXY)
        have t1y := (hY.cell (p := ⟨b1, o1 + k, none⟩) l7).trans t1
        have t2y := (hY.cell (p := ⟨b2, o2 + k, none⟩) l8).trans t2
        have l7' : b1 < wr.heap.size := by omega
        have l8' : b2 < wr.heap.size := by omega
        clear hXY
        by_cases hjl : j < l.length
        · obtain ⟨c, hc⟩ : ∃ c, l.getD j zeroC = c := ⟨_, rfl⟩
          obtain ⟨b3, o3, rfl, hb3, q0, q1, q2, q3, q4, q5, q6⟩ := (R1.out.below hY).get j hjl c hc
          obtain ⟨b4, o4, rfl, hb4, p0, p1, p2, p3, p4, p5, p6⟩ := (R2.out.below hY).get j hjl c hc
          have hji : (0 : Int) ≤ (j : Int) := by omega
          have hjk : (j : Int) < (l.length : Int) := by omega
          have l11 : b3 < wr.heap.size := by omega
          have l12 : b4 < wr.heap.size := by omega
          have heu : ∀ W : World, (Op.equalIn 10000 111 (.agg #[.int .i64 c.player, .int .i64 c.op, .int .i64 c.id, .int .i64 c.kind, .int .i64 c.x, .int .i64 c.y, .int .i64 c.target]) (.agg #[.int .i64 c.player, .int .i64 c.op, .int .i64 c.id, .int .i64 c.kind, .int .i64 c.x, .int .i64 c.y, .int .i64 c.target])).run Try.prog W = .ok true W := eq_cmd c
          clear hc hY
          go_wp2_with fail
          go_quiet (fail)
          go_wp2_with fail
          go_roundw
          case rel => exact ⟨j + 1, by go_num, by omega, below_drewN HY.out _⟩
          case measure => simp [intOf]; omega
        · obtain rfl : j = l.length := by omega
          clear hY
          go_wp2_with fail
          go_roundw
          case rel => exact ⟨k + 1, by go_num, by omega, HX.out.trans (HY.out.mono hsz)⟩
          case measure => simp [intOf]; omega
    · obtain rfl : k = ts.length := by omega
      have HBE : Hid (Below w.heap.size w wr) := Lib.hid (HBW.out.trans (hX.mono hsW))
      clear hX
      go_wp2_with fail
      refine (sameelder_any t g0 g1 nx us ua ub cua cub hl fr fa fb cfa cfb hfl _ ((HA.out.below HX.out).mono hsz) ((HB.out.below HX.out).mono hsz) ((HFA.out.below HX.out).mono hsz) ((HFB.out.below HX.out).mono hsz)).mono ?_
      rintro e w9 ⟨rfl, b9⟩
      have B9 := Lib.hid b9
      clear b9
      go_wp2_with fail
      go_ret
      exact ⟨rfl, HBE.out.trans (B9.out.mono HBE.out.size)⟩
end Go.Proofs.Ytlfljlhppigejab
namespace Go.Proofs.Ytlfljlhppigejab
open Go.RowKit

theorem eq_order (c : Cm) (w : World) : (Op.equalIn 10000 129 (.agg (cellsO c).toArray) (.agg (cellsO c).toArray)).run Try.prog w = .ok true w := by
  rw [show (10000 : Nat) = 9999 + 1 from rfl, run_equalIn_struct w 9999 _ _ _ (by kernel_rfl) (by kernel_rfl)]
  have hf : ∀ f ∈ (Try.prog.fieldsOf 129).toList, f.name ≠ "_" ∧ f.type = 3 ∧ f.offset < 6 := of_decide_eq_true (by kernel_rfl)
  refine eqFields_same w _ _ (fun f hf' => ?_)
  obtain ⟨h1, h2, h3⟩ := hf f hf'
  refine ⟨h1, h2, ?_⟩
  have : f.offset = 0 ∨ f.offset = 1 ∨ f.offset = 2 ∨ f.offset = 3 ∨ f.offset = 4 ∨ f.offset = 5 := by omega
  rcases this with h | h | h | h | h | h <;> rw [h]
  · exact ⟨c.player, by kernel_rfl⟩
  · exact ⟨c.op, by kernel_rfl⟩
  · exact ⟨c.id, by kernel_rfl⟩
  · exact ⟨c.kind, by kernel_rfl⟩
  · exact ⟨c.x, by kernel_rfl⟩
  · exact ⟨c.y, by kernel_rfl⟩

set_option maxHeartbeats 6400000 in
set_option maxRecDepth 100000 in
theorem samereel_any (t g0 g1 nx : Int) (us : List U) (ua ub : Option Addr) (cua cub : Nat) (hl : us.length ≤ 100000) (ts : List (List Cm)) (ta tb : Option Addr) (cta ctb : Nat) (hts : ts.length ≤ 100000) (hcs : ∀ l ∈ ts, l.length ≤ 100000) (w : World) (hua : URow true w.heap.size w ua us) (hub : URow true w.heap.size w ub us)
    (hta : PRow w.heap.size w ta ts) (htb : PRow w.heap.size w tb ts) :
    Calls Try.prog 24 #[.agg #[.int .i64 t, .int .i64 g0, .int .i64 g1, .int .i64 nx, .slice ua us.length cua, .slice ta ts.length cta], .agg #[.int .i64 t, .int .i64 g0, .int .i64 g1, .int .i64 nx, .slice ub us.length cub, .slice tb ts.length ctb]] w fun e w' => e = .returned (.bool true) ∧ Below w.heap.size w w' := by
  obtain ⟨W, hW⟩ : ∃ W, (w.alloc (.cells #[.int .i64 t, .int .i64 g0, .int .i64 g1, .int .i64 nx, .slice ua us.length cua, .slice ta ts.length cta] 35)).alloc (.cells #[.int .i64 t, .int .i64 g0, .int .i64 g1, .int .i64 nx, .slice ub us.length cub, .slice tb ts.length ctb] 35) = W := ⟨_, rfl⟩
  have hbW : Below w.heap.size w W := by rw [← hW]; exact ((Below.refl _ _).alloc (Nat.le_refl _) _).alloc (by simp) _
  have k1 : Blk W w.heap.size #[.int .i64 t, .int .i64 g0, .int .i64 g1, .int .i64 nx, .slice ua us.length cua, .slice ta ts.length cta] := by rw [← hW]; exact (Blk.new w _ _).alloc _
  have k2 : Blk W (w.heap.size + 1) #[.int .i64 t, .int .i64 g0, .int .i64 g1, .int .i64 nx, .slice ub us.length cub, .slice tb ts.length ctb] := by
    rw [← hW]
    have := Blk.new (w.alloc (.cells #[.int .i64 t, .int .i64 g0, .int .i64 g1, .int .i64 nx, .slice ua us.length cua, .slice ta ts.length cta] 35)) #[.int .i64 t, .int .i64 g0, .int .i64 g1, .int .i64 nx, .slice ub us.length cub, .slice tb ts.length ctb] 35
    simpa using this
  obtain ⟨l1, c1, -⟩ := id k1
  obtain ⟨l2, c2, -⟩ := id k2
  have hsW := hbW.size
  have HA := Lib.hid ((hua.below hbW).mono hsW)
  have HB := Lib.hid ((hub.below hbW).mono hsW)
  have HTA := Lib.hid ((hta.below hbW).mono hsW)
  have HTB := Lib.hid ((htb.below hbW).mono hsW)
  have K1 := Lib.hid k1
  have K2 := Lib.hid k2
  have HBW := Lib.hid hbW
  have HCS := Lib.hid hcs
  have hn0 : (0 : Int) ≤ (ts.length : Int) := by omega
  clear hua hub hta htb hbW k1 k2 hcs
  go_enter Try.func24, Try.ntmps24
  go_upto_region 1 with fail
  try rw [hW]
  clear hW
  go_wp2_with fail
  go_loopw [5, 6] (fun i _ wr => ∃ k : Nat, i = .int .i64 k ∧ k ≤ ts.length ∧ Below W.heap.size W wr) (fun i _ _ => (ts.length - intOf i).toNat)
  case atStart => exact ⟨0, rfl, by omega, Below.refl _ _⟩
  case round =>
    obtain ⟨k, rfl, hk, hX⟩ := hrel
    have HX := Lib.hid hX
    have hsz := hX.size
    obtain ⟨l5, c5, -⟩ := id (K1.out.call hX)
    obtain ⟨l6, c6, -⟩ := id (K2.out.call hX)
    clear c1 c2
    by_cases hlt : k < ts.length
    · obtain ⟨l, hl'⟩ : ∃ l, ts.getD k [] = l := ⟨_, rfl⟩
      obtain ⟨b1, o1, la1, cl1, rfl, hb1, t1, r1, -⟩ := (HTA.out.below hX).get k hlt l hl'
      obtain ⟨b2, o2, la2, cl2, rfl, hb2, t2, r2, -⟩ := (HTB.out.below hX).get k hlt l hl'
      have hll : l.length ≤ 100000 := HCS.out l (by rw [← hl']; simp [List.getD, hlt])
      have hki : (0 : Int) ≤ (k : Int) := by omega
      have hkl : (k : Int) < (ts.length : Int) := by omega
      have l7 : b1 < wr.heap.size := by omega
      have l8 : b2 < wr.heap.size := by omega
      have hl0 : (0 : Int) ≤ (l.length : Int) := by omega
      have R1 := Lib.hid (r1.mono hsz)
      have R2 := Lib.hid (r2.mono hsz)
      have dl : ((l.length : Int) != (l.length : Int)) = false := by simp
      obtain ⟨wo, rfl⟩ : ∃ x, x = wr := ⟨_, rfl⟩
      clear hl' hX r1 r2
      go_wp2_with fail
      go_quiet (fail)
      go_wp2_with fail
      have hbd := below_drewN (Below.refl wo.heap.size wo) 1
      go_loopw [6] (fun i wx => ∃ j : Nat, i = .int .i64 j ∧ j ≤ l.length ∧ Below wo.heap.size wo wx) (fun i _ => (l.length - intOf i).toNat)
      case atStart => exact ⟨0, rfl, by omega, by first | exact below_drewN (Below.refl _ _) _ | exact (Below.refl _ _).drew⟩
      case round =>
        obtain ⟨j, rfl, hj, hY⟩ := hrel
        have HY := Lib.hid hY
        have hszy := hY.size
        have hXY := HX.out.trans (hY.mono hsz)
        obtain ⟨l9, c9, -⟩ := id (K1.out.call hXY)
        obtain ⟨l10, c10, -⟩ := id (K2.out.call hXY)
        have t1y := (hY.cell (p := ⟨b1, o1 + k, none⟩) l7).trans t1
        have t2y := (hY.cell (p := ⟨b2, o2 + k, none⟩) l8).trans t2
        have l7' : b1 < wr.heap.size := by omega
        have l8' : b2 < wr.heap.size := by omega
        clear hXY
        by_cases hjl : j < l.length
        · obtain ⟨c, hc⟩ : ∃ c, l.getD j zeroC = c := ⟨_, rfl⟩
          obtain ⟨b3, o3, rfl, hb3, q0, q1, q2, q3, q4, q5⟩ := (R1.out.below hY).get j hjl c hc
          obtain ⟨b4, o4, rfl, hb4, p0, p1, p2, p3, p4, p5⟩ := (R2.out.below hY).get j hjl c hc
          have hji : (0 : Int) ≤ (j : Int) := by omega
          have hjk : (j : Int) < (l.length : Int) := by omega
          have l11 : b3 < wr.heap.size := by omega
          have l12 : b4 < wr.heap.size := by omega
          have heu : ∀ W : World, (Op.equalIn 10000 129 (.agg #[.int .i64 c.player, .int .i64 c.op, .int .i64 c.id, .int .i64 c.kind, .int .i64 c.x, .int .i64 c.y]) (.agg #[.int .i64 c.player, .int .i64 c.op, .int .i64 c.id, .int .i64 c.kind, .int .i64 c.x, .int .i64 c.y])).run Try.prog W = .ok true W := eq_order c
          clear hc hY
          go_wp2_with fail
          go_quiet (fail)
          go_wp2_with fail
          go_roundw
          case rel => exact ⟨j + 1, by go_num, by omega, below_drewN HY.out _⟩
          case measure => simp [intOf]; omega
        · obtain rfl : j = l.length := by omega
          clear hY
          go_wp2_with fail
          go_roundw
          case rel => exact ⟨k + 1, by go_num, by omega, HX.out.trans (HY.out.mono hsz)⟩
          case measure => simp [intOf]; omega
    · obtain rfl : k = ts.length := by omega
      have HBE : Hid (Below w.heap.size w wr) := Lib.hid (HBW.out.trans (hX.mono hsW))
      clear hX
      go_wp2_with fail
      refine (samenewer_any t g0 g1 nx us ua ub cua cub hl _ ((HA.out.below HX.out).mono hsz) ((HB.out.below HX.out).mono hsz)).mono ?_
      rintro e w9 ⟨rfl, b9⟩
      have B9 := Lib.hid b9
      clear b9
      go_wp2_with fail
      go_ret
      exact ⟨rfl, HBE.out.trans (B9.out.mono HBE.out.size)⟩
end Go.Proofs.Ytlfljlhppigejab
