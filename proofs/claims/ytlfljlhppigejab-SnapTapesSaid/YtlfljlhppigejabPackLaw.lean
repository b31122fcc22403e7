/-
  What the program reads of bytes as a state, in one form. A state that is right: its bytes are read as itself. A tape (a reel) that is right: its bytes are read as itself. What the program reads of bytes as a tape or a reel, in one form. The walk of saves: a closed fact: a state is read. The walk of the law's LightReel. The law SnapTapes: any tapes and reels: their bytes, which are read.
-/
import Derived.Test.YtlfljlhppigejabPackTop
import Derived.Test.YtlfljlhppigejabPackBack
import Derived.Test.YtlfljlhppigejabPackPure
import Derived.Test.YtlfljlhppigejabWireRefA
import Derived.Test.YtlfljlhppigejabReelAll
import Derived.Test.YtlfljlhppigejabTapeAll
import Derived.Test.YtlfljlhppigejabPackRTop
namespace Go.Proofs.Ytlfljlhppigejab
open Go.RowKit

def gotE (l : List UInt8) : G := if stateF false l = 0 then (elderI (openL 69 l)).1 else zeroG false
theorem elderof_one (s : ByteArray) (hs : s.size ≤ 900000) (l : List UInt8) (hl : s.data.toList = l) (w : World) : Calls Try.prog 45 #[.string s] w fun e w' => ∃ fa cf ua cu, e = .returned (.tuple #[.agg #[.int .i64 (gotE l).tick, .int .i64 (gotE l).g0, .int .i64 (gotE l).g1, .int .i64 (gotE l).next, .slice fa (gotE l).free.length cf, .slice ua (gotE l).us.length cu], errV (stateF false l)]) ∧ Row w'.heap.size w' fa (gotE l).free.length (fun k => .int .i64 ((gotE l).free.getD k 0)) ∧ URow false w'.heap.size w' ua (gotE l).us ∧ Below w.heap.size w w' := by
  subst hl
  refine (elderof_any s hs w).mono ?_
  rintro e w' ⟨h1, h2, h3⟩
  by_cases h0 : stateF false s.data.toList = 0
  · have hg : gotE s.data.toList = _ := if_pos h0
    rw [hg, h0]
    obtain ⟨fa, cf, ua, cu, rfl, r1, r2⟩ := h2 h0
    exact ⟨fa, cf, ua, cu, rfl, r1, r2, h3⟩
  · have hg : gotE s.data.toList = _ := if_neg h0
    rw [hg]
    exact ⟨none, 0, none, 0, h1 h0, fun k hk => (by simp [zeroG] at hk), fun k hk => (by simp [zeroG] at hk), h3⟩
def gotN (l : List UInt8) : G := if stateF true l = 0 then (newerI (openL 78 l)).1 else zeroG true
theorem newerof_one (s : ByteArray) (hs : s.size ≤ 900000) (l : List UInt8) (hl : s.data.toList = l) (w : World) : Calls Try.prog 46 #[.string s] w fun e w' => ∃ ua cu, e = .returned (.tuple #[.agg #[.int .i64 (gotN l).tick, .int .i64 (gotN l).g0, .int .i64 (gotN l).g1, .int .i64 (gotN l).next, .slice ua (gotN l).us.length cu], errV (stateF true l)]) ∧ URow true w'.heap.size w' ua (gotN l).us ∧ Below w.heap.size w w' := by
  subst hl
  refine (newerof_any s hs w).mono ?_
  rintro e w' ⟨h1, h2, h3⟩
  by_cases h0 : stateF true s.data.toList = 0
  · have hg : gotN s.data.toList = _ := if_pos h0
    rw [hg, h0]
    obtain ⟨ua, cu, rfl, r2, -, -⟩ := h2 h0
    exact ⟨ua, cu, rfl, r2, h3⟩
  · have hg : gotN s.data.toList = _ := if_neg h0
    rw [hg]
    exact ⟨none, 0, h1 h0, fun k hk => (by simp [zeroG] at hk), h3⟩
end Go.Proofs.Ytlfljlhppigejab
namespace Go.Proofs.Ytlfljlhppigejab
open Go.RowKit

theorem state_back (n : Bool) (g : G) (hn : g.new = n) (hf : n = true → g.free = []) (h : faultOf g = 0) :
    bytesOf n g = (frameL (kindB n) (outL (startN n g)), 0) ∧ stateF n (frameL (kindB n) (outL (startN n g))) = 0 ∧ startI n (openL (kindB n) (frameL (kindB n) (outL (startN n g)))) = (backG n g, ([], 0)) := by
  have hr := (right_iff g).1 h
  have hN := right_numbers n hr hn
  have hfree : g.free.length ≤ 200 := hr.unfree
  have hus : g.us.length ≤ 20 := hr.few
  have e := startI_wr n g hN (fun _ => hfree) hus []
  rw [List.append_nil] at e
  have ho : openL (kindB n) (frameL (kindB n) (outL (startN n g))) = (outL (startN n g), 0) := openL_frame _ _
  obtain ⟨L, hL⟩ : ∃ x, frameL (kindB n) (outL (startN n g)) = x := ⟨_, rfl⟩
  rw [hL] at ho ⊢
  obtain ⟨O, hO⟩ : ∃ x, outL (startN n g) = x := ⟨_, rfl⟩
  rw [hO] at ho e
  refine ⟨?_, ?_, ?_⟩
  · unfold bytesOf
    rw [if_neg (by omega), hL]
  · unfold stateF
    rw [ho, e]
    have h1 : endI (([], 0) : St) = 0 := rfl
    rw [h1, if_neg (by simp), fault_back n g hn hf, h]
  · rw [ho, e]
theorem state_bad (n : Bool) (g : G) (h : faultOf g ≠ 0) : bytesOf n g = ([], faultOf g) := by
  unfold bytesOf
  rw [if_pos h]
theorem right_few {g : G} (h : faultOf g = 0) : g.free.length ≤ 200 ∧ g.us.length ≤ 20 := ⟨((right_iff g).1 h).unfree, ((right_iff g).1 h).few⟩
theorem urow_backE {B : Nat} {w : World} {a : Option Addr} {us : List U} (h : URow false B w a us) : URow false B w a (us.map (backU false)) := fun i hi => by
  have hi' : i < us.length := by simpa using hi
  obtain ⟨b, o, h1, h2, h3⟩ := h i hi'
  refine ⟨b, o, h1, h2, fun j hj => ?_⟩
  rw [h3 j hj]
  simp [List.getD, hi', cellsOf, cellsE, backU]
theorem urow_backN {B : Nat} {w : World} {a : Option Addr} {us : List U} (h : URow true B w a us) : URow true B w a (us.map (backU true)) := by
  have e : us.map (backU true) = us := by
    have : backU true = id := by funext u; simp [backU]
    rw [this, List.map_id]
  rw [e]
  exact h

end Go.Proofs.Ytlfljlhppigejab
namespace Go.Proofs.Ytlfljlhppigejab
open Go.RowKit

theorem cut_parts {ts : List (List Cm)} {t : Int} (h : cntFault ts t = 0) : (ts.length : Int) ≤ 60 - t ∧ ∀ l ∈ ts, l.length ≤ 8 := by
  unfold cntFault at h
  split at h
  · simp at h
  · next h1 =>
    refine ⟨by omega, fun l hl => ?_⟩
    have h2 : ¬ ts.any (fun l => decide (8 < l.length)) = true := fun e => h1 (Or.inr e)
    rw [List.any_eq_true] at h2
    have h3 : ¬ 8 < l.length := fun e => h2 ⟨l, hl, decide_eq_true e⟩
    omega
theorem tape_parts (n : Bool) (g : G) (ts : List (List Cm)) (h : tapeFN n g ts = 0) : faultOf g = 0 ∧ cntFault ts g.tick = 0 ∧ ∀ l ∈ ts, ∀ c ∈ l, ∀ x ∈ fieldsC n c, 0 ≤ x := by
  cases n
  · unfold tapeFN tapeFault at h
    simp only [Bool.false_eq_true, if_false] at h
    split at h
    · next h1 => exact absurd h h1
    · next h1 =>
      split at h
      · next h2 => exact absurd h h2
      · next h2 =>
        split at h
        · simp at h
        · next h3 =>
          refine ⟨by omega, by omega, fun l hl c hc x hx => ?_⟩
          have h4 : ¬ negC c = true := fun e => h3 (List.any_eq_true.2 ⟨l, hl, List.any_eq_true.2 ⟨c, hc, e⟩⟩)
          unfold negC at h4
          rw [decide_eq_true_eq] at h4
          simp only [fieldsC, Bool.false_eq_true, if_false, List.mem_cons, List.not_mem_nil, or_false] at hx
          rcases hx with rfl | rfl | rfl | rfl | rfl | rfl | rfl <;> omega
  · unfold tapeFN reelFault at h
    simp only [if_true] at h
    split at h
    · next h1 => exact absurd h h1
    · next h1 =>
      split at h
      · next h2 => exact absurd h h2
      · next h2 =>
        split at h
        · simp at h
        · next h3 =>
          refine ⟨by omega, by omega, fun l hl c hc x hx => ?_⟩
          have h4 : ¬ negO c = true := fun e => h3 (List.any_eq_true.2 ⟨l, hl, List.any_eq_true.2 ⟨c, hc, e⟩⟩)
          unfold negO at h4
          rw [decide_eq_true_eq] at h4
          simp only [fieldsC, if_true, List.mem_cons, List.not_mem_nil, or_false] at hx
          rcases hx with rfl | rfl | rfl | rfl | rfl | rfl <;> omega
theorem fields_fit (n : Bool) {c : Cm} (h : c.Fits) : ∀ x ∈ fieldsC n c, x < 9223372036854775808 := by
  obtain ⟨h0, h1, h2, h3, h4, h5, h6⟩ := h
  unfold Fits64 at h0 h1 h2 h3 h4 h5 h6
  intro x hx
  cases n
  · simp only [fieldsC, Bool.false_eq_true, if_false, List.mem_cons, List.not_mem_nil, or_false] at hx
    rcases hx with rfl | rfl | rfl | rfl | rfl | rfl | rfl <;> omega
  · simp only [fieldsC, if_true, List.mem_cons, List.not_mem_nil, or_false] at hx
    rcases hx with rfl | rfl | rfl | rfl | rfl | rfl <;> omega
theorem ticks_back (ts : List (List Cm)) : ts.map (List.map (backC false)) = ts := by
  have e : backC false = id := by funext c; simp [backC]
  rw [e]
  simp
theorem cnt_back (n : Bool) (ts : List (List Cm)) (t : Int) : cntFault (ts.map (List.map (backC n))) t = cntFault ts t := by
  unfold cntFault
  rw [List.length_map, List.any_map]
  simp [Function.comp_def]
theorem negO_back (ts : List (List Cm)) : (ts.map (List.map (backC true))).any (fun l => l.any negO) = ts.any (fun l => l.any negO) := by
  rw [List.any_map]
  congr 1
  funext l
  simp only [Function.comp_def, List.any_map]
  rfl
theorem tape_same (n : Bool) (g : G) (ts : List (List Cm)) (hn : g.new = n) (hf : n = true → g.free = []) : tapeFN n (backG n g) (ts.map (List.map (backC n))) = tapeFN n g ts := by
  have e1 := fault_back n g hn hf
  have e2 := cnt_back n ts g.tick
  have e3 : (backG n g).tick = g.tick := rfl
  cases n
  · unfold tapeFN tapeFault
    simp only [Bool.false_eq_true, if_false]
    rw [e1, e3, e2, ticks_back]
  · unfold tapeFN reelFault
    simp only [if_true]
    rw [e1, e3, e2, negO_back]
theorem flat_le {α : Type} (f : α → List Int) (m : Nat) (l : List α) (h : ∀ x ∈ l, (f x).length ≤ m) : (l.flatMap f).length ≤ l.length * m := by
  induction l with
  | nil => simp
  | cons x l ih =>
    rw [List.flatMap_cons, List.length_append, List.length_cons, Nat.succ_mul]
    have h1 := h x (by simp)
    have h2 := ih (fun y hy => h y (by simp [hy]))
    omega
/-- What is known of a tape without fault. -/
theorem tape_back (n : Bool) (g : G) (ts : List (List Cm)) (hn : g.new = n) (hf : n = true → g.free = []) (hfit : ∀ l ∈ ts, ∀ c ∈ l, c.Fits) (h : tapeFN n g ts = 0) :
    tapeBytesOf n g ts = (frameL (kindT n) (outL (tapeN n g ts)), 0) ∧ tapeF n (frameL (kindT n) (outL (tapeN n g ts))) = 0 ∧ tapeI n (openL (kindT n) (frameL (kindT n) (outL (tapeN n g ts)))) = (backG n g, ts.map (List.map (backC n)), ([], 0)) ∧
      (∀ x ∈ tapeN n g ts, Nn x) ∧ (tapeN n g ts).length ≤ 5000 ∧ g.free.length ≤ 200 ∧ g.us.length ≤ 20 ∧ ts.length ≤ 60 ∧ ∀ l ∈ ts, l.length ≤ 8 := by
  obtain ⟨p1, p2, p3⟩ := tape_parts n g ts h
  have hr := (right_iff g).1 p1
  have hN := right_numbers n hr hn
  have h1 := hr.unfree
  have h2 := hr.few
  have h3 := hr.head
  obtain ⟨h4, h8⟩ := cut_parts p2
  have ht : 0 ≤ g.tick := by unfold headBad at h3; omega
  have h60 : ts.length ≤ 60 := by omega
  have hc : ∀ l ∈ ts, ∀ c ∈ l, ∀ x ∈ fieldsC n c, Nn x := fun l hl c hc x hx => ⟨p3 l hl c hc x hx, fields_fit n (hfit l hl c hc) x hx⟩
  have e := tapeI_wr n g ts hN (fun _ => h1) h2 h60 hc h8
  have hall : ∀ x ∈ tapeN n g ts, Nn x := by
    intro x hx
    unfold tapeN at hx
    rcases List.mem_append.1 hx with hx | hx
    · rcases List.mem_append.1 hx with hx | hx
      · exact hN x hx
      · obtain rfl : x = (ts.length : Int) := by simpa using hx
        exact ⟨by omega, by omega⟩
    · obtain ⟨l, hl, hx⟩ := List.mem_flatMap.1 hx
      unfold tickN at hx
      rcases List.mem_cons.1 hx with rfl | hx
      · have := h8 l hl
        exact ⟨by omega, by omega⟩
      · obtain ⟨c, hcl, hx⟩ := List.mem_flatMap.1 hx
        exact hc l hl c hcl x hx
  have hlen : (tapeN n g ts).length ≤ 5000 := by
    unfold tapeN
    rw [List.length_append, List.length_append]
    have q1 : (startN n g).length ≤ 406 := by
      cases n
      · have : (elderN g).length ≤ 406 := by rw [elderN_length]; omega
        exact this
      · have : (newerN g).length ≤ 406 := by
          unfold newerN
          rw [List.length_append, flat_ints_length fieldsN 11 (fun _ => rfl)]
          simp
          omega
        exact this
    have q2 : (ts.flatMap (tickN n)).length ≤ ts.length * 57 := flat_le _ 57 ts (fun l hl => by
      unfold tickN
      rw [List.length_cons]
      have := flat_le (fieldsC n) 7 l (fun c _ => by cases n <;> simp [fieldsC])
      have := h8 l hl
      omega)
    have q3 : [(ts.length : Int)].length = 1 := rfl
    omega
  have ho : openL (kindT n) (frameL (kindT n) (outL (tapeN n g ts))) = (outL (tapeN n g ts), 0) := openL_frame _ _
  refine ⟨?_, ?_, ?_, hall, hlen, h1, h2, h60, h8⟩
  · have hbad : badL (tapeN n g ts) = false := by
      unfold badL
      rw [List.any_eq_false]
      intro x hx
      have := (hall x hx).1
      simp
      omega
    unfold tapeBytesOf
    rw [if_neg (by omega), hbad, if_neg (by simp)]
  · obtain ⟨L, hL⟩ : ∃ x, frameL (kindT n) (outL (tapeN n g ts)) = x := ⟨_, rfl⟩
    rw [hL] at ho ⊢
    unfold tapeF
    rw [ho, e]
    have h1 : endI (([], 0) : St) = 0 := rfl
    dsimp only
    rw [h1, if_neg (by simp), tape_same n g ts hn hf, h]
  · rw [ho, e]
theorem tape_bad (n : Bool) (g : G) (ts : List (List Cm)) (h : tapeFN n g ts ≠ 0) : tapeBytesOf n g ts = ([], tapeFN n g ts) := by
  unfold tapeBytesOf
  rw [if_pos h]
theorem prow_back {B : Nat} {w : World} {a : Option Addr} {ts : List (List Cm)} (h : PRow B w a ts) : PRow B w a (ts.map (List.map (backC true))) := fun i hi => by
  have hi' : i < ts.length := by simpa using hi
  obtain ⟨b, o, la, cl, h1, h2, h3, h4, h5⟩ := h i hi'
  have e : (ts.map (List.map (backC true))).getD i [] = (ts.getD i []).map (backC true) := by simp [List.getD, hi']
  rw [e]
  refine ⟨b, o, la, cl, h1, h2, by rw [h3, List.length_map], fun j hj => ?_, by rw [List.length_map]; exact h5⟩
  have hj' : j < (ts.getD i []).length := by simpa using hj
  obtain ⟨b, o, k1, k2, k3⟩ := h4 j hj'
  refine ⟨b, o, k1, k2, fun x hx => ?_⟩
  rw [k3 x hx]
  have e2 : ((ts.getD i []).map (backC true)).getD j zeroC = backC true ((ts.getD i []).getD j zeroC) := by
    obtain ⟨L, hL⟩ : ∃ L, ts.getD i [] = L := ⟨_, rfl⟩
    rw [hL] at hj' ⊢
    simp [List.getD, hj']
  rw [e2]
  rfl
end Go.Proofs.Ytlfljlhppigejab
namespace Go.Proofs.Ytlfljlhppigejab
open Go.RowKit

def gotT (l : List UInt8) : G × List (List Cm) := if tapeF false l = 0 then ((tapeI false (openL 84 l)).1, (tapeI false (openL 84 l)).2.1) else (zeroG false, [])
theorem tapeof_one (s : ByteArray) (hs : s.size ≤ 900000) (l : List UInt8) (hl : s.data.toList = l) (w : World) : Calls Try.prog 15 #[.string s] w fun e w' => ∃ fa cf ua cu ta ct, e = .returned (.tuple #[.agg #[.int .i64 (gotT l).1.tick, .int .i64 (gotT l).1.g0, .int .i64 (gotT l).1.g1, .int .i64 (gotT l).1.next, .slice fa (gotT l).1.free.length cf, .slice ua (gotT l).1.us.length cu, .slice ta (gotT l).2.length ct], errV (tapeF false l)]) ∧ Row w'.heap.size w' fa (gotT l).1.free.length (fun k => .int .i64 ((gotT l).1.free.getD k 0)) ∧ URow false w'.heap.size w' ua (gotT l).1.us ∧ TRow w'.heap.size w' ta (gotT l).2 ∧ Below w.heap.size w w' := by
  subst hl
  refine (tapeof_any s hs w).mono ?_
  rintro e w' ⟨h1, h2, h3⟩
  obtain ⟨P, hP⟩ : ∃ P, tapeI false (openL 84 s.data.toList) = P := ⟨_, rfl⟩
  rw [hP] at h2
  by_cases h0 : tapeF false s.data.toList = 0
  · have hg : gotT s.data.toList = (P.1, P.2.1) := by unfold gotT; rw [if_pos h0, hP]
    rw [hg, h0]
    obtain ⟨fa, cf, ua, cu, ta, ct, rfl, r1, r2, r3⟩ := h2 h0
    exact ⟨fa, cf, ua, cu, ta, ct, rfl, r1, r2, r3, h3⟩
  · have hg : gotT s.data.toList = (zeroG false, []) := by unfold gotT; rw [if_neg h0]
    rw [hg]
    exact ⟨none, 0, none, 0, none, 0, h1 h0, fun k hk => (by simp [zeroG] at hk), fun k hk => (by simp [zeroG] at hk), fun k hk => (by simp at hk), h3⟩
def gotR (l : List UInt8) : G × List (List Cm) := if tapeF true l = 0 then ((tapeI true (openL 82 l)).1, (tapeI true (openL 82 l)).2.1) else (zeroG true, [])
theorem reelof_one (s : ByteArray) (hs : s.size ≤ 900000) (l : List UInt8) (hl : s.data.toList = l) (w : World) : Calls Try.prog 22 #[.string s] w fun e w' => ∃ ua cu ta ct, e = .returned (.tuple #[.agg #[.int .i64 (gotR l).1.tick, .int .i64 (gotR l).1.g0, .int .i64 (gotR l).1.g1, .int .i64 (gotR l).1.next, .slice ua (gotR l).1.us.length cu, .slice ta (gotR l).2.length ct], errV (tapeF true l)]) ∧ URow true w'.heap.size w' ua (gotR l).1.us ∧ PRow w'.heap.size w' ta (gotR l).2 ∧ Below w.heap.size w w' := by
  subst hl
  refine (reelof_any s hs w).mono ?_
  rintro e w' ⟨h1, h2, h3⟩
  obtain ⟨P, hP⟩ : ∃ P, tapeI true (openL 82 s.data.toList) = P := ⟨_, rfl⟩
  rw [hP] at h2
  by_cases h0 : tapeF true s.data.toList = 0
  · have hg : gotR s.data.toList = (P.1, P.2.1) := by unfold gotR; rw [if_pos h0, hP]
    rw [hg, h0]
    obtain ⟨ua, cu, ta, ct, rfl, r2, -, -, r3⟩ := h2 h0
    exact ⟨ua, cu, ta, ct, rfl, r2, r3, h3⟩
  · have hg : gotR s.data.toList = (zeroG true, []) := by unfold gotR; rw [if_neg h0]
    rw [hg]
    exact ⟨none, 0, none, 0, h1 h0, fun k hk => (by simp [zeroG] at hk), fun k hk => (by simp at hk), h3⟩
end Go.Proofs.Ytlfljlhppigejab
namespace Go.Proofs.Ytlfljlhppigejab
open Go.RowKit

def savedG : G := ⟨false, 0, 0, 0, 1, [], []⟩
theorem saved_numbers : elderN savedG = [0, 0, 0, 1, 0, 0] := rfl
theorem saved_fault : faultOf savedG = 0 := by decide +kernel
theorem saved_bytes : bytesOf false savedG = (frameL 69 (outL [0, 0, 0, 1, 0, 0]), 0) := by
  unfold bytesOf
  rw [if_neg (by rw [saved_fault]; simp), ← saved_numbers]
  rfl
theorem saved_open : elderI (openL 69 (frameL 69 (outL [0, 0, 0, 1, 0, 0]))) = (savedG, ([], 0)) := by
  rw [openL_frame, ← saved_numbers]
  have h := elderI_wr savedG (by
    rw [saved_numbers]
    intro n hn
    simp at hn
    exact ⟨by omega, by omega⟩) (by decide) (by decide) []
  rw [List.append_nil] at h
  rw [h]
  rfl
theorem saved_ok : stateF false (frameL 69 (outL [0, 0, 0, 1, 0, 0])) = 0 := by
  have e : startI false (openL (kindB false) (frameL 69 (outL [0, 0, 0, 1, 0, 0]))) = (savedG, ([], 0)) := saved_open
  unfold stateF
  rw [e]
  dsimp only
  rw [saved_fault]
  rfl
theorem saved_got : gotE (frameL 69 (outL [0, 0, 0, 1, 0, 0])) = savedG := by
  unfold gotE
  rw [if_pos saved_ok, saved_open]
theorem saved_long : 8 < (frameL 69 (outL [0, 0, 0, 1, 0, 0])).length := by
  rw [frameL_length]
  have h : outL [0, 0, 0, 1, 0, 0] ≠ [] := outL_ne 0 _ (by omega)
  have := List.length_pos_iff.2 h
  omega
theorem fits1 : Fits64 1 := ⟨by omega, by omega⟩

set_option maxHeartbeats 3200000 in
set_option maxRecDepth 100000 in
theorem saves_any (w : World) : Calls Try.prog 8 #[] w (TrueBelow w) := by
  obtain ⟨L, hL⟩ : ∃ x, frameL 69 (outL [0, 0, 0, 1, 0, 0]) = x := ⟨_, rfl⟩
  have hlong := saved_long
  have hgot := saved_got
  have hok := saved_ok
  have hby := saved_bytes
  rw [hL] at hlong hgot hok hby
  have hl300 : L.length ≤ 1000 := by
    rw [← hL, frameL_length]
    have := outL_length [0, 0, 0, 1, 0, 0]
    simp at this
    omega
  have HE := Lib.hid (fun w => elderof_one (bstr L) (by rw [bstr_size]; omega) L (bstr_list L) w)
  have HBY := Lib.hid hby
  have hds : decide ((8 : Int) < ((bstr L).size : Int)) = true := decide_eq_true (by rw [bstr_size]; omega)
  obtain ⟨ONE, hONE⟩ : ∃ x, bstr L = x := ⟨_, rfl⟩
  rw [hONE] at HE hds
  rw [hok, hgot] at HE
  have HONE := Lib.hid hONE
  clear hL hlong hgot hok hby hl300 hONE
  go_enter Try.func8, Try.ntmps8
  go_wp2_with fail
  refine (elderbytes_any savedG none none 0 0 rfl (by decide) (by decide) _ (fun k hk => (by simp [savedG] at hk)) (fun k hk => (by simp [savedG] at hk)) ⟨fits0, fits0, fits0, fits1, fun n hn => (by simp [savedG] at hn), fun u hu => (by simp [savedG] at hu)⟩).mono ?_
  rintro e w1 ⟨rfl, b1⟩
  rw [HBY.out, errV_zero]
  dsimp only
  rw [HONE.out]
  have HB1 := Lib.hid b1
  clear b1
  go_wp2_with fail
  refine (HE.out _).mono ?_
  rintro e w2 ⟨fa, cf, ua, cu, rfl, -, -, b2⟩
  rw [errV_zero]
  have HB2 := Lib.hid (HB1.out.trans (b2.mono HB1.out.size))
  have hs2 := HB2.out.size
  clear b2
  dsimp only [savedG]
  go_wp2_with fail
  refine (same_nil 0 _).mono ?_
  rintro e w3 ⟨rfl, rfl⟩
  go_wp2_with fail
  refine (same_nil 0 _).mono ?_
  rintro e w3 ⟨rfl, rfl⟩
  go_wp2_with fail
  go_ret
  exact tb rfl (HB2.out.alloc hs2 _)
end Go.Proofs.Ytlfljlhppigejab
namespace Go.Proofs.Ytlfljlhppigejab
open Go.RowKit

def LightR (g : G) (ts : List (List Cm)) : Prop := ts.length ≤ 70 ∧ (∀ k, k < ts.length → (ts.getD k []).length ≤ 12) ∧ g.us.length ≤ 25
set_option maxHeartbeats 3200000 in
set_option maxRecDepth 100000 in
theorem lightreel_any (g : G) (ua ta : Option Addr) (cu ct : Nat) (ts : List (List Cm)) (w : World) (ht : PRow w.heap.size w ta ts) :
    Calls Try.prog 10 #[.agg #[.int .i64 g.tick, .int .i64 g.g0, .int .i64 g.g1, .int .i64 g.next, .slice ua g.us.length cu, .slice ta ts.length ct]] w
      fun e w' => ∃ b : Bool, e = .returned (.bool b) ∧ (b = true → LightR g ts) ∧ Below w.heap.size w w' := by
  have hm : maxLen ≤ 9223372036854775807 := by unfold maxLen; decide
  have hbx : Below w.heap.size w (w.alloc (.cells #[.int .i64 g.tick, .int .i64 g.g0, .int .i64 g.g1, .int .i64 g.next, .slice ua g.us.length cu, .slice ta ts.length ct] 35)) := (Below.refl _ _).alloc (Nat.le_refl _) _
  have HBX := Lib.hid hbx
  have HT := Lib.hid (ht.below hbx)
  clear ht hbx
  by_cases h70 : 70 < ts.length
  · have d0 : decide ((70 : Int) < (ts.length : Int)) = true := decide_eq_true (by omega)
    clear h70
    go_enter Try.func10, Try.ntmps10
    go_wp2_with fail
    go_ret
    exact ⟨false, rfl, by simp, HBX.out⟩
  have d0 : decide ((70 : Int) < (ts.length : Int)) = false := decide_eq_false (by omega)
  go_enter Try.func10, Try.ntmps10
  go_wp2_with fail
  obtain ⟨W, hW⟩ : ∃ W, w.alloc (.cells #[.int .i64 g.tick, .int .i64 g.g0, .int .i64 g.g1, .int .i64 g.next, .slice ua g.us.length cu, .slice ta ts.length ct] 35) = W := ⟨_, rfl⟩
  have kW : Blk W w.heap.size #[.int .i64 g.tick, .int .i64 g.g0, .int .i64 g.g1, .int .i64 g.next, .slice ua g.us.length cu, .slice ta ts.length ct] := by rw [← hW]; exact Blk.new w _ _
  rw [hW]
  have hT2 : PRow w.heap.size W ta ts := by rw [← hW]; exact HT.out
  have hb2 : Below w.heap.size w W := by rw [← hW]; exact HBX.out
  have HT2 := Lib.hid hT2
  have HB2 := Lib.hid hb2
  have hs2 := hb2.size
  obtain ⟨l1, c1, -⟩ := id kW
  clear HT HBX hW hT2 hb2
  go_loopw [3] (fun i wr => ∃ k : Nat, i = .int .i64 k ∧ k ≤ ts.length ∧ ((∀ j, j < k → (ts.getD j []).length ≤ 12) ∧ W = wr)) (fun i _ => (ts.length - intOf i).toNat)
  case atStart => exact ⟨0, rfl, by omega, fun j h => absurd h (by omega), rfl⟩
  case round =>
    obtain ⟨k, rfl, hk, hX, rfl⟩ := hrel
    have HX := Lib.hid hX
    clear hX
    by_cases hlt : k < ts.length
    · obtain ⟨l, hl⟩ : ∃ l, ts.getD k [] = l := ⟨_, rfl⟩
      obtain ⟨b, o, la, cl, rfl, hbB, hc, hcr, hll⟩ := HT2.out.get k hlt l hl
      have hki : (0 : Int) ≤ (k : Int) := by omega
      have hkl : (k : Int) < (ts.length : Int) := by omega
      have hbr : b < W.heap.size := by omega
      have HL := Lib.hid hl
      clear hl hcr
      by_cases h12 : 12 < l.length
      · have d8 : decide ((12 : Int) < (l.length : Int)) = true := decide_eq_true (by omega)
        clear h12
        go_wp2_with fail
        go_ret
        exact ⟨false, rfl, by simp, HB2.out⟩
      · have d8 : decide ((12 : Int) < (l.length : Int)) = false := decide_eq_false (by omega)
        have H8 := Lib.hid h12
        clear h12
        go_wp2_with fail
        go_roundw
        case rel =>
          refine ⟨k + 1, by go_num, by omega, ?_, trivial⟩
          intro j hj
          by_cases e : j = k
          · rw [e, HL.out]; have := H8.out; omega
          · exact HX.out j (by omega)
        case measure => simp [intOf]; omega
    · obtain rfl : k = ts.length := by omega
      by_cases h25 : g.us.length ≤ 25
      · have d5 : decide ((g.us.length : Int) ≤ 25) = true := decide_eq_true (by omega)
        have H5 := Lib.hid h25
        clear h25
        go_wp2_with fail
        go_ret
        exact ⟨true, rfl, fun _ => ⟨by omega, HX.out, H5.out⟩, HB2.out⟩
      · have d5 : decide ((g.us.length : Int) ≤ 25) = false := decide_eq_false (by omega)
        clear h25
        go_wp2_with fail
        go_ret
        exact ⟨false, rfl, by simp, HB2.out⟩
end Go.Proofs.Ytlfljlhppigejab
namespace Go.Proofs.Ytlfljlhppigejab
open Go.RowKit

/-- The law's own memory: the tape and the reel as they were handed in. -/
structure HoldT (w x : World) (g h : G) (ts ps : List (List Cm)) (fa ua ta va pa : Option Addr) (cf cu ct cv cp : Nat) : Prop where
  bel : Below w.heap.size w x
  kE : Blk x w.heap.size #[.int .i64 g.tick, .int .i64 g.g0, .int .i64 g.g1, .int .i64 g.next, .slice fa g.free.length cf, .slice ua g.us.length cu, .slice ta ts.length ct]
  kN : Blk x (w.heap.size + 1) #[.int .i64 h.tick, .int .i64 h.g0, .int .i64 h.g1, .int .i64 h.next, .slice va h.us.length cv, .slice pa ps.length cp]
  rf : Row x.heap.size x fa g.free.length (fun k => .int .i64 (g.free.getD k 0))
  ru : URow false x.heap.size x ua g.us
  rt : TRow x.heap.size x ta ts
  rv : URow true x.heap.size x va h.us
  rp : PRow x.heap.size x pa ps
theorem HoldT.call {w x y : World} {g h : G} {ts ps : List (List Cm)} {fa ua ta va pa : Option Addr} {cf cu ct cv cp : Nat} (H : HoldT w x g h ts ps fa ua ta va pa cf cu ct cv cp) (hb : Below x.heap.size x y) : HoldT w y g h ts ps fa ua ta va pa cf cu ct cv cp :=
  ⟨H.bel.trans (hb.mono H.bel.size), H.kE.call hb, H.kN.call hb, (H.rf.below hb).mono hb.size, (H.ru.below hb).mono hb.size, (H.rt.below hb).mono hb.size, (H.rv.below hb).mono hb.size, (H.rp.below hb).mono hb.size⟩
theorem framed_T (s : ByteArray) (hs : s.size ≤ 900000) (w : World) : Calls Try.prog 16 #[.int .u8 84, .string s] w fun e w' => e = .returned (.string (bstr (frameL 84 s.data.toList))) ∧ Below w.heap.size w w' := framed_any 84 s hs w
theorem framed_R (s : ByteArray) (hs : s.size ≤ 900000) (w : World) : Calls Try.prog 16 #[.int .u8 82, .string s] w fun e w' => e = .returned (.string (bstr (frameL 82 s.data.toList))) ∧ Below w.heap.size w w' := framed_any 82 s hs w
theorem bstr_nil : bstr [] = ⟨#[]⟩ := rfl
theorem sametape_n (t g0 g1 nx : Int) (us : List U) (n : Nat) (hn : us.length = n) (ua ub : Option Addr) (cua cub : Nat) (hl : n ≤ 100000) (fr : List Int) (fa fb : Option Addr) (cfa cfb : Nat) (hfl : fr.length ≤ 100000) (ts : List (List Cm)) (ta tb : Option Addr) (cta ctb : Nat) (hts : ts.length ≤ 100000) (hcs : ∀ l ∈ ts, l.length ≤ 100000) (w : World) (hua : URow false w.heap.size w ua us) (hub : URow false w.heap.size w ub us) (hfa : Row w.heap.size w fa fr.length (fun k => .int .i64 (fr.getD k 0))) (hfb : Row w.heap.size w fb fr.length (fun k => .int .i64 (fr.getD k 0)))
    (hta : TRow w.heap.size w ta ts) (htb : TRow w.heap.size w tb ts) :
    Calls Try.prog 18 #[.agg #[.int .i64 t, .int .i64 g0, .int .i64 g1, .int .i64 nx, .slice fa fr.length cfa, .slice ua n cua, .slice ta ts.length cta], .agg #[.int .i64 t, .int .i64 g0, .int .i64 g1, .int .i64 nx, .slice fb fr.length cfb, .slice ub n cub, .slice tb ts.length ctb]] w fun e w' => e = .returned (.bool true) ∧ Below w.heap.size w w' := by
  subst hn
  exact sametape_any t g0 g1 nx us ua ub cua cub hl fr fa fb cfa cfb hfl ts ta tb cta ctb hts hcs w hua hub hfa hfb hta htb
theorem samereel_n (t g0 g1 nx : Int) (us : List U) (n : Nat) (hn : us.length = n) (ua ub : Option Addr) (cua cub : Nat) (hl : n ≤ 100000) (ts : List (List Cm)) (m : Nat) (hm : ts.length = m) (ta tb : Option Addr) (cta ctb : Nat) (hts : m ≤ 100000) (hcs : ∀ l ∈ ts, l.length ≤ 100000) (w : World) (hua : URow true w.heap.size w ua us) (hub : URow true w.heap.size w ub us)
    (hta : PRow w.heap.size w ta ts) (htb : PRow w.heap.size w tb ts) :
    Calls Try.prog 24 #[.agg #[.int .i64 t, .int .i64 g0, .int .i64 g1, .int .i64 nx, .slice ua n cua, .slice ta m cta], .agg #[.int .i64 t, .int .i64 g0, .int .i64 g1, .int .i64 nx, .slice ub n cub, .slice tb m ctb]] w fun e w' => e = .returned (.bool true) ∧ Below w.heap.size w w' := by
  subst hn
  subst hm
  exact samereel_any t g0 g1 nx us ua ub cua cub hl ts ta tb cta ctb hts hcs w hua hub hta htb
/-- A tape that was written is read. -/
theorem tapeof_back (g : G) (ts : List (List Cm)) (s : ByteArray) (hs : s.size ≤ 900000) (l : List UInt8) (hl : s.data.toList = l) (hg : gotT l = (backG false g, ts.map (List.map (backC false)))) (h0 : tapeF false l = 0) (w : World) : Calls Try.prog 15 #[.string s] w fun e w' => ∃ fa cf ua cu ta ct,
    e = .returned (.tuple #[.agg #[.int .i64 g.tick, .int .i64 g.g0, .int .i64 g.g1, .int .i64 g.next, .slice fa g.free.length cf, .slice ua g.us.length cu, .slice ta ts.length ct], errV 0]) ∧ Row w'.heap.size w' fa g.free.length (fun k => .int .i64 (g.free.getD k 0)) ∧ URow false w'.heap.size w' ua (g.us.map (backU false)) ∧ TRow w'.heap.size w' ta ts ∧ Below w.heap.size w w' := by
  refine (tapeof_one s hs l hl w).mono ?_
  rintro e w' ⟨fa, cf, ua, cu, ta, ct, h1, h2, h3, h4, h5⟩
  rw [ticks_back] at hg
  rw [hg] at h1 h2 h3 h4
  rw [h0] at h1
  have e1 : (backG false g).us.length = g.us.length := by simp [backG]
  dsimp only at h1 h2 h3 h4
  rw [e1] at h1
  exact ⟨fa, cf, ua, cu, ta, ct, h1, h2, h3, h4, h5⟩
theorem reelof_back (h : G) (ps : List (List Cm)) (s : ByteArray) (hs : s.size ≤ 900000) (l : List UInt8) (hl : s.data.toList = l) (hg : gotR l = (backG true h, ps.map (List.map (backC true)))) (h0 : tapeF true l = 0) (w : World) : Calls Try.prog 22 #[.string s] w fun e w' => ∃ va cv pa cp,
    e = .returned (.tuple #[.agg #[.int .i64 h.tick, .int .i64 h.g0, .int .i64 h.g1, .int .i64 h.next, .slice va h.us.length cv, .slice pa ps.length cp], errV 0]) ∧ URow true w'.heap.size w' va (h.us.map (backU true)) ∧ PRow w'.heap.size w' pa (ps.map (List.map (backC true))) ∧ Below w.heap.size w w' := by
  refine (reelof_one s hs l hl w).mono ?_
  rintro e w' ⟨ua, cu, ta, ct, h1, h3, h4, h5⟩
  rw [hg] at h1 h3 h4
  rw [h0] at h1
  have e1 : (backG true h).us.length = h.us.length := by simp [backG]
  have e2 : (ps.map (List.map (backC true))).length = ps.length := by simp
  dsimp only at h1 h3 h4
  rw [e1, e2] at h1
  exact ⟨ua, cu, ta, ct, h1, h3, h4, h5⟩

set_option maxHeartbeats 12800000 in
set_option maxRecDepth 100000 in
theorem snaptapes_law (g h : G) (ts ps : List (List Cm)) (fa ua ta va pa : Option Addr) (cf cu ct cv cp : Nat) (hgn : g.new = false) (hhn : h.new = true) (hhf : h.free = []) (hgfit : g.Fits) (hhfit : h.Fits) (hgc : ∀ l ∈ ts, ∀ c ∈ l, c.Fits) (hhc : ∀ l ∈ ps, ∀ c ∈ l, c.Fits) (hts : ts.length ≤ maxLen) (hps : ps.length ≤ maxLen)
    (hnil : va = none → h.us.length = 0 ∧ cv = 0) (hcap : h.us.length ≤ cv) (w : World) (hrf : Row w.heap.size w fa g.free.length (fun k => .int .i64 (g.free.getD k 0))) (hru : URow false w.heap.size w ua g.us) (hrt : TRow w.heap.size w ta ts) (hrv : URow true w.heap.size w va h.us) (hrp : PRow w.heap.size w pa ps) :
    Calls Try.prog 3 #[.agg #[.int .i64 g.tick, .int .i64 g.g0, .int .i64 g.g1, .int .i64 g.next, .slice fa g.free.length cf, .slice ua g.us.length cu, .slice ta ts.length ct], .agg #[.int .i64 h.tick, .int .i64 h.g0, .int .i64 h.g1, .int .i64 h.next, .slice va h.us.length cv, .slice pa ps.length cp]] w (TrueBelow w) := by
  obtain ⟨W, hW⟩ : ∃ W, (w.alloc (.cells #[.int .i64 g.tick, .int .i64 g.g0, .int .i64 g.g1, .int .i64 g.next, .slice fa g.free.length cf, .slice ua g.us.length cu, .slice ta ts.length ct] 29)).alloc (.cells #[.int .i64 h.tick, .int .i64 h.g0, .int .i64 h.g1, .int .i64 h.next, .slice va h.us.length cv, .slice pa ps.length cp] 35) = W := ⟨_, rfl⟩
  have hbW : Below w.heap.size w W := by rw [← hW]; exact ((Below.refl _ _).alloc (Nat.le_refl _) _).alloc (by simp) _
  have k1 : Blk W w.heap.size #[.int .i64 g.tick, .int .i64 g.g0, .int .i64 g.g1, .int .i64 g.next, .slice fa g.free.length cf, .slice ua g.us.length cu, .slice ta ts.length ct] := by rw [← hW]; exact (Blk.new w _ _).alloc _
  have k2 : Blk W (w.heap.size + 1) #[.int .i64 h.tick, .int .i64 h.g0, .int .i64 h.g1, .int .i64 h.next, .slice va h.us.length cv, .slice pa ps.length cp] := by
    rw [← hW]
    have := Blk.new (w.alloc (.cells #[.int .i64 g.tick, .int .i64 g.g0, .int .i64 g.g1, .int .i64 g.next, .slice fa g.free.length cf, .slice ua g.us.length cu, .slice ta ts.length ct] 29)) #[.int .i64 h.tick, .int .i64 h.g0, .int .i64 h.g1, .int .i64 h.next, .slice va h.us.length cv, .slice pa ps.length cp] 35
    simpa using this
  have M0 := Lib.hid (⟨hbW, k1, k2, (hrf.below hbW).mono hbW.size, (hru.below hbW).mono hbW.size, (hrt.below hbW).mono hbW.size, (hrv.below hbW).mono hbW.size, (hrp.below hbW).mono hbW.size⟩ : HoldT w W g h ts ps fa ua ta va pa cf cu ct cv cp)
  clear hbW k1 k2 hrf hru hrt hrv hrp
  go_enter Try.func3, Try.ntmps3
  go_upto_region 1 with fail
  try rw [hW]
  clear hW
  go_wp2_with fail
  refine (saves_any _).mono ?_
  rintro e x1 ⟨rfl, b1⟩
  have M1 := Lib.hid (M0.out.call b1)
  have cE := M1.out.kE.cell
  have lE := M1.out.kE.lt
  have cN := M1.out.kN.cell
  have lN := M1.out.kN.lt
  clear b1
  have HGF := Lib.hid hgfit
  have HHF := Lib.hid hhfit
  have HGC := Lib.hid hgc
  have HHC := Lib.hid hhc
  clear hgfit hhfit hgc hhc
  have dd0 : ((0 : Nat) == 0) = true := rfl
  go_wp2_with fail
  refine (light_any g fa ua ta cf cu ct ts hts _ M1.out.rt).mono ?_
  rintro e x2 ⟨LB, rfl, hLB, bx⟩
  have M2 := Lib.hid (M1.out.call bx)
  clear cE lE cN lN
  have cE := M2.out.kE.cell
  have lE := M2.out.kE.lt
  have cN := M2.out.kN.cell
  have lN := M2.out.kN.lt
  clear bx
  cases LB
  case false =>
    clear hLB
    go_wp2_with fail
    go_ret
    exact ⟨rfl, M2.out.bel⟩
  obtain ⟨k1, -, k3, k4⟩ := hLB rfl
  clear hLB
  go_wp2_with fail
  refine (lightreel_any h va pa cv cp ps _ M2.out.rp).mono ?_
  rintro e x3 ⟨LC, rfl, hLC, bx⟩
  have M3 := Lib.hid (M2.out.call bx)
  clear cE lE cN lN
  have cE := M3.out.kE.cell
  have lE := M3.out.kE.lt
  have cN := M3.out.kN.cell
  have lN := M3.out.kN.lt
  clear bx
  cases LC
  case false =>
    clear hLC
    go_wp2_with fail
    go_ret
    exact ⟨rfl, M3.out.bel⟩
  obtain ⟨k5, -, k6⟩ := hLC rfl
  clear hLC
  by_cases hE0 : tapeFN false g ts = 0
  · by_cases hN0 : tapeFN true h ps = 0
    · obtain ⟨fE, hfE⟩ : ∃ x, tapeFault g ts = x := ⟨_, rfl⟩
      have HTFLE := Lib.hid hfE
      have ddfE : (fE == fE) = true := by simp
      obtain ⟨sb1, sb2, sb3, nn, bigg, f1g, f2g, f3g, f4g⟩ := tape_back false g ts hgn (fun e => (by cases e)) HGC.out hE0
      have HNNLE := Lib.hid nn
      have lenLE : (outL (tapeN false g ts)).length ≤ 50000 := by
        have h1 := outL_length (tapeN false g ts)
        omega
      have sb1' : tapeBytesOf false g ts = (frameL 84 (outL (tapeN false g ts)), 0) := sb1
      have sb2' : tapeF false (frameL 84 (outL (tapeN false g ts))) = 0 := sb2
      have sb3' : tapeI false (openL 84 (frameL 84 (outL (tapeN false g ts)))) = (backG false g, ts.map (List.map (backC false)), ([], 0)) := sb3
      have sb4 : gotT (frameL 84 (outL (tapeN false g ts))) = (backG false g, ts.map (List.map (backC false))) := by
        unfold gotT
        rw [if_pos sb2', sb3']
      have hts8 : ∀ l ∈ ts, l.length ≤ 100000 := fun l hl => (by have := f4g l hl; omega)
      obtain ⟨TXLE, hTX⟩ : ∃ x, bstr (outL (tapeN false g ts)) = x := ⟨_, rfl⟩
      have zTXLE : TXLE.size ≤ 50000 := by rw [← hTX, bstr_size]; exact lenLE
      have hTXl : TXLE.data.toList = outL (tapeN false g ts) := by rw [← hTX, bstr_list]
      obtain ⟨LE, hLE⟩ : ∃ x, frameL 84 (outL (tapeN false g ts)) = x := ⟨_, rfl⟩
      have zLE : LE.length ≤ 60000 := by rw [← hLE, frameL_length]; omega
      obtain ⟨SE, hSE⟩ : ∃ x, bstr LE = x := ⟨_, rfl⟩
      have HSE := Lib.hid hSE
      have hFR : bstr (frameL 84 TXLE.data.toList) = SE := by rw [hTXl, hLE, hSE]
      have HFRLE := Lib.hid hFR
      have HTXLE := Lib.hid hTX
      rw [hLE] at sb1' sb2' sb4
      have HONELE := Lib.hid (fun w => tapeof_back g ts SE (by rw [← hSE, bstr_size]; omega) LE (by rw [← hSE, bstr_list]) sb4 sb2' w)
      have HBYLE := Lib.hid (show tapeBytesOf false g ts = (LE, fE) by rw [sb1', ← hfE]; exact congrArg (Prod.mk LE) hE0.symm)
      have hzfE : fE = 0 := hfE.symm.trans hE0
      have e1fE : decide ((0 : Int) < (fE : Int)) = false := decide_eq_false (by omega)
      have e2fE : decide (0 < fE) = false := decide_eq_false (by omega)
      have e3fE : ((fE : Int) == 0) = true := by simp; omega
      have e4fE : (fE == 0) = true := by simp; omega
      have e5fE : decide ((fE : Int) = 0) = true := decide_eq_true (by omega)
      have e6fE : decide (fE = 0) = true := decide_eq_true (by omega)
      clear sb1 sb2 sb3 sb1' sb2' sb3' sb4 nn hTX hTXl hLE hSE hFR hfE hzfE hE0 lenLE zLE f4g
      obtain ⟨fN, hfN⟩ : ∃ x, reelFault h ps = x := ⟨_, rfl⟩
      have HTFLN := Lib.hid hfN
      have ddfN : (fN == fN) = true := by simp
      obtain ⟨sb1, sb2, sb3, nn, bigh, f1h, f2h, f3h, f4h⟩ := tape_back true h ps hhn (fun _ => hhf) HHC.out hN0
      have HNNLN := Lib.hid nn
      have lenLN : (outL (tapeN true h ps)).length ≤ 50000 := by
        have h1 := outL_length (tapeN true h ps)
        omega
      have sb1' : tapeBytesOf true h ps = (frameL 82 (outL (tapeN true h ps)), 0) := sb1
      have sb2' : tapeF true (frameL 82 (outL (tapeN true h ps))) = 0 := sb2
      have sb3' : tapeI true (openL 82 (frameL 82 (outL (tapeN true h ps)))) = (backG true h, ps.map (List.map (backC true)), ([], 0)) := sb3
      have sb4 : gotR (frameL 82 (outL (tapeN true h ps))) = (backG true h, ps.map (List.map (backC true))) := by
        unfold gotR
        rw [if_pos sb2', sb3']
      have hps8 : ∀ l ∈ ps.map (List.map (backC true)), l.length ≤ 100000 := fun l hl => (by
        obtain ⟨l', hl', rfl⟩ := List.mem_map.1 hl
        have := f4h l' hl'
        rw [List.length_map]
        omega)
      obtain ⟨TXLN, hTX⟩ : ∃ x, bstr (outL (tapeN true h ps)) = x := ⟨_, rfl⟩
      have zTXLN : TXLN.size ≤ 50000 := by rw [← hTX, bstr_size]; exact lenLN
      have hTXl : TXLN.data.toList = outL (tapeN true h ps) := by rw [← hTX, bstr_list]
      obtain ⟨LN, hLN⟩ : ∃ x, frameL 82 (outL (tapeN true h ps)) = x := ⟨_, rfl⟩
      have zLN : LN.length ≤ 60000 := by rw [← hLN, frameL_length]; omega
      obtain ⟨SN, hSN⟩ : ∃ x, bstr LN = x := ⟨_, rfl⟩
      have HSN := Lib.hid hSN
      have hFR : bstr (frameL 82 TXLN.data.toList) = SN := by rw [hTXl, hLN, hSN]
      have HFRLN := Lib.hid hFR
      have HTXLN := Lib.hid hTX
      rw [hLN] at sb1' sb2' sb4
      have HONELN := Lib.hid (fun w => reelof_back h ps SN (by rw [← hSN, bstr_size]; omega) LN (by rw [← hSN, bstr_list]) sb4 sb2' w)
      have HBYLN := Lib.hid (show tapeBytesOf true h ps = (LN, fN) by rw [sb1', ← hfN]; exact congrArg (Prod.mk LN) hN0.symm)
      have hzfN : fN = 0 := hfN.symm.trans hN0
      have e1fN : decide ((0 : Int) < (fN : Int)) = false := decide_eq_false (by omega)
      have e2fN : decide (0 < fN) = false := decide_eq_false (by omega)
      have e3fN : ((fN : Int) == 0) = true := by simp; omega
      have e4fN : (fN == 0) = true := by simp; omega
      have e5fN : decide ((fN : Int) = 0) = true := decide_eq_true (by omega)
      have e6fN : decide (fN = 0) = true := decide_eq_true (by omega)
      clear sb1 sb2 sb3 sb1' sb2' sb3' sb4 nn hTX hTXl hLN hSN hFR hfN hzfN hN0 lenLN zLN f4h
      go_wp2_with fail
      refine (tapebytes_any g fa ua ta cf cu ct hgn (by omega) (by omega) ts hts _ M3.out.rf M3.out.ru M3.out.rt HGF.out HGC.out).mono ?_
      rintro e x4 ⟨rfl, bx⟩
      rw [HBYLE.out]
      dsimp only
      rw [HSE.out]
      have M4 := Lib.hid (M3.out.call bx)
      clear cE lE cN lN
      have cE := M4.out.kE.cell
      have lE := M4.out.kE.lt
      have cN := M4.out.kN.cell
      have lN := M4.out.kN.lt
      clear bx
      go_wp2_with fail
      refine (reftapeFault_any g fa ua ta cf cu ct hgn (by omega) (by omega) ts hts _ M4.out.rf M4.out.ru M4.out.rt).mono ?_
      rintro e x5 ⟨rfl, bx⟩
      rw [HTFLE.out]
      have M5 := Lib.hid (M4.out.call bx)
      clear cE lE cN lN
      have cE := M5.out.kE.cell
      have lE := M5.out.kE.lt
      have cN := M5.out.kN.cell
      have lN := M5.out.kN.lt
      clear bx
      go_wp2_with fail
      refine (checktape_any g fa ua ta cf cu ct hgn (by omega) (by omega) ts hts _ M5.out.rf M5.out.ru M5.out.rt HGF.out.2.2.2.2.1).mono ?_
      rintro e x6 ⟨rfl, bx⟩
      rw [HTFLE.out]
      have M6 := Lib.hid (M5.out.call bx)
      clear cE lE cN lN
      have cE := M6.out.kE.cell
      have lE := M6.out.kE.lt
      have cN := M6.out.kN.cell
      have lN := M6.out.kN.lt
      clear bx
      go_wp2_with fail
      refine (same_any fE fE _).mono ?_
      rintro e y ⟨rfl, rfl⟩
      rw [ddfE]
      go_wp2_with fail
      refine (same_any fE fE _).mono ?_
      rintro e y ⟨rfl, rfl⟩
      rw [ddfE]
      go_wp2_with fail
      refine (HONELE.out _).mono ?_
      rintro e x7 ⟨fb, cg, ub, cw, tb, cx, rfl, r0, r1, r2, bx⟩
      have M7 := Lib.hid (M6.out.call bx)
      clear cE lE cN lN
      have cE := M7.out.kE.cell
      have lE := M7.out.kE.lt
      have cN := M7.out.kN.cell
      have lN := M7.out.kN.lt
      clear bx
      obtain ⟨V7, hV7⟩ : ∃ V, x7.alloc (.cells #[.int .i64 g.tick, .int .i64 g.g0, .int .i64 g.g1, .int .i64 g.next, .slice fb g.free.length cg, .slice ub g.us.length cw, .slice tb ts.length cx] 29) = V := ⟨_, rfl⟩
      have bV : Below x7.heap.size x7 V7 := by rw [← hV7]; exact (Below.refl _ _).alloc (Nat.le_refl _) _
      have kV : Blk V7 x7.heap.size #[.int .i64 g.tick, .int .i64 g.g0, .int .i64 g.g1, .int .i64 g.next, .slice fb g.free.length cg, .slice ub g.us.length cw, .slice tb ts.length cx] := by rw [← hV7]; exact Blk.new _ _ _
      have R0 := Lib.hid ((r0.below bV).mono bV.size)
      have R1 := Lib.hid ((r1.below bV).mono bV.size)
      have R2 := Lib.hid ((r2.below bV).mono bV.size)
      have KV7 := Lib.hid kV
      have M8 := Lib.hid (M7.out.call bV)
      clear cE lE cN lN
      have cE := M8.out.kE.cell
      have lE := M8.out.kE.lt
      have cN := M8.out.kN.cell
      have lN := M8.out.kN.lt
      clear bV kV r1 r2 r0
      go_wp2_with fail
      try rw [hV7]
      clear hV7
      refine (tapetext_any g ts fa ua ta cf cu ct _ M8.out.rf M8.out.ru M8.out.rt HNNLE.out (by omega) (by omega) (by omega) (by omega)).mono ?_
      rintro e x9 ⟨rfl, bx⟩
      rw [HTXLE.out]
      have R1' := Lib.hid ((R1.out.below bx).mono bx.size)
      have R2' := Lib.hid ((R2.out.below bx).mono bx.size)
      have KV' := Lib.hid (KV7.out.call bx)
      have R0' := Lib.hid ((R0.out.below bx).mono bx.size)
      have M9 := Lib.hid (M8.out.call bx)
      clear cE lE cN lN
      have cE := M9.out.kE.cell
      have lE := M9.out.kE.lt
      have cN := M9.out.kN.cell
      have lN := M9.out.kN.lt
      clear bx
      go_wp2_with fail
      refine (framed_T TXLE (by omega) _).mono ?_
      rintro e x10 ⟨rfl, bx⟩
      rw [HFRLE.out]
      have R1'' := Lib.hid ((R1'.out.below bx).mono bx.size)
      have R2'' := Lib.hid ((R2'.out.below bx).mono bx.size)
      have kV'' := KV'.out.call bx
      have R0'' := Lib.hid ((R0'.out.below bx).mono bx.size)
      obtain ⟨lV, cV, -⟩ := id kV''
      have M10 := Lib.hid (M9.out.call bx)
      clear cE lE cN lN
      have cE := M10.out.kE.cell
      have lE := M10.out.kE.lt
      have cN := M10.out.kN.cell
      have lN := M10.out.kN.lt
      clear bx
      go_wp2_with fail
      refine (same_any 0 0 _).mono ?_
      rintro e y ⟨rfl, rfl⟩
      rw [dd0]
      go_wp2_with fail
      refine (sametape_n g.tick g.g0 g.g1 g.next (g.us.map (backU false)) g.us.length (by simp) ub ua cw cu (by omega) g.free fb fa cg cf (by omega) ts tb ta cx ct (by omega) hts8 _ R1''.out (urow_backE M10.out.ru) R0''.out M10.out.rf R2''.out M10.out.rt).mono ?_
      rintro e x11 ⟨rfl, bx⟩
      have M11 := Lib.hid (M10.out.call bx)
      clear cE lE cN lN
      have cE := M11.out.kE.cell
      have lE := M11.out.kE.lt
      have cN := M11.out.kN.cell
      have lN := M11.out.kN.lt
      clear bx lV cV kV''
      go_wp2_with fail
      refine (reelbytes_any h va pa cv cp hhn hhf (by omega) ps hps _ M11.out.rv hnil hcap M11.out.rp HHF.out HHC.out).mono ?_
      rintro e x12 ⟨rfl, bx⟩
      rw [HBYLN.out]
      dsimp only
      rw [HSN.out]
      have M12 := Lib.hid (M11.out.call bx)
      clear cE lE cN lN
      have cE := M12.out.kE.cell
      have lE := M12.out.kE.lt
      have cN := M12.out.kN.cell
      have lN := M12.out.kN.lt
      clear bx
      go_wp2_with fail
      refine (refreelFault_any h va pa cv cp hhn hhf (by omega) ps hps _ M12.out.rv M12.out.rp).mono ?_
      rintro e x13 ⟨rfl, bx⟩
      rw [HTFLN.out]
      have M13 := Lib.hid (M12.out.call bx)
      clear cE lE cN lN
      have cE := M13.out.kE.cell
      have lE := M13.out.kE.lt
      have cN := M13.out.kN.cell
      have lN := M13.out.kN.lt
      clear bx
      go_wp2_with fail
      refine (checkreel_any h va pa cv cp hhn hhf (by omega) ps hps _ M13.out.rv hnil hcap M13.out.rp).mono ?_
      rintro e x14 ⟨rfl, bx⟩
      rw [HTFLN.out]
      have M14 := Lib.hid (M13.out.call bx)
      clear cE lE cN lN
      have cE := M14.out.kE.cell
      have lE := M14.out.kE.lt
      have cN := M14.out.kN.cell
      have lN := M14.out.kN.lt
      clear bx
      go_wp2_with fail
      refine (same_any fN fN _).mono ?_
      rintro e y ⟨rfl, rfl⟩
      rw [ddfN]
      go_wp2_with fail
      refine (same_any fN fN _).mono ?_
      rintro e y ⟨rfl, rfl⟩
      rw [ddfN]
      go_wp2_with fail
      refine (HONELN.out _).mono ?_
      rintro e x15 ⟨vb, cw, pb, cy, rfl, r1, r2, bx⟩
      have M15 := Lib.hid (M14.out.call bx)
      clear cE lE cN lN
      have cE := M15.out.kE.cell
      have lE := M15.out.kE.lt
      have cN := M15.out.kN.cell
      have lN := M15.out.kN.lt
      clear bx
      obtain ⟨V15, hV15⟩ : ∃ V, x15.alloc (.cells #[.int .i64 h.tick, .int .i64 h.g0, .int .i64 h.g1, .int .i64 h.next, .slice vb h.us.length cw, .slice pb ps.length cy] 35) = V := ⟨_, rfl⟩
      have bV : Below x15.heap.size x15 V15 := by rw [← hV15]; exact (Below.refl _ _).alloc (Nat.le_refl _) _
      have kV : Blk V15 x15.heap.size #[.int .i64 h.tick, .int .i64 h.g0, .int .i64 h.g1, .int .i64 h.next, .slice vb h.us.length cw, .slice pb ps.length cy] := by rw [← hV15]; exact Blk.new _ _ _
      have R1 := Lib.hid ((r1.below bV).mono bV.size)
      have R2 := Lib.hid ((r2.below bV).mono bV.size)
      have KV15 := Lib.hid kV
      have M16 := Lib.hid (M15.out.call bV)
      clear cE lE cN lN
      have cE := M16.out.kE.cell
      have lE := M16.out.kE.lt
      have cN := M16.out.kN.cell
      have lN := M16.out.kN.lt
      clear bV kV r1 r2
      go_wp2_with fail
      try rw [hV15]
      clear hV15
      refine (reeltext_any h ps va pa cv cp _ M16.out.rv M16.out.rp HNNLN.out (by omega) (by omega) (by omega)).mono ?_
      rintro e x17 ⟨rfl, bx⟩
      rw [HTXLN.out]
      have R1' := Lib.hid ((R1.out.below bx).mono bx.size)
      have R2' := Lib.hid ((R2.out.below bx).mono bx.size)
      have KV' := Lib.hid (KV15.out.call bx)
      have M17 := Lib.hid (M16.out.call bx)
      clear cE lE cN lN
      have cE := M17.out.kE.cell
      have lE := M17.out.kE.lt
      have cN := M17.out.kN.cell
      have lN := M17.out.kN.lt
      clear bx
      go_wp2_with fail
      refine (framed_R TXLN (by omega) _).mono ?_
      rintro e x18 ⟨rfl, bx⟩
      rw [HFRLN.out]
      have R1'' := Lib.hid ((R1'.out.below bx).mono bx.size)
      have R2'' := Lib.hid ((R2'.out.below bx).mono bx.size)
      have kV'' := KV'.out.call bx
      obtain ⟨lV, cV, -⟩ := id kV''
      have M18 := Lib.hid (M17.out.call bx)
      clear cE lE cN lN
      have cE := M18.out.kE.cell
      have lE := M18.out.kE.lt
      have cN := M18.out.kN.cell
      have lN := M18.out.kN.lt
      clear bx
      go_wp2_with fail
      refine (same_any 0 0 _).mono ?_
      rintro e y ⟨rfl, rfl⟩
      rw [dd0]
      go_wp2_with fail
      refine (samereel_n h.tick h.g0 h.g1 h.next (h.us.map (backU true)) h.us.length (by simp) vb va cw cv (by omega) (ps.map (List.map (backC true))) ps.length (by simp) pb pa cy cp (by omega) hps8 _ R1''.out (urow_backN M18.out.rv) R2''.out (prow_back M18.out.rp)).mono ?_
      rintro e x19 ⟨rfl, bx⟩
      have M19 := Lib.hid (M18.out.call bx)
      clear cE lE cN lN
      have cE := M19.out.kE.cell
      have lE := M19.out.kE.lt
      have cN := M19.out.kN.cell
      have lN := M19.out.kN.lt
      clear bx lV cV kV''
      go_wp2_with fail
      go_ret
      exact ⟨rfl, M19.out.bel⟩
    · obtain ⟨fE, hfE⟩ : ∃ x, tapeFault g ts = x := ⟨_, rfl⟩
      have HTFLE := Lib.hid hfE
      have ddfE : (fE == fE) = true := by simp
      obtain ⟨sb1, sb2, sb3, nn, bigg, f1g, f2g, f3g, f4g⟩ := tape_back false g ts hgn (fun e => (by cases e)) HGC.out hE0
      have HNNLE := Lib.hid nn
      have lenLE : (outL (tapeN false g ts)).length ≤ 50000 := by
        have h1 := outL_length (tapeN false g ts)
        omega
      have sb1' : tapeBytesOf false g ts = (frameL 84 (outL (tapeN false g ts)), 0) := sb1
      have sb2' : tapeF false (frameL 84 (outL (tapeN false g ts))) = 0 := sb2
      have sb3' : tapeI false (openL 84 (frameL 84 (outL (tapeN false g ts)))) = (backG false g, ts.map (List.map (backC false)), ([], 0)) := sb3
      have sb4 : gotT (frameL 84 (outL (tapeN false g ts))) = (backG false g, ts.map (List.map (backC false))) := by
        unfold gotT
        rw [if_pos sb2', sb3']
      have hts8 : ∀ l ∈ ts, l.length ≤ 100000 := fun l hl => (by have := f4g l hl; omega)
      obtain ⟨TXLE, hTX⟩ : ∃ x, bstr (outL (tapeN false g ts)) = x := ⟨_, rfl⟩
      have zTXLE : TXLE.size ≤ 50000 := by rw [← hTX, bstr_size]; exact lenLE
      have hTXl : TXLE.data.toList = outL (tapeN false g ts) := by rw [← hTX, bstr_list]
      obtain ⟨LE, hLE⟩ : ∃ x, frameL 84 (outL (tapeN false g ts)) = x := ⟨_, rfl⟩
      have zLE : LE.length ≤ 60000 := by rw [← hLE, frameL_length]; omega
      obtain ⟨SE, hSE⟩ : ∃ x, bstr LE = x := ⟨_, rfl⟩
      have HSE := Lib.hid hSE
      have hFR : bstr (frameL 84 TXLE.data.toList) = SE := by rw [hTXl, hLE, hSE]
      have HFRLE := Lib.hid hFR
      have HTXLE := Lib.hid hTX
      rw [hLE] at sb1' sb2' sb4
      have HONELE := Lib.hid (fun w => tapeof_back g ts SE (by rw [← hSE, bstr_size]; omega) LE (by rw [← hSE, bstr_list]) sb4 sb2' w)
      have HBYLE := Lib.hid (show tapeBytesOf false g ts = (LE, fE) by rw [sb1', ← hfE]; exact congrArg (Prod.mk LE) hE0.symm)
      have hzfE : fE = 0 := hfE.symm.trans hE0
      have e1fE : decide ((0 : Int) < (fE : Int)) = false := decide_eq_false (by omega)
      have e2fE : decide (0 < fE) = false := decide_eq_false (by omega)
      have e3fE : ((fE : Int) == 0) = true := by simp; omega
      have e4fE : (fE == 0) = true := by simp; omega
      have e5fE : decide ((fE : Int) = 0) = true := decide_eq_true (by omega)
      have e6fE : decide (fE = 0) = true := decide_eq_true (by omega)
      clear sb1 sb2 sb3 sb1' sb2' sb3' sb4 nn hTX hTXl hLE hSE hFR hfE hzfE hE0 lenLE zLE f4g
      obtain ⟨fN, hfN⟩ : ∃ x, reelFault h ps = x := ⟨_, rfl⟩
      have HTFLN := Lib.hid hfN
      have ddfN : (fN == fN) = true := by simp
      have HBYLN := Lib.hid (show tapeBytesOf true h ps = ([], fN) by rw [tape_bad true h ps hN0]; exact congrArg (Prod.mk []) hfN)
      have HSN := Lib.hid bstr_nil
      have hpfN : 0 < fN := Nat.pos_of_ne_zero (fun e => hN0 (hfN.trans e))
      have e1fN : decide ((0 : Int) < (fN : Int)) = true := decide_eq_true (by omega)
      have e2fN : decide (0 < fN) = true := decide_eq_true (by omega)
      have e3fN : ((fN : Int) == 0) = false := by simp; omega
      have e4fN : (fN == 0) = false := by simp; omega
      have e5fN : decide ((fN : Int) = 0) = false := decide_eq_false (by omega)
      have e6fN : decide (fN = 0) = false := decide_eq_false (by omega)
      clear hfN hN0
      go_wp2_with fail
      refine (tapebytes_any g fa ua ta cf cu ct hgn (by omega) (by omega) ts hts _ M3.out.rf M3.out.ru M3.out.rt HGF.out HGC.out).mono ?_
      rintro e x4 ⟨rfl, bx⟩
      rw [HBYLE.out]
      dsimp only
      rw [HSE.out]
      have M4 := Lib.hid (M3.out.call bx)
      clear cE lE cN lN
      have cE := M4.out.kE.cell
      have lE := M4.out.kE.lt
      have cN := M4.out.kN.cell
      have lN := M4.out.kN.lt
      clear bx
      go_wp2_with fail
      refine (reftapeFault_any g fa ua ta cf cu ct hgn (by omega) (by omega) ts hts _ M4.out.rf M4.out.ru M4.out.rt).mono ?_
      rintro e x5 ⟨rfl, bx⟩
      rw [HTFLE.out]
      have M5 := Lib.hid (M4.out.call bx)
      clear cE lE cN lN
      have cE := M5.out.kE.cell
      have lE := M5.out.kE.lt
      have cN := M5.out.kN.cell
      have lN := M5.out.kN.lt
      clear bx
      go_wp2_with fail
      refine (checktape_any g fa ua ta cf cu ct hgn (by omega) (by omega) ts hts _ M5.out.rf M5.out.ru M5.out.rt HGF.out.2.2.2.2.1).mono ?_
      rintro e x6 ⟨rfl, bx⟩
      rw [HTFLE.out]
      have M6 := Lib.hid (M5.out.call bx)
      clear cE lE cN lN
      have cE := M6.out.kE.cell
      have lE := M6.out.kE.lt
      have cN := M6.out.kN.cell
      have lN := M6.out.kN.lt
      clear bx
      go_wp2_with fail
      refine (same_any fE fE _).mono ?_
      rintro e y ⟨rfl, rfl⟩
      rw [ddfE]
      go_wp2_with fail
      refine (same_any fE fE _).mono ?_
      rintro e y ⟨rfl, rfl⟩
      rw [ddfE]
      go_wp2_with fail
      refine (HONELE.out _).mono ?_
      rintro e x7 ⟨fb, cg, ub, cw, tb, cx, rfl, r0, r1, r2, bx⟩
      have M7 := Lib.hid (M6.out.call bx)
      clear cE lE cN lN
      have cE := M7.out.kE.cell
      have lE := M7.out.kE.lt
      have cN := M7.out.kN.cell
      have lN := M7.out.kN.lt
      clear bx
      obtain ⟨V7, hV7⟩ : ∃ V, x7.alloc (.cells #[.int .i64 g.tick, .int .i64 g.g0, .int .i64 g.g1, .int .i64 g.next, .slice fb g.free.length cg, .slice ub g.us.length cw, .slice tb ts.length cx] 29) = V := ⟨_, rfl⟩
      have bV : Below x7.heap.size x7 V7 := by rw [← hV7]; exact (Below.refl _ _).alloc (Nat.le_refl _) _
      have kV : Blk V7 x7.heap.size #[.int .i64 g.tick, .int .i64 g.g0, .int .i64 g.g1, .int .i64 g.next, .slice fb g.free.length cg, .slice ub g.us.length cw, .slice tb ts.length cx] := by rw [← hV7]; exact Blk.new _ _ _
      have R0 := Lib.hid ((r0.below bV).mono bV.size)
      have R1 := Lib.hid ((r1.below bV).mono bV.size)
      have R2 := Lib.hid ((r2.below bV).mono bV.size)
      have KV7 := Lib.hid kV
      have M8 := Lib.hid (M7.out.call bV)
      clear cE lE cN lN
      have cE := M8.out.kE.cell
      have lE := M8.out.kE.lt
      have cN := M8.out.kN.cell
      have lN := M8.out.kN.lt
      clear bV kV r1 r2 r0
      go_wp2_with fail
      try rw [hV7]
      clear hV7
      refine (tapetext_any g ts fa ua ta cf cu ct _ M8.out.rf M8.out.ru M8.out.rt HNNLE.out (by omega) (by omega) (by omega) (by omega)).mono ?_
      rintro e x9 ⟨rfl, bx⟩
      rw [HTXLE.out]
      have R1' := Lib.hid ((R1.out.below bx).mono bx.size)
      have R2' := Lib.hid ((R2.out.below bx).mono bx.size)
      have KV' := Lib.hid (KV7.out.call bx)
      have R0' := Lib.hid ((R0.out.below bx).mono bx.size)
      have M9 := Lib.hid (M8.out.call bx)
      clear cE lE cN lN
      have cE := M9.out.kE.cell
      have lE := M9.out.kE.lt
      have cN := M9.out.kN.cell
      have lN := M9.out.kN.lt
      clear bx
      go_wp2_with fail
      refine (framed_T TXLE (by omega) _).mono ?_
      rintro e x10 ⟨rfl, bx⟩
      rw [HFRLE.out]
      have R1'' := Lib.hid ((R1'.out.below bx).mono bx.size)
      have R2'' := Lib.hid ((R2'.out.below bx).mono bx.size)
      have kV'' := KV'.out.call bx
      have R0'' := Lib.hid ((R0'.out.below bx).mono bx.size)
      obtain ⟨lV, cV, -⟩ := id kV''
      have M10 := Lib.hid (M9.out.call bx)
      clear cE lE cN lN
      have cE := M10.out.kE.cell
      have lE := M10.out.kE.lt
      have cN := M10.out.kN.cell
      have lN := M10.out.kN.lt
      clear bx
      go_wp2_with fail
      refine (same_any 0 0 _).mono ?_
      rintro e y ⟨rfl, rfl⟩
      rw [dd0]
      go_wp2_with fail
      refine (sametape_n g.tick g.g0 g.g1 g.next (g.us.map (backU false)) g.us.length (by simp) ub ua cw cu (by omega) g.free fb fa cg cf (by omega) ts tb ta cx ct (by omega) hts8 _ R1''.out (urow_backE M10.out.ru) R0''.out M10.out.rf R2''.out M10.out.rt).mono ?_
      rintro e x11 ⟨rfl, bx⟩
      have M11 := Lib.hid (M10.out.call bx)
      clear cE lE cN lN
      have cE := M11.out.kE.cell
      have lE := M11.out.kE.lt
      have cN := M11.out.kN.cell
      have lN := M11.out.kN.lt
      clear bx lV cV kV''
      go_wp2_with fail
      refine (reelbytes_any h va pa cv cp hhn hhf (by omega) ps hps _ M11.out.rv hnil hcap M11.out.rp HHF.out HHC.out).mono ?_
      rintro e x12 ⟨rfl, bx⟩
      rw [HBYLN.out]
      dsimp only
      rw [HSN.out]
      have M12 := Lib.hid (M11.out.call bx)
      clear cE lE cN lN
      have cE := M12.out.kE.cell
      have lE := M12.out.kE.lt
      have cN := M12.out.kN.cell
      have lN := M12.out.kN.lt
      clear bx
      go_wp2_with fail
      refine (refreelFault_any h va pa cv cp hhn hhf (by omega) ps hps _ M12.out.rv M12.out.rp).mono ?_
      rintro e x13 ⟨rfl, bx⟩
      rw [HTFLN.out]
      have M13 := Lib.hid (M12.out.call bx)
      clear cE lE cN lN
      have cE := M13.out.kE.cell
      have lE := M13.out.kE.lt
      have cN := M13.out.kN.cell
      have lN := M13.out.kN.lt
      clear bx
      go_wp2_with fail
      refine (checkreel_any h va pa cv cp hhn hhf (by omega) ps hps _ M13.out.rv hnil hcap M13.out.rp).mono ?_
      rintro e x14 ⟨rfl, bx⟩
      rw [HTFLN.out]
      have M14 := Lib.hid (M13.out.call bx)
      clear cE lE cN lN
      have cE := M14.out.kE.cell
      have lE := M14.out.kE.lt
      have cN := M14.out.kN.cell
      have lN := M14.out.kN.lt
      clear bx
      go_wp2_with fail
      refine (same_any fN fN _).mono ?_
      rintro e y ⟨rfl, rfl⟩
      rw [ddfN]
      go_wp2_with fail
      refine (same_any fN fN _).mono ?_
      rintro e y ⟨rfl, rfl⟩
      rw [ddfN]
      go_wp2_with fail
      refine (checkreel_any h va pa cv cp hhn hhf (by omega) ps hps _ M14.out.rv hnil hcap M14.out.rp).mono ?_
      rintro e x15 ⟨rfl, bx⟩
      rw [HTFLN.out]
      have M15 := Lib.hid (M14.out.call bx)
      clear cE lE cN lN
      have cE := M15.out.kE.cell
      have lE := M15.out.kE.lt
      have cN := M15.out.kN.cell
      have lN := M15.out.kN.lt
      clear bx
      go_wp2_with fail
      refine (same_any fN fN _).mono ?_
      rintro e y ⟨rfl, rfl⟩
      rw [ddfN]
      go_wp2_with fail
      refine (same_any fN fN _).mono ?_
      rintro e y ⟨rfl, rfl⟩
      rw [ddfN]
      go_wp2_with fail
      go_ret
      exact ⟨rfl, M15.out.bel⟩
  · by_cases hN0 : tapeFN true h ps = 0
    · obtain ⟨fE, hfE⟩ : ∃ x, tapeFault g ts = x := ⟨_, rfl⟩
      have HTFLE := Lib.hid hfE
      have ddfE : (fE == fE) = true := by simp
      have HBYLE := Lib.hid (show tapeBytesOf false g ts = ([], fE) by rw [tape_bad false g ts hE0]; exact congrArg (Prod.mk []) hfE)
      have HSE := Lib.hid bstr_nil
      have hpfE : 0 < fE := Nat.pos_of_ne_zero (fun e => hE0 (hfE.trans e))
      have e1fE : decide ((0 : Int) < (fE : Int)) = true := decide_eq_true (by omega)
      have e2fE : decide (0 < fE) = true := decide_eq_true (by omega)
      have e3fE : ((fE : Int) == 0) = false := by simp; omega
      have e4fE : (fE == 0) = false := by simp; omega
      have e5fE : decide ((fE : Int) = 0) = false := decide_eq_false (by omega)
      have e6fE : decide (fE = 0) = false := decide_eq_false (by omega)
      clear hfE hE0
      obtain ⟨fN, hfN⟩ : ∃ x, reelFault h ps = x := ⟨_, rfl⟩
      have HTFLN := Lib.hid hfN
      have ddfN : (fN == fN) = true := by simp
      obtain ⟨sb1, sb2, sb3, nn, bigh, f1h, f2h, f3h, f4h⟩ := tape_back true h ps hhn (fun _ => hhf) HHC.out hN0
      have HNNLN := Lib.hid nn
      have lenLN : (outL (tapeN true h ps)).length ≤ 50000 := by
        have h1 := outL_length (tapeN true h ps)
        omega
      have sb1' : tapeBytesOf true h ps = (frameL 82 (outL (tapeN true h ps)), 0) := sb1
      have sb2' : tapeF true (frameL 82 (outL (tapeN true h ps))) = 0 := sb2
      have sb3' : tapeI true (openL 82 (frameL 82 (outL (tapeN true h ps)))) = (backG true h, ps.map (List.map (backC true)), ([], 0)) := sb3
      have sb4 : gotR (frameL 82 (outL (tapeN true h ps))) = (backG true h, ps.map (List.map (backC true))) := by
        unfold gotR
        rw [if_pos sb2', sb3']
      have hps8 : ∀ l ∈ ps.map (List.map (backC true)), l.length ≤ 100000 := fun l hl => (by
        obtain ⟨l', hl', rfl⟩ := List.mem_map.1 hl
        have := f4h l' hl'
        rw [List.length_map]
        omega)
      obtain ⟨TXLN, hTX⟩ : ∃ x, bstr (outL (tapeN true h ps)) = x := ⟨_, rfl⟩
      have zTXLN : TXLN.size ≤ 50000 := by rw [← hTX, bstr_size]; exact lenLN
      have hTXl : TXLN.data.toList = outL (tapeN true h ps) := by rw [← hTX, bstr_list]
      obtain ⟨LN, hLN⟩ : ∃ x, frameL 82 (outL (tapeN true h ps)) = x := ⟨_, rfl⟩
      have zLN : LN.length ≤ 60000 := by rw [← hLN, frameL_length]; omega
      obtain ⟨SN, hSN⟩ : ∃ x, bstr LN = x := ⟨_, rfl⟩
      have HSN := Lib.hid hSN
      have hFR : bstr (frameL 82 TXLN.data.toList) = SN := by rw [hTXl, hLN, hSN]
      have HFRLN := Lib.hid hFR
      have HTXLN := Lib.hid hTX
      rw [hLN] at sb1' sb2' sb4
      have HONELN := Lib.hid (fun w => reelof_back h ps SN (by rw [← hSN, bstr_size]; omega) LN (by rw [← hSN, bstr_list]) sb4 sb2' w)
      have HBYLN := Lib.hid (show tapeBytesOf true h ps = (LN, fN) by rw [sb1', ← hfN]; exact congrArg (Prod.mk LN) hN0.symm)
      have hzfN : fN = 0 := hfN.symm.trans hN0
      have e1fN : decide ((0 : Int) < (fN : Int)) = false := decide_eq_false (by omega)
      have e2fN : decide (0 < fN) = false := decide_eq_false (by omega)
      have e3fN : ((fN : Int) == 0) = true := by simp; omega
      have e4fN : (fN == 0) = true := by simp; omega
      have e5fN : decide ((fN : Int) = 0) = true := decide_eq_true (by omega)
      have e6fN : decide (fN = 0) = true := decide_eq_true (by omega)
      clear sb1 sb2 sb3 sb1' sb2' sb3' sb4 nn hTX hTXl hLN hSN hFR hfN hzfN hN0 lenLN zLN f4h
      go_wp2_with fail
      refine (tapebytes_any g fa ua ta cf cu ct hgn (by omega) (by omega) ts hts _ M3.out.rf M3.out.ru M3.out.rt HGF.out HGC.out).mono ?_
      rintro e x4 ⟨rfl, bx⟩
      rw [HBYLE.out]
      dsimp only
      rw [HSE.out]
      have M4 := Lib.hid (M3.out.call bx)
      clear cE lE cN lN
      have cE := M4.out.kE.cell
      have lE := M4.out.kE.lt
      have cN := M4.out.kN.cell
      have lN := M4.out.kN.lt
      clear bx
      go_wp2_with fail
      refine (reftapeFault_any g fa ua ta cf cu ct hgn (by omega) (by omega) ts hts _ M4.out.rf M4.out.ru M4.out.rt).mono ?_
      rintro e x5 ⟨rfl, bx⟩
      rw [HTFLE.out]
      have M5 := Lib.hid (M4.out.call bx)
      clear cE lE cN lN
      have cE := M5.out.kE.cell
      have lE := M5.out.kE.lt
      have cN := M5.out.kN.cell
      have lN := M5.out.kN.lt
      clear bx
      go_wp2_with fail
      refine (checktape_any g fa ua ta cf cu ct hgn (by omega) (by omega) ts hts _ M5.out.rf M5.out.ru M5.out.rt HGF.out.2.2.2.2.1).mono ?_
      rintro e x6 ⟨rfl, bx⟩
      rw [HTFLE.out]
      have M6 := Lib.hid (M5.out.call bx)
      clear cE lE cN lN
      have cE := M6.out.kE.cell
      have lE := M6.out.kE.lt
      have cN := M6.out.kN.cell
      have lN := M6.out.kN.lt
      clear bx
      go_wp2_with fail
      refine (same_any fE fE _).mono ?_
      rintro e y ⟨rfl, rfl⟩
      rw [ddfE]
      go_wp2_with fail
      refine (same_any fE fE _).mono ?_
      rintro e y ⟨rfl, rfl⟩
      rw [ddfE]
      go_wp2_with fail
      refine (reelbytes_any h va pa cv cp hhn hhf (by omega) ps hps _ M6.out.rv hnil hcap M6.out.rp HHF.out HHC.out).mono ?_
      rintro e x7 ⟨rfl, bx⟩
      rw [HBYLN.out]
      dsimp only
      rw [HSN.out]
      have M7 := Lib.hid (M6.out.call bx)
      clear cE lE cN lN
      have cE := M7.out.kE.cell
      have lE := M7.out.kE.lt
      have cN := M7.out.kN.cell
      have lN := M7.out.kN.lt
      clear bx
      go_wp2_with fail
      refine (refreelFault_any h va pa cv cp hhn hhf (by omega) ps hps _ M7.out.rv M7.out.rp).mono ?_
      rintro e x8 ⟨rfl, bx⟩
      rw [HTFLN.out]
      have M8 := Lib.hid (M7.out.call bx)
      clear cE lE cN lN
      have cE := M8.out.kE.cell
      have lE := M8.out.kE.lt
      have cN := M8.out.kN.cell
      have lN := M8.out.kN.lt
      clear bx
      go_wp2_with fail
      refine (checkreel_any h va pa cv cp hhn hhf (by omega) ps hps _ M8.out.rv hnil hcap M8.out.rp).mono ?_
      rintro e x9 ⟨rfl, bx⟩
      rw [HTFLN.out]
      have M9 := Lib.hid (M8.out.call bx)
      clear cE lE cN lN
      have cE := M9.out.kE.cell
      have lE := M9.out.kE.lt
      have cN := M9.out.kN.cell
      have lN := M9.out.kN.lt
      clear bx
      go_wp2_with fail
      refine (same_any fN fN _).mono ?_
      rintro e y ⟨rfl, rfl⟩
      rw [ddfN]
      go_wp2_with fail
      refine (same_any fN fN _).mono ?_
      rintro e y ⟨rfl, rfl⟩
      rw [ddfN]
      go_wp2_with fail
      refine (HONELN.out _).mono ?_
      rintro e x10 ⟨vb, cw, pb, cy, rfl, r1, r2, bx⟩
      have M10 := Lib.hid (M9.out.call bx)
      clear cE lE cN lN
      have cE := M10.out.kE.cell
      have lE := M10.out.kE.lt
      have cN := M10.out.kN.cell
      have lN := M10.out.kN.lt
      clear bx
      obtain ⟨V10, hV10⟩ : ∃ V, x10.alloc (.cells #[.int .i64 h.tick, .int .i64 h.g0, .int .i64 h.g1, .int .i64 h.next, .slice vb h.us.length cw, .slice pb ps.length cy] 35) = V := ⟨_, rfl⟩
      have bV : Below x10.heap.size x10 V10 := by rw [← hV10]; exact (Below.refl _ _).alloc (Nat.le_refl _) _
      have kV : Blk V10 x10.heap.size #[.int .i64 h.tick, .int .i64 h.g0, .int .i64 h.g1, .int .i64 h.next, .slice vb h.us.length cw, .slice pb ps.length cy] := by rw [← hV10]; exact Blk.new _ _ _
      have R1 := Lib.hid ((r1.below bV).mono bV.size)
      have R2 := Lib.hid ((r2.below bV).mono bV.size)
      have KV10 := Lib.hid kV
      have M11 := Lib.hid (M10.out.call bV)
      clear cE lE cN lN
      have cE := M11.out.kE.cell
      have lE := M11.out.kE.lt
      have cN := M11.out.kN.cell
      have lN := M11.out.kN.lt
      clear bV kV r1 r2
      go_wp2_with fail
      try rw [hV10]
      clear hV10
      refine (reeltext_any h ps va pa cv cp _ M11.out.rv M11.out.rp HNNLN.out (by omega) (by omega) (by omega)).mono ?_
      rintro e x12 ⟨rfl, bx⟩
      rw [HTXLN.out]
      have R1' := Lib.hid ((R1.out.below bx).mono bx.size)
      have R2' := Lib.hid ((R2.out.below bx).mono bx.size)
      have KV' := Lib.hid (KV10.out.call bx)
      have M12 := Lib.hid (M11.out.call bx)
      clear cE lE cN lN
      have cE := M12.out.kE.cell
      have lE := M12.out.kE.lt
      have cN := M12.out.kN.cell
      have lN := M12.out.kN.lt
      clear bx
      go_wp2_with fail
      refine (framed_R TXLN (by omega) _).mono ?_
      rintro e x13 ⟨rfl, bx⟩
      rw [HFRLN.out]
      have R1'' := Lib.hid ((R1'.out.below bx).mono bx.size)
      have R2'' := Lib.hid ((R2'.out.below bx).mono bx.size)
      have kV'' := KV'.out.call bx
      obtain ⟨lV, cV, -⟩ := id kV''
      have M13 := Lib.hid (M12.out.call bx)
      clear cE lE cN lN
      have cE := M13.out.kE.cell
      have lE := M13.out.kE.lt
      have cN := M13.out.kN.cell
      have lN := M13.out.kN.lt
      clear bx
      go_wp2_with fail
      refine (same_any 0 0 _).mono ?_
      rintro e y ⟨rfl, rfl⟩
      rw [dd0]
      go_wp2_with fail
      refine (samereel_n h.tick h.g0 h.g1 h.next (h.us.map (backU true)) h.us.length (by simp) vb va cw cv (by omega) (ps.map (List.map (backC true))) ps.length (by simp) pb pa cy cp (by omega) hps8 _ R1''.out (urow_backN M13.out.rv) R2''.out (prow_back M13.out.rp)).mono ?_
      rintro e x14 ⟨rfl, bx⟩
      have M14 := Lib.hid (M13.out.call bx)
      clear cE lE cN lN
      have cE := M14.out.kE.cell
      have lE := M14.out.kE.lt
      have cN := M14.out.kN.cell
      have lN := M14.out.kN.lt
      clear bx lV cV kV''
      go_wp2_with fail
      go_ret
      exact ⟨rfl, M14.out.bel⟩
    · obtain ⟨fE, hfE⟩ : ∃ x, tapeFault g ts = x := ⟨_, rfl⟩
      have HTFLE := Lib.hid hfE
      have ddfE : (fE == fE) = true := by simp
      have HBYLE := Lib.hid (show tapeBytesOf false g ts = ([], fE) by rw [tape_bad false g ts hE0]; exact congrArg (Prod.mk []) hfE)
      have HSE := Lib.hid bstr_nil
      have hpfE : 0 < fE := Nat.pos_of_ne_zero (fun e => hE0 (hfE.trans e))
      have e1fE : decide ((0 : Int) < (fE : Int)) = true := decide_eq_true (by omega)
      have e2fE : decide (0 < fE) = true := decide_eq_true (by omega)
      have e3fE : ((fE : Int) == 0) = false := by simp; omega
      have e4fE : (fE == 0) = false := by simp; omega
      have e5fE : decide ((fE : Int) = 0) = false := decide_eq_false (by omega)
      have e6fE : decide (fE = 0) = false := decide_eq_false (by omega)
      clear hfE hE0
      obtain ⟨fN, hfN⟩ : ∃ x, reelFault h ps = x := ⟨_, rfl⟩
      have HTFLN := Lib.hid hfN
      have ddfN : (fN == fN) = true := by simp
      have HBYLN := Lib.hid (show tapeBytesOf true h ps = ([], fN) by rw [tape_bad true h ps hN0]; exact congrArg (Prod.mk []) hfN)
      have HSN := Lib.hid bstr_nil
      have hpfN : 0 < fN := Nat.pos_of_ne_zero (fun e => hN0 (hfN.trans e))
      have e1fN : decide ((0 : Int) < (fN : Int)) = true := decide_eq_true (by omega)
      have e2fN : decide (0 < fN) = true := decide_eq_true (by omega)
      have e3fN : ((fN : Int) == 0) = false := by simp; omega
      have e4fN : (fN == 0) = false := by simp; omega
      have e5fN : decide ((fN : Int) = 0) = false := decide_eq_false (by omega)
      have e6fN : decide (fN = 0) = false := decide_eq_false (by omega)
      clear hfN hN0
      go_wp2_with fail
      refine (tapebytes_any g fa ua ta cf cu ct hgn (by omega) (by omega) ts hts _ M3.out.rf M3.out.ru M3.out.rt HGF.out HGC.out).mono ?_
      rintro e x4 ⟨rfl, bx⟩
      rw [HBYLE.out]
      dsimp only
      rw [HSE.out]
      have M4 := Lib.hid (M3.out.call bx)
      clear cE lE cN lN
      have cE := M4.out.kE.cell
      have lE := M4.out.kE.lt
      have cN := M4.out.kN.cell
      have lN := M4.out.kN.lt
      clear bx
      go_wp2_with fail
      refine (reftapeFault_any g fa ua ta cf cu ct hgn (by omega) (by omega) ts hts _ M4.out.rf M4.out.ru M4.out.rt).mono ?_
      rintro e x5 ⟨rfl, bx⟩
      rw [HTFLE.out]
      have M5 := Lib.hid (M4.out.call bx)
      clear cE lE cN lN
      have cE := M5.out.kE.cell
      have lE := M5.out.kE.lt
      have cN := M5.out.kN.cell
      have lN := M5.out.kN.lt
      clear bx
      go_wp2_with fail
      refine (checktape_any g fa ua ta cf cu ct hgn (by omega) (by omega) ts hts _ M5.out.rf M5.out.ru M5.out.rt HGF.out.2.2.2.2.1).mono ?_
      rintro e x6 ⟨rfl, bx⟩
      rw [HTFLE.out]
      have M6 := Lib.hid (M5.out.call bx)
      clear cE lE cN lN
      have cE := M6.out.kE.cell
      have lE := M6.out.kE.lt
      have cN := M6.out.kN.cell
      have lN := M6.out.kN.lt
      clear bx
      go_wp2_with fail
      refine (same_any fE fE _).mono ?_
      rintro e y ⟨rfl, rfl⟩
      rw [ddfE]
      go_wp2_with fail
      refine (same_any fE fE _).mono ?_
      rintro e y ⟨rfl, rfl⟩
      rw [ddfE]
      go_wp2_with fail
      refine (reelbytes_any h va pa cv cp hhn hhf (by omega) ps hps _ M6.out.rv hnil hcap M6.out.rp HHF.out HHC.out).mono ?_
      rintro e x7 ⟨rfl, bx⟩
      rw [HBYLN.out]
      dsimp only
      rw [HSN.out]
      have M7 := Lib.hid (M6.out.call bx)
      clear cE lE cN lN
      have cE := M7.out.kE.cell
      have lE := M7.out.kE.lt
      have cN := M7.out.kN.cell
      have lN := M7.out.kN.lt
      clear bx
      go_wp2_with fail
      refine (refreelFault_any h va pa cv cp hhn hhf (by omega) ps hps _ M7.out.rv M7.out.rp).mono ?_
      rintro e x8 ⟨rfl, bx⟩
      rw [HTFLN.out]
      have M8 := Lib.hid (M7.out.call bx)
      clear cE lE cN lN
      have cE := M8.out.kE.cell
      have lE := M8.out.kE.lt
      have cN := M8.out.kN.cell
      have lN := M8.out.kN.lt
      clear bx
      go_wp2_with fail
      refine (checkreel_any h va pa cv cp hhn hhf (by omega) ps hps _ M8.out.rv hnil hcap M8.out.rp).mono ?_
      rintro e x9 ⟨rfl, bx⟩
      rw [HTFLN.out]
      have M9 := Lib.hid (M8.out.call bx)
      clear cE lE cN lN
      have cE := M9.out.kE.cell
      have lE := M9.out.kE.lt
      have cN := M9.out.kN.cell
      have lN := M9.out.kN.lt
      clear bx
      go_wp2_with fail
      refine (same_any fN fN _).mono ?_
      rintro e y ⟨rfl, rfl⟩
      rw [ddfN]
      go_wp2_with fail
      refine (same_any fN fN _).mono ?_
      rintro e y ⟨rfl, rfl⟩
      rw [ddfN]
      go_wp2_with fail
      refine (checkreel_any h va pa cv cp hhn hhf (by omega) ps hps _ M9.out.rv hnil hcap M9.out.rp).mono ?_
      rintro e x10 ⟨rfl, bx⟩
      rw [HTFLN.out]
      have M10 := Lib.hid (M9.out.call bx)
      clear cE lE cN lN
      have cE := M10.out.kE.cell
      have lE := M10.out.kE.lt
      have cN := M10.out.kN.cell
      have lN := M10.out.kN.lt
      clear bx
      go_wp2_with fail
      refine (same_any fN fN _).mono ?_
      rintro e y ⟨rfl, rfl⟩
      rw [ddfN]
      go_wp2_with fail
      refine (same_any fN fN _).mono ?_
      rintro e y ⟨rfl, rfl⟩
      rw [ddfN]
      go_wp2_with fail
      go_ret
      exact ⟨rfl, M10.out.bel⟩
end Go.Proofs.Ytlfljlhppigejab
