/-
  Plain law for chapter 6: bytes that are read as a state, a tape or a reel are its bytes. No program in sight. Rows that are owned, read as rows: units, commands, orders. The walks of snap.ElderBytes and snap.ElderOf. The walks of snap.NewerBytes and snap.NewerOf. Ticks that were read: a row of slices that is owned, each of a row that is owned. The walk of snap.TapeOf. The walk of snap.ReelOf. The walk of snap.TapeBytes. The walk of snap.ReelBytes.
-/
import Derived.Test.YtlfljlhppigejabPackIn
import Derived.Test.YtlfljlhppigejabReelAll
import Derived.Test.YtlfljlhppigejabInts
import Derived.Test.YtlfljlhppigejabPackInNE
import Derived.Test.YtlfljlhppigejabPackOut
import Derived.Test.YtlfljlhppigejabSnapBody
import Derived.Test.YtlfljlhppigejabElderCheck
import Derived.Test.YtlfljlhppigejabNewCheck
import Derived.Test.YtlfljlhppigejabTapeAll
namespace Go.Proofs.Ytlfljlhppigejab

def kindB (n : Bool) : UInt8 := if n then 78 else 69
def kindT (n : Bool) : UInt8 := if n then 82 else 84
/-- A state's bytes, the error's number. -/
def bytesOf (n : Bool) (g : G) : List UInt8 × Nat := if faultOf g ≠ 0 then ([], faultOf g) else (frameL (kindB n) (outL (startN n g)), 0)
/-- What is wrong with bytes that are read as a state. -/
def stateF (n : Bool) (l : List UInt8) : Nat :=
  if endI (startI n (openL (kindB n) l)).2 ≠ 0 then endI (startI n (openL (kindB n) l)).2 else faultOf (startI n (openL (kindB n) l)).1
def tapeFN (n : Bool) (g : G) (ts : List (List Cm)) : Nat := if n then reelFault g ts else tapeFault g ts
def tapeBytesOf (n : Bool) (g : G) (ts : List (List Cm)) : List UInt8 × Nat :=
  if tapeFN n g ts ≠ 0 then ([], tapeFN n g ts) else if badL (tapeN n g ts) = true then ([], 1) else (frameL (kindT n) (outL (tapeN n g ts)), 0)
def tapeF (n : Bool) (l : List UInt8) : Nat :=
  if endI (tapeI n (openL (kindT n) l)).2.2 ≠ 0 then endI (tapeI n (openL (kindT n) l)).2.2 else tapeFN n (tapeI n (openL (kindT n) l)).1 (tapeI n (openL (kindT n) l)).2.1
theorem state_law (n : Bool) (l : List UInt8) (h : stateF n l = 0) : bytesOf n (startI n (openL (kindB n) l)).1 = (l, 0) := by
  unfold stateF at h
  split at h
  · next h1 => exact absurd h h1
  · next h1 =>
    have h2 : endI (startI n (openL (kindB n) l)).2 = 0 := by omega
    unfold bytesOf
    rw [if_neg (by omega), read_frame (kindB n) l _ _ (startI_rd n _ (endI_ok _ h2)) h2]
theorem tape_law (n : Bool) (l : List UInt8) (h : tapeF n l = 0) : tapeBytesOf n (tapeI n (openL (kindT n) l)).1 (tapeI n (openL (kindT n) l)).2.1 = (l, 0) := by
  unfold tapeF at h
  split at h
  · next h1 => exact absurd h h1
  · next h1 =>
    have h2 : endI (tapeI n (openL (kindT n) l)).2.2 = 0 := by omega
    have r := tapeI_rd n _ (endI_ok _ h2)
    unfold tapeBytesOf
    rw [if_neg (by omega), r.nat, if_neg (by simp), read_frame (kindT n) l _ _ r h2]
theorem unitsI_fits (k : Nat) (mk : List Int → U) (hmk : ∀ v : List Int, v.length = k → (∀ n ∈ v, Fits64 n) → (mk v).Fits) (st : St) (m : Nat) (h : (unitsI k mk st m).2.2 = 0) : ∀ u ∈ (unitsI k mk st m).1, u.Fits := by
  induction m with
  | zero => intro u hu; simp [unitsI] at hu
  | succ m ih =>
    intro u hu
    have h1 := numsI_rd' (unitsI k mk st m).2 k h
    rcases List.mem_append.1 (show u ∈ (unitsI k mk st m).1 ++ [mk (numsI (unitsI k mk st m).2 k).1] from hu) with h2 | h2
    · exact ih h1.ok u h2
    · obtain rfl : u = _ := by simpa using h2
      exact hmk _ (numsI_length _ _) h1.fit
theorem fits0 : Fits64 0 := ⟨by omega, by omega⟩
theorem mkE_fits (v : List Int) (h : v.length = 10) (hf : ∀ n ∈ v, Fits64 n) : (mkE v).Fits := by
  match v, h with
  | [a, b, c, d, e, f, g, i, j, k], _ =>
    refine ⟨hf _ ?_, hf _ ?_, hf _ ?_, hf _ ?_, hf _ ?_, hf _ ?_, hf _ ?_, hf _ ?_, hf _ ?_, hf _ ?_, fits0⟩ <;> simp [mkE]
theorem mkN_fits (v : List Int) (h : v.length = 11) (hf : ∀ n ∈ v, Fits64 n) : (mkN v).Fits := by
  match v, h with
  | [a, b, c, d, e, f, g, i, j, k, l], _ =>
    refine ⟨hf _ ?_, hf _ ?_, hf _ ?_, hf _ ?_, hf _ ?_, hf _ ?_, hf _ ?_, hf _ ?_, hf _ ?_, hf _ ?_, hf _ ?_⟩ <;> simp [mkN]
theorem elderI_us (st : St) : ∃ s m, (elderI st).1.us = (unitsI 10 mkE s m).1 ∧ (elderI st).2 = (unitsI 10 mkE s m).2 := by
  unfold elderI
  dsimp only
  exact ⟨_, _, rfl, rfl⟩
theorem newerI_us (st : St) : ∃ s m, (newerI st).1.us = (unitsI 11 mkN s m).1 ∧ (newerI st).2 = (unitsI 11 mkN s m).2 := by
  unfold newerI
  dsimp only
  exact ⟨_, _, rfl, rfl⟩
theorem fits_elder (g : G) (r : ∀ x ∈ elderN g, Fits64 x) (hu : ∀ u ∈ g.us, u.Fits) : g.Fits := by
  unfold elderN at r
  refine ⟨r _ ?_, r _ ?_, r _ ?_, r _ ?_, fun x hx => r x ?_, hu⟩
  all_goals simp [*]
theorem fits_newer (g : G) (hf : g.free = []) (r : ∀ x ∈ newerN g, Fits64 x) (hu : ∀ u ∈ g.us, u.Fits) : g.Fits := by
  unfold newerN at r
  refine ⟨r _ ?_, r _ ?_, r _ ?_, r _ ?_, fun x hx => ?_, hu⟩
  case refine_5 => rw [hf] at hx; simp at hx
  all_goals simp
theorem startI_fits (n : Bool) (st : St) (h : (startI n st).2.2 = 0) : (startI n st).1.Fits := by
  have r := (startI_rd n st h).fit
  cases n
  · refine fits_elder (elderI st).1 r ?_
    have h' : (elderI st).2.2 = 0 := h
    obtain ⟨s, m, e1, e2⟩ := elderI_us st
    rw [e2] at h'
    rw [e1]
    exact unitsI_fits 10 mkE mkE_fits s m h'
  · refine fits_newer (newerI st).1 rfl r ?_
    have h' : (newerI st).2.2 = 0 := h
    obtain ⟨s, m, e1, e2⟩ := newerI_us st
    rw [e2] at h'
    rw [e1]
    exact unitsI_fits 11 mkN mkN_fits s m h'
theorem mkC_fits (n : Bool) (v : List Int) (h : v.length = cmK n) (hf : ∀ x ∈ v, Fits64 x) : (mkC v).Fits := by
  cases n
  · match v, h with
    | [a, b, c, d, e, f, g], _ => refine ⟨hf _ ?_, hf _ ?_, hf _ ?_, hf _ ?_, hf _ ?_, hf _ ?_, hf _ ?_⟩ <;> simp [mkC]
  · match v, h with
    | [a, b, c, d, e, f], _ => refine ⟨hf _ ?_, hf _ ?_, hf _ ?_, hf _ ?_, hf _ ?_, hf _ ?_, fits0⟩ <;> simp [mkC]
theorem cmsI_fits (n : Bool) (st : St) (m : Nat) (h : (cmsI n st m).2.2 = 0) : ∀ c ∈ (cmsI n st m).1, c.Fits := by
  induction m with
  | zero => intro u hu; simp [cmsI] at hu
  | succ m ih =>
    intro u hu
    have h1 := numsI_rd' (cmsI n st m).2 (cmK n) h
    rcases List.mem_append.1 (show u ∈ (cmsI n st m).1 ++ [mkC (numsI (cmsI n st m).2 (cmK n)).1] from hu) with h2 | h2
    · exact ih h1.ok u h2
    · obtain rfl : u = _ := by simpa using h2
      exact mkC_fits n _ (numsI_length _ _) h1.fit
theorem ticksI_fits (n : Bool) (st : St) (m : Nat) (h : (ticksI n st m).2.2 = 0) : ∀ l ∈ (ticksI n st m).1, ∀ c ∈ l, c.Fits := by
  induction m with
  | zero => intro u hu; simp [ticksI] at hu
  | succ m ih =>
    intro u hu
    have h1 : (tickI n (ticksI n st m).2).2.2 = 0 := h
    rcases List.mem_append.1 (show u ∈ (ticksI n st m).1 ++ [(tickI n (ticksI n st m).2).1] from hu) with h2 | h2
    · exact ih (tickI_rd n _ h1).ok u h2
    · obtain rfl : u = _ := by simpa using h2
      exact cmsI_fits n _ _ h1
theorem tickI_few (n : Bool) (st : St) : (tickI n st).1.length ≤ 8 := by
  unfold tickI
  rw [cmsI_length]
  have := manyI_range st 8 (by omega)
  omega
theorem ticksI_few (n : Bool) (st : St) (m : Nat) : ∀ l ∈ (ticksI n st m).1, l.length ≤ 8 := by
  induction m with
  | zero => intro u hu; simp [ticksI] at hu
  | succ m ih =>
    intro u hu
    rcases List.mem_append.1 (show u ∈ (ticksI n st m).1 ++ [(tickI n (ticksI n st m).2).1] from hu) with h2 | h2
    · exact ih u h2
    · obtain rfl : u = _ := by simpa using h2
      exact tickI_few n _
theorem startI_new (n : Bool) (st : St) : (startI n st).1.new = n := by cases n <;> rfl
theorem newerI_free (st : St) : (newerI st).1.free = [] := rfl
end Go.Proofs.Ytlfljlhppigejab
namespace Go.Proofs.Ytlfljlhppigejab
open Go.RowKit

theorem flat_get {α : Type} (f : α → List Value) (s : Nat) (d : α) (hf : ∀ x, (f x).length = s) : ∀ (l : List α) (i j : Nat), i < l.length → j < s → (l.flatMap f)[i * s + j]? = (f (l.getD i d))[j]? := by
  intro l
  induction l with
  | nil => intro i j h; simp at h
  | cons x l ih =>
    intro i j hi hj
    rw [List.flatMap_cons]
    cases i with
    | zero =>
      rw [Nat.zero_mul, Nat.zero_add, List.getElem?_append_left (by rw [hf]; exact hj)]
      rfl
    | succ i =>
      rw [List.getElem?_append_right (by rw [hf, Nat.succ_mul]; omega), hf, Nat.succ_mul, show i * s + s + j - s = i * s + j from by omega, ih i j (by simpa using hi) hj]
      rfl
theorem flat_length {α : Type} (f : α → List Value) (s : Nat) (hf : ∀ x, (f x).length = s) (l : List α) : (l.flatMap f).length = l.length * s := by
  induction l with
  | nil => simp
  | cons x l ih => rw [List.flatMap_cons, List.length_append, ih, hf, List.length_cons, Nat.succ_mul]; omega
theorem row_of_own {α : Type} (f : α → List Value) (s : Nat) (d : α) (hf : ∀ x, (f x).length = s) {w : World} {B n : Nat} {e : TypeId} {v : Value} {l : List α} (hn : l.length = n) (h : w.ownsRow B e s v n (l.flatMap f)) :
    ∃ a c, v = .slice a n c ∧ n ≤ c ∧ n ≤ maxLen ∧ (a = none → n = 0 ∧ c = 0) ∧ ∀ i, i < n → ∃ b, a = some ⟨b, 0, none⟩ ∧ b < w.heap.size ∧ ∀ j, j < s → w.cell? ⟨b, 0 + i * s + j, none⟩ = (f (l.getD i d))[j]? := by
  subst hn
  rcases h.2 with ⟨h1, h2⟩ | ⟨g, cap, cur, h1, -, -, h4, h5, -⟩
  · exact ⟨none, 0, by rw [h1, h2], by omega, by rw [h2]; simp [maxLen], fun _ => ⟨h2, rfl⟩, fun i hi => by omega⟩
  · have hown := h
    subst h1
    refine ⟨_, cap, rfl, h4, by omega, fun e => (by cases e), fun i hi => ⟨g, rfl, (World.ownsRow.lt hown g rfl).2, fun j hj => ?_⟩⟩
    have hlt : i * s + j < l.length * s := by
      have := Nat.mul_le_mul_right s (show i + 1 ≤ l.length from hi)
      rw [Nat.succ_mul] at this
      omega
    rw [Nat.zero_add, World.ownsRow.cellAt hown (i * s + j) hlt]
    exact flat_get f s d hf l i j hi hj
theorem own_max {w : World} {B s n : Nat} {e : TypeId} {v : Value} {xs : List Value} (h : w.ownsRow B e s v n xs) : n ≤ maxLen := by
  rcases h.2 with ⟨-, h2⟩ | ⟨g, cap, cur, -, -, -, h4, h5, -⟩
  · rw [h2]; simp [maxLen]
  · omega
/-- Of what type the block of a row is that is owned. -/
theorem own_type {w : World} {B s n : Nat} {e : TypeId} {v : Value} {xs : List Value} (h : w.ownsRow B e s v n xs) : ∀ b, v.ownBlock = some b → ∃ c fr, w.heap[b]? = some (.cells c e fr) := by
  intro b hb
  rcases h.2 with ⟨h1, -⟩ | ⟨g, cap, cur, h1, -, hg, -⟩
  · rw [h1] at hb; cases hb
  · rw [h1] at hb
    have : g = b := Option.some.inj hb
    exact ⟨cur, _, by rw [← this]; exact hg⟩
theorem own_apart {w : World} {B B' s s' n n' : Nat} {e e' : TypeId} {v v' : Value} {xs xs' : List Value} (h : w.ownsRow B e s v n xs) (h' : w.ownsRow B' e' s' v' n' xs') (hne : e ≠ e') : ∀ b, v.ownBlock = some b → v'.ownBlock ≠ some b := by
  intro b hb hb'
  obtain ⟨c, fr, h1⟩ := own_type h b hb
  obtain ⟨c', fr', h2⟩ := own_type h' b hb'
  rw [h1] at h2
  injection h2 with h3
  injection h3 with h4 h5 h6
  exact hne h5

theorem newer_row {w : World} {B n : Nat} {v : Value} {us : List U} (hn : us.length = n) (h : w.ownsRow B 142 11 v n (cellsAllN us)) : ∃ a c, v = .slice a n c ∧ URow true w.heap.size w a us ∧ (a = none → n = 0 ∧ c = 0) ∧ n ≤ c ∧ n ≤ maxLen := by
  obtain ⟨a, c, h1, h2, h3, h4, h5⟩ := row_of_own cellsN 11 zeroU cellsN_length hn h
  refine ⟨a, c, h1, fun i hi => ?_, h4, h2, h3⟩
  obtain ⟨b, ha, hb, hc⟩ := h5 i (by omega)
  exact ⟨b, 0, ha, hb, hc⟩
theorem elder_row {w : World} {B n : Nat} {v : Value} {us : List U} (hn : us.length = n) (h : w.ownsRow B 83 10 v n (cellsAll us)) : ∃ a c, v = .slice a n c ∧ URow false w.heap.size w a us ∧ n ≤ maxLen := by
  obtain ⟨a, c, h1, h2, h3, h4, h5⟩ := row_of_own cellsE 10 zeroU (fun _ => rfl) hn h
  refine ⟨a, c, h1, fun i hi => ?_, h3⟩
  obtain ⟨b, ha, hb, hc⟩ := h5 i (by omega)
  exact ⟨b, 0, ha, hb, hc⟩
def cellsAllC (cs : List Cm) : List Value := cs.flatMap cellsC
def cellsAllO (cs : List Cm) : List Value := cs.flatMap cellsO
theorem cmd_row {w : World} {B n : Nat} {v : Value} {cs : List Cm} (hn : cs.length = n) (h : w.ownsRow B 111 7 v n (cellsAllC cs)) : ∃ a c, v = .slice a n c ∧ CRow w.heap.size w a cs ∧ n ≤ maxLen := by
  obtain ⟨a, c, h1, h2, h3, h4, h5⟩ := row_of_own cellsC 7 zeroC (fun _ => rfl) hn h
  refine ⟨a, c, h1, fun i hi => ?_, h3⟩
  obtain ⟨b, ha, hb, hc⟩ := h5 i (by omega)
  exact ⟨b, 0, ha, hb, hc⟩
theorem order_row {w : World} {B n : Nat} {v : Value} {cs : List Cm} (hn : cs.length = n) (h : w.ownsRow B 129 6 v n (cellsAllO cs)) : ∃ a c, v = .slice a n c ∧ ORow w.heap.size w a cs ∧ n ≤ maxLen := by
  obtain ⟨a, c, h1, h2, h3, h4, h5⟩ := row_of_own cellsO 6 zeroC (fun _ => rfl) hn h
  refine ⟨a, c, h1, fun i hi => ?_, h3⟩
  obtain ⟨b, ha, hb, hc⟩ := h5 i (by omega)
  exact ⟨b, 0, ha, hb, hc⟩
end Go.Proofs.Ytlfljlhppigejab
namespace Go.Proofs.Ytlfljlhppigejab
open Go.RowKit

theorem ret_cell2 {P : Program} {fn : Func} {s t : Tmp} {ty : TypeId} (h : fn.results = #[.cell s ty, .tmp t]) {tmps : Array Value} {W : World} {p : Nat} {c : Array Value} {d : TypeDesc} {v1 : Value} (hs : tmps.getD s undef = .pointer (some ⟨p, 0, none⟩)) (h1 : tmps.getD t undef = v1)
    (hk : Blk W p c) (hu : P.underlying ty = some d) (hd : d.isRow = true) (hi : (P.info? ty).map (·.size) = some c.size) : (results fn tmps).run P W = .ok (.tuple #[.agg c, v1]) W := by
  have hr : W.rangeAt p 0 c.toList := fun j x hx => by
    rw [Nat.zero_add, hk.cell j]
    simpa using hx
  have hp' : tmps[s]?.getD undef = .pointer (some ⟨p, 0, none⟩) := by simpa using hs
  have h1' : tmps[t]?.getD undef = v1 := by simpa using h1
  have h3 := run_loadVar_mid W p 0 ty c.toList d hr hu hd (by simpa using hi)
  simp [results, h, hp', h1', asAddr, h3, Result.andThen]
theorem outB_new (w : World) (B : Nat) (h : B ≤ w.heap.size) : OutB (w.alloc (.cells #[.pointer none, .slice none 0 0, .bool false] 107)) B w.heap.size (.slice none 0 0) (u8V []) false :=
  ⟨h, ⟨_, Or.inl rfl, heap_alloc_new w _⟩, World.ownsRow_nil _ _ _ _, by intro e; cases e⟩
theorem numL_ne (n : Nat) : numL n ≠ [] := by
  unfold numL
  rw [numF]
  split <;> simp
theorem outL_ne (n : Int) (l : List Int) (h : 0 ≤ n) : outL (n :: l) ≠ [] := by
  unfold outL
  rw [List.flatMap_cons]
  unfold numB
  rw [if_neg (by omega)]
  intro e
  exact numL_ne _ (List.append_eq_nil_iff.1 e).1
theorem flat_ints_length {α : Type} (f : α → List Int) (s : Nat) (hf : ∀ x, (f x).length = s) (l : List α) : (l.flatMap f).length = l.length * s := by
  induction l with
  | nil => simp
  | cons x l ih => rw [List.flatMap_cons, List.length_append, ih, hf, List.length_cons, Nat.succ_mul]; omega
theorem elderN_length (g : G) : (elderN g).length = 6 + g.free.length + g.us.length * 10 := by
  unfold elderN
  rw [List.length_append, flat_ints_length fieldsE 10 (fun _ => rfl)]
  simp
  omega

theorem ints_row {w : World} {B n c : Nat} {a : Option Addr} {l : List Int} (hn : l.length = n) (h : w.ownsRow B 3 1 (.slice a n c) n (intCells l)) : Row w.heap.size w a n (fun k => .int .i64 (l.getD k 0)) := by
  obtain ⟨a', c', e, h'⟩ := ints_at hn h
  cases e
  exact h'
theorem ents_row {w : World} {B n c : Nat} {a : Option Addr} {us : List U} (hn : us.length = n) (h : w.ownsRow B 83 10 (.slice a n c) n (cellsAll us)) : URow false w.heap.size w a us := by
  obtain ⟨a', c', e, h', -⟩ := elder_row hn h
  cases e
  exact h'
set_option maxHeartbeats 3200000 in
set_option maxRecDepth 100000 in
theorem elderbytes_any (g : G) (fa ua : Option Addr) (cf cu : Nat) (hnew : g.new = false) (hcf : g.free.length ≤ 9223372036854775807) (hcu : g.us.length ≤ 9223372036854775807) (w : World)
    (hf : Row w.heap.size w fa g.free.length (fun k => .int .i64 (g.free.getD k 0))) (hu : URow false w.heap.size w ua g.us) (hfit : g.Fits) :
    Calls Try.prog 43 #[.agg #[.int .i64 g.tick, .int .i64 g.g0, .int .i64 g.g1, .int .i64 g.next, .slice fa g.free.length cf, .slice ua g.us.length cu]] w
      fun e w' => e = .returned (.tuple #[.string (bstr (bytesOf false g).1), errV (bytesOf false g).2]) ∧ Below w.heap.size w w' := by
  obtain ⟨W, hW⟩ : ∃ W, w.alloc (.cells #[.int .i64 g.tick, .int .i64 g.g0, .int .i64 g.g1, .int .i64 g.next, .slice fa g.free.length cf, .slice ua g.us.length cu] 26) = W := ⟨_, rfl⟩
  have hbW : Below w.heap.size w W := by rw [← hW]; exact (Below.refl _ _).alloc (Nat.le_refl _) _
  have kK : Blk W w.heap.size #[.int .i64 g.tick, .int .i64 g.g0, .int .i64 g.g1, .int .i64 g.next, .slice fa g.free.length cf, .slice ua g.us.length cu] := by rw [← hW]; exact Blk.new w _ _
  have hsW := hbW.size
  obtain ⟨lK, cK, -⟩ := id kK
  have HF := Lib.hid hf
  have HU := Lib.hid hu
  have HFIT := Lib.hid hfit
  have HNEW := Lib.hid hnew
  have HW := Lib.hid hbW
  have KK := Lib.hid kK
  clear hf hu hfit hnew hbW kK
  go_enter Try.func43, Try.ntmps43
  go_upto_region 1 with fail
  try rw [hW]
  clear hW
  go_wp2_with fail
  refine (check_any g fa ua g.free.length cf g.us.length cu HNEW.out rfl rfl hcf hcu _ ((HF.out.below HW.out).mono hsW) ((HU.out.below HW.out).mono hsW) HFIT.out.2.2.2.2.1).mono ?_
  rintro e w1 ⟨rfl, b1⟩
  have HB1 : Hid (Below w.heap.size w w1) := Lib.hid (HW.out.trans (b1.mono hsW))
  have k1 := KK.out.call b1
  have hs1 := HB1.out.size
  obtain ⟨l1, c1, -⟩ := id k1
  have K1 := Lib.hid k1
  clear b1 k1 cK lK
  by_cases hfault : faultOf g = 0
  case neg =>
    rw [errV_pos _ hfault]
    have HBY : Hid (bytesOf false g = ([], faultOf g)) := Lib.hid (by show _ = _; unfold bytesOf; rw [if_pos hfault])
    have HFA := Lib.hid hfault
    clear hfault
    go_wp2_with fail
    go_ret2
    rw [HBY.out, errV_pos _ HFA.out]
    exact ⟨rfl, HB1.out⟩
  rw [hfault, errV_zero]
  have hg := (right_iff g).1 hfault
  have hfew := hg.few
  have hunf := hg.unfree
  have hhead := hg.head
  have HBY : Hid (bytesOf false g = (frameL 69 (outL (elderN g)), 0)) := Lib.hid (by show _ = _; unfold bytesOf; rw [if_neg (by omega)]; rfl)
  have ht : 0 ≤ g.tick := by unfold headBad at hhead; omega
  have hlen := elderN_length g
  have hol := outL_length (elderN g)
  have hne : outL (elderN g) ≠ [] := outL_ne g.tick _ ht
  clear hfault hg hhead
  obtain ⟨V, hV⟩ : ∃ V, w1.alloc (.cells #[.pointer none, .slice none 0 0, .bool false] 107) = V := ⟨_, rfl⟩
  have hbV : Below w1.heap.size w1 V := by rw [← hV]; exact (Below.refl _ _).alloc (Nat.le_refl _) _
  have ob : OutB V w.heap.size w1.heap.size (.slice none 0 0) (u8V []) false := by rw [← hV]; exact outB_new w1 _ hs1
  have kV := K1.out.call hbV
  obtain ⟨lV, cV, -⟩ := id kV
  have hsV := hbV.size
  have HBV := Lib.hid hbV
  have OB := Lib.hid ob
  have HNE := Lib.hid hne
  clear hbV ob kV hne c1 l1
  go_upto_region 5 with fail
  try rw [hV]
  clear hV
  go_wp2_with fail
  refine (outelder_any g w.heap.size w1.heap.size [] false _ fa ua cf cu V OB.out (by simp) (by omega) (by omega) HFIT.out (HF.out.below (HB1.out.trans (HBV.out.mono hs1))) (HU.out.below (HB1.out.trans (HBV.out.mono hs1))) (by omega)).mono ?_
  rintro e w2 ⟨rfl, ⟨bv, ob2⟩, r2⟩
  rw [List.nil_append] at ob2
  have OB2 := Lib.hid ob2
  have R2 := Lib.hid r2
  have hs2 := r2.below.size
  have l2 : w1.heap.size < w2.heap.size := by obtain ⟨p, -, k⟩ := ob2.cell; exact k.lt
  clear ob2 r2 cV lV
  go_wp2_with fail
  refine (string_any w.heap.size w1.heap.size bv _ _ w2 OB2.out HNE.out).mono ?_
  rintro e w3 ⟨rfl, b3⟩
  have B3 := Lib.hid b3
  have hs3 := b3.size
  clear b3
  go_wp2_with fail
  refine (frame_any 69 (bstr (outL (elderN g))) (by rw [bstr_size]; omega) w3).mono ?_
  rintro e w4 ⟨rfl, b4⟩
  have B4 := Lib.hid b4
  clear b4
  rw [bstr_list]
  go_wp2_with fail
  go_ret2
  rw [HBY.out, errV_zero]
  exact ⟨rfl, ((((HB1.out.trans (HBV.out.mono hs1)).trans R2.out.below).trans B3.out).trans (B4.out.mono (by omega)))⟩

/-- What ElderOf hands back. -/
def ElderOfEnd (l : List UInt8) (w : World) (e : Ending) (w' : World) : Prop :=
  (stateF false l ≠ 0 → e = .returned (.tuple #[.agg #[.int .i64 0, .int .i64 0, .int .i64 0, .int .i64 0, .slice none 0 0, .slice none 0 0], errV (stateF false l)])) ∧
  (stateF false l = 0 → ∃ fa cf ua cu, e = .returned (.tuple #[.agg #[.int .i64 (elderI (openL 69 l)).1.tick, .int .i64 (elderI (openL 69 l)).1.g0, .int .i64 (elderI (openL 69 l)).1.g1, .int .i64 (elderI (openL 69 l)).1.next, .slice fa (elderI (openL 69 l)).1.free.length cf, .slice ua (elderI (openL 69 l)).1.us.length cu], .nilIface]) ∧
    Row w'.heap.size w' fa (elderI (openL 69 l)).1.free.length (fun k => .int .i64 ((elderI (openL 69 l)).1.free.getD k 0)) ∧ URow false w'.heap.size w' ua (elderI (openL 69 l)).1.us) ∧ Below w.heap.size w w'

set_option maxHeartbeats 6400000 in
set_option maxRecDepth 100000 in
theorem elderof_any (s : ByteArray) (hs : s.size ≤ 900000) (w : World) :
    Calls Try.prog 45 #[.string s] w (ElderOfEnd s.data.toList w) := by
  obtain ⟨l, hl⟩ : ∃ l, s.data.toList = l := ⟨_, rfl⟩
  have hll : l.length ≤ 900000 := by rw [← hl, ← Lib.size_eq]; exact hs
  have HO := Lib.hid (body_any 69 s hs)
  rw [hl] at HO ⊢
  clear hl
  obtain ⟨W, hW⟩ : ∃ W, w.alloc (.cells #[.int .i64 0, .int .i64 0, .int .i64 0, .int .i64 0, .slice none 0 0, .slice none 0 0] 26) = W := ⟨_, rfl⟩
  have hbW : Below w.heap.size w W := by rw [← hW]; exact (Below.refl _ _).alloc (Nat.le_refl _) _
  have kR : Blk W w.heap.size #[.int .i64 0, .int .i64 0, .int .i64 0, .int .i64 0, .slice none 0 0, .slice none 0 0] := by rw [← hW]; exact Blk.new w _ _
  have hsW := hbW.size
  have lR := kR.lt
  have HW := Lib.hid hbW
  have KR := Lib.hid kR
  clear hbW kR
  go_enter Try.func45, Try.ntmps45
  go_upto_region 1 with fail
  try rw [hW]
  clear hW
  go_wp2_with fail
  refine (HO.out W).mono ?_
  rintro e w1 ⟨S, rfl, hS, bS, b1⟩
  obtain ⟨st, hst⟩ : ∃ st, openL 69 l = st := ⟨_, rfl⟩
  have hstl : st.1.length ≤ 1000000 := by
    rw [← hst]
    unfold openL
    repeat' split
    all_goals (simp; try omega)
  rw [hst] at bS
  have HST := Lib.hid hst
  have BS := Lib.hid bS
  have K1 := Lib.hid (KR.out.call b1)
  have HB1 : Hid (Below w.heap.size w w1) := Lib.hid (HW.out.trans (b1.mono hsW))
  have hs1 := b1.size
  have lS1 := bS.lt
  clear bS b1 hst
  go_wp2_with fail
  refine (elder_in st S w1 BS.out hstl).mono ?_
  rintro e w2 ⟨fv, ev, rfl, bS2, kp2, of2, oe2⟩
  obtain ⟨r, hr⟩ : ∃ r, elderI st = r := ⟨_, rfl⟩
  have HR := Lib.hid hr
  rw [hr] at bS2 of2 oe2 ⊢
  have hnew : r.1.new = false := by rw [← hr]; rfl
  obtain ⟨fa, cf, rfl⟩ := own_slice of2
  obtain ⟨ua, cu, rfl⟩ := own_slice oe2
  have hfl := own_max of2
  have hul := own_max oe2
  have lofB : ∀ b, (Value.slice fa r.1.free.length cf).ownBlock = some b → w1.heap.size ≤ b ∧ b < w2.heap.size := fun b hb => World.ownsRow.lt of2 b hb
  have loeB : ∀ b, (Value.slice ua r.1.us.length cu).ownBlock = some b → w1.heap.size ≤ b ∧ b < w2.heap.size := fun b hb => World.ownsRow.lt oe2 b hb
  have OF2 := Lib.hid of2
  have OE2 := Lib.hid oe2
  have LOF := Lib.hid lofB
  have LOE := Lib.hid loeB
  have HNEW := Lib.hid hnew
  have HB2 : Hid (Below w.heap.size w w2) := Lib.hid (HB1.out.trans (kp2.below (fun b hb => by omega) (by omega)))
  have hs2 := kp2.size
  have BS2 := Lib.hid bS2
  have K2 := Lib.hid (K1.out.kp kp2 (by omega))
  have hm : maxLen ≤ 9223372036854775807 := by unfold maxLen; decide
  clear hr kp2 of2 oe2 bS2 lofB loeB hnew
  obtain ⟨V, hV⟩ : ∃ V, w2.alloc (.cells #[.int .i64 r.1.tick, .int .i64 r.1.g0, .int .i64 r.1.g1, .int .i64 r.1.next, .slice fa r.1.free.length cf, .slice ua r.1.us.length cu] 26) = V := ⟨_, rfl⟩
  have hbV : Below w2.heap.size w2 V := by rw [← hV]; exact (Below.refl _ _).alloc (Nat.le_refl _) _
  have kV : Blk V w2.heap.size #[.int .i64 r.1.tick, .int .i64 r.1.g0, .int .i64 r.1.g1, .int .i64 r.1.next, .slice fa r.1.free.length cf, .slice ua r.1.us.length cu] := by rw [← hV]; exact Blk.new w2 _ _
  have hsV := hbV.size
  have lV := kV.lt
  have KV := Lib.hid kV
  have KRV := Lib.hid (K2.out.call hbV)
  have BSV := Lib.hid (BS2.out.call hbV)
  have HBV := Lib.hid (HB2.out.trans (hbV.mono (by omega)))
  have OFV := Lib.hid (own_kp OF2.out (kp_of hbV (fun _ => False)) (fun _ _ x => x))
  have OEV := Lib.hid (own_kp OE2.out (kp_of hbV (fun _ => False)) (fun _ _ x => x))
  clear kV hbV
  go_upto_region 3 with fail
  try rw [hV]
  clear hV
  go_wp2_with fail
  refine (end_in r.2 S V BSV.out).mono ?_
  rintro e w3 ⟨rfl, rfl⟩
  obtain ⟨f, hf⟩ : ∃ f, endI r.2 = f := ⟨_, rfl⟩
  rw [hf]
  have HF := Lib.hid hf
  have kr3 := KRV.out
  obtain ⟨lR3, cR3, fR3⟩ := id kr3
  clear hf kr3
  by_cases h0 : f = 0
  case neg =>
    rw [errV_pos _ h0]
    have HFA : Hid (stateF false l = f ∧ f ≠ 0) := Lib.hid ⟨by
      have e : endI (startI false (openL (kindB false) l)).2 = f := by
        show endI (elderI (openL 69 l)).2 = f
        rw [HST.out, HR.out, HF.out]
      unfold stateF
      rw [e, if_pos h0], h0⟩
    clear h0
    go_wp2_with fail
    refine bodyPost_ret (v := .tuple #[.agg #[.int .i64 0, .int .i64 0, .int .i64 0, .int .i64 0, .slice none 0 0, .slice none 0 0], .iface 112 (.int .i64 f)]) (ret_cell2 Try.results45 rfl rfl (KRV.out.store6 rfl (.int .i64 0) (.int .i64 0) (.int .i64 0) (.int .i64 0) (.slice none 0 0) (.slice none 0 0)) Try.underlying26 rfl infoElder) rfl ?_
    refine ⟨fun _ => by rw [HFA.out.1, errV_pos _ HFA.out.2], fun h => absurd (HFA.out.1.symm.trans h) HFA.out.2, ?_⟩
    iterate 6 (refine Below.setCell ?_ (by simp) _)
    exact HBV.out
  subst h0
  rw [errV_zero]
  have hfits : r.1.Fits := by
    have h := startI_fits false st (by show (elderI st).2.2 = 0; rw [HR.out]; exact endI_ok _ HF.out)
    have e : (startI false st).1 = r.1 := by show (elderI st).1 = r.1; rw [HR.out]
    rwa [e] at h
  have HFITS := Lib.hid hfits
  obtain ⟨lV2, cV2, -⟩ := id KV.out
  clear hfits
  go_wp2_with fail
  refine (check_any r.1 fa ua r.1.free.length cf r.1.us.length cu HNEW.out rfl rfl (by omega) (by omega) _ (ints_row rfl OFV.out) (ents_row rfl OEV.out) HFITS.out.2.2.2.2.1).mono ?_
  rintro e w4 ⟨rfl, b4⟩
  obtain ⟨f, hf⟩ : ∃ f, faultOf r.1 = f := ⟨_, rfl⟩
  rw [hf]
  have HSF : Hid (stateF false l = f) := Lib.hid (by
    have e : endI (startI false (openL (kindB false) l)).2 = 0 := by
      show endI (elderI (openL 69 l)).2 = 0
      rw [HST.out, HR.out, HF.out]
    have e2 : (startI false (openL (kindB false) l)).1 = r.1 := by
      show (elderI (openL 69 l)).1 = r.1
      rw [HST.out, HR.out]
    show stateF false l = f
    unfold stateF
    rw [e, e2, if_neg (by simp), hf])
  have HB4 := Lib.hid (HBV.out.trans (b4.mono (by omega)))
  have k4 := KRV.out.call b4
  obtain ⟨lR4, cR4, fR4⟩ := id k4
  have kv4 := KV.out.call b4
  obtain ⟨lV4, cV4, -⟩ := id kv4
  have K4 := Lib.hid k4
  have hs4 := b4.size
  have OF4 := Lib.hid (own_kp OFV.out (kp_of b4 (fun _ => False)) (fun _ _ x => x))
  have OE4 := Lib.hid (own_kp OEV.out (kp_of b4 (fun _ => False)) (fun _ _ x => x))
  clear b4 k4 kv4 hf cV2 cR3 fR3 lV2 lR3
  by_cases h0 : f = 0
  case neg =>
    rw [errV_pos _ h0]
    have HFA := Lib.hid h0
    clear h0
    go_wp2_with fail
    refine bodyPost_ret (v := .tuple #[.agg #[.int .i64 0, .int .i64 0, .int .i64 0, .int .i64 0, .slice none 0 0, .slice none 0 0], .iface 112 (.int .i64 f)]) (ret_cell2 Try.results45 rfl rfl (K4.out.store6 rfl (.int .i64 0) (.int .i64 0) (.int .i64 0) (.int .i64 0) (.slice none 0 0) (.slice none 0 0)) Try.underlying26 rfl infoElder) rfl ?_
    refine ⟨fun _ => by rw [HSF.out, errV_pos _ HFA.out], fun h => absurd (HSF.out.symm.trans h) HFA.out, ?_⟩
    iterate 6 (refine Below.setCell ?_ (by simp) _)
    exact HB4.out
  subst h0
  rw [errV_zero]
  go_wp2_with fail
  refine bodyPost_ret (v := .tuple #[.agg #[.int .i64 r.1.tick, .int .i64 r.1.g0, .int .i64 r.1.g1, .int .i64 r.1.next, .slice fa r.1.free.length cf, .slice ua r.1.us.length cu], .nilIface]) (ret_cell2 Try.results45 rfl rfl (K4.out.store6 rfl (.int .i64 r.1.tick) (.int .i64 r.1.g0) (.int .i64 r.1.g1) (.int .i64 r.1.next) (.slice fa r.1.free.length cf) (.slice ua r.1.us.length cu)) Try.underlying26 rfl infoElder) rfl ?_
  have XK := (((((((Kp.refl (fun b => b = w.heap.size) w4).andset ⟨w.heap.size, 0, none⟩ (.int .i64 r.1.tick) rfl).andset ⟨w.heap.size, 1, none⟩ (.int .i64 r.1.g0) rfl).andset ⟨w.heap.size, 2, none⟩ (.int .i64 r.1.g1) rfl).andset ⟨w.heap.size, 3, none⟩ (.int .i64 r.1.next) rfl).andset ⟨w.heap.size, 4, none⟩ (.slice fa r.1.free.length cf) rfl).andset ⟨w.heap.size, 5, none⟩ (.slice ua r.1.us.length cu) rfl)
  unfold ElderOfEnd
  rw [HST.out, HR.out]
  refine ⟨fun h => absurd HSF.out h, fun _ => ⟨fa, cf, ua, cu, rfl, ints_row rfl (own_kp OF4.out XK (fun b hb e => ?_)), ents_row rfl (own_kp OE4.out XK (fun b hb e => ?_))⟩, ?_⟩
  · have := (LOF.out b hb).1; omega
  · have := (LOE.out b hb).1; omega
  · iterate 6 (refine Below.setCell ?_ (by simp) _)
    exact HB4.out
end Go.Proofs.Ytlfljlhppigejab
namespace Go.Proofs.Ytlfljlhppigejab
open Go.RowKit

theorem newerN_length (g : G) : (newerN g).length = 5 + g.us.length * 11 := by
  unfold newerN
  rw [List.length_append, flat_ints_length fieldsN 11 (fun _ => rfl)]
  simp
theorem units_row {w : World} {B n c : Nat} {a : Option Addr} {us : List U} (hn : us.length = n) (h : w.ownsRow B 142 11 (.slice a n c) n (cellsAllN us)) : URow true w.heap.size w a us ∧ (a = none → n = 0 ∧ c = 0) ∧ n ≤ c := by
  obtain ⟨a', c', e, h1, h2, h3, -⟩ := newer_row hn h
  cases e
  exact ⟨h1, h2, h3⟩
set_option maxHeartbeats 3200000 in
set_option maxRecDepth 100000 in
theorem newerbytes_any (g : G) (ua : Option Addr) (cu : Nat) (hnew : g.new = true) (hfree : g.free = []) (hcu : g.us.length ≤ 9223372036854775807) (w : World)
    (hu : URow true w.heap.size w ua g.us) (hnil : ua = none → g.us.length = 0 ∧ cu = 0) (hcap : g.us.length ≤ cu) (hfit : g.Fits) :
    Calls Try.prog 47 #[.agg #[.int .i64 g.tick, .int .i64 g.g0, .int .i64 g.g1, .int .i64 g.next, .slice ua g.us.length cu]] w
      fun e w' => e = .returned (.tuple #[.string (bstr (bytesOf true g).1), errV (bytesOf true g).2]) ∧ Below w.heap.size w w' := by
  obtain ⟨W, hW⟩ : ∃ W, w.alloc (.cells #[.int .i64 g.tick, .int .i64 g.g0, .int .i64 g.g1, .int .i64 g.next, .slice ua g.us.length cu] 32) = W := ⟨_, rfl⟩
  have hbW : Below w.heap.size w W := by rw [← hW]; exact (Below.refl _ _).alloc (Nat.le_refl _) _
  have kK : Blk W w.heap.size #[.int .i64 g.tick, .int .i64 g.g0, .int .i64 g.g1, .int .i64 g.next, .slice ua g.us.length cu] := by rw [← hW]; exact Blk.new w _ _
  have hsW := hbW.size
  obtain ⟨lK, cK, -⟩ := id kK
  have HFREE := Lib.hid hfree
  have HNIL := Lib.hid hnil
  have HU := Lib.hid hu
  have HFIT := Lib.hid hfit
  have HNEW := Lib.hid hnew
  have HW := Lib.hid hbW
  have KK := Lib.hid kK
  clear hu hfit hnew hfree hnil hbW kK
  go_enter Try.func47, Try.ntmps47
  go_upto_region 1 with fail
  try rw [hW]
  clear hW
  go_wp2_with fail
  refine (ncheck_any g ua cu HNEW.out HFREE.out hcu _ ((HU.out.below HW.out).mono hsW) HNIL.out hcap).mono ?_
  rintro e w1 ⟨rfl, b1⟩
  have HB1 : Hid (Below w.heap.size w w1) := Lib.hid (HW.out.trans (b1.mono hsW))
  have k1 := KK.out.call b1
  have hs1 := HB1.out.size
  obtain ⟨l1, c1, -⟩ := id k1
  have K1 := Lib.hid k1
  clear b1 k1 cK lK
  by_cases hfault : faultOf g = 0
  case neg =>
    rw [errV_pos _ hfault]
    have HBY : Hid (bytesOf true g = ([], faultOf g)) := Lib.hid (by show _ = _; unfold bytesOf; rw [if_pos hfault])
    have HFA := Lib.hid hfault
    clear hfault
    go_wp2_with fail
    go_ret2
    rw [HBY.out, errV_pos _ HFA.out]
    exact ⟨rfl, HB1.out⟩
  rw [hfault, errV_zero]
  have hg := (right_iff g).1 hfault
  have hfew := hg.few
  have hhead := hg.head
  have HBY : Hid (bytesOf true g = (frameL 78 (outL (newerN g)), 0)) := Lib.hid (by show _ = _; unfold bytesOf; rw [if_neg (by omega)]; rfl)
  have ht : 0 ≤ g.tick := by unfold headBad at hhead; omega
  have hlen := newerN_length g
  have hol := outL_length (newerN g)
  have hne : outL (newerN g) ≠ [] := outL_ne g.tick _ ht
  clear hfault hg hhead
  obtain ⟨V, hV⟩ : ∃ V, w1.alloc (.cells #[.pointer none, .slice none 0 0, .bool false] 107) = V := ⟨_, rfl⟩
  have hbV : Below w1.heap.size w1 V := by rw [← hV]; exact (Below.refl _ _).alloc (Nat.le_refl _) _
  have ob : OutB V w.heap.size w1.heap.size (.slice none 0 0) (u8V []) false := by rw [← hV]; exact outB_new w1 _ hs1
  have kV := K1.out.call hbV
  obtain ⟨lV, cV, -⟩ := id kV
  have hsV := hbV.size
  have HBV := Lib.hid hbV
  have OB := Lib.hid ob
  have HNE := Lib.hid hne
  clear hbV ob kV hne c1 l1
  go_upto_region 5 with fail
  try rw [hV]
  clear hV
  go_wp2_with fail
  refine (outnewer_any g w.heap.size w1.heap.size [] false _ ua cu V OB.out (by simp) (by omega) HFIT.out (HU.out.below (HB1.out.trans (HBV.out.mono hs1))) (by omega)).mono ?_
  rintro e w2 ⟨rfl, ⟨bv, ob2⟩, r2⟩
  rw [List.nil_append] at ob2
  have OB2 := Lib.hid ob2
  have R2 := Lib.hid r2
  have hs2 := r2.below.size
  have l2 : w1.heap.size < w2.heap.size := by obtain ⟨p, -, k⟩ := ob2.cell; exact k.lt
  clear ob2 r2 cV lV
  go_wp2_with fail
  refine (string_any w.heap.size w1.heap.size bv _ _ w2 OB2.out HNE.out).mono ?_
  rintro e w3 ⟨rfl, b3⟩
  have B3 := Lib.hid b3
  have hs3 := b3.size
  clear b3
  go_wp2_with fail
  refine (frame_any 78 (bstr (outL (newerN g))) (by rw [bstr_size]; omega) w3).mono ?_
  rintro e w4 ⟨rfl, b4⟩
  have B4 := Lib.hid b4
  clear b4
  rw [bstr_list]
  go_wp2_with fail
  go_ret2
  rw [HBY.out, errV_zero]
  exact ⟨rfl, ((((HB1.out.trans (HBV.out.mono hs1)).trans R2.out.below).trans B3.out).trans (B4.out.mono (by omega)))⟩

/-- What NewerOf hands back. -/
def NewerOfEnd (l : List UInt8) (w : World) (e : Ending) (w' : World) : Prop :=
  (stateF true l ≠ 0 → e = .returned (.tuple #[.agg #[.int .i64 0, .int .i64 0, .int .i64 0, .int .i64 0, .slice none 0 0], errV (stateF true l)])) ∧
  (stateF true l = 0 → ∃ ua cu, e = .returned (.tuple #[.agg #[.int .i64 (newerI (openL 78 l)).1.tick, .int .i64 (newerI (openL 78 l)).1.g0, .int .i64 (newerI (openL 78 l)).1.g1, .int .i64 (newerI (openL 78 l)).1.next, .slice ua (newerI (openL 78 l)).1.us.length cu], .nilIface]) ∧
    URow true w'.heap.size w' ua (newerI (openL 78 l)).1.us ∧ (ua = none → (newerI (openL 78 l)).1.us.length = 0 ∧ cu = 0) ∧ (newerI (openL 78 l)).1.us.length ≤ cu) ∧ Below w.heap.size w w'

set_option maxHeartbeats 6400000 in
set_option maxRecDepth 100000 in
theorem newerof_any (s : ByteArray) (hs : s.size ≤ 900000) (w : World) :
    Calls Try.prog 46 #[.string s] w (NewerOfEnd s.data.toList w) := by
  obtain ⟨l, hl⟩ : ∃ l, s.data.toList = l := ⟨_, rfl⟩
  have hll : l.length ≤ 900000 := by rw [← hl, ← Lib.size_eq]; exact hs
  have HO := Lib.hid (body_any 78 s hs)
  rw [hl] at HO ⊢
  clear hl
  obtain ⟨W, hW⟩ : ∃ W, w.alloc (.cells #[.int .i64 0, .int .i64 0, .int .i64 0, .int .i64 0, .slice none 0 0] 32) = W := ⟨_, rfl⟩
  have hbW : Below w.heap.size w W := by rw [← hW]; exact (Below.refl _ _).alloc (Nat.le_refl _) _
  have kR : Blk W w.heap.size #[.int .i64 0, .int .i64 0, .int .i64 0, .int .i64 0, .slice none 0 0] := by rw [← hW]; exact Blk.new w _ _
  have hsW := hbW.size
  have lR := kR.lt
  have HW := Lib.hid hbW
  have KR := Lib.hid kR
  clear hbW kR
  go_enter Try.func46, Try.ntmps46
  go_upto_region 1 with fail
  try rw [hW]
  clear hW
  go_wp2_with fail
  refine (HO.out W).mono ?_
  rintro e w1 ⟨S, rfl, hS, bS, b1⟩
  obtain ⟨st, hst⟩ : ∃ st, openL 78 l = st := ⟨_, rfl⟩
  have hstl : st.1.length ≤ 1000000 := by
    rw [← hst]
    unfold openL
    repeat' split
    all_goals (simp; try omega)
  rw [hst] at bS
  have HST := Lib.hid hst
  have BS := Lib.hid bS
  have K1 := Lib.hid (KR.out.call b1)
  have HB1 : Hid (Below w.heap.size w w1) := Lib.hid (HW.out.trans (b1.mono hsW))
  have hs1 := b1.size
  have lS1 := bS.lt
  clear bS b1 hst
  go_wp2_with fail
  refine (newer_in st S w1 BS.out hstl).mono ?_
  rintro e w2 ⟨ev, rfl, bS2, kp2, oe2⟩
  obtain ⟨r, hr⟩ : ∃ r, newerI st = r := ⟨_, rfl⟩
  have HR := Lib.hid hr
  rw [hr] at bS2 oe2 ⊢
  have hnew : r.1.new = true := by rw [← hr]; rfl
  have hfree : r.1.free = [] := by rw [← hr]; rfl
  have HFREE := Lib.hid hfree
  obtain ⟨ua, cu, rfl⟩ := own_slice oe2
  have hul := own_max oe2
  have loeB : ∀ b, (Value.slice ua r.1.us.length cu).ownBlock = some b → w1.heap.size ≤ b ∧ b < w2.heap.size := fun b hb => World.ownsRow.lt oe2 b hb
  have OE2 := Lib.hid oe2
  have LOE := Lib.hid loeB
  have HNEW := Lib.hid hnew
  have HB2 : Hid (Below w.heap.size w w2) := Lib.hid (HB1.out.trans (kp2.below (fun b hb => by omega) (by omega)))
  have hs2 := kp2.size
  have BS2 := Lib.hid bS2
  have K2 := Lib.hid (K1.out.kp kp2 (by omega))
  have hm : maxLen ≤ 9223372036854775807 := by unfold maxLen; decide
  clear hr kp2 oe2 bS2 loeB hnew hfree
  obtain ⟨V, hV⟩ : ∃ V, w2.alloc (.cells #[.int .i64 r.1.tick, .int .i64 r.1.g0, .int .i64 r.1.g1, .int .i64 r.1.next, .slice ua r.1.us.length cu] 32) = V := ⟨_, rfl⟩
  have hbV : Below w2.heap.size w2 V := by rw [← hV]; exact (Below.refl _ _).alloc (Nat.le_refl _) _
  have kV : Blk V w2.heap.size #[.int .i64 r.1.tick, .int .i64 r.1.g0, .int .i64 r.1.g1, .int .i64 r.1.next, .slice ua r.1.us.length cu] := by rw [← hV]; exact Blk.new w2 _ _
  have hsV := hbV.size
  have lV := kV.lt
  have KV := Lib.hid kV
  have KRV := Lib.hid (K2.out.call hbV)
  have BSV := Lib.hid (BS2.out.call hbV)
  have HBV := Lib.hid (HB2.out.trans (hbV.mono (by omega)))
  have OEV := Lib.hid (own_kp OE2.out (kp_of hbV (fun _ => False)) (fun _ _ x => x))
  clear kV hbV
  go_upto_region 3 with fail
  try rw [hV]
  clear hV
  go_wp2_with fail
  refine (end_in r.2 S V BSV.out).mono ?_
  rintro e w3 ⟨rfl, rfl⟩
  obtain ⟨f, hf⟩ : ∃ f, endI r.2 = f := ⟨_, rfl⟩
  rw [hf]
  have HF := Lib.hid hf
  have kr3 := KRV.out
  obtain ⟨lR3, cR3, fR3⟩ := id kr3
  clear hf kr3
  by_cases h0 : f = 0
  case neg =>
    rw [errV_pos _ h0]
    have HFA : Hid (stateF true l = f ∧ f ≠ 0) := Lib.hid ⟨by
      have e : endI (startI true (openL (kindB true) l)).2 = f := by
        show endI (newerI (openL 78 l)).2 = f
        rw [HST.out, HR.out, HF.out]
      unfold stateF
      rw [e, if_pos h0], h0⟩
    clear h0
    go_wp2_with fail
    refine bodyPost_ret (v := .tuple #[.agg #[.int .i64 0, .int .i64 0, .int .i64 0, .int .i64 0, .slice none 0 0], .iface 112 (.int .i64 f)]) (ret_cell2 Try.results46 rfl rfl (KRV.out.store5 rfl (.int .i64 0) (.int .i64 0) (.int .i64 0) (.int .i64 0) (.slice none 0 0)) Try.underlying32 rfl infoNewer) rfl ?_
    refine ⟨fun _ => by rw [HFA.out.1, errV_pos _ HFA.out.2], fun h => absurd (HFA.out.1.symm.trans h) HFA.out.2, ?_⟩
    iterate 5 (refine Below.setCell ?_ (by simp) _)
    exact HBV.out
  subst h0
  rw [errV_zero]
  obtain ⟨lV2, cV2, -⟩ := id KV.out
  go_wp2_with fail
  refine (ncheck_any r.1 ua cu HNEW.out HFREE.out (by omega) _ (units_row rfl OEV.out).1 (units_row rfl OEV.out).2.1 (units_row rfl OEV.out).2.2).mono ?_
  rintro e w4 ⟨rfl, b4⟩
  obtain ⟨f, hf⟩ : ∃ f, faultOf r.1 = f := ⟨_, rfl⟩
  rw [hf]
  have HSF : Hid (stateF true l = f) := Lib.hid (by
    have e : endI (startI true (openL (kindB true) l)).2 = 0 := by
      show endI (newerI (openL 78 l)).2 = 0
      rw [HST.out, HR.out, HF.out]
    have e2 : (startI true (openL (kindB true) l)).1 = r.1 := by
      show (newerI (openL 78 l)).1 = r.1
      rw [HST.out, HR.out]
    show stateF true l = f
    unfold stateF
    rw [e, e2, if_neg (by simp), hf])
  have HB4 := Lib.hid (HBV.out.trans (b4.mono (by omega)))
  have k4 := KRV.out.call b4
  obtain ⟨lR4, cR4, fR4⟩ := id k4
  have kv4 := KV.out.call b4
  obtain ⟨lV4, cV4, -⟩ := id kv4
  have K4 := Lib.hid k4
  have hs4 := b4.size
  have OE4 := Lib.hid (own_kp OEV.out (kp_of b4 (fun _ => False)) (fun _ _ x => x))
  clear b4 k4 kv4 hf cV2 cR3 fR3 lV2 lR3
  by_cases h0 : f = 0
  case neg =>
    rw [errV_pos _ h0]
    have HFA := Lib.hid h0
    clear h0
    go_wp2_with fail
    refine bodyPost_ret (v := .tuple #[.agg #[.int .i64 0, .int .i64 0, .int .i64 0, .int .i64 0, .slice none 0 0], .iface 112 (.int .i64 f)]) (ret_cell2 Try.results46 rfl rfl (K4.out.store5 rfl (.int .i64 0) (.int .i64 0) (.int .i64 0) (.int .i64 0) (.slice none 0 0)) Try.underlying32 rfl infoNewer) rfl ?_
    refine ⟨fun _ => by rw [HSF.out, errV_pos _ HFA.out], fun h => absurd (HSF.out.symm.trans h) HFA.out, ?_⟩
    iterate 5 (refine Below.setCell ?_ (by simp) _)
    exact HB4.out
  subst h0
  rw [errV_zero]
  go_wp2_with fail
  refine bodyPost_ret (v := .tuple #[.agg #[.int .i64 r.1.tick, .int .i64 r.1.g0, .int .i64 r.1.g1, .int .i64 r.1.next, .slice ua r.1.us.length cu], .nilIface]) (ret_cell2 Try.results46 rfl rfl (K4.out.store5 rfl (.int .i64 r.1.tick) (.int .i64 r.1.g0) (.int .i64 r.1.g1) (.int .i64 r.1.next) (.slice ua r.1.us.length cu)) Try.underlying32 rfl infoNewer) rfl ?_
  have XK := ((((((Kp.refl (fun b => b = w.heap.size) w4).andset ⟨w.heap.size, 0, none⟩ (.int .i64 r.1.tick) rfl).andset ⟨w.heap.size, 1, none⟩ (.int .i64 r.1.g0) rfl).andset ⟨w.heap.size, 2, none⟩ (.int .i64 r.1.g1) rfl).andset ⟨w.heap.size, 3, none⟩ (.int .i64 r.1.next) rfl).andset ⟨w.heap.size, 4, none⟩ (.slice ua r.1.us.length cu) rfl)
  unfold NewerOfEnd
  rw [HST.out, HR.out]
  refine ⟨fun h => absurd HSF.out h, fun _ => ⟨ua, cu, rfl, units_row rfl (own_kp OE4.out XK (fun b hb e => ?_))⟩, ?_⟩
  · have := (LOE.out b hb).1; omega
  · iterate 5 (refine Below.setCell ?_ (by simp) _)
    exact HB4.out
end Go.Proofs.Ytlfljlhppigejab
namespace Go.Proofs.Ytlfljlhppigejab
open Go.RowKit

/-- e: a tick's type; c: a command's, of s cells. -/
def TOwn (e c : TypeId) (s : Nat) (f : Cm → List Value) (base : Nat) (w : World) (tv : Value) (ts : List (List Cm)) : Prop :=
  ∃ cs, w.ownsRow base e 1 tv ts.length cs ∧ ∀ i, i < ts.length → ∃ lv, cs[i]? = some lv ∧ w.ownsRow base c s lv (ts.getD i []).length ((ts.getD i []).flatMap f)
theorem TOwn.nil (e c : TypeId) (s : Nat) (f : Cm → List Value) (base : Nat) (w : World) : TOwn e c s f base w (.slice none 0 0) [] :=
  ⟨[], World.ownsRow_nil _ _ _ _, fun i hi => by simp at hi⟩
theorem TOwn.kp {e c : TypeId} {s : Nat} {f : Cm → List Value} {base : Nat} {w w' : World} {X : Nat → Prop} {tv : Value} {ts : List (List Cm)} (h : TOwn e c s f base w tv ts) (k : Kp X w w') (hX : ∀ b, base ≤ b → b < w.heap.size → ¬ X b) : TOwn e c s f base w' tv ts := by
  obtain ⟨cs, h1, h2⟩ := h
  refine ⟨cs, own_kp h1 k (fun b hb => hX b (World.ownsRow.lt h1 b hb).1 (World.ownsRow.lt h1 b hb).2), fun i hi => ?_⟩
  obtain ⟨lv, h3, h4⟩ := h2 i hi
  exact ⟨lv, h3, own_kp h4 k (fun b hb => hX b (World.ownsRow.lt h4 b hb).1 (World.ownsRow.lt h4 b hb).2)⟩
theorem TOwn.snoc {e c : TypeId} {s : Nat} {f : Cm → List Value} {base : Nat} {w : World} {tv : Value} {ts : List (List Cm)} (h : TOwn e c s f base w tv ts) (hec : e ≠ c) (l : List Cm) (lv : Value) (hl : w.ownsRow base c s lv l.length (l.flatMap f)) :
    ∃ cs, w.ownsRow base e 1 tv ts.length cs ∧ ∀ w' tv', Kp (fun b => some b = tv.ownBlock) w w' → w'.ownsRow base e 1 tv' (ts.length + 1) (cs ++ [lv]) → TOwn e c s f base w' tv' (ts ++ [l]) := by
  obtain ⟨cs, h1, h2⟩ := h
  refine ⟨cs, h1, fun w' tv' k h3 => ⟨cs ++ [lv], by rw [List.length_append]; exact h3, fun i hi => ?_⟩⟩
  have hcl : cs.length = ts.length := by have := h1.1; omega
  rw [List.length_append, List.length_singleton] at hi
  by_cases hlt : i < ts.length
  · obtain ⟨lv', h4, h5⟩ := h2 i hlt
    have e1 : (ts ++ [l]).getD i [] = ts.getD i [] := by simp [List.getD, List.getElem?_append_left hlt]
    rw [e1]
    exact ⟨lv', by rw [List.getElem?_append_left (by omega)]; exact h4, own_kp h5 k (fun b hb hx => own_apart h1 h5 hec b hx.symm hb)⟩
  · obtain rfl : i = ts.length := by omega
    have e1 : (ts ++ [l]).getD ts.length [] = l := by simp [List.getD]
    rw [e1]
    exact ⟨lv, by rw [List.getElem?_append_right (by omega), hcl]; simp, own_kp hl k (fun b hb hx => own_apart h1 hl hec b hx.symm hb)⟩
theorem TOwn.at {e c : TypeId} {s : Nat} {f : Cm → List Value} {base : Nat} {w : World} {tv : Value} {ts : List (List Cm)} (h : TOwn e c s f base w tv ts) (hf : ∀ x, (f x).length = s) :
    ∃ a ct, tv = .slice a ts.length ct ∧ ts.length ≤ maxLen ∧ ∀ i, i < ts.length → ∃ b o la cl, a = some ⟨b, o, none⟩ ∧ b < w.heap.size ∧ w.cell? ⟨b, o + i, none⟩ = some (.slice la (ts.getD i []).length cl) ∧
      (∀ j, j < (ts.getD i []).length → ∃ b o, la = some ⟨b, o, none⟩ ∧ b < w.heap.size ∧ ∀ q, q < s → w.cell? ⟨b, o + j * s + q, none⟩ = (f ((ts.getD i []).getD j zeroC))[q]?) ∧ (ts.getD i []).length ≤ maxLen := by
  obtain ⟨cs, h1, h2⟩ := h
  rcases h1.2 with ⟨h3, h4⟩ | ⟨g, cap, cur, h3, -, -, h4, h5, -⟩
  · exact ⟨none, 0, by rw [h3, h4], by rw [h4]; simp [maxLen], fun i hi => by omega⟩
  · have hown := h1
    subst h3
    refine ⟨_, cap, rfl, by omega, fun i hi => ?_⟩
    obtain ⟨lv, h6, h7⟩ := h2 i hi
    obtain ⟨la, cl, rfl, -, h8, -, h9⟩ := row_of_own f s zeroC hf rfl h7
    refine ⟨g, 0, la, cl, rfl, (World.ownsRow.lt hown g rfl).2, ?_, fun j hj => ?_, h8⟩
    · rw [Nat.zero_add, World.ownsRow.cellAt hown i (by omega)]
      exact h6
    · obtain ⟨b, hb1, hb2, hb3⟩ := h9 j hj
      exact ⟨b, 0, hb1, hb2, hb3⟩
theorem trow_of {base : Nat} {w : World} {tv : Value} {ts : List (List Cm)} (h : TOwn 77 111 7 cellsC base w tv ts) : ∃ a ct, tv = .slice a ts.length ct ∧ ts.length ≤ maxLen ∧ TRow w.heap.size w a ts := by
  obtain ⟨a, ct, h1, h2, h3⟩ := h.at (fun _ => rfl)
  refine ⟨a, ct, h1, h2, fun i hi => ?_⟩
  obtain ⟨b, o, la, cl, h4, h5, h6, h7, h8⟩ := h3 i hi
  exact ⟨b, o, la, cl, h4, h5, h6, h7, h8⟩
theorem prow_of {base : Nat} {w : World} {tv : Value} {ts : List (List Cm)} (h : TOwn 101 129 6 cellsO base w tv ts) : ∃ a ct, tv = .slice a ts.length ct ∧ ts.length ≤ maxLen ∧ PRow w.heap.size w a ts := by
  obtain ⟨a, ct, h1, h2, h3⟩ := h.at (fun _ => rfl)
  refine ⟨a, ct, h1, h2, fun i hi => ?_⟩
  obtain ⟨b, o, la, cl, h4, h5, h6, h7, h8⟩ := h3 i hi
  exact ⟨b, o, la, cl, h4, h5, h6, h7, h8⟩
end Go.Proofs.Ytlfljlhppigejab
namespace Go.Proofs.Ytlfljlhppigejab
open Go.RowKit

theorem infoTape : (Try.prog.info? 29).map (·.size) = some 7 := by kernel_rfl
theorem infoCmds : ∃ i, Try.prog.info? 111 = some i ∧ i.zero = some (.agg #[.int .i64 0, .int .i64 0, .int .i64 0, .int .i64 0, .int .i64 0, .int .i64 0, .int .i64 0]) ∧ i.size = 7 ∧ i.bytes = 56 :=
  ⟨(Try.prog.info? 111).get (by kernel_rfl), by kernel_rfl, by kernel_rfl, by kernel_rfl, by kernel_rfl⟩
theorem infoTick : ∃ i, Try.prog.info? 77 = some i ∧ i.zero = some (.slice none 0 0) ∧ i.size = 1 ∧ i.bytes = 24 :=
  ⟨(Try.prog.info? 77).get (by kernel_rfl), by kernel_rfl, by kernel_rfl, by kernel_rfl, by kernel_rfl⟩
theorem Blk.store7 {w : World} {S : Nat} {c : Array Value} (h : Blk w S c) (hc : c.size = 7) (v0 v1 v2 v3 v4 v5 v6 : Value) :
    Blk (((((((w.setCell ⟨S, 0, none⟩ v0).setCell ⟨S, 1, none⟩ v1).setCell ⟨S, 2, none⟩ v2).setCell ⟨S, 3, none⟩ v3).setCell ⟨S, 4, none⟩ v4).setCell ⟨S, 5, none⟩ v5).setCell ⟨S, 6, none⟩ v6) S #[v0, v1, v2, v3, v4, v5, v6] := by
  obtain ⟨l⟩ := c
  match l, hc with
  | [a0, a1, a2, a3, a4, a5, a6], _ =>
    have := ((((((h.store v0 (i := 0) (by simp)).store v1 (i := 1) (by simp)).store v2 (i := 2) (by simp)).store v3 (i := 3) (by simp)).store v4 (i := 4) (by simp)).store v5 (i := 5) (by simp)).store v6 (i := 6) (by simp)
    simpa using this
theorem put7 {a b c d e f g : Value} {vs : List Int} (hl : vs.length = 7) : putI #[a, b, c, d, e, f, g] vs = (cellsC (mkC vs)).toArray := by
  match vs, hl with
  | [v0, v1, v2, v3, v4, v5, v6], _ => rfl
theorem cms_st (n : Bool) (st : St) (k : Nat) : (cmsI n st (k + 1)).2 = (numsI (cmsI n st k).2 (cmK n)).2 := rfl
theorem cms_succ (st : St) (k : Nat) : cellsAllC (cmsI false st (k + 1)).1 = cellsAllC (cmsI false st k).1 ++ cellsC (mkC (numsI (cmsI false st k).2 7).1) := by
  show cellsAllC ((cmsI false st k).1 ++ [mkC (numsI (cmsI false st k).2 7).1]) = _
  unfold cellsAllC
  rw [List.flatMap_append]
  simp
theorem ticks_st (n : Bool) (st : St) (k : Nat) : (ticksI n st (k + 1)).2 = (tickI n (ticksI n st k).2).2 := rfl
theorem ticks_succ (n : Bool) (st : St) (k : Nat) : (ticksI n st (k + 1)).1 = (ticksI n st k).1 ++ [(tickI n (ticksI n st k).2).1] := rfl

theorem startI_shrinks (n : Bool) (st : St) : (startI n st).2.1.length ≤ st.1.length := by
  cases n
  · show (elderI st).2.1.length ≤ _
    unfold elderI
    dsimp only
    exact Nat.le_trans (unitsI_shrinks _ _ _ _) (Nat.le_trans (manyI_shrinks _ _) (Nat.le_trans (numsI_shrinks _ _) (Nat.le_trans (manyI_shrinks _ _) (numsI_shrinks _ _))))
  · show (newerI st).2.1.length ≤ _
    unfold newerI
    dsimp only
    exact Nat.le_trans (unitsI_shrinks _ _ _ _) (Nat.le_trans (manyI_shrinks _ _) (numsI_shrinks _ _))

theorem tapeI_start (n : Bool) (st : St) (h : (tapeI n st).2.2.2 = 0) : (startI n st).2.2 = 0 := by
  unfold tapeI at h
  dsimp only at h
  exact (manyI_rd _ 60 (ticksI_ok n _ _ h)).ok
theorem endI_pair {st : St} {q : List (List Cm) × St} {g : G} (h : tapeI false st = (g, q)) (he : endI q.2 = 0) : (tapeI false st).2.2.2 = 0 := by
  rw [h]
  exact endI_ok _ he
theorem endI_pairN {st : St} {q : List (List Cm) × St} {g : G} (h : tapeI true st = (g, q)) (he : endI q.2 = 0) : (tapeI true st).2.2.2 = 0 := by
  rw [h]
  exact endI_ok _ he
/-- What TapeOf hands back. -/
def TapeOfEnd (l : List UInt8) (w : World) (e : Ending) (w' : World) : Prop :=
  (tapeF false l ≠ 0 → e = .returned (.tuple #[.agg #[.int .i64 0, .int .i64 0, .int .i64 0, .int .i64 0, .slice none 0 0, .slice none 0 0, .slice none 0 0], errV (tapeF false l)])) ∧
  (tapeF false l = 0 → ∃ fa cf ua cu ta ct, e = .returned (.tuple #[.agg #[.int .i64 (tapeI false (openL 84 l)).1.tick, .int .i64 (tapeI false (openL 84 l)).1.g0, .int .i64 (tapeI false (openL 84 l)).1.g1, .int .i64 (tapeI false (openL 84 l)).1.next, .slice fa (tapeI false (openL 84 l)).1.free.length cf, .slice ua (tapeI false (openL 84 l)).1.us.length cu, .slice ta (tapeI false (openL 84 l)).2.1.length ct], .nilIface]) ∧
    Row w'.heap.size w' fa (tapeI false (openL 84 l)).1.free.length (fun k => .int .i64 ((tapeI false (openL 84 l)).1.free.getD k 0)) ∧ URow false w'.heap.size w' ua (tapeI false (openL 84 l)).1.us ∧ TRow w'.heap.size w' ta (tapeI false (openL 84 l)).2.1) ∧ Below w.heap.size w w'

set_option maxHeartbeats 12800000 in
set_option maxRecDepth 100000 in
theorem tapeof_any (s : ByteArray) (hs : s.size ≤ 900000) (w : World) :
    Calls Try.prog 15 #[.string s] w (TapeOfEnd s.data.toList w) := by
  obtain ⟨l, hl⟩ : ∃ l, s.data.toList = l := ⟨_, rfl⟩
  have hll : l.length ≤ 900000 := by rw [← hl, ← Lib.size_eq]; exact hs
  have HO := Lib.hid (body_any 84 s hs)
  rw [hl] at HO ⊢
  clear hl
  obtain ⟨W, hW⟩ : ∃ W, w.alloc (.cells #[.int .i64 0, .int .i64 0, .int .i64 0, .int .i64 0, .slice none 0 0, .slice none 0 0, .slice none 0 0] 29) = W := ⟨_, rfl⟩
  have hbW : Below w.heap.size w W := by rw [← hW]; exact (Below.refl _ _).alloc (Nat.le_refl _) _
  have kR : Blk W w.heap.size #[.int .i64 0, .int .i64 0, .int .i64 0, .int .i64 0, .slice none 0 0, .slice none 0 0, .slice none 0 0] := by rw [← hW]; exact Blk.new w _ _
  have hsW := hbW.size
  have lR := kR.lt
  have HW := Lib.hid hbW
  have KR := Lib.hid kR
  clear hbW kR
  go_enter Try.func15, Try.ntmps15
  go_upto_region 1 with fail
  try rw [hW]
  clear hW
  go_wp2_with fail
  refine (HO.out W).mono ?_
  rintro e w1 ⟨S, rfl, hS, bS, b1⟩
  obtain ⟨st, hst⟩ : ∃ st, openL 84 l = st := ⟨_, rfl⟩
  have hstl : st.1.length ≤ 1000000 := by
    rw [← hst]
    unfold openL
    repeat' split
    all_goals (simp; try omega)
  rw [hst] at bS
  have HST := Lib.hid hst
  have BS := Lib.hid bS
  have K1 := Lib.hid (KR.out.call b1)
  have HB1 : Hid (Below w.heap.size w w1) := Lib.hid (HW.out.trans (b1.mono hsW))
  have hs1 := b1.size
  have lS1 := bS.lt
  clear bS b1 hst
  go_wp2_with fail
  refine (elder_in st S w1 BS.out hstl).mono ?_
  rintro e w2 ⟨fv, ev, rfl, bS2, kp2, of2, oe2⟩
  obtain ⟨r, hr⟩ : ∃ r, elderI st = r := ⟨_, rfl⟩
  have HR := Lib.hid hr
  rw [hr] at bS2 of2 oe2 ⊢
  have hrl : r.2.1.length ≤ 1000000 := by rw [← hr]; exact Nat.le_trans (startI_shrinks false st) hstl
  have hnew : r.1.new = false := by rw [← hr]; rfl
  have HNEW := Lib.hid hnew
  have hflm := own_max of2
  have hulm := own_max oe2
  obtain ⟨fa, cf, rfl⟩ := own_slice of2
  obtain ⟨ua, cu, rfl⟩ := own_slice oe2
  have HB2 : Hid (Below w.heap.size w w2) := Lib.hid (HB1.out.trans (kp2.below (fun b hb => by omega) (by omega)))
  have hs2 := kp2.size
  have BS2 := Lib.hid bS2
  have K2 := Lib.hid (K1.out.kp kp2 (by omega))
  have OF2 := Lib.hid of2
  have OE2 := Lib.hid oe2
  have lofB : ∀ b, (Value.slice fa r.1.free.length cf).ownBlock = some b → w1.heap.size ≤ b ∧ b < w2.heap.size := fun b hb => World.ownsRow.lt of2 b hb
  have loeB : ∀ b, (Value.slice ua r.1.us.length cu).ownBlock = some b → w1.heap.size ≤ b ∧ b < w2.heap.size := fun b hb => World.ownsRow.lt oe2 b hb
  have LOF := Lib.hid lofB
  have LOE := Lib.hid loeB
  have hm : maxLen ≤ 9223372036854775807 := by unfold maxLen; decide
  clear hr kp2 of2 oe2 bS2 lofB loeB hnew
  obtain ⟨V0, hV0⟩ : ∃ V, w2.alloc (.cells #[.int .i64 r.1.tick, .int .i64 r.1.g0, .int .i64 r.1.g1, .int .i64 r.1.next, .slice fa r.1.free.length cf, .slice ua r.1.us.length cu, .slice none 0 0] 29) = V := ⟨_, rfl⟩
  have hbV0 : Below w2.heap.size w2 V0 := by rw [← hV0]; exact (Below.refl _ _).alloc (Nat.le_refl _) _
  have kV0 : Blk V0 w2.heap.size #[.int .i64 r.1.tick, .int .i64 r.1.g0, .int .i64 r.1.g1, .int .i64 r.1.next, .slice fa r.1.free.length cf, .slice ua r.1.us.length cu, .slice none 0 0] := by rw [← hV0]; exact Blk.new w2 _ _
  obtain ⟨lV0, cV, fV⟩ := id kV0
  obtain ⟨V, hV⟩ : ∃ V, V0.setCell ⟨w2.heap.size, 6, none⟩ (.slice none 0 0) = V := ⟨_, rfl⟩
  have hbV : Below w2.heap.size w2 V := by rw [← hV]; exact hbV0.setCell (Nat.le_refl _) _
  have kV : Blk V w2.heap.size #[.int .i64 r.1.tick, .int .i64 r.1.g0, .int .i64 r.1.g1, .int .i64 r.1.next, .slice fa r.1.free.length cf, .slice ua r.1.us.length cu, .slice none 0 0] := by
    rw [← hV]
    have := kV0.store (.slice none 0 0) (i := 6) (by simp)
    simpa using this
  have hsV := hbV.size
  have lV := kV.lt
  have KV := Lib.hid kV
  have KRV := Lib.hid (K2.out.call hbV)
  have BSV := Lib.hid (BS2.out.call hbV)
  have HBV := Lib.hid (HB2.out.trans (hbV.mono (by omega)))
  have OFV := Lib.hid (own_kp OF2.out (kp_of hbV (fun _ => False)) (fun _ _ x => x))
  have OEV := Lib.hid (own_kp OE2.out (kp_of hbV (fun _ => False)) (fun _ _ x => x))
  have lSV := BS2.out.lt
  clear kV hbV hbV0 kV0
  go_upto_region 3 with fail
  try rw [hV0]
  try rw [hV]
  clear hV hV0 cV fV lV0
  go_wp2_with fail
  refine (many_in r.2 60 S V BSV.out hrl).mono ?_
  rintro e w3 ⟨rfl, bS3, kp3⟩
  have hrg := manyI_range r.2 60 (by omega)
  obtain ⟨nI, hnI⟩ : ∃ x, (manyI r.2 60).1 = x := ⟨_, rfl⟩
  obtain ⟨s3, hs3'⟩ : ∃ x, (manyI r.2 60).2 = x := ⟨_, rfl⟩
  have hl3 : s3.1.length ≤ 1000000 := by rw [← hs3']; exact Nat.le_trans (manyI_shrinks r.2 60) hrl
  rw [hnI] at hrg ⊢
  rw [hs3'] at bS3
  obtain ⟨n, rfl⟩ := Int.eq_ofNat_of_zero_le hrg.1
  have hn60 : n ≤ 60 := by omega
  have HN := Lib.hid (show (manyI r.2 60).1 = (n : Int) ∧ (manyI r.2 60).2 = s3 from ⟨hnI, hs3'⟩)
  have BS3 := Lib.hid bS3
  have K3 := Lib.hid (KV.out.kp kp3 (by omega))
  have KP3 := Lib.hid (kp3.imp (fun _ _ h => Or.inl h) : Kp (fun b => b = S ∨ b = w2.heap.size) V w3)
  have hsz3 := kp3.size
  have hn0 : (0 : Int) ≤ (n : Int) := by omega
  clear bS3 kp3 hnI hs3' hrg
  go_wp2_with fail
  go_loopw [6, 16] (fun _ i wr => ∃ k : Nat, i = .int .i64 k ∧ k ≤ n ∧ (Blk wr S (inC (ticksI false s3 k).2) ∧ (∃ tv, Blk wr w2.heap.size #[.int .i64 r.1.tick, .int .i64 r.1.g0, .int .i64 r.1.g1, .int .i64 r.1.next, .slice fa r.1.free.length cf, .slice ua r.1.us.length cu, tv] ∧ TOwn 77 111 7 cellsC V.heap.size wr tv (ticksI false s3 k).1) ∧ Kp (fun b => b = S ∨ b = w2.heap.size) V wr)) (fun _ i _ => (n - intOf i).toNat)
  case atStart => exact ⟨0, rfl, by omega, BS3.out, ⟨_, K3.out, TOwn.nil _ _ _ _ _ _⟩, KP3.out⟩
  case round =>
    obtain ⟨k, rfl, hk, bS, ⟨tv, bK, town⟩, kr⟩ := hrel
    have hszr := kr.size
    by_cases hlt : k < n
    · have hki : (0 : Int) ≤ (k : Int) := by omega
      have hkl : (k : Int) < (n : Int) := by omega
      have hlk : (ticksI false s3 k).2.1.length ≤ 1000000 := Nat.le_trans (ticksI_shrinks false s3 k) hl3
      have lSr := bS.lt
      have lKr := bK.lt
      have BS := Lib.hid bS
      have BK := Lib.hid bK
      have TOWN := Lib.hid town
      have KR := Lib.hid kr
      clear bS bK town kr
      go_wp2_with fail
      refine (many_in (ticksI false s3 k).2 8 S _ BS.out hlk).mono ?_
      rintro e w4 ⟨rfl, bS4, kp4⟩
      have hrg := manyI_range (ticksI false s3 k).2 8 (by omega)
      obtain ⟨mI, hmI⟩ : ∃ x, (manyI (ticksI false s3 k).2 8).1 = x := ⟨_, rfl⟩
      obtain ⟨s4, hs4'⟩ : ∃ x, (manyI (ticksI false s3 k).2 8).2 = x := ⟨_, rfl⟩
      have hl4 : s4.1.length ≤ 1000000 := by rw [← hs4']; exact Nat.le_trans (manyI_shrinks _ 8) hlk
      rw [hmI] at hrg ⊢
      rw [hs4'] at bS4
      obtain ⟨m, rfl⟩ := Int.eq_ofNat_of_zero_le hrg.1
      have hm8 : m ≤ 8 := by omega
      have HM := Lib.hid (show (manyI (ticksI false s3 k).2 8).1 = (m : Int) ∧ (manyI (ticksI false s3 k).2 8).2 = s4 from ⟨hmI, hs4'⟩)
      have BS4 := Lib.hid bS4
      have K4 := Lib.hid (BK.out.kp kp4 (by omega))
      have T4 := Lib.hid (TOWN.out.kp kp4 (fun b hb _ e => by omega))
      have KP4 := Lib.hid (KR.out.trans kp4 (fun _ _ h => Or.inl h))
      have hsz4 := kp4.size
      have hm0 : (0 : Int) ≤ (m : Int) := by omega
      clear bS4 kp4 hmI hs4' hrg
      go_wp2_with fail
      go_loopw [6, 20] (fun lv i wx => ∃ j : Nat, i = .int .i64 j ∧ j ≤ m ∧ (Blk wx S (inC (cmsI false s4 j).2) ∧ wx.ownsRow w4.heap.size 111 7 lv j (cellsAllC (cmsI false s4 j).1) ∧ Kp (fun b => b = S) w4 wx)) (fun _ i _ => (m - intOf i).toNat)
      case atStart => exact ⟨0, rfl, by omega, BS4.out, World.ownsRow_nil _ _ _ _, Kp.refl _ _⟩
      case round =>
        obtain ⟨j, rfl, hj, bS, own, kr⟩ := hrel
        have hszr := kr.size
        obtain ⟨lva, lvc, hlv⟩ := own_slice own
        subst hlv
        by_cases hjm : j < m
        · have hkj : (0 : Int) ≤ (j : Int) := by omega
          have hkjl : (j : Int) < (m : Int) := by omega
          obtain ⟨V1, hV1⟩ : ∃ V, wr.alloc (.cells #[.int .i64 0, .int .i64 0, .int .i64 0, .int .i64 0, .int .i64 0, .int .i64 0, .int .i64 0] 111) = V := ⟨_, rfl⟩
          have hb1 : Below wr.heap.size wr V1 := by rw [← hV1]; exact (Below.refl _ _).alloc (Nat.le_refl _) _
          have kE : Blk V1 wr.heap.size #[.int .i64 0, .int .i64 0, .int .i64 0, .int .i64 0, .int .i64 0, .int .i64 0, .int .i64 0] := by rw [← hV1]; exact Blk.new wr _ _
          have hV1s : V1.heap.size = wr.heap.size + 1 := by rw [← hV1]; simp
          have hb2 : Below V1.heap.size V1 (V1.alloc (.cells #[.pointer (some ⟨wr.heap.size, 0, none⟩), .pointer (some ⟨wr.heap.size, 1, none⟩), .pointer (some ⟨wr.heap.size, 2, none⟩), .pointer (some ⟨wr.heap.size, 3, none⟩), .pointer (some ⟨wr.heap.size, 4, none⟩), .pointer (some ⟨wr.heap.size, 5, none⟩), .pointer (some ⟨wr.heap.size, 6, none⟩)] 121)) := (Below.refl _ _).alloc (Nat.le_refl _) _
          have hSr := bS.lt
          have BSJ := Lib.hid ((bS.call hb1).call hb2)
          have KE := Lib.hid (kE.call hb2)
          have OWNJ := Lib.hid (own_kp (own_kp own (kp_of hb1 (fun _ => False)) (fun _ _ x => x)) (kp_of hb2 (fun _ => False)) (fun _ _ x => x))
          have KRJ := Lib.hid ((kr.then_ hb1).then_ hb2)
          have hlj : (cmsI false s4 j).2.1.length ≤ 1000000 := Nat.le_trans (cmsI_shrinks false s4 j) hl4
          have EVB := Lib.hid (fun b hb => World.ownsRow.lt own b hb : ∀ b, (Value.slice lva j lvc).ownBlock = some b → w4.heap.size ≤ b ∧ b < wr.heap.size)
          have HV1S := Lib.hid hV1s
          clear bS kE own kr hb1 hb2 hV1s
          go_wp2_with fail
          refine (nums_in (cmsI false s4 j).2 S wr.heap.size V1.heap.size 7 7 _ _ BSJ.out KE.out (by decide) (by omega) (fun q hq => by
            rw [World.cell?_alloc_new]
            have hq' : q = 0 ∨ q = 1 ∨ q = 2 ∨ q = 3 ∨ q = 4 ∨ q = 5 ∨ q = 6 := by omega
            rcases hq' with rfl | rfl | rfl | rfl | rfl | rfl | rfl <;> rfl) (by simp) (by have := HV1S.out; omega) (by have := HV1S.out; omega) (fun q => Nat.le_trans (numsI_shrinks _ q) hlj) (by omega)).mono ?_
          rintro e w5 ⟨rfl, bS5, bE5, kp5⟩
          rw [put7 (numsI_length _ 7)] at bE5
          obtain ⟨c, hc⟩ : ∃ x, mkC (numsI (cmsI false s4 j).2 7).1 = x := ⟨_, rfl⟩
          rw [hc] at bE5
          have bE5' : Blk w5 wr.heap.size #[.int .i64 c.player, .int .i64 c.op, .int .i64 c.id, .int .i64 c.kind, .int .i64 c.x, .int .i64 c.y, .int .i64 c.target] := bE5
          have own5 := own_kp OWNJ.out kp5 (fun b hb e => by have := EVB.out b hb; omega)
          have kp5' : Kp (fun b => b = S) w4 w5 := KRJ.out.trans kp5 (fun c hc e => by rcases e with h | h; exact h; omega)
          obtain ⟨lE, cE, -⟩ := id bE5'
          have hs5 := kp5.size
          obtain ⟨i1, hj0, hj1, hj2, hj3⟩ := infoCmds
          have hbz : Below w5.heap.size w5 (w5.alloc (.cells #[.int .i64 c.player, .int .i64 c.op, .int .i64 c.id, .int .i64 c.kind, .int .i64 c.x, .int .i64 c.y, .int .i64 c.target] 111)) := (Below.refl _ _).alloc (Nat.le_refl _) _
          have oB := own_kp own5 (kp_of hbz (fun _ => False)) (fun _ _ x => x)
          have hsz5 := kp5'.size
          obtain ⟨g2, cap, w6, r6, own6, grow6, hat6, lt6⟩ := run_append_lies (P := Try.prog) (w5.alloc (.cells #[.int .i64 c.player, .int .i64 c.op, .int .i64 c.id, .int .i64 c.kind, .int .i64 c.x, .int .i64 c.y, .int .i64 c.target] 111)) 77 77 w4.heap.size 111 i1 _ 7 56 Try.underlying77 hj0 hj1 hj2 hj3 rfl (by omega) (.slice lva j lvc) j (cellsAllC (cmsI false s4 j).1) oB ⟨w5.heap.size, 0, none⟩ 1 1 (cellsC c) rfl (World.news_of_block (cs := #[.int .i64 c.player, .int .i64 c.op, .int .i64 c.id, .int .i64 c.kind, .int .i64 c.x, .int .i64 c.y, .int .i64 c.target]) (t := 111) (fr := (0, 0)) (heap_alloc_new w5 _)) (by intro q hq; simp [cellsC] at hq; rcases hq with h | h | h | h | h | h | h <;> rw [h] <;> rfl) (by omega) (by unfold maxLen; omega) (by omega) (by have := hbz.size; omega) (w5.heap.size + 1) (by simp)
          have kg := Kp.grown grow6
          have hSev : (Value.slice lva j lvc).ownBlock ≠ some S := fun e => by have := (EVB.out _ e).1; omega
          have bS6 := (bS5.call hbz).kp kg (fun e => hSev e.symm)
          have kp6 := (kp5'.then_ hbz).trans kg (fun c hc e => by have := (EVB.out c e.symm).1; omega)
          have HC := Lib.hid hc
          have OWN6 := Lib.hid own6
          have BS6 := Lib.hid bS6
          have KP6 := Lib.hid kp6
          clear hj0 hj1 hj2 hj3 hbz oB own6 grow6 hat6 kg own5 bE5 bE5' bS5 kp5 kp5' bS6 kp6 hc hSev
          go_wp2_with (at_builtin; refine list_run_append (by rfl) _ _ _ _ (by rfl) (by rfl) (by rfl) (by rfl) r6 ?_)
          go_roundw
          case rel =>
            refine ⟨j + 1, by go_num, by omega, ?_, ?_, KP6.out⟩
            · rw [cms_st]; exact BS6.out
            · rw [cms_succ, HC.out]; exact OWN6.out
          case measure => simp [intOf]; omega
        · obtain rfl : j = m := by omega
          have hti : tickI false (ticksI false s3 k).2 = cmsI false s4 j := by
            obtain ⟨h1, h2⟩ := HM.out
            unfold tickI
            rw [h1, h2, Int.toNat_natCast]
          obtain ⟨L, hL⟩ : ∃ x, (cmsI false s4 j).1 = x := ⟨_, rfl⟩
          have hLl : L.length = j := by rw [← hL]; exact cmsI_length _ _ _
          obtain ⟨TL, hTL⟩ : ∃ x, (ticksI false s3 k).1 = x := ⟨_, rfl⟩
          have hTLl : TL.length = k := by rw [← hTL]; exact ticksI_length _ _ _
          have bKj := K4.out.kp kr (by omega)
          have hbz : Below wr.heap.size wr (wr.alloc (.cells #[.slice lva j lvc] 77)) := (Below.refl _ _).alloc (Nat.le_refl _) _
          have ownL : (wr.alloc (.cells #[.slice lva j lvc] 77)).ownsRow V.heap.size 111 7 (.slice lva j lvc) L.length (L.flatMap cellsC) := by
            rw [hLl]
            rw [hL] at own
            exact own_base (own_kp own (kp_of hbz (fun _ => False)) (fun _ _ x => x)) (by omega)
          have tj := (T4.out.kp kr (fun b hb _ e => by omega)).kp (kp_of hbz (fun _ => False)) (fun _ _ _ x => x)
          rw [hTL] at tj
          obtain ⟨cs, ownT, snoc⟩ := tj.snoc (by decide) L (.slice lva j lvc) ownL
          obtain ⟨tva, tvc, htv⟩ := own_slice ownT
          subst htv
          rw [hTLl] at ownT snoc bKj
          obtain ⟨i1, hj0, hj1, hj2, hj3⟩ := infoTick
          have TVB : ∀ b, (Value.slice tva k tvc).ownBlock = some b → V.heap.size ≤ b := fun b hb => (World.ownsRow.lt ownT b hb).1
          obtain ⟨g2, cap, w7, r7, own7, grow7, hat7, lt7⟩ := run_append_lies (P := Try.prog) (wr.alloc (.cells #[.slice lva j lvc] 77)) 27 27 V.heap.size 77 i1 _ 1 24 Try.underlying27 hj0 hj1 hj2 hj3 rfl (by omega) (.slice tva k tvc) k cs ownT ⟨wr.heap.size, 0, none⟩ 1 1 [.slice lva j lvc] rfl (World.news_of_block (cs := #[.slice lva j lvc]) (t := 77) (fr := (0, 0)) (heap_alloc_new wr _)) (by intro q hq; simp at hq; rw [hq]; rfl) (by omega) (by unfold maxLen; omega) (by omega) (by have := hbz.size; have := kr.size; omega) (wr.heap.size + 1) (by simp)
          have kg := Kp.grown grow7
          have hne1 : (Value.slice tva k tvc).ownBlock ≠ some w2.heap.size := fun e => by have := TVB _ e; omega
          have hne2 : (Value.slice tva k tvc).ownBlock ≠ some S := fun e => by have := TVB _ e; omega
          have bK7 := (bKj.call hbz).kp kg (fun e => hne1 e.symm)
          have bS7 := (bS.call hbz).kp kg (fun e => hne2 e.symm)
          have kp7 := (((KP4.out.trans kr (fun _ _ h => Or.inl h)).then_ hbz).trans kg (fun c hc e => by have := TVB c e.symm; omega)).andset ⟨w2.heap.size, 6, none⟩ (.slice (some ⟨g2, 0, none⟩) (k + 1) cap) (Or.inr rfl)
          have town7 := snoc w7 _ kg own7
          obtain ⟨lKj, cKj, -⟩ := id bKj
          obtain ⟨lK7, cK7, fK7⟩ := id bK7
          have HTI := Lib.hid hti
          have HLL := Lib.hid hL
          have HTL := Lib.hid hTL
          have BS7 := Lib.hid bS7
          have BK7 := Lib.hid bK7
          have KP7 := Lib.hid kp7
          have T7 := Lib.hid town7
          have HTLL := Lib.hid hTLl
          clear hti hL hLl hTL bKj hbz ownL tj ownT snoc hj0 hj1 hj2 hj3 own7 grow7 hat7 kg hne1 hne2 bK7 bS7 kp7 town7 own bS kr TVB
          clear hTLl
          go_wp2_with (at_builtin; refine list_run_append (by rfl) _ _ _ _ (by rfl) (by rfl) (by rfl) (by rfl) r7 ?_)
          go_roundw
          case rel =>
            refine ⟨k + 1, by go_num, by omega, ?_, ⟨.slice (some ⟨g2, 0, none⟩) (k + 1) cap, ?_, ?_⟩, KP7.out⟩
            · rw [ticks_st, HTI.out]
              exact BS7.out.other (by omega)
            · have := BK7.out.store (.slice (some ⟨g2, 0, none⟩) (k + 1) cap) (i := 6) (by simp)
              simpa using this
            · rw [ticks_succ, HTI.out, HTL.out, HLL.out]
              exact T7.out.kp (Kp.setCell w7 ⟨w2.heap.size, 6, none⟩ _) (fun b hb _ e => by have h2 : b = w2.heap.size := e; omega)
          case measure => simp [intOf]; omega
    · obtain rfl : k = n := by omega
      obtain ⟨q, hq⟩ : ∃ x, ticksI false s3 k = x := ⟨_, rfl⟩
      rw [hq] at bS town
      have hT : tapeI false (openL 84 l) = (r.1, q) := by
        obtain ⟨h1, h2⟩ := HN.out
        rw [HST.out]
        show ((elderI st).1, ticksI false (manyI (elderI st).2 60).2 (manyI (elderI st).2 60).1.toNat) = _
        rw [HR.out, h1, h2, Int.toNat_natCast, hq]
      have HT := Lib.hid hT
      have HTI : Hid (tapeI false st = (r.1, q)) := Lib.hid (by have h := hT; rw [HST.out] at h; exact h)
      obtain ⟨ta, ct, htv, htl, htr⟩ := trow_of town
      subst htv
      have TOWN := Lib.hid town
      have BS := Lib.hid bS
      have BK := Lib.hid bK
      have KRR := Lib.hid (KRV.out.kp kr (fun h => by rcases h with h | h <;> omega))
      have OFR := Lib.hid (own_kp OFV.out kr (fun b hb h => by have := LOF.out b hb; omega))
      have OER := Lib.hid (own_kp OEV.out kr (fun b hb h => by have := LOE.out b hb; omega))
      have HBR : Hid (Below w.heap.size w wr) := Lib.hid (HBV.out.trans (kr.below (fun b hb => by omega) (by omega)))
      have HTR := Lib.hid htr
      clear bS bK town kr hq hT htr
      go_wp2_with fail
      refine (end_in q.2 S _ BS.out).mono ?_
      rintro e w5 ⟨rfl, rfl⟩
      obtain ⟨f, hf⟩ : ∃ f, endI q.2 = f := ⟨_, rfl⟩
      rw [hf]
      have HF := Lib.hid hf
      obtain ⟨lR3, cR3, fR3⟩ := id KRR.out
      clear hf
      by_cases h0 : f = 0
      case neg =>
        rw [errV_pos _ h0]
        have HFA : Hid (tapeF false l = f ∧ f ≠ 0) := Lib.hid ⟨by
          have e : endI (tapeI false (openL (kindT false) l)).2.2 = f := by
            show endI (tapeI false (openL 84 l)).2.2 = f
            rw [HT.out, HF.out]
          unfold tapeF
          rw [e, if_pos h0], h0⟩
        clear h0
        go_wp2_with fail
        refine bodyPost_ret (v := .tuple #[.agg #[.int .i64 0, .int .i64 0, .int .i64 0, .int .i64 0, .slice none 0 0, .slice none 0 0, .slice none 0 0], .iface 112 (.int .i64 f)]) (ret_cell2 Try.results15 rfl rfl (KRR.out.store7 rfl (.int .i64 0) (.int .i64 0) (.int .i64 0) (.int .i64 0) (.slice none 0 0) (.slice none 0 0) (.slice none 0 0)) Try.underlying29 rfl infoTape) rfl ?_
        refine ⟨fun _ => by rw [HFA.out.1, errV_pos _ HFA.out.2], fun h => absurd (HFA.out.1.symm.trans h) HFA.out.2, ?_⟩
        iterate 7 (refine Below.setCell ?_ (by simp) _)
        exact HBR.out
      subst h0
      rw [errV_zero]
      have hfits : r.1.Fits := by
        have h := startI_fits false st (tapeI_start false st (endI_pair HTI.out HF.out))
        have e : (startI false st).1 = r.1 := by show (elderI st).1 = r.1; rw [HR.out]
        rwa [e] at h
      have HFITS := Lib.hid hfits
      obtain ⟨lV2, cV2, -⟩ := id BK.out
      clear hfits
      go_wp2_with fail
      refine (checktape_any r.1 fa ua ta cf cu ct HNEW.out (by omega) (by omega) q.1 htl _ (ints_row rfl OFR.out) (ents_row rfl OER.out) HTR.out HFITS.out.2.2.2.2.1).mono ?_
      rintro e w6 ⟨rfl, b6⟩
      obtain ⟨f, hf⟩ : ∃ f, tapeFault r.1 q.1 = f := ⟨_, rfl⟩
      rw [hf]
      have HSF : Hid (tapeF false l = f) := Lib.hid (by
        have e : tapeI false (openL (kindT false) l) = (r.1, q) := HT.out
        show tapeF false l = f
        unfold tapeF
        rw [e]
        dsimp only
        rw [HF.out, if_neg (by simp), ← hf]
        rfl)
      have hsr := HBR.out.size
      have HB6 := Lib.hid (HBR.out.trans (b6.mono (by omega)))
      have k6 := KRR.out.call b6
      obtain ⟨lR4, cR4, fR4⟩ := id k6
      have kv6 := BK.out.call b6
      obtain ⟨lV4, cV4, -⟩ := id kv6
      have K6 := Lib.hid k6
      have hs6 := b6.size
      have OF6 := Lib.hid (own_kp OFR.out (kp_of b6 (fun _ => False)) (fun _ _ x => x))
      have OE6 := Lib.hid (own_kp OER.out (kp_of b6 (fun _ => False)) (fun _ _ x => x))
      have T6 := Lib.hid (TOWN.out.kp (kp_of b6 (fun _ => False)) (fun _ _ _ x => x))
      clear b6 k6 kv6 hf cV2 cR3 fR3 lV2 lR3
      by_cases h0 : f = 0
      case neg =>
        rw [errV_pos _ h0]
        have HFA := Lib.hid h0
        clear h0
        go_wp2_with fail
        refine bodyPost_ret (v := .tuple #[.agg #[.int .i64 0, .int .i64 0, .int .i64 0, .int .i64 0, .slice none 0 0, .slice none 0 0, .slice none 0 0], .iface 112 (.int .i64 f)]) (ret_cell2 Try.results15 rfl rfl (K6.out.store7 rfl (.int .i64 0) (.int .i64 0) (.int .i64 0) (.int .i64 0) (.slice none 0 0) (.slice none 0 0) (.slice none 0 0)) Try.underlying29 rfl infoTape) rfl ?_
        refine ⟨fun _ => by rw [HSF.out, errV_pos _ HFA.out], fun h => absurd (HSF.out.symm.trans h) HFA.out, ?_⟩
        iterate 7 (refine Below.setCell ?_ (by simp) _)
        exact HB6.out
      subst h0
      rw [errV_zero]
      go_wp2_with fail
      refine bodyPost_ret (v := .tuple #[.agg #[.int .i64 r.1.tick, .int .i64 r.1.g0, .int .i64 r.1.g1, .int .i64 r.1.next, .slice fa r.1.free.length cf, .slice ua r.1.us.length cu, .slice ta q.1.length ct], .nilIface]) (ret_cell2 Try.results15 rfl rfl (K6.out.store7 rfl (.int .i64 r.1.tick) (.int .i64 r.1.g0) (.int .i64 r.1.g1) (.int .i64 r.1.next) (.slice fa r.1.free.length cf) (.slice ua r.1.us.length cu) (.slice ta q.1.length ct)) Try.underlying29 rfl infoTape) rfl ?_
      have XK := ((((((((Kp.refl (fun b => b = w.heap.size) w6).andset ⟨w.heap.size, 0, none⟩ (.int .i64 r.1.tick) rfl).andset ⟨w.heap.size, 1, none⟩ (.int .i64 r.1.g0) rfl).andset ⟨w.heap.size, 2, none⟩ (.int .i64 r.1.g1) rfl).andset ⟨w.heap.size, 3, none⟩ (.int .i64 r.1.next) rfl).andset ⟨w.heap.size, 4, none⟩ (.slice fa r.1.free.length cf) rfl).andset ⟨w.heap.size, 5, none⟩ (.slice ua r.1.us.length cu) rfl).andset ⟨w.heap.size, 6, none⟩ (.slice ta q.1.length ct) rfl)
      unfold TapeOfEnd
      rw [HT.out]
      refine ⟨fun h => absurd HSF.out h, fun _ => ⟨fa, cf, ua, cu, ta, ct, rfl, ints_row rfl (own_kp OF6.out XK (fun b hb e => ?_)), ents_row rfl (own_kp OE6.out XK (fun b hb e => ?_)), ?_⟩, ?_⟩
      · have := (LOF.out b hb).1; omega
      · have := (LOE.out b hb).1; omega
      · obtain ⟨a', c', e', -, h'⟩ := trow_of (T6.out.kp XK (fun b hb _ e => by omega))
        cases e'
        exact h'
      · iterate 7 (refine Below.setCell ?_ (by simp) _)
        exact HB6.out
end Go.Proofs.Ytlfljlhppigejab
namespace Go.Proofs.Ytlfljlhppigejab
open Go.RowKit

theorem infoReel : (Try.prog.info? 35).map (·.size) = some 6 := by kernel_rfl
theorem infoOrders : ∃ i, Try.prog.info? 129 = some i ∧ i.zero = some (.agg #[.int .i64 0, .int .i64 0, .int .i64 0, .int .i64 0, .int .i64 0, .int .i64 0]) ∧ i.size = 6 ∧ i.bytes = 48 :=
  ⟨(Try.prog.info? 129).get (by kernel_rfl), by kernel_rfl, by kernel_rfl, by kernel_rfl, by kernel_rfl⟩
theorem infoTickO : ∃ i, Try.prog.info? 101 = some i ∧ i.zero = some (.slice none 0 0) ∧ i.size = 1 ∧ i.bytes = 24 :=
  ⟨(Try.prog.info? 101).get (by kernel_rfl), by kernel_rfl, by kernel_rfl, by kernel_rfl, by kernel_rfl⟩
theorem put6r {a b c d e f : Value} {vs : List Int} (hl : vs.length = 6) : putI #[a, b, c, d, e, f] vs = (cellsO (mkC vs)).toArray := by
  match vs, hl with
  | [v0, v1, v2, v3, v4, v5], _ => rfl
theorem cmsO_succ (st : St) (k : Nat) : cellsAllO (cmsI true st (k + 1)).1 = cellsAllO (cmsI true st k).1 ++ cellsO (mkC (numsI (cmsI true st k).2 6).1) := by
  show cellsAllO ((cmsI true st k).1 ++ [mkC (numsI (cmsI true st k).2 6).1]) = _
  unfold cellsAllO
  rw [List.flatMap_append]
  simp

/-- What ReelOf hands back. -/
def ReelOfEnd (l : List UInt8) (w : World) (e : Ending) (w' : World) : Prop :=
  (tapeF true l ≠ 0 → e = .returned (.tuple #[.agg #[.int .i64 0, .int .i64 0, .int .i64 0, .int .i64 0, .slice none 0 0, .slice none 0 0], errV (tapeF true l)])) ∧
  (tapeF true l = 0 → ∃ ua cu ta ct, e = .returned (.tuple #[.agg #[.int .i64 (tapeI true (openL 82 l)).1.tick, .int .i64 (tapeI true (openL 82 l)).1.g0, .int .i64 (tapeI true (openL 82 l)).1.g1, .int .i64 (tapeI true (openL 82 l)).1.next, .slice ua (tapeI true (openL 82 l)).1.us.length cu, .slice ta (tapeI true (openL 82 l)).2.1.length ct], .nilIface]) ∧
    URow true w'.heap.size w' ua (tapeI true (openL 82 l)).1.us ∧ (ua = none → (tapeI true (openL 82 l)).1.us.length = 0 ∧ cu = 0) ∧ (tapeI true (openL 82 l)).1.us.length ≤ cu ∧ PRow w'.heap.size w' ta (tapeI true (openL 82 l)).2.1) ∧ Below w.heap.size w w'

set_option maxHeartbeats 12800000 in
set_option maxRecDepth 100000 in
theorem reelof_any (s : ByteArray) (hs : s.size ≤ 900000) (w : World) :
    Calls Try.prog 22 #[.string s] w (ReelOfEnd s.data.toList w) := by
  obtain ⟨l, hl⟩ : ∃ l, s.data.toList = l := ⟨_, rfl⟩
  have hll : l.length ≤ 900000 := by rw [← hl, ← Lib.size_eq]; exact hs
  have HO := Lib.hid (body_any 82 s hs)
  rw [hl] at HO ⊢
  clear hl
  obtain ⟨W, hW⟩ : ∃ W, w.alloc (.cells #[.int .i64 0, .int .i64 0, .int .i64 0, .int .i64 0, .slice none 0 0, .slice none 0 0] 35) = W := ⟨_, rfl⟩
  have hbW : Below w.heap.size w W := by rw [← hW]; exact (Below.refl _ _).alloc (Nat.le_refl _) _
  have kR : Blk W w.heap.size #[.int .i64 0, .int .i64 0, .int .i64 0, .int .i64 0, .slice none 0 0, .slice none 0 0] := by rw [← hW]; exact Blk.new w _ _
  have hsW := hbW.size
  have lR := kR.lt
  have HW := Lib.hid hbW
  have KR := Lib.hid kR
  clear hbW kR
  go_enter Try.func22, Try.ntmps22
  go_upto_region 1 with fail
  try rw [hW]
  clear hW
  go_wp2_with fail
  refine (HO.out W).mono ?_
  rintro e w1 ⟨S, rfl, hS, bS, b1⟩
  obtain ⟨st, hst⟩ : ∃ st, openL 82 l = st := ⟨_, rfl⟩
  have hstl : st.1.length ≤ 1000000 := by
    rw [← hst]
    unfold openL
    repeat' split
    all_goals (simp; try omega)
  rw [hst] at bS
  have HST := Lib.hid hst
  have BS := Lib.hid bS
  have K1 := Lib.hid (KR.out.call b1)
  have HB1 : Hid (Below w.heap.size w w1) := Lib.hid (HW.out.trans (b1.mono hsW))
  have hs1 := b1.size
  have lS1 := bS.lt
  clear bS b1 hst
  go_wp2_with fail
  refine (newer_in st S w1 BS.out hstl).mono ?_
  rintro e w2 ⟨ev, rfl, bS2, kp2, oe2⟩
  obtain ⟨r, hr⟩ : ∃ r, newerI st = r := ⟨_, rfl⟩
  have HR := Lib.hid hr
  rw [hr] at bS2 oe2 ⊢
  have hrl : r.2.1.length ≤ 1000000 := by rw [← hr]; exact Nat.le_trans (startI_shrinks true st) hstl
  have hnew : r.1.new = true := by rw [← hr]; rfl
  have HNEW := Lib.hid hnew
  have hfree : r.1.free = [] := by rw [← hr]; rfl
  have HFREE := Lib.hid hfree
  have hulm := own_max oe2
  obtain ⟨ua, cu, rfl⟩ := own_slice oe2
  have HB2 : Hid (Below w.heap.size w w2) := Lib.hid (HB1.out.trans (kp2.below (fun b hb => by omega) (by omega)))
  have hs2 := kp2.size
  have BS2 := Lib.hid bS2
  have K2 := Lib.hid (K1.out.kp kp2 (by omega))
  have OE2 := Lib.hid oe2
  have loeB : ∀ b, (Value.slice ua r.1.us.length cu).ownBlock = some b → w1.heap.size ≤ b ∧ b < w2.heap.size := fun b hb => World.ownsRow.lt oe2 b hb
  have LOE := Lib.hid loeB
  have hm : maxLen ≤ 9223372036854775807 := by unfold maxLen; decide
  clear hr kp2 oe2 bS2 loeB hnew hfree
  obtain ⟨V0, hV0⟩ : ∃ V, w2.alloc (.cells #[.int .i64 r.1.tick, .int .i64 r.1.g0, .int .i64 r.1.g1, .int .i64 r.1.next, .slice ua r.1.us.length cu, .slice none 0 0] 35) = V := ⟨_, rfl⟩
  have hbV0 : Below w2.heap.size w2 V0 := by rw [← hV0]; exact (Below.refl _ _).alloc (Nat.le_refl _) _
  have kV0 : Blk V0 w2.heap.size #[.int .i64 r.1.tick, .int .i64 r.1.g0, .int .i64 r.1.g1, .int .i64 r.1.next, .slice ua r.1.us.length cu, .slice none 0 0] := by rw [← hV0]; exact Blk.new w2 _ _
  obtain ⟨lV0, cV, fV⟩ := id kV0
  obtain ⟨V, hV⟩ : ∃ V, V0.setCell ⟨w2.heap.size, 5, none⟩ (.slice none 0 0) = V := ⟨_, rfl⟩
  have hbV : Below w2.heap.size w2 V := by rw [← hV]; exact hbV0.setCell (Nat.le_refl _) _
  have kV : Blk V w2.heap.size #[.int .i64 r.1.tick, .int .i64 r.1.g0, .int .i64 r.1.g1, .int .i64 r.1.next, .slice ua r.1.us.length cu, .slice none 0 0] := by
    rw [← hV]
    have := kV0.store (.slice none 0 0) (i := 5) (by simp)
    simpa using this
  have hsV := hbV.size
  have lV := kV.lt
  have KV := Lib.hid kV
  have KRV := Lib.hid (K2.out.call hbV)
  have BSV := Lib.hid (BS2.out.call hbV)
  have HBV := Lib.hid (HB2.out.trans (hbV.mono (by omega)))
  have OEV := Lib.hid (own_kp OE2.out (kp_of hbV (fun _ => False)) (fun _ _ x => x))
  have lSV := BS2.out.lt
  clear kV hbV hbV0 kV0
  go_upto_region 3 with fail
  try rw [hV0]
  try rw [hV]
  clear hV hV0 cV fV lV0
  go_wp2_with fail
  refine (many_in r.2 60 S V BSV.out hrl).mono ?_
  rintro e w3 ⟨rfl, bS3, kp3⟩
  have hrg := manyI_range r.2 60 (by omega)
  obtain ⟨nI, hnI⟩ : ∃ x, (manyI r.2 60).1 = x := ⟨_, rfl⟩
  obtain ⟨s3, hs3'⟩ : ∃ x, (manyI r.2 60).2 = x := ⟨_, rfl⟩
  have hl3 : s3.1.length ≤ 1000000 := by rw [← hs3']; exact Nat.le_trans (manyI_shrinks r.2 60) hrl
  rw [hnI] at hrg ⊢
  rw [hs3'] at bS3
  obtain ⟨n, rfl⟩ := Int.eq_ofNat_of_zero_le hrg.1
  have hn60 : n ≤ 60 := by omega
  have HN := Lib.hid (show (manyI r.2 60).1 = (n : Int) ∧ (manyI r.2 60).2 = s3 from ⟨hnI, hs3'⟩)
  have BS3 := Lib.hid bS3
  have K3 := Lib.hid (KV.out.kp kp3 (by omega))
  have KP3 := Lib.hid (kp3.imp (fun _ _ h => Or.inl h) : Kp (fun b => b = S ∨ b = w2.heap.size) V w3)
  have hsz3 := kp3.size
  have hn0 : (0 : Int) ≤ (n : Int) := by omega
  clear bS3 kp3 hnI hs3' hrg
  go_wp2_with fail
  go_loopw [6, 16] (fun _ i wr => ∃ k : Nat, i = .int .i64 k ∧ k ≤ n ∧ (Blk wr S (inC (ticksI true s3 k).2) ∧ (∃ tv, Blk wr w2.heap.size #[.int .i64 r.1.tick, .int .i64 r.1.g0, .int .i64 r.1.g1, .int .i64 r.1.next, .slice ua r.1.us.length cu, tv] ∧ TOwn 101 129 6 cellsO V.heap.size wr tv (ticksI true s3 k).1) ∧ Kp (fun b => b = S ∨ b = w2.heap.size) V wr)) (fun _ i _ => (n - intOf i).toNat)
  case atStart => exact ⟨0, rfl, by omega, BS3.out, ⟨_, K3.out, TOwn.nil _ _ _ _ _ _⟩, KP3.out⟩
  case round =>
    obtain ⟨k, rfl, hk, bS, ⟨tv, bK, town⟩, kr⟩ := hrel
    have hszr := kr.size
    by_cases hlt : k < n
    · have hki : (0 : Int) ≤ (k : Int) := by omega
      have hkl : (k : Int) < (n : Int) := by omega
      have hlk : (ticksI true s3 k).2.1.length ≤ 1000000 := Nat.le_trans (ticksI_shrinks true s3 k) hl3
      have lSr := bS.lt
      have lKr := bK.lt
      have BS := Lib.hid bS
      have BK := Lib.hid bK
      have TOWN := Lib.hid town
      have KR := Lib.hid kr
      clear bS bK town kr
      go_wp2_with fail
      refine (many_in (ticksI true s3 k).2 8 S _ BS.out hlk).mono ?_
      rintro e w4 ⟨rfl, bS4, kp4⟩
      have hrg := manyI_range (ticksI true s3 k).2 8 (by omega)
      obtain ⟨mI, hmI⟩ : ∃ x, (manyI (ticksI true s3 k).2 8).1 = x := ⟨_, rfl⟩
      obtain ⟨s4, hs4'⟩ : ∃ x, (manyI (ticksI true s3 k).2 8).2 = x := ⟨_, rfl⟩
      have hl4 : s4.1.length ≤ 1000000 := by rw [← hs4']; exact Nat.le_trans (manyI_shrinks _ 8) hlk
      rw [hmI] at hrg ⊢
      rw [hs4'] at bS4
      obtain ⟨m, rfl⟩ := Int.eq_ofNat_of_zero_le hrg.1
      have hm8 : m ≤ 8 := by omega
      have HM := Lib.hid (show (manyI (ticksI true s3 k).2 8).1 = (m : Int) ∧ (manyI (ticksI true s3 k).2 8).2 = s4 from ⟨hmI, hs4'⟩)
      have BS4 := Lib.hid bS4
      have K4 := Lib.hid (BK.out.kp kp4 (by omega))
      have T4 := Lib.hid (TOWN.out.kp kp4 (fun b hb _ e => by omega))
      have KP4 := Lib.hid (KR.out.trans kp4 (fun _ _ h => Or.inl h))
      have hsz4 := kp4.size
      have hm0 : (0 : Int) ≤ (m : Int) := by omega
      clear bS4 kp4 hmI hs4' hrg
      go_wp2_with fail
      go_loopw [6, 20] (fun lv i wx => ∃ j : Nat, i = .int .i64 j ∧ j ≤ m ∧ (Blk wx S (inC (cmsI true s4 j).2) ∧ wx.ownsRow w4.heap.size 129 6 lv j (cellsAllO (cmsI true s4 j).1) ∧ Kp (fun b => b = S) w4 wx)) (fun _ i _ => (m - intOf i).toNat)
      case atStart => exact ⟨0, rfl, by omega, BS4.out, World.ownsRow_nil _ _ _ _, Kp.refl _ _⟩
      case round =>
        obtain ⟨j, rfl, hj, bS, own, kr⟩ := hrel
        have hszr := kr.size
        obtain ⟨lva, lvc, hlv⟩ := own_slice own
        subst hlv
        by_cases hjm : j < m
        · have hkj : (0 : Int) ≤ (j : Int) := by omega
          have hkjl : (j : Int) < (m : Int) := by omega
          obtain ⟨V1, hV1⟩ : ∃ V, wr.alloc (.cells #[.int .i64 0, .int .i64 0, .int .i64 0, .int .i64 0, .int .i64 0, .int .i64 0] 129) = V := ⟨_, rfl⟩
          have hb1 : Below wr.heap.size wr V1 := by rw [← hV1]; exact (Below.refl _ _).alloc (Nat.le_refl _) _
          have kE : Blk V1 wr.heap.size #[.int .i64 0, .int .i64 0, .int .i64 0, .int .i64 0, .int .i64 0, .int .i64 0] := by rw [← hV1]; exact Blk.new wr _ _
          have hV1s : V1.heap.size = wr.heap.size + 1 := by rw [← hV1]; simp
          have hb2 : Below V1.heap.size V1 (V1.alloc (.cells #[.pointer (some ⟨wr.heap.size, 0, none⟩), .pointer (some ⟨wr.heap.size, 1, none⟩), .pointer (some ⟨wr.heap.size, 2, none⟩), .pointer (some ⟨wr.heap.size, 3, none⟩), .pointer (some ⟨wr.heap.size, 4, none⟩), .pointer (some ⟨wr.heap.size, 5, none⟩)] 121)) := (Below.refl _ _).alloc (Nat.le_refl _) _
          have hSr := bS.lt
          have BSJ := Lib.hid ((bS.call hb1).call hb2)
          have KE := Lib.hid (kE.call hb2)
          have OWNJ := Lib.hid (own_kp (own_kp own (kp_of hb1 (fun _ => False)) (fun _ _ x => x)) (kp_of hb2 (fun _ => False)) (fun _ _ x => x))
          have KRJ := Lib.hid ((kr.then_ hb1).then_ hb2)
          have hlj : (cmsI true s4 j).2.1.length ≤ 1000000 := Nat.le_trans (cmsI_shrinks true s4 j) hl4
          have EVB := Lib.hid (fun b hb => World.ownsRow.lt own b hb : ∀ b, (Value.slice lva j lvc).ownBlock = some b → w4.heap.size ≤ b ∧ b < wr.heap.size)
          have HV1S := Lib.hid hV1s
          clear bS kE own kr hb1 hb2 hV1s
          go_wp2_with fail
          refine (nums_in (cmsI true s4 j).2 S wr.heap.size V1.heap.size 6 6 _ _ BSJ.out KE.out (by decide) (by omega) (fun q hq => by
            rw [World.cell?_alloc_new]
            have hq' : q = 0 ∨ q = 1 ∨ q = 2 ∨ q = 3 ∨ q = 4 ∨ q = 5 := by omega
            rcases hq' with rfl | rfl | rfl | rfl | rfl | rfl <;> rfl) (by simp) (by have := HV1S.out; omega) (by have := HV1S.out; omega) (fun q => Nat.le_trans (numsI_shrinks _ q) hlj) (by omega)).mono ?_
          rintro e w5 ⟨rfl, bS5, bE5, kp5⟩
          rw [put6r (numsI_length _ 6)] at bE5
          obtain ⟨c, hc⟩ : ∃ x, mkC (numsI (cmsI true s4 j).2 6).1 = x := ⟨_, rfl⟩
          rw [hc] at bE5
          have bE5' : Blk w5 wr.heap.size #[.int .i64 c.player, .int .i64 c.op, .int .i64 c.id, .int .i64 c.kind, .int .i64 c.x, .int .i64 c.y] := bE5
          have own5 := own_kp OWNJ.out kp5 (fun b hb e => by have := EVB.out b hb; omega)
          have kp5' : Kp (fun b => b = S) w4 w5 := KRJ.out.trans kp5 (fun c hc e => by rcases e with h | h; exact h; omega)
          obtain ⟨lE, cE, -⟩ := id bE5'
          have hs5 := kp5.size
          obtain ⟨i1, hj0, hj1, hj2, hj3⟩ := infoOrders
          have hbz : Below w5.heap.size w5 (w5.alloc (.cells #[.int .i64 c.player, .int .i64 c.op, .int .i64 c.id, .int .i64 c.kind, .int .i64 c.x, .int .i64 c.y] 129)) := (Below.refl _ _).alloc (Nat.le_refl _) _
          have oB := own_kp own5 (kp_of hbz (fun _ => False)) (fun _ _ x => x)
          have hsz5 := kp5'.size
          obtain ⟨g2, cap, w6, r6, own6, grow6, hat6, lt6⟩ := run_append_lies (P := Try.prog) (w5.alloc (.cells #[.int .i64 c.player, .int .i64 c.op, .int .i64 c.id, .int .i64 c.kind, .int .i64 c.x, .int .i64 c.y] 129)) 101 101 w4.heap.size 129 i1 _ 6 48 Try.underlying101 hj0 hj1 hj2 hj3 rfl (by omega) (.slice lva j lvc) j (cellsAllO (cmsI true s4 j).1) oB ⟨w5.heap.size, 0, none⟩ 1 1 (cellsO c) rfl (World.news_of_block (cs := #[.int .i64 c.player, .int .i64 c.op, .int .i64 c.id, .int .i64 c.kind, .int .i64 c.x, .int .i64 c.y]) (t := 129) (fr := (0, 0)) (heap_alloc_new w5 _)) (by intro q hq; simp [cellsO] at hq; rcases hq with h | h | h | h | h | h <;> rw [h] <;> rfl) (by omega) (by unfold maxLen; omega) (by omega) (by have := hbz.size; omega) (w5.heap.size + 1) (by simp)
          have kg := Kp.grown grow6
          have hSev : (Value.slice lva j lvc).ownBlock ≠ some S := fun e => by have := (EVB.out _ e).1; omega
          have bS6 := (bS5.call hbz).kp kg (fun e => hSev e.symm)
          have kp6 := (kp5'.then_ hbz).trans kg (fun c hc e => by have := (EVB.out c e.symm).1; omega)
          have HC := Lib.hid hc
          have OWN6 := Lib.hid own6
          have BS6 := Lib.hid bS6
          have KP6 := Lib.hid kp6
          clear hj0 hj1 hj2 hj3 hbz oB own6 grow6 hat6 kg own5 bE5 bE5' bS5 kp5 kp5' bS6 kp6 hc hSev
          go_wp2_with (at_builtin; refine list_run_append (by rfl) _ _ _ _ (by rfl) (by rfl) (by rfl) (by rfl) r6 ?_)
          go_roundw
          case rel =>
            refine ⟨j + 1, by go_num, by omega, ?_, ?_, KP6.out⟩
            · rw [cms_st]; exact BS6.out
            · rw [cmsO_succ, HC.out]; exact OWN6.out
          case measure => simp [intOf]; omega
        · obtain rfl : j = m := by omega
          have hti : tickI true (ticksI true s3 k).2 = cmsI true s4 j := by
            obtain ⟨h1, h2⟩ := HM.out
            unfold tickI
            rw [h1, h2, Int.toNat_natCast]
          obtain ⟨L, hL⟩ : ∃ x, (cmsI true s4 j).1 = x := ⟨_, rfl⟩
          have hLl : L.length = j := by rw [← hL]; exact cmsI_length _ _ _
          obtain ⟨TL, hTL⟩ : ∃ x, (ticksI true s3 k).1 = x := ⟨_, rfl⟩
          have hTLl : TL.length = k := by rw [← hTL]; exact ticksI_length _ _ _
          have bKj := K4.out.kp kr (by omega)
          have hbz : Below wr.heap.size wr (wr.alloc (.cells #[.slice lva j lvc] 101)) := (Below.refl _ _).alloc (Nat.le_refl _) _
          have ownL : (wr.alloc (.cells #[.slice lva j lvc] 101)).ownsRow V.heap.size 129 6 (.slice lva j lvc) L.length (L.flatMap cellsO) := by
            rw [hLl]
            rw [hL] at own
            exact own_base (own_kp own (kp_of hbz (fun _ => False)) (fun _ _ x => x)) (by omega)
          have tj := (T4.out.kp kr (fun b hb _ e => by omega)).kp (kp_of hbz (fun _ => False)) (fun _ _ _ x => x)
          rw [hTL] at tj
          obtain ⟨cs, ownT, snoc⟩ := tj.snoc (by decide) L (.slice lva j lvc) ownL
          obtain ⟨tva, tvc, htv⟩ := own_slice ownT
          subst htv
          rw [hTLl] at ownT snoc bKj
          obtain ⟨i1, hj0, hj1, hj2, hj3⟩ := infoTickO
          have TVB : ∀ b, (Value.slice tva k tvc).ownBlock = some b → V.heap.size ≤ b := fun b hb => (World.ownsRow.lt ownT b hb).1
          obtain ⟨g2, cap, w7, r7, own7, grow7, hat7, lt7⟩ := run_append_lies (P := Try.prog) (wr.alloc (.cells #[.slice lva j lvc] 101)) 33 33 V.heap.size 101 i1 _ 1 24 Try.underlying33 hj0 hj1 hj2 hj3 rfl (by omega) (.slice tva k tvc) k cs ownT ⟨wr.heap.size, 0, none⟩ 1 1 [.slice lva j lvc] rfl (World.news_of_block (cs := #[.slice lva j lvc]) (t := 101) (fr := (0, 0)) (heap_alloc_new wr _)) (by intro q hq; simp at hq; rw [hq]; rfl) (by omega) (by unfold maxLen; omega) (by omega) (by have := hbz.size; have := kr.size; omega) (wr.heap.size + 1) (by simp)
          have kg := Kp.grown grow7
          have hne1 : (Value.slice tva k tvc).ownBlock ≠ some w2.heap.size := fun e => by have := TVB _ e; omega
          have hne2 : (Value.slice tva k tvc).ownBlock ≠ some S := fun e => by have := TVB _ e; omega
          have bK7 := (bKj.call hbz).kp kg (fun e => hne1 e.symm)
          have bS7 := (bS.call hbz).kp kg (fun e => hne2 e.symm)
          have kp7 := (((KP4.out.trans kr (fun _ _ h => Or.inl h)).then_ hbz).trans kg (fun c hc e => by have := TVB c e.symm; omega)).andset ⟨w2.heap.size, 5, none⟩ (.slice (some ⟨g2, 0, none⟩) (k + 1) cap) (Or.inr rfl)
          have town7 := snoc w7 _ kg own7
          obtain ⟨lKj, cKj, -⟩ := id bKj
          obtain ⟨lK7, cK7, fK7⟩ := id bK7
          have HTI := Lib.hid hti
          have HLL := Lib.hid hL
          have HTL := Lib.hid hTL
          have BS7 := Lib.hid bS7
          have BK7 := Lib.hid bK7
          have KP7 := Lib.hid kp7
          have T7 := Lib.hid town7
          have HTLL := Lib.hid hTLl
          clear hti hL hLl hTL bKj hbz ownL tj ownT snoc hj0 hj1 hj2 hj3 own7 grow7 hat7 kg hne1 hne2 bK7 bS7 kp7 town7 own bS kr TVB
          clear hTLl
          go_wp2_with (at_builtin; refine list_run_append (by rfl) _ _ _ _ (by rfl) (by rfl) (by rfl) (by rfl) r7 ?_)
          go_roundw
          case rel =>
            refine ⟨k + 1, by go_num, by omega, ?_, ⟨.slice (some ⟨g2, 0, none⟩) (k + 1) cap, ?_, ?_⟩, KP7.out⟩
            · rw [ticks_st, HTI.out]
              exact BS7.out.other (by omega)
            · have := BK7.out.store (.slice (some ⟨g2, 0, none⟩) (k + 1) cap) (i := 5) (by simp)
              simpa using this
            · rw [ticks_succ, HTI.out, HTL.out, HLL.out]
              exact T7.out.kp (Kp.setCell w7 ⟨w2.heap.size, 5, none⟩ _) (fun b hb _ e => by have h2 : b = w2.heap.size := e; omega)
          case measure => simp [intOf]; omega
    · obtain rfl : k = n := by omega
      obtain ⟨q, hq⟩ : ∃ x, ticksI true s3 k = x := ⟨_, rfl⟩
      rw [hq] at bS town
      have hT : tapeI true (openL 82 l) = (r.1, q) := by
        obtain ⟨h1, h2⟩ := HN.out
        rw [HST.out]
        show ((newerI st).1, ticksI true (manyI (newerI st).2 60).2 (manyI (newerI st).2 60).1.toNat) = _
        rw [HR.out, h1, h2, Int.toNat_natCast, hq]
      have HT := Lib.hid hT
      have HTI : Hid (tapeI true st = (r.1, q)) := Lib.hid (by have h := hT; rw [HST.out] at h; exact h)
      obtain ⟨ta, ct, htv, htl, htr⟩ := prow_of town
      subst htv
      have TOWN := Lib.hid town
      have BS := Lib.hid bS
      have BK := Lib.hid bK
      have KRR := Lib.hid (KRV.out.kp kr (fun h => by rcases h with h | h <;> omega))
      have OER := Lib.hid (own_kp OEV.out kr (fun b hb h => by have := LOE.out b hb; omega))
      have HBR : Hid (Below w.heap.size w wr) := Lib.hid (HBV.out.trans (kr.below (fun b hb => by omega) (by omega)))
      have HTR := Lib.hid htr
      clear bS bK town kr hq hT htr
      go_wp2_with fail
      refine (end_in q.2 S _ BS.out).mono ?_
      rintro e w5 ⟨rfl, rfl⟩
      obtain ⟨f, hf⟩ : ∃ f, endI q.2 = f := ⟨_, rfl⟩
      rw [hf]
      have HF := Lib.hid hf
      obtain ⟨lR3, cR3, fR3⟩ := id KRR.out
      clear hf
      by_cases h0 : f = 0
      case neg =>
        rw [errV_pos _ h0]
        have HFA : Hid (tapeF true l = f ∧ f ≠ 0) := Lib.hid ⟨by
          have e : endI (tapeI true (openL (kindT true) l)).2.2 = f := by
            show endI (tapeI true (openL 82 l)).2.2 = f
            rw [HT.out, HF.out]
          unfold tapeF
          rw [e, if_pos h0], h0⟩
        clear h0
        go_wp2_with fail
        refine bodyPost_ret (v := .tuple #[.agg #[.int .i64 0, .int .i64 0, .int .i64 0, .int .i64 0, .slice none 0 0, .slice none 0 0], .iface 112 (.int .i64 f)]) (ret_cell2 Try.results22 rfl rfl (KRR.out.store6 rfl (.int .i64 0) (.int .i64 0) (.int .i64 0) (.int .i64 0) (.slice none 0 0) (.slice none 0 0)) Try.underlying35 rfl infoReel) rfl ?_
        refine ⟨fun _ => by rw [HFA.out.1, errV_pos _ HFA.out.2], fun h => absurd (HFA.out.1.symm.trans h) HFA.out.2, ?_⟩
        iterate 6 (refine Below.setCell ?_ (by simp) _)
        exact HBR.out
      subst h0
      rw [errV_zero]
      have hfits : r.1.Fits := by
        have h := startI_fits true st (tapeI_start true st (endI_pairN HTI.out HF.out))
        have e : (startI true st).1 = r.1 := by show (newerI st).1 = r.1; rw [HR.out]
        rwa [e] at h
      have HFITS := Lib.hid hfits
      obtain ⟨lV2, cV2, -⟩ := id BK.out
      clear hfits
      go_wp2_with fail
      refine (checkreel_any r.1 ua ta cu ct HNEW.out HFREE.out (by omega) q.1 htl _ (units_row rfl OER.out).1 (units_row rfl OER.out).2.1 (units_row rfl OER.out).2.2 HTR.out).mono ?_
      rintro e w6 ⟨rfl, b6⟩
      obtain ⟨f, hf⟩ : ∃ f, reelFault r.1 q.1 = f := ⟨_, rfl⟩
      rw [hf]
      have HSF : Hid (tapeF true l = f) := Lib.hid (by
        have e : tapeI true (openL (kindT true) l) = (r.1, q) := HT.out
        show tapeF true l = f
        unfold tapeF
        rw [e]
        dsimp only
        rw [HF.out, if_neg (by simp), ← hf]
        rfl)
      have hsr := HBR.out.size
      have HB6 := Lib.hid (HBR.out.trans (b6.mono (by omega)))
      have k6 := KRR.out.call b6
      obtain ⟨lR4, cR4, fR4⟩ := id k6
      have kv6 := BK.out.call b6
      obtain ⟨lV4, cV4, -⟩ := id kv6
      have K6 := Lib.hid k6
      have hs6 := b6.size
      have OE6 := Lib.hid (own_kp OER.out (kp_of b6 (fun _ => False)) (fun _ _ x => x))
      have T6 := Lib.hid (TOWN.out.kp (kp_of b6 (fun _ => False)) (fun _ _ _ x => x))
      clear b6 k6 kv6 hf cV2 cR3 fR3 lV2 lR3
      by_cases h0 : f = 0
      case neg =>
        rw [errV_pos _ h0]
        have HFA := Lib.hid h0
        clear h0
        go_wp2_with fail
        refine bodyPost_ret (v := .tuple #[.agg #[.int .i64 0, .int .i64 0, .int .i64 0, .int .i64 0, .slice none 0 0, .slice none 0 0], .iface 112 (.int .i64 f)]) (ret_cell2 Try.results22 rfl rfl (K6.out.store6 rfl (.int .i64 0) (.int .i64 0) (.int .i64 0) (.int .i64 0) (.slice none 0 0) (.slice none 0 0)) Try.underlying35 rfl infoReel) rfl ?_
        refine ⟨fun _ => by rw [HSF.out, errV_pos _ HFA.out], fun h => absurd (HSF.out.symm.trans h) HFA.out, ?_⟩
        iterate 6 (refine Below.setCell ?_ (by simp) _)
        exact HB6.out
      subst h0
      rw [errV_zero]
      go_wp2_with fail
      refine bodyPost_ret (v := .tuple #[.agg #[.int .i64 r.1.tick, .int .i64 r.1.g0, .int .i64 r.1.g1, .int .i64 r.1.next, .slice ua r.1.us.length cu, .slice ta q.1.length ct], .nilIface]) (ret_cell2 Try.results22 rfl rfl (K6.out.store6 rfl (.int .i64 r.1.tick) (.int .i64 r.1.g0) (.int .i64 r.1.g1) (.int .i64 r.1.next) (.slice ua r.1.us.length cu) (.slice ta q.1.length ct)) Try.underlying35 rfl infoReel) rfl ?_
      have XK := (((((((Kp.refl (fun b => b = w.heap.size) w6).andset ⟨w.heap.size, 0, none⟩ (.int .i64 r.1.tick) rfl).andset ⟨w.heap.size, 1, none⟩ (.int .i64 r.1.g0) rfl).andset ⟨w.heap.size, 2, none⟩ (.int .i64 r.1.g1) rfl).andset ⟨w.heap.size, 3, none⟩ (.int .i64 r.1.next) rfl).andset ⟨w.heap.size, 4, none⟩ (.slice ua r.1.us.length cu) rfl).andset ⟨w.heap.size, 5, none⟩ (.slice ta q.1.length ct) rfl)
      unfold ReelOfEnd
      rw [HT.out]
      have UR := units_row rfl (own_kp OE6.out XK (fun b hb e => by have h := (LOE.out b hb).1; have e2 : b = w.heap.size := e; omega))
      refine ⟨fun h => absurd HSF.out h, fun _ => ⟨ua, cu, ta, ct, rfl, UR.1, UR.2.1, UR.2.2, ?_⟩, ?_⟩
      · obtain ⟨a', c', e', -, h'⟩ := prow_of (T6.out.kp XK (fun b hb _ e => by have e2 : b = w.heap.size := e; omega))
        cases e'
        exact h'
      · iterate 6 (refine Below.setCell ?_ (by simp) _)
        exact HB6.out
end Go.Proofs.Ytlfljlhppigejab
namespace Go.Proofs.Ytlfljlhppigejab
open Go.RowKit

theorem tapeFault_zero {g : G} {ts : List (List Cm)} (h : tapeFault g ts = 0) : faultOf g = 0 ∧ cntFault ts g.tick = 0 := by
  unfold tapeFault at h
  split at h
  · next h1 => exact absurd h h1
  · next h1 =>
    split at h
    · next h2 => exact absurd h h2
    · next h2 => exact ⟨by omega, by omega⟩
theorem cntFault_zero {ts : List (List Cm)} {tick : Int} (h : cntFault ts tick = 0) : (ts.length : Int) ≤ 60 - tick ∧ ∀ l ∈ ts, l.length ≤ 8 := by
  unfold cntFault at h
  split at h
  · cases h
  · next h1 =>
    refine ⟨by omega, fun l hl => ?_⟩
    have h2 : ¬ ts.any (fun l => decide (8 < l.length)) = true := fun x => h1 (Or.inr x)
    rw [List.any_eq_true] at h2
    exact Nat.not_lt.1 (fun x => h2 ⟨l, hl, by simpa using x⟩)
theorem ticks_ints (n : Bool) (m : Nat) (hm : cmK n ≤ m) (ts : List (List Cm)) (h : ∀ l ∈ ts, l.length ≤ 8) : (ts.flatMap (tickN n)).length ≤ ts.length * (1 + 8 * m) := by
  induction ts with
  | nil => simp
  | cons l ts ih =>
    rw [List.flatMap_cons, List.length_append, List.length_cons, Nat.succ_mul]
    have h1 := ih (fun x hx => h x (List.mem_cons_of_mem _ hx))
    have h2 := h l (List.mem_cons_self ..)
    have h3 : (tickN n l).length = 1 + l.length * cmK n := by
      unfold tickN
      rw [List.length_cons, flat_ints_length (fieldsC n) (cmK n) (fun x => by cases n <;> rfl)]
      omega
    have h4 := Nat.mul_le_mul h2 hm
    omega
theorem take_flat {α : Type} (f : α → List Int) (d : α) (l : List α) (k : Nat) (h : k < l.length) (x : α) (hx : l.getD k d = x) : (l.take (k + 1)).flatMap f = (l.take k).flatMap f ++ f x := by
  rw [List.take_succ_eq_append_getElem h, List.flatMap_append, ← hx]
  simp [List.getD, h]
theorem take_ticks (n : Bool) (ts : List (List Cm)) (k : Nat) (h : ∀ l ∈ ts, l.length ≤ 8) (h6 : ts.length ≤ 60) : ((ts.take k).flatMap (tickN n)).length ≤ 3420 := by
  have h1 := ticks_ints n 7 (by cases n <;> decide) (ts.take k) (fun l hl => h l (List.mem_of_mem_take hl))
  have h2 : (ts.take k).length ≤ 60 := by rw [List.length_take]; omega
  have h3 := Nat.mul_le_mul_right 57 h2
  omega

set_option maxHeartbeats 12800000 in
set_option maxRecDepth 100000 in
theorem tapebytes_any (g : G) (fa ua ta : Option Addr) (cf cu ct : Nat) (hnew : g.new = false) (hcf : g.free.length ≤ 9223372036854775807) (hcu : g.us.length ≤ 9223372036854775807) (ts : List (List Cm)) (hlen : ts.length ≤ maxLen) (w : World)
    (hf : Row w.heap.size w fa g.free.length (fun k => .int .i64 (g.free.getD k 0))) (hu : URow false w.heap.size w ua g.us) (ht : TRow w.heap.size w ta ts) (hfit : g.Fits) (hcfit : ∀ l ∈ ts, ∀ c ∈ l, c.Fits) :
    Calls Try.prog 11 #[.agg #[.int .i64 g.tick, .int .i64 g.g0, .int .i64 g.g1, .int .i64 g.next, .slice fa g.free.length cf, .slice ua g.us.length cu, .slice ta ts.length ct]] w
      fun e w' => e = .returned (.tuple #[.string (bstr (tapeBytesOf false g ts).1), errV (tapeBytesOf false g ts).2]) ∧ Below w.heap.size w w' := by
  obtain ⟨W, hW⟩ : ∃ W, w.alloc (.cells #[.int .i64 g.tick, .int .i64 g.g0, .int .i64 g.g1, .int .i64 g.next, .slice fa g.free.length cf, .slice ua g.us.length cu, .slice ta ts.length ct] 29) = W := ⟨_, rfl⟩
  have hbW : Below w.heap.size w W := by rw [← hW]; exact (Below.refl _ _).alloc (Nat.le_refl _) _
  have fxK : Fx W w.heap.size #[.int .i64 g.tick, .int .i64 g.g0, .int .i64 g.g1, .int .i64 g.next, .slice fa g.free.length cf, .slice ua g.us.length cu, .slice ta ts.length ct] 29 := by rw [← hW]; exact Fx.new w _ _
  have hsW := hbW.size
  obtain ⟨lK, cK, -⟩ := id fxK.blk
  have HF := Lib.hid hf
  have HU := Lib.hid hu
  have HT := Lib.hid ht
  have HFIT := Lib.hid hfit
  have HCFIT := Lib.hid hcfit
  have HNEW := Lib.hid hnew
  have HW := Lib.hid hbW
  have FXK := Lib.hid fxK
  clear hf hu ht hfit hcfit hnew hbW fxK
  go_enter Try.func11, Try.ntmps11
  go_upto_region 1 with fail
  try rw [hW]
  clear hW
  go_wp2_with fail
  refine (checktape_any g fa ua ta cf cu ct HNEW.out hcf hcu ts hlen _ ((HF.out.below HW.out).mono hsW) ((HU.out.below HW.out).mono hsW) ((HT.out.below HW.out).mono hsW) HFIT.out.2.2.2.2.1).mono ?_
  rintro e w1 ⟨rfl, b1⟩
  have HB1 : Hid (Below w.heap.size w w1) := Lib.hid (HW.out.trans (b1.mono hsW))
  have fx1 := FXK.out.call b1
  have hs1 := HB1.out.size
  obtain ⟨l1, c1, -⟩ := id fx1.blk
  have FX1 := Lib.hid fx1
  clear b1 fx1 cK lK
  by_cases hfault : tapeFault g ts = 0
  case neg =>
    rw [errV_pos _ hfault]
    have HBY : Hid (tapeBytesOf false g ts = ([], tapeFault g ts)) := Lib.hid (by show _ = _; unfold tapeBytesOf; exact if_pos hfault)
    have HFA := Lib.hid hfault
    clear hfault
    go_wp2_with fail
    go_ret2
    rw [HBY.out, errV_pos _ HFA.out]
    exact ⟨rfl, HB1.out⟩
  rw [hfault, errV_zero]
  obtain ⟨hfg, hcnt⟩ := tapeFault_zero hfault
  have hg := (right_iff g).1 hfg
  have hfew := hg.few
  have hunf := hg.unfree
  have hhead := hg.head
  obtain ⟨hts, h8⟩ := cntFault_zero hcnt
  have HBY : Hid (tapeBytesOf false g ts = if badL (tapeN false g ts) = true then ([], 1) else (frameL 84 (outL (tapeN false g ts)), 0)) := Lib.hid (by show _ = _; unfold tapeBytesOf; exact if_neg (fun h => h hfault))
  have htk : 0 ≤ g.tick := by unfold headBad at hhead; omega
  have ht60 : ts.length ≤ 60 := by omega
  have hlenE := elderN_length g
  have holE := outL_length (elderN g)
  have H8 := Lib.hid h8
  have HTK := Lib.hid htk
  clear hfault hg hhead hfg hcnt hts h8 htk
  obtain ⟨V, hV⟩ : ∃ V, w1.alloc (.cells #[.pointer none, .slice none 0 0, .bool false] 107) = V := ⟨_, rfl⟩
  have hbV : Below w1.heap.size w1 V := by rw [← hV]; exact (Below.refl _ _).alloc (Nat.le_refl _) _
  have ob : OutB V w.heap.size w1.heap.size (.slice none 0 0) (u8V []) false := by rw [← hV]; exact outB_new w1 _ hs1
  have fxV := FX1.out.call hbV
  obtain ⟨lV, cV, -⟩ := id fxV.blk
  have hsV := hbV.size
  have HBV := Lib.hid (HB1.out.trans (hbV.mono hs1))
  have OB := Lib.hid ob
  have FXV := Lib.hid fxV
  clear hbV ob fxV c1
  go_upto_region 5 with fail
  try rw [hV]
  clear hV
  go_wp2_with fail
  refine (outelder_any g w.heap.size w1.heap.size [] false _ fa ua cf cu V OB.out (by simp) (by omega) (by omega) HFIT.out (HF.out.below HBV.out) (HU.out.below HBV.out) (by omega)).mono ?_
  rintro e w2 ⟨rfl, ⟨bv, ob2⟩, r2⟩
  rw [List.nil_append, Bool.false_or] at ob2
  have OB2 := Lib.hid ob2
  have R2 := Lib.hid (HBV.out.trans r2.below)
  have fx2 := FXV.out.out r2 (by omega) (by decide)
  have hs2 := r2.below.size
  obtain ⟨l2, c2, -⟩ := id fx2.blk
  have FX2 := Lib.hid fx2
  have lS2 : w1.heap.size < w2.heap.size := by obtain ⟨p, -, k⟩ := ob2.cell; exact k.lt
  clear ob2 r2 fx2 cV lV
  have hb2 : Below w2.heap.size w2 (w2.alloc (.cells #[.int .i64 ts.length] 3)) := (Below.refl _ _).alloc (Nat.le_refl _) _
  go_wp2_with fail
  refine (outnums_any w.heap.size w1.heap.size _ _ bv [(ts.length : Int)] _ 1 _ (OB2.out.call hb2) (by show (outL (elderN g)).length + 10 * 1 ≤ 1000000; omega) (fun n hn => by simp at hn; rw [hn]; exact ⟨by omega, by omega⟩) (fresh_row [(ts.length : Int)] _ rfl (by omega)) (by have := hb2.size; omega)).mono ?_
  rintro e w3 ⟨rfl, ⟨bv3, ob3⟩, r3⟩
  have R3 := Lib.hid ((R2.out.trans (hb2.mono (by omega))).trans r3.below)
  have fx3 := (FX2.out.call hb2).out r3 (by omega) (by decide)
  obtain ⟨l3, c3, -⟩ := id fx3.blk
  have hs3 := R3.out.size
  have hsr3 := r3.below.size
  have hsb2 := hb2.size
  rw [← outL_append, ← badL_append] at ob3
  obtain ⟨PRE, hPRE⟩ : ∃ l, elderN g ++ [(ts.length : Int)] = l := ⟨_, rfl⟩
  have hpl : PRE.length ≤ 407 := by rw [← hPRE, List.length_append]; show (elderN g).length + 1 ≤ 407; omega
  rw [hPRE] at ob3
  have OB3 := Lib.hid ob3
  have HPRE := Lib.hid hPRE
  clear hb2 ob3 r3 fx3 c2 l2 hPRE
  have hn0 : (0 : Int) ≤ (ts.length : Int) := by omega
  go_wp2_with fail
  go_loopw [7, 26] (fun _ i wr => ∃ k : Nat, i = .int .i64 k ∧ k ≤ ts.length ∧ ((∃ bv', OutB wr w.heap.size w1.heap.size bv' (u8V (outL (PRE ++ (ts.take k).flatMap (tickN false)))) (badL (PRE ++ (ts.take k).flatMap (tickN false)))) ∧ OutR w.heap.size w1.heap.size w3 wr)) (fun _ i _ => (ts.length - intOf i).toNat)
  case atStart => exact ⟨0, rfl, by omega, ⟨bv3, by simpa using OB3.out⟩, OutR.refl _ _ _⟩
  case round =>
    obtain ⟨k, rfl, hk, ⟨bv', ob⟩, rr⟩ := hrel
    have RR := Lib.hid rr
    have hszr := rr.below.size
    by_cases hlt : k < ts.length
    · obtain ⟨l, hl⟩ : ∃ l, ts.getD k [] = l := ⟨_, rfl⟩
      have hlm : l ∈ ts := by rw [← hl]; simp [List.getD, hlt]
      obtain ⟨b, o, la, cl, hta, hbB, hcell, hcr, -⟩ := (HT.out.below (R3.out.trans rr.below)).get k hlt l hl
      subst hta
      have hbr : b < wr.heap.size := by omega
      have hki : (0 : Int) ≤ (k : Int) := by omega
      have hkl : (k : Int) < (ts.length : Int) := by omega
      have hl8 := H8.out l hlm
      have hnx := take_flat (tickN false) [] ts k hlt l hl
      have hfl := take_ticks false ts k H8.out ht60
      have hlo := outL_length (PRE ++ (ts.take k).flatMap (tickN false))
      rw [List.length_append] at hlo
      have HNX := Lib.hid hnx
      have OBK := Lib.hid ob
      have HCR := Lib.hid hcr
      have HLM := Lib.hid hlm
      have hbl : Below wr.heap.size wr (wr.alloc (.cells #[.int .i64 l.length] 3)) := (Below.refl _ _).alloc (Nat.le_refl _) _
      have HBL := Lib.hid hbl
      have hsbl := hbl.size
      clear hl hlm hcr hnx ob rr hbl
      go_wp2_with fail
      refine (outnums_any w.heap.size w1.heap.size _ _ bv' [(l.length : Int)] _ 1 _ (OBK.out.call HBL.out) (by show (outL (PRE ++ (ts.take k).flatMap (tickN false))).length + 10 * 1 ≤ 1000000; omega) (fun n hn => by simp at hn; rw [hn]; exact ⟨by omega, by omega⟩) (fresh_row [(l.length : Int)] _ rfl (by omega)) (by omega)).mono ?_
      rintro e w4 ⟨rfl, ⟨bv4, ob4⟩, r4⟩
      rw [← outL_append, ← badL_append] at ob4
      obtain ⟨P2, hP2⟩ : ∃ x, PRE ++ (ts.take k).flatMap (tickN false) ++ [(l.length : Int)] = x := ⟨_, rfl⟩
      have hp2 : P2.length ≤ 3828 := by rw [← hP2]; simp only [List.length_append, List.length_singleton]; omega
      rw [hP2] at ob4
      have R4 := Lib.hid ((OutR.of HBL.out (by omega)).trans r4)
      have hs4 := R4.out.below.size
      have OB4 := Lib.hid ob4
      have HP2 := Lib.hid hP2
      have hl0 : (0 : Int) ≤ (l.length : Int) := by omega
      clear ob4 r4 hP2 hcell
      go_wp2_with fail
      go_loopw [36] (fun i wx => ∃ j : Nat, i = .int .i64 j ∧ j ≤ l.length ∧ ((∃ bv', OutB wx w.heap.size w1.heap.size bv' (u8V (outL (P2 ++ (l.take j).flatMap (fieldsC false)))) (badL (P2 ++ (l.take j).flatMap (fieldsC false)))) ∧ OutR w.heap.size w1.heap.size wr wx)) (fun i _ => (l.length - intOf i).toNat)
      case atStart => exact ⟨0, rfl, by omega, ⟨bv4, by simpa using OB4.out⟩, R4.out⟩
      case round =>
        obtain ⟨j, rfl, hj, ⟨bvj, obj⟩, rj⟩ := hrel
        have RJ := Lib.hid rj
        have hszj := rj.below.size
        by_cases hjl : j < l.length
        · obtain ⟨c, hc⟩ : ∃ c, l.getD j zeroC = c := ⟨_, rfl⟩
          have hcm : c ∈ l := by rw [← hc]; simp [List.getD, hjl]
          obtain ⟨b2, o2, hla, hbB2, q0, q1, q2, q3, q4, q5, q6⟩ := (HCR.out.below rj.below).get j hjl c hc
          subst hla
          have hbr2 : b2 < wr.heap.size := by omega
          have hkj : (0 : Int) ≤ (j : Int) := by omega
          have hkjl : (j : Int) < (l.length : Int) := by omega
          have hcf2 := HCFIT.out l HLM.out c hcm
          have hnj := take_flat (fieldsC false) zeroC l j hjl c hc
          have hfl2 : ((l.take j).flatMap (fieldsC false)).length ≤ 56 := by
            rw [flat_ints_length (fieldsC false) 7 (fun _ => rfl), List.length_take]
            omega
          have hlo2 := outL_length (P2 ++ (l.take j).flatMap (fieldsC false))
          rw [List.length_append] at hlo2
          have HNJ := Lib.hid hnj
          have OBJ := Lib.hid obj
          have HCF2 := Lib.hid hcf2
          obtain ⟨Y, hY⟩ : ∃ Y, wr.alloc (.cells #[.int .i64 c.player, .int .i64 c.op, .int .i64 c.id, .int .i64 c.kind, .int .i64 c.x, .int .i64 c.y, .int .i64 c.target] 111) = Y := ⟨_, rfl⟩
          have hbY : Below wr.heap.size wr Y := by rw [← hY]; exact (Below.refl _ _).alloc (Nat.le_refl _) _
          have kE : Blk Y wr.heap.size #[.int .i64 c.player, .int .i64 c.op, .int .i64 c.id, .int .i64 c.kind, .int .i64 c.x, .int .i64 c.y, .int .i64 c.target] := by rw [← hY]; exact Blk.new wr _ _
          have hbY2 : Below Y.heap.size Y (Y.alloc (.cells #[.int .i64 c.player, .int .i64 c.op, .int .i64 c.id, .int .i64 c.kind, .int .i64 c.x, .int .i64 c.y, .int .i64 c.target] 3)) := (Below.refl _ _).alloc (Nat.le_refl _) _
          have hsY := hbY.size
          obtain ⟨lE, cE, -⟩ := id kE
          have HBY1 := Lib.hid hbY
          have HBY2 := Lib.hid hbY2
          clear hc hcm hnj obj rj hcf2 hbY hbY2 kE
          go_wp2_with fail
          refine (outnums_any w.heap.size w1.heap.size _ _ bvj (fieldsC false c) _ 7 _ ((OBJ.out.call HBY1.out).call HBY2.out) (by
            have : (fieldsC false c).length = 7 := rfl
            omega) (fun n hn => ?_) (fresh_row (fieldsC false c) _ rfl (by omega)) (by have := HBY2.out.size; omega)).mono ?_
          · obtain ⟨f1, f2, f3, f4, f5, f6, f7⟩ := HCF2.out
            simp [fieldsC] at hn
            rcases hn with rfl | rfl | rfl | rfl | rfl | rfl | rfl <;> assumption
          rintro e w5 ⟨rfl, ⟨bv5, ob5⟩, r5⟩
          rw [← outL_append, ← badL_append] at ob5
          have OB5 := Lib.hid ob5
          have R5 := Lib.hid (((RJ.out.trans (OutR.of HBY1.out (by omega))).trans (OutR.of HBY2.out (by omega))).trans r5)
          clear ob5 r5 q0 q1 q2 q3 q4 q5 q6 cE hY
          go_wp2_with fail
          go_roundw
          case rel =>
            refine ⟨j + 1, by go_num, by omega, ⟨bv5, ?_⟩, R5.out⟩
            rw [HNJ.out, ← List.append_assoc]
            exact OB5.out
          case measure => simp [intOf]; omega
        · obtain rfl : j = l.length := by omega
          rw [List.take_length] at obj
          have e : P2 ++ l.flatMap (fieldsC false) = PRE ++ (ts.take (k + 1)).flatMap (tickN false) := by
            rw [HNX.out, ← HP2.out]
            simp [tickN]
          rw [e] at obj
          clear e
          go_wp2_with fail
          go_roundw
          case rel => exact ⟨k + 1, by go_num, by omega, ⟨bvj, obj⟩, RR.out.trans rj⟩
          case measure => simp [intOf]; omega
    · obtain rfl : k = ts.length := by omega
      rw [List.take_length] at ob
      have e : PRE ++ ts.flatMap (tickN false) = tapeN false g ts := by rw [← HPRE.out]; rfl
      rw [e] at ob
      have hne : outL (tapeN false g ts) ≠ [] := outL_ne g.tick _ HTK.out
      have hfl := take_ticks false ts ts.length H8.out ht60
      rw [List.take_length] at hfl
      have hto := outL_length (tapeN false g ts)
      rw [← e, List.length_append] at hto
      rw [e] at hto
      obtain ⟨p, -, kb⟩ := ob.cell
      obtain ⟨lS, cS, -⟩ := id kb
      have R := Lib.hid (R3.out.trans rr.below)
      obtain ⟨OL, hOL⟩ : ∃ x, outL (tapeN false g ts) = x := ⟨_, rfl⟩
      obtain ⟨BD, hBD⟩ : ∃ x, badL (tapeN false g ts) = x := ⟨_, rfl⟩
      have HBY3 := HBY.out
      rw [hOL, hBD] at HBY3 ob
      rw [hBD] at cS
      rw [hOL] at hne hto
      have HB3 := Lib.hid HBY3
      have OBF := Lib.hid ob
      have HNE := Lib.hid hne
      clear ob kb HBY3 rr hOL hBD e hne
      cases BD
      · go_wp2_with fail
        refine (string_any w.heap.size w1.heap.size bv' _ _ wr OBF.out HNE.out).mono ?_
        rintro e w7 ⟨rfl, b7⟩
        have B7 := Lib.hid (R.out.trans b7)
        have hs7 := b7.size
        clear b7
        go_wp2_with fail
        refine (frame_any 84 (bstr OL) (by rw [bstr_size]; omega) w7).mono ?_
        rintro e w8 ⟨rfl, b8⟩
        have B8 := Lib.hid (B7.out.trans (b8.mono (by have := B7.out.size; omega)))
        clear b8
        rw [bstr_list]
        go_wp2_with fail
        go_ret2
        rw [HB3.out, if_neg (by simp), errV_zero]
        exact ⟨rfl, B8.out⟩
      · go_wp2_with fail
        go_ret2
        have h9 : tapeBytesOf false g ts = ([], 1) := HB3.out.trans rfl
        rw [h9]
        exact ⟨rfl, R.out⟩
end Go.Proofs.Ytlfljlhppigejab
namespace Go.Proofs.Ytlfljlhppigejab
open Go.RowKit

theorem reelFault_zero {g : G} {ts : List (List Cm)} (h : reelFault g ts = 0) : faultOf g = 0 ∧ cntFault ts g.tick = 0 := by
  unfold reelFault at h
  split at h
  · next h1 => exact absurd h h1
  · next h1 =>
    split at h
    · next h2 => exact absurd h h2
    · next h2 => exact ⟨by omega, by omega⟩

set_option maxHeartbeats 12800000 in
set_option maxRecDepth 100000 in
theorem reelbytes_any (g : G) (ua ta : Option Addr) (cu ct : Nat) (hnew : g.new = true) (hfree : g.free = []) (hcu : g.us.length ≤ 9223372036854775807) (ts : List (List Cm)) (hlen : ts.length ≤ maxLen) (w : World)
    (hu : URow true w.heap.size w ua g.us) (hnil : ua = none → g.us.length = 0 ∧ cu = 0) (hcap : g.us.length ≤ cu) (ht : PRow w.heap.size w ta ts) (hfit : g.Fits) (hcfit : ∀ l ∈ ts, ∀ c ∈ l, c.Fits) :
    Calls Try.prog 19 #[.agg #[.int .i64 g.tick, .int .i64 g.g0, .int .i64 g.g1, .int .i64 g.next, .slice ua g.us.length cu, .slice ta ts.length ct]] w
      fun e w' => e = .returned (.tuple #[.string (bstr (tapeBytesOf true g ts).1), errV (tapeBytesOf true g ts).2]) ∧ Below w.heap.size w w' := by
  obtain ⟨W, hW⟩ : ∃ W, w.alloc (.cells #[.int .i64 g.tick, .int .i64 g.g0, .int .i64 g.g1, .int .i64 g.next, .slice ua g.us.length cu, .slice ta ts.length ct] 35) = W := ⟨_, rfl⟩
  have hbW : Below w.heap.size w W := by rw [← hW]; exact (Below.refl _ _).alloc (Nat.le_refl _) _
  have fxK : Fx W w.heap.size #[.int .i64 g.tick, .int .i64 g.g0, .int .i64 g.g1, .int .i64 g.next, .slice ua g.us.length cu, .slice ta ts.length ct] 35 := by rw [← hW]; exact Fx.new w _ _
  have hsW := hbW.size
  obtain ⟨lK, cK, -⟩ := id fxK.blk
  have HFREE := Lib.hid hfree
  have HNIL := Lib.hid hnil
  have HU := Lib.hid hu
  have HT := Lib.hid ht
  have HFIT := Lib.hid hfit
  have HCFIT := Lib.hid hcfit
  have HNEW := Lib.hid hnew
  have HW := Lib.hid hbW
  have FXK := Lib.hid fxK
  clear hfree hnil hu ht hfit hcfit hnew hbW fxK
  go_enter Try.func19, Try.ntmps19
  go_upto_region 1 with fail
  try rw [hW]
  clear hW
  go_wp2_with fail
  refine (checkreel_any g ua ta cu ct HNEW.out HFREE.out hcu ts hlen _ ((HU.out.below HW.out).mono hsW) HNIL.out hcap ((HT.out.below HW.out).mono hsW)).mono ?_
  rintro e w1 ⟨rfl, b1⟩
  have HB1 : Hid (Below w.heap.size w w1) := Lib.hid (HW.out.trans (b1.mono hsW))
  have fx1 := FXK.out.call b1
  have hs1 := HB1.out.size
  obtain ⟨l1, c1, -⟩ := id fx1.blk
  have FX1 := Lib.hid fx1
  clear b1 fx1 cK lK
  by_cases hfault : reelFault g ts = 0
  case neg =>
    rw [errV_pos _ hfault]
    have HBY : Hid (tapeBytesOf true g ts = ([], reelFault g ts)) := Lib.hid (by show _ = _; unfold tapeBytesOf; exact if_pos hfault)
    have HFA := Lib.hid hfault
    clear hfault
    go_wp2_with fail
    go_ret2
    rw [HBY.out, errV_pos _ HFA.out]
    exact ⟨rfl, HB1.out⟩
  rw [hfault, errV_zero]
  obtain ⟨hfg, hcnt⟩ := reelFault_zero hfault
  have hg := (right_iff g).1 hfg
  have hfew := hg.few
  have hhead := hg.head
  obtain ⟨hts, h8⟩ := cntFault_zero hcnt
  have HBY : Hid (tapeBytesOf true g ts = if badL (tapeN true g ts) = true then ([], 1) else (frameL 82 (outL (tapeN true g ts)), 0)) := Lib.hid (by show _ = _; unfold tapeBytesOf; exact if_neg (fun h => h hfault))
  have htk : 0 ≤ g.tick := by unfold headBad at hhead; omega
  have ht60 : ts.length ≤ 60 := by omega
  have hlenE := newerN_length g
  have holE := outL_length (newerN g)
  have H8 := Lib.hid h8
  have HTK := Lib.hid htk
  clear hfault hg hhead hfg hcnt hts h8 htk
  obtain ⟨V, hV⟩ : ∃ V, w1.alloc (.cells #[.pointer none, .slice none 0 0, .bool false] 107) = V := ⟨_, rfl⟩
  have hbV : Below w1.heap.size w1 V := by rw [← hV]; exact (Below.refl _ _).alloc (Nat.le_refl _) _
  have ob : OutB V w.heap.size w1.heap.size (.slice none 0 0) (u8V []) false := by rw [← hV]; exact outB_new w1 _ hs1
  have fxV := FX1.out.call hbV
  obtain ⟨lV, cV, -⟩ := id fxV.blk
  have hsV := hbV.size
  have HBV := Lib.hid (HB1.out.trans (hbV.mono hs1))
  have OB := Lib.hid ob
  have FXV := Lib.hid fxV
  clear hbV ob fxV c1
  go_upto_region 5 with fail
  try rw [hV]
  clear hV
  go_wp2_with fail
  refine (outnewer_any g w.heap.size w1.heap.size [] false _ ua cu V OB.out (by simp) (by omega) HFIT.out (HU.out.below HBV.out) (by omega)).mono ?_
  rintro e w2 ⟨rfl, ⟨bv, ob2⟩, r2⟩
  rw [List.nil_append, Bool.false_or] at ob2
  have OB2 := Lib.hid ob2
  have R2 := Lib.hid (HBV.out.trans r2.below)
  have fx2 := FXV.out.out r2 (by omega) (by decide)
  have hs2 := r2.below.size
  obtain ⟨l2, c2, -⟩ := id fx2.blk
  have FX2 := Lib.hid fx2
  have lS2 : w1.heap.size < w2.heap.size := by obtain ⟨p, -, k⟩ := ob2.cell; exact k.lt
  clear ob2 r2 fx2 cV lV
  have hb2 : Below w2.heap.size w2 (w2.alloc (.cells #[.int .i64 ts.length] 3)) := (Below.refl _ _).alloc (Nat.le_refl _) _
  go_wp2_with fail
  refine (outnums_any w.heap.size w1.heap.size _ _ bv [(ts.length : Int)] _ 1 _ (OB2.out.call hb2) (by show (outL (newerN g)).length + 10 * 1 ≤ 1000000; omega) (fun n hn => by simp at hn; rw [hn]; exact ⟨by omega, by omega⟩) (fresh_row [(ts.length : Int)] _ rfl (by omega)) (by have := hb2.size; omega)).mono ?_
  rintro e w3 ⟨rfl, ⟨bv3, ob3⟩, r3⟩
  have R3 := Lib.hid ((R2.out.trans (hb2.mono (by omega))).trans r3.below)
  have fx3 := (FX2.out.call hb2).out r3 (by omega) (by decide)
  obtain ⟨l3, c3, -⟩ := id fx3.blk
  have hs3 := R3.out.size
  have hsr3 := r3.below.size
  have hsb2 := hb2.size
  rw [← outL_append, ← badL_append] at ob3
  obtain ⟨PRE, hPRE⟩ : ∃ l, newerN g ++ [(ts.length : Int)] = l := ⟨_, rfl⟩
  have hpl : PRE.length ≤ 407 := by rw [← hPRE, List.length_append]; show (newerN g).length + 1 ≤ 407; omega
  rw [hPRE] at ob3
  have OB3 := Lib.hid ob3
  have HPRE := Lib.hid hPRE
  clear hb2 ob3 r3 fx3 c2 l2 hPRE
  have hn0 : (0 : Int) ≤ (ts.length : Int) := by omega
  go_wp2_with fail
  go_loopw [7, 26] (fun _ i wr => ∃ k : Nat, i = .int .i64 k ∧ k ≤ ts.length ∧ ((∃ bv', OutB wr w.heap.size w1.heap.size bv' (u8V (outL (PRE ++ (ts.take k).flatMap (tickN true)))) (badL (PRE ++ (ts.take k).flatMap (tickN true)))) ∧ OutR w.heap.size w1.heap.size w3 wr)) (fun _ i _ => (ts.length - intOf i).toNat)
  case atStart => exact ⟨0, rfl, by omega, ⟨bv3, by simpa using OB3.out⟩, OutR.refl _ _ _⟩
  case round =>
    obtain ⟨k, rfl, hk, ⟨bv', ob⟩, rr⟩ := hrel
    have RR := Lib.hid rr
    have hszr := rr.below.size
    by_cases hlt : k < ts.length
    · obtain ⟨l, hl⟩ : ∃ l, ts.getD k [] = l := ⟨_, rfl⟩
      have hlm : l ∈ ts := by rw [← hl]; simp [List.getD, hlt]
      obtain ⟨b, o, la, cl, hta, hbB, hcell, hcr, -⟩ := (HT.out.below (R3.out.trans rr.below)).get k hlt l hl
      subst hta
      have hbr : b < wr.heap.size := by omega
      have hki : (0 : Int) ≤ (k : Int) := by omega
      have hkl : (k : Int) < (ts.length : Int) := by omega
      have hl8 := H8.out l hlm
      have hnx := take_flat (tickN true) [] ts k hlt l hl
      have hfl := take_ticks true ts k H8.out ht60
      have hlo := outL_length (PRE ++ (ts.take k).flatMap (tickN true))
      rw [List.length_append] at hlo
      have HNX := Lib.hid hnx
      have OBK := Lib.hid ob
      have HCR := Lib.hid hcr
      have HLM := Lib.hid hlm
      have hbl : Below wr.heap.size wr (wr.alloc (.cells #[.int .i64 l.length] 3)) := (Below.refl _ _).alloc (Nat.le_refl _) _
      have HBL := Lib.hid hbl
      have hsbl := hbl.size
      clear hl hlm hcr hnx ob rr hbl
      go_wp2_with fail
      refine (outnums_any w.heap.size w1.heap.size _ _ bv' [(l.length : Int)] _ 1 _ (OBK.out.call HBL.out) (by show (outL (PRE ++ (ts.take k).flatMap (tickN true))).length + 10 * 1 ≤ 1000000; omega) (fun n hn => by simp at hn; rw [hn]; exact ⟨by omega, by omega⟩) (fresh_row [(l.length : Int)] _ rfl (by omega)) (by omega)).mono ?_
      rintro e w4 ⟨rfl, ⟨bv4, ob4⟩, r4⟩
      rw [← outL_append, ← badL_append] at ob4
      obtain ⟨P2, hP2⟩ : ∃ x, PRE ++ (ts.take k).flatMap (tickN true) ++ [(l.length : Int)] = x := ⟨_, rfl⟩
      have hp2 : P2.length ≤ 3828 := by rw [← hP2]; simp only [List.length_append, List.length_singleton]; omega
      rw [hP2] at ob4
      have R4 := Lib.hid ((OutR.of HBL.out (by omega)).trans r4)
      have hs4 := R4.out.below.size
      have OB4 := Lib.hid ob4
      have HP2 := Lib.hid hP2
      have hl0 : (0 : Int) ≤ (l.length : Int) := by omega
      clear ob4 r4 hP2 hcell
      go_wp2_with fail
      go_loopw [36] (fun i wx => ∃ j : Nat, i = .int .i64 j ∧ j ≤ l.length ∧ ((∃ bv', OutB wx w.heap.size w1.heap.size bv' (u8V (outL (P2 ++ (l.take j).flatMap (fieldsC true)))) (badL (P2 ++ (l.take j).flatMap (fieldsC true)))) ∧ OutR w.heap.size w1.heap.size wr wx)) (fun i _ => (l.length - intOf i).toNat)
      case atStart => exact ⟨0, rfl, by omega, ⟨bv4, by simpa using OB4.out⟩, R4.out⟩
      case round =>
        obtain ⟨j, rfl, hj, ⟨bvj, obj⟩, rj⟩ := hrel
        have RJ := Lib.hid rj
        have hszj := rj.below.size
        by_cases hjl : j < l.length
        · obtain ⟨c, hc⟩ : ∃ c, l.getD j zeroC = c := ⟨_, rfl⟩
          have hcm : c ∈ l := by rw [← hc]; simp [List.getD, hjl]
          obtain ⟨b2, o2, hla, hbB2, q0, q1, q2, q3, q4, q5⟩ := (HCR.out.below rj.below).get j hjl c hc
          subst hla
          have hbr2 : b2 < wr.heap.size := by omega
          have hkj : (0 : Int) ≤ (j : Int) := by omega
          have hkjl : (j : Int) < (l.length : Int) := by omega
          have hcf2 := HCFIT.out l HLM.out c hcm
          have hnj := take_flat (fieldsC true) zeroC l j hjl c hc
          have hfl2 : ((l.take j).flatMap (fieldsC true)).length ≤ 56 := by
            rw [flat_ints_length (fieldsC true) 6 (fun _ => rfl), List.length_take]
            omega
          have hlo2 := outL_length (P2 ++ (l.take j).flatMap (fieldsC true))
          rw [List.length_append] at hlo2
          have HNJ := Lib.hid hnj
          have OBJ := Lib.hid obj
          have HCF2 := Lib.hid hcf2
          obtain ⟨Y, hY⟩ : ∃ Y, wr.alloc (.cells #[.int .i64 c.player, .int .i64 c.op, .int .i64 c.id, .int .i64 c.kind, .int .i64 c.x, .int .i64 c.y] 129) = Y := ⟨_, rfl⟩
          have hbY : Below wr.heap.size wr Y := by rw [← hY]; exact (Below.refl _ _).alloc (Nat.le_refl _) _
          have kE : Blk Y wr.heap.size #[.int .i64 c.player, .int .i64 c.op, .int .i64 c.id, .int .i64 c.kind, .int .i64 c.x, .int .i64 c.y] := by rw [← hY]; exact Blk.new wr _ _
          have hbY2 : Below Y.heap.size Y (Y.alloc (.cells #[.int .i64 c.player, .int .i64 c.op, .int .i64 c.id, .int .i64 c.kind, .int .i64 c.x, .int .i64 c.y] 3)) := (Below.refl _ _).alloc (Nat.le_refl _) _
          have hsY := hbY.size
          obtain ⟨lE, cE, -⟩ := id kE
          have HBY1 := Lib.hid hbY
          have HBY2 := Lib.hid hbY2
          clear hc hcm hnj obj rj hcf2 hbY hbY2 kE
          go_wp2_with fail
          refine (outnums_any w.heap.size w1.heap.size _ _ bvj (fieldsC true c) _ 6 _ ((OBJ.out.call HBY1.out).call HBY2.out) (by
            have : (fieldsC true c).length = 6 := rfl
            omega) (fun n hn => ?_) (fresh_row (fieldsC true c) _ rfl (by omega)) (by have := HBY2.out.size; omega)).mono ?_
          · obtain ⟨f1, f2, f3, f4, f5, f6, f7⟩ := HCF2.out
            simp [fieldsC] at hn
            rcases hn with rfl | rfl | rfl | rfl | rfl | rfl <;> assumption
          rintro e w5 ⟨rfl, ⟨bv5, ob5⟩, r5⟩
          rw [← outL_append, ← badL_append] at ob5
          have OB5 := Lib.hid ob5
          have R5 := Lib.hid (((RJ.out.trans (OutR.of HBY1.out (by omega))).trans (OutR.of HBY2.out (by omega))).trans r5)
          clear ob5 r5 q0 q1 q2 q3 q4 q5 cE hY
          go_wp2_with fail
          go_roundw
          case rel =>
            refine ⟨j + 1, by go_num, by omega, ⟨bv5, ?_⟩, R5.out⟩
            rw [HNJ.out, ← List.append_assoc]
            exact OB5.out
          case measure => simp [intOf]; omega
        · obtain rfl : j = l.length := by omega
          rw [List.take_length] at obj
          have e : P2 ++ l.flatMap (fieldsC true) = PRE ++ (ts.take (k + 1)).flatMap (tickN true) := by
            rw [HNX.out, ← HP2.out]
            simp [tickN]
          rw [e] at obj
          clear e
          go_wp2_with fail
          go_roundw
          case rel => exact ⟨k + 1, by go_num, by omega, ⟨bvj, obj⟩, RR.out.trans rj⟩
          case measure => simp [intOf]; omega
    · obtain rfl : k = ts.length := by omega
      rw [List.take_length] at ob
      have e : PRE ++ ts.flatMap (tickN true) = tapeN true g ts := by rw [← HPRE.out]; rfl
      rw [e] at ob
      have hne : outL (tapeN true g ts) ≠ [] := outL_ne g.tick _ HTK.out
      have hfl := take_ticks true ts ts.length H8.out ht60
      rw [List.take_length] at hfl
      have hto := outL_length (tapeN true g ts)
      rw [← e, List.length_append] at hto
      rw [e] at hto
      obtain ⟨p, -, kb⟩ := ob.cell
      obtain ⟨lS, cS, -⟩ := id kb
      have R := Lib.hid (R3.out.trans rr.below)
      obtain ⟨OL, hOL⟩ : ∃ x, outL (tapeN true g ts) = x := ⟨_, rfl⟩
      obtain ⟨BD, hBD⟩ : ∃ x, badL (tapeN true g ts) = x := ⟨_, rfl⟩
      have HBY3 := HBY.out
      rw [hOL, hBD] at HBY3 ob
      rw [hBD] at cS
      rw [hOL] at hne hto
      have HB3 := Lib.hid HBY3
      have OBF := Lib.hid ob
      have HNE := Lib.hid hne
      clear ob kb HBY3 rr hOL hBD e hne
      cases BD
      · go_wp2_with fail
        refine (string_any w.heap.size w1.heap.size bv' _ _ wr OBF.out HNE.out).mono ?_
        rintro e w7 ⟨rfl, b7⟩
        have B7 := Lib.hid (R.out.trans b7)
        have hs7 := b7.size
        clear b7
        go_wp2_with fail
        refine (frame_any 82 (bstr OL) (by rw [bstr_size]; omega) w7).mono ?_
        rintro e w8 ⟨rfl, b8⟩
        have B8 := Lib.hid (B7.out.trans (b8.mono (by have := B7.out.size; omega)))
        clear b8
        rw [bstr_list]
        go_wp2_with fail
        go_ret2
        rw [HB3.out, if_neg (by simp), errV_zero]
        exact ⟨rfl, B8.out⟩
      · go_wp2_with fail
        go_ret2
        have h9 : tapeBytesOf true g ts = ([], 1) := HB3.out.trans rfl
        rw [h9]
        exact ⟨rfl, R.out⟩
end Go.Proofs.Ytlfljlhppigejab
