/-
  Plain law for chapter 6: bytes that are read as a state, a tape or a reel are its bytes. No program in sight. Rows that are owned, read as rows: units, commands, orders. The walks of snap.ElderBytes and snap.ElderOf. The walks of snap.NewerBytes and snap.NewerOf.
-/
import Derived.Test.YtlfljlhppigejaaPackIn
import Derived.Test.YtlfljlhppigejaaReelAll
import Derived.Test.YtlfljlhppigejaaInts
import Derived.Test.YtlfljlhppigejaaPackInNE
import Derived.Test.YtlfljlhppigejaaPackOut
import Derived.Test.YtlfljlhppigejaaSnapBody
import Derived.Test.YtlfljlhppigejaaElderCheck
import Derived.Test.YtlfljlhppigejaaNewCheck
namespace Go.Proofs.Ytlfljlhppigejaa

def kindB (n : Bool) : UInt8 := if n then 78 else 69
def kindT (n : Bool) : UInt8 := if n then 82 else 84
/-- A state's bytes, the error's number. -/
def bytesOf (n : Bool) (g : G) : List UInt8 × Nat := if faultOf g ≠ 0 then ([], faultOf g) else (frameL (kindB n) (outL (startN n g)), 0)
/-- What is wrong with bytes that are read as a state. -/
def stateF (n : Bool) (l : List UInt8) : Nat :=
  if endI (startI n (openL (kindB n) l)).2 ≠ 0 then endI (startI n (openL (kindB n) l)).2 else faultOf (startI n (openL (kindB n) l)).1
def tapeFN (n : Bool) (g : G) (ts : List (List Cm)) : Nat := if n then reelFault g ts else tapeFault g ts
def tapeBytesOf (n : Bool) (g : G) (ts : List (List Cm)) : List UInt8 × Nat :=
  if tapeFN n g ts ≠ 0 then ([], tapeFN n g ts) else if badL (tapeN n g ts) = true then ([], 1) else (frameL (kindT n) (outL (tapeN n g ts)), 0)
def tapeF (n : Bool) (l : List UInt8) : Nat :=
  if endI (tapeI n (openL (kindT n) l)).2.2 ≠ 0 then endI (tapeI n (openL (kindT n) l)).2.2 else tapeFN n (tapeI n (openL (kindT n) l)).1 (tapeI n (openL (kindT n) l)).2.1
theorem state_law (n : Bool) (l : List UInt8) (h : stateF n l = 0) : bytesOf n (startI n (openL (kindB n) l)).1 = (l, 0) := by
  unfold stateF at h
  split at h
  · next h1 => exact absurd h h1
  · next h1 =>
    have h2 : endI (startI n (openL (kindB n) l)).2 = 0 := by omega
    unfold bytesOf
    rw [if_neg (by omega), read_frame (kindB n) l _ _ (startI_rd n _ (endI_ok _ h2)) h2]
theorem tape_law (n : Bool) (l : List UInt8) (h : tapeF n l = 0) : tapeBytesOf n (tapeI n (openL (kindT n) l)).1 (tapeI n (openL (kindT n) l)).2.1 = (l, 0) := by
  unfold tapeF at h
  split at h
  · next h1 => exact absurd h h1
  · next h1 =>
    have h2 : endI (tapeI n (openL (kindT n) l)).2.2 = 0 := by omega
    have r := tapeI_rd n _ (endI_ok _ h2)
    unfold tapeBytesOf
    rw [if_neg (by omega), r.nat, if_neg (by simp), read_frame (kindT n) l _ _ r h2]
theorem unitsI_fits (k : Nat) (mk : List Int → U) (hmk : ∀ v : List Int, v.length = k → (∀ n ∈ v, Fits64 n) → (mk v).Fits) (st : St) (m : Nat) (h : (unitsI k mk st m).2.2 = 0) : ∀ u ∈ (unitsI k mk st m).1, u.Fits := by
  induction m with
  | zero => intro u hu; simp [unitsI] at hu
  | succ m ih =>
    intro u hu
    have h1 := numsI_rd' (unitsI k mk st m).2 k h
    rcases List.mem_append.1 (show u ∈ (unitsI k mk st m).1 ++ [mk (numsI (unitsI k mk st m).2 k).1] from hu) with h2 | h2
    · exact ih h1.ok u h2
    · obtain rfl : u = _ := by simpa using h2
      exact hmk _ (numsI_length _ _) h1.fit
theorem fits0 : Fits64 0 := ⟨by omega, by omega⟩
theorem mkE_fits (v : List Int) (h : v.length = 10) (hf : ∀ n ∈ v, Fits64 n) : (mkE v).Fits := by
  match v, h with
  | [a, b, c, d, e, f, g, i, j, k], _ =>
    refine ⟨hf _ ?_, hf _ ?_, hf _ ?_, hf _ ?_, hf _ ?_, hf _ ?_, hf _ ?_, hf _ ?_, hf _ ?_, hf _ ?_, fits0⟩ <;> simp [mkE]
theorem mkN_fits (v : List Int) (h : v.length = 11) (hf : ∀ n ∈ v, Fits64 n) : (mkN v).Fits := by
  match v, h with
  | [a, b, c, d, e, f, g, i, j, k, l], _ =>
    refine ⟨hf _ ?_, hf _ ?_, hf _ ?_, hf _ ?_, hf _ ?_, hf _ ?_, hf _ ?_, hf _ ?_, hf _ ?_, hf _ ?_, hf _ ?_⟩ <;> simp [mkN]
theorem elderI_us (st : St) : ∃ s m, (elderI st).1.us = (unitsI 10 mkE s m).1 ∧ (elderI st).2 = (unitsI 10 mkE s m).2 := by
  unfold elderI
  dsimp only
  exact ⟨_, _, rfl, rfl⟩
theorem newerI_us (st : St) : ∃ s m, (newerI st).1.us = (unitsI 11 mkN s m).1 ∧ (newerI st).2 = (unitsI 11 mkN s m).2 := by
  unfold newerI
  dsimp only
  exact ⟨_, _, rfl, rfl⟩
theorem fits_elder (g : G) (r : ∀ x ∈ elderN g, Fits64 x) (hu : ∀ u ∈ g.us, u.Fits) : g.Fits := by
  unfold elderN at r
  refine ⟨r _ ?_, r _ ?_, r _ ?_, r _ ?_, fun x hx => r x ?_, hu⟩
  all_goals simp [*]
theorem fits_newer (g : G) (hf : g.free = []) (r : ∀ x ∈ newerN g, Fits64 x) (hu : ∀ u ∈ g.us, u.Fits) : g.Fits := by
  unfold newerN at r
  refine ⟨r _ ?_, r _ ?_, r _ ?_, r _ ?_, fun x hx => ?_, hu⟩
  case refine_5 => rw [hf] at hx; simp at hx
  all_goals simp
theorem startI_fits (n : Bool) (st : St) (h : (startI n st).2.2 = 0) : (startI n st).1.Fits := by
  have r := (startI_rd n st h).fit
  cases n
  · refine fits_elder (elderI st).1 r ?_
    have h' : (elderI st).2.2 = 0 := h
    obtain ⟨s, m, e1, e2⟩ := elderI_us st
    rw [e2] at h'
    rw [e1]
    exact unitsI_fits 10 mkE mkE_fits s m h'
  · refine fits_newer (newerI st).1 rfl r ?_
    have h' : (newerI st).2.2 = 0 := h
    obtain ⟨s, m, e1, e2⟩ := newerI_us st
    rw [e2] at h'
    rw [e1]
    exact unitsI_fits 11 mkN mkN_fits s m h'
theorem mkC_fits (n : Bool) (v : List Int) (h : v.length = cmK n) (hf : ∀ x ∈ v, Fits64 x) : (mkC v).Fits := by
  cases n
  · match v, h with
    | [a, b, c, d, e, f, g], _ => refine ⟨hf _ ?_, hf _ ?_, hf _ ?_, hf _ ?_, hf _ ?_, hf _ ?_, hf _ ?_⟩ <;> simp [mkC]
  · match v, h with
    | [a, b, c, d, e, f], _ => refine ⟨hf _ ?_, hf _ ?_, hf _ ?_, hf _ ?_, hf _ ?_, hf _ ?_, fits0⟩ <;> simp [mkC]
theorem cmsI_fits (n : Bool) (st : St) (m : Nat) (h : (cmsI n st m).2.2 = 0) : ∀ c ∈ (cmsI n st m).1, c.Fits := by
  induction m with
  | zero => intro u hu; simp [cmsI] at hu
  | succ m ih =>
    intro u hu
    have h1 := numsI_rd' (cmsI n st m).2 (cmK n) h
    rcases List.mem_append.1 (show u ∈ (cmsI n st m).1 ++ [mkC (numsI (cmsI n st m).2 (cmK n)).1] from hu) with h2 | h2
    · exact ih h1.ok u h2
    · obtain rfl : u = _ := by simpa using h2
      exact mkC_fits n _ (numsI_length _ _) h1.fit
theorem ticksI_fits (n : Bool) (st : St) (m : Nat) (h : (ticksI n st m).2.2 = 0) : ∀ l ∈ (ticksI n st m).1, ∀ c ∈ l, c.Fits := by
  induction m with
  | zero => intro u hu; simp [ticksI] at hu
  | succ m ih =>
    intro u hu
    have h1 : (tickI n (ticksI n st m).2).2.2 = 0 := h
    rcases List.mem_append.1 (show u ∈ (ticksI n st m).1 ++ [(tickI n (ticksI n st m).2).1] from hu) with h2 | h2
    · exact ih (tickI_rd n _ h1).ok u h2
    · obtain rfl : u = _ := by simpa using h2
      exact cmsI_fits n _ _ h1
theorem tickI_few (n : Bool) (st : St) : (tickI n st).1.length ≤ 8 := by
  unfold tickI
  rw [cmsI_length]
  have := manyI_range st 8 (by omega)
  omega
theorem ticksI_few (n : Bool) (st : St) (m : Nat) : ∀ l ∈ (ticksI n st m).1, l.length ≤ 8 := by
  induction m with
  | zero => intro u hu; simp [ticksI] at hu
  | succ m ih =>
    intro u hu
    rcases List.mem_append.1 (show u ∈ (ticksI n st m).1 ++ [(tickI n (ticksI n st m).2).1] from hu) with h2 | h2
    · exact ih u h2
    · obtain rfl : u = _ := by simpa using h2
      exact tickI_few n _
theorem startI_new (n : Bool) (st : St) : (startI n st).1.new = n := by cases n <;> rfl
theorem newerI_free (st : St) : (newerI st).1.free = [] := rfl
end Go.Proofs.Ytlfljlhppigejaa
namespace Go.Proofs.Ytlfljlhppigejaa
open Go.RowKit

theorem flat_get {α : Type} (f : α → List Value) (s : Nat) (d : α) (hf : ∀ x, (f x).length = s) : ∀ (l : List α) (i j : Nat), i < l.length → j < s → (l.flatMap f)[i * s + j]? = (f (l.getD i d))[j]? := by
  intro l
  induction l with
  | nil => intro i j h; simp at h
  | cons x l ih =>
    intro i j hi hj
    rw [List.flatMap_cons]
    cases i with
    | zero =>
      rw [Nat.zero_mul, Nat.zero_add, List.getElem?_append_left (by rw [hf]; exact hj)]
      rfl
    | succ i =>
      rw [List.getElem?_append_right (by rw [hf, Nat.succ_mul]; omega), hf, Nat.succ_mul, show i * s + s + j - s = i * s + j from by omega, ih i j (by simpa using hi) hj]
      rfl
theorem flat_length {α : Type} (f : α → List Value) (s : Nat) (hf : ∀ x, (f x).length = s) (l : List α) : (l.flatMap f).length = l.length * s := by
  induction l with
  | nil => simp
  | cons x l ih => rw [List.flatMap_cons, List.length_append, ih, hf, List.length_cons, Nat.succ_mul]; omega
theorem row_of_own {α : Type} (f : α → List Value) (s : Nat) (d : α) (hf : ∀ x, (f x).length = s) {w : World} {B n : Nat} {e : TypeId} {v : Value} {l : List α} (hn : l.length = n) (h : w.ownsRow B e s v n (l.flatMap f)) :
    ∃ a c, v = .slice a n c ∧ n ≤ c ∧ n ≤ maxLen ∧ (a = none → n = 0 ∧ c = 0) ∧ ∀ i, i < n → ∃ b, a = some ⟨b, 0, none⟩ ∧ b < w.heap.size ∧ ∀ j, j < s → w.cell? ⟨b, 0 + i * s + j, none⟩ = (f (l.getD i d))[j]? := by
  subst hn
  rcases h.2 with ⟨h1, h2⟩ | ⟨g, cap, cur, h1, -, -, h4, h5, -⟩
  · exact ⟨none, 0, by rw [h1, h2], by omega, by rw [h2]; simp [maxLen], fun _ => ⟨h2, rfl⟩, fun i hi => by omega⟩
  · have hown := h
    subst h1
    refine ⟨_, cap, rfl, h4, by omega, fun e => (by cases e), fun i hi => ⟨g, rfl, (World.ownsRow.lt hown g rfl).2, fun j hj => ?_⟩⟩
    have hlt : i * s + j < l.length * s := by
      have := Nat.mul_le_mul_right s (show i + 1 ≤ l.length from hi)
      rw [Nat.succ_mul] at this
      omega
    rw [Nat.zero_add, World.ownsRow.cellAt hown (i * s + j) hlt]
    exact flat_get f s d hf l i j hi hj
theorem own_max {w : World} {B s n : Nat} {e : TypeId} {v : Value} {xs : List Value} (h : w.ownsRow B e s v n xs) : n ≤ maxLen := by
  rcases h.2 with ⟨-, h2⟩ | ⟨g, cap, cur, -, -, -, h4, h5, -⟩
  · rw [h2]; simp [maxLen]
  · omega
/-- Of what type the block of a row is that is owned. -/
theorem own_type {w : World} {B s n : Nat} {e : TypeId} {v : Value} {xs : List Value} (h : w.ownsRow B e s v n xs) : ∀ b, v.ownBlock = some b → ∃ c fr, w.heap[b]? = some (.cells c e fr) := by
  intro b hb
  rcases h.2 with ⟨h1, -⟩ | ⟨g, cap, cur, h1, -, hg, -⟩
  · rw [h1] at hb; cases hb
  · rw [h1] at hb
    have : g = b := Option.some.inj hb
    exact ⟨cur, _, by rw [← this]; exact hg⟩
theorem own_apart {w : World} {B B' s s' n n' : Nat} {e e' : TypeId} {v v' : Value} {xs xs' : List Value} (h : w.ownsRow B e s v n xs) (h' : w.ownsRow B' e' s' v' n' xs') (hne : e ≠ e') : ∀ b, v.ownBlock = some b → v'.ownBlock ≠ some b := by
  intro b hb hb'
  obtain ⟨c, fr, h1⟩ := own_type h b hb
  obtain ⟨c', fr', h2⟩ := own_type h' b hb'
  rw [h1] at h2
  injection h2 with h3
  injection h3 with h4 h5 h6
  exact hne h5

theorem newer_row {w : World} {B n : Nat} {v : Value} {us : List U} (hn : us.length = n) (h : w.ownsRow B 130 11 v n (cellsAllN us)) : ∃ a c, v = .slice a n c ∧ URow true w.heap.size w a us ∧ (a = none → n = 0 ∧ c = 0) ∧ n ≤ c ∧ n ≤ maxLen := by
  obtain ⟨a, c, h1, h2, h3, h4, h5⟩ := row_of_own cellsN 11 zeroU cellsN_length hn h
  refine ⟨a, c, h1, fun i hi => ?_, h4, h2, h3⟩
  obtain ⟨b, ha, hb, hc⟩ := h5 i (by omega)
  exact ⟨b, 0, ha, hb, hc⟩
theorem elder_row {w : World} {B n : Nat} {v : Value} {us : List U} (hn : us.length = n) (h : w.ownsRow B 179 10 v n (cellsAll us)) : ∃ a c, v = .slice a n c ∧ URow false w.heap.size w a us ∧ n ≤ maxLen := by
  obtain ⟨a, c, h1, h2, h3, h4, h5⟩ := row_of_own cellsE 10 zeroU (fun _ => rfl) hn h
  refine ⟨a, c, h1, fun i hi => ?_, h3⟩
  obtain ⟨b, ha, hb, hc⟩ := h5 i (by omega)
  exact ⟨b, 0, ha, hb, hc⟩
def cellsAllC (cs : List Cm) : List Value := cs.flatMap cellsC
def cellsAllO (cs : List Cm) : List Value := cs.flatMap cellsO
theorem cmd_row {w : World} {B n : Nat} {v : Value} {cs : List Cm} (hn : cs.length = n) (h : w.ownsRow B 99 7 v n (cellsAllC cs)) : ∃ a c, v = .slice a n c ∧ CRow w.heap.size w a cs ∧ n ≤ maxLen := by
  obtain ⟨a, c, h1, h2, h3, h4, h5⟩ := row_of_own cellsC 7 zeroC (fun _ => rfl) hn h
  refine ⟨a, c, h1, fun i hi => ?_, h3⟩
  obtain ⟨b, ha, hb, hc⟩ := h5 i (by omega)
  exact ⟨b, 0, ha, hb, hc⟩
theorem order_row {w : World} {B n : Nat} {v : Value} {cs : List Cm} (hn : cs.length = n) (h : w.ownsRow B 73 6 v n (cellsAllO cs)) : ∃ a c, v = .slice a n c ∧ ORow w.heap.size w a cs ∧ n ≤ maxLen := by
  obtain ⟨a, c, h1, h2, h3, h4, h5⟩ := row_of_own cellsO 6 zeroC (fun _ => rfl) hn h
  refine ⟨a, c, h1, fun i hi => ?_, h3⟩
  obtain ⟨b, ha, hb, hc⟩ := h5 i (by omega)
  exact ⟨b, 0, ha, hb, hc⟩
end Go.Proofs.Ytlfljlhppigejaa
namespace Go.Proofs.Ytlfljlhppigejaa
open Go.RowKit

theorem ret_cell2 {P : Program} {fn : Func} {s t : Tmp} {ty : TypeId} (h : fn.results = #[.cell s ty, .tmp t]) {tmps : Array Value} {W : World} {p : Nat} {c : Array Value} {d : TypeDesc} {v1 : Value} (hs : tmps.getD s undef = .pointer (some ⟨p, 0, none⟩)) (h1 : tmps.getD t undef = v1)
    (hk : Blk W p c) (hu : P.underlying ty = some d) (hd : d.isRow = true) (hi : (P.info? ty).map (·.size) = some c.size) : (results fn tmps).run P W = .ok (.tuple #[.agg c, v1]) W := by
  have hr : W.rangeAt p 0 c.toList := fun j x hx => by
    rw [Nat.zero_add, hk.cell j]
    simpa using hx
  have hp' : tmps[s]?.getD undef = .pointer (some ⟨p, 0, none⟩) := by simpa using hs
  have h1' : tmps[t]?.getD undef = v1 := by simpa using h1
  have h3 := run_loadVar_mid W p 0 ty c.toList d hr hu hd (by simpa using hi)
  simp [results, h, hp', h1', asAddr, h3, Result.andThen]
theorem outB_new (w : World) (B : Nat) (h : B ≤ w.heap.size) : OutB (w.alloc (.cells #[.pointer none, .slice none 0 0, .bool false] 194)) B w.heap.size (.slice none 0 0) (u8V []) false :=
  ⟨h, ⟨_, Or.inl rfl, heap_alloc_new w _⟩, World.ownsRow_nil _ _ _ _, by intro e; cases e⟩
theorem numL_ne (n : Nat) : numL n ≠ [] := by
  unfold numL
  rw [numF]
  split <;> simp
theorem outL_ne (n : Int) (l : List Int) (h : 0 ≤ n) : outL (n :: l) ≠ [] := by
  unfold outL
  rw [List.flatMap_cons]
  unfold numB
  rw [if_neg (by omega)]
  intro e
  exact numL_ne _ (List.append_eq_nil_iff.1 e).1
theorem flat_ints_length {α : Type} (f : α → List Int) (s : Nat) (hf : ∀ x, (f x).length = s) (l : List α) : (l.flatMap f).length = l.length * s := by
  induction l with
  | nil => simp
  | cons x l ih => rw [List.flatMap_cons, List.length_append, ih, hf, List.length_cons, Nat.succ_mul]; omega
theorem elderN_length (g : G) : (elderN g).length = 6 + g.free.length + g.us.length * 10 := by
  unfold elderN
  rw [List.length_append, flat_ints_length fieldsE 10 (fun _ => rfl)]
  simp
  omega

theorem ints_row {w : World} {B n c : Nat} {a : Option Addr} {l : List Int} (hn : l.length = n) (h : w.ownsRow B 3 1 (.slice a n c) n (intCells l)) : Row w.heap.size w a n (fun k => .int .i64 (l.getD k 0)) := by
  obtain ⟨a', c', e, h'⟩ := ints_at hn h
  cases e
  exact h'
theorem ents_row {w : World} {B n c : Nat} {a : Option Addr} {us : List U} (hn : us.length = n) (h : w.ownsRow B 179 10 (.slice a n c) n (cellsAll us)) : URow false w.heap.size w a us := by
  obtain ⟨a', c', e, h', -⟩ := elder_row hn h
  cases e
  exact h'
set_option maxHeartbeats 3200000 in
set_option maxRecDepth 100000 in
theorem elderbytes_any (g : G) (fa ua : Option Addr) (cf cu : Nat) (hnew : g.new = false) (hcf : g.free.length ≤ 9223372036854775807) (hcu : g.us.length ≤ 9223372036854775807) (w : World)
    (hf : Row w.heap.size w fa g.free.length (fun k => .int .i64 (g.free.getD k 0))) (hu : URow false w.heap.size w ua g.us) (hfit : g.Fits) :
    Calls Try.prog 65 #[.agg #[.int .i64 g.tick, .int .i64 g.g0, .int .i64 g.g1, .int .i64 g.next, .slice fa g.free.length cf, .slice ua g.us.length cu]] w
      fun e w' => e = .returned (.tuple #[.string (bstr (bytesOf false g).1), errV (bytesOf false g).2]) ∧ Below w.heap.size w w' := by
  obtain ⟨W, hW⟩ : ∃ W, w.alloc (.cells #[.int .i64 g.tick, .int .i64 g.g0, .int .i64 g.g1, .int .i64 g.next, .slice fa g.free.length cf, .slice ua g.us.length cu] 90) = W := ⟨_, rfl⟩
  have hbW : Below w.heap.size w W := by rw [← hW]; exact (Below.refl _ _).alloc (Nat.le_refl _) _
  have kK : Blk W w.heap.size #[.int .i64 g.tick, .int .i64 g.g0, .int .i64 g.g1, .int .i64 g.next, .slice fa g.free.length cf, .slice ua g.us.length cu] := by rw [← hW]; exact Blk.new w _ _
  have hsW := hbW.size
  obtain ⟨lK, cK, -⟩ := id kK
  have HF := Lib.hid hf
  have HU := Lib.hid hu
  have HFIT := Lib.hid hfit
  have HNEW := Lib.hid hnew
  have HW := Lib.hid hbW
  have KK := Lib.hid kK
  clear hf hu hfit hnew hbW kK
  go_enter Try.func65, Try.ntmps65
  go_upto_region 1 with fail
  try rw [hW]
  clear hW
  go_wp2_with fail
  refine (check_any g fa ua g.free.length cf g.us.length cu HNEW.out rfl rfl hcf hcu _ ((HF.out.below HW.out).mono hsW) ((HU.out.below HW.out).mono hsW) HFIT.out.2.2.2.2.1).mono ?_
  rintro e w1 ⟨rfl, b1⟩
  have HB1 : Hid (Below w.heap.size w w1) := Lib.hid (HW.out.trans (b1.mono hsW))
  have k1 := KK.out.call b1
  have hs1 := HB1.out.size
  obtain ⟨l1, c1, -⟩ := id k1
  have K1 := Lib.hid k1
  clear b1 k1 cK lK
  by_cases hfault : faultOf g = 0
  case neg =>
    rw [errV_pos _ hfault]
    have HBY : Hid (bytesOf false g = ([], faultOf g)) := Lib.hid (by show _ = _; unfold bytesOf; rw [if_pos hfault])
    have HFA := Lib.hid hfault
    clear hfault
    go_wp2_with fail
    go_ret2
    rw [HBY.out, errV_pos _ HFA.out]
    exact ⟨rfl, HB1.out⟩
  rw [hfault, errV_zero]
  have hg := (right_iff g).1 hfault
  have hfew := hg.few
  have hunf := hg.unfree
  have hhead := hg.head
  have HBY : Hid (bytesOf false g = (frameL 69 (outL (elderN g)), 0)) := Lib.hid (by show _ = _; unfold bytesOf; rw [if_neg (by omega)]; rfl)
  have ht : 0 ≤ g.tick := by unfold headBad at hhead; omega
  have hlen := elderN_length g
  have hol := outL_length (elderN g)
  have hne : outL (elderN g) ≠ [] := outL_ne g.tick _ ht
  clear hfault hg hhead
  obtain ⟨V, hV⟩ : ∃ V, w1.alloc (.cells #[.pointer none, .slice none 0 0, .bool false] 194) = V := ⟨_, rfl⟩
  have hbV : Below w1.heap.size w1 V := by rw [← hV]; exact (Below.refl _ _).alloc (Nat.le_refl _) _
  have ob : OutB V w.heap.size w1.heap.size (.slice none 0 0) (u8V []) false := by rw [← hV]; exact outB_new w1 _ hs1
  have kV := K1.out.call hbV
  obtain ⟨lV, cV, -⟩ := id kV
  have hsV := hbV.size
  have HBV := Lib.hid hbV
  have OB := Lib.hid ob
  have HNE := Lib.hid hne
  clear hbV ob kV hne c1 l1
  go_upto_region 5 with fail
  try rw [hV]
  clear hV
  go_wp2_with fail
  refine (outelder_any g w.heap.size w1.heap.size [] false _ fa ua cf cu V OB.out (by simp) (by omega) (by omega) HFIT.out (HF.out.below (HB1.out.trans (HBV.out.mono hs1))) (HU.out.below (HB1.out.trans (HBV.out.mono hs1))) (by omega)).mono ?_
  rintro e w2 ⟨rfl, ⟨bv, ob2⟩, r2⟩
  rw [List.nil_append] at ob2
  have OB2 := Lib.hid ob2
  have R2 := Lib.hid r2
  have hs2 := r2.below.size
  have l2 : w1.heap.size < w2.heap.size := by obtain ⟨p, -, k⟩ := ob2.cell; exact k.lt
  clear ob2 r2 cV lV
  go_wp2_with fail
  refine (string_any w.heap.size w1.heap.size bv _ _ w2 OB2.out HNE.out).mono ?_
  rintro e w3 ⟨rfl, b3⟩
  have B3 := Lib.hid b3
  have hs3 := b3.size
  clear b3
  go_wp2_with fail
  refine (frame_any 69 (bstr (outL (elderN g))) (by rw [bstr_size]; omega) w3).mono ?_
  rintro e w4 ⟨rfl, b4⟩
  have B4 := Lib.hid b4
  clear b4
  rw [bstr_list]
  go_wp2_with fail
  go_ret2
  rw [HBY.out, errV_zero]
  exact ⟨rfl, ((((HB1.out.trans (HBV.out.mono hs1)).trans R2.out.below).trans B3.out).trans (B4.out.mono (by omega)))⟩

/-- What ElderOf hands back. -/
def ElderOfEnd (l : List UInt8) (w : World) (e : Ending) (w' : World) : Prop :=
  (stateF false l ≠ 0 → e = .returned (.tuple #[.agg #[.int .i64 0, .int .i64 0, .int .i64 0, .int .i64 0, .slice none 0 0, .slice none 0 0], errV (stateF false l)])) ∧
  (stateF false l = 0 → ∃ fa cf ua cu, e = .returned (.tuple #[.agg #[.int .i64 (elderI (openL 69 l)).1.tick, .int .i64 (elderI (openL 69 l)).1.g0, .int .i64 (elderI (openL 69 l)).1.g1, .int .i64 (elderI (openL 69 l)).1.next, .slice fa (elderI (openL 69 l)).1.free.length cf, .slice ua (elderI (openL 69 l)).1.us.length cu], .nilIface]) ∧
    Row w'.heap.size w' fa (elderI (openL 69 l)).1.free.length (fun k => .int .i64 ((elderI (openL 69 l)).1.free.getD k 0)) ∧ URow false w'.heap.size w' ua (elderI (openL 69 l)).1.us) ∧ Below w.heap.size w w'

set_option maxHeartbeats 6400000 in
set_option maxRecDepth 100000 in
theorem elderof_any (s : ByteArray) (hs : s.size ≤ 900000) (w : World) :
    Calls Try.prog 66 #[.string s] w (ElderOfEnd s.data.toList w) := by
  obtain ⟨l, hl⟩ : ∃ l, s.data.toList = l := ⟨_, rfl⟩
  have hll : l.length ≤ 900000 := by rw [← hl, ← Lib.size_eq]; exact hs
  have HO := Lib.hid (body_any 69 s hs)
  rw [hl] at HO ⊢
  clear hl
  obtain ⟨W, hW⟩ : ∃ W, w.alloc (.cells #[.int .i64 0, .int .i64 0, .int .i64 0, .int .i64 0, .slice none 0 0, .slice none 0 0] 90) = W := ⟨_, rfl⟩
  have hbW : Below w.heap.size w W := by rw [← hW]; exact (Below.refl _ _).alloc (Nat.le_refl _) _
  have kR : Blk W w.heap.size #[.int .i64 0, .int .i64 0, .int .i64 0, .int .i64 0, .slice none 0 0, .slice none 0 0] := by rw [← hW]; exact Blk.new w _ _
  have hsW := hbW.size
  have lR := kR.lt
  have HW := Lib.hid hbW
  have KR := Lib.hid kR
  clear hbW kR
  go_enter Try.func66, Try.ntmps66
  go_upto_region 1 with fail
  try rw [hW]
  clear hW
  go_wp2_with fail
  refine (HO.out W).mono ?_
  rintro e w1 ⟨S, rfl, hS, bS, b1⟩
  obtain ⟨st, hst⟩ : ∃ st, openL 69 l = st := ⟨_, rfl⟩
  have hstl : st.1.length ≤ 1000000 := by
    rw [← hst]
    unfold openL
    repeat' split
    all_goals (simp; try omega)
  rw [hst] at bS
  have HST := Lib.hid hst
  have BS := Lib.hid bS
  have K1 := Lib.hid (KR.out.call b1)
  have HB1 : Hid (Below w.heap.size w w1) := Lib.hid (HW.out.trans (b1.mono hsW))
  have hs1 := b1.size
  have lS1 := bS.lt
  clear bS b1 hst
  go_wp2_with fail
  refine (elder_in st S w1 BS.out hstl).mono ?_
  rintro e w2 ⟨fv, ev, rfl, bS2, kp2, of2, oe2⟩
  obtain ⟨r, hr⟩ : ∃ r, elderI st = r := ⟨_, rfl⟩
  have HR := Lib.hid hr
  rw [hr] at bS2 of2 oe2 ⊢
  have hnew : r.1.new = false := by rw [← hr]; rfl
  obtain ⟨fa, cf, rfl⟩ := own_slice of2
  obtain ⟨ua, cu, rfl⟩ := own_slice oe2
  have hfl := own_max of2
  have hul := own_max oe2
  have lofB : ∀ b, (Value.slice fa r.1.free.length cf).ownBlock = some b → w1.heap.size ≤ b ∧ b < w2.heap.size := fun b hb => World.ownsRow.lt of2 b hb
  have loeB : ∀ b, (Value.slice ua r.1.us.length cu).ownBlock = some b → w1.heap.size ≤ b ∧ b < w2.heap.size := fun b hb => World.ownsRow.lt oe2 b hb
  have OF2 := Lib.hid of2
  have OE2 := Lib.hid oe2
  have LOF := Lib.hid lofB
  have LOE := Lib.hid loeB
  have HNEW := Lib.hid hnew
  have HB2 : Hid (Below w.heap.size w w2) := Lib.hid (HB1.out.trans (kp2.below (fun b hb => by omega) (by omega)))
  have hs2 := kp2.size
  have BS2 := Lib.hid bS2
  have K2 := Lib.hid (K1.out.kp kp2 (by omega))
  have hm : maxLen ≤ 9223372036854775807 := by unfold maxLen; decide
  clear hr kp2 of2 oe2 bS2 lofB loeB hnew
  obtain ⟨V, hV⟩ : ∃ V, w2.alloc (.cells #[.int .i64 r.1.tick, .int .i64 r.1.g0, .int .i64 r.1.g1, .int .i64 r.1.next, .slice fa r.1.free.length cf, .slice ua r.1.us.length cu] 90) = V := ⟨_, rfl⟩
  have hbV : Below w2.heap.size w2 V := by rw [← hV]; exact (Below.refl _ _).alloc (Nat.le_refl _) _
  have kV : Blk V w2.heap.size #[.int .i64 r.1.tick, .int .i64 r.1.g0, .int .i64 r.1.g1, .int .i64 r.1.next, .slice fa r.1.free.length cf, .slice ua r.1.us.length cu] := by rw [← hV]; exact Blk.new w2 _ _
  have hsV := hbV.size
  have lV := kV.lt
  have KV := Lib.hid kV
  have KRV := Lib.hid (K2.out.call hbV)
  have BSV := Lib.hid (BS2.out.call hbV)
  have HBV := Lib.hid (HB2.out.trans (hbV.mono (by omega)))
  have OFV := Lib.hid (own_kp OF2.out (kp_of hbV (fun _ => False)) (fun _ _ x => x))
  have OEV := Lib.hid (own_kp OE2.out (kp_of hbV (fun _ => False)) (fun _ _ x => x))
  clear kV hbV
  go_upto_region 3 with fail
  try rw [hV]
  clear hV
  go_wp2_with fail
  refine (end_in r.2 S V BSV.out).mono ?_
  rintro e w3 ⟨rfl, rfl⟩
  obtain ⟨f, hf⟩ : ∃ f, endI r.2 = f := ⟨_, rfl⟩
  rw [hf]
  have HF := Lib.hid hf
  have kr3 := KRV.out
  obtain ⟨lR3, cR3, fR3⟩ := id kr3
  clear hf kr3
  by_cases h0 : f = 0
  case neg =>
    rw [errV_pos _ h0]
    have HFA : Hid (stateF false l = f ∧ f ≠ 0) := Lib.hid ⟨by
      have e : endI (startI false (openL (kindB false) l)).2 = f := by
        show endI (elderI (openL 69 l)).2 = f
        rw [HST.out, HR.out, HF.out]
      unfold stateF
      rw [e, if_pos h0], h0⟩
    clear h0
    go_wp2_with fail
    refine bodyPost_ret (v := .tuple #[.agg #[.int .i64 0, .int .i64 0, .int .i64 0, .int .i64 0, .slice none 0 0, .slice none 0 0], .iface 148 (.int .i64 f)]) (ret_cell2 Try.results66 rfl rfl (KRV.out.store6 rfl (.int .i64 0) (.int .i64 0) (.int .i64 0) (.int .i64 0) (.slice none 0 0) (.slice none 0 0)) Try.underlying90 rfl infoElder) rfl ?_
    refine ⟨fun _ => by rw [HFA.out.1, errV_pos _ HFA.out.2], fun h => absurd (HFA.out.1.symm.trans h) HFA.out.2, ?_⟩
    iterate 6 (refine Below.setCell ?_ (by simp) _)
    exact HBV.out
  subst h0
  rw [errV_zero]
  have hfits : r.1.Fits := by
    have h := startI_fits false st (by show (elderI st).2.2 = 0; rw [HR.out]; exact endI_ok _ HF.out)
    have e : (startI false st).1 = r.1 := by show (elderI st).1 = r.1; rw [HR.out]
    rwa [e] at h
  have HFITS := Lib.hid hfits
  obtain ⟨lV2, cV2, -⟩ := id KV.out
  clear hfits
  go_wp2_with fail
  refine (check_any r.1 fa ua r.1.free.length cf r.1.us.length cu HNEW.out rfl rfl (by omega) (by omega) _ (ints_row rfl OFV.out) (ents_row rfl OEV.out) HFITS.out.2.2.2.2.1).mono ?_
  rintro e w4 ⟨rfl, b4⟩
  obtain ⟨f, hf⟩ : ∃ f, faultOf r.1 = f := ⟨_, rfl⟩
  rw [hf]
  have HSF : Hid (stateF false l = f) := Lib.hid (by
    have e : endI (startI false (openL (kindB false) l)).2 = 0 := by
      show endI (elderI (openL 69 l)).2 = 0
      rw [HST.out, HR.out, HF.out]
    have e2 : (startI false (openL (kindB false) l)).1 = r.1 := by
      show (elderI (openL 69 l)).1 = r.1
      rw [HST.out, HR.out]
    show stateF false l = f
    unfold stateF
    rw [e, e2, if_neg (by simp), hf])
  have HB4 := Lib.hid (HBV.out.trans (b4.mono (by omega)))
  have k4 := KRV.out.call b4
  obtain ⟨lR4, cR4, fR4⟩ := id k4
  have kv4 := KV.out.call b4
  obtain ⟨lV4, cV4, -⟩ := id kv4
  have K4 := Lib.hid k4
  have hs4 := b4.size
  have OF4 := Lib.hid (own_kp OFV.out (kp_of b4 (fun _ => False)) (fun _ _ x => x))
  have OE4 := Lib.hid (own_kp OEV.out (kp_of b4 (fun _ => False)) (fun _ _ x => x))
  clear b4 k4 kv4 hf cV2 cR3 fR3 lV2 lR3
  by_cases h0 : f = 0
  case neg =>
    rw [errV_pos _ h0]
    have HFA := Lib.hid h0
    clear h0
    go_wp2_with fail
    refine bodyPost_ret (v := .tuple #[.agg #[.int .i64 0, .int .i64 0, .int .i64 0, .int .i64 0, .slice none 0 0, .slice none 0 0], .iface 148 (.int .i64 f)]) (ret_cell2 Try.results66 rfl rfl (K4.out.store6 rfl (.int .i64 0) (.int .i64 0) (.int .i64 0) (.int .i64 0) (.slice none 0 0) (.slice none 0 0)) Try.underlying90 rfl infoElder) rfl ?_
    refine ⟨fun _ => by rw [HSF.out, errV_pos _ HFA.out], fun h => absurd (HSF.out.symm.trans h) HFA.out, ?_⟩
    iterate 6 (refine Below.setCell ?_ (by simp) _)
    exact HB4.out
  subst h0
  rw [errV_zero]
  go_wp2_with fail
  refine bodyPost_ret (v := .tuple #[.agg #[.int .i64 r.1.tick, .int .i64 r.1.g0, .int .i64 r.1.g1, .int .i64 r.1.next, .slice fa r.1.free.length cf, .slice ua r.1.us.length cu], .nilIface]) (ret_cell2 Try.results66 rfl rfl (K4.out.store6 rfl (.int .i64 r.1.tick) (.int .i64 r.1.g0) (.int .i64 r.1.g1) (.int .i64 r.1.next) (.slice fa r.1.free.length cf) (.slice ua r.1.us.length cu)) Try.underlying90 rfl infoElder) rfl ?_
  have XK := (((((((Kp.refl (fun b => b = w.heap.size) w4).andset ⟨w.heap.size, 0, none⟩ (.int .i64 r.1.tick) rfl).andset ⟨w.heap.size, 1, none⟩ (.int .i64 r.1.g0) rfl).andset ⟨w.heap.size, 2, none⟩ (.int .i64 r.1.g1) rfl).andset ⟨w.heap.size, 3, none⟩ (.int .i64 r.1.next) rfl).andset ⟨w.heap.size, 4, none⟩ (.slice fa r.1.free.length cf) rfl).andset ⟨w.heap.size, 5, none⟩ (.slice ua r.1.us.length cu) rfl)
  unfold ElderOfEnd
  rw [HST.out, HR.out]
  refine ⟨fun h => absurd HSF.out h, fun _ => ⟨fa, cf, ua, cu, rfl, ints_row rfl (own_kp OF4.out XK (fun b hb e => ?_)), ents_row rfl (own_kp OE4.out XK (fun b hb e => ?_))⟩, ?_⟩
  · have := (LOF.out b hb).1; omega
  · have := (LOE.out b hb).1; omega
  · iterate 6 (refine Below.setCell ?_ (by simp) _)
    exact HB4.out
end Go.Proofs.Ytlfljlhppigejaa
namespace Go.Proofs.Ytlfljlhppigejaa
open Go.RowKit

theorem newerN_length (g : G) : (newerN g).length = 5 + g.us.length * 11 := by
  unfold newerN
  rw [List.length_append, flat_ints_length fieldsN 11 (fun _ => rfl)]
  simp
theorem units_row {w : World} {B n c : Nat} {a : Option Addr} {us : List U} (hn : us.length = n) (h : w.ownsRow B 130 11 (.slice a n c) n (cellsAllN us)) : URow true w.heap.size w a us ∧ (a = none → n = 0 ∧ c = 0) ∧ n ≤ c := by
  obtain ⟨a', c', e, h1, h2, h3, -⟩ := newer_row hn h
  cases e
  exact ⟨h1, h2, h3⟩
set_option maxHeartbeats 3200000 in
set_option maxRecDepth 100000 in
theorem newerbytes_any (g : G) (ua : Option Addr) (cu : Nat) (hnew : g.new = true) (hfree : g.free = []) (hcu : g.us.length ≤ 9223372036854775807) (w : World)
    (hu : URow true w.heap.size w ua g.us) (hnil : ua = none → g.us.length = 0 ∧ cu = 0) (hcap : g.us.length ≤ cu) (hfit : g.Fits) :
    Calls Try.prog 68 #[.agg #[.int .i64 g.tick, .int .i64 g.g0, .int .i64 g.g1, .int .i64 g.next, .slice ua g.us.length cu]] w
      fun e w' => e = .returned (.tuple #[.string (bstr (bytesOf true g).1), errV (bytesOf true g).2]) ∧ Below w.heap.size w w' := by
  obtain ⟨W, hW⟩ : ∃ W, w.alloc (.cells #[.int .i64 g.tick, .int .i64 g.g0, .int .i64 g.g1, .int .i64 g.next, .slice ua g.us.length cu] 65) = W := ⟨_, rfl⟩
  have hbW : Below w.heap.size w W := by rw [← hW]; exact (Below.refl _ _).alloc (Nat.le_refl _) _
  have kK : Blk W w.heap.size #[.int .i64 g.tick, .int .i64 g.g0, .int .i64 g.g1, .int .i64 g.next, .slice ua g.us.length cu] := by rw [← hW]; exact Blk.new w _ _
  have hsW := hbW.size
  obtain ⟨lK, cK, -⟩ := id kK
  have HFREE := Lib.hid hfree
  have HNIL := Lib.hid hnil
  have HU := Lib.hid hu
  have HFIT := Lib.hid hfit
  have HNEW := Lib.hid hnew
  have HW := Lib.hid hbW
  have KK := Lib.hid kK
  clear hu hfit hnew hfree hnil hbW kK
  go_enter Try.func68, Try.ntmps68
  go_upto_region 1 with fail
  try rw [hW]
  clear hW
  go_wp2_with fail
  refine (ncheck_any g ua cu HNEW.out HFREE.out hcu _ ((HU.out.below HW.out).mono hsW) HNIL.out hcap).mono ?_
  rintro e w1 ⟨rfl, b1⟩
  have HB1 : Hid (Below w.heap.size w w1) := Lib.hid (HW.out.trans (b1.mono hsW))
  have k1 := KK.out.call b1
  have hs1 := HB1.out.size
  obtain ⟨l1, c1, -⟩ := id k1
  have K1 := Lib.hid k1
  clear b1 k1 cK lK
  by_cases hfault : faultOf g = 0
  case neg =>
    rw [errV_pos _ hfault]
    have HBY : Hid (bytesOf true g = ([], faultOf g)) := Lib.hid (by show _ = _; unfold bytesOf; rw [if_pos hfault])
    have HFA := Lib.hid hfault
    clear hfault
    go_wp2_with fail
    go_ret2
    rw [HBY.out, errV_pos _ HFA.out]
    exact ⟨rfl, HB1.out⟩
  rw [hfault, errV_zero]
  have hg := (right_iff g).1 hfault
  have hfew := hg.few
  have hhead := hg.head
  have HBY : Hid (bytesOf true g = (frameL 78 (outL (newerN g)), 0)) := Lib.hid (by show _ = _; unfold bytesOf; rw [if_neg (by omega)]; rfl)
  have ht : 0 ≤ g.tick := by unfold headBad at hhead; omega
  have hlen := newerN_length g
  have hol := outL_length (newerN g)
  have hne : outL (newerN g) ≠ [] := outL_ne g.tick _ ht
  clear hfault hg hhead
  obtain ⟨V, hV⟩ : ∃ V, w1.alloc (.cells #[.pointer none, .slice none 0 0, .bool false] 194) = V := ⟨_, rfl⟩
  have hbV : Below w1.heap.size w1 V := by rw [← hV]; exact (Below.refl _ _).alloc (Nat.le_refl _) _
  have ob : OutB V w.heap.size w1.heap.size (.slice none 0 0) (u8V []) false := by rw [← hV]; exact outB_new w1 _ hs1
  have kV := K1.out.call hbV
  obtain ⟨lV, cV, -⟩ := id kV
  have hsV := hbV.size
  have HBV := Lib.hid hbV
  have OB := Lib.hid ob
  have HNE := Lib.hid hne
  clear hbV ob kV hne c1 l1
  go_upto_region 5 with fail
  try rw [hV]
  clear hV
  go_wp2_with fail
  refine (outnewer_any g w.heap.size w1.heap.size [] false _ ua cu V OB.out (by simp) (by omega) HFIT.out (HU.out.below (HB1.out.trans (HBV.out.mono hs1))) (by omega)).mono ?_
  rintro e w2 ⟨rfl, ⟨bv, ob2⟩, r2⟩
  rw [List.nil_append] at ob2
  have OB2 := Lib.hid ob2
  have R2 := Lib.hid r2
  have hs2 := r2.below.size
  have l2 : w1.heap.size < w2.heap.size := by obtain ⟨p, -, k⟩ := ob2.cell; exact k.lt
  clear ob2 r2 cV lV
  go_wp2_with fail
  refine (string_any w.heap.size w1.heap.size bv _ _ w2 OB2.out HNE.out).mono ?_
  rintro e w3 ⟨rfl, b3⟩
  have B3 := Lib.hid b3
  have hs3 := b3.size
  clear b3
  go_wp2_with fail
  refine (frame_any 78 (bstr (outL (newerN g))) (by rw [bstr_size]; omega) w3).mono ?_
  rintro e w4 ⟨rfl, b4⟩
  have B4 := Lib.hid b4
  clear b4
  rw [bstr_list]
  go_wp2_with fail
  go_ret2
  rw [HBY.out, errV_zero]
  exact ⟨rfl, ((((HB1.out.trans (HBV.out.mono hs1)).trans R2.out.below).trans B3.out).trans (B4.out.mono (by omega)))⟩

/-- What NewerOf hands back. -/
def NewerOfEnd (l : List UInt8) (w : World) (e : Ending) (w' : World) : Prop :=
  (stateF true l ≠ 0 → e = .returned (.tuple #[.agg #[.int .i64 0, .int .i64 0, .int .i64 0, .int .i64 0, .slice none 0 0], errV (stateF true l)])) ∧
  (stateF true l = 0 → ∃ ua cu, e = .returned (.tuple #[.agg #[.int .i64 (newerI (openL 78 l)).1.tick, .int .i64 (newerI (openL 78 l)).1.g0, .int .i64 (newerI (openL 78 l)).1.g1, .int .i64 (newerI (openL 78 l)).1.next, .slice ua (newerI (openL 78 l)).1.us.length cu], .nilIface]) ∧
    URow true w'.heap.size w' ua (newerI (openL 78 l)).1.us ∧ (ua = none → (newerI (openL 78 l)).1.us.length = 0 ∧ cu = 0) ∧ (newerI (openL 78 l)).1.us.length ≤ cu) ∧ Below w.heap.size w w'

set_option maxHeartbeats 6400000 in
set_option maxRecDepth 100000 in
theorem newerof_any (s : ByteArray) (hs : s.size ≤ 900000) (w : World) :
    Calls Try.prog 69 #[.string s] w (NewerOfEnd s.data.toList w) := by
  obtain ⟨l, hl⟩ : ∃ l, s.data.toList = l := ⟨_, rfl⟩
  have hll : l.length ≤ 900000 := by rw [← hl, ← Lib.size_eq]; exact hs
  have HO := Lib.hid (body_any 78 s hs)
  rw [hl] at HO ⊢
  clear hl
  obtain ⟨W, hW⟩ : ∃ W, w.alloc (.cells #[.int .i64 0, .int .i64 0, .int .i64 0, .int .i64 0, .slice none 0 0] 65) = W := ⟨_, rfl⟩
  have hbW : Below w.heap.size w W := by rw [← hW]; exact (Below.refl _ _).alloc (Nat.le_refl _) _
  have kR : Blk W w.heap.size #[.int .i64 0, .int .i64 0, .int .i64 0, .int .i64 0, .slice none 0 0] := by rw [← hW]; exact Blk.new w _ _
  have hsW := hbW.size
  have lR := kR.lt
  have HW := Lib.hid hbW
  have KR := Lib.hid kR
  clear hbW kR
  go_enter Try.func69, Try.ntmps69
  go_upto_region 1 with fail
  try rw [hW]
  clear hW
  go_wp2_with fail
  refine (HO.out W).mono ?_
  rintro e w1 ⟨S, rfl, hS, bS, b1⟩
  obtain ⟨st, hst⟩ : ∃ st, openL 78 l = st := ⟨_, rfl⟩
  have hstl : st.1.length ≤ 1000000 := by
    rw [← hst]
    unfold openL
    repeat' split
    all_goals (simp; try omega)
  rw [hst] at bS
  have HST := Lib.hid hst
  have BS := Lib.hid bS
  have K1 := Lib.hid (KR.out.call b1)
  have HB1 : Hid (Below w.heap.size w w1) := Lib.hid (HW.out.trans (b1.mono hsW))
  have hs1 := b1.size
  have lS1 := bS.lt
  clear bS b1 hst
  go_wp2_with fail
  refine (newer_in st S w1 BS.out hstl).mono ?_
  rintro e w2 ⟨ev, rfl, bS2, kp2, oe2⟩
  obtain ⟨r, hr⟩ : ∃ r, newerI st = r := ⟨_, rfl⟩
  have HR := Lib.hid hr
  rw [hr] at bS2 oe2 ⊢
  have hnew : r.1.new = true := by rw [← hr]; rfl
  have hfree : r.1.free = [] := by rw [← hr]; rfl
  have HFREE := Lib.hid hfree
  obtain ⟨ua, cu, rfl⟩ := own_slice oe2
  have hul := own_max oe2
  have loeB : ∀ b, (Value.slice ua r.1.us.length cu).ownBlock = some b → w1.heap.size ≤ b ∧ b < w2.heap.size := fun b hb => World.ownsRow.lt oe2 b hb
  have OE2 := Lib.hid oe2
  have LOE := Lib.hid loeB
  have HNEW := Lib.hid hnew
  have HB2 : Hid (Below w.heap.size w w2) := Lib.hid (HB1.out.trans (kp2.below (fun b hb => by omega) (by omega)))
  have hs2 := kp2.size
  have BS2 := Lib.hid bS2
  have K2 := Lib.hid (K1.out.kp kp2 (by omega))
  have hm : maxLen ≤ 9223372036854775807 := by unfold maxLen; decide
  clear hr kp2 oe2 bS2 loeB hnew hfree
  obtain ⟨V, hV⟩ : ∃ V, w2.alloc (.cells #[.int .i64 r.1.tick, .int .i64 r.1.g0, .int .i64 r.1.g1, .int .i64 r.1.next, .slice ua r.1.us.length cu] 65) = V := ⟨_, rfl⟩
  have hbV : Below w2.heap.size w2 V := by rw [← hV]; exact (Below.refl _ _).alloc (Nat.le_refl _) _
  have kV : Blk V w2.heap.size #[.int .i64 r.1.tick, .int .i64 r.1.g0, .int .i64 r.1.g1, .int .i64 r.1.next, .slice ua r.1.us.length cu] := by rw [← hV]; exact Blk.new w2 _ _
  have hsV := hbV.size
  have lV := kV.lt
  have KV := Lib.hid kV
  have KRV := Lib.hid (K2.out.call hbV)
  have BSV := Lib.hid (BS2.out.call hbV)
  have HBV := Lib.hid (HB2.out.trans (hbV.mono (by omega)))
  have OEV := Lib.hid (own_kp OE2.out (kp_of hbV (fun _ => False)) (fun _ _ x => x))
  clear kV hbV
  go_upto_region 3 with fail
  try rw [hV]
  clear hV
  go_wp2_with fail
  refine (end_in r.2 S V BSV.out).mono ?_
  rintro e w3 ⟨rfl, rfl⟩
  obtain ⟨f, hf⟩ : ∃ f, endI r.2 = f := ⟨_, rfl⟩
  rw [hf]
  have HF := Lib.hid hf
  have kr3 := KRV.out
  obtain ⟨lR3, cR3, fR3⟩ := id kr3
  clear hf kr3
  by_cases h0 : f = 0
  case neg =>
    rw [errV_pos _ h0]
    have HFA : Hid (stateF true l = f ∧ f ≠ 0) := Lib.hid ⟨by
      have e : endI (startI true (openL (kindB true) l)).2 = f := by
        show endI (newerI (openL 78 l)).2 = f
        rw [HST.out, HR.out, HF.out]
      unfold stateF
      rw [e, if_pos h0], h0⟩
    clear h0
    go_wp2_with fail
    refine bodyPost_ret (v := .tuple #[.agg #[.int .i64 0, .int .i64 0, .int .i64 0, .int .i64 0, .slice none 0 0], .iface 148 (.int .i64 f)]) (ret_cell2 Try.results69 rfl rfl (KRV.out.store5 rfl (.int .i64 0) (.int .i64 0) (.int .i64 0) (.int .i64 0) (.slice none 0 0)) Try.underlying65 rfl infoNewer) rfl ?_
    refine ⟨fun _ => by rw [HFA.out.1, errV_pos _ HFA.out.2], fun h => absurd (HFA.out.1.symm.trans h) HFA.out.2, ?_⟩
    iterate 5 (refine Below.setCell ?_ (by simp) _)
    exact HBV.out
  subst h0
  rw [errV_zero]
  obtain ⟨lV2, cV2, -⟩ := id KV.out
  go_wp2_with fail
  refine (ncheck_any r.1 ua cu HNEW.out HFREE.out (by omega) _ (units_row rfl OEV.out).1 (units_row rfl OEV.out).2.1 (units_row rfl OEV.out).2.2).mono ?_
  rintro e w4 ⟨rfl, b4⟩
  obtain ⟨f, hf⟩ : ∃ f, faultOf r.1 = f := ⟨_, rfl⟩
  rw [hf]
  have HSF : Hid (stateF true l = f) := Lib.hid (by
    have e : endI (startI true (openL (kindB true) l)).2 = 0 := by
      show endI (newerI (openL 78 l)).2 = 0
      rw [HST.out, HR.out, HF.out]
    have e2 : (startI true (openL (kindB true) l)).1 = r.1 := by
      show (newerI (openL 78 l)).1 = r.1
      rw [HST.out, HR.out]
    show stateF true l = f
    unfold stateF
    rw [e, e2, if_neg (by simp), hf])
  have HB4 := Lib.hid (HBV.out.trans (b4.mono (by omega)))
  have k4 := KRV.out.call b4
  obtain ⟨lR4, cR4, fR4⟩ := id k4
  have kv4 := KV.out.call b4
  obtain ⟨lV4, cV4, -⟩ := id kv4
  have K4 := Lib.hid k4
  have hs4 := b4.size
  have OE4 := Lib.hid (own_kp OEV.out (kp_of b4 (fun _ => False)) (fun _ _ x => x))
  clear b4 k4 kv4 hf cV2 cR3 fR3 lV2 lR3
  by_cases h0 : f = 0
  case neg =>
    rw [errV_pos _ h0]
    have HFA := Lib.hid h0
    clear h0
    go_wp2_with fail
    refine bodyPost_ret (v := .tuple #[.agg #[.int .i64 0, .int .i64 0, .int .i64 0, .int .i64 0, .slice none 0 0], .iface 148 (.int .i64 f)]) (ret_cell2 Try.results69 rfl rfl (K4.out.store5 rfl (.int .i64 0) (.int .i64 0) (.int .i64 0) (.int .i64 0) (.slice none 0 0)) Try.underlying65 rfl infoNewer) rfl ?_
    refine ⟨fun _ => by rw [HSF.out, errV_pos _ HFA.out], fun h => absurd (HSF.out.symm.trans h) HFA.out, ?_⟩
    iterate 5 (refine Below.setCell ?_ (by simp) _)
    exact HB4.out
  subst h0
  rw [errV_zero]
  go_wp2_with fail
  refine bodyPost_ret (v := .tuple #[.agg #[.int .i64 r.1.tick, .int .i64 r.1.g0, .int .i64 r.1.g1, .int .i64 r.1.next, .slice ua r.1.us.length cu], .nilIface]) (ret_cell2 Try.results69 rfl rfl (K4.out.store5 rfl (.int .i64 r.1.tick) (.int .i64 r.1.g0) (.int .i64 r.1.g1) (.int .i64 r.1.next) (.slice ua r.1.us.length cu)) Try.underlying65 rfl infoNewer) rfl ?_
  have XK := ((((((Kp.refl (fun b => b = w.heap.size) w4).andset ⟨w.heap.size, 0, none⟩ (.int .i64 r.1.tick) rfl).andset ⟨w.heap.size, 1, none⟩ (.int .i64 r.1.g0) rfl).andset ⟨w.heap.size, 2, none⟩ (.int .i64 r.1.g1) rfl).andset ⟨w.heap.size, 3, none⟩ (.int .i64 r.1.next) rfl).andset ⟨w.heap.size, 4, none⟩ (.slice ua r.1.us.length cu) rfl)
  unfold NewerOfEnd
  rw [HST.out, HR.out]
  refine ⟨fun h => absurd HSF.out h, fun _ => ⟨ua, cu, rfl, units_row rfl (own_kp OE4.out XK (fun b hb e => ?_))⟩, ?_⟩
  · have := (LOE.out b hb).1; omega
  · iterate 5 (refine Below.setCell ?_ (by simp) _)
    exact HB4.out
end Go.Proofs.Ytlfljlhppigejaa
