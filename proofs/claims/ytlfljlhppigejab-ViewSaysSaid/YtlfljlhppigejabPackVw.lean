/-
  What a view tells of each that is there; its row in memory. The memory of the law ViewSays.
-/
import Derived.Test.YtlfljlhppigejabPackBase
import Derived.Sort.Statements
import Derived.Test.YtlfljlhppigejabElderGame
import Derived.Test.YtlfljlhppigejabPackPure
import Derived.Test.YtlfljlhppigejabPackMix
import Derived.BigQuiet
import Derived.Deep.QuietTactic
namespace Go.Proofs.Ytlfljlhppigejab
open Go.RowKit Go.Sort

structure Sn where
  x : Int
  y : Int
  owner : Int
  kind : Int
  hp : Int
  does : Int
  gx : Int
  gy : Int
  tx : Int
  ty : Int
  deriving DecidableEq, Inhabited
def encSn (s : Sn) : List Value := [.int .i64 s.x, .int .i64 s.y, .int .i64 s.owner, .int .i64 s.kind, .int .i64 s.hp, .int .i64 s.does, .int .i64 s.gx, .int .i64 s.gy, .int .i64 s.tx, .int .i64 s.ty]
def ltYX (y x y' x' : Int) : Bool := if y != y' then decide (y < y') else decide (x < x')
def ltSn (a b : Sn) : Bool := ltYX a.y a.x b.y b.x
theorem ltYX_iff (y x y' x' : Int) : ltYX y x y' x' = true ↔ y < y' ∨ (y = y' ∧ x < x') := by
  unfold ltYX
  by_cases h : y = y'
  · subst h; simp
  · have : (y != y') = true := by simp [h]
    rw [if_pos this]
    simp [h]
theorem ltSn_iff (a b : Sn) : ltSn a b = true ↔ a.y < b.y ∨ (a.y = b.y ∧ a.x < b.x) := ltYX_iff _ _ _ _
theorem ltSn_not (a b : Sn) : ltSn a b = false ↔ ¬ (a.y < b.y ∨ (a.y = b.y ∧ a.x < b.x)) := by
  rw [← ltSn_iff, Bool.not_eq_true]
theorem swo_ltSn : SWO ltSn := by
  refine ⟨fun x => (ltSn_not x x).2 (by omega), fun x y z h1 h2 => ?_, fun x y z h1 h2 => ?_⟩
  · rw [ltSn_iff] at *; omega
  · rw [ltSn_not] at *; omega
end Go.Proofs.Ytlfljlhppigejab
namespace Go.Proofs.Ytlfljlhppigejab
open Go.RowKit

/-- Those that a view tells lie from a on. -/
def SRow (B : Nat) (w : World) (a : Option Addr) (xs : List Sn) : Prop :=
  ∀ i, i < xs.length → ∃ b o, a = some ⟨b, o, none⟩ ∧ b < B ∧ ∀ j, j < 10 → w.cell? ⟨b, o + i * 10 + j, none⟩ = (encSn (xs.getD i default))[j]?
theorem SRow.below {B : Nat} {w w' : World} {a : Option Addr} {xs : List Sn} (h : SRow B w a xs) (hb : Below B w w') : SRow B w' a xs :=
  fun i hi => let ⟨b, o, h1, h2, h3⟩ := h i hi; ⟨b, o, h1, h2, fun j hj => (hb.cell (p := ⟨b, _, none⟩) h2).trans (h3 j hj)⟩
theorem SRow.mono {B B' : Nat} {w : World} {a : Option Addr} {xs : List Sn} (h : SRow B w a xs) (hb : B ≤ B') : SRow B' w a xs :=
  fun i hi => let ⟨b, o, h1, h2, h3⟩ := h i hi; ⟨b, o, h1, Nat.lt_of_lt_of_le h2 hb, h3⟩
theorem SRow.get {B : Nat} {w : World} {a : Option Addr} {xs : List Sn} (h : SRow B w a xs) (i : Nat) (hi : i < xs.length) (s : Sn) (hs : xs.getD i default = s) :
    ∃ b o, a = some ⟨b, o, none⟩ ∧ b < B ∧ w.cell? ⟨b, o + i * 10, none⟩ = some (.int .i64 s.x) ∧ w.cell? ⟨b, o + i * 10 + 1, none⟩ = some (.int .i64 s.y) ∧ w.cell? ⟨b, o + i * 10 + 2, none⟩ = some (.int .i64 s.owner) ∧
      w.cell? ⟨b, o + i * 10 + 3, none⟩ = some (.int .i64 s.kind) ∧ w.cell? ⟨b, o + i * 10 + 4, none⟩ = some (.int .i64 s.hp) ∧ w.cell? ⟨b, o + i * 10 + 5, none⟩ = some (.int .i64 s.does) ∧ w.cell? ⟨b, o + i * 10 + 6, none⟩ = some (.int .i64 s.gx) ∧
      w.cell? ⟨b, o + i * 10 + 7, none⟩ = some (.int .i64 s.gy) ∧ w.cell? ⟨b, o + i * 10 + 8, none⟩ = some (.int .i64 s.tx) ∧ w.cell? ⟨b, o + i * 10 + 9, none⟩ = some (.int .i64 s.ty) := by
  obtain ⟨b, o, h1, h2, h3⟩ := h i hi
  rw [hs] at h3
  exact ⟨b, o, h1, h2, h3 0 (by decide), h3 1 (by decide), h3 2 (by decide), h3 3 (by decide), h3 4 (by decide), h3 5 (by decide), h3 6 (by decide), h3 7 (by decide), h3 8 (by decide), h3 9 (by decide)⟩

def seenAll (xs : List Sn) : List Value := xs.flatMap encSn
theorem encSn_length (x : Sn) : (encSn x).length = 10 := rfl
theorem seenAll_append (a b : List Sn) : seenAll (a ++ b) = seenAll a ++ seenAll b := by simp [seenAll]
theorem seenAll_get (us : List Sn) : ∀ (i j : Nat), i < us.length → j < 10 → (seenAll us)[i * 10 + j]? = (encSn (us.getD i default))[j]? := by
  unfold seenAll
  induction us with
  | nil => intro i j h; simp at h
  | cons u us ih =>
    intro i j hi hj
    rw [List.flatMap_cons]
    cases i with
    | zero =>
      rw [Nat.zero_mul, Nat.zero_add, List.getElem?_append_left (by rw [encSn_length]; exact hj)]
      rfl
    | succ i =>
      rw [List.getElem?_append_right (by rw [encSn_length]; omega), encSn_length, show (i + 1) * 10 + j - 10 = i * 10 + j by omega, ih i j (by simpa using hi) hj]
      rfl
theorem encSn_one (x : Sn) : ∀ v ∈ encSn x, v.oneCell' = true := by
  intro v hv
  unfold encSn at hv
  simp at hv
  rcases hv with rfl | rfl | rfl | rfl | rfl | rfl | rfl | rfl | rfl | rfl <;> rfl
theorem SRow.of_own {B : Nat} {w : World} {v : Value} {us : List Sn} (h : w.ownsRow B 136 10 v us.length (seenAll us)) : ∃ a c, v = .slice a us.length c ∧ us.length ≤ maxLen ∧ SRow w.heap.size w a us ∧ ∀ b, v.ownBlock = some b → a = some ⟨b, 0, none⟩ := by
  rcases h.2 with ⟨h1, h2⟩ | ⟨g, cap, cur, h1, -, -, h4, h5, -⟩
  · refine ⟨none, 0, by rw [h1, h2], by rw [h2]; simp [maxLen], fun i hi => by omega, ?_⟩
    intro b hb
    rw [h1] at hb
    cases hb
  · subst h1
    refine ⟨_, cap, rfl, by omega, ?_, ?_⟩
    · intro i hi
      refine ⟨g, 0, rfl, (World.ownsRow.lt h g rfl).2, fun j hj => ?_⟩
      have := World.ownsRow.cellAt h (i * 10 + j) (by omega)
      rw [seenAll_get us i j hi hj] at this
      rw [show 0 + i * 10 + j = i * 10 + j from by omega]
      exact this
    · intro b hb
      cases hb
      rfl
end Go.Proofs.Ytlfljlhppigejab
namespace Go.Proofs.Ytlfljlhppigejab
open Go.RowKit

/-- A view lies in p. -/
structure VV (x : World) (p : Nat) (t p0 p1 : Int) (a : Option Addr) (c : Nat) (L : List Sn) : Prop where
  blk : Blk x p #[.int .i64 t, .int .i64 p0, .int .i64 p1, .slice a L.length c]
  row : SRow x.heap.size x a L
theorem VV.call {x y : World} {p : Nat} {t p0 p1 : Int} {a : Option Addr} {c : Nat} {L : List Sn} (H : VV x p t p0 p1 a c L) (hb : Below x.heap.size x y) : VV y p t p0 p1 a c L :=
  ⟨H.blk.call hb, (H.row.below hb).mono hb.size⟩
theorem VV.new {x : World} {t p0 p1 : Int} {a : Option Addr} {c : Nat} {L : List Sn} (r : SRow x.heap.size x a L) (T : TypeId) : VV (x.alloc (.cells #[.int .i64 t, .int .i64 p0, .int .i64 p1, .slice a L.length c] T)) x.heap.size t p0 p1 a c L :=
  have hb : Below x.heap.size x (x.alloc (.cells #[.int .i64 t, .int .i64 p0, .int .i64 p1, .slice a L.length c] T)) := (Below.refl _ _).alloc (Nat.le_refl _) _
  ⟨Blk.new _ _ _, (r.below hb).mono hb.size⟩
/-- The law's own memory: both states and both views as they were handed in. -/
structure HoldV (w x : World) (g h : G) (fa ua va aa ba : Option Addr) (cf cu cv ca cb : Nat) (ta a0 a1 tb b0 b1 : Int) (xs ys : List Sn) : Prop where
  bel : Below w.heap.size w x
  kE : Blk x w.heap.size #[.int .i64 g.tick, .int .i64 g.g0, .int .i64 g.g1, .int .i64 g.next, .slice fa g.free.length cf, .slice ua g.us.length cu]
  kN : Blk x (w.heap.size + 1) #[.int .i64 h.tick, .int .i64 h.g0, .int .i64 h.g1, .int .i64 h.next, .slice va h.us.length cv]
  wa : VV x (w.heap.size + 2) ta a0 a1 aa ca xs
  wb : VV x (w.heap.size + 3) tb b0 b1 ba cb ys
  rf : Row x.heap.size x fa g.free.length (fun k => .int .i64 (g.free.getD k 0))
  ru : URow false x.heap.size x ua g.us
  rv : URow true x.heap.size x va h.us
theorem HoldV.call {w x y : World} {g h : G} {fa ua va aa ba : Option Addr} {cf cu cv ca cb : Nat} {ta a0 a1 tb b0 b1 : Int} {xs ys : List Sn} (H : HoldV w x g h fa ua va aa ba cf cu cv ca cb ta a0 a1 tb b0 b1 xs ys) (hb : Below x.heap.size x y) : HoldV w y g h fa ua va aa ba cf cu cv ca cb ta a0 a1 tb b0 b1 xs ys :=
  ⟨H.bel.trans (hb.mono H.bel.size), H.kE.call hb, H.kN.call hb, H.wa.call hb, H.wb.call hb, (H.rf.below hb).mono hb.size, (H.ru.below hb).mono hb.size, (H.rv.below hb).mono hb.size⟩
theorem HoldV.start {w : World} {g h : G} {fa ua va aa ba : Option Addr} {cf cu cv ca cb : Nat} {ta a0 a1 tb b0 b1 : Int} {xs ys : List Sn} (TE TN TV : TypeId) (rf : Row w.heap.size w fa g.free.length (fun k => .int .i64 (g.free.getD k 0))) (ru : URow false w.heap.size w ua g.us) (rv : URow true w.heap.size w va h.us) (ra : SRow w.heap.size w aa xs) (rb : SRow w.heap.size w ba ys) :
    HoldV w ((((w.alloc (.cells #[.int .i64 g.tick, .int .i64 g.g0, .int .i64 g.g1, .int .i64 g.next, .slice fa g.free.length cf, .slice ua g.us.length cu] TE)).alloc (.cells #[.int .i64 h.tick, .int .i64 h.g0, .int .i64 h.g1, .int .i64 h.next, .slice va h.us.length cv] TN)).alloc (.cells #[.int .i64 ta, .int .i64 a0, .int .i64 a1, .slice aa xs.length ca] TV)).alloc (.cells #[.int .i64 tb, .int .i64 b0, .int .i64 b1, .slice ba ys.length cb] TV)) g h fa ua va aa ba cf cu cv ca cb ta a0 a1 tb b0 b1 xs ys := by
  have e1 : Below w.heap.size w (w.alloc (.cells #[.int .i64 g.tick, .int .i64 g.g0, .int .i64 g.g1, .int .i64 g.next, .slice fa g.free.length cf, .slice ua g.us.length cu] TE)) := (Below.refl _ _).alloc (Nat.le_refl _) _
  have k1 : Blk (w.alloc (.cells #[.int .i64 g.tick, .int .i64 g.g0, .int .i64 g.g1, .int .i64 g.next, .slice fa g.free.length cf, .slice ua g.us.length cu] TE)) w.heap.size #[.int .i64 g.tick, .int .i64 g.g0, .int .i64 g.g1, .int .i64 g.next, .slice fa g.free.length cf, .slice ua g.us.length cu] := Blk.new w _ _
  obtain ⟨w1, h1⟩ : ∃ x, w.alloc (.cells #[.int .i64 g.tick, .int .i64 g.g0, .int .i64 g.g1, .int .i64 g.next, .slice fa g.free.length cf, .slice ua g.us.length cu] TE) = x := ⟨_, rfl⟩
  have s1 : w1.heap.size = w.heap.size + 1 := by rw [← h1]; simp
  rw [h1] at e1 k1 ⊢
  have e2 : Below w1.heap.size w1 (w1.alloc (.cells #[.int .i64 h.tick, .int .i64 h.g0, .int .i64 h.g1, .int .i64 h.next, .slice va h.us.length cv] TN)) := (Below.refl _ _).alloc (Nat.le_refl _) _
  have k2 : Blk (w1.alloc (.cells #[.int .i64 h.tick, .int .i64 h.g0, .int .i64 h.g1, .int .i64 h.next, .slice va h.us.length cv] TN)) w1.heap.size #[.int .i64 h.tick, .int .i64 h.g0, .int .i64 h.g1, .int .i64 h.next, .slice va h.us.length cv] := Blk.new w1 _ _
  obtain ⟨w2, h2⟩ : ∃ x, w1.alloc (.cells #[.int .i64 h.tick, .int .i64 h.g0, .int .i64 h.g1, .int .i64 h.next, .slice va h.us.length cv] TN) = x := ⟨_, rfl⟩
  have s2 : w2.heap.size = w.heap.size + 2 := by rw [← h2]; simp; omega
  rw [h2] at e2 k2 ⊢
  have e3 : Below w2.heap.size w2 (w2.alloc (.cells #[.int .i64 ta, .int .i64 a0, .int .i64 a1, .slice aa xs.length ca] TV)) := (Below.refl _ _).alloc (Nat.le_refl _) _
  have r3 := (((ra.below e1).mono e1.size).below e2).mono e2.size
  have v3 : VV (w2.alloc (.cells #[.int .i64 ta, .int .i64 a0, .int .i64 a1, .slice aa xs.length ca] TV)) w2.heap.size ta a0 a1 aa ca xs := VV.new r3 TV
  obtain ⟨w3, h3⟩ : ∃ x, w2.alloc (.cells #[.int .i64 ta, .int .i64 a0, .int .i64 a1, .slice aa xs.length ca] TV) = x := ⟨_, rfl⟩
  have s3 : w3.heap.size = w.heap.size + 3 := by rw [← h3]; simp; omega
  rw [h3] at e3 v3 ⊢
  have e4 : Below w3.heap.size w3 (w3.alloc (.cells #[.int .i64 tb, .int .i64 b0, .int .i64 b1, .slice ba ys.length cb] TV)) := (Below.refl _ _).alloc (Nat.le_refl _) _
  have r4 := (((((rb.below e1).mono e1.size).below e2).mono e2.size).below e3).mono e3.size
  have v4 : VV (w3.alloc (.cells #[.int .i64 tb, .int .i64 b0, .int .i64 b1, .slice ba ys.length cb] TV)) w3.heap.size tb b0 b1 ba cb ys := VV.new r4 TV
  obtain ⟨w4, h4⟩ : ∃ x, w3.alloc (.cells #[.int .i64 tb, .int .i64 b0, .int .i64 b1, .slice ba ys.length cb] TV) = x := ⟨_, rfl⟩
  rw [h4] at e4 v4 ⊢
  have bb : Below w.heap.size w w4 := (e1.trans (e2.mono e1.size)).trans ((e3.mono (by omega)).trans (e4.mono (by omega)))
  rw [s1] at k2
  rw [s2] at v3
  rw [s3] at v4
  exact ⟨bb, ((k1.call e2).call e3).call e4, (k2.call e3).call e4, v3.call e4, v4, (rf.below bb).mono bb.size, (ru.below bb).mono bb.size, (rv.below bb).mono bb.size⟩
end Go.Proofs.Ytlfljlhppigejab
