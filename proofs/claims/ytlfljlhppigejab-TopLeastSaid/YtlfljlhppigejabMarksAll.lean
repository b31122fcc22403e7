/-
  The walk of ferrymantop.marks.
-/
import Derived.Test.YtlfljlhppigejabTapeAll
import Derived.Test.YtlfljlhppigejabElderGame
import Derived.Test.YtlfljlhppigejabPlayAll
import Derived.Test.YtlfljlhppigejabViewAll
namespace Go.Proofs.Ytlfljlhppigejab
open Go.RowKit

def u64Cells (l : List Int) : List Value := l.map (Value.int .u64)
theorem infoU64 : ∃ i, Try.prog.info? 74 = some i ∧ i.zero = some (.int .u64 0) ∧ i.size = 1 ∧ i.bytes = 8 :=
  ⟨(Try.prog.info? 74).get (by kernel_rfl), by kernel_rfl, by kernel_rfl, by kernel_rfl, by kernel_rfl⟩

/-- Marks are handed back. -/
def MarksEnd (n : Nat) (w : World) (e : Ending) (w' : World) : Prop :=
  ∃ (A : List Int) (a : Option Addr) (c : Nat), e = .returned (.slice a n c) ∧ n ≤ c ∧ A.length = n ∧ Row w'.heap.size w' a n (fun k => .int .u64 (A.getD k 0)) ∧ Below w.heap.size w w'

theorem u64_at {w : World} {B n : Nat} {v : Value} {l : List Int} (hn : l.length = n) (h : w.ownsRow B 74 1 v n (u64Cells l)) : ∃ a c, v = .slice a n c ∧ n ≤ c ∧ Row w.heap.size w a n (fun k => .int .u64 (l.getD k 0)) := by
  subst hn
  rcases h.2 with ⟨h1, h2⟩ | ⟨f, cap, cur, h1, -, -, h4, -⟩
  · exact ⟨none, 0, by rw [h1, h2], by omega, fun k hk => by omega⟩
  · have hown := h
    subst h1
    refine ⟨_, cap, rfl, h4, ?_⟩
    intro k hk
    refine ⟨f, 0, rfl, (World.ownsRow.lt hown f rfl).2, ?_⟩
    have := World.ownsRow.cellAt hown k (by omega)
    rw [Nat.zero_add, this]
    unfold u64Cells
    rw [List.getElem?_map, List.getElem?_eq_getElem hk]
    simp [List.getD, hk]

/-- What marks does, as the law takes it. -/
def MarksHold : Prop := ∀ (g : G) (fa ua ta : Option Addr) (cf cu ct : Nat) (_ : g.new = false) (_ : g.free.length ≤ 100000) (_ : g.us.length ≤ 100000) (ts : List (List Cm)) (_ : ts.length ≤ 1000) (w : World)
    (_ : Row w.heap.size w fa g.free.length (fun k => .int .i64 (g.free.getD k 0))) (_ : URow false w.heap.size w ua g.us) (_ : TRow w.heap.size w ta ts) (_ : ts.length ≤ ct) (_ : ∀ n ∈ g.free, Fits64 n),
    Calls Try.prog 49 #[.agg #[.int .i64 g.tick, .int .i64 g.g0, .int .i64 g.g1, .int .i64 g.next, .slice fa g.free.length cf, .slice ua g.us.length cu, .slice ta ts.length ct]] w (MarksEnd (ts.length + 1) w)
end Go.Proofs.Ytlfljlhppigejab
namespace Go.Proofs.Ytlfljlhppigejab
open Go.RowKit

def SomeState (w : World) (e : Ending) (w' : World) : Prop :=
  ∃ (g : G) (fa ua : Option Addr) (cf cu : Nat) (err : Value), e = .returned (.tuple #[.agg #[.int .i64 g.tick, .int .i64 g.g0, .int .i64 g.g1, .int .i64 g.next, .slice fa g.free.length cf, .slice ua g.us.length cu], err]) ∧ g.new = false ∧ g.free.length ≤ 1000 ∧ g.us.length ≤ 1000 ∧
    Row w'.heap.size w' fa g.free.length (fun k => .int .i64 (g.free.getD k 0)) ∧ URow false w'.heap.size w' ua g.us ∧ (∀ n ∈ g.free, Fits64 n) ∧ Below w.heap.size w w'
theorem some_state {s : Nat × G} {w w' : World} {e : Ending} (hs : PlayOk s) (h : PlayEnd s w e w') : SomeState w e w' := by
  obtain ⟨hb, ⟨hne, rfl⟩ | ⟨hz, fv, ev, rfl, o1, o2⟩⟩ := h
  · exact ⟨zeroG false, none, none, 0, 0, errV s.1, rfl, rfl, by decide, by decide, fun k hk => absurd hk (Nat.not_lt_zero k), fun k hk => absurd hk (Nat.not_lt_zero k), fun n hn => (by cases hn), hb⟩
  · obtain ⟨fva, fvc, rfl, hrf⟩ := ints_at rfl o1
    obtain ⟨eva, evc, rfl, -, hre, -⟩ := URow.of_own o2
    have hr := hs.2 hz
    have h1 := hr.few
    have h2 := hr.unfree
    exact ⟨s.2, fva, eva, fvc, evc, .nilIface, rfl, hs.1, by omega, by omega, hrf, hre, free_range hr hs.1, hb⟩

def SomeView (w : World) (e : Ending) (w' : World) : Prop :=
  ∃ (tick g0 g1 : Int) (a : Option Addr) (c : Nat) (xs : List Sn) (err : Value), e = .returned (.tuple #[.agg #[.int .i64 tick, .int .i64 g0, .int .i64 g1, .slice a xs.length c], err]) ∧ xs.length ≤ 100000 ∧ SRow w'.heap.size w' a xs ∧ Below w.heap.size w w'
theorem some_view {g : G} {w w' : World} {e : Ending} (h : ViewEnd g w e w') : SomeView w e w' := by
  obtain ⟨hb, ⟨hne, rfl⟩ | ⟨hz, a, c, ys, rfl, hl, -, -, hr⟩⟩ := h
  · exact ⟨0, 0, 0, none, 0, [], _, rfl, by decide, fun k hk => absurd hk (Nat.not_lt_zero k), hb⟩
  · have h1 := ((right_iff g).1 hz).few
    exact ⟨g.tick, g.g0, g.g1, a, c, ys, .nilIface, by rw [hl], by omega, hr, hb⟩

set_option maxHeartbeats 6400000 in
set_option maxRecDepth 100000 in
theorem marks_any (g : G) (fa ua ta : Option Addr) (cf cu ct : Nat) (hnew : g.new = false) (hcf : g.free.length ≤ 100000) (hcu : g.us.length ≤ 100000) (ts : List (List Cm)) (hct : ts.length ≤ 1000) (w : World)
    (hf : Row w.heap.size w fa g.free.length (fun k => .int .i64 (g.free.getD k 0))) (hu : URow false w.heap.size w ua g.us) (ht : TRow w.heap.size w ta ts) (hcap : ts.length ≤ ct) (hfit : ∀ n ∈ g.free, Fits64 n) :
    Calls Try.prog 49 #[.agg #[.int .i64 g.tick, .int .i64 g.g0, .int .i64 g.g1, .int .i64 g.next, .slice fa g.free.length cf, .slice ua g.us.length cu, .slice ta ts.length ct]] w (MarksEnd (ts.length + 1) w) := by
  obtain ⟨W, hW⟩ : ∃ W, w.alloc (.cells #[.int .i64 g.tick, .int .i64 g.g0, .int .i64 g.g1, .int .i64 g.next, .slice fa g.free.length cf, .slice ua g.us.length cu, .slice ta ts.length ct] 29) = W := ⟨_, rfl⟩
  have hbW : Below w.heap.size w W := by rw [← hW]; exact (Below.refl _ _).alloc (Nat.le_refl _) _
  have k1 : Blk W w.heap.size #[.int .i64 g.tick, .int .i64 g.g0, .int .i64 g.g1, .int .i64 g.next, .slice fa g.free.length cf, .slice ua g.us.length cu, .slice ta ts.length ct] := by rw [← hW]; exact Blk.new w _ _
  have HF := Lib.hid hf
  have HU := Lib.hid hu
  have HT := Lib.hid ht
  have HFIT := Lib.hid hfit
  have HNEW := Lib.hid hnew
  have HW := Lib.hid hbW
  have K1 := Lib.hid k1
  have hsW := hbW.size
  clear hf hu ht hfit hnew hbW k1
  go_enter Try.func49, Try.ntmps49
  go_wp2_with fail
  try rw [hW]
  clear hW
  go_loopw [3, 4, 6, 8] (fun lv i _ _ wr => ∃ k : Nat, i = .int .i64 k ∧ k ≤ ts.length + 1 ∧ ((∃ A : List Int, A.length = k ∧ wr.ownsRow W.heap.size 74 1 lv k (u64Cells A)) ∧ Below W.heap.size W wr)) (fun _ i _ _ _ => (ts.length + 1 - intOf i).toNat)
  case atStart => exact ⟨0, rfl, by omega, ⟨[], rfl, World.ownsRow_nil _ _ _ _⟩, Below.refl _ _⟩
  case round =>
    obtain ⟨k, rfl, hk, ⟨A, hA, own⟩, hX⟩ := hrel
    have HX := Lib.hid hX
    have hszr := hX.size
    obtain ⟨l1, c1, -⟩ := id (K1.out.call hX)
    have hwr : Below w.heap.size w wr := HW.out.trans (hX.mono hsW)
    have HWR := Lib.hid hwr
    have OWN := Lib.hid own
    have HA := Lib.hid hA
    obtain ⟨lva, lvc, rfl⟩ := own_slice own
    clear hX hwr own hA
    have hki : (0 : Int) ≤ (k : Int) := by omega
    by_cases hlt : k ≤ ts.length
    · have dk : decide ((k : Int) ≤ (ts.length : Int)) = true := decide_eq_true (by omega)
      have hs0 := HWR.out.size
      go_wp2_with fail
      refine (play_any g fa ua ta cf cu ct HNEW.out hcf hcu ts (by unfold maxLen; omega) hcap k hlt wr ((HF.out.below HWR.out).mono hs0) ((HU.out.below HWR.out).mono hs0) ((HT.out.below HWR.out).mono hs0) HFIT.out).mono ?_
      intro e w1 hpe
      obtain ⟨g1, fa1, ua1, cf1, cu1, err1, rfl, hn1, hf1, hu1, rf1, ru1, ff1, b1⟩ := some_state (playF_ok HNEW.out _) hpe
      have HN1 := Lib.hid hn1
      have RF1 := Lib.hid rf1
      have RU1 := Lib.hid ru1
      have FF1 := Lib.hid ff1
      have B1 := Lib.hid b1
      have hs1 := b1.size
      clear hpe hn1 rf1 ru1 ff1 b1 c1
      have hbx : Below w1.heap.size w1 (w1.alloc (.cells #[.int .i64 g1.tick, .int .i64 g1.g0, .int .i64 g1.g1, .int .i64 g1.next, .slice fa1 g1.free.length cf1, .slice ua1 g1.us.length cu1] 26)) := (Below.refl _ _).alloc (Nat.le_refl _) _
      have HBX := Lib.hid hbx
      clear hbx
      go_wp2_with fail
      refine (view_any g1 fa1 ua1 cf1 cu1 HN1.out (by omega) (by omega) _ ((RF1.out.below HBX.out).mono HBX.out.size) ((RU1.out.below HBX.out).mono HBX.out.size) FF1.out).mono ?_
      intro e w2 hve
      obtain ⟨tick, g0, g1', a2, c2, xs, err2, rfl, hxl, hsr, b2⟩ := some_view hve
      have B2 := Lib.hid (HBX.out.trans (b2.mono HBX.out.size))
      have HSR := Lib.hid hsr
      have hs2 := B2.out.size
      clear hve hsr b2
      have hby : Below w2.heap.size w2 (w2.alloc (.cells #[.int .i64 tick, .int .i64 g0, .int .i64 g1', .slice a2 xs.length c2] 61)) := (Below.refl _ _).alloc (Nat.le_refl _) _
      have HBY := Lib.hid hby
      clear hby
      go_wp2_with fail
      refine (mark_any tick g0 g1' a2 c2 xs hxl _ ((HSR.out.below HBY.out).mono HBY.out.size)).mono ?_
      rintro e w3 ⟨m, rfl, b3⟩
      have b13 : Below wr.heap.size wr w3 := (B1.out.trans (B2.out.mono hs1)).trans ((HBY.out.trans (b3.mono HBY.out.size)).mono (by omega))
      have own3 := own_kp OWN.out (kp_of b13 (fun _ => False)) (fun _ _ x => x)
      obtain ⟨i1, hj0, hj1, hj2, hj3⟩ := infoU64
      have hbz : Below w3.heap.size w3 (w3.alloc (.cells #[.int .u64 m] 74)) := (Below.refl _ _).alloc (Nat.le_refl _) _
      have oB := own_kp own3 (kp_of hbz (fun _ => False)) (fun _ _ x => x)
      have hs13 := b13.size
      obtain ⟨g2, cap, w5, r5, own5, grow5, hat5, lt5⟩ := run_append_lies (P := Try.prog) (w3.alloc (.cells #[.int .u64 m] 74)) 96 96 W.heap.size 74 i1 _ 1 8 Try.underlying96 hj0 hj1 hj2 hj3 rfl (by omega) (.slice lva k lvc) k (u64Cells A) oB ⟨w3.heap.size, 0, none⟩ 1 1 [.int .u64 m] rfl (World.news_of_block (cs := #[.int .u64 m]) (t := 74) (fr := (0, 0)) (heap_alloc_new w3 _)) (by intro q hq; simp at hq; rw [hq]; rfl) (by omega) (by unfold maxLen; omega) (by omega) (by have := hbz.size; omega) (w3.heap.size + 1) (by simp)
      have HB13 := Lib.hid b13
      have HBZ := Lib.hid hbz
      have OWN5 := Lib.hid own5
      have KG := Lib.hid (Kp.grown grow5)
      have LVB := Lib.hid (fun b hb => (World.ownsRow.lt OWN.out b hb).1 : ∀ b, (Value.slice lva k lvc).ownBlock = some b → W.heap.size ≤ b)
      clear hj0 hj1 hj2 hj3 hbz oB own5 grow5 hat5 own3 b13 b3
      go_wp2_with (at_builtin; refine list_run_append (by rfl) _ _ _ _ (by rfl) (by rfl) (by rfl) (by rfl) r5 ?_)
      go_roundw
      case rel =>
        refine ⟨k + 1, by go_num, by omega, ⟨A ++ [m], by rw [List.length_append, HA.out]; rfl, ?_⟩, ?_⟩
        · have : u64Cells (A ++ [m]) = u64Cells A ++ [.int .u64 m] := by simp [u64Cells]
          rw [this]
          exact OWN5.out
        · exact HX.out.trans ((HB13.out.trans (HBZ.out.mono hs13)).mono hszr |>.trans (KG.out.below (fun b hb => LVB.out b hb.symm) (by have := HBZ.out.size; omega)))
      case measure => simp [intOf]; omega
    · obtain rfl : k = ts.length + 1 := by omega
      have dk : decide ((((ts.length + 1 : Nat)) : Int) ≤ (ts.length : Int)) = false := decide_eq_false (by omega)
      obtain ⟨a, c, he, hcp, hr⟩ := u64_at HA.out OWN.out
      have HR := Lib.hid hr
      have HE := Lib.hid he
      clear hr he
      go_wp2_with fail
      go_ret
      exact ⟨A, a, c, ret1 HE.out, hcp, HA.out, HR.out, HWR.out⟩
theorem marks_hold : MarksHold := fun g fa ua ta cf cu ct h1 h2 h3 ts h4 w h5 h6 h7 h8 h9 => marks_any g fa ua ta cf cu ct h1 h2 h3 ts h4 w h5 h6 h7 h8 h9
end Go.Proofs.Ytlfljlhppigejab
